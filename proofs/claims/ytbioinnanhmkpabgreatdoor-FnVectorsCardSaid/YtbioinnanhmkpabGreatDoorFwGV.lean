/- Functions of the program: what each computes, and that it computes just that. -/
import Derived.Test.YtbioinnanhmkpabGreatDoorFwTy
import Derived.Test.YtbioinnanhmkpabGreatDoorFwH
import Derived.Test.YtbioinnanhmkpabGreatDoorFwV
import Derived.Test.YtbioinnanhmkpabGreatDoorFwMK
import Derived.Test.YtbioinnanhmkpabGreatDoorFwLB
import Derived.Test.YtbioinnanhmkpabGreatDoorFwSh
import Derived.Test.YtbioinnanhmkpabGreatDoorFwLX
import Derived.Test.YtbioinnanhmkpabGreatDoorFwHx
import Derived.Test.YtbioinnanhmkpabGreatDoorFwLS
import Derived.Test.YtbioinnanhmkpabGreatDoorFwPx
import Derived.Test.YtbioinnanhmkpabGreatDoorProg
import Derived.KernelRfl
namespace Go.Fw
open Go Go.Proofs
noncomputable section
set_option maxRecDepth 10000

/-! laws.b10Long -/
def laws_b10Long (_K : Nat) (a0 : (List Int)) (a1 : (List Int)) : Option (Bool) :=
  (ite2 ((decide ((a0.length : Int) > (1048576 : Int)))) (some true) (some (decide ((a1.length : Int) > (1048576 : Int))))).bind fun j2 => some j2

theorem ok_laws_b10Long (K : Nat) (a0 : (List Int)) (a1 : (List Int)) (o : (Bool)) (h : laws_b10Long K a0 a1 = some o) : CallOK Tryz.prog 4 [.one (sl 1 (csI .u8) a0), .one (sl 1 (csI .u8) a1)] [.one (.bool o)] := by
  refine callOK_of_AW Tryz.func4 rfl (by kernel_rfl) (Nat.le_of_ble_eq_true (by kernel_rfl)) ?_
  intro w0
  unfold laws_b10Long at h
  refine AW.sA ⟨[(0, (vc (sl 1 (csI .u8) a0))), (1, (vc (sl 1 (csI .u8) a1)))], []⟩ (Tt ∧ Tt) [] [0, 1] [] ⟨tr, tr⟩ ?_
  refine AW.seq ?_
  obtain ⟨j2, e3, h⟩ := bind_some h
  refine AW.join1 (s2 := ⟨[(4, (vB j2))], []⟩) ?_ ?_
  · rcases ite2_cases e3 with ⟨b1, e3⟩ | ⟨b1, e3⟩
    · replace e3 := some_eq e3
      subst e3
      exact AW.rA ⟨[(4, (vB true))], []⟩ (Tt ∧ T2 ((Tt ∧ (decide ((a0.length : Int) > (1048576 : Int))) = true) ∧ Tt ∧ T4 Tt)) [.no, .no, .no, .dec true] [4] [] ⟨tr, tr, tr, ⟨tr, b1⟩, tr, tr, tr, tr, tr, tr⟩ ⟨rfl, rfl⟩
    · replace e3 := some_eq e3
      subst e3
      exact AW.rA ⟨[(4, (vB (decide ((a1.length : Int) > (1048576 : Int)))))], []⟩ (Tt ∧ T2 ((Tt ∧ (decide ((a0.length : Int) > (1048576 : Int))) = false) ∧ Tt ∧ T4 Tt)) [.no, .no, .no, .dec false] [4] [] ⟨tr, tr, tr, ⟨tr, b1⟩, tr, tr, tr, tr, tr, tr⟩ ⟨rfl, rfl⟩
  refine thenQ_normal ?_
  refine AW.ret ?_
  replace h := some_eq h
  subst h
  exact ⟨.inr rfl, retOK_of [(.one (.c (.bool j2)))] (by kernel_rfl) ⟨⟨rfl, tr⟩, tr⟩ (of_decide_eq_true (by kernel_rfl))⟩

/-! spec.l00From -/
theorem mk_spec_l00From : MkOK Tryz.prog 21 50 [(.i64, 0), (.u64, 0)] := by
  refine mkOK_of Tryz.func21 rfl (by kernel_rfl) fun w ad n cap => ?_
  refine wp_seq (wp_region_lit (wpList_val (x := (.pointer none)) (w' := w) rfl (by kernel_rfl) (wpList_nil ?_)))
  refine wp_seq (wp_region_lit (wpList_val (x := (.slice ad n cap)) (w' := w) rfl (by kernel_rfl) (wpList_val (x := (.agg #[(.slice ad n cap), .int .i64 0, .int .u64 0])) (w' := w) rfl (by kernel_rfl) (wpList_val (x := (.pointer (some ⟨w.heap.size, 0, none⟩))) (w' := (w.alloc (.cells #[(.slice ad n cap), .int .i64 0, .int .u64 0] 50))) rfl (by kernel_rfl) (wpList_val (x := (.pointer (some ⟨w.heap.size, 0, none⟩))) (w' := (w.alloc (.cells #[(.slice ad n cap), .int .i64 0, .int .u64 0] 50))) rfl (by kernel_rfl) (wpList_nil ?_))))))
  exact wp_ret ⟨rfl, (.pointer (some ⟨w.heap.size, 0, none⟩)), (by kernel_rfl), _, rfl, rfl, rfl⟩



/-! (*spec.l00Src).next -/
def spec_l00Src_next (_K : Nat) (a0 : l00Src) : Option (Int × Int × Int) :=
  ite2 ((decide (a0.at_ < (a0.code.length : Int)))) (chk (0 ≤ a0.at_ ∧ a0.at_ < (a0.code.length : Int)) (ite2 ((decide ((IntKind.i64.wrap (a0.at_ + (1 : Int))) ≤ (a0.code.length : Int)))) (some ((IntKind.i64.wrap (a0.code.getD a0.at_.toNat default)), (IntKind.i64.wrap (a0.at_ + (1 : Int))), (IntKind.u64.wrap ((IntKind.u64.wrap ((IntKind.u64.wrap (a0.seed * (6364136223846793005 : Int))) + (IntKind.u64.wrap (IntKind.i64.wrap (a0.code.getD a0.at_.toNat default))))) + (1442695040888963407 : Int))))) (chk (0 ≤ (40 : Int)) (some ((IntKind.i64.wrap (bits .and .u64 ((IntKind.u64.wrap ((IntKind.u64.wrap ((IntKind.u64.wrap (a0.seed * (6364136223846793005 : Int))) + (IntKind.u64.wrap (IntKind.i64.wrap (a0.code.getD a0.at_.toNat default))))) + (1442695040888963407 : Int))).fdiv (2 ^ (min (40 : Int).toNat (IntKind.bits .u64)))) (255 : Int))), (IntKind.i64.wrap (a0.at_ + (1 : Int))), (IntKind.u64.wrap ((IntKind.u64.wrap ((IntKind.u64.wrap (a0.seed * (6364136223846793005 : Int))) + (IntKind.u64.wrap (IntKind.i64.wrap (a0.code.getD a0.at_.toNat default))))) + (1442695040888963407 : Int)))))))) (ite2 ((decide ((IntKind.i64.wrap (a0.at_ + (1 : Int))) ≤ (a0.code.length : Int)))) (some ((0 : Int), (IntKind.i64.wrap (a0.at_ + (1 : Int))), (IntKind.u64.wrap ((IntKind.u64.wrap ((IntKind.u64.wrap (a0.seed * (6364136223846793005 : Int))) + (IntKind.u64.wrap (0 : Int)))) + (1442695040888963407 : Int))))) (chk (0 ≤ (40 : Int)) (some ((IntKind.i64.wrap (bits .and .u64 ((IntKind.u64.wrap ((IntKind.u64.wrap ((IntKind.u64.wrap (a0.seed * (6364136223846793005 : Int))) + (IntKind.u64.wrap (0 : Int)))) + (1442695040888963407 : Int))).fdiv (2 ^ (min (40 : Int).toNat (IntKind.bits .u64)))) (255 : Int))), (IntKind.i64.wrap (a0.at_ + (1 : Int))), (IntKind.u64.wrap ((IntKind.u64.wrap ((IntKind.u64.wrap (a0.seed * (6364136223846793005 : Int))) + (IntKind.u64.wrap (0 : Int)))) + (1442695040888963407 : Int)))))))

theorem ok_spec_l00Src_next (K : Nat) (a0 : l00Src) (o : (Int × Int × Int)) (h : spec_l00Src_next K a0 = some o) : MutOK Tryz.prog 30 [(.box 3 (fun j => [true, false, false].getD j true) (fun j => (cs_l00Src a0).getD j .nilptr) (fun j => [.nilptr, (.int .i64 o.2.1), (.int .u64 o.2.2)].getD j .nilptr))] [.one (.int .i64 o.1)] := by
  refine mutOK_of_AW 1 Tryz.func30 rfl (by kernel_rfl) (Nat.le_of_ble_eq_true (by kernel_rfl)) (by kernel_rfl) (by kernel_rfl) ?_
  intro w0 K0 v0 s0
  unfold spec_l00Src_next at h
  refine AW.weak (s' := ⟨[(0, (vp 0 0))], [(0, (.box [(.fx 0 0 (sl 1 (csI .u8) a0.code)), (cI a0.at_), (.c (.int .u64 a0.seed))]))]⟩) (subUnfx 0 [1, 2] (by kernel_rfl)) ?_
  refine AW.sC (Tt ∧ Tt) [] [0] [0] ⟨tr, tr⟩ ?_
  refine AW.sA ⟨[(0, (vp 0 0)), (3, (vI (0 : Int)))], [(0, (.box [(.fx 0 0 (sl 1 (csI .u8) a0.code)), (cI a0.at_), (.c (.int .u64 a0.seed))]))]⟩ (Tt ∧ Tt) [] [0, 3] [0] ⟨tr, tr⟩ ?_
  refine AW.seq ?_
  refine AW.seq (AW.dA ⟨[(0, (vp 0 0)), (3, (vI (0 : Int))), (13, (vB (decide (a0.at_ < (a0.code.length : Int)))))], [(0, (.box [(.fx 0 0 (sl 1 (csI .u8) a0.code)), (cI a0.at_), (.c (.int .u64 a0.seed))]))]⟩ ((T2 (T4 (T4 Tt))) ∧ (Tt)) 10 [] [0, 3, 13] [0] ⟨⟨tr, tr, tr, tr, tr, tr, tr, tr, tr, tr, tr⟩, tr⟩ (thenQ_normal ?_))
  rcases ite2_cases h with ⟨b1, h⟩ | ⟨b1, h⟩
  · refine AW.cond_t rfl b1 ?_
    obtain ⟨c2, h⟩ := chk_some h
    refine AW.dA ⟨[(0, (vp 0 0)), (3, (vI (IntKind.i64.wrap (a0.code.getD a0.at_.toNat default))))], [(0, (.box [(.fx 0 0 (sl 1 (csI .u8) a0.code)), (cI a0.at_), (.c (.int .u64 a0.seed))]))]⟩ ((T4 (T4 ((0 ≤ a0.at_ ∧ a0.at_ < (a0.code.length : Int)) ∧ Tt ∧ T2 Tt))) ∧ (Tt)) 12 [] [0, 3] [0] ⟨⟨tr, tr, tr, tr, tr, tr, tr, tr, c2, tr, tr, tr, tr⟩, tr⟩ ?_
    refine thenQ_normal ?_
    refine AW.sC (T4 (T4 Tt)) [] [0, 3] [0] ⟨tr, tr, tr, tr, tr, tr, tr, tr, tr⟩ ?_
    refine AW.sA ⟨[(0, (vp 0 0)), (3, (vI (IntKind.i64.wrap (a0.code.getD a0.at_.toNat default))))], [(0, (.box [(.fx 0 0 (sl 1 (csI .u8) a0.code)), (cI (IntKind.i64.wrap (a0.at_ + (1 : Int)))), (.c (.int .u64 (IntKind.u64.wrap ((IntKind.u64.wrap ((IntKind.u64.wrap (a0.seed * (6364136223846793005 : Int))) + (IntKind.u64.wrap (IntKind.i64.wrap (a0.code.getD a0.at_.toNat default))))) + (1442695040888963407 : Int)))))]))]⟩ (Tt ∧ T4 (T4 (T4 Tt))) [] [0, 3] [0] ⟨tr, tr, tr, tr, tr, tr, tr, tr, tr, tr, tr, tr, tr, tr⟩ ?_
    refine AW.seq ?_
    refine AW.seq (AW.dA ⟨[(0, (vp 0 0)), (3, (vI (IntKind.i64.wrap (a0.code.getD a0.at_.toNat default)))), (53, (vB (decide ((IntKind.i64.wrap (a0.at_ + (1 : Int))) ≤ (a0.code.length : Int)))))], [(0, (.box [(.fx 0 0 (sl 1 (csI .u8) a0.code)), (cI (IntKind.i64.wrap (a0.at_ + (1 : Int)))), (.c (.int .u64 (IntKind.u64.wrap ((IntKind.u64.wrap ((IntKind.u64.wrap (a0.seed * (6364136223846793005 : Int))) + (IntKind.u64.wrap (IntKind.i64.wrap (a0.code.getD a0.at_.toNat default))))) + (1442695040888963407 : Int)))))]))]⟩ ((T2 (T4 (T4 Tt))) ∧ (Tt)) 10 [] [0, 3, 53] [0] ⟨⟨tr, tr, tr, tr, tr, tr, tr, tr, tr, tr, tr⟩, tr⟩ (thenQ_normal ?_))
    rcases ite2_cases h with ⟨b3, h⟩ | ⟨b3, h⟩
    · refine AW.cond_t rfl b3 ?_
      refine AW.sA ⟨[(0, (vp 0 0)), (2, (vI (IntKind.i64.wrap (a0.code.getD a0.at_.toNat default))))], [(0, (.box [(.fx 0 0 (sl 1 (csI .u8) a0.code)), (cI (IntKind.i64.wrap (a0.at_ + (1 : Int)))), (.c (.int .u64 (IntKind.u64.wrap ((IntKind.u64.wrap ((IntKind.u64.wrap (a0.seed * (6364136223846793005 : Int))) + (IntKind.u64.wrap (IntKind.i64.wrap (a0.code.getD a0.at_.toNat default))))) + (1442695040888963407 : Int)))))]))]⟩ (T2 Tt) [] [0, 2] [0] ⟨tr, tr, tr⟩ ?_
      refine AW.ret ?_
      refine thenQ_ret ?_
      replace h := some_eq h
      subst h
      exact ⟨.inr rfl, retOK_of [(.one (cI (IntKind.i64.wrap (a0.code.getD a0.at_.toNat default))))] (by kernel_rfl) ⟨⟨rfl, tr⟩, tr⟩ (of_decide_eq_true (by kernel_rfl)), by kernel_rfl, ⟨⟨rfl, ⟨⟨rfl, rfl⟩, ⟨rfl, rfl⟩, ⟨rfl, rfl⟩, tr⟩⟩, tr⟩⟩
    · refine AW.cond_f rfl b3 ?_
      refine AW.skip ?_
      refine thenQ_normal ?_
      refine AW.seq ?_
      obtain ⟨c4, h⟩ := chk_some h
      refine AW.tA ⟨[(0, (vp 0 0)), (2, (vI (IntKind.i64.wrap (bits .and .u64 ((IntKind.u64.wrap ((IntKind.u64.wrap ((IntKind.u64.wrap (a0.seed * (6364136223846793005 : Int))) + (IntKind.u64.wrap (IntKind.i64.wrap (a0.code.getD a0.at_.toNat default))))) + (1442695040888963407 : Int))).fdiv (2 ^ (min (40 : Int).toNat (IntKind.bits .u64)))) (255 : Int)))))], [(0, (.box [(.fx 0 0 (sl 1 (csI .u8) a0.code)), (cI (IntKind.i64.wrap (a0.at_ + (1 : Int)))), (.c (.int .u64 (IntKind.u64.wrap ((IntKind.u64.wrap ((IntKind.u64.wrap (a0.seed * (6364136223846793005 : Int))) + (IntKind.u64.wrap (IntKind.i64.wrap (a0.code.getD a0.at_.toNat default))))) + (1442695040888963407 : Int)))))]))]⟩ (T4 ((0 ≤ (40 : Int)) ∧ Tt ∧ T2 Tt)) [] [0, 2] [0] ⟨tr, tr, tr, tr, c4, tr, tr, tr, tr⟩ ?_
      refine AW.ret ?_
      replace h := some_eq h
      subst h
      exact ⟨.inr rfl, retOK_of [(.one (cI (IntKind.i64.wrap (bits .and .u64 ((IntKind.u64.wrap ((IntKind.u64.wrap ((IntKind.u64.wrap (a0.seed * (6364136223846793005 : Int))) + (IntKind.u64.wrap (IntKind.i64.wrap (a0.code.getD a0.at_.toNat default))))) + (1442695040888963407 : Int))).fdiv (2 ^ (min (40 : Int).toNat (IntKind.bits .u64)))) (255 : Int)))))] (by kernel_rfl) ⟨⟨rfl, tr⟩, tr⟩ (of_decide_eq_true (by kernel_rfl)), by kernel_rfl, ⟨⟨rfl, ⟨⟨rfl, rfl⟩, ⟨rfl, rfl⟩, ⟨rfl, rfl⟩, tr⟩⟩, tr⟩⟩
  · refine AW.cond_f rfl b1 ?_
    refine AW.skip ?_
    refine thenQ_normal ?_
    refine AW.sC (T4 (T4 Tt)) [] [0, 3] [0] ⟨tr, tr, tr, tr, tr, tr, tr, tr, tr⟩ ?_
    refine AW.sA ⟨[(0, (vp 0 0)), (3, (vI (0 : Int)))], [(0, (.box [(.fx 0 0 (sl 1 (csI .u8) a0.code)), (cI (IntKind.i64.wrap (a0.at_ + (1 : Int)))), (.c (.int .u64 (IntKind.u64.wrap ((IntKind.u64.wrap ((IntKind.u64.wrap (a0.seed * (6364136223846793005 : Int))) + (IntKind.u64.wrap (0 : Int)))) + (1442695040888963407 : Int)))))]))]⟩ (Tt ∧ T4 (T4 (T4 Tt))) [] [0, 3] [0] ⟨tr, tr, tr, tr, tr, tr, tr, tr, tr, tr, tr, tr, tr, tr⟩ ?_
    refine AW.seq ?_
    refine AW.seq (AW.dA ⟨[(0, (vp 0 0)), (3, (vI (0 : Int))), (53, (vB (decide ((IntKind.i64.wrap (a0.at_ + (1 : Int))) ≤ (a0.code.length : Int)))))], [(0, (.box [(.fx 0 0 (sl 1 (csI .u8) a0.code)), (cI (IntKind.i64.wrap (a0.at_ + (1 : Int)))), (.c (.int .u64 (IntKind.u64.wrap ((IntKind.u64.wrap ((IntKind.u64.wrap (a0.seed * (6364136223846793005 : Int))) + (IntKind.u64.wrap (0 : Int)))) + (1442695040888963407 : Int)))))]))]⟩ ((T2 (T4 (T4 Tt))) ∧ (Tt)) 10 [] [0, 3, 53] [0] ⟨⟨tr, tr, tr, tr, tr, tr, tr, tr, tr, tr, tr⟩, tr⟩ (thenQ_normal ?_))
    rcases ite2_cases h with ⟨b5, h⟩ | ⟨b5, h⟩
    · refine AW.cond_t rfl b5 ?_
      refine AW.sA ⟨[(0, (vp 0 0)), (2, (vI (0 : Int)))], [(0, (.box [(.fx 0 0 (sl 1 (csI .u8) a0.code)), (cI (IntKind.i64.wrap (a0.at_ + (1 : Int)))), (.c (.int .u64 (IntKind.u64.wrap ((IntKind.u64.wrap ((IntKind.u64.wrap (a0.seed * (6364136223846793005 : Int))) + (IntKind.u64.wrap (0 : Int)))) + (1442695040888963407 : Int)))))]))]⟩ (T2 Tt) [] [0, 2] [0] ⟨tr, tr, tr⟩ ?_
      refine AW.ret ?_
      refine thenQ_ret ?_
      replace h := some_eq h
      subst h
      exact ⟨.inr rfl, retOK_of [(.one (cI (0 : Int)))] (by kernel_rfl) ⟨⟨rfl, tr⟩, tr⟩ (of_decide_eq_true (by kernel_rfl)), by kernel_rfl, ⟨⟨rfl, ⟨⟨rfl, rfl⟩, ⟨rfl, rfl⟩, ⟨rfl, rfl⟩, tr⟩⟩, tr⟩⟩
    · refine AW.cond_f rfl b5 ?_
      refine AW.skip ?_
      refine thenQ_normal ?_
      refine AW.seq ?_
      obtain ⟨c6, h⟩ := chk_some h
      refine AW.tA ⟨[(0, (vp 0 0)), (2, (vI (IntKind.i64.wrap (bits .and .u64 ((IntKind.u64.wrap ((IntKind.u64.wrap ((IntKind.u64.wrap (a0.seed * (6364136223846793005 : Int))) + (IntKind.u64.wrap (0 : Int)))) + (1442695040888963407 : Int))).fdiv (2 ^ (min (40 : Int).toNat (IntKind.bits .u64)))) (255 : Int)))))], [(0, (.box [(.fx 0 0 (sl 1 (csI .u8) a0.code)), (cI (IntKind.i64.wrap (a0.at_ + (1 : Int)))), (.c (.int .u64 (IntKind.u64.wrap ((IntKind.u64.wrap ((IntKind.u64.wrap (a0.seed * (6364136223846793005 : Int))) + (IntKind.u64.wrap (0 : Int)))) + (1442695040888963407 : Int)))))]))]⟩ (T4 ((0 ≤ (40 : Int)) ∧ Tt ∧ T2 Tt)) [] [0, 2] [0] ⟨tr, tr, tr, tr, c6, tr, tr, tr, tr⟩ ?_
      refine AW.ret ?_
      replace h := some_eq h
      subst h
      exact ⟨.inr rfl, retOK_of [(.one (cI (IntKind.i64.wrap (bits .and .u64 ((IntKind.u64.wrap ((IntKind.u64.wrap ((IntKind.u64.wrap (a0.seed * (6364136223846793005 : Int))) + (IntKind.u64.wrap (0 : Int)))) + (1442695040888963407 : Int))).fdiv (2 ^ (min (40 : Int).toNat (IntKind.bits .u64)))) (255 : Int)))))] (by kernel_rfl) ⟨⟨rfl, tr⟩, tr⟩ (of_decide_eq_true (by kernel_rfl)), by kernel_rfl, ⟨⟨rfl, ⟨⟨rfl, rfl⟩, ⟨rfl, rfl⟩, ⟨rfl, rfl⟩, tr⟩⟩, tr⟩⟩

/-! (*spec.l00Src).pick -/
def spec_l00Src_pick (K : Nat) (a0 : l00Src) (a1 : Int) : Option (Int × Int × Int) :=
  ite2 ((decide (a1 ≤ (1 : Int)))) (some ((0 : Int), a0.at_, a0.seed)) ((spec_l00Src_next K a0).bind fun v2 => ite2 ((decide (a1 > (200 : Int)))) ((spec_l00Src_next K (l00Src.mk a0.code v2.2.1 v2.2.2)).bind fun v5 => chk (a1 ≠ 0) (some (((IntKind.i64.wrap ((IntKind.i64.wrap (v2.1 * (256 : Int))) + v5.1)).tmod a1), v5.2.1, v5.2.2))) (chk (a1 ≠ 0) (some ((v2.1.tmod a1), v2.2.1, v2.2.2))))

theorem ok_spec_l00Src_pick (K : Nat) (a0 : l00Src) (a1 : Int) (o : (Int × Int × Int)) (h : spec_l00Src_pick K a0 a1 = some o) : MutOK Tryz.prog 22 [(.box 3 (fun j => [true, false, false].getD j true) (fun j => (cs_l00Src a0).getD j .nilptr) (fun j => [.nilptr, (.int .i64 o.2.1), (.int .u64 o.2.2)].getD j .nilptr)), (.one (.ro (.int .i64 a1)))] [.one (.int .i64 o.1)] := by
  refine mutOK_of_AW 1 Tryz.func22 rfl (by kernel_rfl) (Nat.le_of_ble_eq_true (by kernel_rfl)) (by kernel_rfl) (by kernel_rfl) ?_
  intro w0 K0 v0 s0
  unfold spec_l00Src_pick at h
  refine AW.weak (s' := ⟨[(0, (vp 0 0)), (1, (vI a1))], [(0, (.box [(.fx 0 0 (sl 1 (csI .u8) a0.code)), (cI a0.at_), (.c (.int .u64 a0.seed))]))]⟩) (subUnfx 0 [1, 2] (by kernel_rfl)) ?_
  refine AW.sC (Tt ∧ Tt) [] [0, 1] [0] ⟨tr, tr⟩ ?_
  refine AW.seq ?_
  refine AW.sA ⟨[(0, (vp 0 0)), (1, (vI a1)), (7, (vB (decide (a1 ≤ (1 : Int)))))], [(0, (.box [(.fx 0 0 (sl 1 (csI .u8) a0.code)), (cI a0.at_), (.c (.int .u64 a0.seed))]))]⟩ (T2 Tt) [] [0, 1, 7] [0] ⟨tr, tr, tr⟩ ?_
  rcases ite2_cases h with ⟨b1, h⟩ | ⟨b1, h⟩
  · refine AW.cond_t rfl b1 ?_
    refine AW.sA ⟨[(0, (vp 0 0)), (1, (vI a1)), (4, (vI (0 : Int)))], [(0, (.box [(.fx 0 0 (sl 1 (csI .u8) a0.code)), (cI a0.at_), (.c (.int .u64 a0.seed))]))]⟩ (Tt ∧ Tt) [] [0, 1, 4] [0] ⟨tr, tr⟩ ?_
    refine AW.ret ?_
    refine thenQ_ret ?_
    replace h := some_eq h
    subst h
    exact ⟨.inr rfl, retOK_of [(.one (cI (0 : Int)))] (by kernel_rfl) ⟨⟨rfl, tr⟩, tr⟩ (of_decide_eq_true (by kernel_rfl)), by kernel_rfl, ⟨⟨rfl, ⟨⟨rfl, rfl⟩, ⟨rfl, rfl⟩, ⟨rfl, rfl⟩, tr⟩⟩, tr, tr⟩⟩
  · refine AW.cond_f rfl b1 ?_
    refine AW.skip ?_
    refine thenQ_normal ?_
    refine AW.seq ?_
    obtain ⟨v2, e3, h⟩ := bind_some h
    refine AW.tC (Tt ∧ ((((Eqc (sl 1 (csI .u8) a0.code)) ∧ (eI a0.at_) ∧ (Eqc (.int .u64 a0.seed)) ∧ Tt) ∧ Tt) ∧ MutOK Tryz.prog 30 [(.box 3 (fun j => [true, false, false].getD j true) (fun j => (cs_l00Src a0).getD j .nilptr) (fun j => [.nilptr, (.int .i64 v2.2.1), (.int .u64 v2.2.2)].getD j .nilptr))] [.one (.int .i64 v2.1)]) ∧ Tt ∧ Tt) [.no, .callM [(.box 3 (fun j => [true, false, false].getD j true) (fun j => (cs_l00Src a0).getD j .nilptr) (fun j => [.nilptr, (.int .i64 v2.2.1), (.int .u64 v2.2.2)].getD j .nilptr))] [.one (.int .i64 v2.1)] [[.view]] none] [0, 1, 5] [0] ⟨tr, ⟨⟨⟨rfl, rfl, rfl, tr⟩, tr⟩, ok_spec_l00Src_next K a0 v2 e3⟩, tr, tr⟩ ?_
    refine AW.seq ?_
    refine AW.sA ⟨[(0, (vp 0 0)), (1, (vI a1)), (5, (vI v2.1)), (11, (vB (decide (a1 > (200 : Int)))))], [(0, (.box [(.fx 0 0 (sl 1 (csI .u8) a0.code)), (cI v2.2.1), (.c (.int .u64 v2.2.2))]))]⟩ (T2 Tt) [] [0, 1, 5, 11] [0] ⟨tr, tr, tr⟩ ?_
    rcases ite2_cases h with ⟨b4, h⟩ | ⟨b4, h⟩
    · refine AW.cond_t rfl b4 ?_
      obtain ⟨v5, e6, h⟩ := bind_some h
      refine AW.tC (Tt ∧ T2 (((((Eqc (sl 1 (csI .u8) a0.code)) ∧ (eI v2.2.1) ∧ (Eqc (.int .u64 v2.2.2)) ∧ Tt) ∧ Tt) ∧ MutOK Tryz.prog 30 [(.box 3 (fun j => [true, false, false].getD j true) (fun j => (cs_l00Src (l00Src.mk a0.code v2.2.1 v2.2.2)).getD j .nilptr) (fun j => [.nilptr, (.int .i64 v5.2.1), (.int .u64 v5.2.2)].getD j .nilptr))] [.one (.int .i64 v5.1)]) ∧ T2 Tt)) [.no, .no, .no, .callM [(.box 3 (fun j => [true, false, false].getD j true) (fun j => (cs_l00Src (l00Src.mk a0.code v2.2.1 v2.2.2)).getD j .nilptr) (fun j => [.nilptr, (.int .i64 v5.2.1), (.int .u64 v5.2.2)].getD j .nilptr))] [.one (.int .i64 v5.1)] [[.view]] none] [0, 1, 5] [0] ⟨tr, tr, tr, ⟨⟨⟨rfl, rfl, rfl, tr⟩, tr⟩, ok_spec_l00Src_next K (l00Src.mk a0.code v2.2.1 v2.2.2) v5 e6⟩, tr, tr, tr⟩ ?_
      refine AW.seq ?_
      obtain ⟨c7, h⟩ := chk_some h
      refine AW.tA ⟨[(0, (vp 0 0)), (1, (vI a1)), (4, (vI ((IntKind.i64.wrap ((IntKind.i64.wrap (v2.1 * (256 : Int))) + v5.1)).tmod a1)))], [(0, (.box [(.fx 0 0 (sl 1 (csI .u8) a0.code)), (cI v5.2.1), (.c (.int .u64 v5.2.2))]))]⟩ (T2 ((a1 ≠ 0) ∧ Tt ∧ Tt)) [] [0, 1, 4] [0] ⟨tr, tr, c7, tr, tr⟩ ?_
      refine AW.ret ?_
      replace h := some_eq h
      subst h
      exact ⟨.inr rfl, retOK_of [(.one (cI ((IntKind.i64.wrap ((IntKind.i64.wrap (v2.1 * (256 : Int))) + v5.1)).tmod a1)))] (by kernel_rfl) ⟨⟨rfl, tr⟩, tr⟩ (of_decide_eq_true (by kernel_rfl)), by kernel_rfl, ⟨⟨rfl, ⟨⟨rfl, rfl⟩, ⟨rfl, rfl⟩, ⟨rfl, rfl⟩, tr⟩⟩, tr, tr⟩⟩
    · refine AW.cond_f rfl b4 ?_
      refine AW.skip ?_
      refine thenQ_normal ?_
      refine AW.seq ?_
      obtain ⟨c8, h⟩ := chk_some h
      refine AW.tA ⟨[(0, (vp 0 0)), (1, (vI a1)), (4, (vI (v2.1.tmod a1)))], [(0, (.box [(.fx 0 0 (sl 1 (csI .u8) a0.code)), (cI v2.2.1), (.c (.int .u64 v2.2.2))]))]⟩ (T2 ((a1 ≠ 0) ∧ Tt ∧ Tt)) [] [0, 1, 4] [0] ⟨tr, tr, c8, tr, tr⟩ ?_
      refine AW.ret ?_
      replace h := some_eq h
      subst h
      exact ⟨.inr rfl, retOK_of [(.one (cI (v2.1.tmod a1)))] (by kernel_rfl) ⟨⟨rfl, tr⟩, tr⟩ (of_decide_eq_true (by kernel_rfl)), by kernel_rfl, ⟨⟨rfl, ⟨⟨rfl, rfl⟩, ⟨rfl, rfl⟩, ⟨rfl, rfl⟩, tr⟩⟩, tr, tr⟩⟩

/-! spec.B10Vector -/
def spec_B10Vector (K : Nat) (a0 : (List Int)) (a1 : Int) : Option (Vector) :=
  (spec_l00Src_pick K (l00Src.mk a0 (0 : Int) (0 : Int)) (IntKind.i64.wrap ((IntKind.i64.wrap ((2 : Int) * a1)) + (1 : Int)))).bind fun v1 => (spec_l00Src_pick K (l00Src.mk a0 v1.2.1 v1.2.2) (IntKind.i64.wrap ((IntKind.i64.wrap ((2 : Int) * a1)) + (1 : Int)))).bind fun v3 => (spec_l00Src_pick K (l00Src.mk a0 v3.2.1 v3.2.2) (IntKind.i64.wrap ((IntKind.i64.wrap ((2 : Int) * a1)) + (1 : Int)))).bind fun v5 => some (Vector.mk (Fl.ofInt .f32 (IntKind.i64.wrap (v1.1 - a1))) (Fl.ofInt .f32 (IntKind.i64.wrap (v3.1 - a1))) (Fl.ofInt .f32 (IntKind.i64.wrap (v5.1 - a1))))

theorem ok_spec_B10Vector (K : Nat) (a0 : (List Int)) (a1 : Int) (o : (Vector)) (h : spec_B10Vector K a0 a1 = some o) : CallOK Tryz.prog 5 [.one (sl 1 (csI .u8) a0), .one (.int .i64 a1)] [.agg (cs_Vector o)] := by
  refine callOK_of_AW Tryz.func5 rfl (by kernel_rfl) (Nat.le_of_ble_eq_true (by kernel_rfl)) ?_
  intro w0
  unfold spec_B10Vector at h
  refine AW.sA ⟨[(0, (vc (sl 1 (csI .u8) a0))), (1, (vI a1)), (4, (vp 1 0))], [(1, (.box [(cF (default : F32)), (cF (default : F32)), (cF (default : F32))]))]⟩ (Tt ∧ Tt) [.box 1] [0, 1, 4] [1] ⟨tr, tr⟩ ?_
  refine AW.seq (AW.mkA 1 2 [(.i64, 0), (.u64, 0)] [.no] [] [1, 4, 5] [1, 2] (s' := ⟨[(1, (vI a1)), (4, (vp 1 0)), (5, (vp 2 0))], [(1, (.box [(cF (default : F32)), (cF (default : F32)), (cF (default : F32))])), (2, (.box [(.c (sl 1 (csI .u8) a0)), (cI (0 : Int)), (.c (.int .u64 (0 : Int)))]))]⟩) (ob := (Tt ∧ Tt) ∧ Tt ∧ (Tt ∧ Tt)) (by kernel_rfl) ⟨⟨tr, tr⟩, tr, ⟨tr, tr⟩⟩ mk_spec_l00From (thenQ_normal ?_))
  refine AW.seq ?_
  obtain ⟨v1, e2, h⟩ := bind_some h
  refine AW.tC (T4 (((((Eqc (sl 1 (csI .u8) a0)) ∧ (eI (0 : Int)) ∧ (Eqc (.int .u64 (0 : Int))) ∧ Tt) ∧ (((.int .i64 (IntKind.i64.wrap ((IntKind.i64.wrap ((2 : Int) * a1)) + (1 : Int)))) : C) = (.int .i64 (IntKind.i64.wrap ((IntKind.i64.wrap ((2 : Int) * a1)) + (1 : Int))))) ∧ Tt) ∧ MutOK Tryz.prog 22 [(.box 3 (fun j => [true, false, false].getD j true) (fun j => (cs_l00Src (l00Src.mk a0 (0 : Int) (0 : Int))).getD j .nilptr) (fun j => [.nilptr, (.int .i64 v1.2.1), (.int .u64 v1.2.2)].getD j .nilptr)), .one (.ro (.int .i64 (IntKind.i64.wrap ((IntKind.i64.wrap ((2 : Int) * a1)) + (1 : Int)))))] [.one (.int .i64 v1.1)]) ∧ T2 (T4 Tt))) [.no, .no, .no, .no, .callM [(.box 3 (fun j => [true, false, false].getD j true) (fun j => (cs_l00Src (l00Src.mk a0 (0 : Int) (0 : Int))).getD j .nilptr) (fun j => [.nilptr, (.int .i64 v1.2.1), (.int .u64 v1.2.2)].getD j .nilptr)), .one (.ro (.int .i64 (IntKind.i64.wrap ((IntKind.i64.wrap ((2 : Int) * a1)) + (1 : Int)))))] [.one (.int .i64 v1.1)] [[.view]] none, .no, .no, .no, .no, .box 3] [1, 4, 5, 6] [1, 2, 3] ⟨tr, tr, tr, tr, ⟨⟨⟨rfl, rfl, rfl, tr⟩, rfl, tr⟩, ok_spec_l00Src_pick K (l00Src.mk a0 (0 : Int) (0 : Int)) (IntKind.i64.wrap ((IntKind.i64.wrap ((2 : Int) * a1)) + (1 : Int))) v1 e2⟩, tr, tr, tr, tr, tr, tr, tr⟩ ?_
  refine AW.seq ?_
  obtain ⟨v3, e4, h⟩ := bind_some h
  refine AW.tC (T4 (((((Eqc (sl 1 (csI .u8) a0)) ∧ (eI v1.2.1) ∧ (Eqc (.int .u64 v1.2.2)) ∧ Tt) ∧ (((.int .i64 (IntKind.i64.wrap ((IntKind.i64.wrap ((2 : Int) * a1)) + (1 : Int)))) : C) = (.int .i64 (IntKind.i64.wrap ((IntKind.i64.wrap ((2 : Int) * a1)) + (1 : Int))))) ∧ Tt) ∧ MutOK Tryz.prog 22 [(.box 3 (fun j => [true, false, false].getD j true) (fun j => (cs_l00Src (l00Src.mk a0 v1.2.1 v1.2.2)).getD j .nilptr) (fun j => [.nilptr, (.int .i64 v3.2.1), (.int .u64 v3.2.2)].getD j .nilptr)), .one (.ro (.int .i64 (IntKind.i64.wrap ((IntKind.i64.wrap ((2 : Int) * a1)) + (1 : Int)))))] [.one (.int .i64 v3.1)]) ∧ Tt ∧ T4 Tt)) [.no, .no, .no, .no, .callM [(.box 3 (fun j => [true, false, false].getD j true) (fun j => (cs_l00Src (l00Src.mk a0 v1.2.1 v1.2.2)).getD j .nilptr) (fun j => [.nilptr, (.int .i64 v3.2.1), (.int .u64 v3.2.2)].getD j .nilptr)), .one (.ro (.int .i64 (IntKind.i64.wrap ((IntKind.i64.wrap ((2 : Int) * a1)) + (1 : Int)))))] [.one (.int .i64 v3.1)] [[.view]] none] [1, 4, 5, 6] [1, 2, 3] ⟨tr, tr, tr, tr, ⟨⟨⟨rfl, rfl, rfl, tr⟩, rfl, tr⟩, ok_spec_l00Src_pick K (l00Src.mk a0 v1.2.1 v1.2.2) (IntKind.i64.wrap ((IntKind.i64.wrap ((2 : Int) * a1)) + (1 : Int))) v3 e4⟩, tr, tr, tr, tr, tr, tr⟩ ?_
  refine AW.seq ?_
  obtain ⟨v5, e6, h⟩ := bind_some h
  refine AW.tC (T4 (((((Eqc (sl 1 (csI .u8) a0)) ∧ (eI v3.2.1) ∧ (Eqc (.int .u64 v3.2.2)) ∧ Tt) ∧ (((.int .i64 (IntKind.i64.wrap ((IntKind.i64.wrap ((2 : Int) * a1)) + (1 : Int)))) : C) = (.int .i64 (IntKind.i64.wrap ((IntKind.i64.wrap ((2 : Int) * a1)) + (1 : Int))))) ∧ Tt) ∧ MutOK Tryz.prog 22 [(.box 3 (fun j => [true, false, false].getD j true) (fun j => (cs_l00Src (l00Src.mk a0 v3.2.1 v3.2.2)).getD j .nilptr) (fun j => [.nilptr, (.int .i64 v5.2.1), (.int .u64 v5.2.2)].getD j .nilptr)), .one (.ro (.int .i64 (IntKind.i64.wrap ((IntKind.i64.wrap ((2 : Int) * a1)) + (1 : Int)))))] [.one (.int .i64 v5.1)]) ∧ Tt ∧ T4 Tt)) [.no, .no, .no, .no, .callM [(.box 3 (fun j => [true, false, false].getD j true) (fun j => (cs_l00Src (l00Src.mk a0 v3.2.1 v3.2.2)).getD j .nilptr) (fun j => [.nilptr, (.int .i64 v5.2.1), (.int .u64 v5.2.2)].getD j .nilptr)), .one (.ro (.int .i64 (IntKind.i64.wrap ((IntKind.i64.wrap ((2 : Int) * a1)) + (1 : Int)))))] [.one (.int .i64 v5.1)] [[.view]] none] [4, 6] [1, 3] ⟨tr, tr, tr, tr, ⟨⟨⟨rfl, rfl, rfl, tr⟩, rfl, tr⟩, ok_spec_l00Src_pick K (l00Src.mk a0 v3.2.1 v3.2.2) (IntKind.i64.wrap ((IntKind.i64.wrap ((2 : Int) * a1)) + (1 : Int))) v5 e6⟩, tr, tr, tr, tr, tr, tr⟩ ?_
  refine AW.sA ⟨[(4, (vp 1 0))], [(1, (.box [(cF (Fl.ofInt .f32 (IntKind.i64.wrap (v1.1 - a1)))), (cF (Fl.ofInt .f32 (IntKind.i64.wrap (v3.1 - a1)))), (cF (Fl.ofInt .f32 (IntKind.i64.wrap (v5.1 - a1))))]))]⟩ (T2 Tt) [] [4] [1] ⟨tr, tr, tr⟩ ?_
  refine AW.ret ?_
  replace h := some_eq h
  subst h
  exact ⟨.inr rfl, retOK_of [(.agg [(cF (Fl.ofInt .f32 (IntKind.i64.wrap (v1.1 - a1)))), (cF (Fl.ofInt .f32 (IntKind.i64.wrap (v3.1 - a1)))), (cF (Fl.ofInt .f32 (IntKind.i64.wrap (v5.1 - a1))))])] (by kernel_rfl) ⟨⟨⟨rfl, tr⟩, ⟨rfl, tr⟩, ⟨rfl, tr⟩, tr⟩, tr⟩ (of_decide_eq_true (by kernel_rfl))⟩

/-! impl.CrossOf -/
def impl_CrossOf (_K : Nat) (a0 : Vector) (a1 : Vector) : Option (Vector) :=
  some (Vector.mk ((a0.Y.mul a1.Z).sub (a0.Z.mul a1.Y)) ((a0.Z.mul a1.X).sub (a0.X.mul a1.Z)) ((a0.X.mul a1.Y).sub (a0.Y.mul a1.X)))

theorem ok_impl_CrossOf (K : Nat) (a0 : Vector) (a1 : Vector) (o : (Vector)) (h : impl_CrossOf K a0 a1 = some o) : CallOK Tryz.prog 6 [.agg (cs_Vector a0), .agg (cs_Vector a1)] [.agg (cs_Vector o)] := by
  refine callOK_of_AW Tryz.func6 rfl (by kernel_rfl) (Nat.le_of_ble_eq_true (by kernel_rfl)) ?_
  intro w0
  unfold impl_CrossOf at h
  refine AW.sC (Tt ∧ T2 Tt) [.box 1, .box 2, .box 3] [2, 3, 4] [1, 2, 3] ⟨tr, tr, tr, tr⟩ ?_
  refine AW.sA ⟨[(4, (vp 3 0))], [(3, (.box [(cF ((a0.Y.mul a1.Z).sub (a0.Z.mul a1.Y))), (cF ((a0.Z.mul a1.X).sub (a0.X.mul a1.Z))), (cF ((a0.X.mul a1.Y).sub (a0.Y.mul a1.X)))]))]⟩ (Tt ∧ T2 (T4 (T4 (T4 (T4 (T4 (T4 (T4 (T4 Tt))))))))) [] [4] [3] ⟨tr, tr, tr, tr, tr, tr, tr, tr, tr, tr, tr, tr, tr, tr, tr, tr, tr, tr, tr, tr, tr, tr, tr, tr, tr, tr, tr, tr, tr, tr, tr, tr, tr, tr, tr, tr⟩ ?_
  refine AW.ret ?_
  replace h := some_eq h
  subst h
  exact ⟨.inr rfl, retOK_of [(.agg [(cF ((a0.Y.mul a1.Z).sub (a0.Z.mul a1.Y))), (cF ((a0.Z.mul a1.X).sub (a0.X.mul a1.Z))), (cF ((a0.X.mul a1.Y).sub (a0.Y.mul a1.X)))])] (by kernel_rfl) ⟨⟨⟨rfl, tr⟩, ⟨rfl, tr⟩, ⟨rfl, tr⟩, tr⟩, tr⟩ (of_decide_eq_true (by kernel_rfl))⟩

/-! impl.LessVectors -/
def impl_LessVectors (_K : Nat) (a0 : Vector) (a1 : Vector) : Option (Vector) :=
  some (Vector.mk (a0.X.sub a1.X) (a0.Y.sub a1.Y) (a0.Z.sub a1.Z))

theorem ok_impl_LessVectors (K : Nat) (a0 : Vector) (a1 : Vector) (o : (Vector)) (h : impl_LessVectors K a0 a1 = some o) : CallOK Tryz.prog 8 [.agg (cs_Vector a0), .agg (cs_Vector a1)] [.agg (cs_Vector o)] := by
  refine callOK_of_AW Tryz.func8 rfl (by kernel_rfl) (Nat.le_of_ble_eq_true (by kernel_rfl)) ?_
  intro w0
  unfold impl_LessVectors at h
  refine AW.sC (Tt ∧ T2 Tt) [.box 1, .box 2, .box 3] [2, 3, 4] [1, 2, 3] ⟨tr, tr, tr, tr⟩ ?_
  refine AW.sA ⟨[(4, (vp 3 0))], [(3, (.box [(cF (a0.X.sub a1.X)), (cF (a0.Y.sub a1.Y)), (cF (a0.Z.sub a1.Z))]))]⟩ (Tt ∧ T4 (T4 (T4 (T4 Tt)))) [] [4] [3] ⟨tr, tr, tr, tr, tr, tr, tr, tr, tr, tr, tr, tr, tr, tr, tr, tr, tr, tr⟩ ?_
  refine AW.ret ?_
  replace h := some_eq h
  subst h
  exact ⟨.inr rfl, retOK_of [(.agg [(cF (a0.X.sub a1.X)), (cF (a0.Y.sub a1.Y)), (cF (a0.Z.sub a1.Z))])] (by kernel_rfl) ⟨⟨⟨rfl, tr⟩, ⟨rfl, tr⟩, ⟨rfl, tr⟩, tr⟩, tr⟩ (of_decide_eq_true (by kernel_rfl))⟩

/-! impl.AddVectors -/
def impl_AddVectors (_K : Nat) (a0 : Vector) (a1 : Vector) : Option (Vector) :=
  some (Vector.mk (a0.X.add a1.X) (a0.Y.add a1.Y) (a0.Z.add a1.Z))

theorem ok_impl_AddVectors (K : Nat) (a0 : Vector) (a1 : Vector) (o : (Vector)) (h : impl_AddVectors K a0 a1 = some o) : CallOK Tryz.prog 7 [.agg (cs_Vector a0), .agg (cs_Vector a1)] [.agg (cs_Vector o)] := by
  refine callOK_of_AW Tryz.func7 rfl (by kernel_rfl) (Nat.le_of_ble_eq_true (by kernel_rfl)) ?_
  intro w0
  unfold impl_AddVectors at h
  refine AW.sC (Tt ∧ T2 Tt) [.box 1, .box 2, .box 3] [2, 3, 4] [1, 2, 3] ⟨tr, tr, tr, tr⟩ ?_
  refine AW.sA ⟨[(4, (vp 3 0))], [(3, (.box [(cF (a0.X.add a1.X)), (cF (a0.Y.add a1.Y)), (cF (a0.Z.add a1.Z))]))]⟩ (Tt ∧ T4 (T4 (T4 (T4 Tt)))) [] [4] [3] ⟨tr, tr, tr, tr, tr, tr, tr, tr, tr, tr, tr, tr, tr, tr, tr, tr, tr, tr⟩ ?_
  refine AW.ret ?_
  replace h := some_eq h
  subst h
  exact ⟨.inr rfl, retOK_of [(.agg [(cF (a0.X.add a1.X)), (cF (a0.Y.add a1.Y)), (cF (a0.Z.add a1.Z))])] (by kernel_rfl) ⟨⟨⟨rfl, tr⟩, ⟨rfl, tr⟩, ⟨rfl, tr⟩, tr⟩, tr⟩ (of_decide_eq_true (by kernel_rfl))⟩

/-! impl.ScaleVector -/
def impl_ScaleVector (_K : Nat) (a0 : Vector) (a1 : F32) : Option (Vector) :=
  some (Vector.mk (a0.X.mul a1) (a0.Y.mul a1) (a0.Z.mul a1))

theorem ok_impl_ScaleVector (K : Nat) (a0 : Vector) (a1 : F32) (o : (Vector)) (h : impl_ScaleVector K a0 a1 = some o) : CallOK Tryz.prog 9 [.agg (cs_Vector a0), .one (.flt .f32 a1.bits)] [.agg (cs_Vector o)] := by
  refine callOK_of_AW Tryz.func9 rfl (by kernel_rfl) (Nat.le_of_ble_eq_true (by kernel_rfl)) ?_
  intro w0
  unfold impl_ScaleVector at h
  refine AW.sC (T2 Tt) [.box 1, .box 2] [1, 2, 4] [1, 2] ⟨tr, tr, tr⟩ ?_
  refine AW.sA ⟨[(4, (vp 2 0))], [(2, (.box [(cF (a0.X.mul a1)), (cF (a0.Y.mul a1)), (cF (a0.Z.mul a1))]))]⟩ (T2 (T4 (T4 (T4 Tt)))) [] [4] [2] ⟨tr, tr, tr, tr, tr, tr, tr, tr, tr, tr, tr, tr, tr, tr, tr⟩ ?_
  refine AW.ret ?_
  replace h := some_eq h
  subst h
  exact ⟨.inr rfl, retOK_of [(.agg [(cF (a0.X.mul a1)), (cF (a0.Y.mul a1)), (cF (a0.Z.mul a1))])] (by kernel_rfl) ⟨⟨⟨rfl, tr⟩, ⟨rfl, tr⟩, ⟨rfl, tr⟩, tr⟩, tr⟩ (of_decide_eq_true (by kernel_rfl))⟩

/-! laws.b10VEqual -/
def laws_b10VEqual (_K : Nat) (a0 : Vector) (a1 : Vector) : Option (Bool) :=
  (ite2 ((a0.X.eq a1.X)) (ite2 ((a0.Y.eq a1.Y)) (some (a0.Z.eq a1.Z)) (some false)) (some false)).bind fun j3 => some j3

theorem ok_laws_b10VEqual (K : Nat) (a0 : Vector) (a1 : Vector) (o : (Bool)) (h : laws_b10VEqual K a0 a1 = some o) : CallOK Tryz.prog 10 [.agg (cs_Vector a0), .agg (cs_Vector a1)] [.one (.bool o)] := by
  refine callOK_of_AW Tryz.func10 rfl (by kernel_rfl) (Nat.le_of_ble_eq_true (by kernel_rfl)) ?_
  intro w0
  unfold laws_b10VEqual at h
  refine AW.sA ⟨[(2, (vp 1 0)), (3, (vp 2 0))], [(1, (.box [(cF a0.X), (cF a0.Y), (cF a0.Z)])), (2, (.box [(cF a1.X), (cF a1.Y), (cF a1.Z)]))]⟩ (Tt ∧ T2 Tt) [.box 1, .box 2] [2, 3] [1, 2] ⟨tr, tr, tr, tr⟩ ?_
  refine AW.seq ?_
  obtain ⟨j3, e4, h⟩ := bind_some h
  refine AW.join1 (s2 := ⟨[(4, (vB j3))], []⟩) ?_ ?_
  · rcases ite2_cases e4 with ⟨b1, e4⟩ | ⟨b1, e4⟩
    · rcases ite2_cases e4 with ⟨b2, e4⟩ | ⟨b2, e4⟩
      · replace e4 := some_eq e4
        subst e4
        exact AW.rA ⟨[(4, (vB (a0.Z.eq a1.Z)))], []⟩ (Tt ∧ T4 ((Tt ∧ (a0.X.eq a1.X) = true) ∧ T2 (T4 ((Tt ∧ (a0.Y.eq a1.Y) = true) ∧ Tt ∧ T2 (T4 Tt))))) [.no, .no, .no, .no, .no, .dec true, .no, .no, .no, .no, .no, .no, .dec true] [4] [] ⟨tr, tr, tr, tr, tr, ⟨tr, b1⟩, tr, tr, tr, tr, tr, tr, ⟨tr, b2⟩, tr, tr, tr, tr, tr, tr, tr, tr⟩ ⟨rfl, rfl⟩
      · replace e4 := some_eq e4
        subst e4
        exact AW.rA ⟨[(4, (vB false))], []⟩ (Tt ∧ T4 ((Tt ∧ (a0.X.eq a1.X) = true) ∧ T2 (T4 ((Tt ∧ (a0.Y.eq a1.Y) = false) ∧ Tt ∧ T2 (T4 Tt))))) [.no, .no, .no, .no, .no, .dec true, .no, .no, .no, .no, .no, .no, .dec false] [4] [] ⟨tr, tr, tr, tr, tr, ⟨tr, b1⟩, tr, tr, tr, tr, tr, tr, ⟨tr, b2⟩, tr, tr, tr, tr, tr, tr, tr, tr⟩ ⟨rfl, rfl⟩
    · replace e4 := some_eq e4
      subst e4
      exact AW.rA ⟨[(4, (vB false))], []⟩ (Tt ∧ T4 ((Tt ∧ (a0.X.eq a1.X) = false) ∧ T2 (T4 (T4 (T4 Tt))))) [.no, .no, .no, .no, .no, .dec false] [4] [] ⟨tr, tr, tr, tr, tr, ⟨tr, b1⟩, tr, tr, tr, tr, tr, tr, tr, tr, tr, tr, tr, tr, tr, tr, tr⟩ ⟨rfl, rfl⟩
  refine thenQ_normal ?_
  refine AW.ret ?_
  replace h := some_eq h
  subst h
  exact ⟨.inr rfl, retOK_of [(.one (.c (.bool j3)))] (by kernel_rfl) ⟨⟨rfl, tr⟩, tr⟩ (of_decide_eq_true (by kernel_rfl))⟩

/-! impl.InnerOf -/
def impl_InnerOf (_K : Nat) (a0 : Vector) (a1 : Vector) : Option (F32) :=
  some (((a0.X.mul a1.X).add (a0.Y.mul a1.Y)).add (a0.Z.mul a1.Z))

theorem ok_impl_InnerOf (K : Nat) (a0 : Vector) (a1 : Vector) (o : (F32)) (h : impl_InnerOf K a0 a1 = some o) : CallOK Tryz.prog 11 [.agg (cs_Vector a0), .agg (cs_Vector a1)] [.one (.flt .f32 o.bits)] := by
  refine callOK_of_AW Tryz.func11 rfl (by kernel_rfl) (Nat.le_of_ble_eq_true (by kernel_rfl)) ?_
  intro w0
  unfold impl_InnerOf at h
  refine AW.sC (Tt ∧ T2 Tt) [.box 1, .box 2] [2, 3] [1, 2] ⟨tr, tr, tr, tr⟩ ?_
  refine AW.sA ⟨[(4, (vc (.flt .f32 (((a0.X.mul a1.X).add (a0.Y.mul a1.Y)).add (a0.Z.mul a1.Z)).bits)))], []⟩ (T2 (T4 (T4 (T4 (T4 Tt))))) [] [4] [] ⟨tr, tr, tr, tr, tr, tr, tr, tr, tr, tr, tr, tr, tr, tr, tr, tr, tr, tr, tr⟩ ?_
  refine AW.ret ?_
  replace h := some_eq h
  subst h
  exact ⟨.inr rfl, retOK_of [(.one (cF (((a0.X.mul a1.X).add (a0.Y.mul a1.Y)).add (a0.Z.mul a1.Z))))] (by kernel_rfl) ⟨⟨rfl, tr⟩, tr⟩ (of_decide_eq_true (by kernel_rfl))⟩

/-! laws.b10Square -/
def laws_b10Square (_K : Nat) (a0 : Vector) : Option (F32) :=
  some (((a0.X.mul a0.X).add (a0.Y.mul a0.Y)).add (a0.Z.mul a0.Z))

theorem ok_laws_b10Square (K : Nat) (a0 : Vector) (o : (F32)) (h : laws_b10Square K a0 = some o) : CallOK Tryz.prog 12 [.agg (cs_Vector a0)] [.one (.flt .f32 o.bits)] := by
  refine callOK_of_AW Tryz.func12 rfl (by kernel_rfl) (Nat.le_of_ble_eq_true (by kernel_rfl)) ?_
  intro w0
  unfold laws_b10Square at h
  refine AW.sC (T2 Tt) [.box 1] [1] [1] ⟨tr, tr, tr⟩ ?_
  refine AW.sA ⟨[(2, (vc (.flt .f32 (((a0.X.mul a0.X).add (a0.Y.mul a0.Y)).add (a0.Z.mul a0.Z)).bits)))], []⟩ (T2 (T4 (T4 (T4 (T4 Tt))))) [] [2] [] ⟨tr, tr, tr, tr, tr, tr, tr, tr, tr, tr, tr, tr, tr, tr, tr, tr, tr, tr, tr⟩ ?_
  refine AW.ret ?_
  replace h := some_eq h
  subst h
  exact ⟨.inr rfl, retOK_of [(.one (cF (((a0.X.mul a0.X).add (a0.Y.mul a0.Y)).add (a0.Z.mul a0.Z))))] (by kernel_rfl) ⟨⟨rfl, tr⟩, tr⟩ (of_decide_eq_true (by kernel_rfl))⟩

/-! math.sqrt -/
def math_sqrt (_K : Nat) (a0 : F64) : Option (F64) :=
  some a0.sqrt

theorem ok_math_sqrt (K : Nat) (a0 : F64) (o : F64) (h : math_sqrt K a0 = some o) : CallOK Tryz.prog 43 [.one (.flt .f64 a0.bits)] [.one (.flt .f64 o.bits)] :=
  hand_sqrt (e := Extern.MathSqrt.sqrt) Tryz.func43 (by kernel_rfl) (by kernel_rfl) (by kernel_rfl) (by kernel_rfl) (fun _ => rfl) a0 o h

/-! math.Sqrt -/
def math_Sqrt (K : Nat) (a0 : F64) : Option (F64) :=
  (math_sqrt K a0).bind fun v1 => some v1

theorem ok_math_Sqrt (K : Nat) (a0 : F64) (o : (F64)) (h : math_Sqrt K a0 = some o) : CallOK Tryz.prog 32 [.one (.flt .f64 a0.bits)] [.one (.flt .f64 o.bits)] := by
  refine callOK_of_AW Tryz.func32 rfl (by kernel_rfl) (Nat.le_of_ble_eq_true (by kernel_rfl)) ?_
  intro w0
  unfold math_Sqrt at h
  refine AW.sC (Tt ∧ Tt) [] [0] [] ⟨tr, tr⟩ ?_
  refine AW.seq ?_
  obtain ⟨v1, e2, h⟩ := bind_some h
  refine AW.tA ⟨[(2, (vc (.flt .f64 v1.bits)))], []⟩ (Tt ∧ (((Eqc (.flt .f64 a0.bits)) ∧ Tt) ∧ CallOK Tryz.prog 43 [.one (.flt .f64 a0.bits)] [.one (.flt .f64 v1.bits)]) ∧ Tt ∧ Tt) [.no, .call [.one (.flt .f64 a0.bits)] [.one (.flt .f64 v1.bits)] [[.view]]] [2] [] ⟨tr, ⟨⟨rfl, tr⟩, ok_math_sqrt K a0 v1 e2⟩, tr, tr⟩ ?_
  refine AW.ret ?_
  replace h := some_eq h
  subst h
  exact ⟨.inr rfl, retOK_of [(.one (.c (.flt .f64 v1.bits)))] (by kernel_rfl) ⟨⟨rfl, tr⟩, tr⟩ (of_decide_eq_true (by kernel_rfl))⟩

/-! impl.RootNumber -/
def impl_RootNumber (K : Nat) (a0 : F32) : Option (F32) :=
  (math_Sqrt K (Fl.cv .f32 .f64 a0)).bind fun v1 => chk ((convBits .f64 v1.bits .f32).isSome = true) (some (Fl.cv .f64 .f32 v1))

theorem ok_impl_RootNumber (K : Nat) (a0 : F32) (o : (F32)) (h : impl_RootNumber K a0 = some o) : CallOK Tryz.prog 24 [.one (.flt .f32 a0.bits)] [.one (.flt .f32 o.bits)] := by
  refine callOK_of_AW Tryz.func24 rfl (by kernel_rfl) (Nat.le_of_ble_eq_true (by kernel_rfl)) ?_
  intro w0
  unfold impl_RootNumber at h
  refine AW.sC (Tt ∧ Tt) [] [0] [] ⟨tr, tr⟩ ?_
  refine AW.seq ?_
  obtain ⟨v1, e2, h⟩ := bind_some h
  obtain ⟨c3, h⟩ := chk_some h
  refine AW.tA ⟨[(2, (vc (.flt .f32 (Fl.cv .f64 .f32 v1).bits)))], []⟩ (Tt ∧ ((convBits .f32 a0.bits .f64).isSome = true) ∧ (((Eqc (.flt .f64 (Fl.cv .f32 .f64 a0).bits)) ∧ Tt) ∧ CallOK Tryz.prog 32 [.one (.flt .f64 (Fl.cv .f32 .f64 a0).bits)] [.one (.flt .f64 v1.bits)]) ∧ ((convBits .f64 v1.bits .f32).isSome = true) ∧ Tt ∧ Tt) [.no, .no, .call [.one (.flt .f64 (Fl.cv .f32 .f64 a0).bits)] [.one (.flt .f64 v1.bits)] [[.view]]] [2] [] ⟨tr, cv_wide a0, ⟨⟨rfl, tr⟩, ok_math_Sqrt K (Fl.cv .f32 .f64 a0) v1 e2⟩, c3, tr, tr⟩ ?_
  refine AW.ret ?_
  replace h := some_eq h
  subst h
  exact ⟨.inr rfl, retOK_of [(.one (cF (Fl.cv .f64 .f32 v1)))] (by kernel_rfl) ⟨⟨rfl, tr⟩, tr⟩ (of_decide_eq_true (by kernel_rfl))⟩

/-! impl.LongOf -/
def impl_LongOf (K : Nat) (a0 : Vector) : Option (F32) :=
  (impl_InnerOf K a0 a0).bind fun v1 => (impl_RootNumber K v1).bind fun v3 => some v3

theorem ok_impl_LongOf (K : Nat) (a0 : Vector) (o : (F32)) (h : impl_LongOf K a0 = some o) : CallOK Tryz.prog 14 [.agg (cs_Vector a0)] [.one (.flt .f32 o.bits)] := by
  refine callOK_of_AW Tryz.func14 rfl (by kernel_rfl) (Nat.le_of_ble_eq_true (by kernel_rfl)) ?_
  intro w0
  unfold impl_LongOf at h
  refine AW.sC (T2 Tt) [.box 1] [1] [1] ⟨tr, tr, tr⟩ ?_
  refine AW.seq ?_
  obtain ⟨v1, e2, h⟩ := bind_some h
  obtain ⟨v3, e4, h⟩ := bind_some h
  refine AW.tA ⟨[(2, (vc (.flt .f32 v3.bits)))], []⟩ (T2 (((((eF a0.X) ∧ (eF a0.Y) ∧ (eF a0.Z) ∧ Tt) ∧ ((eF a0.X) ∧ (eF a0.Y) ∧ (eF a0.Z) ∧ Tt) ∧ Tt) ∧ CallOK Tryz.prog 11 [.agg (cs_Vector a0), .agg (cs_Vector a0)] [.one (.flt .f32 v1.bits)]) ∧ (((eF v1) ∧ Tt) ∧ CallOK Tryz.prog 24 [.one (.flt .f32 v1.bits)] [.one (.flt .f32 v3.bits)]) ∧ Tt ∧ Tt)) [.no, .no, .call [.agg (cs_Vector a0), .agg (cs_Vector a0)] [.one (.flt .f32 v1.bits)] [[.view]], .call [.one (.flt .f32 v1.bits)] [.one (.flt .f32 v3.bits)] [[.view]]] [2] [] ⟨tr, tr, ⟨⟨⟨rfl, rfl, rfl, tr⟩, ⟨rfl, rfl, rfl, tr⟩, tr⟩, ok_impl_InnerOf K a0 a0 v1 e2⟩, ⟨⟨rfl, tr⟩, ok_impl_RootNumber K v1 v3 e4⟩, tr, tr⟩ ?_
  refine AW.ret ?_
  replace h := some_eq h
  subst h
  exact ⟨.inr rfl, retOK_of [(.one (cF v3))] (by kernel_rfl) ⟨⟨rfl, tr⟩, tr⟩ (of_decide_eq_true (by kernel_rfl))⟩

/-! spec.l01Narrow -/
def spec_l01Narrow (_K : Nat) (a0 : F64) : Option (F32) :=
  chk ((convBits .f64 a0.bits .f32).isSome = true) (some (Fl.cv .f64 .f32 a0))

theorem ok_spec_l01Narrow (K : Nat) (a0 : F64) (o : (F32)) (h : spec_l01Narrow K a0 = some o) : CallOK Tryz.prog 33 [.one (.flt .f64 a0.bits)] [.one (.flt .f32 o.bits)] := by
  refine callOK_of_AW Tryz.func33 rfl (by kernel_rfl) (Nat.le_of_ble_eq_true (by kernel_rfl)) ?_
  intro w0
  unfold spec_l01Narrow at h
  refine AW.sC (Tt ∧ Tt) [] [0] [] ⟨tr, tr⟩ ?_
  refine AW.seq ?_
  obtain ⟨c1, h⟩ := chk_some h
  refine AW.tA ⟨[(2, (vc (.flt .f32 (Fl.cv .f64 .f32 a0).bits)))], []⟩ (Tt ∧ ((convBits .f64 a0.bits .f32).isSome = true) ∧ Tt ∧ Tt) [] [2] [] ⟨tr, c1, tr, tr⟩ ?_
  refine AW.ret ?_
  replace h := some_eq h
  subst h
  exact ⟨.inr rfl, retOK_of [(.one (cF (Fl.cv .f64 .f32 a0)))] (by kernel_rfl) ⟨⟨rfl, tr⟩, tr⟩ (of_decide_eq_true (by kernel_rfl))⟩

/-! spec.l01Sqrt -/
def spec_l01Sqrt (K : Nat) (a0 : F32) : Option (F32) :=
  (math_Sqrt K (Fl.cv .f32 .f64 a0)).bind fun v1 => (spec_l01Narrow K v1).bind fun v3 => some v3

theorem ok_spec_l01Sqrt (K : Nat) (a0 : F32) (o : (F32)) (h : spec_l01Sqrt K a0 = some o) : CallOK Tryz.prog 25 [.one (.flt .f32 a0.bits)] [.one (.flt .f32 o.bits)] := by
  refine callOK_of_AW Tryz.func25 rfl (by kernel_rfl) (Nat.le_of_ble_eq_true (by kernel_rfl)) ?_
  intro w0
  unfold spec_l01Sqrt at h
  refine AW.sC (Tt ∧ Tt) [] [0] [] ⟨tr, tr⟩ ?_
  refine AW.seq ?_
  obtain ⟨v1, e2, h⟩ := bind_some h
  obtain ⟨v3, e4, h⟩ := bind_some h
  refine AW.tA ⟨[(2, (vc (.flt .f32 v3.bits)))], []⟩ (Tt ∧ ((convBits .f32 a0.bits .f64).isSome = true) ∧ (((Eqc (.flt .f64 (Fl.cv .f32 .f64 a0).bits)) ∧ Tt) ∧ CallOK Tryz.prog 32 [.one (.flt .f64 (Fl.cv .f32 .f64 a0).bits)] [.one (.flt .f64 v1.bits)]) ∧ (((Eqc (.flt .f64 v1.bits)) ∧ Tt) ∧ CallOK Tryz.prog 33 [.one (.flt .f64 v1.bits)] [.one (.flt .f32 v3.bits)]) ∧ Tt ∧ Tt) [.no, .no, .call [.one (.flt .f64 (Fl.cv .f32 .f64 a0).bits)] [.one (.flt .f64 v1.bits)] [[.view]], .call [.one (.flt .f64 v1.bits)] [.one (.flt .f32 v3.bits)] [[.view]]] [2] [] ⟨tr, cv_wide a0, ⟨⟨rfl, tr⟩, ok_math_Sqrt K (Fl.cv .f32 .f64 a0) v1 e2⟩, ⟨⟨rfl, tr⟩, ok_spec_l01Narrow K v1 v3 e4⟩, tr, tr⟩ ?_
  refine AW.ret ?_
  replace h := some_eq h
  subst h
  exact ⟨.inr rfl, retOK_of [(.one (cF v3))] (by kernel_rfl) ⟨⟨rfl, tr⟩, tr⟩ (of_decide_eq_true (by kernel_rfl))⟩

/-! spec.RootNumber -/
def spec_RootNumber (K : Nat) (a0 : F32) : Option (F32) :=
  (spec_l01Sqrt K a0).bind fun v1 => some v1

theorem ok_spec_RootNumber (K : Nat) (a0 : F32) (o : (F32)) (h : spec_RootNumber K a0 = some o) : CallOK Tryz.prog 15 [.one (.flt .f32 a0.bits)] [.one (.flt .f32 o.bits)] := by
  refine callOK_of_AW Tryz.func15 rfl (by kernel_rfl) (Nat.le_of_ble_eq_true (by kernel_rfl)) ?_
  intro w0
  unfold spec_RootNumber at h
  refine AW.sC (Tt ∧ Tt) [] [0] [] ⟨tr, tr⟩ ?_
  refine AW.seq ?_
  obtain ⟨v1, e2, h⟩ := bind_some h
  refine AW.tA ⟨[(2, (vc (.flt .f32 v1.bits)))], []⟩ (Tt ∧ (((eF a0) ∧ Tt) ∧ CallOK Tryz.prog 25 [.one (.flt .f32 a0.bits)] [.one (.flt .f32 v1.bits)]) ∧ Tt ∧ Tt) [.no, .call [.one (.flt .f32 a0.bits)] [.one (.flt .f32 v1.bits)] [[.view]]] [2] [] ⟨tr, ⟨⟨rfl, tr⟩, ok_spec_l01Sqrt K a0 v1 e2⟩, tr, tr⟩ ?_
  refine AW.ret ?_
  replace h := some_eq h
  subst h
  exact ⟨.inr rfl, retOK_of [(.one (cF v1))] (by kernel_rfl) ⟨⟨rfl, tr⟩, tr⟩ (of_decide_eq_true (by kernel_rfl))⟩

/-! math.Float32bits -/
def math_Float32bits (_K : Nat) (a0 : F32) : Option (Int) :=
  a0.toBits

theorem ok_math_Float32bits (K : Nat) (a0 : F32) (o : Int) (h : math_Float32bits K a0 = some o) : CallOK Tryz.prog 42 [.one (.flt .f32 a0.bits)] [.one (.int .u32 o)] :=
  hand_toBits (e := Extern.MathFloatBits.float32bits) Tryz.func42 (by kernel_rfl) (by kernel_rfl) (by kernel_rfl) (by kernel_rfl) (fun _ _ => rfl) a0 o h

/-! spec.l01Bits -/
def spec_l01Bits (K : Nat) (a0 : F32) : Option (Int) :=
  ite2 ((a0.ne a0)) (some (2143289344 : Int)) ((math_Float32bits K a0).bind fun v2 => some (IntKind.i64.wrap v2))

theorem ok_spec_l01Bits (K : Nat) (a0 : F32) (o : (Int)) (h : spec_l01Bits K a0 = some o) : CallOK Tryz.prog 31 [.one (.flt .f32 a0.bits)] [.one (.int .i64 o)] := by
  refine callOK_of_AW Tryz.func31 rfl (by kernel_rfl) (Nat.le_of_ble_eq_true (by kernel_rfl)) ?_
  intro w0
  unfold spec_l01Bits at h
  refine AW.sC (Tt ∧ Tt) [] [0] [] ⟨tr, tr⟩ ?_
  refine AW.seq ?_
  refine AW.sA ⟨[(0, (vc (.flt .f32 a0.bits))), (5, (vB (a0.ne a0)))], []⟩ (Tt ∧ T2 Tt) [] [0, 5] [] ⟨tr, tr, tr, tr⟩ ?_
  rcases ite2_cases h with ⟨b1, h⟩ | ⟨b1, h⟩
  · refine AW.cond_t rfl b1 ?_
    refine AW.sA ⟨[(2, (vI (2143289344 : Int)))], []⟩ (Tt ∧ Tt) [] [2] [] ⟨tr, tr⟩ ?_
    refine AW.ret ?_
    refine thenQ_ret ?_
    replace h := some_eq h
    subst h
    exact ⟨.inr rfl, retOK_of [(.one (cI (2143289344 : Int)))] (by kernel_rfl) ⟨⟨rfl, tr⟩, tr⟩ (of_decide_eq_true (by kernel_rfl))⟩
  · refine AW.cond_f rfl b1 ?_
    refine AW.skip ?_
    refine thenQ_normal ?_
    refine AW.seq ?_
    obtain ⟨v2, e3, h⟩ := bind_some h
    refine AW.tA ⟨[(2, (vI (IntKind.i64.wrap v2)))], []⟩ (Tt ∧ (((eF a0) ∧ Tt) ∧ CallOK Tryz.prog 42 [.one (.flt .f32 a0.bits)] [.one (.int .u32 v2)]) ∧ T2 Tt) [.no, .call [.one (.flt .f32 a0.bits)] [.one (.int .u32 v2)] [[.view]]] [2] [] ⟨tr, ⟨⟨rfl, tr⟩, ok_math_Float32bits K a0 v2 e3⟩, tr, tr, tr⟩ ?_
    refine AW.ret ?_
    replace h := some_eq h
    subst h
    exact ⟨.inr rfl, retOK_of [(.one (cI (IntKind.i64.wrap v2)))] (by kernel_rfl) ⟨⟨rfl, tr⟩, tr⟩ (of_decide_eq_true (by kernel_rfl))⟩

/-! spec.l01Same -/
def spec_l01Same (K : Nat) (a0 : F32) (a1 : F32) : Option (Bool) :=
  (spec_l01Bits K a0).bind fun v1 => (spec_l01Bits K a1).bind fun v3 => some (v1 == v3)

theorem ok_spec_l01Same (K : Nat) (a0 : F32) (a1 : F32) (o : (Bool)) (h : spec_l01Same K a0 a1 = some o) : CallOK Tryz.prog 23 [.one (.flt .f32 a0.bits), .one (.flt .f32 a1.bits)] [.one (.bool o)] := by
  refine callOK_of_AW Tryz.func23 rfl (by kernel_rfl) (Nat.le_of_ble_eq_true (by kernel_rfl)) ?_
  intro w0
  unfold spec_l01Same at h
  refine AW.sC (Tt ∧ Tt) [] [0, 1] [] ⟨tr, tr⟩ ?_
  refine AW.seq ?_
  obtain ⟨v1, e2, h⟩ := bind_some h
  obtain ⟨v3, e4, h⟩ := bind_some h
  refine AW.tA ⟨[(4, (vB (v1 == v3)))], []⟩ (Tt ∧ (((eF a0) ∧ Tt) ∧ CallOK Tryz.prog 31 [.one (.flt .f32 a0.bits)] [.one (.int .i64 v1)]) ∧ Tt ∧ (((eF a1) ∧ Tt) ∧ CallOK Tryz.prog 31 [.one (.flt .f32 a1.bits)] [.one (.int .i64 v3)]) ∧ T2 Tt) [.no, .call [.one (.flt .f32 a0.bits)] [.one (.int .i64 v1)] [[.view]], .no, .call [.one (.flt .f32 a1.bits)] [.one (.int .i64 v3)] [[.view]]] [4] [] ⟨tr, ⟨⟨rfl, tr⟩, ok_spec_l01Bits K a0 v1 e2⟩, tr, ⟨⟨rfl, tr⟩, ok_spec_l01Bits K a1 v3 e4⟩, tr, tr, tr⟩ ?_
  refine AW.ret ?_
  replace h := some_eq h
  subst h
  exact ⟨.inr rfl, retOK_of [(.one (.c (.bool (v1 == v3))))] (by kernel_rfl) ⟨⟨rfl, tr⟩, tr⟩ (of_decide_eq_true (by kernel_rfl))⟩

/-! spec.SameNumber -/
def spec_SameNumber (K : Nat) (a0 : F32) (a1 : F32) : Option (Bool) :=
  (spec_l01Same K a0 a1).bind fun v1 => some v1

theorem ok_spec_SameNumber (K : Nat) (a0 : F32) (a1 : F32) (o : (Bool)) (h : spec_SameNumber K a0 a1 = some o) : CallOK Tryz.prog 13 [.one (.flt .f32 a0.bits), .one (.flt .f32 a1.bits)] [.one (.bool o)] := by
  refine callOK_of_AW Tryz.func13 rfl (by kernel_rfl) (Nat.le_of_ble_eq_true (by kernel_rfl)) ?_
  intro w0
  unfold spec_SameNumber at h
  refine AW.sC (Tt ∧ Tt) [] [0, 1] [] ⟨tr, tr⟩ ?_
  refine AW.seq ?_
  obtain ⟨v1, e2, h⟩ := bind_some h
  refine AW.tA ⟨[(4, (vB v1))], []⟩ (T2 ((((eF a0) ∧ (eF a1) ∧ Tt) ∧ CallOK Tryz.prog 23 [.one (.flt .f32 a0.bits), .one (.flt .f32 a1.bits)] [.one (.bool v1)]) ∧ Tt ∧ Tt)) [.no, .no, .call [.one (.flt .f32 a0.bits), .one (.flt .f32 a1.bits)] [.one (.bool v1)] [[.view]]] [4] [] ⟨tr, tr, ⟨⟨rfl, rfl, tr⟩, ok_spec_l01Same K a0 a1 v1 e2⟩, tr, tr⟩ ?_
  refine AW.ret ?_
  replace h := some_eq h
  subst h
  exact ⟨.inr rfl, retOK_of [(.one (.c (.bool v1)))] (by kernel_rfl) ⟨⟨rfl, tr⟩, tr⟩ (of_decide_eq_true (by kernel_rfl))⟩

/-! impl.BetweenVectors -/
def impl_BetweenVectors (K : Nat) (a0 : Vector) (a1 : Vector) (a2 : F32) : Option (Vector) :=
  (impl_LessVectors K a1 a0).bind fun v1 => (impl_ScaleVector K v1 a2).bind fun v3 => (impl_AddVectors K a0 v3).bind fun v5 => some v5

theorem ok_impl_BetweenVectors (K : Nat) (a0 : Vector) (a1 : Vector) (a2 : F32) (o : (Vector)) (h : impl_BetweenVectors K a0 a1 a2 = some o) : CallOK Tryz.prog 16 [.agg (cs_Vector a0), .agg (cs_Vector a1), .one (.flt .f32 a2.bits)] [.agg (cs_Vector o)] := by
  refine callOK_of_AW Tryz.func16 rfl (by kernel_rfl) (Nat.le_of_ble_eq_true (by kernel_rfl)) ?_
  intro w0
  unfold impl_BetweenVectors at h
  refine AW.sA ⟨[(2, (vc (.flt .f32 a2.bits))), (3, (vp 1 0)), (4, (vp 2 0)), (6, (vp 3 0))], [(1, (.box [(cF a0.X), (cF a0.Y), (cF a0.Z)])), (2, (.box [(cF a1.X), (cF a1.Y), (cF a1.Z)])), (3, (.box [(cF (default : F32)), (cF (default : F32)), (cF (default : F32))]))]⟩ (Tt ∧ T2 Tt) [.box 1, .box 2, .box 3] [2, 3, 4, 6] [1, 2, 3] ⟨tr, tr, tr, tr⟩ ?_
  refine AW.seq ?_
  obtain ⟨v1, e2, h⟩ := bind_some h
  obtain ⟨v3, e4, h⟩ := bind_some h
  obtain ⟨v5, e6, h⟩ := bind_some h
  refine AW.dA ⟨[(6, (vp 3 0))], [(3, (.box [(cF v5.X), (cF v5.Y), (cF v5.Z)]))]⟩ ((Tt ∧ T2 (((((eF a1.X) ∧ (eF a1.Y) ∧ (eF a1.Z) ∧ Tt) ∧ ((eF a0.X) ∧ (eF a0.Y) ∧ (eF a0.Z) ∧ Tt) ∧ Tt) ∧ CallOK Tryz.prog 8 [.agg (cs_Vector a1), .agg (cs_Vector a0)] [.agg (cs_Vector v1)]) ∧ Tt ∧ ((((eF v1.X) ∧ (eF v1.Y) ∧ (eF v1.Z) ∧ Tt) ∧ (eF a2) ∧ Tt) ∧ CallOK Tryz.prog 9 [.agg (cs_Vector v1), .one (.flt .f32 a2.bits)] [.agg (cs_Vector v3)]) ∧ ((((eF a0.X) ∧ (eF a0.Y) ∧ (eF a0.Z) ∧ Tt) ∧ ((eF v3.X) ∧ (eF v3.Y) ∧ (eF v3.Z) ∧ Tt) ∧ Tt) ∧ CallOK Tryz.prog 7 [.agg (cs_Vector a0), .agg (cs_Vector v3)] [.agg (cs_Vector v5)]) ∧ Tt)) ∧ (Tt ∧ Tt)) 7 [.no, .no, .no, .call [.agg (cs_Vector a1), .agg (cs_Vector a0)] [.agg (cs_Vector v1)] [[.view, .view, .view]], .no, .call [.agg (cs_Vector v1), .one (.flt .f32 a2.bits)] [.agg (cs_Vector v3)] [[.view, .view, .view]], .call [.agg (cs_Vector a0), .agg (cs_Vector v3)] [.agg (cs_Vector v5)] [[.view, .view, .view]]] [6] [3] ⟨⟨tr, tr, tr, ⟨⟨⟨rfl, rfl, rfl, tr⟩, ⟨rfl, rfl, rfl, tr⟩, tr⟩, ok_impl_LessVectors K a1 a0 v1 e2⟩, tr, ⟨⟨⟨rfl, rfl, rfl, tr⟩, rfl, tr⟩, ok_impl_ScaleVector K v1 a2 v3 e4⟩, ⟨⟨⟨rfl, rfl, rfl, tr⟩, ⟨rfl, rfl, rfl, tr⟩, tr⟩, ok_impl_AddVectors K a0 v3 v5 e6⟩, tr⟩, ⟨tr, tr⟩⟩ ?_
  refine thenQ_normal ?_
  refine AW.ret ?_
  replace h := some_eq h
  subst h
  exact ⟨.inr rfl, retOK_of [(.agg [(cF v5.X), (cF v5.Y), (cF v5.Z)])] (by kernel_rfl) ⟨⟨⟨rfl, tr⟩, ⟨rfl, tr⟩, ⟨rfl, tr⟩, tr⟩, tr⟩ (of_decide_eq_true (by kernel_rfl))⟩

/-! (*spec.l00Src).one -/
def spec_l00Src_one (K : Nat) (a0 : l00Src) (a1 : Int) : Option (Bool × Int × Int) :=
  (spec_l00Src_pick K a0 a1).bind fun v1 => some ((v1.1 == (0 : Int)), v1.2.1, v1.2.2)

theorem ok_spec_l00Src_one (K : Nat) (a0 : l00Src) (a1 : Int) (o : (Bool × Int × Int)) (h : spec_l00Src_one K a0 a1 = some o) : MutOK Tryz.prog 34 [(.box 3 (fun j => [true, false, false].getD j true) (fun j => (cs_l00Src a0).getD j .nilptr) (fun j => [.nilptr, (.int .i64 o.2.1), (.int .u64 o.2.2)].getD j .nilptr)), (.one (.ro (.int .i64 a1)))] [.one (.bool o.1)] := by
  refine mutOK_of_AW 1 Tryz.func34 rfl (by kernel_rfl) (Nat.le_of_ble_eq_true (by kernel_rfl)) (by kernel_rfl) (by kernel_rfl) ?_
  intro w0 K0 v0 s0
  unfold spec_l00Src_one at h
  refine AW.weak (s' := ⟨[(0, (vp 0 0)), (1, (vI a1))], [(0, (.box [(.fx 0 0 (sl 1 (csI .u8) a0.code)), (cI a0.at_), (.c (.int .u64 a0.seed))]))]⟩) (subUnfx 0 [1, 2] (by kernel_rfl)) ?_
  refine AW.sC (Tt ∧ Tt) [] [0, 1] [0] ⟨tr, tr⟩ ?_
  refine AW.seq ?_
  obtain ⟨v1, e2, h⟩ := bind_some h
  refine AW.tA ⟨[(0, (vp 0 0)), (1, (vI a1)), (4, (vB (v1.1 == (0 : Int))))], [(0, (.box [(.fx 0 0 (sl 1 (csI .u8) a0.code)), (cI v1.2.1), (.c (.int .u64 v1.2.2))]))]⟩ (T2 (((((Eqc (sl 1 (csI .u8) a0.code)) ∧ (eI a0.at_) ∧ (Eqc (.int .u64 a0.seed)) ∧ Tt) ∧ (eI a1) ∧ Tt) ∧ MutOK Tryz.prog 22 [(.box 3 (fun j => [true, false, false].getD j true) (fun j => (cs_l00Src a0).getD j .nilptr) (fun j => [.nilptr, (.int .i64 v1.2.1), (.int .u64 v1.2.2)].getD j .nilptr)), .one (.ro (.int .i64 a1))] [.one (.int .i64 v1.1)]) ∧ T2 Tt)) [.no, .no, .callM [(.box 3 (fun j => [true, false, false].getD j true) (fun j => (cs_l00Src a0).getD j .nilptr) (fun j => [.nilptr, (.int .i64 v1.2.1), (.int .u64 v1.2.2)].getD j .nilptr)), .one (.ro (.int .i64 a1))] [.one (.int .i64 v1.1)] [[.view]] none] [0, 1, 4] [0] ⟨tr, tr, ⟨⟨⟨rfl, rfl, rfl, tr⟩, rfl, tr⟩, ok_spec_l00Src_pick K a0 a1 v1 e2⟩, tr, tr, tr⟩ ?_
  refine AW.ret ?_
  replace h := some_eq h
  subst h
  exact ⟨.inr rfl, retOK_of [(.one (.c (.bool (v1.1 == (0 : Int)))))] (by kernel_rfl) ⟨⟨rfl, tr⟩, tr⟩ (of_decide_eq_true (by kernel_rfl)), by kernel_rfl, ⟨⟨rfl, ⟨⟨rfl, rfl⟩, ⟨rfl, rfl⟩, ⟨rfl, rfl⟩, tr⟩⟩, tr, tr⟩⟩

/-! spec.l01DrawSmall -/
def spec_l01DrawSmall (K : Nat) (a0 : l00Src) : Option (F32 × Int × Int) :=
  (spec_l00Src_pick K a0 (33 : Int)).bind fun v1 => some (((Fl.ofInt .f32 (IntKind.i64.wrap (v1.1 - (16 : Int)))).div (Fl.mk (k := .f32) 1082130432 (by decide))), v1.2.1, v1.2.2)

theorem ok_spec_l01DrawSmall (K : Nat) (a0 : l00Src) (o : (F32 × Int × Int)) (h : spec_l01DrawSmall K a0 = some o) : MutOK Tryz.prog 35 [(.box 3 (fun j => [true, false, false].getD j true) (fun j => (cs_l00Src a0).getD j .nilptr) (fun j => [.nilptr, (.int .i64 o.2.1), (.int .u64 o.2.2)].getD j .nilptr))] [.one (.flt .f32 o.1.bits)] := by
  refine mutOK_of_AW 1 Tryz.func35 rfl (by kernel_rfl) (Nat.le_of_ble_eq_true (by kernel_rfl)) (by kernel_rfl) (by kernel_rfl) ?_
  intro w0 K0 v0 s0
  unfold spec_l01DrawSmall at h
  refine AW.weak (s' := ⟨[(0, (vp 0 0))], [(0, (.box [(.fx 0 0 (sl 1 (csI .u8) a0.code)), (cI a0.at_), (.c (.int .u64 a0.seed))]))]⟩) (subUnfx 0 [1, 2] (by kernel_rfl)) ?_
  refine AW.sC (Tt ∧ Tt) [] [0] [0] ⟨tr, tr⟩ ?_
  refine AW.seq ?_
  obtain ⟨v1, e2, h⟩ := bind_some h
  refine AW.tA ⟨[(0, (vp 0 0)), (2, (vc (.flt .f32 ((Fl.ofInt .f32 (IntKind.i64.wrap (v1.1 - (16 : Int)))).div (Fl.mk (k := .f32) 1082130432 (by decide))).bits)))], [(0, (.box [(.fx 0 0 (sl 1 (csI .u8) a0.code)), (cI v1.2.1), (.c (.int .u64 v1.2.2))]))]⟩ (Tt ∧ ((((Eqc (sl 1 (csI .u8) a0.code)) ∧ (eI a0.at_) ∧ (Eqc (.int .u64 a0.seed)) ∧ Tt) ∧ (eI (33 : Int)) ∧ Tt) ∧ MutOK Tryz.prog 22 [(.box 3 (fun j => [true, false, false].getD j true) (fun j => (cs_l00Src a0).getD j .nilptr) (fun j => [.nilptr, (.int .i64 v1.2.1), (.int .u64 v1.2.2)].getD j .nilptr)), .one (.ro (.int .i64 (33 : Int)))] [.one (.int .i64 v1.1)]) ∧ T4 Tt) [.no, .callM [(.box 3 (fun j => [true, false, false].getD j true) (fun j => (cs_l00Src a0).getD j .nilptr) (fun j => [.nilptr, (.int .i64 v1.2.1), (.int .u64 v1.2.2)].getD j .nilptr)), .one (.ro (.int .i64 (33 : Int)))] [.one (.int .i64 v1.1)] [[.view]] none] [0, 2] [0] ⟨tr, ⟨⟨⟨rfl, rfl, rfl, tr⟩, rfl, tr⟩, ok_spec_l00Src_pick K a0 (33 : Int) v1 e2⟩, tr, tr, tr, tr, tr⟩ ?_
  refine AW.ret ?_
  replace h := some_eq h
  subst h
  exact ⟨.inr rfl, retOK_of [(.one (cF ((Fl.ofInt .f32 (IntKind.i64.wrap (v1.1 - (16 : Int)))).div (Fl.mk (k := .f32) 1082130432 (by decide)))))] (by kernel_rfl) ⟨⟨rfl, tr⟩, tr⟩ (of_decide_eq_true (by kernel_rfl)), by kernel_rfl, ⟨⟨rfl, ⟨⟨rfl, rfl⟩, ⟨rfl, rfl⟩, ⟨rfl, rfl⟩, tr⟩⟩, tr⟩⟩

/-! spec.l01DrawPlain -/
def spec_l01DrawPlain (K : Nat) (a0 : l00Src) : Option (F32 × Int × Int) :=
  (spec_l00Src_pick K a0 (129 : Int)).bind fun v1 => (spec_l00Src_one K (l00Src.mk a0.code v1.2.1 v1.2.2) (4 : Int)).bind fun v3 => ite2 (v3.1) (some (((Fl.ofInt .f32 (IntKind.i64.wrap (v1.1 - (64 : Int)))).div (Fl.mk (k := .f32) 1088421888 (by decide))), v3.2.1, v3.2.2)) (some (((Fl.ofInt .f32 (IntKind.i64.wrap (v1.1 - (64 : Int)))).div (Fl.mk (k := .f32) 1098907648 (by decide))), v3.2.1, v3.2.2))

theorem ok_spec_l01DrawPlain (K : Nat) (a0 : l00Src) (o : (F32 × Int × Int)) (h : spec_l01DrawPlain K a0 = some o) : MutOK Tryz.prog 44 [(.box 3 (fun j => [true, false, false].getD j true) (fun j => (cs_l00Src a0).getD j .nilptr) (fun j => [.nilptr, (.int .i64 o.2.1), (.int .u64 o.2.2)].getD j .nilptr))] [.one (.flt .f32 o.1.bits)] := by
  refine mutOK_of_AW 1 Tryz.func44 rfl (by kernel_rfl) (Nat.le_of_ble_eq_true (by kernel_rfl)) (by kernel_rfl) (by kernel_rfl) ?_
  intro w0 K0 v0 s0
  unfold spec_l01DrawPlain at h
  refine AW.weak (s' := ⟨[(0, (vp 0 0))], [(0, (.box [(.fx 0 0 (sl 1 (csI .u8) a0.code)), (cI a0.at_), (.c (.int .u64 a0.seed))]))]⟩) (subUnfx 0 [1, 2] (by kernel_rfl)) ?_
  refine AW.sC (Tt ∧ Tt) [] [0] [0] ⟨tr, tr⟩ ?_
  refine AW.seq ?_
  obtain ⟨v1, e2, h⟩ := bind_some h
  refine AW.tC (Tt ∧ ((((Eqc (sl 1 (csI .u8) a0.code)) ∧ (eI a0.at_) ∧ (Eqc (.int .u64 a0.seed)) ∧ Tt) ∧ (eI (129 : Int)) ∧ Tt) ∧ MutOK Tryz.prog 22 [(.box 3 (fun j => [true, false, false].getD j true) (fun j => (cs_l00Src a0).getD j .nilptr) (fun j => [.nilptr, (.int .i64 v1.2.1), (.int .u64 v1.2.2)].getD j .nilptr)), .one (.ro (.int .i64 (129 : Int)))] [.one (.int .i64 v1.1)]) ∧ T2 Tt) [.no, .callM [(.box 3 (fun j => [true, false, false].getD j true) (fun j => (cs_l00Src a0).getD j .nilptr) (fun j => [.nilptr, (.int .i64 v1.2.1), (.int .u64 v1.2.2)].getD j .nilptr)), .one (.ro (.int .i64 (129 : Int)))] [.one (.int .i64 v1.1)] [[.view]] none] [0, 3] [0] ⟨tr, ⟨⟨⟨rfl, rfl, rfl, tr⟩, rfl, tr⟩, ok_spec_l00Src_pick K a0 (129 : Int) v1 e2⟩, tr, tr, tr⟩ ?_
  refine AW.seq ?_
  refine AW.seq ?_
  obtain ⟨v3, e4, h⟩ := bind_some h
  refine AW.tA ⟨[(0, (vp 0 0)), (3, (vI (IntKind.i64.wrap (v1.1 - (64 : Int))))), (8, (vB v3.1))], [(0, (.box [(.fx 0 0 (sl 1 (csI .u8) a0.code)), (cI v3.2.1), (.c (.int .u64 v3.2.2))]))]⟩ (Tt ∧ ((((Eqc (sl 1 (csI .u8) a0.code)) ∧ (eI v1.2.1) ∧ (Eqc (.int .u64 v1.2.2)) ∧ Tt) ∧ (eI (4 : Int)) ∧ Tt) ∧ MutOK Tryz.prog 34 [(.box 3 (fun j => [true, false, false].getD j true) (fun j => (cs_l00Src (l00Src.mk a0.code v1.2.1 v1.2.2)).getD j .nilptr) (fun j => [.nilptr, (.int .i64 v3.2.1), (.int .u64 v3.2.2)].getD j .nilptr)), .one (.ro (.int .i64 (4 : Int)))] [.one (.bool v3.1)]) ∧ Tt) [.no, .callM [(.box 3 (fun j => [true, false, false].getD j true) (fun j => (cs_l00Src (l00Src.mk a0.code v1.2.1 v1.2.2)).getD j .nilptr) (fun j => [.nilptr, (.int .i64 v3.2.1), (.int .u64 v3.2.2)].getD j .nilptr)), .one (.ro (.int .i64 (4 : Int)))] [.one (.bool v3.1)] [[.view]] none] [0, 3, 8] [0] ⟨tr, ⟨⟨⟨rfl, rfl, rfl, tr⟩, rfl, tr⟩, ok_spec_l00Src_one K (l00Src.mk a0.code v1.2.1 v1.2.2) (4 : Int) v3 e4⟩, tr⟩ ?_
  rcases ite2_cases h with ⟨b5, h⟩ | ⟨b5, h⟩
  · refine AW.cond_t rfl b5 ?_
    refine AW.sA ⟨[(0, (vp 0 0)), (2, (vc (.flt .f32 ((Fl.ofInt .f32 (IntKind.i64.wrap (v1.1 - (64 : Int)))).div (Fl.mk (k := .f32) 1088421888 (by decide))).bits)))], [(0, (.box [(.fx 0 0 (sl 1 (csI .u8) a0.code)), (cI v3.2.1), (.c (.int .u64 v3.2.2))]))]⟩ (T4 Tt) [] [0, 2] [0] ⟨tr, tr, tr, tr, tr⟩ ?_
    refine AW.ret ?_
    refine thenQ_ret ?_
    replace h := some_eq h
    subst h
    exact ⟨.inr rfl, retOK_of [(.one (cF ((Fl.ofInt .f32 (IntKind.i64.wrap (v1.1 - (64 : Int)))).div (Fl.mk (k := .f32) 1088421888 (by decide)))))] (by kernel_rfl) ⟨⟨rfl, tr⟩, tr⟩ (of_decide_eq_true (by kernel_rfl)), by kernel_rfl, ⟨⟨rfl, ⟨⟨rfl, rfl⟩, ⟨rfl, rfl⟩, ⟨rfl, rfl⟩, tr⟩⟩, tr⟩⟩
  · refine AW.cond_f rfl b5 ?_
    refine AW.skip ?_
    refine thenQ_normal ?_
    refine AW.sA ⟨[(0, (vp 0 0)), (2, (vc (.flt .f32 ((Fl.ofInt .f32 (IntKind.i64.wrap (v1.1 - (64 : Int)))).div (Fl.mk (k := .f32) 1098907648 (by decide))).bits)))], [(0, (.box [(.fx 0 0 (sl 1 (csI .u8) a0.code)), (cI v3.2.1), (.c (.int .u64 v3.2.2))]))]⟩ (T4 Tt) [] [0, 2] [0] ⟨tr, tr, tr, tr, tr⟩ ?_
    refine AW.ret ?_
    replace h := some_eq h
    subst h
    exact ⟨.inr rfl, retOK_of [(.one (cF ((Fl.ofInt .f32 (IntKind.i64.wrap (v1.1 - (64 : Int)))).div (Fl.mk (k := .f32) 1098907648 (by decide)))))] (by kernel_rfl) ⟨⟨rfl, tr⟩, tr⟩ (of_decide_eq_true (by kernel_rfl)), by kernel_rfl, ⟨⟨rfl, ⟨⟨rfl, rfl⟩, ⟨rfl, rfl⟩, ⟨rfl, rfl⟩, tr⟩⟩, tr⟩⟩

/-! (*spec.l00Src).among -/
def spec_l00Src_among (K : Nat) (a0 : l00Src) (a1 : (List Int)) : Option (Int × Int × Int) :=
  (spec_l00Src_pick K a0 (a1.length : Int)).bind fun v1 => chk (0 ≤ v1.1 ∧ v1.1 < (a1.length : Int)) (some ((a1.getD v1.1.toNat default), v1.2.1, v1.2.2))

theorem ok_spec_l00Src_among (K : Nat) (a0 : l00Src) (a1 : (List Int)) (o : (Int × Int × Int)) (h : spec_l00Src_among K a0 a1 = some o) : MutOK Tryz.prog 46 [(.box 3 (fun j => [true, false, false].getD j true) (fun j => (cs_l00Src a0).getD j .nilptr) (fun j => [.nilptr, (.int .i64 o.2.1), (.int .u64 o.2.2)].getD j .nilptr)), (.one (.ro (sl 1 (csI .i64) a1)))] [.one (.int .i64 o.1)] := by
  refine mutOK_of_AW 1 Tryz.func46 rfl (by kernel_rfl) (Nat.le_of_ble_eq_true (by kernel_rfl)) (by kernel_rfl) (by kernel_rfl) ?_
  intro w0 K0 v0 s0
  unfold spec_l00Src_among at h
  refine AW.weak (s' := ⟨[(0, (vp 0 0)), (1, (vc (sl 1 (csI .i64) a1)))], [(0, (.box [(.fx 0 0 (sl 1 (csI .u8) a0.code)), (cI a0.at_), (.c (.int .u64 a0.seed))]))]⟩) (subUnfx 0 [1, 2] (by kernel_rfl)) ?_
  refine AW.sC (Tt ∧ Tt) [] [0, 1] [0] ⟨tr, tr⟩ ?_
  refine AW.seq ?_
  obtain ⟨v1, e2, h⟩ := bind_some h
  obtain ⟨c3, h⟩ := chk_some h
  refine AW.tA ⟨[(0, (vp 0 0)), (1, (vc (sl 1 (csI .i64) a1))), (4, (vI (a1.getD v1.1.toNat default)))], [(0, (.box [(.fx 0 0 (sl 1 (csI .u8) a0.code)), (cI v1.2.1), (.c (.int .u64 v1.2.2))]))]⟩ (T4 (((((Eqc (sl 1 (csI .u8) a0.code)) ∧ (eI a0.at_) ∧ (Eqc (.int .u64 a0.seed)) ∧ Tt) ∧ (eI (a1.length : Int)) ∧ Tt) ∧ MutOK Tryz.prog 22 [(.box 3 (fun j => [true, false, false].getD j true) (fun j => (cs_l00Src a0).getD j .nilptr) (fun j => [.nilptr, (.int .i64 v1.2.1), (.int .u64 v1.2.2)].getD j .nilptr)), .one (.ro (.int .i64 (a1.length : Int)))] [.one (.int .i64 v1.1)]) ∧ (0 ≤ v1.1 ∧ v1.1 < (a1.length : Int)) ∧ T2 Tt)) [.no, .no, .no, .no, .callM [(.box 3 (fun j => [true, false, false].getD j true) (fun j => (cs_l00Src a0).getD j .nilptr) (fun j => [.nilptr, (.int .i64 v1.2.1), (.int .u64 v1.2.2)].getD j .nilptr)), .one (.ro (.int .i64 (a1.length : Int)))] [.one (.int .i64 v1.1)] [[.view]] none] [0, 1, 4] [0] ⟨tr, tr, tr, tr, ⟨⟨⟨rfl, rfl, rfl, tr⟩, rfl, tr⟩, ok_spec_l00Src_pick K a0 (a1.length : Int) v1 e2⟩, c3, tr, tr, tr⟩ ?_
  refine AW.ret ?_
  replace h := some_eq h
  subst h
  exact ⟨.inr rfl, retOK_of [(.one (cI (a1.getD v1.1.toNat default)))] (by kernel_rfl) ⟨⟨rfl, tr⟩, tr⟩ (of_decide_eq_true (by kernel_rfl)), by kernel_rfl, ⟨⟨rfl, ⟨⟨rfl, rfl⟩, ⟨rfl, rfl⟩, ⟨rfl, rfl⟩, tr⟩⟩, tr, tr⟩⟩

/-! math.Float32frombits -/
def math_Float32frombits (_K : Nat) (a0 : Int) : Option (F32) :=
  Fl.ofBits .f32 a0

theorem ok_math_Float32frombits (K : Nat) (a0 : Int) (o : F32) (h : math_Float32frombits K a0 = some o) : CallOK Tryz.prog 53 [.one (.int .u32 a0)] [.one (.flt .f32 o.bits)] :=
  hand_ofBits (e := Extern.MathFloatBits.float32frombits) Tryz.func53 (by kernel_rfl) (by kernel_rfl) (by kernel_rfl) (by kernel_rfl) (fun _ _ => rfl) a0 o h

/-! spec.l01From -/
def spec_l01From (K : Nat) (a0 : Int) : Option (F32) :=
  (math_Float32frombits K (IntKind.u32.wrap a0)).bind fun v1 => some v1

theorem ok_spec_l01From (K : Nat) (a0 : Int) (o : (F32)) (h : spec_l01From K a0 = some o) : CallOK Tryz.prog 45 [.one (.int .i64 a0)] [.one (.flt .f32 o.bits)] := by
  refine callOK_of_AW Tryz.func45 rfl (by kernel_rfl) (Nat.le_of_ble_eq_true (by kernel_rfl)) ?_
  intro w0
  unfold spec_l01From at h
  refine AW.sC (Tt ∧ Tt) [] [0] [] ⟨tr, tr⟩ ?_
  refine AW.seq ?_
  obtain ⟨v1, e2, h⟩ := bind_some h
  refine AW.tA ⟨[(2, (vc (.flt .f32 v1.bits)))], []⟩ (T2 ((((Eqc (.int .u32 (IntKind.u32.wrap a0))) ∧ Tt) ∧ CallOK Tryz.prog 53 [.one (.int .u32 (IntKind.u32.wrap a0))] [.one (.flt .f32 v1.bits)]) ∧ Tt ∧ Tt)) [.no, .no, .call [.one (.int .u32 (IntKind.u32.wrap a0))] [.one (.flt .f32 v1.bits)] [[.view]]] [2] [] ⟨tr, tr, ⟨⟨rfl, tr⟩, ok_math_Float32frombits K (IntKind.u32.wrap a0) v1 e2⟩, tr, tr⟩ ?_
  refine AW.ret ?_
  replace h := some_eq h
  subst h
  exact ⟨.inr rfl, retOK_of [(.one (cF v1))] (by kernel_rfl) ⟨⟨rfl, tr⟩, tr⟩ (of_decide_eq_true (by kernel_rfl))⟩

/-! spec.l01DrawFloat -/
def spec_l01DrawFloat (K : Nat) (a0 : l00Src) : Option (F32 × Int × Int) :=
  (spec_l00Src_one K a0 (12 : Int)).bind fun v1 => ite2 ((!v1.1)) ((spec_l01DrawPlain K (l00Src.mk a0.code v1.2.1 v1.2.2)).bind fun v4 => some (v4.1, v4.2.1, v4.2.2)) ((spec_l00Src_pick K (l00Src.mk a0.code v1.2.1 v1.2.2) (4 : Int)).bind fun v6 => ite2 ((v6.1 == (0 : Int))) ((spec_l00Src_among K (l00Src.mk a0.code v6.2.1 v6.2.2) ([(0 : Int), (2147483648 : Int), (2139095040 : Int), (4286578688 : Int), (2143289344 : Int), (1 : Int), (2139095039 : Int), (8388608 : Int), (8388607 : Int), (2147483649 : Int)])).bind fun v9 => (spec_l01From K v9.1).bind fun v11 => some (v11, v9.2.1, v9.2.2)) (ite2 ((v6.1 == (1 : Int))) ((spec_l00Src_pick K (l00Src.mk a0.code v6.2.1 v6.2.2) (65536 : Int)).bind fun v14 => (spec_l00Src_pick K (l00Src.mk a0.code v14.2.1 v14.2.2) (65536 : Int)).bind fun v16 => (spec_l01From K (IntKind.i64.wrap ((IntKind.i64.wrap (v14.1 * (65536 : Int))) + v16.1))).bind fun v18 => some (v18, v16.2.1, v16.2.2)) (ite2 ((v6.1 == (2 : Int))) ((spec_l00Src_pick K (l00Src.mk a0.code v6.2.1 v6.2.2) (65536 : Int)).bind fun v21 => (spec_l01From K (IntKind.i64.wrap (v21.1 * (65536 : Int)))).bind fun v23 => some (v23, v21.2.1, v21.2.2)) ((spec_l01DrawPlain K (l00Src.mk a0.code v6.2.1 v6.2.2)).bind fun v25 => (spec_l00Src_among K (l00Src.mk a0.code v25.2.1 v25.2.2) ([(8388608 : Int), (2130706432 : Int), (1610612736 : Int), (536870912 : Int)])).bind fun v27 => (spec_l01From K v27.1).bind fun v29 => some ((v25.1.mul v29), v27.2.1, v27.2.2)))))

theorem ok_spec_l01DrawFloat (K : Nat) (a0 : l00Src) (o : (F32 × Int × Int)) (h : spec_l01DrawFloat K a0 = some o) : MutOK Tryz.prog 36 [(.box 3 (fun j => [true, false, false].getD j true) (fun j => (cs_l00Src a0).getD j .nilptr) (fun j => [.nilptr, (.int .i64 o.2.1), (.int .u64 o.2.2)].getD j .nilptr))] [.one (.flt .f32 o.1.bits)] := by
  refine mutOK_of_AW 1 Tryz.func36 rfl (by kernel_rfl) (Nat.le_of_ble_eq_true (by kernel_rfl)) (by kernel_rfl) (by kernel_rfl) ?_
  intro w0 K0 v0 s0
  unfold spec_l01DrawFloat at h
  refine AW.weak (s' := ⟨[(0, (vp 0 0))], [(0, (.box [(.fx 0 0 (sl 1 (csI .u8) a0.code)), (cI a0.at_), (.c (.int .u64 a0.seed))]))]⟩) (subUnfx 0 [1, 2] (by kernel_rfl)) ?_
  refine AW.sC (Tt ∧ Tt) [] [0] [0] ⟨tr, tr⟩ ?_
  refine AW.seq ?_
  refine AW.seq ?_
  obtain ⟨v1, e2, h⟩ := bind_some h
  refine AW.tA ⟨[(0, (vp 0 0)), (6, (vB (!v1.1)))], [(0, (.box [(.fx 0 0 (sl 1 (csI .u8) a0.code)), (cI v1.2.1), (.c (.int .u64 v1.2.2))]))]⟩ (Tt ∧ ((((Eqc (sl 1 (csI .u8) a0.code)) ∧ (eI a0.at_) ∧ (Eqc (.int .u64 a0.seed)) ∧ Tt) ∧ (eI (12 : Int)) ∧ Tt) ∧ MutOK Tryz.prog 34 [(.box 3 (fun j => [true, false, false].getD j true) (fun j => (cs_l00Src a0).getD j .nilptr) (fun j => [.nilptr, (.int .i64 v1.2.1), (.int .u64 v1.2.2)].getD j .nilptr)), .one (.ro (.int .i64 (12 : Int)))] [.one (.bool v1.1)]) ∧ Tt ∧ Tt) [.no, .callM [(.box 3 (fun j => [true, false, false].getD j true) (fun j => (cs_l00Src a0).getD j .nilptr) (fun j => [.nilptr, (.int .i64 v1.2.1), (.int .u64 v1.2.2)].getD j .nilptr)), .one (.ro (.int .i64 (12 : Int)))] [.one (.bool v1.1)] [[.view]] none] [0, 6] [0] ⟨tr, ⟨⟨⟨rfl, rfl, rfl, tr⟩, rfl, tr⟩, ok_spec_l00Src_one K a0 (12 : Int) v1 e2⟩, tr, tr⟩ ?_
  rcases ite2_cases h with ⟨b3, h⟩ | ⟨b3, h⟩
  · refine AW.cond_t rfl b3 ?_
    refine AW.seq ?_
    obtain ⟨v4, e5, h⟩ := bind_some h
    refine AW.tA ⟨[(0, (vp 0 0)), (2, (vc (.flt .f32 v4.1.bits)))], [(0, (.box [(.fx 0 0 (sl 1 (csI .u8) a0.code)), (cI v4.2.1), (.c (.int .u64 v4.2.2))]))]⟩ (Tt ∧ ((((Eqc (sl 1 (csI .u8) a0.code)) ∧ (eI v1.2.1) ∧ (Eqc (.int .u64 v1.2.2)) ∧ Tt) ∧ Tt) ∧ MutOK Tryz.prog 44 [(.box 3 (fun j => [true, false, false].getD j true) (fun j => (cs_l00Src (l00Src.mk a0.code v1.2.1 v1.2.2)).getD j .nilptr) (fun j => [.nilptr, (.int .i64 v4.2.1), (.int .u64 v4.2.2)].getD j .nilptr))] [.one (.flt .f32 v4.1.bits)]) ∧ Tt ∧ Tt) [.no, .callM [(.box 3 (fun j => [true, false, false].getD j true) (fun j => (cs_l00Src (l00Src.mk a0.code v1.2.1 v1.2.2)).getD j .nilptr) (fun j => [.nilptr, (.int .i64 v4.2.1), (.int .u64 v4.2.2)].getD j .nilptr))] [.one (.flt .f32 v4.1.bits)] [[.view]] none] [0, 2] [0] ⟨tr, ⟨⟨⟨rfl, rfl, rfl, tr⟩, tr⟩, ok_spec_l01DrawPlain K (l00Src.mk a0.code v1.2.1 v1.2.2) v4 e5⟩, tr, tr⟩ ?_
    refine AW.ret ?_
    refine thenQ_ret ?_
    replace h := some_eq h
    subst h
    exact ⟨.inr rfl, retOK_of [(.one (cF v4.1))] (by kernel_rfl) ⟨⟨rfl, tr⟩, tr⟩ (of_decide_eq_true (by kernel_rfl)), by kernel_rfl, ⟨⟨rfl, ⟨⟨rfl, rfl⟩, ⟨rfl, rfl⟩, ⟨rfl, rfl⟩, tr⟩⟩, tr⟩⟩
  · refine AW.cond_f rfl b3 ?_
    refine AW.skip ?_
    refine thenQ_normal ?_
    refine AW.seq ?_
    refine AW.seq ?_
    obtain ⟨v6, e7, h⟩ := bind_some h
    refine AW.tA ⟨[(0, (vp 0 0)), (10, (vI v6.1))], [(0, (.box [(.fx 0 0 (sl 1 (csI .u8) a0.code)), (cI v6.2.1), (.c (.int .u64 v6.2.2))]))]⟩ (Tt ∧ ((((Eqc (sl 1 (csI .u8) a0.code)) ∧ (eI v1.2.1) ∧ (Eqc (.int .u64 v1.2.2)) ∧ Tt) ∧ (eI (4 : Int)) ∧ Tt) ∧ MutOK Tryz.prog 22 [(.box 3 (fun j => [true, false, false].getD j true) (fun j => (cs_l00Src (l00Src.mk a0.code v1.2.1 v1.2.2)).getD j .nilptr) (fun j => [.nilptr, (.int .i64 v6.2.1), (.int .u64 v6.2.2)].getD j .nilptr)), .one (.ro (.int .i64 (4 : Int)))] [.one (.int .i64 v6.1)]) ∧ Tt) [.no, .callM [(.box 3 (fun j => [true, false, false].getD j true) (fun j => (cs_l00Src (l00Src.mk a0.code v1.2.1 v1.2.2)).getD j .nilptr) (fun j => [.nilptr, (.int .i64 v6.2.1), (.int .u64 v6.2.2)].getD j .nilptr)), .one (.ro (.int .i64 (4 : Int)))] [.one (.int .i64 v6.1)] [[.view]] none] [0, 10] [0] ⟨tr, ⟨⟨⟨rfl, rfl, rfl, tr⟩, rfl, tr⟩, ok_spec_l00Src_pick K (l00Src.mk a0.code v1.2.1 v1.2.2) (4 : Int) v6 e7⟩, tr⟩ ?_
    refine AW.block ?_
    refine AW.sA ⟨[(0, (vp 0 0)), (10, (vI v6.1)), (11, (vB (v6.1 == (0 : Int))))], [(0, (.box [(.fx 0 0 (sl 1 (csI .u8) a0.code)), (cI v6.2.1), (.c (.int .u64 v6.2.2))]))]⟩ (T2 Tt) [] [0, 10, 11] [0] ⟨tr, tr, tr⟩ ?_
    rcases ite2_cases h with ⟨b8, h⟩ | ⟨b8, h⟩
    · refine AW.cond_t rfl b8 ?_
      refine AW.seq ?_
      obtain ⟨v9, e10, h⟩ := bind_some h
      obtain ⟨v11, e12, h⟩ := bind_some h
      refine AW.tA ⟨[(0, (vp 0 0)), (2, (vc (.flt .f32 v11.bits)))], [(0, (.box [(.fx 0 0 (sl 1 (csI .u8) a0.code)), (cI v9.2.1), (.c (.int .u64 v9.2.2))]))]⟩ (Tt ∧ (([(0 : Int), (2147483648 : Int), (2139095040 : Int), (4286578688 : Int), (2143289344 : Int), (1 : Int), (2139095039 : Int), (8388608 : Int), (8388607 : Int), (2147483649 : Int)]).length = 10 ∧ (((.int .i64 (0 : Int)) : C) = (.int .i64 (0 : Int)) ∧ Tt) ∧ (((.int .i64 (2147483648 : Int)) : C) = (.int .i64 (2147483648 : Int)) ∧ Tt) ∧ (((.int .i64 (2139095040 : Int)) : C) = (.int .i64 (2139095040 : Int)) ∧ Tt) ∧ (((.int .i64 (4286578688 : Int)) : C) = (.int .i64 (4286578688 : Int)) ∧ Tt) ∧ (((.int .i64 (2143289344 : Int)) : C) = (.int .i64 (2143289344 : Int)) ∧ Tt) ∧ (((.int .i64 (1 : Int)) : C) = (.int .i64 (1 : Int)) ∧ Tt) ∧ (((.int .i64 (2139095039 : Int)) : C) = (.int .i64 (2139095039 : Int)) ∧ Tt) ∧ (((.int .i64 (8388608 : Int)) : C) = (.int .i64 (8388608 : Int)) ∧ Tt) ∧ (((.int .i64 (8388607 : Int)) : C) = (.int .i64 (8388607 : Int)) ∧ Tt) ∧ (((.int .i64 (2147483649 : Int)) : C) = (.int .i64 (2147483649 : Int)) ∧ Tt) ∧ Tt) ∧ ((((Eqc (sl 1 (csI .u8) a0.code)) ∧ (eI v6.2.1) ∧ (Eqc (.int .u64 v6.2.2)) ∧ Tt) ∧ (Eqc (sl 1 (csI .i64) ([(0 : Int), (2147483648 : Int), (2139095040 : Int), (4286578688 : Int), (2143289344 : Int), (1 : Int), (2139095039 : Int), (8388608 : Int), (8388607 : Int), (2147483649 : Int)]))) ∧ Tt) ∧ MutOK Tryz.prog 46 [(.box 3 (fun j => [true, false, false].getD j true) (fun j => (cs_l00Src (l00Src.mk a0.code v6.2.1 v6.2.2)).getD j .nilptr) (fun j => [.nilptr, (.int .i64 v9.2.1), (.int .u64 v9.2.2)].getD j .nilptr)), .one (.ro (sl 1 (csI .i64) ([(0 : Int), (2147483648 : Int), (2139095040 : Int), (4286578688 : Int), (2143289344 : Int), (1 : Int), (2139095039 : Int), (8388608 : Int), (8388607 : Int), (2147483649 : Int)])))] [.one (.int .i64 v9.1)]) ∧ (((eI v9.1) ∧ Tt) ∧ CallOK Tryz.prog 45 [.one (.int .i64 v9.1)] [.one (.flt .f32 v11.bits)]) ∧ Tt ∧ Tt) [.no, .obj 1 ([(0 : Int), (2147483648 : Int), (2139095040 : Int), (4286578688 : Int), (2143289344 : Int), (1 : Int), (2139095039 : Int), (8388608 : Int), (8388607 : Int), (2147483649 : Int)]).length (gl (csI .i64) ([(0 : Int), (2147483648 : Int), (2139095040 : Int), (4286578688 : Int), (2143289344 : Int), (1 : Int), (2139095039 : Int), (8388608 : Int), (8388607 : Int), (2147483649 : Int)])), .callM [(.box 3 (fun j => [true, false, false].getD j true) (fun j => (cs_l00Src (l00Src.mk a0.code v6.2.1 v6.2.2)).getD j .nilptr) (fun j => [.nilptr, (.int .i64 v9.2.1), (.int .u64 v9.2.2)].getD j .nilptr)), .one (.ro (sl 1 (csI .i64) ([(0 : Int), (2147483648 : Int), (2139095040 : Int), (4286578688 : Int), (2143289344 : Int), (1 : Int), (2139095039 : Int), (8388608 : Int), (8388607 : Int), (2147483649 : Int)])))] [.one (.int .i64 v9.1)] [[.view]] none, .call [.one (.int .i64 v9.1)] [.one (.flt .f32 v11.bits)] [[.view]]] [0, 2] [0] ⟨tr, ⟨rfl, ⟨⟨rfl, tr⟩, ⟨rfl, tr⟩, ⟨rfl, tr⟩, ⟨rfl, tr⟩, ⟨rfl, tr⟩, ⟨rfl, tr⟩, ⟨rfl, tr⟩, ⟨rfl, tr⟩, ⟨rfl, tr⟩, ⟨rfl, tr⟩, tr⟩⟩, ⟨⟨⟨rfl, rfl, rfl, tr⟩, rfl, tr⟩, ok_spec_l00Src_among K (l00Src.mk a0.code v6.2.1 v6.2.2) ([(0 : Int), (2147483648 : Int), (2139095040 : Int), (4286578688 : Int), (2143289344 : Int), (1 : Int), (2139095039 : Int), (8388608 : Int), (8388607 : Int), (2147483649 : Int)]) v9 e10⟩, ⟨⟨rfl, tr⟩, ok_spec_l01From K v9.1 v11 e12⟩, tr, tr⟩ ?_
      refine AW.ret ?_
      refine blockQ_ret ?_
      refine thenQ_ret ?_
      replace h := some_eq h
      subst h
      exact ⟨.inr rfl, retOK_of [(.one (cF v11))] (by kernel_rfl) ⟨⟨rfl, tr⟩, tr⟩ (of_decide_eq_true (by kernel_rfl)), by kernel_rfl, ⟨⟨rfl, ⟨⟨rfl, rfl⟩, ⟨rfl, rfl⟩, ⟨rfl, rfl⟩, tr⟩⟩, tr⟩⟩
    · refine AW.cond_f rfl b8 ?_
      refine AW.sA ⟨[(0, (vp 0 0)), (10, (vI v6.1)), (17, (vB (v6.1 == (1 : Int))))], [(0, (.box [(.fx 0 0 (sl 1 (csI .u8) a0.code)), (cI v6.2.1), (.c (.int .u64 v6.2.2))]))]⟩ (T2 Tt) [] [0, 10, 17] [0] ⟨tr, tr, tr⟩ ?_
      rcases ite2_cases h with ⟨b13, h⟩ | ⟨b13, h⟩
      · refine AW.cond_t rfl b13 ?_
        refine AW.seq ?_
        obtain ⟨v14, e15, h⟩ := bind_some h
        refine AW.tC (Tt ∧ ((((Eqc (sl 1 (csI .u8) a0.code)) ∧ (eI v6.2.1) ∧ (Eqc (.int .u64 v6.2.2)) ∧ Tt) ∧ (eI (65536 : Int)) ∧ Tt) ∧ MutOK Tryz.prog 22 [(.box 3 (fun j => [true, false, false].getD j true) (fun j => (cs_l00Src (l00Src.mk a0.code v6.2.1 v6.2.2)).getD j .nilptr) (fun j => [.nilptr, (.int .i64 v14.2.1), (.int .u64 v14.2.2)].getD j .nilptr)), .one (.ro (.int .i64 (65536 : Int)))] [.one (.int .i64 v14.1)]) ∧ T2 Tt) [.no, .callM [(.box 3 (fun j => [true, false, false].getD j true) (fun j => (cs_l00Src (l00Src.mk a0.code v6.2.1 v6.2.2)).getD j .nilptr) (fun j => [.nilptr, (.int .i64 v14.2.1), (.int .u64 v14.2.2)].getD j .nilptr)), .one (.ro (.int .i64 (65536 : Int)))] [.one (.int .i64 v14.1)] [[.view]] none] [0, 3] [0] ⟨tr, ⟨⟨⟨rfl, rfl, rfl, tr⟩, rfl, tr⟩, ok_spec_l00Src_pick K (l00Src.mk a0.code v6.2.1 v6.2.2) (65536 : Int) v14 e15⟩, tr, tr, tr⟩ ?_
        refine AW.seq ?_
        obtain ⟨v16, e17, h⟩ := bind_some h
        obtain ⟨v18, e19, h⟩ := bind_some h
        refine AW.tA ⟨[(0, (vp 0 0)), (2, (vc (.flt .f32 v18.bits)))], [(0, (.box [(.fx 0 0 (sl 1 (csI .u8) a0.code)), (cI v16.2.1), (.c (.int .u64 v16.2.2))]))]⟩ (T2 (((((Eqc (sl 1 (csI .u8) a0.code)) ∧ (eI v14.2.1) ∧ (Eqc (.int .u64 v14.2.2)) ∧ Tt) ∧ (eI (65536 : Int)) ∧ Tt) ∧ MutOK Tryz.prog 22 [(.box 3 (fun j => [true, false, false].getD j true) (fun j => (cs_l00Src (l00Src.mk a0.code v14.2.1 v14.2.2)).getD j .nilptr) (fun j => [.nilptr, (.int .i64 v16.2.1), (.int .u64 v16.2.2)].getD j .nilptr)), .one (.ro (.int .i64 (65536 : Int)))] [.one (.int .i64 v16.1)]) ∧ Tt ∧ (((((.int .i64 (IntKind.i64.wrap ((IntKind.i64.wrap (v14.1 * (65536 : Int))) + v16.1))) : C) = (.int .i64 (IntKind.i64.wrap ((IntKind.i64.wrap (v14.1 * (65536 : Int))) + v16.1)))) ∧ Tt) ∧ CallOK Tryz.prog 45 [.one (.int .i64 (IntKind.i64.wrap ((IntKind.i64.wrap (v14.1 * (65536 : Int))) + v16.1)))] [.one (.flt .f32 v18.bits)]) ∧ Tt ∧ Tt)) [.no, .no, .callM [(.box 3 (fun j => [true, false, false].getD j true) (fun j => (cs_l00Src (l00Src.mk a0.code v14.2.1 v14.2.2)).getD j .nilptr) (fun j => [.nilptr, (.int .i64 v16.2.1), (.int .u64 v16.2.2)].getD j .nilptr)), .one (.ro (.int .i64 (65536 : Int)))] [.one (.int .i64 v16.1)] [[.view]] none, .no, .call [.one (.int .i64 (IntKind.i64.wrap ((IntKind.i64.wrap (v14.1 * (65536 : Int))) + v16.1)))] [.one (.flt .f32 v18.bits)] [[.view]]] [0, 2] [0] ⟨tr, tr, ⟨⟨⟨rfl, rfl, rfl, tr⟩, rfl, tr⟩, ok_spec_l00Src_pick K (l00Src.mk a0.code v14.2.1 v14.2.2) (65536 : Int) v16 e17⟩, tr, ⟨⟨rfl, tr⟩, ok_spec_l01From K (IntKind.i64.wrap ((IntKind.i64.wrap (v14.1 * (65536 : Int))) + v16.1)) v18 e19⟩, tr, tr⟩ ?_
        refine AW.ret ?_
        refine blockQ_ret ?_
        refine thenQ_ret ?_
        replace h := some_eq h
        subst h
        exact ⟨.inr rfl, retOK_of [(.one (cF v18))] (by kernel_rfl) ⟨⟨rfl, tr⟩, tr⟩ (of_decide_eq_true (by kernel_rfl)), by kernel_rfl, ⟨⟨rfl, ⟨⟨rfl, rfl⟩, ⟨rfl, rfl⟩, ⟨rfl, rfl⟩, tr⟩⟩, tr⟩⟩
      · refine AW.cond_f rfl b13 ?_
        refine AW.sA ⟨[(0, (vp 0 0)), (27, (vB (v6.1 == (2 : Int))))], [(0, (.box [(.fx 0 0 (sl 1 (csI .u8) a0.code)), (cI v6.2.1), (.c (.int .u64 v6.2.2))]))]⟩ (T2 Tt) [] [0, 27] [0] ⟨tr, tr, tr⟩ ?_
        rcases ite2_cases h with ⟨b20, h⟩ | ⟨b20, h⟩
        · refine AW.cond_t rfl b20 ?_
          refine AW.seq ?_
          obtain ⟨v21, e22, h⟩ := bind_some h
          obtain ⟨v23, e24, h⟩ := bind_some h
          refine AW.tA ⟨[(0, (vp 0 0)), (2, (vc (.flt .f32 v23.bits)))], [(0, (.box [(.fx 0 0 (sl 1 (csI .u8) a0.code)), (cI v21.2.1), (.c (.int .u64 v21.2.2))]))]⟩ (Tt ∧ ((((Eqc (sl 1 (csI .u8) a0.code)) ∧ (eI v6.2.1) ∧ (Eqc (.int .u64 v6.2.2)) ∧ Tt) ∧ (eI (65536 : Int)) ∧ Tt) ∧ MutOK Tryz.prog 22 [(.box 3 (fun j => [true, false, false].getD j true) (fun j => (cs_l00Src (l00Src.mk a0.code v6.2.1 v6.2.2)).getD j .nilptr) (fun j => [.nilptr, (.int .i64 v21.2.1), (.int .u64 v21.2.2)].getD j .nilptr)), .one (.ro (.int .i64 (65536 : Int)))] [.one (.int .i64 v21.1)]) ∧ Tt ∧ (((eI (IntKind.i64.wrap (v21.1 * (65536 : Int)))) ∧ Tt) ∧ CallOK Tryz.prog 45 [.one (.int .i64 (IntKind.i64.wrap (v21.1 * (65536 : Int))))] [.one (.flt .f32 v23.bits)]) ∧ Tt ∧ Tt) [.no, .callM [(.box 3 (fun j => [true, false, false].getD j true) (fun j => (cs_l00Src (l00Src.mk a0.code v6.2.1 v6.2.2)).getD j .nilptr) (fun j => [.nilptr, (.int .i64 v21.2.1), (.int .u64 v21.2.2)].getD j .nilptr)), .one (.ro (.int .i64 (65536 : Int)))] [.one (.int .i64 v21.1)] [[.view]] none, .no, .call [.one (.int .i64 (IntKind.i64.wrap (v21.1 * (65536 : Int))))] [.one (.flt .f32 v23.bits)] [[.view]]] [0, 2] [0] ⟨tr, ⟨⟨⟨rfl, rfl, rfl, tr⟩, rfl, tr⟩, ok_spec_l00Src_pick K (l00Src.mk a0.code v6.2.1 v6.2.2) (65536 : Int) v21 e22⟩, tr, ⟨⟨rfl, tr⟩, ok_spec_l01From K (IntKind.i64.wrap (v21.1 * (65536 : Int))) v23 e24⟩, tr, tr⟩ ?_
          refine AW.ret ?_
          refine blockQ_ret ?_
          refine thenQ_ret ?_
          replace h := some_eq h
          subst h
          exact ⟨.inr rfl, retOK_of [(.one (cF v23))] (by kernel_rfl) ⟨⟨rfl, tr⟩, tr⟩ (of_decide_eq_true (by kernel_rfl)), by kernel_rfl, ⟨⟨rfl, ⟨⟨rfl, rfl⟩, ⟨rfl, rfl⟩, ⟨rfl, rfl⟩, tr⟩⟩, tr⟩⟩
        · refine AW.cond_f rfl b20 ?_
          refine AW.skip ?_
          refine blockQ_normal ?_
          refine thenQ_normal ?_
          refine AW.seq ?_
          obtain ⟨v25, e26, h⟩ := bind_some h
          obtain ⟨v27, e28, h⟩ := bind_some h
          obtain ⟨v29, e30, h⟩ := bind_some h
          refine AW.tA ⟨[(0, (vp 0 0)), (2, (vc (.flt .f32 (v25.1.mul v29).bits)))], [(0, (.box [(.fx 0 0 (sl 1 (csI .u8) a0.code)), (cI v27.2.1), (.c (.int .u64 v27.2.2))]))]⟩ (Tt ∧ ((((Eqc (sl 1 (csI .u8) a0.code)) ∧ (eI v6.2.1) ∧ (Eqc (.int .u64 v6.2.2)) ∧ Tt) ∧ Tt) ∧ MutOK Tryz.prog 44 [(.box 3 (fun j => [true, false, false].getD j true) (fun j => (cs_l00Src (l00Src.mk a0.code v6.2.1 v6.2.2)).getD j .nilptr) (fun j => [.nilptr, (.int .i64 v25.2.1), (.int .u64 v25.2.2)].getD j .nilptr))] [.one (.flt .f32 v25.1.bits)]) ∧ Tt ∧ (([(8388608 : Int), (2130706432 : Int), (1610612736 : Int), (536870912 : Int)]).length = 4 ∧ (((.int .i64 (8388608 : Int)) : C) = (.int .i64 (8388608 : Int)) ∧ Tt) ∧ (((.int .i64 (2130706432 : Int)) : C) = (.int .i64 (2130706432 : Int)) ∧ Tt) ∧ (((.int .i64 (1610612736 : Int)) : C) = (.int .i64 (1610612736 : Int)) ∧ Tt) ∧ (((.int .i64 (536870912 : Int)) : C) = (.int .i64 (536870912 : Int)) ∧ Tt) ∧ Tt) ∧ ((((Eqc (sl 1 (csI .u8) a0.code)) ∧ (eI v25.2.1) ∧ (Eqc (.int .u64 v25.2.2)) ∧ Tt) ∧ (Eqc (sl 1 (csI .i64) ([(8388608 : Int), (2130706432 : Int), (1610612736 : Int), (536870912 : Int)]))) ∧ Tt) ∧ MutOK Tryz.prog 46 [(.box 3 (fun j => [true, false, false].getD j true) (fun j => (cs_l00Src (l00Src.mk a0.code v25.2.1 v25.2.2)).getD j .nilptr) (fun j => [.nilptr, (.int .i64 v27.2.1), (.int .u64 v27.2.2)].getD j .nilptr)), .one (.ro (sl 1 (csI .i64) ([(8388608 : Int), (2130706432 : Int), (1610612736 : Int), (536870912 : Int)])))] [.one (.int .i64 v27.1)]) ∧ (((eI v27.1) ∧ Tt) ∧ CallOK Tryz.prog 45 [.one (.int .i64 v27.1)] [.one (.flt .f32 v29.bits)]) ∧ T2 Tt) [.no, .callM [(.box 3 (fun j => [true, false, false].getD j true) (fun j => (cs_l00Src (l00Src.mk a0.code v6.2.1 v6.2.2)).getD j .nilptr) (fun j => [.nilptr, (.int .i64 v25.2.1), (.int .u64 v25.2.2)].getD j .nilptr))] [.one (.flt .f32 v25.1.bits)] [[.view]] none, .no, .obj 2 ([(8388608 : Int), (2130706432 : Int), (1610612736 : Int), (536870912 : Int)]).length (gl (csI .i64) ([(8388608 : Int), (2130706432 : Int), (1610612736 : Int), (536870912 : Int)])), .callM [(.box 3 (fun j => [true, false, false].getD j true) (fun j => (cs_l00Src (l00Src.mk a0.code v25.2.1 v25.2.2)).getD j .nilptr) (fun j => [.nilptr, (.int .i64 v27.2.1), (.int .u64 v27.2.2)].getD j .nilptr)), .one (.ro (sl 1 (csI .i64) ([(8388608 : Int), (2130706432 : Int), (1610612736 : Int), (536870912 : Int)])))] [.one (.int .i64 v27.1)] [[.view]] none, .call [.one (.int .i64 v27.1)] [.one (.flt .f32 v29.bits)] [[.view]]] [0, 2] [0] ⟨tr, ⟨⟨⟨rfl, rfl, rfl, tr⟩, tr⟩, ok_spec_l01DrawPlain K (l00Src.mk a0.code v6.2.1 v6.2.2) v25 e26⟩, tr, ⟨rfl, ⟨⟨rfl, tr⟩, ⟨rfl, tr⟩, ⟨rfl, tr⟩, ⟨rfl, tr⟩, tr⟩⟩, ⟨⟨⟨rfl, rfl, rfl, tr⟩, rfl, tr⟩, ok_spec_l00Src_among K (l00Src.mk a0.code v25.2.1 v25.2.2) ([(8388608 : Int), (2130706432 : Int), (1610612736 : Int), (536870912 : Int)]) v27 e28⟩, ⟨⟨rfl, tr⟩, ok_spec_l01From K v27.1 v29 e30⟩, tr, tr, tr⟩ ?_
          refine AW.ret ?_
          replace h := some_eq h
          subst h
          exact ⟨.inr rfl, retOK_of [(.one (cF (v25.1.mul v29)))] (by kernel_rfl) ⟨⟨rfl, tr⟩, tr⟩ (of_decide_eq_true (by kernel_rfl)), by kernel_rfl, ⟨⟨rfl, ⟨⟨rfl, rfl⟩, ⟨rfl, rfl⟩, ⟨rfl, rfl⟩, tr⟩⟩, tr⟩⟩

/-! spec.l01DrawVector -/
def spec_l01DrawVector (K : Nat) (a0 : l00Src) : Option (Vector × Int × Int) :=
  (spec_l00Src_one K a0 (10 : Int)).bind fun v1 => (spec_l01DrawSmall K (l00Src.mk a0.code v1.2.1 v1.2.2)).bind fun v3 => (spec_l01DrawSmall K (l00Src.mk a0.code v3.2.1 v3.2.2)).bind fun v5 => (spec_l01DrawSmall K (l00Src.mk a0.code v5.2.1 v5.2.2)).bind fun v7 => ite2 (v1.1) ((spec_l01DrawFloat K (l00Src.mk a0.code v7.2.1 v7.2.2)).bind fun v10 => some ((Vector.mk v3.1 v10.1 v7.1), v10.2.1, v10.2.2)) (some ((Vector.mk v3.1 v5.1 v7.1), v7.2.1, v7.2.2))

theorem ok_spec_l01DrawVector (K : Nat) (a0 : l00Src) (o : (Vector × Int × Int)) (h : spec_l01DrawVector K a0 = some o) : MutOK Tryz.prog 26 [(.box 3 (fun j => [true, false, false].getD j true) (fun j => (cs_l00Src a0).getD j .nilptr) (fun j => [.nilptr, (.int .i64 o.2.1), (.int .u64 o.2.2)].getD j .nilptr))] [.agg (cs_Vector o.1)] := by
  refine mutOK_of_AW 1 Tryz.func26 rfl (by kernel_rfl) (Nat.le_of_ble_eq_true (by kernel_rfl)) (by kernel_rfl) (by kernel_rfl) ?_
  intro w0 K0 v0 s0
  unfold spec_l01DrawVector at h
  refine AW.weak (s' := ⟨[(0, (vp 0 0))], [(0, (.box [(.fx 0 0 (sl 1 (csI .u8) a0.code)), (cI a0.at_), (.c (.int .u64 a0.seed))]))]⟩) (subUnfx 0 [1, 2] (by kernel_rfl)) ?_
  refine AW.sC (Tt ∧ Tt) [.box 1] [0, 2] [0, 1] ⟨tr, tr⟩ ?_
  refine AW.seq ?_
  obtain ⟨v1, e2, h⟩ := bind_some h
  refine AW.tC (Tt ∧ ((((Eqc (sl 1 (csI .u8) a0.code)) ∧ (eI a0.at_) ∧ (Eqc (.int .u64 a0.seed)) ∧ Tt) ∧ (eI (10 : Int)) ∧ Tt) ∧ MutOK Tryz.prog 34 [(.box 3 (fun j => [true, false, false].getD j true) (fun j => (cs_l00Src a0).getD j .nilptr) (fun j => [.nilptr, (.int .i64 v1.2.1), (.int .u64 v1.2.2)].getD j .nilptr)), .one (.ro (.int .i64 (10 : Int)))] [.one (.bool v1.1)]) ∧ Tt ∧ Tt) [.no, .callM [(.box 3 (fun j => [true, false, false].getD j true) (fun j => (cs_l00Src a0).getD j .nilptr) (fun j => [.nilptr, (.int .i64 v1.2.1), (.int .u64 v1.2.2)].getD j .nilptr)), .one (.ro (.int .i64 (10 : Int)))] [.one (.bool v1.1)] [[.view]] none] [0, 2, 3] [0, 1] ⟨tr, ⟨⟨⟨rfl, rfl, rfl, tr⟩, rfl, tr⟩, ok_spec_l00Src_one K a0 (10 : Int) v1 e2⟩, tr, tr⟩ ?_
  refine AW.seq ?_
  obtain ⟨v3, e4, h⟩ := bind_some h
  refine AW.tC (Tt ∧ ((((Eqc (sl 1 (csI .u8) a0.code)) ∧ (eI v1.2.1) ∧ (Eqc (.int .u64 v1.2.2)) ∧ Tt) ∧ Tt) ∧ MutOK Tryz.prog 35 [(.box 3 (fun j => [true, false, false].getD j true) (fun j => (cs_l00Src (l00Src.mk a0.code v1.2.1 v1.2.2)).getD j .nilptr) (fun j => [.nilptr, (.int .i64 v3.2.1), (.int .u64 v3.2.2)].getD j .nilptr))] [.one (.flt .f32 v3.1.bits)]) ∧ Tt ∧ T2 Tt) [.no, .callM [(.box 3 (fun j => [true, false, false].getD j true) (fun j => (cs_l00Src (l00Src.mk a0.code v1.2.1 v1.2.2)).getD j .nilptr) (fun j => [.nilptr, (.int .i64 v3.2.1), (.int .u64 v3.2.2)].getD j .nilptr))] [.one (.flt .f32 v3.1.bits)] [[.view]] none, .no, .box 2] [0, 2, 3, 4] [0, 1, 2] ⟨tr, ⟨⟨⟨rfl, rfl, rfl, tr⟩, tr⟩, ok_spec_l01DrawSmall K (l00Src.mk a0.code v1.2.1 v1.2.2) v3 e4⟩, tr, tr, tr, tr⟩ ?_
  refine AW.seq ?_
  obtain ⟨v5, e6, h⟩ := bind_some h
  refine AW.tC (Tt ∧ ((((Eqc (sl 1 (csI .u8) a0.code)) ∧ (eI v3.2.1) ∧ (Eqc (.int .u64 v3.2.2)) ∧ Tt) ∧ Tt) ∧ MutOK Tryz.prog 35 [(.box 3 (fun j => [true, false, false].getD j true) (fun j => (cs_l00Src (l00Src.mk a0.code v3.2.1 v3.2.2)).getD j .nilptr) (fun j => [.nilptr, (.int .i64 v5.2.1), (.int .u64 v5.2.2)].getD j .nilptr))] [.one (.flt .f32 v5.1.bits)]) ∧ T2 Tt) [.no, .callM [(.box 3 (fun j => [true, false, false].getD j true) (fun j => (cs_l00Src (l00Src.mk a0.code v3.2.1 v3.2.2)).getD j .nilptr) (fun j => [.nilptr, (.int .i64 v5.2.1), (.int .u64 v5.2.2)].getD j .nilptr))] [.one (.flt .f32 v5.1.bits)] [[.view]] none] [0, 2, 3, 4] [0, 1, 2] ⟨tr, ⟨⟨⟨rfl, rfl, rfl, tr⟩, tr⟩, ok_spec_l01DrawSmall K (l00Src.mk a0.code v3.2.1 v3.2.2) v5 e6⟩, tr, tr, tr⟩ ?_
  refine AW.seq ?_
  obtain ⟨v7, e8, h⟩ := bind_some h
  refine AW.tC (Tt ∧ ((((Eqc (sl 1 (csI .u8) a0.code)) ∧ (eI v5.2.1) ∧ (Eqc (.int .u64 v5.2.2)) ∧ Tt) ∧ Tt) ∧ MutOK Tryz.prog 35 [(.box 3 (fun j => [true, false, false].getD j true) (fun j => (cs_l00Src (l00Src.mk a0.code v5.2.1 v5.2.2)).getD j .nilptr) (fun j => [.nilptr, (.int .i64 v7.2.1), (.int .u64 v7.2.2)].getD j .nilptr))] [.one (.flt .f32 v7.1.bits)]) ∧ T2 Tt) [.no, .callM [(.box 3 (fun j => [true, false, false].getD j true) (fun j => (cs_l00Src (l00Src.mk a0.code v5.2.1 v5.2.2)).getD j .nilptr) (fun j => [.nilptr, (.int .i64 v7.2.1), (.int .u64 v7.2.2)].getD j .nilptr))] [.one (.flt .f32 v7.1.bits)] [[.view]] none] [0, 2, 3, 4] [0, 1, 2] ⟨tr, ⟨⟨⟨rfl, rfl, rfl, tr⟩, tr⟩, ok_spec_l01DrawSmall K (l00Src.mk a0.code v5.2.1 v5.2.2) v7 e8⟩, tr, tr, tr⟩ ?_
  refine AW.seq ?_
  refine AW.sA ⟨[(0, (vp 0 0)), (2, (vp 1 0)), (4, (vp 2 0)), (16, (vB v1.1))], [(0, (.box [(.fx 0 0 (sl 1 (csI .u8) a0.code)), (cI v7.2.1), (.c (.int .u64 v7.2.2))])), (1, (.box [(cF (default : F32)), (cF (default : F32)), (cF (default : F32))])), (2, (.box [(cF v3.1), (cF v5.1), (cF v7.1)]))]⟩ (Tt ∧ Tt) [] [0, 2, 4, 16] [0, 1, 2] ⟨tr, tr⟩ ?_
  rcases ite2_cases h with ⟨b9, h⟩ | ⟨b9, h⟩
  · refine AW.cond_t rfl b9 ?_
    obtain ⟨v10, e11, h⟩ := bind_some h
    refine AW.tC (Tt ∧ ((((Eqc (sl 1 (csI .u8) a0.code)) ∧ (eI v7.2.1) ∧ (Eqc (.int .u64 v7.2.2)) ∧ Tt) ∧ Tt) ∧ MutOK Tryz.prog 36 [(.box 3 (fun j => [true, false, false].getD j true) (fun j => (cs_l00Src (l00Src.mk a0.code v7.2.1 v7.2.2)).getD j .nilptr) (fun j => [.nilptr, (.int .i64 v10.2.1), (.int .u64 v10.2.2)].getD j .nilptr))] [.one (.flt .f32 v10.1.bits)]) ∧ T2 Tt) [.no, .callM [(.box 3 (fun j => [true, false, false].getD j true) (fun j => (cs_l00Src (l00Src.mk a0.code v7.2.1 v7.2.2)).getD j .nilptr) (fun j => [.nilptr, (.int .i64 v10.2.1), (.int .u64 v10.2.2)].getD j .nilptr))] [.one (.flt .f32 v10.1.bits)] [[.view]] none] [0, 2, 4] [0, 1, 2] ⟨tr, ⟨⟨⟨rfl, rfl, rfl, tr⟩, tr⟩, ok_spec_l01DrawFloat K (l00Src.mk a0.code v7.2.1 v7.2.2) v10 e11⟩, tr, tr, tr⟩ ?_
    refine AW.sA ⟨[(0, (vp 0 0)), (2, (vp 1 0))], [(0, (.box [(.fx 0 0 (sl 1 (csI .u8) a0.code)), (cI v10.2.1), (.c (.int .u64 v10.2.2))])), (1, (.box [(cF v3.1), (cF v10.1), (cF v7.1)]))]⟩ (T2 Tt) [] [0, 2] [0, 1] ⟨tr, tr, tr⟩ ?_
    refine AW.ret ?_
    replace h := some_eq h
    subst h
    exact ⟨.inr rfl, retOK_of [(.agg [(cF v3.1), (cF v10.1), (cF v7.1)])] (by kernel_rfl) ⟨⟨⟨rfl, tr⟩, ⟨rfl, tr⟩, ⟨rfl, tr⟩, tr⟩, tr⟩ (of_decide_eq_true (by kernel_rfl)), by kernel_rfl, ⟨⟨rfl, ⟨⟨rfl, rfl⟩, ⟨rfl, rfl⟩, ⟨rfl, rfl⟩, tr⟩⟩, tr⟩⟩
  · refine AW.cond_f rfl b9 ?_
    refine AW.skip ?_
    refine thenQ_normal ?_
    refine AW.sA ⟨[(0, (vp 0 0)), (2, (vp 1 0))], [(0, (.box [(.fx 0 0 (sl 1 (csI .u8) a0.code)), (cI v7.2.1), (.c (.int .u64 v7.2.2))])), (1, (.box [(cF v3.1), (cF v5.1), (cF v7.1)]))]⟩ (T2 Tt) [] [0, 2] [0, 1] ⟨tr, tr, tr⟩ ?_
    refine AW.ret ?_
    replace h := some_eq h
    subst h
    exact ⟨.inr rfl, retOK_of [(.agg [(cF v3.1), (cF v5.1), (cF v7.1)])] (by kernel_rfl) ⟨⟨⟨rfl, tr⟩, ⟨rfl, tr⟩, ⟨rfl, tr⟩, tr⟩, tr⟩ (of_decide_eq_true (by kernel_rfl)), by kernel_rfl, ⟨⟨rfl, ⟨⟨rfl, rfl⟩, ⟨rfl, rfl⟩, ⟨rfl, rfl⟩, tr⟩⟩, tr⟩⟩

/-! spec.B10Any -/
def spec_B10Any (K : Nat) (a0 : (List Int)) : Option (Vector) :=
  (spec_l01DrawVector K (l00Src.mk a0 (0 : Int) (0 : Int))).bind fun v1 => some v1.1

theorem ok_spec_B10Any (K : Nat) (a0 : (List Int)) (o : (Vector)) (h : spec_B10Any K a0 = some o) : CallOK Tryz.prog 17 [.one (sl 1 (csI .u8) a0)] [.agg (cs_Vector o)] := by
  refine callOK_of_AW Tryz.func17 rfl (by kernel_rfl) (Nat.le_of_ble_eq_true (by kernel_rfl)) ?_
  intro w0
  unfold spec_B10Any at h
  refine AW.sA ⟨[(0, (vc (sl 1 (csI .u8) a0))), (2, (vp 1 0))], [(1, (.box [(cF (default : F32)), (cF (default : F32)), (cF (default : F32))]))]⟩ (Tt ∧ Tt) [.box 1] [0, 2] [1] ⟨tr, tr⟩ ?_
  refine AW.seq (AW.mkA 1 2 [(.i64, 0), (.u64, 0)] [.no] [] [2, 3] [1, 2] (s' := ⟨[(2, (vp 1 0)), (3, (vp 2 0))], [(1, (.box [(cF (default : F32)), (cF (default : F32)), (cF (default : F32))])), (2, (.box [(.c (sl 1 (csI .u8) a0)), (cI (0 : Int)), (.c (.int .u64 (0 : Int)))]))]⟩) (ob := (Tt ∧ Tt) ∧ Tt ∧ (Tt ∧ Tt)) (by kernel_rfl) ⟨⟨tr, tr⟩, tr, ⟨tr, tr⟩⟩ mk_spec_l00From (thenQ_normal ?_))
  refine AW.seq ?_
  obtain ⟨v1, e2, h⟩ := bind_some h
  refine AW.tA ⟨[(2, (vp 1 0))], [(1, (.box [(cF v1.1.X), (cF v1.1.Y), (cF v1.1.Z)]))]⟩ (Tt ∧ ((((Eqc (sl 1 (csI .u8) a0)) ∧ (eI (0 : Int)) ∧ (Eqc (.int .u64 (0 : Int))) ∧ Tt) ∧ Tt) ∧ MutOK Tryz.prog 26 [(.box 3 (fun j => [true, false, false].getD j true) (fun j => (cs_l00Src (l00Src.mk a0 (0 : Int) (0 : Int))).getD j .nilptr) (fun j => [.nilptr, (.int .i64 v1.2.1), (.int .u64 v1.2.2)].getD j .nilptr))] [.agg (cs_Vector v1.1)]) ∧ Tt ∧ Tt) [.no, .callM [(.box 3 (fun j => [true, false, false].getD j true) (fun j => (cs_l00Src (l00Src.mk a0 (0 : Int) (0 : Int))).getD j .nilptr) (fun j => [.nilptr, (.int .i64 v1.2.1), (.int .u64 v1.2.2)].getD j .nilptr))] [.agg (cs_Vector v1.1)] [[.view, .view, .view]] none] [2] [1] ⟨tr, ⟨⟨⟨rfl, rfl, rfl, tr⟩, tr⟩, ok_spec_l01DrawVector K (l00Src.mk a0 (0 : Int) (0 : Int)) v1 e2⟩, tr, tr⟩ ?_
  refine AW.ret ?_
  replace h := some_eq h
  subst h
  exact ⟨.inr rfl, retOK_of [(.agg [(cF v1.1.X), (cF v1.1.Y), (cF v1.1.Z)])] (by kernel_rfl) ⟨⟨⟨rfl, tr⟩, ⟨rfl, tr⟩, ⟨rfl, tr⟩, tr⟩, tr⟩ (of_decide_eq_true (by kernel_rfl))⟩

/-! impl.BitsOf -/
def impl_BitsOf (K : Nat) (a0 : F32) : Option (Int) :=
  ite2 ((a0.ne a0)) (some (2143289344 : Int)) ((math_Float32bits K a0).bind fun v2 => some (IntKind.i64.wrap v2))

theorem ok_impl_BitsOf (K : Nat) (a0 : F32) (o : (Int)) (h : impl_BitsOf K a0 = some o) : CallOK Tryz.prog 48 [.one (.flt .f32 a0.bits)] [.one (.int .i64 o)] := by
  refine callOK_of_AW Tryz.func48 rfl (by kernel_rfl) (Nat.le_of_ble_eq_true (by kernel_rfl)) ?_
  intro w0
  unfold impl_BitsOf at h
  refine AW.sC (Tt ∧ Tt) [] [0] [] ⟨tr, tr⟩ ?_
  refine AW.seq ?_
  refine AW.sA ⟨[(0, (vc (.flt .f32 a0.bits))), (5, (vB (a0.ne a0)))], []⟩ (Tt ∧ T2 Tt) [] [0, 5] [] ⟨tr, tr, tr, tr⟩ ?_
  rcases ite2_cases h with ⟨b1, h⟩ | ⟨b1, h⟩
  · refine AW.cond_t rfl b1 ?_
    refine AW.sA ⟨[(2, (vI (2143289344 : Int)))], []⟩ (Tt ∧ Tt) [] [2] [] ⟨tr, tr⟩ ?_
    refine AW.ret ?_
    refine thenQ_ret ?_
    replace h := some_eq h
    subst h
    exact ⟨.inr rfl, retOK_of [(.one (cI (2143289344 : Int)))] (by kernel_rfl) ⟨⟨rfl, tr⟩, tr⟩ (of_decide_eq_true (by kernel_rfl))⟩
  · refine AW.cond_f rfl b1 ?_
    refine AW.skip ?_
    refine thenQ_normal ?_
    refine AW.seq ?_
    obtain ⟨v2, e3, h⟩ := bind_some h
    refine AW.tA ⟨[(2, (vI (IntKind.i64.wrap v2)))], []⟩ (Tt ∧ (((eF a0) ∧ Tt) ∧ CallOK Tryz.prog 42 [.one (.flt .f32 a0.bits)] [.one (.int .u32 v2)]) ∧ T2 Tt) [.no, .call [.one (.flt .f32 a0.bits)] [.one (.int .u32 v2)] [[.view]]] [2] [] ⟨tr, ⟨⟨rfl, tr⟩, ok_math_Float32bits K a0 v2 e3⟩, tr, tr, tr⟩ ?_
    refine AW.ret ?_
    replace h := some_eq h
    subst h
    exact ⟨.inr rfl, retOK_of [(.one (cI (IntKind.i64.wrap v2)))] (by kernel_rfl) ⟨⟨rfl, tr⟩, tr⟩ (of_decide_eq_true (by kernel_rfl))⟩

/-! strconv.FormatInt -/
def strconv_FormatInt (_K : Nat) (a0 : Int) (a1 : Int) : Option (ByteArray) :=
  fmtI a0 a1

theorem ok_strconv_FormatInt (K : Nat) (a0 : Int) (a1 : Int) (o : ByteArray) (h : strconv_FormatInt K a0 a1 = some o) : CallOK Tryz.prog 47 [(.one (.int .i64 a0)), (.one (.int .i64 a1))] [.one (.str o)] :=
  hand_fmtI Tryz.func47 (by kernel_rfl) (by kernel_rfl) (fun _ hg => tabIs_of_gd (g := 1) (by unfold gtabs; exact List.mem_cons_self) (by kernel_rfl) hg) (g := 6) (fun _ hg => cell_of_gd (by unfold gtabs; exact List.mem_cons_of_mem _ List.mem_cons_self) rfl hg) Tryz.strconv_FormatInt_10 Tryz.formatInt16 a0 a1 o h

/-! strings.Repeat -/
def strings_Repeat (_K : Nat) (a0 : ByteArray) (a1 : Int) : Option (ByteArray) :=
  rep1 a0 a1

theorem ok_strings_Repeat (K : Nat) (a0 : ByteArray) (a1 : Int) (o : ByteArray) (h : strings_Repeat K a0 a1 = some o) : CallOK Tryz.prog 49 [(.one (.str a0)), (.one (.int .i64 a1))] [.one (.str o)] :=
  hand_repeat Tryz.func49 (by kernel_rfl) (by kernel_rfl) (fun s c w => Tryz.strings_Repeat s c w) a0 a1 o h

/-! impl.hexOf -/
def impl_hexOf (K : Nat) (a0 : F32) : Option (ByteArray) :=
  (impl_BitsOf K a0).bind fun v1 => (strconv_FormatInt K v1 (16 : Int)).bind fun v3 => (strings_Repeat K (ByteArray.mk #[48]) (IntKind.i64.wrap ((8 : Int) - (v3.size : Int)))).bind fun v5 => chk (((v5.size + v3.size : Nat) : Int) ≤ 9223372036854775807) (some (v5 ++ v3))

theorem ok_impl_hexOf (K : Nat) (a0 : F32) (o : (ByteArray)) (h : impl_hexOf K a0 = some o) : CallOK Tryz.prog 37 [.one (.flt .f32 a0.bits)] [.one (.str o)] := by
  refine callOK_of_AW Tryz.func37 rfl (by kernel_rfl) (Nat.le_of_ble_eq_true (by kernel_rfl)) ?_
  intro w0
  unfold impl_hexOf at h
  refine AW.sC (Tt ∧ Tt) [] [0] [] ⟨tr, tr⟩ ?_
  refine AW.seq ?_
  obtain ⟨v1, e2, h⟩ := bind_some h
  obtain ⟨v3, e4, h⟩ := bind_some h
  refine AW.tC (Tt ∧ (((eF a0) ∧ Tt) ∧ CallOK Tryz.prog 48 [.one (.flt .f32 a0.bits)] [.one (.int .i64 v1)]) ∧ (((eI v1) ∧ (eI (16 : Int)) ∧ Tt) ∧ CallOK Tryz.prog 47 [.one (.int .i64 v1), .one (.int .i64 (16 : Int))] [.one (.str v3)]) ∧ Tt ∧ Tt) [.no, .call [.one (.flt .f32 a0.bits)] [.one (.int .i64 v1)] [[.view]], .call [.one (.int .i64 v1), .one (.int .i64 (16 : Int))] [.one (.str v3)] [[.view]]] [3] [] ⟨tr, ⟨⟨rfl, tr⟩, ok_impl_BitsOf K a0 v1 e2⟩, ⟨⟨rfl, rfl, tr⟩, ok_strconv_FormatInt K v1 (16 : Int) v3 e4⟩, tr, tr⟩ ?_
  refine AW.seq ?_
  obtain ⟨v5, e6, h⟩ := bind_some h
  obtain ⟨c7, h⟩ := chk_some h
  refine AW.tA ⟨[(2, (vc (.str (v5 ++ v3))))], []⟩ (Tt ∧ T2 ((((Eqc (.str (ByteArray.mk #[48]))) ∧ (eI (IntKind.i64.wrap ((8 : Int) - (v3.size : Int)))) ∧ Tt) ∧ CallOK Tryz.prog 49 [.one (.str (ByteArray.mk #[48])), .one (.int .i64 (IntKind.i64.wrap ((8 : Int) - (v3.size : Int))))] [.one (.str v5)]) ∧ Tt ∧ (((v5.size + v3.size : Nat) : Int) ≤ 9223372036854775807) ∧ Tt ∧ Tt)) [.no, .no, .no, .call [.one (.str (ByteArray.mk #[48])), .one (.int .i64 (IntKind.i64.wrap ((8 : Int) - (v3.size : Int))))] [.one (.str v5)] [[.view]]] [2] [] ⟨tr, tr, tr, ⟨⟨rfl, rfl, tr⟩, ok_strings_Repeat K (ByteArray.mk #[48]) (IntKind.i64.wrap ((8 : Int) - (v3.size : Int))) v5 e6⟩, tr, c7, tr, tr⟩ ?_
  refine AW.ret ?_
  replace h := some_eq h
  subst h
  exact ⟨.inr rfl, retOK_of [(.one (.c (.str (v5 ++ v3))))] (by kernel_rfl) ⟨⟨rfl, tr⟩, tr⟩ (of_decide_eq_true (by kernel_rfl))⟩

/-! strings.Join -/
def strings_Join (_K : Nat) (a0 : (List ByteArray)) (a1 : ByteArray) : Option (ByteArray) :=
  join1 a0 a1

theorem ok_strings_Join (K : Nat) (a0 : (List ByteArray)) (a1 : ByteArray) (o : ByteArray) (h : strings_Join K a0 a1 = some o) : CallOK Tryz.prog 50 [(.one (sl 1 csS a0)), (.one (.str a1))] [.one (.str o)] :=
  hand_join Tryz.func50 (by kernel_rfl) (by kernel_rfl) (fun a c sep w => Tryz.strings_Join_none a c sep w) (fun bk o c xs sep w => Tryz.strings_Join bk o c xs sep w) a0 a1 o h

/-! impl.joined -/
def impl_joined (K : Nat) (a0 : (List ByteArray)) : Option (ByteArray) :=
  ite2 (((a0.length : Int) == (0 : Int))) (some (ByteArray.mk #[110, 111, 110, 101])) ((strings_Join K a0 (ByteArray.mk #[44])).bind fun v2 => some v2)

theorem ok_impl_joined (K : Nat) (a0 : (List ByteArray)) (o : (ByteArray)) (h : impl_joined K a0 = some o) : CallOK Tryz.prog 38 [.one (sl 1 csS a0)] [.one (.str o)] := by
  refine callOK_of_AW Tryz.func38 rfl (by kernel_rfl) (Nat.le_of_ble_eq_true (by kernel_rfl)) ?_
  intro w0
  unfold impl_joined at h
  refine AW.sC (Tt ∧ Tt) [] [0] [] ⟨tr, tr⟩ ?_
  refine AW.seq ?_
  refine AW.sA ⟨[(0, (vc (sl 1 csS a0))), (5, (vB ((a0.length : Int) == (0 : Int))))], []⟩ (Tt ∧ T2 Tt) [] [0, 5] [] ⟨tr, tr, tr, tr⟩ ?_
  rcases ite2_cases h with ⟨b1, h⟩ | ⟨b1, h⟩
  · refine AW.cond_t rfl b1 ?_
    refine AW.sA ⟨[(2, (vc (.str (ByteArray.mk #[110, 111, 110, 101]))))], []⟩ (Tt ∧ Tt) [] [2] [] ⟨tr, tr⟩ ?_
    refine AW.ret ?_
    refine thenQ_ret ?_
    replace h := some_eq h
    subst h
    exact ⟨.inr rfl, retOK_of [(.one (.c (.str (ByteArray.mk #[110, 111, 110, 101]))))] (by kernel_rfl) ⟨⟨rfl, tr⟩, tr⟩ (of_decide_eq_true (by kernel_rfl))⟩
  · refine AW.cond_f rfl b1 ?_
    refine AW.skip ?_
    refine thenQ_normal ?_
    refine AW.seq ?_
    obtain ⟨v2, e3, h⟩ := bind_some h
    refine AW.tA ⟨[(2, (vc (.str v2)))], []⟩ (Tt ∧ (((Eqc (sl 1 csS a0)) ∧ (Eqc (.str (ByteArray.mk #[44]))) ∧ Tt) ∧ CallOK Tryz.prog 50 [.one (sl 1 csS a0), .one (.str (ByteArray.mk #[44]))] [.one (.str v2)]) ∧ Tt ∧ Tt) [.no, .call [.one (sl 1 csS a0), .one (.str (ByteArray.mk #[44]))] [.one (.str v2)] [[.view]]] [2] [] ⟨tr, ⟨⟨rfl, rfl, tr⟩, ok_strings_Join K a0 (ByteArray.mk #[44]) v2 e3⟩, tr, tr⟩ ?_
    refine AW.ret ?_
    replace h := some_eq h
    subst h
    exact ⟨.inr rfl, retOK_of [(.one (.c (.str v2)))] (by kernel_rfl) ⟨⟨rfl, tr⟩, tr⟩ (of_decide_eq_true (by kernel_rfl))⟩

/-! impl.numbersText -/
def impl_numbersText_l1 (K : Nat) (a0 : (List F32)) : Nat → Int → (List ByteArray) → Option (ByteArray)
  | 0, _, _ => none
  | k + 1, x4, x5 => ite2 ((decide (x4 < (a0.length : Int)))) (chk (0 ≤ x4 ∧ x4 < (a0.length : Int)) ((impl_hexOf K (a0.getD x4.toNat default)).bind fun v8 => chk (0 ≤ x4 ∧ x4 < (x5.length : Int)) (impl_numbersText_l1 K a0 k (IntKind.i64.wrap (x4 + (1 : Int))) (x5.set x4.toNat v8)))) ((impl_joined K x5).bind fun v11 => some v11)

def impl_numbersText (K : Nat) (a0 : (List F32)) : Option (ByteArray) :=
  chk (0 ≤ (a0.length : Int) ∧ (a0.length : Int).toNat * 16 ≤ 140737488355328) (impl_numbersText_l1 K a0 K (0 : Int) (List.replicate (a0.length : Int).toNat (default : ByteArray)))

theorem ok_impl_numbersText (K : Nat) (a0 : (List F32)) (o : (ByteArray)) (h : impl_numbersText K a0 = some o) : CallOK Tryz.prog 27 [.one (sl 1 (csF .f32) a0)] [.one (.str o)] := by
  refine callOK_of_AW Tryz.func27 rfl (by kernel_rfl) (Nat.le_of_ble_eq_true (by kernel_rfl)) ?_
  intro w0
  unfold impl_numbersText at h
  refine AW.sC (Tt ∧ Tt) [] [0] [] ⟨tr, tr⟩ ?_
  refine AW.seq ?_
  obtain ⟨c1, h⟩ := chk_some h
  refine AW.tC (T2 ((0 ≤ (a0.length : Int) ∧ (a0.length : Int) = (a0.length : Int) ∧ (((List.replicate (a0.length : Int).toNat (default : ByteArray)).length : Nat) : Int) = (a0.length : Int) ∧ (List.replicate (a0.length : Int).toNat (default : ByteArray)).length * 16 ≤ 140737488355328 ∧ ∀ i, i < (List.replicate (a0.length : Int).toNat (default : ByteArray)).length → zeroRow (fun _ => none) [(.c (.str ByteArray.empty))] (gl csS (List.replicate (a0.length : Int).toNat (default : ByteArray)) i)) ∧ Tt ∧ Tt)) [.no, .no, .objA 1 (List.replicate (a0.length : Int).toNat (default : ByteArray)).length (gl csS (List.replicate (a0.length : Int).toNat (default : ByteArray)))] [0, 3] [1] ⟨tr, tr, ⟨c1.1, rfl, len_rep c1.1, rep_bytes c1.2, fun i hi => gl_zero (cs := csS) (zs := [(.c (.str ByteArray.empty))]) (n := (a0.length : Int).toNat) ⟨⟨rfl, tr⟩, tr⟩ i (rep_lt hi)⟩, tr, tr⟩ ?_
  refine AW.seq ?_
  refine AW.sA ⟨[(3, (.v (.one (.arr 1)))), (9, (vc (sl 1 (csF .f32) a0))), (10, (vI (a0.length : Int))), (11, (vI (0 : Int)))], [(1, (.arr false (List.replicate (a0.length : Int).toNat (default : ByteArray)).length 1 (gl csS (List.replicate (a0.length : Int).toNat (default : ByteArray)))))]⟩ (Tt ∧ T2 Tt) [] [3, 9, 10, 11] [1] ⟨tr, tr, tr, tr⟩ ?_
  refine AW.block ?_
  refine AW.loopQ (σ := Nat × Int × (List ByteArray)) (fun p => ⟨[(3, (.v (.one (.arr 1)))), (9, (vc (sl 1 (csF .f32) a0))), (10, (vI (a0.length : Int))), (11, (vI p.2.1))], [(1, (.arr false p.2.2.length 1 (gl csS p.2.2)))]⟩) (fun p => impl_numbersText_l1 K a0 p.1 p.2.1 p.2.2 = some o) (fun p => p.1) (K, (0 : Int), (List.replicate (a0.length : Int).toNat (default : ByteArray))) h ?_
  clear h
  rintro ⟨k, x4, x5⟩ h
  replace h : impl_numbersText_l1 K a0 k x4 x5 = some o := h
  show AW _ _ (⟨[(3, (.v (.one (.arr 1)))), (9, (vc (sl 1 (csF .f32) a0))), (10, (vI (a0.length : Int))), (11, (vI x4))], [(1, (.arr false x5.length 1 (gl csS x5)))]⟩ : St) _
  obtain _ | k := k
  · rw [impl_numbersText_l1] at h; cases h
  rw [impl_numbersText_l1] at h
  refine AW.sA ⟨[(3, (.v (.one (.arr 1)))), (9, (vc (sl 1 (csF .f32) a0))), (10, (vI (a0.length : Int))), (11, (vI x4)), (12, (vB (decide (x4 < (a0.length : Int)))))], [(1, (.arr false x5.length 1 (gl csS x5)))]⟩ (Tt ∧ Tt) [] [3, 9, 10, 11, 12] [1] ⟨tr, tr⟩ ?_
  refine AW.seq ?_
  rcases ite2_cases h with ⟨b6, h⟩ | ⟨b6, h⟩
  · refine AW.cond_t rfl b6 ?_
    refine AW.skip ?_
    refine thenQ_normal ?_
    refine AW.seq ?_
    refine AW.block ?_
    refine AW.seq ?_
    obtain ⟨c7, h⟩ := chk_some h
    refine AW.tC (Tt ∧ (0 ≤ x4 ∧ x4 < (a0.length : Int)) ∧ Tt ∧ T2 Tt) [] [3, 4, 5, 9, 10, 11] [1] ⟨tr, c7, tr, tr, tr, tr⟩ ?_
    obtain ⟨v8, e9, h⟩ := bind_some h
    obtain ⟨c10, h⟩ := chk_some h
    refine AW.rA ⟨[(3, (.v (.one (.arr 1)))), (9, (vc (sl 1 (csF .f32) a0))), (10, (vI (a0.length : Int))), (11, (vI x4))], [(1, (.arr false (x5.set x4.toNat v8).length 1 (gl csS (x5.set x4.toNat v8))))]⟩ (Tt ∧ T2 ((((eF (a0.getD x4.toNat default)) ∧ Tt) ∧ CallOK Tryz.prog 37 [.one (.flt .f32 (a0.getD x4.toNat default).bits)] [.one (.str v8)]) ∧ (0 ≤ x4 ∧ x4 < (x5.length : Int)) ∧ ((x5.set x4.toNat v8).length = x5.length ∧ SetOb x5.length 1 x4.toNat 0 1 (gl csS x5) (gl csS (x5.set x4.toNat v8)) ∧ ((List.range 1).map fun j => (csS v8).getD (0 + j) .nilptr) = ((List.range 1).map fun j => gl csS (x5.set x4.toNat v8) x4.toNat (0 + j)) ∧ ((((.str v8) : C) = (.str v8) ∧ Tt) ∧ Tt) ∧ (false = true → ∀ j, j < 1 → isSeq (gl csS x5 x4.toNat (0 + j)) = false ∧ isSeq (gl csS (x5.set x4.toNat v8) x4.toNat (0 + j)) = false)) ∧ Tt)) [.no, .no, .no, .call [.one (.flt .f32 (a0.getD x4.toNat default).bits)] [.one (.str v8)] [[.view]], .no, .set (x5.set x4.toNat v8).length (gl csS (x5.set x4.toNat v8)) ((List.range 1).map fun j => (csS v8).getD (0 + j) .nilptr)] [3, 9, 10, 11] [1] ⟨tr, tr, tr, ⟨⟨rfl, tr⟩, ok_impl_hexOf K (a0.getD x4.toNat default) v8 e9⟩, c10, ⟨List.length_set, gl_set, (gl_atp (lt_of_bound c10)).symm, ⟨⟨rfl, tr⟩, tr⟩, (fun h => nomatch h)⟩, tr⟩ ?_
    refine blockQ_normal ?_
    refine thenQ_normal ?_
    refine AW.rA ⟨[(3, (.v (.one (.arr 1)))), (9, (vc (sl 1 (csF .f32) a0))), (10, (vI (a0.length : Int))), (11, (vI (IntKind.i64.wrap (x4 + (1 : Int)))))], [(1, (.arr false (x5.set x4.toNat v8).length 1 (gl csS (x5.set x4.toNat v8))))]⟩ (T2 Tt) [] [3, 9, 10, 11] [1] ⟨tr, tr, tr⟩ ?_
    exact loopQ_normal (k, (IntKind.i64.wrap (x4 + (1 : Int))), (x5.set x4.toNat v8)) h (Nat.lt_succ_self k) (Sub.keep [3, 9, 10, 11] [1] (by kernel_rfl) (by kernel_rfl))
  · refine AW.cond_f rfl b6 ?_
    refine AW.exit ?_
    refine thenQ_exit ?_
    refine loopQ_exit ?_
    refine blockQ_exit ?_
    refine thenQ_normal ?_
    refine AW.seq ?_
    obtain ⟨v11, e12, h⟩ := bind_some h
    refine AW.tA ⟨[(2, (vc (.str v11)))], []⟩ (Tt ∧ (((Eqc (sl 1 csS x5)) ∧ Tt) ∧ CallOK Tryz.prog 38 [.one (sl 1 csS x5)] [.one (.str v11)]) ∧ Tt ∧ Tt) [.no, .call [.one (sl 1 csS x5)] [.one (.str v11)] [[.view]]] [2] [] ⟨tr, ⟨⟨rfl, tr⟩, ok_impl_joined K x5 v11 e12⟩, tr, tr⟩ ?_
    refine AW.ret ?_
    replace h := some_eq h
    subst h
    exact ⟨.inr rfl, retOK_of [(.one (.c (.str v11)))] (by kernel_rfl) ⟨⟨rfl, tr⟩, tr⟩ (of_decide_eq_true (by kernel_rfl))⟩

/-! impl.VectorText -/
def impl_VectorText (K : Nat) (a0 : Vector) : Option (ByteArray) :=
  (impl_numbersText K ([a0.X, a0.Y, a0.Z])).bind fun v1 => some v1

theorem ok_impl_VectorText (K : Nat) (a0 : Vector) (o : (ByteArray)) (h : impl_VectorText K a0 = some o) : CallOK Tryz.prog 18 [.agg (cs_Vector a0)] [.one (.str o)] := by
  refine callOK_of_AW Tryz.func18 rfl (by kernel_rfl) (Nat.le_of_ble_eq_true (by kernel_rfl)) ?_
  intro w0
  unfold impl_VectorText at h
  refine AW.sC (T2 Tt) [.box 1] [1] [1] ⟨tr, tr, tr⟩ ?_
  refine AW.seq ?_
  obtain ⟨v1, e2, h⟩ := bind_some h
  refine AW.tA ⟨[(2, (vc (.str v1)))], []⟩ (T2 (T4 ((([a0.X, a0.Y, a0.Z]).length = 3 ∧ (((.flt .f32 a0.X.bits) : C) = (.flt .f32 a0.X.bits) ∧ Tt) ∧ (((.flt .f32 a0.Y.bits) : C) = (.flt .f32 a0.Y.bits) ∧ Tt) ∧ (((.flt .f32 a0.Z.bits) : C) = (.flt .f32 a0.Z.bits) ∧ Tt) ∧ Tt) ∧ (((Eqc (sl 1 (csF .f32) ([a0.X, a0.Y, a0.Z]))) ∧ Tt) ∧ CallOK Tryz.prog 27 [.one (sl 1 (csF .f32) ([a0.X, a0.Y, a0.Z]))] [.one (.str v1)]) ∧ Tt ∧ Tt))) [.no, .no, .no, .no, .no, .no, .obj 2 ([a0.X, a0.Y, a0.Z]).length (gl (csF .f32) ([a0.X, a0.Y, a0.Z])), .call [.one (sl 1 (csF .f32) ([a0.X, a0.Y, a0.Z]))] [.one (.str v1)] [[.view]]] [2] [] ⟨tr, tr, tr, tr, tr, tr, ⟨rfl, ⟨⟨rfl, tr⟩, ⟨rfl, tr⟩, ⟨rfl, tr⟩, tr⟩⟩, ⟨⟨rfl, tr⟩, ok_impl_numbersText K ([a0.X, a0.Y, a0.Z]) v1 e2⟩, tr, tr⟩ ?_
  refine AW.ret ?_
  replace h := some_eq h
  subst h
  exact ⟨.inr rfl, retOK_of [(.one (.c (.str v1)))] (by kernel_rfl) ⟨⟨rfl, tr⟩, tr⟩ (of_decide_eq_true (by kernel_rfl))⟩

/-! strings.Split -/
def strings_Split (_K : Nat) (a0 : ByteArray) (a1 : ByteArray) : Option ((List ByteArray)) :=
  split1 a0 a1

theorem ok_strings_Split (K : Nat) (a0 : ByteArray) (a1 : ByteArray) (o : (List ByteArray)) (h : strings_Split K a0 a1 = some o) : CallOK Tryz.prog 51 [(.one (.str a0)), (.one (.str a1))] [.one (sl 1 csS o)] :=
  hand_split Tryz.func51 (by kernel_rfl) (by kernel_rfl) (fun s c w h => Tryz.split1 s c w h) a0 a1 o h

/-! impl.words -/
def impl_words (K : Nat) (a0 : ByteArray) : Option ((List ByteArray)) :=
  ite2 ((a0.toList == (ByteArray.mk #[110, 111, 110, 101]).toList)) (some ([] : (List ByteArray))) ((strings_Split K a0 (ByteArray.mk #[44])).bind fun v2 => some v2)

theorem ok_impl_words (K : Nat) (a0 : ByteArray) (o : ((List ByteArray))) (h : impl_words K a0 = some o) : CallOK Tryz.prog 39 [.one (.str a0)] [.one (sl 1 csS o)] := by
  refine callOK_of_AW Tryz.func39 rfl (by kernel_rfl) (Nat.le_of_ble_eq_true (by kernel_rfl)) ?_
  intro w0
  unfold impl_words at h
  refine AW.sC (Tt ∧ Tt) [] [0] [] ⟨tr, tr⟩ ?_
  refine AW.seq ?_
  refine AW.sA ⟨[(0, (vc (.str a0))), (4, (vB (a0.toList == (ByteArray.mk #[110, 111, 110, 101]).toList)))], []⟩ (T2 Tt) [] [0, 4] [] ⟨tr, tr, tr⟩ ?_
  rcases ite2_cases h with ⟨b1, h⟩ | ⟨b1, h⟩
  · refine AW.cond_t rfl b1 ?_
    refine AW.sA ⟨[(2, (.v (.one .nils)))], []⟩ (Tt ∧ Tt) [] [2] [] ⟨tr, tr⟩ ?_
    refine AW.ret ?_
    refine thenQ_ret ?_
    replace h := some_eq h
    subst h
    exact ⟨.inr rfl, retOK_of [(.one .nils)] (by kernel_rfl) ⟨rfl, tr⟩ (of_decide_eq_true (by kernel_rfl))⟩
  · refine AW.cond_f rfl b1 ?_
    refine AW.skip ?_
    refine thenQ_normal ?_
    refine AW.seq ?_
    obtain ⟨v2, e3, h⟩ := bind_some h
    refine AW.tA ⟨[(2, (vL 1 1 csS v2))], [(1, (oL 1 csS v2))]⟩ (Tt ∧ (((Eqc (.str a0)) ∧ (Eqc (.str (ByteArray.mk #[44]))) ∧ Tt) ∧ CallOK Tryz.prog 51 [.one (.str a0), .one (.str (ByteArray.mk #[44]))] [.one (sl 1 csS v2)]) ∧ Tt ∧ Tt) [.no, .call [.one (.str a0), .one (.str (ByteArray.mk #[44]))] [.one (sl 1 csS v2)] [[.lst 1]]] [2] [1] ⟨tr, ⟨⟨rfl, rfl, tr⟩, ok_strings_Split K a0 (ByteArray.mk #[44]) v2 e3⟩, tr, tr⟩ ?_
    refine AW.ret ?_
    replace h := some_eq h
    subst h
    exact ⟨.inr rfl, retOK_of [(.one (xL 1 1 csS v2))] (by kernel_rfl) ⟨rfl, tr⟩ (of_decide_eq_true (by kernel_rfl))⟩

/-! strconv.ParseUint -/
def strconv_ParseUint (_K : Nat) (a0 : ByteArray) (a1 : Int) (a2 : Int) : Option ((Int × Unit)) :=
  p16 a0 a1 a2

theorem ok_strconv_ParseUint (K : Nat) (a0 : ByteArray) (a1 : Int) (a2 : Int) (o : (Int × Unit)) (h : strconv_ParseUint K a0 a1 a2 = some o) : CallOK Tryz.prog 52 [(.one (.str a0)), (.one (.int .i64 a1)), (.one (.int .i64 a2))] [.one (.int .u64 o.1), .one .niliface] :=
  hand_p16 Tryz.func52 (by kernel_rfl) (by kernel_rfl) (fun t h1 h2 h3 w => Tryz.parse16 t h1 h2 h3 w) a0 a1 a2 o h

/-! impl.fromHex -/
def impl_fromHex (K : Nat) (a0 : ByteArray) : Option (F32 × Bool) :=
  (strconv_ParseUint K a0 (16 : Int) (32 : Int)).bind fun v1 => ite2 (((a0.size : Int) != (8 : Int))) (some ((Fl.mk (k := .f32) 0 (by decide)), false)) ((math_Float32frombits K (IntKind.u32.wrap v1.1)).bind fun v4 => (impl_hexOf K v4).bind fun v6 => some (v4, (v6.toList == a0.toList)))

theorem ok_impl_fromHex (K : Nat) (a0 : ByteArray) (o : (F32 × Bool)) (h : impl_fromHex K a0 = some o) : CallOK Tryz.prog 40 [.one (.str a0)] [.one (.flt .f32 o.1.bits), .one (.bool o.2)] := by
  refine callOK_of_AW Tryz.func40 rfl (by kernel_rfl) (Nat.le_of_ble_eq_true (by kernel_rfl)) ?_
  intro w0
  unfold impl_fromHex at h
  refine AW.sC (T2 Tt) [] [0] [] ⟨tr, tr, tr⟩ ?_
  refine AW.seq ?_
  obtain ⟨v1, e2, h⟩ := bind_some h
  refine AW.tC (Tt ∧ (((Eqc (.str a0)) ∧ (eI (16 : Int)) ∧ (eI (32 : Int)) ∧ Tt) ∧ CallOK Tryz.prog 52 [.one (.str a0), .one (.int .i64 (16 : Int)), .one (.int .i64 (32 : Int))] [.one (.int .u64 v1.1), .one .niliface]) ∧ Tt ∧ T4 Tt) [.no, .call [.one (.str a0), .one (.int .i64 (16 : Int)), .one (.int .i64 (32 : Int))] [.one (.int .u64 v1.1), .one .niliface] [[.view], [.view]]] [0, 4, 5] [] ⟨tr, ⟨⟨rfl, rfl, rfl, tr⟩, ok_strconv_ParseUint K a0 (16 : Int) (32 : Int) v1 e2⟩, tr, tr, tr, tr, tr, tr⟩ ?_
  refine AW.seq ?_
  refine AW.sA ⟨[(0, (vc (.str a0))), (4, (vc (.int .u64 v1.1))), (18, (vB ((a0.size : Int) != (8 : Int))))], []⟩ (Tt ∧ T2 (T4 Tt)) [] [0, 4, 18] [] ⟨tr, tr, tr, tr, tr, tr, tr, tr⟩ ?_
  rcases ite2_cases h with ⟨b3, h⟩ | ⟨b3, h⟩
  · refine AW.cond_t rfl b3 ?_
    refine AW.sA ⟨[(2, (vc (.flt .f32 (Fl.mk (k := .f32) 0 (by decide)).bits))), (3, (vB false))], []⟩ (T2 Tt) [] [2, 3] [] ⟨tr, tr, tr⟩ ?_
    refine AW.ret ?_
    refine thenQ_ret ?_
    replace h := some_eq h
    subst h
    exact ⟨.inr rfl, retOK_of [(.one (cF (Fl.mk (k := .f32) 0 (by decide)))), (.one (.c (.bool false)))] (by kernel_rfl) ⟨⟨rfl, tr⟩, ⟨rfl, tr⟩, tr⟩ (of_decide_eq_true (by kernel_rfl))⟩
  · refine AW.cond_f rfl b3 ?_
    refine AW.skip ?_
    refine thenQ_normal ?_
    refine AW.seq ?_
    obtain ⟨v4, e5, h⟩ := bind_some h
    refine AW.tC (T2 ((((Eqc (.int .u32 (IntKind.u32.wrap v1.1))) ∧ Tt) ∧ CallOK Tryz.prog 53 [.one (.int .u32 (IntKind.u32.wrap v1.1))] [.one (.flt .f32 v4.bits)]) ∧ Tt ∧ Tt)) [.no, .no, .call [.one (.int .u32 (IntKind.u32.wrap v1.1))] [.one (.flt .f32 v4.bits)] [[.view]]] [0, 6] [] ⟨tr, tr, ⟨⟨rfl, tr⟩, ok_math_Float32frombits K (IntKind.u32.wrap v1.1) v4 e5⟩, tr, tr⟩ ?_
    refine AW.seq ?_
    obtain ⟨v6, e7, h⟩ := bind_some h
    refine AW.tA ⟨[(2, (vc (.flt .f32 v4.bits))), (3, (vB (v6.toList == a0.toList)))], []⟩ (T2 ((((eF v4) ∧ Tt) ∧ CallOK Tryz.prog 37 [.one (.flt .f32 v4.bits)] [.one (.str v6)]) ∧ T4 Tt)) [.no, .no, .call [.one (.flt .f32 v4.bits)] [.one (.str v6)] [[.view]]] [2, 3] [] ⟨tr, tr, ⟨⟨rfl, tr⟩, ok_impl_hexOf K v4 v6 e7⟩, tr, tr, tr, tr, tr⟩ ?_
    refine AW.ret ?_
    replace h := some_eq h
    subst h
    exact ⟨.inr rfl, retOK_of [(.one (cF v4)), (.one (.c (.bool (v6.toList == a0.toList))))] (by kernel_rfl) ⟨⟨rfl, tr⟩, ⟨rfl, tr⟩, tr⟩ (of_decide_eq_true (by kernel_rfl))⟩

/-! impl.ReadNumbers -/
def impl_ReadNumbers_l1 (K : Nat) (v1 : ((List ByteArray))) : Nat → Int → (List F32) → Option ((List F32) × Bool)
  | 0, _, _ => none
  | k + 1, x7, x8 => ite2 ((decide (x7 < (v1.length : Int)))) (chk (0 ≤ x7 ∧ x7 < (v1.length : Int)) ((impl_fromHex K (v1.getD x7.toNat default)).bind fun v11 => ite2 ((!v11.2)) (some (([] : (List F32)), false)) (chk (0 ≤ x7 ∧ x7 < (x8.length : Int)) (impl_ReadNumbers_l1 K v1 k (IntKind.i64.wrap (x7 + (1 : Int))) (x8.set x7.toNat v11.1))))) (some (x8, true))

def impl_ReadNumbers (K : Nat) (a0 : ByteArray) : Option ((List F32) × Bool) :=
  (impl_words K a0).bind fun v1 => ite2 ((decide ((v1.length : Int) > (256 : Int)))) (some (([] : (List F32)), false)) (chk (0 ≤ (v1.length : Int) ∧ (v1.length : Int).toNat * 4 ≤ 140737488355328) (impl_ReadNumbers_l1 K v1 K (0 : Int) (List.replicate (v1.length : Int).toNat (default : F32))))

theorem ok_impl_ReadNumbers (K : Nat) (a0 : ByteArray) (o : ((List F32) × Bool)) (h : impl_ReadNumbers K a0 = some o) : CallOK Tryz.prog 28 [.one (.str a0)] [.one (sl 1 (csF .f32) o.1), .one (.bool o.2)] := by
  refine callOK_of_AW Tryz.func28 rfl (by kernel_rfl) (Nat.le_of_ble_eq_true (by kernel_rfl)) ?_
  intro w0
  unfold impl_ReadNumbers at h
  refine AW.sC (T2 Tt) [] [0] [] ⟨tr, tr, tr⟩ ?_
  refine AW.seq ?_
  obtain ⟨v1, e2, h⟩ := bind_some h
  refine AW.tC (Tt ∧ (((Eqc (.str a0)) ∧ Tt) ∧ CallOK Tryz.prog 39 [.one (.str a0)] [.one (sl 1 csS v1)]) ∧ Tt ∧ Tt) [.no, .call [.one (.str a0)] [.one (sl 1 csS v1)] [[.lst 1]]] [4] [1] ⟨tr, ⟨⟨rfl, tr⟩, ok_impl_words K a0 v1 e2⟩, tr, tr⟩ ?_
  refine AW.seq ?_
  refine AW.sA ⟨[(4, (vL 1 1 csS v1)), (14, (vB (decide ((v1.length : Int) > (256 : Int)))))], [(1, (oL 1 csS v1))]⟩ (Tt ∧ T2 Tt) [] [4, 14] [1] ⟨tr, tr, tr, tr⟩ ?_
  rcases ite2_cases h with ⟨b3, h⟩ | ⟨b3, h⟩
  · refine AW.cond_t rfl b3 ?_
    refine AW.sA ⟨[(2, (.v (.one .nils))), (3, (vB false))], []⟩ (T2 Tt) [] [2, 3] [] ⟨tr, tr, tr⟩ ?_
    refine AW.ret ?_
    refine thenQ_ret ?_
    replace h := some_eq h
    subst h
    exact ⟨.inr rfl, retOK_of [(.one .nils), (.one (.c (.bool false)))] (by kernel_rfl) ⟨rfl, ⟨rfl, tr⟩, tr⟩ (of_decide_eq_true (by kernel_rfl))⟩
  · refine AW.cond_f rfl b3 ?_
    refine AW.skip ?_
    refine thenQ_normal ?_
    refine AW.seq ?_
    obtain ⟨c4, h⟩ := chk_some h
    refine AW.tC (T2 ((0 ≤ (v1.length : Int) ∧ (v1.length : Int) = (v1.length : Int) ∧ (((List.replicate (v1.length : Int).toNat (default : F32)).length : Nat) : Int) = (v1.length : Int) ∧ (List.replicate (v1.length : Int).toNat (default : F32)).length * 4 ≤ 140737488355328 ∧ ∀ i, i < (List.replicate (v1.length : Int).toNat (default : F32)).length → zeroRow (fun _ => none) [(cF (default : F32))] (gl (csF .f32) (List.replicate (v1.length : Int).toNat (default : F32)) i)) ∧ Tt ∧ Tt)) [.no, .no, .objA 2 (List.replicate (v1.length : Int).toNat (default : F32)).length (gl (csF .f32) (List.replicate (v1.length : Int).toNat (default : F32)))] [4, 5] [1, 2] ⟨tr, tr, ⟨c4.1, rfl, len_rep c4.1, rep_bytes c4.2, fun i hi => gl_zero (cs := (csF .f32)) (zs := [(cF (default : F32))]) (n := (v1.length : Int).toNat) ⟨⟨rfl, tr⟩, tr⟩ i (rep_lt hi)⟩, tr, tr⟩ ?_
    refine AW.seq ?_
    refine AW.sA ⟨[(5, (.v (.one (.arr 2)))), (18, (vL 1 1 csS v1)), (19, (vI (v1.length : Int))), (20, (vI (0 : Int)))], [(1, (oL 1 csS v1)), (2, (.arr false (List.replicate (v1.length : Int).toNat (default : F32)).length 1 (gl (csF .f32) (List.replicate (v1.length : Int).toNat (default : F32)))))]⟩ (Tt ∧ T2 Tt) [] [5, 18, 19, 20] [1, 2] ⟨tr, tr, tr, tr⟩ ?_
    refine AW.block ?_
    refine AW.loopQ (σ := Nat × Int × (List F32)) (fun p => ⟨[(5, (.v (.one (.arr 2)))), (18, (vL 1 1 csS v1)), (19, (vI (v1.length : Int))), (20, (vI p.2.1))], [(1, (oL 1 csS v1)), (2, (.arr false p.2.2.length 1 (gl (csF .f32) p.2.2)))]⟩) (fun p => impl_ReadNumbers_l1 K v1 p.1 p.2.1 p.2.2 = some o) (fun p => p.1) (K, (0 : Int), (List.replicate (v1.length : Int).toNat (default : F32))) h ?_
    clear h
    rintro ⟨k, x7, x8⟩ h
    replace h : impl_ReadNumbers_l1 K v1 k x7 x8 = some o := h
    show AW _ _ (⟨[(5, (.v (.one (.arr 2)))), (18, (vL 1 1 csS v1)), (19, (vI (v1.length : Int))), (20, (vI x7))], [(1, (oL 1 csS v1)), (2, (.arr false x8.length 1 (gl (csF .f32) x8)))]⟩ : St) _
    obtain _ | k := k
    · rw [impl_ReadNumbers_l1] at h; cases h
    rw [impl_ReadNumbers_l1] at h
    refine AW.sA ⟨[(5, (.v (.one (.arr 2)))), (18, (vL 1 1 csS v1)), (19, (vI (v1.length : Int))), (20, (vI x7)), (21, (vB (decide (x7 < (v1.length : Int)))))], [(1, (oL 1 csS v1)), (2, (.arr false x8.length 1 (gl (csF .f32) x8)))]⟩ (Tt ∧ Tt) [] [5, 18, 19, 20, 21] [1, 2] ⟨tr, tr⟩ ?_
    refine AW.seq ?_
    rcases ite2_cases h with ⟨b9, h⟩ | ⟨b9, h⟩
    · refine AW.cond_t rfl b9 ?_
      refine AW.skip ?_
      refine thenQ_normal ?_
      refine AW.seq ?_
      refine AW.block ?_
      refine AW.seq ?_
      obtain ⟨c10, h⟩ := chk_some h
      refine AW.tC (Tt ∧ (0 ≤ x7 ∧ x7 < (v1.length : Int)) ∧ Tt ∧ T2 Tt) [] [5, 6, 7, 18, 19, 20] [1, 2] ⟨tr, c10, tr, tr, tr, tr⟩ ?_
      refine AW.seq ?_
      obtain ⟨v11, e12, h⟩ := bind_some h
      refine AW.tC (Tt ∧ (((Eqc (.str (v1.getD x7.toNat default))) ∧ Tt) ∧ CallOK Tryz.prog 40 [.one (.str (v1.getD x7.toNat default))] [.one (.flt .f32 v11.1.bits), .one (.bool v11.2)]) ∧ Tt ∧ T4 Tt) [.no, .call [.one (.str (v1.getD x7.toNat default))] [.one (.flt .f32 v11.1.bits), .one (.bool v11.2)] [[.view], [.view]]] [5, 6, 8, 9, 18, 19, 20] [1, 2] ⟨tr, ⟨⟨rfl, tr⟩, ok_impl_fromHex K (v1.getD x7.toNat default) v11 e12⟩, tr, tr, tr, tr, tr, tr⟩ ?_
      refine AW.seq ?_
      refine AW.sA ⟨[(5, (.v (.one (.arr 2)))), (6, (vI x7)), (8, (vc (.flt .f32 v11.1.bits))), (18, (vL 1 1 csS v1)), (19, (vI (v1.length : Int))), (20, (vI x7)), (31, (vB (!v11.2)))], [(1, (oL 1 csS v1)), (2, (.arr false x8.length 1 (gl (csF .f32) x8)))]⟩ (T2 Tt) [] [5, 6, 8, 18, 19, 20, 31] [1, 2] ⟨tr, tr, tr⟩ ?_
      rcases ite2_cases h with ⟨b13, h⟩ | ⟨b13, h⟩
      · refine AW.cond_t rfl b13 ?_
        refine AW.sA ⟨[(2, (.v (.one .nils))), (3, (vB false))], []⟩ (T2 Tt) [] [2, 3] [] ⟨tr, tr, tr⟩ ?_
        refine AW.ret ?_
        refine thenQ_ret ?_
        refine blockQ_ret ?_
        refine thenQ_ret ?_
        refine loopQ_ret ?_
        refine blockQ_ret ?_
        refine thenQ_ret ?_
        replace h := some_eq h
        subst h
        exact ⟨.inr rfl, retOK_of [(.one .nils), (.one (.c (.bool false)))] (by kernel_rfl) ⟨rfl, ⟨rfl, tr⟩, tr⟩ (of_decide_eq_true (by kernel_rfl))⟩
      · refine AW.cond_f rfl b13 ?_
        refine AW.skip ?_
        refine thenQ_normal ?_
        obtain ⟨c14, h⟩ := chk_some h
        refine AW.rA ⟨[(5, (.v (.one (.arr 2)))), (18, (vL 1 1 csS v1)), (19, (vI (v1.length : Int))), (20, (vI x7))], [(1, (oL 1 csS v1)), (2, (.arr false (x8.set x7.toNat v11.1).length 1 (gl (csF .f32) (x8.set x7.toNat v11.1))))]⟩ (Tt ∧ T2 ((0 ≤ x7 ∧ x7 < (x8.length : Int)) ∧ ((x8.set x7.toNat v11.1).length = x8.length ∧ SetOb x8.length 1 x7.toNat 0 1 (gl (csF .f32) x8) (gl (csF .f32) (x8.set x7.toNat v11.1)) ∧ ((List.range 1).map fun j => ((csF .f32) v11.1).getD (0 + j) .nilptr) = ((List.range 1).map fun j => gl (csF .f32) (x8.set x7.toNat v11.1) x7.toNat (0 + j)) ∧ ((((.flt .f32 v11.1.bits) : C) = (.flt .f32 v11.1.bits) ∧ Tt) ∧ Tt) ∧ (false = true → ∀ j, j < 1 → isSeq (gl (csF .f32) x8 x7.toNat (0 + j)) = false ∧ isSeq (gl (csF .f32) (x8.set x7.toNat v11.1) x7.toNat (0 + j)) = false)) ∧ Tt)) [.no, .no, .no, .no, .set (x8.set x7.toNat v11.1).length (gl (csF .f32) (x8.set x7.toNat v11.1)) ((List.range 1).map fun j => ((csF .f32) v11.1).getD (0 + j) .nilptr)] [5, 18, 19, 20] [1, 2] ⟨tr, tr, tr, c14, ⟨List.length_set, gl_set, (gl_atp (lt_of_bound c14)).symm, ⟨⟨rfl, tr⟩, tr⟩, (fun h => nomatch h)⟩, tr⟩ ?_
        refine blockQ_normal ?_
        refine thenQ_normal ?_
        refine AW.rA ⟨[(5, (.v (.one (.arr 2)))), (18, (vL 1 1 csS v1)), (19, (vI (v1.length : Int))), (20, (vI (IntKind.i64.wrap (x7 + (1 : Int)))))], [(1, (oL 1 csS v1)), (2, (.arr false (x8.set x7.toNat v11.1).length 1 (gl (csF .f32) (x8.set x7.toNat v11.1))))]⟩ (T2 Tt) [] [5, 18, 19, 20] [1, 2] ⟨tr, tr, tr⟩ ?_
        exact loopQ_normal (k, (IntKind.i64.wrap (x7 + (1 : Int))), (x8.set x7.toNat v11.1)) h (Nat.lt_succ_self k) (Sub.keep [5, 18, 19, 20] [1, 2] (by kernel_rfl) (by kernel_rfl))
    · refine AW.cond_f rfl b9 ?_
      refine AW.exit ?_
      refine thenQ_exit ?_
      refine loopQ_exit ?_
      refine blockQ_exit ?_
      refine thenQ_normal ?_
      refine AW.sA ⟨[(2, (.v (.one (.arr 2)))), (3, (vB true))], [(2, (.arr false x8.length 1 (gl (csF .f32) x8)))]⟩ (Tt ∧ T2 Tt) [] [2, 3] [2] ⟨tr, tr, tr, tr⟩ ?_
      refine AW.ret ?_
      replace h := some_eq h
      subst h
      exact ⟨.inr rfl, retOK_of [(.one (.arr 2)), (.one (.c (.bool true)))] (by kernel_rfl) ⟨rfl, ⟨rfl, tr⟩, tr⟩ (of_decide_eq_true (by kernel_rfl))⟩

/-! impl.ReadVector -/
def impl_ReadVector (K : Nat) (a0 : ByteArray) : Option (Vector × Bool) :=
  (impl_ReadNumbers K a0).bind fun v1 => (ite2 ((!v1.2)) (some true) (some ((v1.1.length : Int) != (3 : Int)))).bind fun j4 => ite2 (j4) (some ((Vector.mk (default : F32) (default : F32) (default : F32)), false)) (chk (0 ≤ (0 : Int) ∧ (0 : Int) < (v1.1.length : Int)) (chk (0 ≤ (1 : Int) ∧ (1 : Int) < (v1.1.length : Int)) (chk (0 ≤ (2 : Int) ∧ (2 : Int) < (v1.1.length : Int)) (some ((Vector.mk (v1.1.getD ((0 : Int).toNat) default) (v1.1.getD ((1 : Int).toNat) default) (v1.1.getD ((2 : Int).toNat) default)), true)))))

theorem ok_impl_ReadVector (K : Nat) (a0 : ByteArray) (o : (Vector × Bool)) (h : impl_ReadVector K a0 = some o) : CallOK Tryz.prog 19 [.one (.str a0)] [.agg (cs_Vector o.1), .one (.bool o.2)] := by
  refine callOK_of_AW Tryz.func19 rfl (by kernel_rfl) (Nat.le_of_ble_eq_true (by kernel_rfl)) ?_
  intro w0
  unfold impl_ReadVector at h
  refine AW.sC (T2 Tt) [.box 1] [0, 2] [1] ⟨tr, tr, tr⟩ ?_
  refine AW.seq ?_
  obtain ⟨v1, e2, h⟩ := bind_some h
  refine AW.tA ⟨[(2, (vp 1 0)), (4, (vL 2 1 (csF .f32) v1.1)), (5, (vB v1.2))], [(1, (.box [(cF (default : F32)), (cF (default : F32)), (cF (default : F32))])), (2, (oL 1 (csF .f32) v1.1))]⟩ (Tt ∧ (((Eqc (.str a0)) ∧ Tt) ∧ CallOK Tryz.prog 28 [.one (.str a0)] [.one (sl 1 (csF .f32) v1.1), .one (.bool v1.2)]) ∧ Tt ∧ T4 Tt) [.no, .call [.one (.str a0)] [.one (sl 1 (csF .f32) v1.1), .one (.bool v1.2)] [[.lst 2], [.view]]] [2, 4, 5] [1, 2] ⟨tr, ⟨⟨rfl, tr⟩, ok_impl_ReadNumbers K a0 v1 e2⟩, tr, tr, tr, tr, tr, tr⟩ ?_
  refine AW.seq ?_
  refine AW.seq ?_
  obtain ⟨j4, e5, h⟩ := bind_some h
  refine AW.join1 (s2 := ⟨[(2, (vp 1 0)), (4, (vL 2 1 (csF .f32) v1.1)), (17, (vB j4))], [(1, (.box [(cF (default : F32)), (cF (default : F32)), (cF (default : F32))])), (2, (oL 1 (csF .f32) v1.1))]⟩) ?_ ?_
  · rcases ite2_cases e5 with ⟨b3, e5⟩ | ⟨b3, e5⟩
    · replace e5 := some_eq e5
      subst e5
      exact AW.rA ⟨[(2, (vp 1 0)), (4, (vL 2 1 (csF .f32) v1.1)), (17, (vB true))], [(1, (.box [(cF (default : F32)), (cF (default : F32)), (cF (default : F32))])), (2, (oL 1 (csF .f32) v1.1))]⟩ (T2 ((Tt ∧ (!v1.2) = true) ∧ T4 Tt)) [.no, .no, .dec true] [2, 4, 17] [1, 2] ⟨tr, tr, ⟨tr, b3⟩, tr, tr, tr, tr, tr⟩ ⟨rfl, rfl⟩
    · replace e5 := some_eq e5
      subst e5
      exact AW.rA ⟨[(2, (vp 1 0)), (4, (vL 2 1 (csF .f32) v1.1)), (17, (vB ((v1.1.length : Int) != (3 : Int))))], [(1, (.box [(cF (default : F32)), (cF (default : F32)), (cF (default : F32))])), (2, (oL 1 (csF .f32) v1.1))]⟩ (T2 ((Tt ∧ (!v1.2) = false) ∧ T4 Tt)) [.no, .no, .dec false] [2, 4, 17] [1, 2] ⟨tr, tr, ⟨tr, b3⟩, tr, tr, tr, tr, tr⟩ ⟨rfl, rfl⟩
  refine thenQ_normal ?_
  rcases ite2_cases h with ⟨b6, h⟩ | ⟨b6, h⟩
  · refine AW.cond_t rfl b6 ?_
    refine AW.sA ⟨[(2, (vp 1 0)), (3, (vB false))], [(1, (.box [(cF (default : F32)), (cF (default : F32)), (cF (default : F32))]))]⟩ (Tt ∧ T2 Tt) [] [2, 3] [1] ⟨tr, tr, tr, tr⟩ ?_
    refine AW.ret ?_
    refine thenQ_ret ?_
    replace h := some_eq h
    subst h
    exact ⟨.inr rfl, retOK_of [(.agg [(cF (default : F32)), (cF (default : F32)), (cF (default : F32))]), (.one (.c (.bool false)))] (by kernel_rfl) ⟨⟨⟨rfl, tr⟩, ⟨rfl, tr⟩, ⟨rfl, tr⟩, tr⟩, ⟨rfl, tr⟩, tr⟩ (of_decide_eq_true (by kernel_rfl))⟩
  · refine AW.cond_f rfl b6 ?_
    refine AW.skip ?_
    refine thenQ_normal ?_
    refine AW.seq ?_
    obtain ⟨c7, h⟩ := chk_some h
    obtain ⟨c8, h⟩ := chk_some h
    obtain ⟨c9, h⟩ := chk_some h
    refine AW.dA ⟨[(2, (vp 1 0)), (3, (vB true))], [(1, (.box [(cF (v1.1.getD ((0 : Int).toNat) default)), (cF (v1.1.getD ((1 : Int).toNat) default)), (cF (v1.1.getD ((2 : Int).toNat) default))]))]⟩ ((Tt ∧ (0 ≤ (0 : Int) ∧ (0 : Int) < (v1.1.length : Int)) ∧ T2 ((0 ≤ (1 : Int) ∧ (1 : Int) < (v1.1.length : Int)) ∧ T2 ((0 ≤ (2 : Int) ∧ (2 : Int) < (v1.1.length : Int)) ∧ T2 Tt))) ∧ (T2 Tt)) 10 [] [2, 3] [1] ⟨⟨tr, c7, tr, tr, c8, tr, tr, c9, tr, tr, tr⟩, ⟨tr, tr, tr⟩⟩ ?_
    refine thenQ_normal ?_
    refine AW.ret ?_
    replace h := some_eq h
    subst h
    exact ⟨.inr rfl, retOK_of [(.agg [(cF (v1.1.getD ((0 : Int).toNat) default)), (cF (v1.1.getD ((1 : Int).toNat) default)), (cF (v1.1.getD ((2 : Int).toNat) default))]), (.one (.c (.bool true)))] (by kernel_rfl) ⟨⟨⟨rfl, tr⟩, ⟨rfl, tr⟩, ⟨rfl, tr⟩, tr⟩, ⟨rfl, tr⟩, tr⟩ (of_decide_eq_true (by kernel_rfl))⟩

/-! math.Float64bits -/
def math_Float64bits (_K : Nat) (a0 : F64) : Option (Int) :=
  a0.toBits

theorem ok_math_Float64bits (K : Nat) (a0 : F64) (o : Int) (h : math_Float64bits K a0 = some o) : CallOK Tryz.prog 54 [.one (.flt .f64 a0.bits)] [.one (.int .u64 o)] :=
  hand_toBits (e := Extern.MathFloatBits.float64bits) Tryz.func54 (by kernel_rfl) (by kernel_rfl) (by kernel_rfl) (by kernel_rfl) (fun _ _ => rfl) a0 o h

/-! math.Signbit -/
def math_Signbit (K : Nat) (a0 : F64) : Option (Bool) :=
  (math_Float64bits K a0).bind fun v1 => some (decide ((IntKind.i64.wrap v1) < (0 : Int)))

theorem ok_math_Signbit (K : Nat) (a0 : F64) (o : (Bool)) (h : math_Signbit K a0 = some o) : CallOK Tryz.prog 41 [.one (.flt .f64 a0.bits)] [.one (.bool o)] := by
  refine callOK_of_AW Tryz.func41 rfl (by kernel_rfl) (Nat.le_of_ble_eq_true (by kernel_rfl)) ?_
  intro w0
  unfold math_Signbit at h
  refine AW.sC (Tt ∧ Tt) [] [0] [] ⟨tr, tr⟩ ?_
  refine AW.seq ?_
  obtain ⟨v1, e2, h⟩ := bind_some h
  refine AW.tA ⟨[(2, (vB (decide ((IntKind.i64.wrap v1) < (0 : Int)))))], []⟩ (Tt ∧ (((Eqc (.flt .f64 a0.bits)) ∧ Tt) ∧ CallOK Tryz.prog 54 [.one (.flt .f64 a0.bits)] [.one (.int .u64 v1)]) ∧ Tt ∧ T2 Tt) [.no, .call [.one (.flt .f64 a0.bits)] [.one (.int .u64 v1)] [[.view]]] [2] [] ⟨tr, ⟨⟨rfl, tr⟩, ok_math_Float64bits K a0 v1 e2⟩, tr, tr, tr, tr⟩ ?_
  refine AW.ret ?_
  replace h := some_eq h
  subst h
  exact ⟨.inr rfl, retOK_of [(.one (.c (.bool (decide ((IntKind.i64.wrap v1) < (0 : Int))))))] (by kernel_rfl) ⟨⟨rfl, tr⟩, tr⟩ (of_decide_eq_true (by kernel_rfl))⟩

/-! impl.SameNumber -/
def impl_SameNumber (K : Nat) (a0 : F32) (a1 : F32) : Option (Bool) :=
  (ite2 ((a0.ne a0)) (some true) (some (a1.ne a1))).bind fun j2 => ite2 (j2) ((ite2 ((a0.ne a0)) (some (a1.ne a1)) (some false)).bind fun j6 => some j6) ((ite2 ((a0.eq a1)) ((math_Signbit K (Fl.cv .f32 .f64 a0)).bind fun v9 => (math_Signbit K (Fl.cv .f32 .f64 a1)).bind fun v11 => some (v9 == v11)) (some false)).bind fun j13 => some j13)

theorem ok_impl_SameNumber (K : Nat) (a0 : F32) (a1 : F32) (o : (Bool)) (h : impl_SameNumber K a0 a1 = some o) : CallOK Tryz.prog 29 [.one (.flt .f32 a0.bits), .one (.flt .f32 a1.bits)] [.one (.bool o)] := by
  refine callOK_of_AW Tryz.func29 rfl (by kernel_rfl) (Nat.le_of_ble_eq_true (by kernel_rfl)) ?_
  intro w0
  unfold impl_SameNumber at h
  refine AW.sA ⟨[(0, (vc (.flt .f32 a0.bits))), (1, (vc (.flt .f32 a1.bits)))], []⟩ (Tt ∧ Tt) [] [0, 1] [] ⟨tr, tr⟩ ?_
  refine AW.seq ?_
  refine AW.seq ?_
  obtain ⟨j2, e3, h⟩ := bind_some h
  refine AW.join1 (s2 := ⟨[(0, (vc (.flt .f32 a0.bits))), (1, (vc (.flt .f32 a1.bits))), (12, (vB j2))], []⟩) ?_ ?_
  · rcases ite2_cases e3 with ⟨b1, e3⟩ | ⟨b1, e3⟩
    · replace e3 := some_eq e3
      subst e3
      exact AW.rA ⟨[(0, (vc (.flt .f32 a0.bits))), (1, (vc (.flt .f32 a1.bits))), (12, (vB true))], []⟩ (Tt ∧ T2 ((Tt ∧ (a0.ne a0) = true) ∧ T4 Tt)) [.no, .no, .no, .dec true] [0, 1, 12] [] ⟨tr, tr, tr, ⟨tr, b1⟩, tr, tr, tr, tr, tr⟩ ⟨rfl, rfl⟩
    · replace e3 := some_eq e3
      subst e3
      exact AW.rA ⟨[(0, (vc (.flt .f32 a0.bits))), (1, (vc (.flt .f32 a1.bits))), (12, (vB (a1.ne a1)))], []⟩ (Tt ∧ T2 ((Tt ∧ (a0.ne a0) = false) ∧ T4 Tt)) [.no, .no, .no, .dec false] [0, 1, 12] [] ⟨tr, tr, tr, ⟨tr, b1⟩, tr, tr, tr, tr, tr⟩ ⟨rfl, rfl⟩
  refine thenQ_normal ?_
  rcases ite2_cases h with ⟨b4, h⟩ | ⟨b4, h⟩
  · refine AW.cond_t rfl b4 ?_
    refine AW.seq ?_
    obtain ⟨j6, e7, h⟩ := bind_some h
    refine AW.join1 (s2 := ⟨[(4, (vB j6))], []⟩) ?_ ?_
    · rcases ite2_cases e7 with ⟨b5, e7⟩ | ⟨b5, e7⟩
      · replace e7 := some_eq e7
        subst e7
        exact AW.rA ⟨[(4, (vB (a1.ne a1)))], []⟩ (Tt ∧ T2 ((Tt ∧ (a0.ne a0) = true) ∧ Tt ∧ T4 Tt)) [.no, .no, .no, .dec true] [4] [] ⟨tr, tr, tr, ⟨tr, b5⟩, tr, tr, tr, tr, tr, tr⟩ ⟨rfl, rfl⟩
      · replace e7 := some_eq e7
        subst e7
        exact AW.rA ⟨[(4, (vB false))], []⟩ (Tt ∧ T2 ((Tt ∧ (a0.ne a0) = false) ∧ Tt ∧ T4 Tt)) [.no, .no, .no, .dec false] [4] [] ⟨tr, tr, tr, ⟨tr, b5⟩, tr, tr, tr, tr, tr, tr⟩ ⟨rfl, rfl⟩
    refine thenQ_normal ?_
    refine AW.ret ?_
    refine thenQ_ret ?_
    replace h := some_eq h
    subst h
    exact ⟨.inr rfl, retOK_of [(.one (.c (.bool j6)))] (by kernel_rfl) ⟨⟨rfl, tr⟩, tr⟩ (of_decide_eq_true (by kernel_rfl))⟩
  · refine AW.cond_f rfl b4 ?_
    refine AW.skip ?_
    refine thenQ_normal ?_
    refine AW.seq ?_
    obtain ⟨j13, e14, h⟩ := bind_some h
    refine AW.join1 (s2 := ⟨[(4, (vB j13))], []⟩) ?_ ?_
    · rcases ite2_cases e14 with ⟨b8, e14⟩ | ⟨b8, e14⟩
      · obtain ⟨v9, e10, e14⟩ := bind_some e14
        obtain ⟨v11, e12, e14⟩ := bind_some e14
        replace e14 := some_eq e14
        subst e14
        exact AW.rA ⟨[(4, (vB (v9 == v11)))], []⟩ (Tt ∧ T2 ((Tt ∧ (a0.eq a1) = true) ∧ Tt ∧ ((convBits .f32 a0.bits .f64).isSome = true) ∧ (((Eqc (.flt .f64 (Fl.cv .f32 .f64 a0).bits)) ∧ Tt) ∧ CallOK Tryz.prog 41 [.one (.flt .f64 (Fl.cv .f32 .f64 a0).bits)] [.one (.bool v9)]) ∧ Tt ∧ ((convBits .f32 a1.bits .f64).isSome = true) ∧ (((Eqc (.flt .f64 (Fl.cv .f32 .f64 a1).bits)) ∧ Tt) ∧ CallOK Tryz.prog 41 [.one (.flt .f64 (Fl.cv .f32 .f64 a1).bits)] [.one (.bool v11)]) ∧ Tt ∧ T2 Tt)) [.no, .no, .no, .dec true, .no, .no, .call [.one (.flt .f64 (Fl.cv .f32 .f64 a0).bits)] [.one (.bool v9)] [[.view]], .no, .no, .call [.one (.flt .f64 (Fl.cv .f32 .f64 a1).bits)] [.one (.bool v11)] [[.view]]] [4] [] ⟨tr, tr, tr, ⟨tr, b8⟩, tr, cv_wide a0, ⟨⟨rfl, tr⟩, ok_math_Signbit K (Fl.cv .f32 .f64 a0) v9 e10⟩, tr, cv_wide a1, ⟨⟨rfl, tr⟩, ok_math_Signbit K (Fl.cv .f32 .f64 a1) v11 e12⟩, tr, tr, tr, tr⟩ ⟨rfl, rfl⟩
      · replace e14 := some_eq e14
        subst e14
        exact AW.rA ⟨[(4, (vB false))], []⟩ (Tt ∧ T2 ((Tt ∧ (a0.eq a1) = false) ∧ Tt ∧ T4 (T4 Tt))) [.no, .no, .no, .dec false] [4] [] ⟨tr, tr, tr, ⟨tr, b8⟩, tr, tr, tr, tr, tr, tr, tr, tr, tr, tr⟩ ⟨rfl, rfl⟩
    refine thenQ_normal ?_
    refine AW.ret ?_
    replace h := some_eq h
    subst h
    exact ⟨.inr rfl, retOK_of [(.one (.c (.bool j13)))] (by kernel_rfl) ⟨⟨rfl, tr⟩, tr⟩ (of_decide_eq_true (by kernel_rfl))⟩

/-! impl.SameVector -/
def impl_SameVector (K : Nat) (a0 : Vector) (a1 : Vector) : Option (Bool) :=
  (impl_SameNumber K a0.X a1.X).bind fun v1 => (ite2 (v1) ((impl_SameNumber K a0.Y a1.Y).bind fun v4 => ite2 (v4) ((impl_SameNumber K a0.Z a1.Z).bind fun v7 => some v7) (some false)) (some false)).bind fun j9 => some j9

theorem ok_impl_SameVector (K : Nat) (a0 : Vector) (a1 : Vector) (o : (Bool)) (h : impl_SameVector K a0 a1 = some o) : CallOK Tryz.prog 20 [.agg (cs_Vector a0), .agg (cs_Vector a1)] [.one (.bool o)] := by
  refine callOK_of_AW Tryz.func20 rfl (by kernel_rfl) (Nat.le_of_ble_eq_true (by kernel_rfl)) ?_
  intro w0
  unfold impl_SameVector at h
  refine AW.sA ⟨[(2, (vp 1 0)), (3, (vp 2 0))], [(1, (.box [(cF a0.X), (cF a0.Y), (cF a0.Z)])), (2, (.box [(cF a1.X), (cF a1.Y), (cF a1.Z)]))]⟩ (Tt ∧ T2 Tt) [.box 1, .box 2] [2, 3] [1, 2] ⟨tr, tr, tr, tr⟩ ?_
  refine AW.seq ?_
  obtain ⟨v1, e2, h⟩ := bind_some h
  obtain ⟨j9, e10, h⟩ := bind_some h
  refine AW.join1 (s2 := ⟨[(4, (vB j9))], []⟩) ?_ ?_
  · rcases ite2_cases e10 with ⟨b3, e10⟩ | ⟨b3, e10⟩
    · obtain ⟨v4, e5, e10⟩ := bind_some e10
      rcases ite2_cases e10 with ⟨b6, e10⟩ | ⟨b6, e10⟩
      · obtain ⟨v7, e8, e10⟩ := bind_some e10
        replace e10 := some_eq e10
        subst e10
        exact AW.rA ⟨[(4, (vB v7))], []⟩ (T4 ((((eF a0.X) ∧ (eF a1.X) ∧ Tt) ∧ CallOK Tryz.prog 29 [.one (.flt .f32 a0.X.bits), .one (.flt .f32 a1.X.bits)] [.one (.bool v1)]) ∧ (Tt ∧ v1 = true) ∧ T4 ((((eF a0.Y) ∧ (eF a1.Y) ∧ Tt) ∧ CallOK Tryz.prog 29 [.one (.flt .f32 a0.Y.bits), .one (.flt .f32 a1.Y.bits)] [.one (.bool v4)]) ∧ Tt ∧ (Tt ∧ v4 = true) ∧ T4 ((((eF a0.Z) ∧ (eF a1.Z) ∧ Tt) ∧ CallOK Tryz.prog 29 [.one (.flt .f32 a0.Z.bits), .one (.flt .f32 a1.Z.bits)] [.one (.bool v7)]) ∧ T2 Tt)))) [.no, .no, .no, .no, .call [.one (.flt .f32 a0.X.bits), .one (.flt .f32 a1.X.bits)] [.one (.bool v1)] [[.view]], .dec true, .no, .no, .no, .no, .call [.one (.flt .f32 a0.Y.bits), .one (.flt .f32 a1.Y.bits)] [.one (.bool v4)] [[.view]], .no, .dec true, .no, .no, .no, .no, .call [.one (.flt .f32 a0.Z.bits), .one (.flt .f32 a1.Z.bits)] [.one (.bool v7)] [[.view]]] [4] [] ⟨tr, tr, tr, tr, ⟨⟨rfl, rfl, tr⟩, ok_impl_SameNumber K a0.X a1.X v1 e2⟩, ⟨tr, b3⟩, tr, tr, tr, tr, ⟨⟨rfl, rfl, tr⟩, ok_impl_SameNumber K a0.Y a1.Y v4 e5⟩, tr, ⟨tr, b6⟩, tr, tr, tr, tr, ⟨⟨rfl, rfl, tr⟩, ok_impl_SameNumber K a0.Z a1.Z v7 e8⟩, tr, tr, tr⟩ ⟨rfl, rfl⟩
      · replace e10 := some_eq e10
        subst e10
        exact AW.rA ⟨[(4, (vB false))], []⟩ (T4 ((((eF a0.X) ∧ (eF a1.X) ∧ Tt) ∧ CallOK Tryz.prog 29 [.one (.flt .f32 a0.X.bits), .one (.flt .f32 a1.X.bits)] [.one (.bool v1)]) ∧ (Tt ∧ v1 = true) ∧ T4 ((((eF a0.Y) ∧ (eF a1.Y) ∧ Tt) ∧ CallOK Tryz.prog 29 [.one (.flt .f32 a0.Y.bits), .one (.flt .f32 a1.Y.bits)] [.one (.bool v4)]) ∧ Tt ∧ (Tt ∧ v4 = false) ∧ Tt ∧ T2 (T4 Tt)))) [.no, .no, .no, .no, .call [.one (.flt .f32 a0.X.bits), .one (.flt .f32 a1.X.bits)] [.one (.bool v1)] [[.view]], .dec true, .no, .no, .no, .no, .call [.one (.flt .f32 a0.Y.bits), .one (.flt .f32 a1.Y.bits)] [.one (.bool v4)] [[.view]], .no, .dec false] [4] [] ⟨tr, tr, tr, tr, ⟨⟨rfl, rfl, tr⟩, ok_impl_SameNumber K a0.X a1.X v1 e2⟩, ⟨tr, b3⟩, tr, tr, tr, tr, ⟨⟨rfl, rfl, tr⟩, ok_impl_SameNumber K a0.Y a1.Y v4 e5⟩, tr, ⟨tr, b6⟩, tr, tr, tr, tr, tr, tr, tr, tr⟩ ⟨rfl, rfl⟩
    · replace e10 := some_eq e10
      subst e10
      exact AW.rA ⟨[(4, (vB false))], []⟩ (T4 ((((eF a0.X) ∧ (eF a1.X) ∧ Tt) ∧ CallOK Tryz.prog 29 [.one (.flt .f32 a0.X.bits), .one (.flt .f32 a1.X.bits)] [.one (.bool v1)]) ∧ (Tt ∧ v1 = false) ∧ T2 (T4 (T4 (T4 Tt))))) [.no, .no, .no, .no, .call [.one (.flt .f32 a0.X.bits), .one (.flt .f32 a1.X.bits)] [.one (.bool v1)] [[.view]], .dec false] [4] [] ⟨tr, tr, tr, tr, ⟨⟨rfl, rfl, tr⟩, ok_impl_SameNumber K a0.X a1.X v1 e2⟩, ⟨tr, b3⟩, tr, tr, tr, tr, tr, tr, tr, tr, tr, tr, tr, tr, tr, tr, tr⟩ ⟨rfl, rfl⟩
  refine thenQ_normal ?_
  refine AW.ret ?_
  replace h := some_eq h
  subst h
  exact ⟨.inr rfl, retOK_of [(.one (.c (.bool j9)))] (by kernel_rfl) ⟨⟨rfl, tr⟩, tr⟩ (of_decide_eq_true (by kernel_rfl))⟩

/-! laws.FnVectors -/
def laws_FnVectors (K : Nat) (a0 : (List Int)) (a1 : (List Int)) : Option (Bool) :=
  (laws_b10Long K a0 a1).bind fun v1 => ite2 (v1) (some true) ((spec_B10Vector K a0 (50 : Int)).bind fun v4 => (spec_B10Vector K a1 (50 : Int)).bind fun v6 => (impl_CrossOf K v4 v6).bind fun v8 => (impl_CrossOf K v6 v4).bind fun v10 => (impl_LessVectors K v4 v6).bind fun v12 => (impl_AddVectors K v6 v12).bind fun v14 => (impl_ScaleVector K v4 (Fl.mk (k := .f32) 1073741824 (by decide))).bind fun v16 => (laws_b10VEqual K v14 v4).bind fun v18 => (ite2 ((!v18)) (some true) ((impl_InnerOf K v8 v4).bind fun v21 => ite2 ((v21.ne (Fl.mk (k := .f32) 0 (by decide)))) (some true) ((impl_InnerOf K v8 v6).bind fun v24 => ite2 ((v24.ne (Fl.mk (k := .f32) 0 (by decide)))) (some true) ((impl_ScaleVector K v10 (Fl.mk (k := .f32) 3212836864 (by decide))).bind fun v27 => (laws_b10VEqual K v8 v27).bind fun v29 => ite2 ((!v29)) (some true) ((impl_AddVectors K v4 v4).bind fun v32 => (laws_b10VEqual K v16 v32).bind fun v34 => ite2 ((!v34)) (some true) ((impl_InnerOf K v4 v4).bind fun v37 => (laws_b10Square K v4).bind fun v39 => ite2 ((v37.ne v39)) (some true) ((impl_LongOf K v4).bind fun v42 => (laws_b10Square K v4).bind fun v44 => (spec_RootNumber K v44).bind fun v46 => (spec_SameNumber K v42 v46).bind fun v48 => some (!v48)))))))).bind fun j50 => ite2 (j50) (some false) ((impl_BetweenVectors K v4 v6 (Fl.mk (k := .f32) 0 (by decide))).bind fun v53 => (laws_b10VEqual K v53 v4).bind fun v55 => (ite2 ((!v55)) (some true) ((impl_BetweenVectors K v4 v6 (Fl.mk (k := .f32) 1065353216 (by decide))).bind fun v58 => (laws_b10VEqual K v58 v6).bind fun v60 => some (!v60))).bind fun j62 => ite2 (j62) (some false) ((spec_B10Any K a0).bind fun v65 => (impl_VectorText K v65).bind fun v67 => (impl_ReadVector K v67).bind fun v69 => (ite2 (v69.2) ((impl_SameVector K v69.1 v65).bind fun v72 => ite2 (v72) (some ((v67.size : Int) == (26 : Int))) (some false)) (some false)).bind fun j75 => some j75)))

theorem ok_laws_FnVectors (K : Nat) (a0 : (List Int)) (a1 : (List Int)) (o : (Bool)) (h : laws_FnVectors K a0 a1 = some o) : CallOK Tryz.prog 3 [.one (sl 1 (csI .u8) a0), .one (sl 1 (csI .u8) a1)] [.one (.bool o)] := by
  refine callOK_of_AW Tryz.func3 rfl (by kernel_rfl) (Nat.le_of_ble_eq_true (by kernel_rfl)) ?_
  intro w0
  unfold laws_FnVectors at h
  refine AW.sC (Tt ∧ Tt) [] [0, 1] [] ⟨tr, tr⟩ ?_
  refine AW.seq ?_
  refine AW.seq ?_
  obtain ⟨v1, e2, h⟩ := bind_some h
  refine AW.tA ⟨[(0, (vc (sl 1 (csI .u8) a0))), (1, (vc (sl 1 (csI .u8) a1))), (17, (vB v1))], []⟩ (T2 ((((Eqc (sl 1 (csI .u8) a0)) ∧ (Eqc (sl 1 (csI .u8) a1)) ∧ Tt) ∧ CallOK Tryz.prog 4 [.one (sl 1 (csI .u8) a0), .one (sl 1 (csI .u8) a1)] [.one (.bool v1)]) ∧ Tt)) [.no, .no, .call [.one (sl 1 (csI .u8) a0), .one (sl 1 (csI .u8) a1)] [.one (.bool v1)] [[.view]]] [0, 1, 17] [] ⟨tr, tr, ⟨⟨rfl, rfl, tr⟩, ok_laws_b10Long K a0 a1 v1 e2⟩, tr⟩ ?_
  rcases ite2_cases h with ⟨b3, h⟩ | ⟨b3, h⟩
  · refine AW.cond_t rfl b3 ?_
    refine AW.sA ⟨[(4, (vB true))], []⟩ (Tt ∧ Tt) [] [4] [] ⟨tr, tr⟩ ?_
    refine AW.ret ?_
    refine thenQ_ret ?_
    replace h := some_eq h
    subst h
    exact ⟨.inr rfl, retOK_of [(.one (.c (.bool true)))] (by kernel_rfl) ⟨⟨rfl, tr⟩, tr⟩ (of_decide_eq_true (by kernel_rfl))⟩
  · refine AW.cond_f rfl b3 ?_
    refine AW.skip ?_
    refine thenQ_normal ?_
    refine AW.seq ?_
    obtain ⟨v4, e5, h⟩ := bind_some h
    refine AW.tC (Tt ∧ (((Eqc (sl 1 (csI .u8) a0)) ∧ (eI (50 : Int)) ∧ Tt) ∧ CallOK Tryz.prog 5 [.one (sl 1 (csI .u8) a0), .one (.int .i64 (50 : Int))] [.agg (cs_Vector v4)]) ∧ T2 Tt) [.no, .call [.one (sl 1 (csI .u8) a0), .one (.int .i64 (50 : Int))] [.agg (cs_Vector v4)] [[.view, .view, .view]], .box 1] [0, 1, 5] [1] ⟨tr, ⟨⟨rfl, rfl, tr⟩, ok_spec_B10Vector K a0 (50 : Int) v4 e5⟩, tr, tr, tr⟩ ?_
    refine AW.seq ?_
    obtain ⟨v6, e7, h⟩ := bind_some h
    refine AW.tC (Tt ∧ (((Eqc (sl 1 (csI .u8) a1)) ∧ (eI (50 : Int)) ∧ Tt) ∧ CallOK Tryz.prog 5 [.one (sl 1 (csI .u8) a1), .one (.int .i64 (50 : Int))] [.agg (cs_Vector v6)]) ∧ T2 Tt) [.no, .call [.one (sl 1 (csI .u8) a1), .one (.int .i64 (50 : Int))] [.agg (cs_Vector v6)] [[.view, .view, .view]], .box 2] [0, 5, 6] [1, 2] ⟨tr, ⟨⟨rfl, rfl, tr⟩, ok_spec_B10Vector K a1 (50 : Int) v6 e7⟩, tr, tr, tr⟩ ?_
    refine AW.seq ?_
    obtain ⟨v8, e9, h⟩ := bind_some h
    refine AW.tC (T2 (((((eF v4.X) ∧ (eF v4.Y) ∧ (eF v4.Z) ∧ Tt) ∧ ((eF v6.X) ∧ (eF v6.Y) ∧ (eF v6.Z) ∧ Tt) ∧ Tt) ∧ CallOK Tryz.prog 6 [.agg (cs_Vector v4), .agg (cs_Vector v6)] [.agg (cs_Vector v8)]) ∧ T2 Tt)) [.no, .no, .call [.agg (cs_Vector v4), .agg (cs_Vector v6)] [.agg (cs_Vector v8)] [[.view, .view, .view]], .box 3] [0, 5, 6, 7] [1, 2, 3] ⟨tr, tr, ⟨⟨⟨rfl, rfl, rfl, tr⟩, ⟨rfl, rfl, rfl, tr⟩, tr⟩, ok_impl_CrossOf K v4 v6 v8 e9⟩, tr, tr, tr⟩ ?_
    refine AW.seq ?_
    obtain ⟨v10, e11, h⟩ := bind_some h
    refine AW.tA ⟨[(0, (vc (sl 1 (csI .u8) a0))), (5, (vp 1 0)), (6, (vp 2 0)), (7, (vp 3 0)), (8, (vp 4 0))], [(1, (.box [(cF v4.X), (cF v4.Y), (cF v4.Z)])), (2, (.box [(cF v6.X), (cF v6.Y), (cF v6.Z)])), (3, (.box [(cF v8.X), (cF v8.Y), (cF v8.Z)])), (4, (.box [(cF v10.X), (cF v10.Y), (cF v10.Z)]))]⟩ (T2 (((((eF v6.X) ∧ (eF v6.Y) ∧ (eF v6.Z) ∧ Tt) ∧ ((eF v4.X) ∧ (eF v4.Y) ∧ (eF v4.Z) ∧ Tt) ∧ Tt) ∧ CallOK Tryz.prog 6 [.agg (cs_Vector v6), .agg (cs_Vector v4)] [.agg (cs_Vector v10)]) ∧ T2 Tt)) [.no, .no, .call [.agg (cs_Vector v6), .agg (cs_Vector v4)] [.agg (cs_Vector v10)] [[.view, .view, .view]], .box 4] [0, 5, 6, 7, 8] [1, 2, 3, 4] ⟨tr, tr, ⟨⟨⟨rfl, rfl, rfl, tr⟩, ⟨rfl, rfl, rfl, tr⟩, tr⟩, ok_impl_CrossOf K v6 v4 v10 e11⟩, tr, tr, tr⟩ ?_
    refine AW.seq ?_
    obtain ⟨v12, e13, h⟩ := bind_some h
    obtain ⟨v14, e15, h⟩ := bind_some h
    refine AW.dA ⟨[(0, (vc (sl 1 (csI .u8) a0))), (5, (vp 1 0)), (6, (vp 2 0)), (7, (vp 3 0)), (8, (vp 4 0)), (9, (vp 5 0))], [(1, (.box [(cF v4.X), (cF v4.Y), (cF v4.Z)])), (2, (.box [(cF v6.X), (cF v6.Y), (cF v6.Z)])), (3, (.box [(cF v8.X), (cF v8.Y), (cF v8.Z)])), (4, (.box [(cF v10.X), (cF v10.Y), (cF v10.Z)])), (5, (.box [(cF v14.X), (cF v14.Y), (cF v14.Z)]))]⟩ ((Tt ∧ T2 (((((eF v4.X) ∧ (eF v4.Y) ∧ (eF v4.Z) ∧ Tt) ∧ ((eF v6.X) ∧ (eF v6.Y) ∧ (eF v6.Z) ∧ Tt) ∧ Tt) ∧ CallOK Tryz.prog 8 [.agg (cs_Vector v4), .agg (cs_Vector v6)] [.agg (cs_Vector v12)]) ∧ ((((eF v6.X) ∧ (eF v6.Y) ∧ (eF v6.Z) ∧ Tt) ∧ ((eF v12.X) ∧ (eF v12.Y) ∧ (eF v12.Z) ∧ Tt) ∧ Tt) ∧ CallOK Tryz.prog 7 [.agg (cs_Vector v6), .agg (cs_Vector v12)] [.agg (cs_Vector v14)]) ∧ Tt ∧ Tt)) ∧ (Tt ∧ Tt)) 6 [.no, .no, .no, .call [.agg (cs_Vector v4), .agg (cs_Vector v6)] [.agg (cs_Vector v12)] [[.view, .view, .view]], .call [.agg (cs_Vector v6), .agg (cs_Vector v12)] [.agg (cs_Vector v14)] [[.view, .view, .view]], .box 5] [0, 5, 6, 7, 8, 9] [1, 2, 3, 4, 5] ⟨⟨tr, tr, tr, ⟨⟨⟨rfl, rfl, rfl, tr⟩, ⟨rfl, rfl, rfl, tr⟩, tr⟩, ok_impl_LessVectors K v4 v6 v12 e13⟩, ⟨⟨⟨rfl, rfl, rfl, tr⟩, ⟨rfl, rfl, rfl, tr⟩, tr⟩, ok_impl_AddVectors K v6 v12 v14 e15⟩, tr, tr⟩, ⟨tr, tr⟩⟩ ?_
    refine thenQ_normal ?_
    refine AW.seq ?_
    obtain ⟨v16, e17, h⟩ := bind_some h
    refine AW.tA ⟨[(0, (vc (sl 1 (csI .u8) a0))), (5, (vp 1 0)), (6, (vp 2 0)), (7, (vp 3 0)), (8, (vp 4 0)), (9, (vp 5 0)), (10, (vp 6 0))], [(1, (.box [(cF v4.X), (cF v4.Y), (cF v4.Z)])), (2, (.box [(cF v6.X), (cF v6.Y), (cF v6.Z)])), (3, (.box [(cF v8.X), (cF v8.Y), (cF v8.Z)])), (4, (.box [(cF v10.X), (cF v10.Y), (cF v10.Z)])), (5, (.box [(cF v14.X), (cF v14.Y), (cF v14.Z)])), (6, (.box [(cF v16.X), (cF v16.Y), (cF v16.Z)]))]⟩ (Tt ∧ ((((eF v4.X) ∧ (eF v4.Y) ∧ (eF v4.Z) ∧ Tt) ∧ (eF (Fl.mk (k := .f32) 1073741824 (by decide))) ∧ Tt) ∧ CallOK Tryz.prog 9 [.agg (cs_Vector v4), .one (.flt .f32 (Fl.mk (k := .f32) 1073741824 (by decide)).bits)] [.agg (cs_Vector v16)]) ∧ T2 Tt) [.no, .call [.agg (cs_Vector v4), .one (.flt .f32 (Fl.mk (k := .f32) 1073741824 (by decide)).bits)] [.agg (cs_Vector v16)] [[.view, .view, .view]], .box 6] [0, 5, 6, 7, 8, 9, 10] [1, 2, 3, 4, 5, 6] ⟨tr, ⟨⟨⟨rfl, rfl, rfl, tr⟩, rfl, tr⟩, ok_impl_ScaleVector K v4 (Fl.mk (k := .f32) 1073741824 (by decide)) v16 e17⟩, tr, tr, tr⟩ ?_
    refine AW.seq ?_
    refine AW.seq ?_
    obtain ⟨v18, e19, h⟩ := bind_some h
    obtain ⟨j50, e51, h⟩ := bind_some h
    refine AW.join1 (s2 := ⟨[(0, (vc (sl 1 (csI .u8) a0))), (5, (vp 1 0)), (6, (vp 2 0)), (82, (vB j50))], [(1, (.box [(cF v4.X), (cF v4.Y), (cF v4.Z)])), (2, (.box [(cF v6.X), (cF v6.Y), (cF v6.Z)]))]⟩) ?_ ?_
    · rcases ite2_cases e51 with ⟨b20, e51⟩ | ⟨b20, e51⟩
      · replace e51 := some_eq e51
        subst e51
        exact AW.dA ⟨[(0, (vc (sl 1 (csI .u8) a0))), (5, (vp 1 0)), (6, (vp 2 0)), (82, (vB true))], [(1, (.box [(cF v4.X), (cF v4.Y), (cF v4.Z)])), (2, (.box [(cF v6.X), (cF v6.Y), (cF v6.Z)]))]⟩ ((T2 (((((eF v14.X) ∧ (eF v14.Y) ∧ (eF v14.Z) ∧ Tt) ∧ ((eF v4.X) ∧ (eF v4.Y) ∧ (eF v4.Z) ∧ Tt) ∧ Tt) ∧ CallOK Tryz.prog 10 [.agg (cs_Vector v14), .agg (cs_Vector v4)] [.one (.bool v18)]) ∧ Tt ∧ (Tt ∧ (!v18) = true) ∧ Tt ∧ T2 (T4 (T4 (T4 (T4 (T4 (T4 (T4 (T4 (T4 (T4 Tt)))))))))))) ∧ (Tt)) 48 [.no, .no, .call [.agg (cs_Vector v14), .agg (cs_Vector v4)] [.one (.bool v18)] [[.view]], .no, .dec true] [0, 5, 6, 82] [1, 2] ⟨⟨tr, tr, ⟨⟨⟨rfl, rfl, rfl, tr⟩, ⟨rfl, rfl, rfl, tr⟩, tr⟩, ok_laws_b10VEqual K v14 v4 v18 e19⟩, tr, ⟨tr, b20⟩, tr, tr, tr, tr, tr, tr, tr, tr, tr, tr, tr, tr, tr, tr, tr, tr, tr, tr, tr, tr, tr, tr, tr, tr, tr, tr, tr, tr, tr, tr, tr, tr, tr, tr, tr, tr, tr, tr, tr, tr, tr, tr, tr, tr⟩, tr⟩ ⟨rfl, rfl⟩
      · obtain ⟨v21, e22, e51⟩ := bind_some e51
        rcases ite2_cases e51 with ⟨b23, e51⟩ | ⟨b23, e51⟩
        · replace e51 := some_eq e51
          subst e51
          exact AW.dA ⟨[(0, (vc (sl 1 (csI .u8) a0))), (5, (vp 1 0)), (6, (vp 2 0)), (82, (vB true))], [(1, (.box [(cF v4.X), (cF v4.Y), (cF v4.Z)])), (2, (.box [(cF v6.X), (cF v6.Y), (cF v6.Z)]))]⟩ ((T2 (((((eF v14.X) ∧ (eF v14.Y) ∧ (eF v14.Z) ∧ Tt) ∧ ((eF v4.X) ∧ (eF v4.Y) ∧ (eF v4.Z) ∧ Tt) ∧ Tt) ∧ CallOK Tryz.prog 10 [.agg (cs_Vector v14), .agg (cs_Vector v4)] [.one (.bool v18)]) ∧ Tt ∧ (Tt ∧ (!v18) = false) ∧ T2 (((((eF v8.X) ∧ (eF v8.Y) ∧ (eF v8.Z) ∧ Tt) ∧ ((eF v4.X) ∧ (eF v4.Y) ∧ (eF v4.Z) ∧ Tt) ∧ Tt) ∧ CallOK Tryz.prog 11 [.agg (cs_Vector v8), .agg (cs_Vector v4)] [.one (.flt .f32 v21.bits)]) ∧ T2 ((Tt ∧ (v21.ne (Fl.mk (k := .f32) 0 (by decide))) = true) ∧ Tt ∧ T4 (T4 (T4 (T4 (T4 (T4 (T4 (T4 (T4 Tt)))))))))))) ∧ (Tt)) 48 [.no, .no, .call [.agg (cs_Vector v14), .agg (cs_Vector v4)] [.one (.bool v18)] [[.view]], .no, .dec false, .no, .no, .call [.agg (cs_Vector v8), .agg (cs_Vector v4)] [.one (.flt .f32 v21.bits)] [[.view]], .no, .no, .dec true] [0, 5, 6, 82] [1, 2] ⟨⟨tr, tr, ⟨⟨⟨rfl, rfl, rfl, tr⟩, ⟨rfl, rfl, rfl, tr⟩, tr⟩, ok_laws_b10VEqual K v14 v4 v18 e19⟩, tr, ⟨tr, b20⟩, tr, tr, ⟨⟨⟨rfl, rfl, rfl, tr⟩, ⟨rfl, rfl, rfl, tr⟩, tr⟩, ok_impl_InnerOf K v8 v4 v21 e22⟩, tr, tr, ⟨tr, b23⟩, tr, tr, tr, tr, tr, tr, tr, tr, tr, tr, tr, tr, tr, tr, tr, tr, tr, tr, tr, tr, tr, tr, tr, tr, tr, tr, tr, tr, tr, tr, tr, tr, tr, tr, tr, tr, tr, tr⟩, tr⟩ ⟨rfl, rfl⟩
        · obtain ⟨v24, e25, e51⟩ := bind_some e51
          rcases ite2_cases e51 with ⟨b26, e51⟩ | ⟨b26, e51⟩
          · replace e51 := some_eq e51
            subst e51
            exact AW.dA ⟨[(0, (vc (sl 1 (csI .u8) a0))), (5, (vp 1 0)), (6, (vp 2 0)), (82, (vB true))], [(1, (.box [(cF v4.X), (cF v4.Y), (cF v4.Z)])), (2, (.box [(cF v6.X), (cF v6.Y), (cF v6.Z)]))]⟩ ((T2 (((((eF v14.X) ∧ (eF v14.Y) ∧ (eF v14.Z) ∧ Tt) ∧ ((eF v4.X) ∧ (eF v4.Y) ∧ (eF v4.Z) ∧ Tt) ∧ Tt) ∧ CallOK Tryz.prog 10 [.agg (cs_Vector v14), .agg (cs_Vector v4)] [.one (.bool v18)]) ∧ Tt ∧ (Tt ∧ (!v18) = false) ∧ T2 (((((eF v8.X) ∧ (eF v8.Y) ∧ (eF v8.Z) ∧ Tt) ∧ ((eF v4.X) ∧ (eF v4.Y) ∧ (eF v4.Z) ∧ Tt) ∧ Tt) ∧ CallOK Tryz.prog 11 [.agg (cs_Vector v8), .agg (cs_Vector v4)] [.one (.flt .f32 v21.bits)]) ∧ T2 ((Tt ∧ (v21.ne (Fl.mk (k := .f32) 0 (by decide))) = false) ∧ T2 (((((eF v8.X) ∧ (eF v8.Y) ∧ (eF v8.Z) ∧ Tt) ∧ ((eF v6.X) ∧ (eF v6.Y) ∧ (eF v6.Z) ∧ Tt) ∧ Tt) ∧ CallOK Tryz.prog 11 [.agg (cs_Vector v8), .agg (cs_Vector v6)] [.one (.flt .f32 v24.bits)]) ∧ T2 ((Tt ∧ (v24.ne (Fl.mk (k := .f32) 0 (by decide))) = true) ∧ Tt ∧ T2 (T4 (T4 (T4 (T4 (T4 (T4 (T4 Tt))))))))))))) ∧ (Tt)) 48 [.no, .no, .call [.agg (cs_Vector v14), .agg (cs_Vector v4)] [.one (.bool v18)] [[.view]], .no, .dec false, .no, .no, .call [.agg (cs_Vector v8), .agg (cs_Vector v4)] [.one (.flt .f32 v21.bits)] [[.view]], .no, .no, .dec false, .no, .no, .call [.agg (cs_Vector v8), .agg (cs_Vector v6)] [.one (.flt .f32 v24.bits)] [[.view]], .no, .no, .dec true] [0, 5, 6, 82] [1, 2] ⟨⟨tr, tr, ⟨⟨⟨rfl, rfl, rfl, tr⟩, ⟨rfl, rfl, rfl, tr⟩, tr⟩, ok_laws_b10VEqual K v14 v4 v18 e19⟩, tr, ⟨tr, b20⟩, tr, tr, ⟨⟨⟨rfl, rfl, rfl, tr⟩, ⟨rfl, rfl, rfl, tr⟩, tr⟩, ok_impl_InnerOf K v8 v4 v21 e22⟩, tr, tr, ⟨tr, b23⟩, tr, tr, ⟨⟨⟨rfl, rfl, rfl, tr⟩, ⟨rfl, rfl, rfl, tr⟩, tr⟩, ok_impl_InnerOf K v8 v6 v24 e25⟩, tr, tr, ⟨tr, b26⟩, tr, tr, tr, tr, tr, tr, tr, tr, tr, tr, tr, tr, tr, tr, tr, tr, tr, tr, tr, tr, tr, tr, tr, tr, tr, tr, tr, tr, tr, tr, tr, tr⟩, tr⟩ ⟨rfl, rfl⟩
          · obtain ⟨v27, e28, e51⟩ := bind_some e51
            obtain ⟨v29, e30, e51⟩ := bind_some e51
            rcases ite2_cases e51 with ⟨b31, e51⟩ | ⟨b31, e51⟩
            · replace e51 := some_eq e51
              subst e51
              exact AW.dA ⟨[(0, (vc (sl 1 (csI .u8) a0))), (5, (vp 1 0)), (6, (vp 2 0)), (82, (vB true))], [(1, (.box [(cF v4.X), (cF v4.Y), (cF v4.Z)])), (2, (.box [(cF v6.X), (cF v6.Y), (cF v6.Z)]))]⟩ ((T2 (((((eF v14.X) ∧ (eF v14.Y) ∧ (eF v14.Z) ∧ Tt) ∧ ((eF v4.X) ∧ (eF v4.Y) ∧ (eF v4.Z) ∧ Tt) ∧ Tt) ∧ CallOK Tryz.prog 10 [.agg (cs_Vector v14), .agg (cs_Vector v4)] [.one (.bool v18)]) ∧ Tt ∧ (Tt ∧ (!v18) = false) ∧ T2 (((((eF v8.X) ∧ (eF v8.Y) ∧ (eF v8.Z) ∧ Tt) ∧ ((eF v4.X) ∧ (eF v4.Y) ∧ (eF v4.Z) ∧ Tt) ∧ Tt) ∧ CallOK Tryz.prog 11 [.agg (cs_Vector v8), .agg (cs_Vector v4)] [.one (.flt .f32 v21.bits)]) ∧ T2 ((Tt ∧ (v21.ne (Fl.mk (k := .f32) 0 (by decide))) = false) ∧ T2 (((((eF v8.X) ∧ (eF v8.Y) ∧ (eF v8.Z) ∧ Tt) ∧ ((eF v6.X) ∧ (eF v6.Y) ∧ (eF v6.Z) ∧ Tt) ∧ Tt) ∧ CallOK Tryz.prog 11 [.agg (cs_Vector v8), .agg (cs_Vector v6)] [.one (.flt .f32 v24.bits)]) ∧ T2 ((Tt ∧ (v24.ne (Fl.mk (k := .f32) 0 (by decide))) = false) ∧ T2 (((((eF v10.X) ∧ (eF v10.Y) ∧ (eF v10.Z) ∧ Tt) ∧ (eF (Fl.mk (k := .f32) 3212836864 (by decide))) ∧ Tt) ∧ CallOK Tryz.prog 9 [.agg (cs_Vector v10), .one (.flt .f32 (Fl.mk (k := .f32) 3212836864 (by decide)).bits)] [.agg (cs_Vector v27)]) ∧ ((((eF v8.X) ∧ (eF v8.Y) ∧ (eF v8.Z) ∧ Tt) ∧ ((eF v27.X) ∧ (eF v27.Y) ∧ (eF v27.Z) ∧ Tt) ∧ Tt) ∧ CallOK Tryz.prog 10 [.agg (cs_Vector v8), .agg (cs_Vector v27)] [.one (.bool v29)]) ∧ T2 ((Tt ∧ (!v29) = true) ∧ T4 (T4 (T4 (T4 (T4 (T4 Tt))))))))))))) ∧ (Tt)) 48 [.no, .no, .call [.agg (cs_Vector v14), .agg (cs_Vector v4)] [.one (.bool v18)] [[.view]], .no, .dec false, .no, .no, .call [.agg (cs_Vector v8), .agg (cs_Vector v4)] [.one (.flt .f32 v21.bits)] [[.view]], .no, .no, .dec false, .no, .no, .call [.agg (cs_Vector v8), .agg (cs_Vector v6)] [.one (.flt .f32 v24.bits)] [[.view]], .no, .no, .dec false, .no, .no, .call [.agg (cs_Vector v10), .one (.flt .f32 (Fl.mk (k := .f32) 3212836864 (by decide)).bits)] [.agg (cs_Vector v27)] [[.view, .view, .view]], .call [.agg (cs_Vector v8), .agg (cs_Vector v27)] [.one (.bool v29)] [[.view]], .no, .no, .dec true] [0, 5, 6, 82] [1, 2] ⟨⟨tr, tr, ⟨⟨⟨rfl, rfl, rfl, tr⟩, ⟨rfl, rfl, rfl, tr⟩, tr⟩, ok_laws_b10VEqual K v14 v4 v18 e19⟩, tr, ⟨tr, b20⟩, tr, tr, ⟨⟨⟨rfl, rfl, rfl, tr⟩, ⟨rfl, rfl, rfl, tr⟩, tr⟩, ok_impl_InnerOf K v8 v4 v21 e22⟩, tr, tr, ⟨tr, b23⟩, tr, tr, ⟨⟨⟨rfl, rfl, rfl, tr⟩, ⟨rfl, rfl, rfl, tr⟩, tr⟩, ok_impl_InnerOf K v8 v6 v24 e25⟩, tr, tr, ⟨tr, b26⟩, tr, tr, ⟨⟨⟨rfl, rfl, rfl, tr⟩, rfl, tr⟩, ok_impl_ScaleVector K v10 (Fl.mk (k := .f32) 3212836864 (by decide)) v27 e28⟩, ⟨⟨⟨rfl, rfl, rfl, tr⟩, ⟨rfl, rfl, rfl, tr⟩, tr⟩, ok_laws_b10VEqual K v8 v27 v29 e30⟩, tr, tr, ⟨tr, b31⟩, tr, tr, tr, tr, tr, tr, tr, tr, tr, tr, tr, tr, tr, tr, tr, tr, tr, tr, tr, tr, tr, tr, tr, tr, tr⟩, tr⟩ ⟨rfl, rfl⟩
            · obtain ⟨v32, e33, e51⟩ := bind_some e51
              obtain ⟨v34, e35, e51⟩ := bind_some e51
              rcases ite2_cases e51 with ⟨b36, e51⟩ | ⟨b36, e51⟩
              · replace e51 := some_eq e51
                subst e51
                exact AW.dA ⟨[(0, (vc (sl 1 (csI .u8) a0))), (5, (vp 1 0)), (6, (vp 2 0)), (82, (vB true))], [(1, (.box [(cF v4.X), (cF v4.Y), (cF v4.Z)])), (2, (.box [(cF v6.X), (cF v6.Y), (cF v6.Z)]))]⟩ ((T2 (((((eF v14.X) ∧ (eF v14.Y) ∧ (eF v14.Z) ∧ Tt) ∧ ((eF v4.X) ∧ (eF v4.Y) ∧ (eF v4.Z) ∧ Tt) ∧ Tt) ∧ CallOK Tryz.prog 10 [.agg (cs_Vector v14), .agg (cs_Vector v4)] [.one (.bool v18)]) ∧ Tt ∧ (Tt ∧ (!v18) = false) ∧ T2 (((((eF v8.X) ∧ (eF v8.Y) ∧ (eF v8.Z) ∧ Tt) ∧ ((eF v4.X) ∧ (eF v4.Y) ∧ (eF v4.Z) ∧ Tt) ∧ Tt) ∧ CallOK Tryz.prog 11 [.agg (cs_Vector v8), .agg (cs_Vector v4)] [.one (.flt .f32 v21.bits)]) ∧ T2 ((Tt ∧ (v21.ne (Fl.mk (k := .f32) 0 (by decide))) = false) ∧ T2 (((((eF v8.X) ∧ (eF v8.Y) ∧ (eF v8.Z) ∧ Tt) ∧ ((eF v6.X) ∧ (eF v6.Y) ∧ (eF v6.Z) ∧ Tt) ∧ Tt) ∧ CallOK Tryz.prog 11 [.agg (cs_Vector v8), .agg (cs_Vector v6)] [.one (.flt .f32 v24.bits)]) ∧ T2 ((Tt ∧ (v24.ne (Fl.mk (k := .f32) 0 (by decide))) = false) ∧ T2 (((((eF v10.X) ∧ (eF v10.Y) ∧ (eF v10.Z) ∧ Tt) ∧ (eF (Fl.mk (k := .f32) 3212836864 (by decide))) ∧ Tt) ∧ CallOK Tryz.prog 9 [.agg (cs_Vector v10), .one (.flt .f32 (Fl.mk (k := .f32) 3212836864 (by decide)).bits)] [.agg (cs_Vector v27)]) ∧ ((((eF v8.X) ∧ (eF v8.Y) ∧ (eF v8.Z) ∧ Tt) ∧ ((eF v27.X) ∧ (eF v27.Y) ∧ (eF v27.Z) ∧ Tt) ∧ Tt) ∧ CallOK Tryz.prog 10 [.agg (cs_Vector v8), .agg (cs_Vector v27)] [.one (.bool v29)]) ∧ T2 ((Tt ∧ (!v29) = false) ∧ Tt ∧ T2 (((((eF v4.X) ∧ (eF v4.Y) ∧ (eF v4.Z) ∧ Tt) ∧ ((eF v4.X) ∧ (eF v4.Y) ∧ (eF v4.Z) ∧ Tt) ∧ Tt) ∧ CallOK Tryz.prog 7 [.agg (cs_Vector v4), .agg (cs_Vector v4)] [.agg (cs_Vector v32)]) ∧ ((((eF v16.X) ∧ (eF v16.Y) ∧ (eF v16.Z) ∧ Tt) ∧ ((eF v32.X) ∧ (eF v32.Y) ∧ (eF v32.Z) ∧ Tt) ∧ Tt) ∧ CallOK Tryz.prog 10 [.agg (cs_Vector v16), .agg (cs_Vector v32)] [.one (.bool v34)]) ∧ T2 ((Tt ∧ (!v34) = true) ∧ T4 (T4 (T4 (T4 Tt))))))))))))) ∧ (Tt)) 48 [.no, .no, .call [.agg (cs_Vector v14), .agg (cs_Vector v4)] [.one (.bool v18)] [[.view]], .no, .dec false, .no, .no, .call [.agg (cs_Vector v8), .agg (cs_Vector v4)] [.one (.flt .f32 v21.bits)] [[.view]], .no, .no, .dec false, .no, .no, .call [.agg (cs_Vector v8), .agg (cs_Vector v6)] [.one (.flt .f32 v24.bits)] [[.view]], .no, .no, .dec false, .no, .no, .call [.agg (cs_Vector v10), .one (.flt .f32 (Fl.mk (k := .f32) 3212836864 (by decide)).bits)] [.agg (cs_Vector v27)] [[.view, .view, .view]], .call [.agg (cs_Vector v8), .agg (cs_Vector v27)] [.one (.bool v29)] [[.view]], .no, .no, .dec false, .no, .no, .no, .call [.agg (cs_Vector v4), .agg (cs_Vector v4)] [.agg (cs_Vector v32)] [[.view, .view, .view]], .call [.agg (cs_Vector v16), .agg (cs_Vector v32)] [.one (.bool v34)] [[.view]], .no, .no, .dec true] [0, 5, 6, 82] [1, 2] ⟨⟨tr, tr, ⟨⟨⟨rfl, rfl, rfl, tr⟩, ⟨rfl, rfl, rfl, tr⟩, tr⟩, ok_laws_b10VEqual K v14 v4 v18 e19⟩, tr, ⟨tr, b20⟩, tr, tr, ⟨⟨⟨rfl, rfl, rfl, tr⟩, ⟨rfl, rfl, rfl, tr⟩, tr⟩, ok_impl_InnerOf K v8 v4 v21 e22⟩, tr, tr, ⟨tr, b23⟩, tr, tr, ⟨⟨⟨rfl, rfl, rfl, tr⟩, ⟨rfl, rfl, rfl, tr⟩, tr⟩, ok_impl_InnerOf K v8 v6 v24 e25⟩, tr, tr, ⟨tr, b26⟩, tr, tr, ⟨⟨⟨rfl, rfl, rfl, tr⟩, rfl, tr⟩, ok_impl_ScaleVector K v10 (Fl.mk (k := .f32) 3212836864 (by decide)) v27 e28⟩, ⟨⟨⟨rfl, rfl, rfl, tr⟩, ⟨rfl, rfl, rfl, tr⟩, tr⟩, ok_laws_b10VEqual K v8 v27 v29 e30⟩, tr, tr, ⟨tr, b31⟩, tr, tr, tr, ⟨⟨⟨rfl, rfl, rfl, tr⟩, ⟨rfl, rfl, rfl, tr⟩, tr⟩, ok_impl_AddVectors K v4 v4 v32 e33⟩, ⟨⟨⟨rfl, rfl, rfl, tr⟩, ⟨rfl, rfl, rfl, tr⟩, tr⟩, ok_laws_b10VEqual K v16 v32 v34 e35⟩, tr, tr, ⟨tr, b36⟩, tr, tr, tr, tr, tr, tr, tr, tr, tr, tr, tr, tr, tr, tr, tr, tr, tr⟩, tr⟩ ⟨rfl, rfl⟩
              · obtain ⟨v37, e38, e51⟩ := bind_some e51
                obtain ⟨v39, e40, e51⟩ := bind_some e51
                rcases ite2_cases e51 with ⟨b41, e51⟩ | ⟨b41, e51⟩
                · replace e51 := some_eq e51
                  subst e51
                  exact AW.dA ⟨[(0, (vc (sl 1 (csI .u8) a0))), (5, (vp 1 0)), (6, (vp 2 0)), (82, (vB true))], [(1, (.box [(cF v4.X), (cF v4.Y), (cF v4.Z)])), (2, (.box [(cF v6.X), (cF v6.Y), (cF v6.Z)]))]⟩ ((T2 (((((eF v14.X) ∧ (eF v14.Y) ∧ (eF v14.Z) ∧ Tt) ∧ ((eF v4.X) ∧ (eF v4.Y) ∧ (eF v4.Z) ∧ Tt) ∧ Tt) ∧ CallOK Tryz.prog 10 [.agg (cs_Vector v14), .agg (cs_Vector v4)] [.one (.bool v18)]) ∧ Tt ∧ (Tt ∧ (!v18) = false) ∧ T2 (((((eF v8.X) ∧ (eF v8.Y) ∧ (eF v8.Z) ∧ Tt) ∧ ((eF v4.X) ∧ (eF v4.Y) ∧ (eF v4.Z) ∧ Tt) ∧ Tt) ∧ CallOK Tryz.prog 11 [.agg (cs_Vector v8), .agg (cs_Vector v4)] [.one (.flt .f32 v21.bits)]) ∧ T2 ((Tt ∧ (v21.ne (Fl.mk (k := .f32) 0 (by decide))) = false) ∧ T2 (((((eF v8.X) ∧ (eF v8.Y) ∧ (eF v8.Z) ∧ Tt) ∧ ((eF v6.X) ∧ (eF v6.Y) ∧ (eF v6.Z) ∧ Tt) ∧ Tt) ∧ CallOK Tryz.prog 11 [.agg (cs_Vector v8), .agg (cs_Vector v6)] [.one (.flt .f32 v24.bits)]) ∧ T2 ((Tt ∧ (v24.ne (Fl.mk (k := .f32) 0 (by decide))) = false) ∧ T2 (((((eF v10.X) ∧ (eF v10.Y) ∧ (eF v10.Z) ∧ Tt) ∧ (eF (Fl.mk (k := .f32) 3212836864 (by decide))) ∧ Tt) ∧ CallOK Tryz.prog 9 [.agg (cs_Vector v10), .one (.flt .f32 (Fl.mk (k := .f32) 3212836864 (by decide)).bits)] [.agg (cs_Vector v27)]) ∧ ((((eF v8.X) ∧ (eF v8.Y) ∧ (eF v8.Z) ∧ Tt) ∧ ((eF v27.X) ∧ (eF v27.Y) ∧ (eF v27.Z) ∧ Tt) ∧ Tt) ∧ CallOK Tryz.prog 10 [.agg (cs_Vector v8), .agg (cs_Vector v27)] [.one (.bool v29)]) ∧ T2 ((Tt ∧ (!v29) = false) ∧ Tt ∧ T2 (((((eF v4.X) ∧ (eF v4.Y) ∧ (eF v4.Z) ∧ Tt) ∧ ((eF v4.X) ∧ (eF v4.Y) ∧ (eF v4.Z) ∧ Tt) ∧ Tt) ∧ CallOK Tryz.prog 7 [.agg (cs_Vector v4), .agg (cs_Vector v4)] [.agg (cs_Vector v32)]) ∧ ((((eF v16.X) ∧ (eF v16.Y) ∧ (eF v16.Z) ∧ Tt) ∧ ((eF v32.X) ∧ (eF v32.Y) ∧ (eF v32.Z) ∧ Tt) ∧ Tt) ∧ CallOK Tryz.prog 10 [.agg (cs_Vector v16), .agg (cs_Vector v32)] [.one (.bool v34)]) ∧ T2 ((Tt ∧ (!v34) = false) ∧ T2 (((((eF v4.X) ∧ (eF v4.Y) ∧ (eF v4.Z) ∧ Tt) ∧ ((eF v4.X) ∧ (eF v4.Y) ∧ (eF v4.Z) ∧ Tt) ∧ Tt) ∧ CallOK Tryz.prog 11 [.agg (cs_Vector v4), .agg (cs_Vector v4)] [.one (.flt .f32 v37.bits)]) ∧ Tt ∧ ((((eF v4.X) ∧ (eF v4.Y) ∧ (eF v4.Z) ∧ Tt) ∧ Tt) ∧ CallOK Tryz.prog 12 [.agg (cs_Vector v4)] [.one (.flt .f32 v39.bits)]) ∧ T2 ((Tt ∧ (v37.ne v39) = true) ∧ T4 (T4 Tt))))))))))))) ∧ (Tt)) 48 [.no, .no, .call [.agg (cs_Vector v14), .agg (cs_Vector v4)] [.one (.bool v18)] [[.view]], .no, .dec false, .no, .no, .call [.agg (cs_Vector v8), .agg (cs_Vector v4)] [.one (.flt .f32 v21.bits)] [[.view]], .no, .no, .dec false, .no, .no, .call [.agg (cs_Vector v8), .agg (cs_Vector v6)] [.one (.flt .f32 v24.bits)] [[.view]], .no, .no, .dec false, .no, .no, .call [.agg (cs_Vector v10), .one (.flt .f32 (Fl.mk (k := .f32) 3212836864 (by decide)).bits)] [.agg (cs_Vector v27)] [[.view, .view, .view]], .call [.agg (cs_Vector v8), .agg (cs_Vector v27)] [.one (.bool v29)] [[.view]], .no, .no, .dec false, .no, .no, .no, .call [.agg (cs_Vector v4), .agg (cs_Vector v4)] [.agg (cs_Vector v32)] [[.view, .view, .view]], .call [.agg (cs_Vector v16), .agg (cs_Vector v32)] [.one (.bool v34)] [[.view]], .no, .no, .dec false, .no, .no, .call [.agg (cs_Vector v4), .agg (cs_Vector v4)] [.one (.flt .f32 v37.bits)] [[.view]], .no, .call [.agg (cs_Vector v4)] [.one (.flt .f32 v39.bits)] [[.view]], .no, .no, .dec true] [0, 5, 6, 82] [1, 2] ⟨⟨tr, tr, ⟨⟨⟨rfl, rfl, rfl, tr⟩, ⟨rfl, rfl, rfl, tr⟩, tr⟩, ok_laws_b10VEqual K v14 v4 v18 e19⟩, tr, ⟨tr, b20⟩, tr, tr, ⟨⟨⟨rfl, rfl, rfl, tr⟩, ⟨rfl, rfl, rfl, tr⟩, tr⟩, ok_impl_InnerOf K v8 v4 v21 e22⟩, tr, tr, ⟨tr, b23⟩, tr, tr, ⟨⟨⟨rfl, rfl, rfl, tr⟩, ⟨rfl, rfl, rfl, tr⟩, tr⟩, ok_impl_InnerOf K v8 v6 v24 e25⟩, tr, tr, ⟨tr, b26⟩, tr, tr, ⟨⟨⟨rfl, rfl, rfl, tr⟩, rfl, tr⟩, ok_impl_ScaleVector K v10 (Fl.mk (k := .f32) 3212836864 (by decide)) v27 e28⟩, ⟨⟨⟨rfl, rfl, rfl, tr⟩, ⟨rfl, rfl, rfl, tr⟩, tr⟩, ok_laws_b10VEqual K v8 v27 v29 e30⟩, tr, tr, ⟨tr, b31⟩, tr, tr, tr, ⟨⟨⟨rfl, rfl, rfl, tr⟩, ⟨rfl, rfl, rfl, tr⟩, tr⟩, ok_impl_AddVectors K v4 v4 v32 e33⟩, ⟨⟨⟨rfl, rfl, rfl, tr⟩, ⟨rfl, rfl, rfl, tr⟩, tr⟩, ok_laws_b10VEqual K v16 v32 v34 e35⟩, tr, tr, ⟨tr, b36⟩, tr, tr, ⟨⟨⟨rfl, rfl, rfl, tr⟩, ⟨rfl, rfl, rfl, tr⟩, tr⟩, ok_impl_InnerOf K v4 v4 v37 e38⟩, tr, ⟨⟨⟨rfl, rfl, rfl, tr⟩, tr⟩, ok_laws_b10Square K v4 v39 e40⟩, tr, tr, ⟨tr, b41⟩, tr, tr, tr, tr, tr, tr, tr, tr, tr⟩, tr⟩ ⟨rfl, rfl⟩
                · obtain ⟨v42, e43, e51⟩ := bind_some e51
                  obtain ⟨v44, e45, e51⟩ := bind_some e51
                  obtain ⟨v46, e47, e51⟩ := bind_some e51
                  obtain ⟨v48, e49, e51⟩ := bind_some e51
                  replace e51 := some_eq e51
                  subst e51
                  exact AW.dA ⟨[(0, (vc (sl 1 (csI .u8) a0))), (5, (vp 1 0)), (6, (vp 2 0)), (82, (vB (!v48)))], [(1, (.box [(cF v4.X), (cF v4.Y), (cF v4.Z)])), (2, (.box [(cF v6.X), (cF v6.Y), (cF v6.Z)]))]⟩ ((T2 (((((eF v14.X) ∧ (eF v14.Y) ∧ (eF v14.Z) ∧ Tt) ∧ ((eF v4.X) ∧ (eF v4.Y) ∧ (eF v4.Z) ∧ Tt) ∧ Tt) ∧ CallOK Tryz.prog 10 [.agg (cs_Vector v14), .agg (cs_Vector v4)] [.one (.bool v18)]) ∧ Tt ∧ (Tt ∧ (!v18) = false) ∧ T2 (((((eF v8.X) ∧ (eF v8.Y) ∧ (eF v8.Z) ∧ Tt) ∧ ((eF v4.X) ∧ (eF v4.Y) ∧ (eF v4.Z) ∧ Tt) ∧ Tt) ∧ CallOK Tryz.prog 11 [.agg (cs_Vector v8), .agg (cs_Vector v4)] [.one (.flt .f32 v21.bits)]) ∧ T2 ((Tt ∧ (v21.ne (Fl.mk (k := .f32) 0 (by decide))) = false) ∧ T2 (((((eF v8.X) ∧ (eF v8.Y) ∧ (eF v8.Z) ∧ Tt) ∧ ((eF v6.X) ∧ (eF v6.Y) ∧ (eF v6.Z) ∧ Tt) ∧ Tt) ∧ CallOK Tryz.prog 11 [.agg (cs_Vector v8), .agg (cs_Vector v6)] [.one (.flt .f32 v24.bits)]) ∧ T2 ((Tt ∧ (v24.ne (Fl.mk (k := .f32) 0 (by decide))) = false) ∧ T2 (((((eF v10.X) ∧ (eF v10.Y) ∧ (eF v10.Z) ∧ Tt) ∧ (eF (Fl.mk (k := .f32) 3212836864 (by decide))) ∧ Tt) ∧ CallOK Tryz.prog 9 [.agg (cs_Vector v10), .one (.flt .f32 (Fl.mk (k := .f32) 3212836864 (by decide)).bits)] [.agg (cs_Vector v27)]) ∧ ((((eF v8.X) ∧ (eF v8.Y) ∧ (eF v8.Z) ∧ Tt) ∧ ((eF v27.X) ∧ (eF v27.Y) ∧ (eF v27.Z) ∧ Tt) ∧ Tt) ∧ CallOK Tryz.prog 10 [.agg (cs_Vector v8), .agg (cs_Vector v27)] [.one (.bool v29)]) ∧ T2 ((Tt ∧ (!v29) = false) ∧ Tt ∧ T2 (((((eF v4.X) ∧ (eF v4.Y) ∧ (eF v4.Z) ∧ Tt) ∧ ((eF v4.X) ∧ (eF v4.Y) ∧ (eF v4.Z) ∧ Tt) ∧ Tt) ∧ CallOK Tryz.prog 7 [.agg (cs_Vector v4), .agg (cs_Vector v4)] [.agg (cs_Vector v32)]) ∧ ((((eF v16.X) ∧ (eF v16.Y) ∧ (eF v16.Z) ∧ Tt) ∧ ((eF v32.X) ∧ (eF v32.Y) ∧ (eF v32.Z) ∧ Tt) ∧ Tt) ∧ CallOK Tryz.prog 10 [.agg (cs_Vector v16), .agg (cs_Vector v32)] [.one (.bool v34)]) ∧ T2 ((Tt ∧ (!v34) = false) ∧ T2 (((((eF v4.X) ∧ (eF v4.Y) ∧ (eF v4.Z) ∧ Tt) ∧ ((eF v4.X) ∧ (eF v4.Y) ∧ (eF v4.Z) ∧ Tt) ∧ Tt) ∧ CallOK Tryz.prog 11 [.agg (cs_Vector v4), .agg (cs_Vector v4)] [.one (.flt .f32 v37.bits)]) ∧ Tt ∧ ((((eF v4.X) ∧ (eF v4.Y) ∧ (eF v4.Z) ∧ Tt) ∧ Tt) ∧ CallOK Tryz.prog 12 [.agg (cs_Vector v4)] [.one (.flt .f32 v39.bits)]) ∧ T2 ((Tt ∧ (v37.ne v39) = false) ∧ Tt ∧ ((((eF v4.X) ∧ (eF v4.Y) ∧ (eF v4.Z) ∧ Tt) ∧ Tt) ∧ CallOK Tryz.prog 14 [.agg (cs_Vector v4)] [.one (.flt .f32 v42.bits)]) ∧ Tt ∧ ((((eF v4.X) ∧ (eF v4.Y) ∧ (eF v4.Z) ∧ Tt) ∧ Tt) ∧ CallOK Tryz.prog 12 [.agg (cs_Vector v4)] [.one (.flt .f32 v44.bits)]) ∧ (((eF v44) ∧ Tt) ∧ CallOK Tryz.prog 15 [.one (.flt .f32 v44.bits)] [.one (.flt .f32 v46.bits)]) ∧ (((eF v42) ∧ (eF v46) ∧ Tt) ∧ CallOK Tryz.prog 13 [.one (.flt .f32 v42.bits), .one (.flt .f32 v46.bits)] [.one (.bool v48)]) ∧ T2 Tt)))))))))))) ∧ (Tt)) 48 [.no, .no, .call [.agg (cs_Vector v14), .agg (cs_Vector v4)] [.one (.bool v18)] [[.view]], .no, .dec false, .no, .no, .call [.agg (cs_Vector v8), .agg (cs_Vector v4)] [.one (.flt .f32 v21.bits)] [[.view]], .no, .no, .dec false, .no, .no, .call [.agg (cs_Vector v8), .agg (cs_Vector v6)] [.one (.flt .f32 v24.bits)] [[.view]], .no, .no, .dec false, .no, .no, .call [.agg (cs_Vector v10), .one (.flt .f32 (Fl.mk (k := .f32) 3212836864 (by decide)).bits)] [.agg (cs_Vector v27)] [[.view, .view, .view]], .call [.agg (cs_Vector v8), .agg (cs_Vector v27)] [.one (.bool v29)] [[.view]], .no, .no, .dec false, .no, .no, .no, .call [.agg (cs_Vector v4), .agg (cs_Vector v4)] [.agg (cs_Vector v32)] [[.view, .view, .view]], .call [.agg (cs_Vector v16), .agg (cs_Vector v32)] [.one (.bool v34)] [[.view]], .no, .no, .dec false, .no, .no, .call [.agg (cs_Vector v4), .agg (cs_Vector v4)] [.one (.flt .f32 v37.bits)] [[.view]], .no, .call [.agg (cs_Vector v4)] [.one (.flt .f32 v39.bits)] [[.view]], .no, .no, .dec false, .no, .call [.agg (cs_Vector v4)] [.one (.flt .f32 v42.bits)] [[.view]], .no, .call [.agg (cs_Vector v4)] [.one (.flt .f32 v44.bits)] [[.view]], .call [.one (.flt .f32 v44.bits)] [.one (.flt .f32 v46.bits)] [[.view]], .call [.one (.flt .f32 v42.bits), .one (.flt .f32 v46.bits)] [.one (.bool v48)] [[.view]]] [0, 5, 6, 82] [1, 2] ⟨⟨tr, tr, ⟨⟨⟨rfl, rfl, rfl, tr⟩, ⟨rfl, rfl, rfl, tr⟩, tr⟩, ok_laws_b10VEqual K v14 v4 v18 e19⟩, tr, ⟨tr, b20⟩, tr, tr, ⟨⟨⟨rfl, rfl, rfl, tr⟩, ⟨rfl, rfl, rfl, tr⟩, tr⟩, ok_impl_InnerOf K v8 v4 v21 e22⟩, tr, tr, ⟨tr, b23⟩, tr, tr, ⟨⟨⟨rfl, rfl, rfl, tr⟩, ⟨rfl, rfl, rfl, tr⟩, tr⟩, ok_impl_InnerOf K v8 v6 v24 e25⟩, tr, tr, ⟨tr, b26⟩, tr, tr, ⟨⟨⟨rfl, rfl, rfl, tr⟩, rfl, tr⟩, ok_impl_ScaleVector K v10 (Fl.mk (k := .f32) 3212836864 (by decide)) v27 e28⟩, ⟨⟨⟨rfl, rfl, rfl, tr⟩, ⟨rfl, rfl, rfl, tr⟩, tr⟩, ok_laws_b10VEqual K v8 v27 v29 e30⟩, tr, tr, ⟨tr, b31⟩, tr, tr, tr, ⟨⟨⟨rfl, rfl, rfl, tr⟩, ⟨rfl, rfl, rfl, tr⟩, tr⟩, ok_impl_AddVectors K v4 v4 v32 e33⟩, ⟨⟨⟨rfl, rfl, rfl, tr⟩, ⟨rfl, rfl, rfl, tr⟩, tr⟩, ok_laws_b10VEqual K v16 v32 v34 e35⟩, tr, tr, ⟨tr, b36⟩, tr, tr, ⟨⟨⟨rfl, rfl, rfl, tr⟩, ⟨rfl, rfl, rfl, tr⟩, tr⟩, ok_impl_InnerOf K v4 v4 v37 e38⟩, tr, ⟨⟨⟨rfl, rfl, rfl, tr⟩, tr⟩, ok_laws_b10Square K v4 v39 e40⟩, tr, tr, ⟨tr, b41⟩, tr, ⟨⟨⟨rfl, rfl, rfl, tr⟩, tr⟩, ok_impl_LongOf K v4 v42 e43⟩, tr, ⟨⟨⟨rfl, rfl, rfl, tr⟩, tr⟩, ok_laws_b10Square K v4 v44 e45⟩, ⟨⟨rfl, tr⟩, ok_spec_RootNumber K v44 v46 e47⟩, ⟨⟨rfl, rfl, tr⟩, ok_spec_SameNumber K v42 v46 v48 e49⟩, tr, tr, tr⟩, tr⟩ ⟨rfl, rfl⟩
    refine thenQ_normal ?_
    rcases ite2_cases h with ⟨b52, h⟩ | ⟨b52, h⟩
    · refine AW.cond_t rfl b52 ?_
      refine AW.sA ⟨[(4, (vB false))], []⟩ (Tt ∧ Tt) [] [4] [] ⟨tr, tr⟩ ?_
      refine AW.ret ?_
      refine thenQ_ret ?_
      replace h := some_eq h
      subst h
      exact ⟨.inr rfl, retOK_of [(.one (.c (.bool false)))] (by kernel_rfl) ⟨⟨rfl, tr⟩, tr⟩ (of_decide_eq_true (by kernel_rfl))⟩
    · refine AW.cond_f rfl b52 ?_
      refine AW.skip ?_
      refine thenQ_normal ?_
      refine AW.seq ?_
      refine AW.seq ?_
      obtain ⟨v53, e54, h⟩ := bind_some h
      obtain ⟨v55, e56, h⟩ := bind_some h
      obtain ⟨j62, e63, h⟩ := bind_some h
      refine AW.join1 (s2 := ⟨[(0, (vc (sl 1 (csI .u8) a0))), (96, (vB j62))], []⟩) ?_ ?_
      · rcases ite2_cases e63 with ⟨b57, e63⟩ | ⟨b57, e63⟩
        · replace e63 := some_eq e63
          subst e63
          exact AW.dA ⟨[(0, (vc (sl 1 (csI .u8) a0))), (96, (vB true))], []⟩ ((T2 (((((eF v4.X) ∧ (eF v4.Y) ∧ (eF v4.Z) ∧ Tt) ∧ ((eF v6.X) ∧ (eF v6.Y) ∧ (eF v6.Z) ∧ Tt) ∧ (eF (Fl.mk (k := .f32) 0 (by decide))) ∧ Tt) ∧ CallOK Tryz.prog 16 [.agg (cs_Vector v4), .agg (cs_Vector v6), .one (.flt .f32 (Fl.mk (k := .f32) 0 (by decide)).bits)] [.agg (cs_Vector v53)]) ∧ Tt ∧ ((((eF v53.X) ∧ (eF v53.Y) ∧ (eF v53.Z) ∧ Tt) ∧ ((eF v4.X) ∧ (eF v4.Y) ∧ (eF v4.Z) ∧ Tt) ∧ Tt) ∧ CallOK Tryz.prog 10 [.agg (cs_Vector v53), .agg (cs_Vector v4)] [.one (.bool v55)]) ∧ Tt ∧ (Tt ∧ (!v55) = true) ∧ Tt ∧ T2 (T4 Tt))) ∧ (Tt)) 14 [.no, .no, .call [.agg (cs_Vector v4), .agg (cs_Vector v6), .one (.flt .f32 (Fl.mk (k := .f32) 0 (by decide)).bits)] [.agg (cs_Vector v53)] [[.view, .view, .view]], .no, .call [.agg (cs_Vector v53), .agg (cs_Vector v4)] [.one (.bool v55)] [[.view]], .no, .dec true] [0, 96] [] ⟨⟨tr, tr, ⟨⟨⟨rfl, rfl, rfl, tr⟩, ⟨rfl, rfl, rfl, tr⟩, rfl, tr⟩, ok_impl_BetweenVectors K v4 v6 (Fl.mk (k := .f32) 0 (by decide)) v53 e54⟩, tr, ⟨⟨⟨rfl, rfl, rfl, tr⟩, ⟨rfl, rfl, rfl, tr⟩, tr⟩, ok_laws_b10VEqual K v53 v4 v55 e56⟩, tr, ⟨tr, b57⟩, tr, tr, tr, tr, tr, tr, tr, tr⟩, tr⟩ ⟨rfl, rfl⟩
        · obtain ⟨v58, e59, e63⟩ := bind_some e63
          obtain ⟨v60, e61, e63⟩ := bind_some e63
          replace e63 := some_eq e63
          subst e63
          exact AW.dA ⟨[(0, (vc (sl 1 (csI .u8) a0))), (96, (vB (!v60)))], []⟩ ((T2 (((((eF v4.X) ∧ (eF v4.Y) ∧ (eF v4.Z) ∧ Tt) ∧ ((eF v6.X) ∧ (eF v6.Y) ∧ (eF v6.Z) ∧ Tt) ∧ (eF (Fl.mk (k := .f32) 0 (by decide))) ∧ Tt) ∧ CallOK Tryz.prog 16 [.agg (cs_Vector v4), .agg (cs_Vector v6), .one (.flt .f32 (Fl.mk (k := .f32) 0 (by decide)).bits)] [.agg (cs_Vector v53)]) ∧ Tt ∧ ((((eF v53.X) ∧ (eF v53.Y) ∧ (eF v53.Z) ∧ Tt) ∧ ((eF v4.X) ∧ (eF v4.Y) ∧ (eF v4.Z) ∧ Tt) ∧ Tt) ∧ CallOK Tryz.prog 10 [.agg (cs_Vector v53), .agg (cs_Vector v4)] [.one (.bool v55)]) ∧ Tt ∧ (Tt ∧ (!v55) = false) ∧ T2 (((((eF v4.X) ∧ (eF v4.Y) ∧ (eF v4.Z) ∧ Tt) ∧ ((eF v6.X) ∧ (eF v6.Y) ∧ (eF v6.Z) ∧ Tt) ∧ (eF (Fl.mk (k := .f32) 1065353216 (by decide))) ∧ Tt) ∧ CallOK Tryz.prog 16 [.agg (cs_Vector v4), .agg (cs_Vector v6), .one (.flt .f32 (Fl.mk (k := .f32) 1065353216 (by decide)).bits)] [.agg (cs_Vector v58)]) ∧ Tt ∧ ((((eF v58.X) ∧ (eF v58.Y) ∧ (eF v58.Z) ∧ Tt) ∧ ((eF v6.X) ∧ (eF v6.Y) ∧ (eF v6.Z) ∧ Tt) ∧ Tt) ∧ CallOK Tryz.prog 10 [.agg (cs_Vector v58), .agg (cs_Vector v6)] [.one (.bool v60)]) ∧ T2 Tt))) ∧ (Tt)) 14 [.no, .no, .call [.agg (cs_Vector v4), .agg (cs_Vector v6), .one (.flt .f32 (Fl.mk (k := .f32) 0 (by decide)).bits)] [.agg (cs_Vector v53)] [[.view, .view, .view]], .no, .call [.agg (cs_Vector v53), .agg (cs_Vector v4)] [.one (.bool v55)] [[.view]], .no, .dec false, .no, .no, .call [.agg (cs_Vector v4), .agg (cs_Vector v6), .one (.flt .f32 (Fl.mk (k := .f32) 1065353216 (by decide)).bits)] [.agg (cs_Vector v58)] [[.view, .view, .view]], .no, .call [.agg (cs_Vector v58), .agg (cs_Vector v6)] [.one (.bool v60)] [[.view]]] [0, 96] [] ⟨⟨tr, tr, ⟨⟨⟨rfl, rfl, rfl, tr⟩, ⟨rfl, rfl, rfl, tr⟩, rfl, tr⟩, ok_impl_BetweenVectors K v4 v6 (Fl.mk (k := .f32) 0 (by decide)) v53 e54⟩, tr, ⟨⟨⟨rfl, rfl, rfl, tr⟩, ⟨rfl, rfl, rfl, tr⟩, tr⟩, ok_laws_b10VEqual K v53 v4 v55 e56⟩, tr, ⟨tr, b57⟩, tr, tr, ⟨⟨⟨rfl, rfl, rfl, tr⟩, ⟨rfl, rfl, rfl, tr⟩, rfl, tr⟩, ok_impl_BetweenVectors K v4 v6 (Fl.mk (k := .f32) 1065353216 (by decide)) v58 e59⟩, tr, ⟨⟨⟨rfl, rfl, rfl, tr⟩, ⟨rfl, rfl, rfl, tr⟩, tr⟩, ok_laws_b10VEqual K v58 v6 v60 e61⟩, tr, tr, tr⟩, tr⟩ ⟨rfl, rfl⟩
      refine thenQ_normal ?_
      rcases ite2_cases h with ⟨b64, h⟩ | ⟨b64, h⟩
      · refine AW.cond_t rfl b64 ?_
        refine AW.sA ⟨[(4, (vB false))], []⟩ (Tt ∧ Tt) [] [4] [] ⟨tr, tr⟩ ?_
        refine AW.ret ?_
        refine thenQ_ret ?_
        replace h := some_eq h
        subst h
        exact ⟨.inr rfl, retOK_of [(.one (.c (.bool false)))] (by kernel_rfl) ⟨⟨rfl, tr⟩, tr⟩ (of_decide_eq_true (by kernel_rfl))⟩
      · refine AW.cond_f rfl b64 ?_
        refine AW.skip ?_
        refine thenQ_normal ?_
        refine AW.seq ?_
        obtain ⟨v65, e66, h⟩ := bind_some h
        refine AW.tC (Tt ∧ (((Eqc (sl 1 (csI .u8) a0)) ∧ Tt) ∧ CallOK Tryz.prog 17 [.one (sl 1 (csI .u8) a0)] [.agg (cs_Vector v65)]) ∧ T2 Tt) [.no, .call [.one (sl 1 (csI .u8) a0)] [.agg (cs_Vector v65)] [[.view, .view, .view]], .box 7] [11] [7] ⟨tr, ⟨⟨rfl, tr⟩, ok_spec_B10Any K a0 v65 e66⟩, tr, tr, tr⟩ ?_
        refine AW.seq ?_
        obtain ⟨v67, e68, h⟩ := bind_some h
        refine AW.tC (Tt ∧ ((((eF v65.X) ∧ (eF v65.Y) ∧ (eF v65.Z) ∧ Tt) ∧ Tt) ∧ CallOK Tryz.prog 18 [.agg (cs_Vector v65)] [.one (.str v67)]) ∧ Tt ∧ Tt) [.no, .call [.agg (cs_Vector v65)] [.one (.str v67)] [[.view]]] [11, 12] [7] ⟨tr, ⟨⟨⟨rfl, rfl, rfl, tr⟩, tr⟩, ok_impl_VectorText K v65 v67 e68⟩, tr, tr⟩ ?_
        refine AW.seq ?_
        obtain ⟨v69, e70, h⟩ := bind_some h
        refine AW.tA ⟨[(11, (vp 7 0)), (12, (vc (.str v67))), (13, (vp 8 0)), (14, (vB v69.2))], [(7, (.box [(cF v65.X), (cF v65.Y), (cF v65.Z)])), (8, (.box [(cF v69.1.X), (cF v69.1.Y), (cF v69.1.Z)]))]⟩ (Tt ∧ (((Eqc (.str v67)) ∧ Tt) ∧ CallOK Tryz.prog 19 [.one (.str v67)] [.agg (cs_Vector v69.1), .one (.bool v69.2)]) ∧ T2 (T4 Tt)) [.no, .call [.one (.str v67)] [.agg (cs_Vector v69.1), .one (.bool v69.2)] [[.view, .view, .view], [.view]], .no, .no, .no, .box 8] [11, 12, 13, 14] [7, 8] ⟨tr, ⟨⟨rfl, tr⟩, ok_impl_ReadVector K v67 v69 e70⟩, tr, tr, tr, tr, tr, tr, tr⟩ ?_
        refine AW.seq ?_
        obtain ⟨j75, e76, h⟩ := bind_some h
        refine AW.join1 (s2 := ⟨[(4, (vB j75))], []⟩) ?_ ?_
        · rcases ite2_cases e76 with ⟨b71, e76⟩ | ⟨b71, e76⟩
          · obtain ⟨v72, e73, e76⟩ := bind_some e76
            rcases ite2_cases e76 with ⟨b74, e76⟩ | ⟨b74, e76⟩
            · replace e76 := some_eq e76
              subst e76
              exact AW.rA ⟨[(4, (vB ((v67.size : Int) == (26 : Int))))], []⟩ (Tt ∧ (Tt ∧ v69.2 = true) ∧ T2 (((((eF v69.1.X) ∧ (eF v69.1.Y) ∧ (eF v69.1.Z) ∧ Tt) ∧ ((eF v65.X) ∧ (eF v65.Y) ∧ (eF v65.Z) ∧ Tt) ∧ Tt) ∧ CallOK Tryz.prog 20 [.agg (cs_Vector v69.1), .agg (cs_Vector v65)] [.one (.bool v72)]) ∧ Tt ∧ (Tt ∧ v72 = true) ∧ Tt ∧ T4 Tt)) [.no, .dec true, .no, .no, .call [.agg (cs_Vector v69.1), .agg (cs_Vector v65)] [.one (.bool v72)] [[.view]], .no, .dec true] [4] [] ⟨tr, ⟨tr, b71⟩, tr, tr, ⟨⟨⟨rfl, rfl, rfl, tr⟩, ⟨rfl, rfl, rfl, tr⟩, tr⟩, ok_impl_SameVector K v69.1 v65 v72 e73⟩, tr, ⟨tr, b74⟩, tr, tr, tr, tr, tr, tr⟩ ⟨rfl, rfl⟩
            · replace e76 := some_eq e76
              subst e76
              exact AW.rA ⟨[(4, (vB false))], []⟩ (Tt ∧ (Tt ∧ v69.2 = true) ∧ T2 (((((eF v69.1.X) ∧ (eF v69.1.Y) ∧ (eF v69.1.Z) ∧ Tt) ∧ ((eF v65.X) ∧ (eF v65.Y) ∧ (eF v65.Z) ∧ Tt) ∧ Tt) ∧ CallOK Tryz.prog 20 [.agg (cs_Vector v69.1), .agg (cs_Vector v65)] [.one (.bool v72)]) ∧ Tt ∧ (Tt ∧ v72 = false) ∧ Tt ∧ T4 Tt)) [.no, .dec true, .no, .no, .call [.agg (cs_Vector v69.1), .agg (cs_Vector v65)] [.one (.bool v72)] [[.view]], .no, .dec false] [4] [] ⟨tr, ⟨tr, b71⟩, tr, tr, ⟨⟨⟨rfl, rfl, rfl, tr⟩, ⟨rfl, rfl, rfl, tr⟩, tr⟩, ok_impl_SameVector K v69.1 v65 v72 e73⟩, tr, ⟨tr, b74⟩, tr, tr, tr, tr, tr, tr⟩ ⟨rfl, rfl⟩
          · replace e76 := some_eq e76
            subst e76
            exact AW.rA ⟨[(4, (vB false))], []⟩ (Tt ∧ (Tt ∧ v69.2 = false) ∧ T2 (T4 (T4 Tt))) [.no, .dec false] [4] [] ⟨tr, ⟨tr, b71⟩, tr, tr, tr, tr, tr, tr, tr, tr, tr, tr, tr⟩ ⟨rfl, rfl⟩
        refine thenQ_normal ?_
        refine AW.ret ?_
        replace h := some_eq h
        subst h
        exact ⟨.inr rfl, retOK_of [(.one (.c (.bool j75)))] (by kernel_rfl) ⟨⟨rfl, tr⟩, tr⟩ (of_decide_eq_true (by kernel_rfl))⟩

end
end Go.Fw
