/- Functions of the program: what each computes, and that it computes just that. -/
import Derived.Test.YtdkidnhddgeboacFwTy
import Derived.Test.YtdkidnhddgeboacFwH
import Derived.Test.YtdkidnhddgeboacFwV
import Derived.Test.YtdkidnhddgeboacFwMK
import Derived.Test.YtdkidnhddgeboacFwLB
import Derived.Test.YtdkidnhddgeboacFwSh
import Derived.Test.YtdkidnhddgeboacFwSO
import Derived.Test.YtdkidnhddgeboacFwU
import Derived.Test.YtdkidnhddgeboacProg
import Derived.KernelRfl
namespace Go.Fw
open Go Go.Proofs
noncomputable section
set_option maxRecDepth 10000

/-! laws.b10Long -/
def laws_b10Long (_K : Nat) (a0 : (List Int)) (a1 : (List Int)) : Option (Bool) :=
  (ite2 ((decide ((a0.length : Int) > (1048576 : Int)))) (some true) (some (decide ((a1.length : Int) > (1048576 : Int))))).bind fun j2 => some j2

theorem ok_laws_b10Long (K : Nat) (a0 : (List Int)) (a1 : (List Int)) (o : (Bool)) (h : laws_b10Long K a0 a1 = some o) : CallOK Try.prog 4 [.one (sl 1 (csI .u8) a0), .one (sl 1 (csI .u8) a1)] [.one (.bool o)] := by
  refine callOK_of_AW Try.func4 rfl (by kernel_rfl) (Nat.le_of_ble_eq_true (by kernel_rfl)) ?_
  intro w0
  unfold laws_b10Long at h
  refine AW.sA ⟨[(0, (vc (sl 1 (csI .u8) a0))), (1, (vc (sl 1 (csI .u8) a1)))], []⟩ (Tt ∧ Tt) [] [0, 1] [] ⟨tr, tr⟩ ?_
  refine AW.seq ?_
  obtain ⟨j2, e3, h⟩ := bind_some h
  refine AW.join1 (s2 := ⟨[(4, (vB j2))], []⟩) ?_ ?_
  · rcases ite2_cases e3 with ⟨b1, e3⟩ | ⟨b1, e3⟩
    · replace e3 := some_eq e3
      subst e3
      exact AW.rA ⟨[(4, (vB true))], []⟩ (Tt ∧ T2 ((Tt ∧ (decide ((a0.length : Int) > (1048576 : Int))) = true) ∧ Tt ∧ T4 Tt)) [.no, .no, .no, .dec true] [4] [] ⟨tr, tr, tr, ⟨tr, b1⟩, tr, tr, tr, tr, tr, tr⟩ ⟨rfl, rfl⟩
    · replace e3 := some_eq e3
      subst e3
      exact AW.rA ⟨[(4, (vB (decide ((a1.length : Int) > (1048576 : Int)))))], []⟩ (Tt ∧ T2 ((Tt ∧ (decide ((a0.length : Int) > (1048576 : Int))) = false) ∧ Tt ∧ T4 Tt)) [.no, .no, .no, .dec false] [4] [] ⟨tr, tr, tr, ⟨tr, b1⟩, tr, tr, tr, tr, tr, tr⟩ ⟨rfl, rfl⟩
  refine thenQ_normal ?_
  refine AW.ret ?_
  replace h := some_eq h
  subst h
  exact ⟨.inr rfl, retOK_of [(.one (.c (.bool j2)))] (by kernel_rfl) ⟨⟨rfl, tr⟩, tr⟩ (of_decide_eq_true (by kernel_rfl))⟩

/-! spec.l00From -/
theorem mk_spec_l00From : MkOK Try.prog 17 76 [(.i64, 0), (.u64, 0)] := by
  refine mkOK_of Try.func17 rfl (by kernel_rfl) fun w ad n cap => ?_
  refine wp_seq (wp_region_lit (wpList_val (x := (.pointer none)) (w' := w) rfl (by kernel_rfl) (wpList_nil ?_)))
  refine wp_seq (wp_region_lit (wpList_val (x := (.slice ad n cap)) (w' := w) rfl (by kernel_rfl) (wpList_val (x := (.agg #[(.slice ad n cap), .int .i64 0, .int .u64 0])) (w' := w) rfl (by kernel_rfl) (wpList_val (x := (.pointer (some ⟨w.heap.size, 0, none⟩))) (w' := (w.alloc (.cells #[(.slice ad n cap), .int .i64 0, .int .u64 0] 76))) rfl (by kernel_rfl) (wpList_val (x := (.pointer (some ⟨w.heap.size, 0, none⟩))) (w' := (w.alloc (.cells #[(.slice ad n cap), .int .i64 0, .int .u64 0] 76))) rfl (by kernel_rfl) (wpList_nil ?_))))))
  exact wp_ret ⟨rfl, (.pointer (some ⟨w.heap.size, 0, none⟩)), (by kernel_rfl), _, rfl, rfl, rfl⟩



/-! (*spec.l00Src).next -/
def spec_l00Src_next (_K : Nat) (a0 : l00Src) : Option (Int × Int × Int) :=
  ite2 ((decide (a0.at_ < (a0.code.length : Int)))) (chk (0 ≤ a0.at_ ∧ a0.at_ < (a0.code.length : Int)) (ite2 ((decide ((IntKind.i64.wrap (a0.at_ + (1 : Int))) ≤ (a0.code.length : Int)))) (some ((IntKind.i64.wrap (a0.code.getD a0.at_.toNat default)), (IntKind.i64.wrap (a0.at_ + (1 : Int))), (IntKind.u64.wrap ((IntKind.u64.wrap ((IntKind.u64.wrap (a0.seed * (6364136223846793005 : Int))) + (IntKind.u64.wrap (IntKind.i64.wrap (a0.code.getD a0.at_.toNat default))))) + (1442695040888963407 : Int))))) (chk (0 ≤ (40 : Int)) (some ((IntKind.i64.wrap (bits .and .u64 ((IntKind.u64.wrap ((IntKind.u64.wrap ((IntKind.u64.wrap (a0.seed * (6364136223846793005 : Int))) + (IntKind.u64.wrap (IntKind.i64.wrap (a0.code.getD a0.at_.toNat default))))) + (1442695040888963407 : Int))).fdiv (2 ^ (min (40 : Int).toNat (IntKind.bits .u64)))) (255 : Int))), (IntKind.i64.wrap (a0.at_ + (1 : Int))), (IntKind.u64.wrap ((IntKind.u64.wrap ((IntKind.u64.wrap (a0.seed * (6364136223846793005 : Int))) + (IntKind.u64.wrap (IntKind.i64.wrap (a0.code.getD a0.at_.toNat default))))) + (1442695040888963407 : Int)))))))) (ite2 ((decide ((IntKind.i64.wrap (a0.at_ + (1 : Int))) ≤ (a0.code.length : Int)))) (some ((0 : Int), (IntKind.i64.wrap (a0.at_ + (1 : Int))), (IntKind.u64.wrap ((IntKind.u64.wrap ((IntKind.u64.wrap (a0.seed * (6364136223846793005 : Int))) + (IntKind.u64.wrap (0 : Int)))) + (1442695040888963407 : Int))))) (chk (0 ≤ (40 : Int)) (some ((IntKind.i64.wrap (bits .and .u64 ((IntKind.u64.wrap ((IntKind.u64.wrap ((IntKind.u64.wrap (a0.seed * (6364136223846793005 : Int))) + (IntKind.u64.wrap (0 : Int)))) + (1442695040888963407 : Int))).fdiv (2 ^ (min (40 : Int).toNat (IntKind.bits .u64)))) (255 : Int))), (IntKind.i64.wrap (a0.at_ + (1 : Int))), (IntKind.u64.wrap ((IntKind.u64.wrap ((IntKind.u64.wrap (a0.seed * (6364136223846793005 : Int))) + (IntKind.u64.wrap (0 : Int)))) + (1442695040888963407 : Int)))))))

theorem ok_spec_l00Src_next (K : Nat) (a0 : l00Src) (o : (Int × Int × Int)) (h : spec_l00Src_next K a0 = some o) : MutOK Try.prog 36 [(.box 3 (fun j => [true, false, false].getD j true) (fun j => (cs_l00Src a0).getD j .nilptr) (fun j => [.nilptr, (.int .i64 o.2.1), (.int .u64 o.2.2)].getD j .nilptr))] [.one (.int .i64 o.1)] := by
  refine mutOK_of_AW 1 Try.func36 rfl (by kernel_rfl) (Nat.le_of_ble_eq_true (by kernel_rfl)) (by kernel_rfl) (by kernel_rfl) ?_
  intro w0 K0 v0 s0
  unfold spec_l00Src_next at h
  refine AW.weak (s' := ⟨[(0, (vp 0 0))], [(0, (.box [(.fx 0 0 (sl 1 (csI .u8) a0.code)), (cI a0.at_), (.c (.int .u64 a0.seed))]))]⟩) (subUnfx 0 [1, 2] (by kernel_rfl)) ?_
  refine AW.sC (Tt ∧ Tt) [] [0] [0] ⟨tr, tr⟩ ?_
  refine AW.sA ⟨[(0, (vp 0 0)), (3, (vI (0 : Int)))], [(0, (.box [(.fx 0 0 (sl 1 (csI .u8) a0.code)), (cI a0.at_), (.c (.int .u64 a0.seed))]))]⟩ (Tt ∧ Tt) [] [0, 3] [0] ⟨tr, tr⟩ ?_
  refine AW.seq ?_
  refine AW.seq (AW.dA ⟨[(0, (vp 0 0)), (3, (vI (0 : Int))), (13, (vB (decide (a0.at_ < (a0.code.length : Int)))))], [(0, (.box [(.fx 0 0 (sl 1 (csI .u8) a0.code)), (cI a0.at_), (.c (.int .u64 a0.seed))]))]⟩ ((T2 (T4 (T4 Tt))) ∧ (Tt)) 10 [] [0, 3, 13] [0] ⟨⟨tr, tr, tr, tr, tr, tr, tr, tr, tr, tr, tr⟩, tr⟩ (thenQ_normal ?_))
  rcases ite2_cases h with ⟨b1, h⟩ | ⟨b1, h⟩
  · refine AW.cond_t rfl b1 ?_
    obtain ⟨c2, h⟩ := chk_some h
    refine AW.dA ⟨[(0, (vp 0 0)), (3, (vI (IntKind.i64.wrap (a0.code.getD a0.at_.toNat default))))], [(0, (.box [(.fx 0 0 (sl 1 (csI .u8) a0.code)), (cI a0.at_), (.c (.int .u64 a0.seed))]))]⟩ ((T4 (T4 ((0 ≤ a0.at_ ∧ a0.at_ < (a0.code.length : Int)) ∧ Tt ∧ T2 Tt))) ∧ (Tt)) 12 [] [0, 3] [0] ⟨⟨tr, tr, tr, tr, tr, tr, tr, tr, c2, tr, tr, tr, tr⟩, tr⟩ ?_
    refine thenQ_normal ?_
    refine AW.sC (T4 (T4 Tt)) [] [0, 3] [0] ⟨tr, tr, tr, tr, tr, tr, tr, tr, tr⟩ ?_
    refine AW.sA ⟨[(0, (vp 0 0)), (3, (vI (IntKind.i64.wrap (a0.code.getD a0.at_.toNat default))))], [(0, (.box [(.fx 0 0 (sl 1 (csI .u8) a0.code)), (cI (IntKind.i64.wrap (a0.at_ + (1 : Int)))), (.c (.int .u64 (IntKind.u64.wrap ((IntKind.u64.wrap ((IntKind.u64.wrap (a0.seed * (6364136223846793005 : Int))) + (IntKind.u64.wrap (IntKind.i64.wrap (a0.code.getD a0.at_.toNat default))))) + (1442695040888963407 : Int)))))]))]⟩ (Tt ∧ T4 (T4 (T4 Tt))) [] [0, 3] [0] ⟨tr, tr, tr, tr, tr, tr, tr, tr, tr, tr, tr, tr, tr, tr⟩ ?_
    refine AW.seq ?_
    refine AW.seq (AW.dA ⟨[(0, (vp 0 0)), (3, (vI (IntKind.i64.wrap (a0.code.getD a0.at_.toNat default)))), (53, (vB (decide ((IntKind.i64.wrap (a0.at_ + (1 : Int))) ≤ (a0.code.length : Int)))))], [(0, (.box [(.fx 0 0 (sl 1 (csI .u8) a0.code)), (cI (IntKind.i64.wrap (a0.at_ + (1 : Int)))), (.c (.int .u64 (IntKind.u64.wrap ((IntKind.u64.wrap ((IntKind.u64.wrap (a0.seed * (6364136223846793005 : Int))) + (IntKind.u64.wrap (IntKind.i64.wrap (a0.code.getD a0.at_.toNat default))))) + (1442695040888963407 : Int)))))]))]⟩ ((T2 (T4 (T4 Tt))) ∧ (Tt)) 10 [] [0, 3, 53] [0] ⟨⟨tr, tr, tr, tr, tr, tr, tr, tr, tr, tr, tr⟩, tr⟩ (thenQ_normal ?_))
    rcases ite2_cases h with ⟨b3, h⟩ | ⟨b3, h⟩
    · refine AW.cond_t rfl b3 ?_
      refine AW.sA ⟨[(0, (vp 0 0)), (2, (vI (IntKind.i64.wrap (a0.code.getD a0.at_.toNat default))))], [(0, (.box [(.fx 0 0 (sl 1 (csI .u8) a0.code)), (cI (IntKind.i64.wrap (a0.at_ + (1 : Int)))), (.c (.int .u64 (IntKind.u64.wrap ((IntKind.u64.wrap ((IntKind.u64.wrap (a0.seed * (6364136223846793005 : Int))) + (IntKind.u64.wrap (IntKind.i64.wrap (a0.code.getD a0.at_.toNat default))))) + (1442695040888963407 : Int)))))]))]⟩ (T2 Tt) [] [0, 2] [0] ⟨tr, tr, tr⟩ ?_
      refine AW.ret ?_
      refine thenQ_ret ?_
      replace h := some_eq h
      subst h
      exact ⟨.inr rfl, retOK_of [(.one (cI (IntKind.i64.wrap (a0.code.getD a0.at_.toNat default))))] (by kernel_rfl) ⟨⟨rfl, tr⟩, tr⟩ (of_decide_eq_true (by kernel_rfl)), by kernel_rfl, ⟨⟨rfl, ⟨⟨rfl, rfl⟩, ⟨rfl, rfl⟩, ⟨rfl, rfl⟩, tr⟩⟩, tr⟩⟩
    · refine AW.cond_f rfl b3 ?_
      refine AW.skip ?_
      refine thenQ_normal ?_
      refine AW.seq ?_
      obtain ⟨c4, h⟩ := chk_some h
      refine AW.tA ⟨[(0, (vp 0 0)), (2, (vI (IntKind.i64.wrap (bits .and .u64 ((IntKind.u64.wrap ((IntKind.u64.wrap ((IntKind.u64.wrap (a0.seed * (6364136223846793005 : Int))) + (IntKind.u64.wrap (IntKind.i64.wrap (a0.code.getD a0.at_.toNat default))))) + (1442695040888963407 : Int))).fdiv (2 ^ (min (40 : Int).toNat (IntKind.bits .u64)))) (255 : Int)))))], [(0, (.box [(.fx 0 0 (sl 1 (csI .u8) a0.code)), (cI (IntKind.i64.wrap (a0.at_ + (1 : Int)))), (.c (.int .u64 (IntKind.u64.wrap ((IntKind.u64.wrap ((IntKind.u64.wrap (a0.seed * (6364136223846793005 : Int))) + (IntKind.u64.wrap (IntKind.i64.wrap (a0.code.getD a0.at_.toNat default))))) + (1442695040888963407 : Int)))))]))]⟩ (T4 ((0 ≤ (40 : Int)) ∧ Tt ∧ T2 Tt)) [] [0, 2] [0] ⟨tr, tr, tr, tr, c4, tr, tr, tr, tr⟩ ?_
      refine AW.ret ?_
      replace h := some_eq h
      subst h
      exact ⟨.inr rfl, retOK_of [(.one (cI (IntKind.i64.wrap (bits .and .u64 ((IntKind.u64.wrap ((IntKind.u64.wrap ((IntKind.u64.wrap (a0.seed * (6364136223846793005 : Int))) + (IntKind.u64.wrap (IntKind.i64.wrap (a0.code.getD a0.at_.toNat default))))) + (1442695040888963407 : Int))).fdiv (2 ^ (min (40 : Int).toNat (IntKind.bits .u64)))) (255 : Int)))))] (by kernel_rfl) ⟨⟨rfl, tr⟩, tr⟩ (of_decide_eq_true (by kernel_rfl)), by kernel_rfl, ⟨⟨rfl, ⟨⟨rfl, rfl⟩, ⟨rfl, rfl⟩, ⟨rfl, rfl⟩, tr⟩⟩, tr⟩⟩
  · refine AW.cond_f rfl b1 ?_
    refine AW.skip ?_
    refine thenQ_normal ?_
    refine AW.sC (T4 (T4 Tt)) [] [0, 3] [0] ⟨tr, tr, tr, tr, tr, tr, tr, tr, tr⟩ ?_
    refine AW.sA ⟨[(0, (vp 0 0)), (3, (vI (0 : Int)))], [(0, (.box [(.fx 0 0 (sl 1 (csI .u8) a0.code)), (cI (IntKind.i64.wrap (a0.at_ + (1 : Int)))), (.c (.int .u64 (IntKind.u64.wrap ((IntKind.u64.wrap ((IntKind.u64.wrap (a0.seed * (6364136223846793005 : Int))) + (IntKind.u64.wrap (0 : Int)))) + (1442695040888963407 : Int)))))]))]⟩ (Tt ∧ T4 (T4 (T4 Tt))) [] [0, 3] [0] ⟨tr, tr, tr, tr, tr, tr, tr, tr, tr, tr, tr, tr, tr, tr⟩ ?_
    refine AW.seq ?_
    refine AW.seq (AW.dA ⟨[(0, (vp 0 0)), (3, (vI (0 : Int))), (53, (vB (decide ((IntKind.i64.wrap (a0.at_ + (1 : Int))) ≤ (a0.code.length : Int)))))], [(0, (.box [(.fx 0 0 (sl 1 (csI .u8) a0.code)), (cI (IntKind.i64.wrap (a0.at_ + (1 : Int)))), (.c (.int .u64 (IntKind.u64.wrap ((IntKind.u64.wrap ((IntKind.u64.wrap (a0.seed * (6364136223846793005 : Int))) + (IntKind.u64.wrap (0 : Int)))) + (1442695040888963407 : Int)))))]))]⟩ ((T2 (T4 (T4 Tt))) ∧ (Tt)) 10 [] [0, 3, 53] [0] ⟨⟨tr, tr, tr, tr, tr, tr, tr, tr, tr, tr, tr⟩, tr⟩ (thenQ_normal ?_))
    rcases ite2_cases h with ⟨b5, h⟩ | ⟨b5, h⟩
    · refine AW.cond_t rfl b5 ?_
      refine AW.sA ⟨[(0, (vp 0 0)), (2, (vI (0 : Int)))], [(0, (.box [(.fx 0 0 (sl 1 (csI .u8) a0.code)), (cI (IntKind.i64.wrap (a0.at_ + (1 : Int)))), (.c (.int .u64 (IntKind.u64.wrap ((IntKind.u64.wrap ((IntKind.u64.wrap (a0.seed * (6364136223846793005 : Int))) + (IntKind.u64.wrap (0 : Int)))) + (1442695040888963407 : Int)))))]))]⟩ (T2 Tt) [] [0, 2] [0] ⟨tr, tr, tr⟩ ?_
      refine AW.ret ?_
      refine thenQ_ret ?_
      replace h := some_eq h
      subst h
      exact ⟨.inr rfl, retOK_of [(.one (cI (0 : Int)))] (by kernel_rfl) ⟨⟨rfl, tr⟩, tr⟩ (of_decide_eq_true (by kernel_rfl)), by kernel_rfl, ⟨⟨rfl, ⟨⟨rfl, rfl⟩, ⟨rfl, rfl⟩, ⟨rfl, rfl⟩, tr⟩⟩, tr⟩⟩
    · refine AW.cond_f rfl b5 ?_
      refine AW.skip ?_
      refine thenQ_normal ?_
      refine AW.seq ?_
      obtain ⟨c6, h⟩ := chk_some h
      refine AW.tA ⟨[(0, (vp 0 0)), (2, (vI (IntKind.i64.wrap (bits .and .u64 ((IntKind.u64.wrap ((IntKind.u64.wrap ((IntKind.u64.wrap (a0.seed * (6364136223846793005 : Int))) + (IntKind.u64.wrap (0 : Int)))) + (1442695040888963407 : Int))).fdiv (2 ^ (min (40 : Int).toNat (IntKind.bits .u64)))) (255 : Int)))))], [(0, (.box [(.fx 0 0 (sl 1 (csI .u8) a0.code)), (cI (IntKind.i64.wrap (a0.at_ + (1 : Int)))), (.c (.int .u64 (IntKind.u64.wrap ((IntKind.u64.wrap ((IntKind.u64.wrap (a0.seed * (6364136223846793005 : Int))) + (IntKind.u64.wrap (0 : Int)))) + (1442695040888963407 : Int)))))]))]⟩ (T4 ((0 ≤ (40 : Int)) ∧ Tt ∧ T2 Tt)) [] [0, 2] [0] ⟨tr, tr, tr, tr, c6, tr, tr, tr, tr⟩ ?_
      refine AW.ret ?_
      replace h := some_eq h
      subst h
      exact ⟨.inr rfl, retOK_of [(.one (cI (IntKind.i64.wrap (bits .and .u64 ((IntKind.u64.wrap ((IntKind.u64.wrap ((IntKind.u64.wrap (a0.seed * (6364136223846793005 : Int))) + (IntKind.u64.wrap (0 : Int)))) + (1442695040888963407 : Int))).fdiv (2 ^ (min (40 : Int).toNat (IntKind.bits .u64)))) (255 : Int)))))] (by kernel_rfl) ⟨⟨rfl, tr⟩, tr⟩ (of_decide_eq_true (by kernel_rfl)), by kernel_rfl, ⟨⟨rfl, ⟨⟨rfl, rfl⟩, ⟨rfl, rfl⟩, ⟨rfl, rfl⟩, tr⟩⟩, tr⟩⟩

/-! (*spec.l00Src).pick -/
def spec_l00Src_pick (K : Nat) (a0 : l00Src) (a1 : Int) : Option (Int × Int × Int) :=
  ite2 ((decide (a1 ≤ (1 : Int)))) (some ((0 : Int), a0.at_, a0.seed)) ((spec_l00Src_next K a0).bind fun v2 => ite2 ((decide (a1 > (200 : Int)))) ((spec_l00Src_next K (l00Src.mk a0.code v2.2.1 v2.2.2)).bind fun v5 => chk (a1 ≠ 0) (some (((IntKind.i64.wrap ((IntKind.i64.wrap (v2.1 * (256 : Int))) + v5.1)).tmod a1), v5.2.1, v5.2.2))) (chk (a1 ≠ 0) (some ((v2.1.tmod a1), v2.2.1, v2.2.2))))

theorem ok_spec_l00Src_pick (K : Nat) (a0 : l00Src) (a1 : Int) (o : (Int × Int × Int)) (h : spec_l00Src_pick K a0 a1 = some o) : MutOK Try.prog 19 [(.box 3 (fun j => [true, false, false].getD j true) (fun j => (cs_l00Src a0).getD j .nilptr) (fun j => [.nilptr, (.int .i64 o.2.1), (.int .u64 o.2.2)].getD j .nilptr)), (.one (.ro (.int .i64 a1)))] [.one (.int .i64 o.1)] := by
  refine mutOK_of_AW 1 Try.func19 rfl (by kernel_rfl) (Nat.le_of_ble_eq_true (by kernel_rfl)) (by kernel_rfl) (by kernel_rfl) ?_
  intro w0 K0 v0 s0
  unfold spec_l00Src_pick at h
  refine AW.weak (s' := ⟨[(0, (vp 0 0)), (1, (vI a1))], [(0, (.box [(.fx 0 0 (sl 1 (csI .u8) a0.code)), (cI a0.at_), (.c (.int .u64 a0.seed))]))]⟩) (subUnfx 0 [1, 2] (by kernel_rfl)) ?_
  refine AW.sC (Tt ∧ Tt) [] [0, 1] [0] ⟨tr, tr⟩ ?_
  refine AW.seq ?_
  refine AW.sA ⟨[(0, (vp 0 0)), (1, (vI a1)), (7, (vB (decide (a1 ≤ (1 : Int)))))], [(0, (.box [(.fx 0 0 (sl 1 (csI .u8) a0.code)), (cI a0.at_), (.c (.int .u64 a0.seed))]))]⟩ (T2 Tt) [] [0, 1, 7] [0] ⟨tr, tr, tr⟩ ?_
  rcases ite2_cases h with ⟨b1, h⟩ | ⟨b1, h⟩
  · refine AW.cond_t rfl b1 ?_
    refine AW.sA ⟨[(0, (vp 0 0)), (1, (vI a1)), (4, (vI (0 : Int)))], [(0, (.box [(.fx 0 0 (sl 1 (csI .u8) a0.code)), (cI a0.at_), (.c (.int .u64 a0.seed))]))]⟩ (Tt ∧ Tt) [] [0, 1, 4] [0] ⟨tr, tr⟩ ?_
    refine AW.ret ?_
    refine thenQ_ret ?_
    replace h := some_eq h
    subst h
    exact ⟨.inr rfl, retOK_of [(.one (cI (0 : Int)))] (by kernel_rfl) ⟨⟨rfl, tr⟩, tr⟩ (of_decide_eq_true (by kernel_rfl)), by kernel_rfl, ⟨⟨rfl, ⟨⟨rfl, rfl⟩, ⟨rfl, rfl⟩, ⟨rfl, rfl⟩, tr⟩⟩, tr, tr⟩⟩
  · refine AW.cond_f rfl b1 ?_
    refine AW.skip ?_
    refine thenQ_normal ?_
    refine AW.seq ?_
    obtain ⟨v2, e3, h⟩ := bind_some h
    refine AW.tC (Tt ∧ ((((Eqc (sl 1 (csI .u8) a0.code)) ∧ (eI a0.at_) ∧ (Eqc (.int .u64 a0.seed)) ∧ Tt) ∧ Tt) ∧ MutOK Try.prog 36 [(.box 3 (fun j => [true, false, false].getD j true) (fun j => (cs_l00Src a0).getD j .nilptr) (fun j => [.nilptr, (.int .i64 v2.2.1), (.int .u64 v2.2.2)].getD j .nilptr))] [.one (.int .i64 v2.1)]) ∧ Tt ∧ Tt) [.no, .callM [(.box 3 (fun j => [true, false, false].getD j true) (fun j => (cs_l00Src a0).getD j .nilptr) (fun j => [.nilptr, (.int .i64 v2.2.1), (.int .u64 v2.2.2)].getD j .nilptr))] [.one (.int .i64 v2.1)] [[.view]] none] [0, 1, 5] [0] ⟨tr, ⟨⟨⟨rfl, rfl, rfl, tr⟩, tr⟩, ok_spec_l00Src_next K a0 v2 e3⟩, tr, tr⟩ ?_
    refine AW.seq ?_
    refine AW.sA ⟨[(0, (vp 0 0)), (1, (vI a1)), (5, (vI v2.1)), (11, (vB (decide (a1 > (200 : Int)))))], [(0, (.box [(.fx 0 0 (sl 1 (csI .u8) a0.code)), (cI v2.2.1), (.c (.int .u64 v2.2.2))]))]⟩ (T2 Tt) [] [0, 1, 5, 11] [0] ⟨tr, tr, tr⟩ ?_
    rcases ite2_cases h with ⟨b4, h⟩ | ⟨b4, h⟩
    · refine AW.cond_t rfl b4 ?_
      obtain ⟨v5, e6, h⟩ := bind_some h
      refine AW.tC (Tt ∧ T2 (((((Eqc (sl 1 (csI .u8) a0.code)) ∧ (eI v2.2.1) ∧ (Eqc (.int .u64 v2.2.2)) ∧ Tt) ∧ Tt) ∧ MutOK Try.prog 36 [(.box 3 (fun j => [true, false, false].getD j true) (fun j => (cs_l00Src (l00Src.mk a0.code v2.2.1 v2.2.2)).getD j .nilptr) (fun j => [.nilptr, (.int .i64 v5.2.1), (.int .u64 v5.2.2)].getD j .nilptr))] [.one (.int .i64 v5.1)]) ∧ T2 Tt)) [.no, .no, .no, .callM [(.box 3 (fun j => [true, false, false].getD j true) (fun j => (cs_l00Src (l00Src.mk a0.code v2.2.1 v2.2.2)).getD j .nilptr) (fun j => [.nilptr, (.int .i64 v5.2.1), (.int .u64 v5.2.2)].getD j .nilptr))] [.one (.int .i64 v5.1)] [[.view]] none] [0, 1, 5] [0] ⟨tr, tr, tr, ⟨⟨⟨rfl, rfl, rfl, tr⟩, tr⟩, ok_spec_l00Src_next K (l00Src.mk a0.code v2.2.1 v2.2.2) v5 e6⟩, tr, tr, tr⟩ ?_
      refine AW.seq ?_
      obtain ⟨c7, h⟩ := chk_some h
      refine AW.tA ⟨[(0, (vp 0 0)), (1, (vI a1)), (4, (vI ((IntKind.i64.wrap ((IntKind.i64.wrap (v2.1 * (256 : Int))) + v5.1)).tmod a1)))], [(0, (.box [(.fx 0 0 (sl 1 (csI .u8) a0.code)), (cI v5.2.1), (.c (.int .u64 v5.2.2))]))]⟩ (T2 ((a1 ≠ 0) ∧ Tt ∧ Tt)) [] [0, 1, 4] [0] ⟨tr, tr, c7, tr, tr⟩ ?_
      refine AW.ret ?_
      replace h := some_eq h
      subst h
      exact ⟨.inr rfl, retOK_of [(.one (cI ((IntKind.i64.wrap ((IntKind.i64.wrap (v2.1 * (256 : Int))) + v5.1)).tmod a1)))] (by kernel_rfl) ⟨⟨rfl, tr⟩, tr⟩ (of_decide_eq_true (by kernel_rfl)), by kernel_rfl, ⟨⟨rfl, ⟨⟨rfl, rfl⟩, ⟨rfl, rfl⟩, ⟨rfl, rfl⟩, tr⟩⟩, tr, tr⟩⟩
    · refine AW.cond_f rfl b4 ?_
      refine AW.skip ?_
      refine thenQ_normal ?_
      refine AW.seq ?_
      obtain ⟨c8, h⟩ := chk_some h
      refine AW.tA ⟨[(0, (vp 0 0)), (1, (vI a1)), (4, (vI (v2.1.tmod a1)))], [(0, (.box [(.fx 0 0 (sl 1 (csI .u8) a0.code)), (cI v2.2.1), (.c (.int .u64 v2.2.2))]))]⟩ (T2 ((a1 ≠ 0) ∧ Tt ∧ Tt)) [] [0, 1, 4] [0] ⟨tr, tr, c8, tr, tr⟩ ?_
      refine AW.ret ?_
      replace h := some_eq h
      subst h
      exact ⟨.inr rfl, retOK_of [(.one (cI (v2.1.tmod a1)))] (by kernel_rfl) ⟨⟨rfl, tr⟩, tr⟩ (of_decide_eq_true (by kernel_rfl)), by kernel_rfl, ⟨⟨rfl, ⟨⟨rfl, rfl⟩, ⟨rfl, rfl⟩, ⟨rfl, rfl⟩, tr⟩⟩, tr, tr⟩⟩

/-! (*spec.l00Src).one -/
def spec_l00Src_one (K : Nat) (a0 : l00Src) (a1 : Int) : Option (Bool × Int × Int) :=
  (spec_l00Src_pick K a0 a1).bind fun v1 => some ((v1.1 == (0 : Int)), v1.2.1, v1.2.2)

theorem ok_spec_l00Src_one (K : Nat) (a0 : l00Src) (a1 : Int) (o : (Bool × Int × Int)) (h : spec_l00Src_one K a0 a1 = some o) : MutOK Try.prog 34 [(.box 3 (fun j => [true, false, false].getD j true) (fun j => (cs_l00Src a0).getD j .nilptr) (fun j => [.nilptr, (.int .i64 o.2.1), (.int .u64 o.2.2)].getD j .nilptr)), (.one (.ro (.int .i64 a1)))] [.one (.bool o.1)] := by
  refine mutOK_of_AW 1 Try.func34 rfl (by kernel_rfl) (Nat.le_of_ble_eq_true (by kernel_rfl)) (by kernel_rfl) (by kernel_rfl) ?_
  intro w0 K0 v0 s0
  unfold spec_l00Src_one at h
  refine AW.weak (s' := ⟨[(0, (vp 0 0)), (1, (vI a1))], [(0, (.box [(.fx 0 0 (sl 1 (csI .u8) a0.code)), (cI a0.at_), (.c (.int .u64 a0.seed))]))]⟩) (subUnfx 0 [1, 2] (by kernel_rfl)) ?_
  refine AW.sC (Tt ∧ Tt) [] [0, 1] [0] ⟨tr, tr⟩ ?_
  refine AW.seq ?_
  obtain ⟨v1, e2, h⟩ := bind_some h
  refine AW.tA ⟨[(0, (vp 0 0)), (1, (vI a1)), (4, (vB (v1.1 == (0 : Int))))], [(0, (.box [(.fx 0 0 (sl 1 (csI .u8) a0.code)), (cI v1.2.1), (.c (.int .u64 v1.2.2))]))]⟩ (T2 (((((Eqc (sl 1 (csI .u8) a0.code)) ∧ (eI a0.at_) ∧ (Eqc (.int .u64 a0.seed)) ∧ Tt) ∧ (eI a1) ∧ Tt) ∧ MutOK Try.prog 19 [(.box 3 (fun j => [true, false, false].getD j true) (fun j => (cs_l00Src a0).getD j .nilptr) (fun j => [.nilptr, (.int .i64 v1.2.1), (.int .u64 v1.2.2)].getD j .nilptr)), .one (.ro (.int .i64 a1))] [.one (.int .i64 v1.1)]) ∧ T2 Tt)) [.no, .no, .callM [(.box 3 (fun j => [true, false, false].getD j true) (fun j => (cs_l00Src a0).getD j .nilptr) (fun j => [.nilptr, (.int .i64 v1.2.1), (.int .u64 v1.2.2)].getD j .nilptr)), .one (.ro (.int .i64 a1))] [.one (.int .i64 v1.1)] [[.view]] none] [0, 1, 4] [0] ⟨tr, tr, ⟨⟨⟨rfl, rfl, rfl, tr⟩, rfl, tr⟩, ok_spec_l00Src_pick K a0 a1 v1 e2⟩, tr, tr, tr⟩ ?_
  refine AW.ret ?_
  replace h := some_eq h
  subst h
  exact ⟨.inr rfl, retOK_of [(.one (.c (.bool (v1.1 == (0 : Int)))))] (by kernel_rfl) ⟨⟨rfl, tr⟩, tr⟩ (of_decide_eq_true (by kernel_rfl)), by kernel_rfl, ⟨⟨rfl, ⟨⟨rfl, rfl⟩, ⟨rfl, rfl⟩, ⟨rfl, rfl⟩, tr⟩⟩, tr, tr⟩⟩

/-! spec.l01DrawSmall -/
def spec_l01DrawSmall (K : Nat) (a0 : l00Src) : Option (F32 × Int × Int) :=
  (spec_l00Src_pick K a0 (33 : Int)).bind fun v1 => some (((Fl.ofInt .f32 (IntKind.i64.wrap (v1.1 - (16 : Int)))).div (Fl.mk (k := .f32) 1082130432 (by decide))), v1.2.1, v1.2.2)

theorem ok_spec_l01DrawSmall (K : Nat) (a0 : l00Src) (o : (F32 × Int × Int)) (h : spec_l01DrawSmall K a0 = some o) : MutOK Try.prog 47 [(.box 3 (fun j => [true, false, false].getD j true) (fun j => (cs_l00Src a0).getD j .nilptr) (fun j => [.nilptr, (.int .i64 o.2.1), (.int .u64 o.2.2)].getD j .nilptr))] [.one (.flt .f32 o.1.bits)] := by
  refine mutOK_of_AW 1 Try.func47 rfl (by kernel_rfl) (Nat.le_of_ble_eq_true (by kernel_rfl)) (by kernel_rfl) (by kernel_rfl) ?_
  intro w0 K0 v0 s0
  unfold spec_l01DrawSmall at h
  refine AW.weak (s' := ⟨[(0, (vp 0 0))], [(0, (.box [(.fx 0 0 (sl 1 (csI .u8) a0.code)), (cI a0.at_), (.c (.int .u64 a0.seed))]))]⟩) (subUnfx 0 [1, 2] (by kernel_rfl)) ?_
  refine AW.sC (Tt ∧ Tt) [] [0] [0] ⟨tr, tr⟩ ?_
  refine AW.seq ?_
  obtain ⟨v1, e2, h⟩ := bind_some h
  refine AW.tA ⟨[(0, (vp 0 0)), (2, (vc (.flt .f32 ((Fl.ofInt .f32 (IntKind.i64.wrap (v1.1 - (16 : Int)))).div (Fl.mk (k := .f32) 1082130432 (by decide))).bits)))], [(0, (.box [(.fx 0 0 (sl 1 (csI .u8) a0.code)), (cI v1.2.1), (.c (.int .u64 v1.2.2))]))]⟩ (Tt ∧ ((((Eqc (sl 1 (csI .u8) a0.code)) ∧ (eI a0.at_) ∧ (Eqc (.int .u64 a0.seed)) ∧ Tt) ∧ (eI (33 : Int)) ∧ Tt) ∧ MutOK Try.prog 19 [(.box 3 (fun j => [true, false, false].getD j true) (fun j => (cs_l00Src a0).getD j .nilptr) (fun j => [.nilptr, (.int .i64 v1.2.1), (.int .u64 v1.2.2)].getD j .nilptr)), .one (.ro (.int .i64 (33 : Int)))] [.one (.int .i64 v1.1)]) ∧ T4 Tt) [.no, .callM [(.box 3 (fun j => [true, false, false].getD j true) (fun j => (cs_l00Src a0).getD j .nilptr) (fun j => [.nilptr, (.int .i64 v1.2.1), (.int .u64 v1.2.2)].getD j .nilptr)), .one (.ro (.int .i64 (33 : Int)))] [.one (.int .i64 v1.1)] [[.view]] none] [0, 2] [0] ⟨tr, ⟨⟨⟨rfl, rfl, rfl, tr⟩, rfl, tr⟩, ok_spec_l00Src_pick K a0 (33 : Int) v1 e2⟩, tr, tr, tr, tr, tr⟩ ?_
  refine AW.ret ?_
  replace h := some_eq h
  subst h
  exact ⟨.inr rfl, retOK_of [(.one (cF ((Fl.ofInt .f32 (IntKind.i64.wrap (v1.1 - (16 : Int)))).div (Fl.mk (k := .f32) 1082130432 (by decide)))))] (by kernel_rfl) ⟨⟨rfl, tr⟩, tr⟩ (of_decide_eq_true (by kernel_rfl)), by kernel_rfl, ⟨⟨rfl, ⟨⟨rfl, rfl⟩, ⟨rfl, rfl⟩, ⟨rfl, rfl⟩, tr⟩⟩, tr⟩⟩

/-! spec.l01DrawPlain -/
def spec_l01DrawPlain (K : Nat) (a0 : l00Src) : Option (F32 × Int × Int) :=
  (spec_l00Src_pick K a0 (129 : Int)).bind fun v1 => (spec_l00Src_one K (l00Src.mk a0.code v1.2.1 v1.2.2) (4 : Int)).bind fun v3 => ite2 (v3.1) (some (((Fl.ofInt .f32 (IntKind.i64.wrap (v1.1 - (64 : Int)))).div (Fl.mk (k := .f32) 1088421888 (by decide))), v3.2.1, v3.2.2)) (some (((Fl.ofInt .f32 (IntKind.i64.wrap (v1.1 - (64 : Int)))).div (Fl.mk (k := .f32) 1098907648 (by decide))), v3.2.1, v3.2.2))

theorem ok_spec_l01DrawPlain (K : Nat) (a0 : l00Src) (o : (F32 × Int × Int)) (h : spec_l01DrawPlain K a0 = some o) : MutOK Try.prog 63 [(.box 3 (fun j => [true, false, false].getD j true) (fun j => (cs_l00Src a0).getD j .nilptr) (fun j => [.nilptr, (.int .i64 o.2.1), (.int .u64 o.2.2)].getD j .nilptr))] [.one (.flt .f32 o.1.bits)] := by
  refine mutOK_of_AW 1 Try.func63 rfl (by kernel_rfl) (Nat.le_of_ble_eq_true (by kernel_rfl)) (by kernel_rfl) (by kernel_rfl) ?_
  intro w0 K0 v0 s0
  unfold spec_l01DrawPlain at h
  refine AW.weak (s' := ⟨[(0, (vp 0 0))], [(0, (.box [(.fx 0 0 (sl 1 (csI .u8) a0.code)), (cI a0.at_), (.c (.int .u64 a0.seed))]))]⟩) (subUnfx 0 [1, 2] (by kernel_rfl)) ?_
  refine AW.sC (Tt ∧ Tt) [] [0] [0] ⟨tr, tr⟩ ?_
  refine AW.seq ?_
  obtain ⟨v1, e2, h⟩ := bind_some h
  refine AW.tC (Tt ∧ ((((Eqc (sl 1 (csI .u8) a0.code)) ∧ (eI a0.at_) ∧ (Eqc (.int .u64 a0.seed)) ∧ Tt) ∧ (eI (129 : Int)) ∧ Tt) ∧ MutOK Try.prog 19 [(.box 3 (fun j => [true, false, false].getD j true) (fun j => (cs_l00Src a0).getD j .nilptr) (fun j => [.nilptr, (.int .i64 v1.2.1), (.int .u64 v1.2.2)].getD j .nilptr)), .one (.ro (.int .i64 (129 : Int)))] [.one (.int .i64 v1.1)]) ∧ T2 Tt) [.no, .callM [(.box 3 (fun j => [true, false, false].getD j true) (fun j => (cs_l00Src a0).getD j .nilptr) (fun j => [.nilptr, (.int .i64 v1.2.1), (.int .u64 v1.2.2)].getD j .nilptr)), .one (.ro (.int .i64 (129 : Int)))] [.one (.int .i64 v1.1)] [[.view]] none] [0, 3] [0] ⟨tr, ⟨⟨⟨rfl, rfl, rfl, tr⟩, rfl, tr⟩, ok_spec_l00Src_pick K a0 (129 : Int) v1 e2⟩, tr, tr, tr⟩ ?_
  refine AW.seq ?_
  refine AW.seq ?_
  obtain ⟨v3, e4, h⟩ := bind_some h
  refine AW.tA ⟨[(0, (vp 0 0)), (3, (vI (IntKind.i64.wrap (v1.1 - (64 : Int))))), (8, (vB v3.1))], [(0, (.box [(.fx 0 0 (sl 1 (csI .u8) a0.code)), (cI v3.2.1), (.c (.int .u64 v3.2.2))]))]⟩ (Tt ∧ ((((Eqc (sl 1 (csI .u8) a0.code)) ∧ (eI v1.2.1) ∧ (Eqc (.int .u64 v1.2.2)) ∧ Tt) ∧ (eI (4 : Int)) ∧ Tt) ∧ MutOK Try.prog 34 [(.box 3 (fun j => [true, false, false].getD j true) (fun j => (cs_l00Src (l00Src.mk a0.code v1.2.1 v1.2.2)).getD j .nilptr) (fun j => [.nilptr, (.int .i64 v3.2.1), (.int .u64 v3.2.2)].getD j .nilptr)), .one (.ro (.int .i64 (4 : Int)))] [.one (.bool v3.1)]) ∧ Tt) [.no, .callM [(.box 3 (fun j => [true, false, false].getD j true) (fun j => (cs_l00Src (l00Src.mk a0.code v1.2.1 v1.2.2)).getD j .nilptr) (fun j => [.nilptr, (.int .i64 v3.2.1), (.int .u64 v3.2.2)].getD j .nilptr)), .one (.ro (.int .i64 (4 : Int)))] [.one (.bool v3.1)] [[.view]] none] [0, 3, 8] [0] ⟨tr, ⟨⟨⟨rfl, rfl, rfl, tr⟩, rfl, tr⟩, ok_spec_l00Src_one K (l00Src.mk a0.code v1.2.1 v1.2.2) (4 : Int) v3 e4⟩, tr⟩ ?_
  rcases ite2_cases h with ⟨b5, h⟩ | ⟨b5, h⟩
  · refine AW.cond_t rfl b5 ?_
    refine AW.sA ⟨[(0, (vp 0 0)), (2, (vc (.flt .f32 ((Fl.ofInt .f32 (IntKind.i64.wrap (v1.1 - (64 : Int)))).div (Fl.mk (k := .f32) 1088421888 (by decide))).bits)))], [(0, (.box [(.fx 0 0 (sl 1 (csI .u8) a0.code)), (cI v3.2.1), (.c (.int .u64 v3.2.2))]))]⟩ (T4 Tt) [] [0, 2] [0] ⟨tr, tr, tr, tr, tr⟩ ?_
    refine AW.ret ?_
    refine thenQ_ret ?_
    replace h := some_eq h
    subst h
    exact ⟨.inr rfl, retOK_of [(.one (cF ((Fl.ofInt .f32 (IntKind.i64.wrap (v1.1 - (64 : Int)))).div (Fl.mk (k := .f32) 1088421888 (by decide)))))] (by kernel_rfl) ⟨⟨rfl, tr⟩, tr⟩ (of_decide_eq_true (by kernel_rfl)), by kernel_rfl, ⟨⟨rfl, ⟨⟨rfl, rfl⟩, ⟨rfl, rfl⟩, ⟨rfl, rfl⟩, tr⟩⟩, tr⟩⟩
  · refine AW.cond_f rfl b5 ?_
    refine AW.skip ?_
    refine thenQ_normal ?_
    refine AW.sA ⟨[(0, (vp 0 0)), (2, (vc (.flt .f32 ((Fl.ofInt .f32 (IntKind.i64.wrap (v1.1 - (64 : Int)))).div (Fl.mk (k := .f32) 1098907648 (by decide))).bits)))], [(0, (.box [(.fx 0 0 (sl 1 (csI .u8) a0.code)), (cI v3.2.1), (.c (.int .u64 v3.2.2))]))]⟩ (T4 Tt) [] [0, 2] [0] ⟨tr, tr, tr, tr, tr⟩ ?_
    refine AW.ret ?_
    replace h := some_eq h
    subst h
    exact ⟨.inr rfl, retOK_of [(.one (cF ((Fl.ofInt .f32 (IntKind.i64.wrap (v1.1 - (64 : Int)))).div (Fl.mk (k := .f32) 1098907648 (by decide)))))] (by kernel_rfl) ⟨⟨rfl, tr⟩, tr⟩ (of_decide_eq_true (by kernel_rfl)), by kernel_rfl, ⟨⟨rfl, ⟨⟨rfl, rfl⟩, ⟨rfl, rfl⟩, ⟨rfl, rfl⟩, tr⟩⟩, tr⟩⟩

/-! (*spec.l00Src).among -/
def spec_l00Src_among (K : Nat) (a0 : l00Src) (a1 : (List Int)) : Option (Int × Int × Int) :=
  (spec_l00Src_pick K a0 (a1.length : Int)).bind fun v1 => chk (0 ≤ v1.1 ∧ v1.1 < (a1.length : Int)) (some ((a1.getD v1.1.toNat default), v1.2.1, v1.2.2))

theorem ok_spec_l00Src_among (K : Nat) (a0 : l00Src) (a1 : (List Int)) (o : (Int × Int × Int)) (h : spec_l00Src_among K a0 a1 = some o) : MutOK Try.prog 65 [(.box 3 (fun j => [true, false, false].getD j true) (fun j => (cs_l00Src a0).getD j .nilptr) (fun j => [.nilptr, (.int .i64 o.2.1), (.int .u64 o.2.2)].getD j .nilptr)), (.one (.ro (sl 1 (csI .i64) a1)))] [.one (.int .i64 o.1)] := by
  refine mutOK_of_AW 1 Try.func65 rfl (by kernel_rfl) (Nat.le_of_ble_eq_true (by kernel_rfl)) (by kernel_rfl) (by kernel_rfl) ?_
  intro w0 K0 v0 s0
  unfold spec_l00Src_among at h
  refine AW.weak (s' := ⟨[(0, (vp 0 0)), (1, (vc (sl 1 (csI .i64) a1)))], [(0, (.box [(.fx 0 0 (sl 1 (csI .u8) a0.code)), (cI a0.at_), (.c (.int .u64 a0.seed))]))]⟩) (subUnfx 0 [1, 2] (by kernel_rfl)) ?_
  refine AW.sC (Tt ∧ Tt) [] [0, 1] [0] ⟨tr, tr⟩ ?_
  refine AW.seq ?_
  obtain ⟨v1, e2, h⟩ := bind_some h
  obtain ⟨c3, h⟩ := chk_some h
  refine AW.tA ⟨[(0, (vp 0 0)), (1, (vc (sl 1 (csI .i64) a1))), (4, (vI (a1.getD v1.1.toNat default)))], [(0, (.box [(.fx 0 0 (sl 1 (csI .u8) a0.code)), (cI v1.2.1), (.c (.int .u64 v1.2.2))]))]⟩ (T4 (((((Eqc (sl 1 (csI .u8) a0.code)) ∧ (eI a0.at_) ∧ (Eqc (.int .u64 a0.seed)) ∧ Tt) ∧ (eI (a1.length : Int)) ∧ Tt) ∧ MutOK Try.prog 19 [(.box 3 (fun j => [true, false, false].getD j true) (fun j => (cs_l00Src a0).getD j .nilptr) (fun j => [.nilptr, (.int .i64 v1.2.1), (.int .u64 v1.2.2)].getD j .nilptr)), .one (.ro (.int .i64 (a1.length : Int)))] [.one (.int .i64 v1.1)]) ∧ (0 ≤ v1.1 ∧ v1.1 < (a1.length : Int)) ∧ T2 Tt)) [.no, .no, .no, .no, .callM [(.box 3 (fun j => [true, false, false].getD j true) (fun j => (cs_l00Src a0).getD j .nilptr) (fun j => [.nilptr, (.int .i64 v1.2.1), (.int .u64 v1.2.2)].getD j .nilptr)), .one (.ro (.int .i64 (a1.length : Int)))] [.one (.int .i64 v1.1)] [[.view]] none] [0, 1, 4] [0] ⟨tr, tr, tr, tr, ⟨⟨⟨rfl, rfl, rfl, tr⟩, rfl, tr⟩, ok_spec_l00Src_pick K a0 (a1.length : Int) v1 e2⟩, c3, tr, tr, tr⟩ ?_
  refine AW.ret ?_
  replace h := some_eq h
  subst h
  exact ⟨.inr rfl, retOK_of [(.one (cI (a1.getD v1.1.toNat default)))] (by kernel_rfl) ⟨⟨rfl, tr⟩, tr⟩ (of_decide_eq_true (by kernel_rfl)), by kernel_rfl, ⟨⟨rfl, ⟨⟨rfl, rfl⟩, ⟨rfl, rfl⟩, ⟨rfl, rfl⟩, tr⟩⟩, tr, tr⟩⟩

/-! math.Float32frombits -/
def math_Float32frombits (_K : Nat) (a0 : Int) : Option (F32) :=
  Fl.ofBits .f32 a0

theorem ok_math_Float32frombits (K : Nat) (a0 : Int) (o : F32) (h : math_Float32frombits K a0 = some o) : CallOK Try.prog 74 [.one (.int .u32 a0)] [.one (.flt .f32 o.bits)] :=
  hand_ofBits (e := Extern.MathFloatBits.float32frombits) Try.func74 (by kernel_rfl) (by kernel_rfl) (by kernel_rfl) (by kernel_rfl) (fun _ _ => rfl) a0 o h

/-! spec.l01From -/
def spec_l01From (K : Nat) (a0 : Int) : Option (F32) :=
  (math_Float32frombits K (IntKind.u32.wrap a0)).bind fun v1 => some v1

theorem ok_spec_l01From (K : Nat) (a0 : Int) (o : (F32)) (h : spec_l01From K a0 = some o) : CallOK Try.prog 64 [.one (.int .i64 a0)] [.one (.flt .f32 o.bits)] := by
  refine callOK_of_AW Try.func64 rfl (by kernel_rfl) (Nat.le_of_ble_eq_true (by kernel_rfl)) ?_
  intro w0
  unfold spec_l01From at h
  refine AW.sC (Tt ∧ Tt) [] [0] [] ⟨tr, tr⟩ ?_
  refine AW.seq ?_
  obtain ⟨v1, e2, h⟩ := bind_some h
  refine AW.tA ⟨[(2, (vc (.flt .f32 v1.bits)))], []⟩ (T2 ((((Eqc (.int .u32 (IntKind.u32.wrap a0))) ∧ Tt) ∧ CallOK Try.prog 74 [.one (.int .u32 (IntKind.u32.wrap a0))] [.one (.flt .f32 v1.bits)]) ∧ Tt ∧ Tt)) [.no, .no, .call [.one (.int .u32 (IntKind.u32.wrap a0))] [.one (.flt .f32 v1.bits)] [[.view]]] [2] [] ⟨tr, tr, ⟨⟨rfl, tr⟩, ok_math_Float32frombits K (IntKind.u32.wrap a0) v1 e2⟩, tr, tr⟩ ?_
  refine AW.ret ?_
  replace h := some_eq h
  subst h
  exact ⟨.inr rfl, retOK_of [(.one (cF v1))] (by kernel_rfl) ⟨⟨rfl, tr⟩, tr⟩ (of_decide_eq_true (by kernel_rfl))⟩

/-! spec.l01DrawFloat -/
def spec_l01DrawFloat (K : Nat) (a0 : l00Src) : Option (F32 × Int × Int) :=
  (spec_l00Src_one K a0 (12 : Int)).bind fun v1 => ite2 ((!v1.1)) ((spec_l01DrawPlain K (l00Src.mk a0.code v1.2.1 v1.2.2)).bind fun v4 => some (v4.1, v4.2.1, v4.2.2)) ((spec_l00Src_pick K (l00Src.mk a0.code v1.2.1 v1.2.2) (4 : Int)).bind fun v6 => ite2 ((v6.1 == (0 : Int))) ((spec_l00Src_among K (l00Src.mk a0.code v6.2.1 v6.2.2) ([(0 : Int), (2147483648 : Int), (2139095040 : Int), (4286578688 : Int), (2143289344 : Int), (1 : Int), (2139095039 : Int), (8388608 : Int), (8388607 : Int), (2147483649 : Int)])).bind fun v9 => (spec_l01From K v9.1).bind fun v11 => some (v11, v9.2.1, v9.2.2)) (ite2 ((v6.1 == (1 : Int))) ((spec_l00Src_pick K (l00Src.mk a0.code v6.2.1 v6.2.2) (65536 : Int)).bind fun v14 => (spec_l00Src_pick K (l00Src.mk a0.code v14.2.1 v14.2.2) (65536 : Int)).bind fun v16 => (spec_l01From K (IntKind.i64.wrap ((IntKind.i64.wrap (v14.1 * (65536 : Int))) + v16.1))).bind fun v18 => some (v18, v16.2.1, v16.2.2)) (ite2 ((v6.1 == (2 : Int))) ((spec_l00Src_pick K (l00Src.mk a0.code v6.2.1 v6.2.2) (65536 : Int)).bind fun v21 => (spec_l01From K (IntKind.i64.wrap (v21.1 * (65536 : Int)))).bind fun v23 => some (v23, v21.2.1, v21.2.2)) ((spec_l01DrawPlain K (l00Src.mk a0.code v6.2.1 v6.2.2)).bind fun v25 => (spec_l00Src_among K (l00Src.mk a0.code v25.2.1 v25.2.2) ([(8388608 : Int), (2130706432 : Int), (1610612736 : Int), (536870912 : Int)])).bind fun v27 => (spec_l01From K v27.1).bind fun v29 => some ((v25.1.mul v29), v27.2.1, v27.2.2)))))

theorem ok_spec_l01DrawFloat (K : Nat) (a0 : l00Src) (o : (F32 × Int × Int)) (h : spec_l01DrawFloat K a0 = some o) : MutOK Try.prog 48 [(.box 3 (fun j => [true, false, false].getD j true) (fun j => (cs_l00Src a0).getD j .nilptr) (fun j => [.nilptr, (.int .i64 o.2.1), (.int .u64 o.2.2)].getD j .nilptr))] [.one (.flt .f32 o.1.bits)] := by
  refine mutOK_of_AW 1 Try.func48 rfl (by kernel_rfl) (Nat.le_of_ble_eq_true (by kernel_rfl)) (by kernel_rfl) (by kernel_rfl) ?_
  intro w0 K0 v0 s0
  unfold spec_l01DrawFloat at h
  refine AW.weak (s' := ⟨[(0, (vp 0 0))], [(0, (.box [(.fx 0 0 (sl 1 (csI .u8) a0.code)), (cI a0.at_), (.c (.int .u64 a0.seed))]))]⟩) (subUnfx 0 [1, 2] (by kernel_rfl)) ?_
  refine AW.sC (Tt ∧ Tt) [] [0] [0] ⟨tr, tr⟩ ?_
  refine AW.seq ?_
  refine AW.seq ?_
  obtain ⟨v1, e2, h⟩ := bind_some h
  refine AW.tA ⟨[(0, (vp 0 0)), (6, (vB (!v1.1)))], [(0, (.box [(.fx 0 0 (sl 1 (csI .u8) a0.code)), (cI v1.2.1), (.c (.int .u64 v1.2.2))]))]⟩ (Tt ∧ ((((Eqc (sl 1 (csI .u8) a0.code)) ∧ (eI a0.at_) ∧ (Eqc (.int .u64 a0.seed)) ∧ Tt) ∧ (eI (12 : Int)) ∧ Tt) ∧ MutOK Try.prog 34 [(.box 3 (fun j => [true, false, false].getD j true) (fun j => (cs_l00Src a0).getD j .nilptr) (fun j => [.nilptr, (.int .i64 v1.2.1), (.int .u64 v1.2.2)].getD j .nilptr)), .one (.ro (.int .i64 (12 : Int)))] [.one (.bool v1.1)]) ∧ Tt ∧ Tt) [.no, .callM [(.box 3 (fun j => [true, false, false].getD j true) (fun j => (cs_l00Src a0).getD j .nilptr) (fun j => [.nilptr, (.int .i64 v1.2.1), (.int .u64 v1.2.2)].getD j .nilptr)), .one (.ro (.int .i64 (12 : Int)))] [.one (.bool v1.1)] [[.view]] none] [0, 6] [0] ⟨tr, ⟨⟨⟨rfl, rfl, rfl, tr⟩, rfl, tr⟩, ok_spec_l00Src_one K a0 (12 : Int) v1 e2⟩, tr, tr⟩ ?_
  rcases ite2_cases h with ⟨b3, h⟩ | ⟨b3, h⟩
  · refine AW.cond_t rfl b3 ?_
    refine AW.seq ?_
    obtain ⟨v4, e5, h⟩ := bind_some h
    refine AW.tA ⟨[(0, (vp 0 0)), (2, (vc (.flt .f32 v4.1.bits)))], [(0, (.box [(.fx 0 0 (sl 1 (csI .u8) a0.code)), (cI v4.2.1), (.c (.int .u64 v4.2.2))]))]⟩ (Tt ∧ ((((Eqc (sl 1 (csI .u8) a0.code)) ∧ (eI v1.2.1) ∧ (Eqc (.int .u64 v1.2.2)) ∧ Tt) ∧ Tt) ∧ MutOK Try.prog 63 [(.box 3 (fun j => [true, false, false].getD j true) (fun j => (cs_l00Src (l00Src.mk a0.code v1.2.1 v1.2.2)).getD j .nilptr) (fun j => [.nilptr, (.int .i64 v4.2.1), (.int .u64 v4.2.2)].getD j .nilptr))] [.one (.flt .f32 v4.1.bits)]) ∧ Tt ∧ Tt) [.no, .callM [(.box 3 (fun j => [true, false, false].getD j true) (fun j => (cs_l00Src (l00Src.mk a0.code v1.2.1 v1.2.2)).getD j .nilptr) (fun j => [.nilptr, (.int .i64 v4.2.1), (.int .u64 v4.2.2)].getD j .nilptr))] [.one (.flt .f32 v4.1.bits)] [[.view]] none] [0, 2] [0] ⟨tr, ⟨⟨⟨rfl, rfl, rfl, tr⟩, tr⟩, ok_spec_l01DrawPlain K (l00Src.mk a0.code v1.2.1 v1.2.2) v4 e5⟩, tr, tr⟩ ?_
    refine AW.ret ?_
    refine thenQ_ret ?_
    replace h := some_eq h
    subst h
    exact ⟨.inr rfl, retOK_of [(.one (cF v4.1))] (by kernel_rfl) ⟨⟨rfl, tr⟩, tr⟩ (of_decide_eq_true (by kernel_rfl)), by kernel_rfl, ⟨⟨rfl, ⟨⟨rfl, rfl⟩, ⟨rfl, rfl⟩, ⟨rfl, rfl⟩, tr⟩⟩, tr⟩⟩
  · refine AW.cond_f rfl b3 ?_
    refine AW.skip ?_
    refine thenQ_normal ?_
    refine AW.seq ?_
    refine AW.seq ?_
    obtain ⟨v6, e7, h⟩ := bind_some h
    refine AW.tA ⟨[(0, (vp 0 0)), (10, (vI v6.1))], [(0, (.box [(.fx 0 0 (sl 1 (csI .u8) a0.code)), (cI v6.2.1), (.c (.int .u64 v6.2.2))]))]⟩ (Tt ∧ ((((Eqc (sl 1 (csI .u8) a0.code)) ∧ (eI v1.2.1) ∧ (Eqc (.int .u64 v1.2.2)) ∧ Tt) ∧ (eI (4 : Int)) ∧ Tt) ∧ MutOK Try.prog 19 [(.box 3 (fun j => [true, false, false].getD j true) (fun j => (cs_l00Src (l00Src.mk a0.code v1.2.1 v1.2.2)).getD j .nilptr) (fun j => [.nilptr, (.int .i64 v6.2.1), (.int .u64 v6.2.2)].getD j .nilptr)), .one (.ro (.int .i64 (4 : Int)))] [.one (.int .i64 v6.1)]) ∧ Tt) [.no, .callM [(.box 3 (fun j => [true, false, false].getD j true) (fun j => (cs_l00Src (l00Src.mk a0.code v1.2.1 v1.2.2)).getD j .nilptr) (fun j => [.nilptr, (.int .i64 v6.2.1), (.int .u64 v6.2.2)].getD j .nilptr)), .one (.ro (.int .i64 (4 : Int)))] [.one (.int .i64 v6.1)] [[.view]] none] [0, 10] [0] ⟨tr, ⟨⟨⟨rfl, rfl, rfl, tr⟩, rfl, tr⟩, ok_spec_l00Src_pick K (l00Src.mk a0.code v1.2.1 v1.2.2) (4 : Int) v6 e7⟩, tr⟩ ?_
    refine AW.block ?_
    refine AW.sA ⟨[(0, (vp 0 0)), (10, (vI v6.1)), (11, (vB (v6.1 == (0 : Int))))], [(0, (.box [(.fx 0 0 (sl 1 (csI .u8) a0.code)), (cI v6.2.1), (.c (.int .u64 v6.2.2))]))]⟩ (T2 Tt) [] [0, 10, 11] [0] ⟨tr, tr, tr⟩ ?_
    rcases ite2_cases h with ⟨b8, h⟩ | ⟨b8, h⟩
    · refine AW.cond_t rfl b8 ?_
      refine AW.seq ?_
      obtain ⟨v9, e10, h⟩ := bind_some h
      obtain ⟨v11, e12, h⟩ := bind_some h
      refine AW.tA ⟨[(0, (vp 0 0)), (2, (vc (.flt .f32 v11.bits)))], [(0, (.box [(.fx 0 0 (sl 1 (csI .u8) a0.code)), (cI v9.2.1), (.c (.int .u64 v9.2.2))]))]⟩ (Tt ∧ (([(0 : Int), (2147483648 : Int), (2139095040 : Int), (4286578688 : Int), (2143289344 : Int), (1 : Int), (2139095039 : Int), (8388608 : Int), (8388607 : Int), (2147483649 : Int)]).length = 10 ∧ (((.int .i64 (0 : Int)) : C) = (.int .i64 (0 : Int)) ∧ Tt) ∧ (((.int .i64 (2147483648 : Int)) : C) = (.int .i64 (2147483648 : Int)) ∧ Tt) ∧ (((.int .i64 (2139095040 : Int)) : C) = (.int .i64 (2139095040 : Int)) ∧ Tt) ∧ (((.int .i64 (4286578688 : Int)) : C) = (.int .i64 (4286578688 : Int)) ∧ Tt) ∧ (((.int .i64 (2143289344 : Int)) : C) = (.int .i64 (2143289344 : Int)) ∧ Tt) ∧ (((.int .i64 (1 : Int)) : C) = (.int .i64 (1 : Int)) ∧ Tt) ∧ (((.int .i64 (2139095039 : Int)) : C) = (.int .i64 (2139095039 : Int)) ∧ Tt) ∧ (((.int .i64 (8388608 : Int)) : C) = (.int .i64 (8388608 : Int)) ∧ Tt) ∧ (((.int .i64 (8388607 : Int)) : C) = (.int .i64 (8388607 : Int)) ∧ Tt) ∧ (((.int .i64 (2147483649 : Int)) : C) = (.int .i64 (2147483649 : Int)) ∧ Tt) ∧ Tt) ∧ ((((Eqc (sl 1 (csI .u8) a0.code)) ∧ (eI v6.2.1) ∧ (Eqc (.int .u64 v6.2.2)) ∧ Tt) ∧ (Eqc (sl 1 (csI .i64) ([(0 : Int), (2147483648 : Int), (2139095040 : Int), (4286578688 : Int), (2143289344 : Int), (1 : Int), (2139095039 : Int), (8388608 : Int), (8388607 : Int), (2147483649 : Int)]))) ∧ Tt) ∧ MutOK Try.prog 65 [(.box 3 (fun j => [true, false, false].getD j true) (fun j => (cs_l00Src (l00Src.mk a0.code v6.2.1 v6.2.2)).getD j .nilptr) (fun j => [.nilptr, (.int .i64 v9.2.1), (.int .u64 v9.2.2)].getD j .nilptr)), .one (.ro (sl 1 (csI .i64) ([(0 : Int), (2147483648 : Int), (2139095040 : Int), (4286578688 : Int), (2143289344 : Int), (1 : Int), (2139095039 : Int), (8388608 : Int), (8388607 : Int), (2147483649 : Int)])))] [.one (.int .i64 v9.1)]) ∧ (((eI v9.1) ∧ Tt) ∧ CallOK Try.prog 64 [.one (.int .i64 v9.1)] [.one (.flt .f32 v11.bits)]) ∧ Tt ∧ Tt) [.no, .obj 1 ([(0 : Int), (2147483648 : Int), (2139095040 : Int), (4286578688 : Int), (2143289344 : Int), (1 : Int), (2139095039 : Int), (8388608 : Int), (8388607 : Int), (2147483649 : Int)]).length (gl (csI .i64) ([(0 : Int), (2147483648 : Int), (2139095040 : Int), (4286578688 : Int), (2143289344 : Int), (1 : Int), (2139095039 : Int), (8388608 : Int), (8388607 : Int), (2147483649 : Int)])), .callM [(.box 3 (fun j => [true, false, false].getD j true) (fun j => (cs_l00Src (l00Src.mk a0.code v6.2.1 v6.2.2)).getD j .nilptr) (fun j => [.nilptr, (.int .i64 v9.2.1), (.int .u64 v9.2.2)].getD j .nilptr)), .one (.ro (sl 1 (csI .i64) ([(0 : Int), (2147483648 : Int), (2139095040 : Int), (4286578688 : Int), (2143289344 : Int), (1 : Int), (2139095039 : Int), (8388608 : Int), (8388607 : Int), (2147483649 : Int)])))] [.one (.int .i64 v9.1)] [[.view]] none, .call [.one (.int .i64 v9.1)] [.one (.flt .f32 v11.bits)] [[.view]]] [0, 2] [0] ⟨tr, ⟨rfl, ⟨⟨rfl, tr⟩, ⟨rfl, tr⟩, ⟨rfl, tr⟩, ⟨rfl, tr⟩, ⟨rfl, tr⟩, ⟨rfl, tr⟩, ⟨rfl, tr⟩, ⟨rfl, tr⟩, ⟨rfl, tr⟩, ⟨rfl, tr⟩, tr⟩⟩, ⟨⟨⟨rfl, rfl, rfl, tr⟩, rfl, tr⟩, ok_spec_l00Src_among K (l00Src.mk a0.code v6.2.1 v6.2.2) ([(0 : Int), (2147483648 : Int), (2139095040 : Int), (4286578688 : Int), (2143289344 : Int), (1 : Int), (2139095039 : Int), (8388608 : Int), (8388607 : Int), (2147483649 : Int)]) v9 e10⟩, ⟨⟨rfl, tr⟩, ok_spec_l01From K v9.1 v11 e12⟩, tr, tr⟩ ?_
      refine AW.ret ?_
      refine blockQ_ret ?_
      refine thenQ_ret ?_
      replace h := some_eq h
      subst h
      exact ⟨.inr rfl, retOK_of [(.one (cF v11))] (by kernel_rfl) ⟨⟨rfl, tr⟩, tr⟩ (of_decide_eq_true (by kernel_rfl)), by kernel_rfl, ⟨⟨rfl, ⟨⟨rfl, rfl⟩, ⟨rfl, rfl⟩, ⟨rfl, rfl⟩, tr⟩⟩, tr⟩⟩
    · refine AW.cond_f rfl b8 ?_
      refine AW.sA ⟨[(0, (vp 0 0)), (10, (vI v6.1)), (17, (vB (v6.1 == (1 : Int))))], [(0, (.box [(.fx 0 0 (sl 1 (csI .u8) a0.code)), (cI v6.2.1), (.c (.int .u64 v6.2.2))]))]⟩ (T2 Tt) [] [0, 10, 17] [0] ⟨tr, tr, tr⟩ ?_
      rcases ite2_cases h with ⟨b13, h⟩ | ⟨b13, h⟩
      · refine AW.cond_t rfl b13 ?_
        refine AW.seq ?_
        obtain ⟨v14, e15, h⟩ := bind_some h
        refine AW.tC (Tt ∧ ((((Eqc (sl 1 (csI .u8) a0.code)) ∧ (eI v6.2.1) ∧ (Eqc (.int .u64 v6.2.2)) ∧ Tt) ∧ (eI (65536 : Int)) ∧ Tt) ∧ MutOK Try.prog 19 [(.box 3 (fun j => [true, false, false].getD j true) (fun j => (cs_l00Src (l00Src.mk a0.code v6.2.1 v6.2.2)).getD j .nilptr) (fun j => [.nilptr, (.int .i64 v14.2.1), (.int .u64 v14.2.2)].getD j .nilptr)), .one (.ro (.int .i64 (65536 : Int)))] [.one (.int .i64 v14.1)]) ∧ T2 Tt) [.no, .callM [(.box 3 (fun j => [true, false, false].getD j true) (fun j => (cs_l00Src (l00Src.mk a0.code v6.2.1 v6.2.2)).getD j .nilptr) (fun j => [.nilptr, (.int .i64 v14.2.1), (.int .u64 v14.2.2)].getD j .nilptr)), .one (.ro (.int .i64 (65536 : Int)))] [.one (.int .i64 v14.1)] [[.view]] none] [0, 3] [0] ⟨tr, ⟨⟨⟨rfl, rfl, rfl, tr⟩, rfl, tr⟩, ok_spec_l00Src_pick K (l00Src.mk a0.code v6.2.1 v6.2.2) (65536 : Int) v14 e15⟩, tr, tr, tr⟩ ?_
        refine AW.seq ?_
        obtain ⟨v16, e17, h⟩ := bind_some h
        obtain ⟨v18, e19, h⟩ := bind_some h
        refine AW.tA ⟨[(0, (vp 0 0)), (2, (vc (.flt .f32 v18.bits)))], [(0, (.box [(.fx 0 0 (sl 1 (csI .u8) a0.code)), (cI v16.2.1), (.c (.int .u64 v16.2.2))]))]⟩ (T2 (((((Eqc (sl 1 (csI .u8) a0.code)) ∧ (eI v14.2.1) ∧ (Eqc (.int .u64 v14.2.2)) ∧ Tt) ∧ (eI (65536 : Int)) ∧ Tt) ∧ MutOK Try.prog 19 [(.box 3 (fun j => [true, false, false].getD j true) (fun j => (cs_l00Src (l00Src.mk a0.code v14.2.1 v14.2.2)).getD j .nilptr) (fun j => [.nilptr, (.int .i64 v16.2.1), (.int .u64 v16.2.2)].getD j .nilptr)), .one (.ro (.int .i64 (65536 : Int)))] [.one (.int .i64 v16.1)]) ∧ Tt ∧ (((((.int .i64 (IntKind.i64.wrap ((IntKind.i64.wrap (v14.1 * (65536 : Int))) + v16.1))) : C) = (.int .i64 (IntKind.i64.wrap ((IntKind.i64.wrap (v14.1 * (65536 : Int))) + v16.1)))) ∧ Tt) ∧ CallOK Try.prog 64 [.one (.int .i64 (IntKind.i64.wrap ((IntKind.i64.wrap (v14.1 * (65536 : Int))) + v16.1)))] [.one (.flt .f32 v18.bits)]) ∧ Tt ∧ Tt)) [.no, .no, .callM [(.box 3 (fun j => [true, false, false].getD j true) (fun j => (cs_l00Src (l00Src.mk a0.code v14.2.1 v14.2.2)).getD j .nilptr) (fun j => [.nilptr, (.int .i64 v16.2.1), (.int .u64 v16.2.2)].getD j .nilptr)), .one (.ro (.int .i64 (65536 : Int)))] [.one (.int .i64 v16.1)] [[.view]] none, .no, .call [.one (.int .i64 (IntKind.i64.wrap ((IntKind.i64.wrap (v14.1 * (65536 : Int))) + v16.1)))] [.one (.flt .f32 v18.bits)] [[.view]]] [0, 2] [0] ⟨tr, tr, ⟨⟨⟨rfl, rfl, rfl, tr⟩, rfl, tr⟩, ok_spec_l00Src_pick K (l00Src.mk a0.code v14.2.1 v14.2.2) (65536 : Int) v16 e17⟩, tr, ⟨⟨rfl, tr⟩, ok_spec_l01From K (IntKind.i64.wrap ((IntKind.i64.wrap (v14.1 * (65536 : Int))) + v16.1)) v18 e19⟩, tr, tr⟩ ?_
        refine AW.ret ?_
        refine blockQ_ret ?_
        refine thenQ_ret ?_
        replace h := some_eq h
        subst h
        exact ⟨.inr rfl, retOK_of [(.one (cF v18))] (by kernel_rfl) ⟨⟨rfl, tr⟩, tr⟩ (of_decide_eq_true (by kernel_rfl)), by kernel_rfl, ⟨⟨rfl, ⟨⟨rfl, rfl⟩, ⟨rfl, rfl⟩, ⟨rfl, rfl⟩, tr⟩⟩, tr⟩⟩
      · refine AW.cond_f rfl b13 ?_
        refine AW.sA ⟨[(0, (vp 0 0)), (27, (vB (v6.1 == (2 : Int))))], [(0, (.box [(.fx 0 0 (sl 1 (csI .u8) a0.code)), (cI v6.2.1), (.c (.int .u64 v6.2.2))]))]⟩ (T2 Tt) [] [0, 27] [0] ⟨tr, tr, tr⟩ ?_
        rcases ite2_cases h with ⟨b20, h⟩ | ⟨b20, h⟩
        · refine AW.cond_t rfl b20 ?_
          refine AW.seq ?_
          obtain ⟨v21, e22, h⟩ := bind_some h
          obtain ⟨v23, e24, h⟩ := bind_some h
          refine AW.tA ⟨[(0, (vp 0 0)), (2, (vc (.flt .f32 v23.bits)))], [(0, (.box [(.fx 0 0 (sl 1 (csI .u8) a0.code)), (cI v21.2.1), (.c (.int .u64 v21.2.2))]))]⟩ (Tt ∧ ((((Eqc (sl 1 (csI .u8) a0.code)) ∧ (eI v6.2.1) ∧ (Eqc (.int .u64 v6.2.2)) ∧ Tt) ∧ (eI (65536 : Int)) ∧ Tt) ∧ MutOK Try.prog 19 [(.box 3 (fun j => [true, false, false].getD j true) (fun j => (cs_l00Src (l00Src.mk a0.code v6.2.1 v6.2.2)).getD j .nilptr) (fun j => [.nilptr, (.int .i64 v21.2.1), (.int .u64 v21.2.2)].getD j .nilptr)), .one (.ro (.int .i64 (65536 : Int)))] [.one (.int .i64 v21.1)]) ∧ Tt ∧ (((eI (IntKind.i64.wrap (v21.1 * (65536 : Int)))) ∧ Tt) ∧ CallOK Try.prog 64 [.one (.int .i64 (IntKind.i64.wrap (v21.1 * (65536 : Int))))] [.one (.flt .f32 v23.bits)]) ∧ Tt ∧ Tt) [.no, .callM [(.box 3 (fun j => [true, false, false].getD j true) (fun j => (cs_l00Src (l00Src.mk a0.code v6.2.1 v6.2.2)).getD j .nilptr) (fun j => [.nilptr, (.int .i64 v21.2.1), (.int .u64 v21.2.2)].getD j .nilptr)), .one (.ro (.int .i64 (65536 : Int)))] [.one (.int .i64 v21.1)] [[.view]] none, .no, .call [.one (.int .i64 (IntKind.i64.wrap (v21.1 * (65536 : Int))))] [.one (.flt .f32 v23.bits)] [[.view]]] [0, 2] [0] ⟨tr, ⟨⟨⟨rfl, rfl, rfl, tr⟩, rfl, tr⟩, ok_spec_l00Src_pick K (l00Src.mk a0.code v6.2.1 v6.2.2) (65536 : Int) v21 e22⟩, tr, ⟨⟨rfl, tr⟩, ok_spec_l01From K (IntKind.i64.wrap (v21.1 * (65536 : Int))) v23 e24⟩, tr, tr⟩ ?_
          refine AW.ret ?_
          refine blockQ_ret ?_
          refine thenQ_ret ?_
          replace h := some_eq h
          subst h
          exact ⟨.inr rfl, retOK_of [(.one (cF v23))] (by kernel_rfl) ⟨⟨rfl, tr⟩, tr⟩ (of_decide_eq_true (by kernel_rfl)), by kernel_rfl, ⟨⟨rfl, ⟨⟨rfl, rfl⟩, ⟨rfl, rfl⟩, ⟨rfl, rfl⟩, tr⟩⟩, tr⟩⟩
        · refine AW.cond_f rfl b20 ?_
          refine AW.skip ?_
          refine blockQ_normal ?_
          refine thenQ_normal ?_
          refine AW.seq ?_
          obtain ⟨v25, e26, h⟩ := bind_some h
          obtain ⟨v27, e28, h⟩ := bind_some h
          obtain ⟨v29, e30, h⟩ := bind_some h
          refine AW.tA ⟨[(0, (vp 0 0)), (2, (vc (.flt .f32 (v25.1.mul v29).bits)))], [(0, (.box [(.fx 0 0 (sl 1 (csI .u8) a0.code)), (cI v27.2.1), (.c (.int .u64 v27.2.2))]))]⟩ (Tt ∧ ((((Eqc (sl 1 (csI .u8) a0.code)) ∧ (eI v6.2.1) ∧ (Eqc (.int .u64 v6.2.2)) ∧ Tt) ∧ Tt) ∧ MutOK Try.prog 63 [(.box 3 (fun j => [true, false, false].getD j true) (fun j => (cs_l00Src (l00Src.mk a0.code v6.2.1 v6.2.2)).getD j .nilptr) (fun j => [.nilptr, (.int .i64 v25.2.1), (.int .u64 v25.2.2)].getD j .nilptr))] [.one (.flt .f32 v25.1.bits)]) ∧ Tt ∧ (([(8388608 : Int), (2130706432 : Int), (1610612736 : Int), (536870912 : Int)]).length = 4 ∧ (((.int .i64 (8388608 : Int)) : C) = (.int .i64 (8388608 : Int)) ∧ Tt) ∧ (((.int .i64 (2130706432 : Int)) : C) = (.int .i64 (2130706432 : Int)) ∧ Tt) ∧ (((.int .i64 (1610612736 : Int)) : C) = (.int .i64 (1610612736 : Int)) ∧ Tt) ∧ (((.int .i64 (536870912 : Int)) : C) = (.int .i64 (536870912 : Int)) ∧ Tt) ∧ Tt) ∧ ((((Eqc (sl 1 (csI .u8) a0.code)) ∧ (eI v25.2.1) ∧ (Eqc (.int .u64 v25.2.2)) ∧ Tt) ∧ (Eqc (sl 1 (csI .i64) ([(8388608 : Int), (2130706432 : Int), (1610612736 : Int), (536870912 : Int)]))) ∧ Tt) ∧ MutOK Try.prog 65 [(.box 3 (fun j => [true, false, false].getD j true) (fun j => (cs_l00Src (l00Src.mk a0.code v25.2.1 v25.2.2)).getD j .nilptr) (fun j => [.nilptr, (.int .i64 v27.2.1), (.int .u64 v27.2.2)].getD j .nilptr)), .one (.ro (sl 1 (csI .i64) ([(8388608 : Int), (2130706432 : Int), (1610612736 : Int), (536870912 : Int)])))] [.one (.int .i64 v27.1)]) ∧ (((eI v27.1) ∧ Tt) ∧ CallOK Try.prog 64 [.one (.int .i64 v27.1)] [.one (.flt .f32 v29.bits)]) ∧ T2 Tt) [.no, .callM [(.box 3 (fun j => [true, false, false].getD j true) (fun j => (cs_l00Src (l00Src.mk a0.code v6.2.1 v6.2.2)).getD j .nilptr) (fun j => [.nilptr, (.int .i64 v25.2.1), (.int .u64 v25.2.2)].getD j .nilptr))] [.one (.flt .f32 v25.1.bits)] [[.view]] none, .no, .obj 2 ([(8388608 : Int), (2130706432 : Int), (1610612736 : Int), (536870912 : Int)]).length (gl (csI .i64) ([(8388608 : Int), (2130706432 : Int), (1610612736 : Int), (536870912 : Int)])), .callM [(.box 3 (fun j => [true, false, false].getD j true) (fun j => (cs_l00Src (l00Src.mk a0.code v25.2.1 v25.2.2)).getD j .nilptr) (fun j => [.nilptr, (.int .i64 v27.2.1), (.int .u64 v27.2.2)].getD j .nilptr)), .one (.ro (sl 1 (csI .i64) ([(8388608 : Int), (2130706432 : Int), (1610612736 : Int), (536870912 : Int)])))] [.one (.int .i64 v27.1)] [[.view]] none, .call [.one (.int .i64 v27.1)] [.one (.flt .f32 v29.bits)] [[.view]]] [0, 2] [0] ⟨tr, ⟨⟨⟨rfl, rfl, rfl, tr⟩, tr⟩, ok_spec_l01DrawPlain K (l00Src.mk a0.code v6.2.1 v6.2.2) v25 e26⟩, tr, ⟨rfl, ⟨⟨rfl, tr⟩, ⟨rfl, tr⟩, ⟨rfl, tr⟩, ⟨rfl, tr⟩, tr⟩⟩, ⟨⟨⟨rfl, rfl, rfl, tr⟩, rfl, tr⟩, ok_spec_l00Src_among K (l00Src.mk a0.code v25.2.1 v25.2.2) ([(8388608 : Int), (2130706432 : Int), (1610612736 : Int), (536870912 : Int)]) v27 e28⟩, ⟨⟨rfl, tr⟩, ok_spec_l01From K v27.1 v29 e30⟩, tr, tr, tr⟩ ?_
          refine AW.ret ?_
          replace h := some_eq h
          subst h
          exact ⟨.inr rfl, retOK_of [(.one (cF (v25.1.mul v29)))] (by kernel_rfl) ⟨⟨rfl, tr⟩, tr⟩ (of_decide_eq_true (by kernel_rfl)), by kernel_rfl, ⟨⟨rfl, ⟨⟨rfl, rfl⟩, ⟨rfl, rfl⟩, ⟨rfl, rfl⟩, tr⟩⟩, tr⟩⟩

/-! spec.l01DrawVector -/
def spec_l01DrawVector (K : Nat) (a0 : l00Src) : Option (Vector × Int × Int) :=
  (spec_l00Src_one K a0 (10 : Int)).bind fun v1 => (spec_l01DrawSmall K (l00Src.mk a0.code v1.2.1 v1.2.2)).bind fun v3 => (spec_l01DrawSmall K (l00Src.mk a0.code v3.2.1 v3.2.2)).bind fun v5 => (spec_l01DrawSmall K (l00Src.mk a0.code v5.2.1 v5.2.2)).bind fun v7 => ite2 (v1.1) ((spec_l01DrawFloat K (l00Src.mk a0.code v7.2.1 v7.2.2)).bind fun v10 => some ((Vector.mk v3.1 v10.1 v7.1), v10.2.1, v10.2.2)) (some ((Vector.mk v3.1 v5.1 v7.1), v7.2.1, v7.2.2))

theorem ok_spec_l01DrawVector (K : Nat) (a0 : l00Src) (o : (Vector × Int × Int)) (h : spec_l01DrawVector K a0 = some o) : MutOK Try.prog 35 [(.box 3 (fun j => [true, false, false].getD j true) (fun j => (cs_l00Src a0).getD j .nilptr) (fun j => [.nilptr, (.int .i64 o.2.1), (.int .u64 o.2.2)].getD j .nilptr))] [.agg (cs_Vector o.1)] := by
  refine mutOK_of_AW 1 Try.func35 rfl (by kernel_rfl) (Nat.le_of_ble_eq_true (by kernel_rfl)) (by kernel_rfl) (by kernel_rfl) ?_
  intro w0 K0 v0 s0
  unfold spec_l01DrawVector at h
  refine AW.weak (s' := ⟨[(0, (vp 0 0))], [(0, (.box [(.fx 0 0 (sl 1 (csI .u8) a0.code)), (cI a0.at_), (.c (.int .u64 a0.seed))]))]⟩) (subUnfx 0 [1, 2] (by kernel_rfl)) ?_
  refine AW.sC (Tt ∧ Tt) [.box 1] [0, 2] [0, 1] ⟨tr, tr⟩ ?_
  refine AW.seq ?_
  obtain ⟨v1, e2, h⟩ := bind_some h
  refine AW.tC (Tt ∧ ((((Eqc (sl 1 (csI .u8) a0.code)) ∧ (eI a0.at_) ∧ (Eqc (.int .u64 a0.seed)) ∧ Tt) ∧ (eI (10 : Int)) ∧ Tt) ∧ MutOK Try.prog 34 [(.box 3 (fun j => [true, false, false].getD j true) (fun j => (cs_l00Src a0).getD j .nilptr) (fun j => [.nilptr, (.int .i64 v1.2.1), (.int .u64 v1.2.2)].getD j .nilptr)), .one (.ro (.int .i64 (10 : Int)))] [.one (.bool v1.1)]) ∧ Tt ∧ Tt) [.no, .callM [(.box 3 (fun j => [true, false, false].getD j true) (fun j => (cs_l00Src a0).getD j .nilptr) (fun j => [.nilptr, (.int .i64 v1.2.1), (.int .u64 v1.2.2)].getD j .nilptr)), .one (.ro (.int .i64 (10 : Int)))] [.one (.bool v1.1)] [[.view]] none] [0, 2, 3] [0, 1] ⟨tr, ⟨⟨⟨rfl, rfl, rfl, tr⟩, rfl, tr⟩, ok_spec_l00Src_one K a0 (10 : Int) v1 e2⟩, tr, tr⟩ ?_
  refine AW.seq ?_
  obtain ⟨v3, e4, h⟩ := bind_some h
  refine AW.tC (Tt ∧ ((((Eqc (sl 1 (csI .u8) a0.code)) ∧ (eI v1.2.1) ∧ (Eqc (.int .u64 v1.2.2)) ∧ Tt) ∧ Tt) ∧ MutOK Try.prog 47 [(.box 3 (fun j => [true, false, false].getD j true) (fun j => (cs_l00Src (l00Src.mk a0.code v1.2.1 v1.2.2)).getD j .nilptr) (fun j => [.nilptr, (.int .i64 v3.2.1), (.int .u64 v3.2.2)].getD j .nilptr))] [.one (.flt .f32 v3.1.bits)]) ∧ Tt ∧ T2 Tt) [.no, .callM [(.box 3 (fun j => [true, false, false].getD j true) (fun j => (cs_l00Src (l00Src.mk a0.code v1.2.1 v1.2.2)).getD j .nilptr) (fun j => [.nilptr, (.int .i64 v3.2.1), (.int .u64 v3.2.2)].getD j .nilptr))] [.one (.flt .f32 v3.1.bits)] [[.view]] none, .no, .box 2] [0, 2, 3, 4] [0, 1, 2] ⟨tr, ⟨⟨⟨rfl, rfl, rfl, tr⟩, tr⟩, ok_spec_l01DrawSmall K (l00Src.mk a0.code v1.2.1 v1.2.2) v3 e4⟩, tr, tr, tr, tr⟩ ?_
  refine AW.seq ?_
  obtain ⟨v5, e6, h⟩ := bind_some h
  refine AW.tC (Tt ∧ ((((Eqc (sl 1 (csI .u8) a0.code)) ∧ (eI v3.2.1) ∧ (Eqc (.int .u64 v3.2.2)) ∧ Tt) ∧ Tt) ∧ MutOK Try.prog 47 [(.box 3 (fun j => [true, false, false].getD j true) (fun j => (cs_l00Src (l00Src.mk a0.code v3.2.1 v3.2.2)).getD j .nilptr) (fun j => [.nilptr, (.int .i64 v5.2.1), (.int .u64 v5.2.2)].getD j .nilptr))] [.one (.flt .f32 v5.1.bits)]) ∧ T2 Tt) [.no, .callM [(.box 3 (fun j => [true, false, false].getD j true) (fun j => (cs_l00Src (l00Src.mk a0.code v3.2.1 v3.2.2)).getD j .nilptr) (fun j => [.nilptr, (.int .i64 v5.2.1), (.int .u64 v5.2.2)].getD j .nilptr))] [.one (.flt .f32 v5.1.bits)] [[.view]] none] [0, 2, 3, 4] [0, 1, 2] ⟨tr, ⟨⟨⟨rfl, rfl, rfl, tr⟩, tr⟩, ok_spec_l01DrawSmall K (l00Src.mk a0.code v3.2.1 v3.2.2) v5 e6⟩, tr, tr, tr⟩ ?_
  refine AW.seq ?_
  obtain ⟨v7, e8, h⟩ := bind_some h
  refine AW.tC (Tt ∧ ((((Eqc (sl 1 (csI .u8) a0.code)) ∧ (eI v5.2.1) ∧ (Eqc (.int .u64 v5.2.2)) ∧ Tt) ∧ Tt) ∧ MutOK Try.prog 47 [(.box 3 (fun j => [true, false, false].getD j true) (fun j => (cs_l00Src (l00Src.mk a0.code v5.2.1 v5.2.2)).getD j .nilptr) (fun j => [.nilptr, (.int .i64 v7.2.1), (.int .u64 v7.2.2)].getD j .nilptr))] [.one (.flt .f32 v7.1.bits)]) ∧ T2 Tt) [.no, .callM [(.box 3 (fun j => [true, false, false].getD j true) (fun j => (cs_l00Src (l00Src.mk a0.code v5.2.1 v5.2.2)).getD j .nilptr) (fun j => [.nilptr, (.int .i64 v7.2.1), (.int .u64 v7.2.2)].getD j .nilptr))] [.one (.flt .f32 v7.1.bits)] [[.view]] none] [0, 2, 3, 4] [0, 1, 2] ⟨tr, ⟨⟨⟨rfl, rfl, rfl, tr⟩, tr⟩, ok_spec_l01DrawSmall K (l00Src.mk a0.code v5.2.1 v5.2.2) v7 e8⟩, tr, tr, tr⟩ ?_
  refine AW.seq ?_
  refine AW.sA ⟨[(0, (vp 0 0)), (2, (vp 1 0)), (4, (vp 2 0)), (16, (vB v1.1))], [(0, (.box [(.fx 0 0 (sl 1 (csI .u8) a0.code)), (cI v7.2.1), (.c (.int .u64 v7.2.2))])), (1, (.box [(cF (default : F32)), (cF (default : F32)), (cF (default : F32))])), (2, (.box [(cF v3.1), (cF v5.1), (cF v7.1)]))]⟩ (Tt ∧ Tt) [] [0, 2, 4, 16] [0, 1, 2] ⟨tr, tr⟩ ?_
  rcases ite2_cases h with ⟨b9, h⟩ | ⟨b9, h⟩
  · refine AW.cond_t rfl b9 ?_
    obtain ⟨v10, e11, h⟩ := bind_some h
    refine AW.tC (Tt ∧ ((((Eqc (sl 1 (csI .u8) a0.code)) ∧ (eI v7.2.1) ∧ (Eqc (.int .u64 v7.2.2)) ∧ Tt) ∧ Tt) ∧ MutOK Try.prog 48 [(.box 3 (fun j => [true, false, false].getD j true) (fun j => (cs_l00Src (l00Src.mk a0.code v7.2.1 v7.2.2)).getD j .nilptr) (fun j => [.nilptr, (.int .i64 v10.2.1), (.int .u64 v10.2.2)].getD j .nilptr))] [.one (.flt .f32 v10.1.bits)]) ∧ T2 Tt) [.no, .callM [(.box 3 (fun j => [true, false, false].getD j true) (fun j => (cs_l00Src (l00Src.mk a0.code v7.2.1 v7.2.2)).getD j .nilptr) (fun j => [.nilptr, (.int .i64 v10.2.1), (.int .u64 v10.2.2)].getD j .nilptr))] [.one (.flt .f32 v10.1.bits)] [[.view]] none] [0, 2, 4] [0, 1, 2] ⟨tr, ⟨⟨⟨rfl, rfl, rfl, tr⟩, tr⟩, ok_spec_l01DrawFloat K (l00Src.mk a0.code v7.2.1 v7.2.2) v10 e11⟩, tr, tr, tr⟩ ?_
    refine AW.sA ⟨[(0, (vp 0 0)), (2, (vp 1 0))], [(0, (.box [(.fx 0 0 (sl 1 (csI .u8) a0.code)), (cI v10.2.1), (.c (.int .u64 v10.2.2))])), (1, (.box [(cF v3.1), (cF v10.1), (cF v7.1)]))]⟩ (T2 Tt) [] [0, 2] [0, 1] ⟨tr, tr, tr⟩ ?_
    refine AW.ret ?_
    replace h := some_eq h
    subst h
    exact ⟨.inr rfl, retOK_of [(.agg [(cF v3.1), (cF v10.1), (cF v7.1)])] (by kernel_rfl) ⟨⟨⟨rfl, tr⟩, ⟨rfl, tr⟩, ⟨rfl, tr⟩, tr⟩, tr⟩ (of_decide_eq_true (by kernel_rfl)), by kernel_rfl, ⟨⟨rfl, ⟨⟨rfl, rfl⟩, ⟨rfl, rfl⟩, ⟨rfl, rfl⟩, tr⟩⟩, tr⟩⟩
  · refine AW.cond_f rfl b9 ?_
    refine AW.skip ?_
    refine thenQ_normal ?_
    refine AW.sA ⟨[(0, (vp 0 0)), (2, (vp 1 0))], [(0, (.box [(.fx 0 0 (sl 1 (csI .u8) a0.code)), (cI v7.2.1), (.c (.int .u64 v7.2.2))])), (1, (.box [(cF v3.1), (cF v5.1), (cF v7.1)]))]⟩ (T2 Tt) [] [0, 2] [0, 1] ⟨tr, tr, tr⟩ ?_
    refine AW.ret ?_
    replace h := some_eq h
    subst h
    exact ⟨.inr rfl, retOK_of [(.agg [(cF v3.1), (cF v5.1), (cF v7.1)])] (by kernel_rfl) ⟨⟨⟨rfl, tr⟩, ⟨rfl, tr⟩, ⟨rfl, tr⟩, tr⟩, tr⟩ (of_decide_eq_true (by kernel_rfl)), by kernel_rfl, ⟨⟨rfl, ⟨⟨rfl, rfl⟩, ⟨rfl, rfl⟩, ⟨rfl, rfl⟩, tr⟩⟩, tr⟩⟩

/-! spec.l03DrawSized -/
def spec_l03DrawSized_l1 (K : Nat) (a0 : l00Src) (a1 : Int) : Nat → Int → Int → Int → (List Bone) → Option (Skeleton × Int × Int)
  | 0, _, _, _, _ => none
  | k + 1, x5, x6, x7, x8 => ite2 ((decide (x5 < a1))) (ite2 ((decide (x5 > (0 : Int)))) ((spec_l00Src_pick K (l00Src.mk a0.code x6 x7) x5).bind fun v11 => (spec_l00Src_one K (l00Src.mk a0.code v11.2.1 v11.2.2) (2 : Int)).bind fun v13 => ite2 (v13.1) ((spec_l01DrawVector K (l00Src.mk a0.code v13.2.1 v13.2.2)).bind fun v16 => chk ((x8.length + ([(Bone.mk (IntKind.i64.wrap (x5 - (1 : Int))) v16.1)]).length) * 24 ≤ 140737488355328) (spec_l03DrawSized_l1 K a0 a1 k (IntKind.i64.wrap (x5 + (1 : Int))) v16.2.1 v16.2.2 (x8 ++ ([(Bone.mk (IntKind.i64.wrap (x5 - (1 : Int))) v16.1)])))) ((spec_l01DrawVector K (l00Src.mk a0.code v13.2.1 v13.2.2)).bind fun v19 => chk ((x8.length + ([(Bone.mk v11.1 v19.1)]).length) * 24 ≤ 140737488355328) (spec_l03DrawSized_l1 K a0 a1 k (IntKind.i64.wrap (x5 + (1 : Int))) v19.2.1 v19.2.2 (x8 ++ ([(Bone.mk v11.1 v19.1)]))))) ((spec_l01DrawVector K (l00Src.mk a0.code x6 x7)).bind fun v22 => chk ((x8.length + ([(Bone.mk ((-1) : Int) v22.1)]).length) * 24 ≤ 140737488355328) (spec_l03DrawSized_l1 K a0 a1 k (IntKind.i64.wrap (x5 + (1 : Int))) v22.2.1 v22.2.2 (x8 ++ ([(Bone.mk ((-1) : Int) v22.1)]))))) (some ((Skeleton.mk x8), x6, x7))

def spec_l03DrawSized (K : Nat) (a0 : l00Src) (a1 : Int) : Option (Skeleton × Int × Int) :=
  spec_l03DrawSized_l1 K a0 a1 K (0 : Int) a0.at_ a0.seed ([] : (List Bone))

theorem ok_spec_l03DrawSized (K : Nat) (a0 : l00Src) (a1 : Int) (o : (Skeleton × Int × Int)) (h : spec_l03DrawSized K a0 a1 = some o) : MutOK Try.prog 18 [(.box 3 (fun j => [true, false, false].getD j true) (fun j => (cs_l00Src a0).getD j .nilptr) (fun j => [.nilptr, (.int .i64 o.2.1), (.int .u64 o.2.2)].getD j .nilptr)), (.one (.ro (.int .i64 a1)))] [.agg (cs_Skeleton o.1)] := by
  refine mutOK_of_AW 1 Try.func18 rfl (by kernel_rfl) (Nat.le_of_ble_eq_true (by kernel_rfl)) (by kernel_rfl) (by kernel_rfl) ?_
  intro w0 K0 v0 s0
  unfold spec_l03DrawSized at h
  refine AW.weak (s' := ⟨[(0, (vp 0 0)), (1, (vI a1))], [(0, (.box [(.fx 0 0 (sl 1 (csI .u8) a0.code)), (cI a0.at_), (.c (.int .u64 a0.seed))]))]⟩) (subUnfx 0 [1, 2] (by kernel_rfl)) ?_
  refine AW.sC (Tt ∧ Tt) [.box 1] [0, 1, 4] [0, 1] ⟨tr, tr⟩ ?_
  refine AW.sC (Tt ∧ T2 Tt) [.no, .box 2] [0, 1, 4, 5] [0, 1, 2] ⟨tr, tr, tr, tr⟩ ?_
  refine AW.seq ?_
  refine AW.sA ⟨[(0, (vp 0 0)), (1, (vI a1)), (4, (vp 1 0)), (5, (vp 2 0)), (6, (vI (0 : Int)))], [(0, (.box [(.fx 0 0 (sl 1 (csI .u8) a0.code)), (cI a0.at_), (.c (.int .u64 a0.seed))])), (1, (.box [.nils])), (2, (.box [.nils]))]⟩ (Tt ∧ Tt) [] [0, 1, 4, 5, 6] [0, 1, 2] ⟨tr, tr⟩ ?_
  refine AW.block ?_
  refine AW.weak (s' := ⟨[(0, (vp 0 0)), (1, (vI a1)), (4, (vp 1 0)), (5, (vp 2 0)), (6, (vI (0 : Int)))], [(0, (.box [(.fx 0 0 (sl 1 (csI .u8) a0.code)), (cI a0.at_), (.c (.int .u64 a0.seed))])), (1, (.box [.nils])), (2, (.box [(xL 10 4 cs_Bone ([] : (List Bone)))])), (10, (oL 4 cs_Bone ([] : (List Bone))))]⟩) (Sub.trans (Sub.unnil 10 4 (gl cs_Bone ([] : (List Bone))) [] [(2, 0)] _ (by kernel_rfl) (by kernel_rfl)) (Sub.keep [0, 1, 4, 5, 6] [0, 1, 2, 10] (by kernel_rfl) (by kernel_rfl))) ?_
  refine AW.loopQ (σ := Nat × Int × Int × Int × (List Bone)) (fun p => ⟨[(0, (vp 0 0)), (1, (vI a1)), (4, (vp 1 0)), (5, (vp 2 0)), (6, (vI p.2.1))], [(0, (.box [(.fx 0 0 (sl 1 (csI .u8) a0.code)), (cI p.2.2.1), (.c (.int .u64 p.2.2.2.1))])), (1, (.box [.nils])), (2, (.box [(xL 10 4 cs_Bone p.2.2.2.2)])), (10, (oL 4 cs_Bone p.2.2.2.2))]⟩) (fun p => spec_l03DrawSized_l1 K a0 a1 p.1 p.2.1 p.2.2.1 p.2.2.2.1 p.2.2.2.2 = some o) (fun p => p.1) (K, (0 : Int), a0.at_, a0.seed, ([] : (List Bone))) h ?_
  clear h
  rintro ⟨k, x5, x6, x7, x8⟩ h
  replace h : spec_l03DrawSized_l1 K a0 a1 k x5 x6 x7 x8 = some o := h
  show AW _ _ (⟨[(0, (vp 0 0)), (1, (vI a1)), (4, (vp 1 0)), (5, (vp 2 0)), (6, (vI x5))], [(0, (.box [(.fx 0 0 (sl 1 (csI .u8) a0.code)), (cI x6), (.c (.int .u64 x7))])), (1, (.box [.nils])), (2, (.box [(xL 10 4 cs_Bone x8)])), (10, (oL 4 cs_Bone x8))]⟩ : St) _
  obtain _ | k := k
  · rw [spec_l03DrawSized_l1] at h; cases h
  rw [spec_l03DrawSized_l1] at h
  refine AW.seq ?_
  refine AW.sA ⟨[(0, (vp 0 0)), (1, (vI a1)), (4, (vp 1 0)), (5, (vp 2 0)), (6, (vI x5)), (11, (vB (decide (x5 < a1))))], [(0, (.box [(.fx 0 0 (sl 1 (csI .u8) a0.code)), (cI x6), (.c (.int .u64 x7))])), (1, (.box [.nils])), (2, (.box [(xL 10 4 cs_Bone x8)])), (10, (oL 4 cs_Bone x8))]⟩ (Tt ∧ T2 Tt) [] [0, 1, 4, 5, 6, 11] [0, 1, 2, 10] ⟨tr, tr, tr, tr⟩ ?_
  rcases ite2_cases h with ⟨b9, h⟩ | ⟨b9, h⟩
  · refine AW.cond_t rfl b9 ?_
    refine AW.skip ?_
    refine thenQ_normal ?_
    refine AW.seq ?_
    refine AW.block ?_
    refine AW.sC (Tt ∧ T2 Tt) [.no, .box 25] [0, 1, 4, 5, 6, 7] [0, 1, 2, 10, 25] ⟨tr, tr, tr, tr⟩ ?_
    refine AW.seq ?_
    refine AW.sA ⟨[(0, (vp 0 0)), (1, (vI a1)), (4, (vp 1 0)), (5, (vp 2 0)), (6, (vI x5)), (7, (vp 25 0)), (16, (vB (decide (x5 > (0 : Int)))))], [(0, (.box [(.fx 0 0 (sl 1 (csI .u8) a0.code)), (cI x6), (.c (.int .u64 x7))])), (1, (.box [.nils])), (2, (.box [(xL 10 4 cs_Bone x8)])), (10, (oL 4 cs_Bone x8)), (25, (.box [(cI ((-1) : Int)), (cF (default : F32)), (cF (default : F32)), (cF (default : F32))]))]⟩ (T2 Tt) [] [0, 1, 4, 5, 6, 7, 16] [0, 1, 2, 10, 25] ⟨tr, tr, tr⟩ ?_
    rcases ite2_cases h with ⟨b10, h⟩ | ⟨b10, h⟩
    · refine AW.cond_t rfl b10 ?_
      refine AW.seq ?_
      obtain ⟨v11, e12, h⟩ := bind_some h
      refine AW.tC (T2 (((((Eqc (sl 1 (csI .u8) a0.code)) ∧ (eI x6) ∧ (Eqc (.int .u64 x7)) ∧ Tt) ∧ (eI x5) ∧ Tt) ∧ MutOK Try.prog 19 [(.box 3 (fun j => [true, false, false].getD j true) (fun j => (cs_l00Src (l00Src.mk a0.code x6 x7)).getD j .nilptr) (fun j => [.nilptr, (.int .i64 v11.2.1), (.int .u64 v11.2.2)].getD j .nilptr)), .one (.ro (.int .i64 x5))] [.one (.int .i64 v11.1)]) ∧ T2 Tt)) [.no, .no, .callM [(.box 3 (fun j => [true, false, false].getD j true) (fun j => (cs_l00Src (l00Src.mk a0.code x6 x7)).getD j .nilptr) (fun j => [.nilptr, (.int .i64 v11.2.1), (.int .u64 v11.2.2)].getD j .nilptr)), .one (.ro (.int .i64 x5))] [.one (.int .i64 v11.1)] [[.view]] none] [0, 1, 4, 5, 6, 7] [0, 1, 2, 10, 25] ⟨tr, tr, ⟨⟨⟨rfl, rfl, rfl, tr⟩, rfl, tr⟩, ok_spec_l00Src_pick K (l00Src.mk a0.code x6 x7) x5 v11 e12⟩, tr, tr, tr⟩ ?_
      refine AW.seq ?_
      obtain ⟨v13, e14, h⟩ := bind_some h
      refine AW.tA ⟨[(0, (vp 0 0)), (1, (vI a1)), (4, (vp 1 0)), (5, (vp 2 0)), (6, (vI x5)), (7, (vp 25 0)), (22, (vB v13.1))], [(0, (.box [(.fx 0 0 (sl 1 (csI .u8) a0.code)), (cI v13.2.1), (.c (.int .u64 v13.2.2))])), (1, (.box [.nils])), (2, (.box [(xL 10 4 cs_Bone x8)])), (10, (oL 4 cs_Bone x8)), (25, (.box [(cI v11.1), (cF (default : F32)), (cF (default : F32)), (cF (default : F32))]))]⟩ (Tt ∧ ((((Eqc (sl 1 (csI .u8) a0.code)) ∧ (eI v11.2.1) ∧ (Eqc (.int .u64 v11.2.2)) ∧ Tt) ∧ (eI (2 : Int)) ∧ Tt) ∧ MutOK Try.prog 34 [(.box 3 (fun j => [true, false, false].getD j true) (fun j => (cs_l00Src (l00Src.mk a0.code v11.2.1 v11.2.2)).getD j .nilptr) (fun j => [.nilptr, (.int .i64 v13.2.1), (.int .u64 v13.2.2)].getD j .nilptr)), .one (.ro (.int .i64 (2 : Int)))] [.one (.bool v13.1)]) ∧ Tt) [.no, .callM [(.box 3 (fun j => [true, false, false].getD j true) (fun j => (cs_l00Src (l00Src.mk a0.code v11.2.1 v11.2.2)).getD j .nilptr) (fun j => [.nilptr, (.int .i64 v13.2.1), (.int .u64 v13.2.2)].getD j .nilptr)), .one (.ro (.int .i64 (2 : Int)))] [.one (.bool v13.1)] [[.view]] none] [0, 1, 4, 5, 6, 7, 22] [0, 1, 2, 10, 25] ⟨tr, ⟨⟨⟨rfl, rfl, rfl, tr⟩, rfl, tr⟩, ok_spec_l00Src_one K (l00Src.mk a0.code v11.2.1 v11.2.2) (2 : Int) v13 e14⟩, tr⟩ ?_
      rcases ite2_cases h with ⟨b15, h⟩ | ⟨b15, h⟩
      · refine AW.cond_t rfl b15 ?_
        refine AW.tC (T4 Tt) [] [0, 1, 4, 5, 6, 7] [0, 1, 2, 10, 25] ⟨tr, tr, tr, tr, tr⟩ ?_
        refine AW.seq ?_
        obtain ⟨v16, e17, h⟩ := bind_some h
        refine AW.tC (Tt ∧ ((((Eqc (sl 1 (csI .u8) a0.code)) ∧ (eI v13.2.1) ∧ (Eqc (.int .u64 v13.2.2)) ∧ Tt) ∧ Tt) ∧ MutOK Try.prog 35 [(.box 3 (fun j => [true, false, false].getD j true) (fun j => (cs_l00Src (l00Src.mk a0.code v13.2.1 v13.2.2)).getD j .nilptr) (fun j => [.nilptr, (.int .i64 v16.2.1), (.int .u64 v16.2.2)].getD j .nilptr))] [.agg (cs_Vector v16.1)]) ∧ T2 Tt) [.no, .callM [(.box 3 (fun j => [true, false, false].getD j true) (fun j => (cs_l00Src (l00Src.mk a0.code v13.2.1 v13.2.2)).getD j .nilptr) (fun j => [.nilptr, (.int .i64 v16.2.1), (.int .u64 v16.2.2)].getD j .nilptr))] [.agg (cs_Vector v16.1)] [[.view, .view, .view]] none] [0, 1, 4, 5, 6, 7] [0, 1, 2, 10, 25] ⟨tr, ⟨⟨⟨rfl, rfl, rfl, tr⟩, tr⟩, ok_spec_l01DrawVector K (l00Src.mk a0.code v13.2.1 v13.2.2) v16 e17⟩, tr, tr, tr⟩ ?_
        obtain ⟨c18, h⟩ := chk_some h
        refine AW.rA ⟨[(0, (vp 0 0)), (1, (vI a1)), (4, (vp 1 0)), (5, (vp 2 0)), (6, (vI x5))], [(0, (.box [(.fx 0 0 (sl 1 (csI .u8) a0.code)), (cI v16.2.1), (.c (.int .u64 v16.2.2))])), (1, (.box [.nils])), (2, (.box [(xL 27 4 cs_Bone (x8 ++ ([(Bone.mk (IntKind.i64.wrap (x5 - (1 : Int))) v16.1)])))])), (27, (oL 4 cs_Bone (x8 ++ ([(Bone.mk (IntKind.i64.wrap (x5 - (1 : Int))) v16.1)]))))]⟩ (Tt ∧ T2 ((([(Bone.mk (IntKind.i64.wrap (x5 - (1 : Int))) v16.1)]).length = 1 ∧ (((.int .i64 (IntKind.i64.wrap (x5 - (1 : Int)))) : C) = (.int .i64 (IntKind.i64.wrap (x5 - (1 : Int)))) ∧ Tt) ∧ (((.flt .f32 v16.1.X.bits) : C) = (.flt .f32 v16.1.X.bits) ∧ Tt) ∧ (((.flt .f32 v16.1.Y.bits) : C) = (.flt .f32 v16.1.Y.bits) ∧ Tt) ∧ (((.flt .f32 v16.1.Z.bits) : C) = (.flt .f32 v16.1.Z.bits) ∧ Tt) ∧ Tt) ∧ ((x8 ++ ([(Bone.mk (IntKind.i64.wrap (x5 - (1 : Int))) v16.1)])).length = x8.length + ([(Bone.mk (IntKind.i64.wrap (x5 - (1 : Int))) v16.1)]).length ∧ AppOb (x8.length) (([(Bone.mk (IntKind.i64.wrap (x5 - (1 : Int))) v16.1)]).length) 4 (gl cs_Bone x8) (gl cs_Bone ([(Bone.mk (IntKind.i64.wrap (x5 - (1 : Int))) v16.1)])) (gl cs_Bone (x8 ++ ([(Bone.mk (IntKind.i64.wrap (x5 - (1 : Int))) v16.1)]))) ∧ (∀ i j, i < ([(Bone.mk (IntKind.i64.wrap (x5 - (1 : Int))) v16.1)]).length → j < 4 → scalarC (gl cs_Bone ([(Bone.mk (IntKind.i64.wrap (x5 - (1 : Int))) v16.1)]) i j)) ∧ (x8.length + ([(Bone.mk (IntKind.i64.wrap (x5 - (1 : Int))) v16.1)]).length) * 24 ≤ 140737488355328) ∧ T2 Tt)) [.no, .no, .no, .obj 26 ([(Bone.mk (IntKind.i64.wrap (x5 - (1 : Int))) v16.1)]).length (gl cs_Bone ([(Bone.mk (IntKind.i64.wrap (x5 - (1 : Int))) v16.1)])), .objK 27 (x8 ++ ([(Bone.mk (IntKind.i64.wrap (x5 - (1 : Int))) v16.1)])).length (gl cs_Bone (x8 ++ ([(Bone.mk (IntKind.i64.wrap (x5 - (1 : Int))) v16.1)])))] [0, 1, 4, 5, 6] [0, 1, 2, 27] ⟨tr, tr, tr, ⟨rfl, ⟨⟨rfl, tr⟩, ⟨rfl, tr⟩, ⟨rfl, tr⟩, ⟨rfl, tr⟩, tr⟩⟩, ⟨List.length_append, gl_append, gl_scalar sc_Bone _, c18⟩, tr, tr, tr⟩ ?_
        refine blockQ_normal ?_
        refine thenQ_normal ?_
        refine AW.rA ⟨[(0, (vp 0 0)), (1, (vI a1)), (4, (vp 1 0)), (5, (vp 2 0)), (6, (vI (IntKind.i64.wrap (x5 + (1 : Int)))))], [(0, (.box [(.fx 0 0 (sl 1 (csI .u8) a0.code)), (cI v16.2.1), (.c (.int .u64 v16.2.2))])), (1, (.box [.nils])), (2, (.box [(xL 27 4 cs_Bone (x8 ++ ([(Bone.mk (IntKind.i64.wrap (x5 - (1 : Int))) v16.1)])))])), (27, (oL 4 cs_Bone (x8 ++ ([(Bone.mk (IntKind.i64.wrap (x5 - (1 : Int))) v16.1)]))))]⟩ (Tt ∧ T2 Tt) [] [0, 1, 4, 5, 6] [0, 1, 2, 27] ⟨tr, tr, tr, tr⟩ ?_
        exact loopQ_normal (k, (IntKind.i64.wrap (x5 + (1 : Int))), v16.2.1, v16.2.2, (x8 ++ ([(Bone.mk (IntKind.i64.wrap (x5 - (1 : Int))) v16.1)]))) h (Nat.lt_succ_self k) (Sub.trans (Sub.swap 10 27 _ (by kernel_rfl) (by kernel_rfl)) (Sub.keep [0, 1, 4, 5, 6] [0, 1, 2, 10] (by kernel_rfl) (by kernel_rfl)))
      · refine AW.cond_f rfl b15 ?_
        refine AW.skip ?_
        refine thenQ_normal ?_
        refine AW.seq ?_
        obtain ⟨v19, e20, h⟩ := bind_some h
        refine AW.tC (Tt ∧ ((((Eqc (sl 1 (csI .u8) a0.code)) ∧ (eI v13.2.1) ∧ (Eqc (.int .u64 v13.2.2)) ∧ Tt) ∧ Tt) ∧ MutOK Try.prog 35 [(.box 3 (fun j => [true, false, false].getD j true) (fun j => (cs_l00Src (l00Src.mk a0.code v13.2.1 v13.2.2)).getD j .nilptr) (fun j => [.nilptr, (.int .i64 v19.2.1), (.int .u64 v19.2.2)].getD j .nilptr))] [.agg (cs_Vector v19.1)]) ∧ T2 Tt) [.no, .callM [(.box 3 (fun j => [true, false, false].getD j true) (fun j => (cs_l00Src (l00Src.mk a0.code v13.2.1 v13.2.2)).getD j .nilptr) (fun j => [.nilptr, (.int .i64 v19.2.1), (.int .u64 v19.2.2)].getD j .nilptr))] [.agg (cs_Vector v19.1)] [[.view, .view, .view]] none] [0, 1, 4, 5, 6, 7] [0, 1, 2, 10, 25] ⟨tr, ⟨⟨⟨rfl, rfl, rfl, tr⟩, tr⟩, ok_spec_l01DrawVector K (l00Src.mk a0.code v13.2.1 v13.2.2) v19 e20⟩, tr, tr, tr⟩ ?_
        obtain ⟨c21, h⟩ := chk_some h
        refine AW.rA ⟨[(0, (vp 0 0)), (1, (vI a1)), (4, (vp 1 0)), (5, (vp 2 0)), (6, (vI x5))], [(0, (.box [(.fx 0 0 (sl 1 (csI .u8) a0.code)), (cI v19.2.1), (.c (.int .u64 v19.2.2))])), (1, (.box [.nils])), (2, (.box [(xL 29 4 cs_Bone (x8 ++ ([(Bone.mk v11.1 v19.1)])))])), (29, (oL 4 cs_Bone (x8 ++ ([(Bone.mk v11.1 v19.1)]))))]⟩ (Tt ∧ T2 ((([(Bone.mk v11.1 v19.1)]).length = 1 ∧ (((.int .i64 v11.1) : C) = (.int .i64 v11.1) ∧ Tt) ∧ (((.flt .f32 v19.1.X.bits) : C) = (.flt .f32 v19.1.X.bits) ∧ Tt) ∧ (((.flt .f32 v19.1.Y.bits) : C) = (.flt .f32 v19.1.Y.bits) ∧ Tt) ∧ (((.flt .f32 v19.1.Z.bits) : C) = (.flt .f32 v19.1.Z.bits) ∧ Tt) ∧ Tt) ∧ ((x8 ++ ([(Bone.mk v11.1 v19.1)])).length = x8.length + ([(Bone.mk v11.1 v19.1)]).length ∧ AppOb (x8.length) (([(Bone.mk v11.1 v19.1)]).length) 4 (gl cs_Bone x8) (gl cs_Bone ([(Bone.mk v11.1 v19.1)])) (gl cs_Bone (x8 ++ ([(Bone.mk v11.1 v19.1)]))) ∧ (∀ i j, i < ([(Bone.mk v11.1 v19.1)]).length → j < 4 → scalarC (gl cs_Bone ([(Bone.mk v11.1 v19.1)]) i j)) ∧ (x8.length + ([(Bone.mk v11.1 v19.1)]).length) * 24 ≤ 140737488355328) ∧ T2 Tt)) [.no, .no, .no, .obj 28 ([(Bone.mk v11.1 v19.1)]).length (gl cs_Bone ([(Bone.mk v11.1 v19.1)])), .objK 29 (x8 ++ ([(Bone.mk v11.1 v19.1)])).length (gl cs_Bone (x8 ++ ([(Bone.mk v11.1 v19.1)])))] [0, 1, 4, 5, 6] [0, 1, 2, 29] ⟨tr, tr, tr, ⟨rfl, ⟨⟨rfl, tr⟩, ⟨rfl, tr⟩, ⟨rfl, tr⟩, ⟨rfl, tr⟩, tr⟩⟩, ⟨List.length_append, gl_append, gl_scalar sc_Bone _, c21⟩, tr, tr, tr⟩ ?_
        refine blockQ_normal ?_
        refine thenQ_normal ?_
        refine AW.rA ⟨[(0, (vp 0 0)), (1, (vI a1)), (4, (vp 1 0)), (5, (vp 2 0)), (6, (vI (IntKind.i64.wrap (x5 + (1 : Int)))))], [(0, (.box [(.fx 0 0 (sl 1 (csI .u8) a0.code)), (cI v19.2.1), (.c (.int .u64 v19.2.2))])), (1, (.box [.nils])), (2, (.box [(xL 29 4 cs_Bone (x8 ++ ([(Bone.mk v11.1 v19.1)])))])), (29, (oL 4 cs_Bone (x8 ++ ([(Bone.mk v11.1 v19.1)]))))]⟩ (Tt ∧ T2 Tt) [] [0, 1, 4, 5, 6] [0, 1, 2, 29] ⟨tr, tr, tr, tr⟩ ?_
        exact loopQ_normal (k, (IntKind.i64.wrap (x5 + (1 : Int))), v19.2.1, v19.2.2, (x8 ++ ([(Bone.mk v11.1 v19.1)]))) h (Nat.lt_succ_self k) (Sub.trans (Sub.swap 10 29 _ (by kernel_rfl) (by kernel_rfl)) (Sub.keep [0, 1, 4, 5, 6] [0, 1, 2, 10] (by kernel_rfl) (by kernel_rfl)))
    · refine AW.cond_f rfl b10 ?_
      refine AW.skip ?_
      refine thenQ_normal ?_
      refine AW.seq ?_
      obtain ⟨v22, e23, h⟩ := bind_some h
      refine AW.tC (Tt ∧ ((((Eqc (sl 1 (csI .u8) a0.code)) ∧ (eI x6) ∧ (Eqc (.int .u64 x7)) ∧ Tt) ∧ Tt) ∧ MutOK Try.prog 35 [(.box 3 (fun j => [true, false, false].getD j true) (fun j => (cs_l00Src (l00Src.mk a0.code x6 x7)).getD j .nilptr) (fun j => [.nilptr, (.int .i64 v22.2.1), (.int .u64 v22.2.2)].getD j .nilptr))] [.agg (cs_Vector v22.1)]) ∧ T2 Tt) [.no, .callM [(.box 3 (fun j => [true, false, false].getD j true) (fun j => (cs_l00Src (l00Src.mk a0.code x6 x7)).getD j .nilptr) (fun j => [.nilptr, (.int .i64 v22.2.1), (.int .u64 v22.2.2)].getD j .nilptr))] [.agg (cs_Vector v22.1)] [[.view, .view, .view]] none] [0, 1, 4, 5, 6, 7] [0, 1, 2, 10, 25] ⟨tr, ⟨⟨⟨rfl, rfl, rfl, tr⟩, tr⟩, ok_spec_l01DrawVector K (l00Src.mk a0.code x6 x7) v22 e23⟩, tr, tr, tr⟩ ?_
      obtain ⟨c24, h⟩ := chk_some h
      refine AW.rA ⟨[(0, (vp 0 0)), (1, (vI a1)), (4, (vp 1 0)), (5, (vp 2 0)), (6, (vI x5))], [(0, (.box [(.fx 0 0 (sl 1 (csI .u8) a0.code)), (cI v22.2.1), (.c (.int .u64 v22.2.2))])), (1, (.box [.nils])), (2, (.box [(xL 31 4 cs_Bone (x8 ++ ([(Bone.mk ((-1) : Int) v22.1)])))])), (31, (oL 4 cs_Bone (x8 ++ ([(Bone.mk ((-1) : Int) v22.1)]))))]⟩ (Tt ∧ T2 ((([(Bone.mk ((-1) : Int) v22.1)]).length = 1 ∧ (((.int .i64 ((-1) : Int)) : C) = (.int .i64 ((-1) : Int)) ∧ Tt) ∧ (((.flt .f32 v22.1.X.bits) : C) = (.flt .f32 v22.1.X.bits) ∧ Tt) ∧ (((.flt .f32 v22.1.Y.bits) : C) = (.flt .f32 v22.1.Y.bits) ∧ Tt) ∧ (((.flt .f32 v22.1.Z.bits) : C) = (.flt .f32 v22.1.Z.bits) ∧ Tt) ∧ Tt) ∧ ((x8 ++ ([(Bone.mk ((-1) : Int) v22.1)])).length = x8.length + ([(Bone.mk ((-1) : Int) v22.1)]).length ∧ AppOb (x8.length) (([(Bone.mk ((-1) : Int) v22.1)]).length) 4 (gl cs_Bone x8) (gl cs_Bone ([(Bone.mk ((-1) : Int) v22.1)])) (gl cs_Bone (x8 ++ ([(Bone.mk ((-1) : Int) v22.1)]))) ∧ (∀ i j, i < ([(Bone.mk ((-1) : Int) v22.1)]).length → j < 4 → scalarC (gl cs_Bone ([(Bone.mk ((-1) : Int) v22.1)]) i j)) ∧ (x8.length + ([(Bone.mk ((-1) : Int) v22.1)]).length) * 24 ≤ 140737488355328) ∧ T2 Tt)) [.no, .no, .no, .obj 30 ([(Bone.mk ((-1) : Int) v22.1)]).length (gl cs_Bone ([(Bone.mk ((-1) : Int) v22.1)])), .objK 31 (x8 ++ ([(Bone.mk ((-1) : Int) v22.1)])).length (gl cs_Bone (x8 ++ ([(Bone.mk ((-1) : Int) v22.1)])))] [0, 1, 4, 5, 6] [0, 1, 2, 31] ⟨tr, tr, tr, ⟨rfl, ⟨⟨rfl, tr⟩, ⟨rfl, tr⟩, ⟨rfl, tr⟩, ⟨rfl, tr⟩, tr⟩⟩, ⟨List.length_append, gl_append, gl_scalar sc_Bone _, c24⟩, tr, tr, tr⟩ ?_
      refine blockQ_normal ?_
      refine thenQ_normal ?_
      refine AW.rA ⟨[(0, (vp 0 0)), (1, (vI a1)), (4, (vp 1 0)), (5, (vp 2 0)), (6, (vI (IntKind.i64.wrap (x5 + (1 : Int)))))], [(0, (.box [(.fx 0 0 (sl 1 (csI .u8) a0.code)), (cI v22.2.1), (.c (.int .u64 v22.2.2))])), (1, (.box [.nils])), (2, (.box [(xL 31 4 cs_Bone (x8 ++ ([(Bone.mk ((-1) : Int) v22.1)])))])), (31, (oL 4 cs_Bone (x8 ++ ([(Bone.mk ((-1) : Int) v22.1)]))))]⟩ (Tt ∧ T2 Tt) [] [0, 1, 4, 5, 6] [0, 1, 2, 31] ⟨tr, tr, tr, tr⟩ ?_
      exact loopQ_normal (k, (IntKind.i64.wrap (x5 + (1 : Int))), v22.2.1, v22.2.2, (x8 ++ ([(Bone.mk ((-1) : Int) v22.1)]))) h (Nat.lt_succ_self k) (Sub.trans (Sub.swap 10 31 _ (by kernel_rfl) (by kernel_rfl)) (Sub.keep [0, 1, 4, 5, 6] [0, 1, 2, 10] (by kernel_rfl) (by kernel_rfl)))
  · refine AW.cond_f rfl b9 ?_
    refine AW.exit ?_
    refine thenQ_exit ?_
    refine loopQ_exit ?_
    refine blockQ_exit ?_
    refine thenQ_normal ?_
    refine AW.sA ⟨[(0, (vp 0 0)), (1, (vI a1)), (4, (vp 1 0))], [(0, (.box [(.fx 0 0 (sl 1 (csI .u8) a0.code)), (cI x6), (.c (.int .u64 x7))])), (1, (.box [(xL 10 4 cs_Bone x8)])), (10, (oL 4 cs_Bone x8))]⟩ (T2 Tt) [] [0, 1, 4] [0, 1, 10] ⟨tr, tr, tr⟩ ?_
    refine AW.ret ?_
    replace h := some_eq h
    subst h
    exact ⟨.inr rfl, retOK_of [(.agg [(xL 10 4 cs_Bone x8)])] (by kernel_rfl) ⟨⟨rfl, tr⟩, tr⟩ (of_decide_eq_true (by kernel_rfl)), by kernel_rfl, ⟨⟨rfl, ⟨⟨rfl, rfl⟩, ⟨rfl, rfl⟩, ⟨rfl, rfl⟩, tr⟩⟩, tr, tr⟩⟩

/-! spec.B10Skeleton -/
def Zt1 (Q1 Q2 : Prop) : Prop := (Tt ∧ (Q1 ∧ (Tt ∧ (Tt ∧ (Q2 ∧ Tt)))))
theorem zt1 {Q1 Q2 : Prop} (q1 : Q1) (q2 : Q2) : Zt1 Q1 Q2 := ⟨tr, ⟨q1, ⟨tr, ⟨tr, ⟨q2, tr⟩⟩⟩⟩⟩
def Zt2 (QE Q1 Q2 : Prop) : Prop := ((Tt ∧ (Zt1 Q1 Q2)) ∧ (Tt ∧ (Zt1 Q1 Q2)) ∧ QE)
theorem zt2 {QE Q1 Q2 : Prop} (qe : QE) (q1 : Q1) (q2 : Q2) : Zt2 QE Q1 Q2 := ⟨⟨tr, (zt1 q1 q2)⟩, ⟨tr, (zt1 q1 q2)⟩, qe⟩
def Zt3 (QE Q1 Q2 : Prop) : Prop := ((Tt ∧ (Tt ∧ (Zt1 Q1 Q2))) ∧ (Tt ∧ (Zt2 QE Q1 Q2)) ∧ QE)
theorem zt3 {QE Q1 Q2 : Prop} (qe : QE) (q1 : Q1) (q2 : Q2) : Zt3 QE Q1 Q2 := ⟨⟨tr, ⟨tr, (zt1 q1 q2)⟩⟩, ⟨tr, (zt2 qe q1 q2)⟩, qe⟩
def Zt4 (QE Q0 Q1 Q2 : Prop) : Prop := ((Tt ∧ (Q0 ∧ (Tt ∧ (Zt1 Q1 Q2)))) ∧ (Q0 ∧ (Zt3 QE Q1 Q2)) ∧ QE)
theorem zt4 {QE Q0 Q1 Q2 : Prop} (qe : QE) (q0 : Q0) (q1 : Q1) (q2 : Q2) : Zt4 QE Q0 Q1 Q2 := ⟨⟨tr, ⟨q0, ⟨tr, (zt1 q1 q2)⟩⟩⟩, ⟨q0, (zt3 qe q1 q2)⟩, qe⟩
def spec_B10Skeleton_l1 (K : Nat) (a0 : (List Int)) (v3 : (Skeleton × Int × Int)) : Nat → Int → Int → Int → (List Bone) → Option (Skeleton)
  | 0, _, _, _, _ => none
  | k + 1, x9, x10, x11, x12 => ite2 ((decide (x9 < (v3.1.Bones.length : Int)))) ((spec_l00Src_pick K (l00Src.mk a0 x10 x11) (9 : Int)).bind fun v19 => chk (0 ≤ x9 ∧ x9 < (x12.length : Int)) ((some (x12.set x9.toNat (Bone.mk ((x12.getD x9.toNat default).Parent) (Vector.mk (Fl.ofInt .f32 (IntKind.i64.wrap (v19.1 - (4 : Int)))) (((x12.getD x9.toNat default).Offset).Y) (((x12.getD x9.toNat default).Offset).Z))))).bind fun y22 => (spec_l00Src_pick K (l00Src.mk a0 v19.2.1 v19.2.2) (9 : Int)).bind fun v29 => chk (0 ≤ x9 ∧ x9 < (y22.length : Int)) ((some (y22.set x9.toNat (Bone.mk ((y22.getD x9.toNat default).Parent) (Vector.mk (((y22.getD x9.toNat default).Offset).X) (Fl.ofInt .f32 (IntKind.i64.wrap (v29.1 - (4 : Int)))) (((y22.getD x9.toNat default).Offset).Z))))).bind fun y32 => (spec_l00Src_pick K (l00Src.mk a0 v29.2.1 v29.2.2) (9 : Int)).bind fun v39 => chk (0 ≤ x9 ∧ x9 < (y32.length : Int)) ((some (y32.set x9.toNat (Bone.mk ((y32.getD x9.toNat default).Parent) (Vector.mk (((y32.getD x9.toNat default).Offset).X) (((y32.getD x9.toNat default).Offset).Y) (Fl.ofInt .f32 (IntKind.i64.wrap (v39.1 - (4 : Int)))))))).bind fun y42 => spec_B10Skeleton_l1 K a0 v3 k (IntKind.i64.wrap (x9 + (1 : Int))) v39.2.1 v39.2.2 y42)))) (some (Skeleton.mk x12))

def spec_B10Skeleton (K : Nat) (a0 : (List Int)) : Option (Skeleton) :=
  (spec_l00Src_pick K (l00Src.mk a0 (0 : Int) (0 : Int)) (6 : Int)).bind fun v1 => (spec_l03DrawSized K (l00Src.mk a0 v1.2.1 v1.2.2) (IntKind.i64.wrap ((1 : Int) + v1.1))).bind fun v3 => spec_B10Skeleton_l1 K a0 v3 K (0 : Int) v3.2.1 v3.2.2 v3.1.Bones

theorem ok_spec_B10Skeleton (K : Nat) (a0 : (List Int)) (o : (Skeleton)) (h : spec_B10Skeleton K a0 = some o) : CallOK Try.prog 5 [.one (sl 1 (csI .u8) a0)] [.agg (cs_Skeleton o)] := by
  refine callOK_of_AW Try.func5 rfl (by kernel_rfl) (Nat.le_of_ble_eq_true (by kernel_rfl)) ?_
  intro w0
  unfold spec_B10Skeleton at h
  refine AW.sA ⟨[(0, (vc (sl 1 (csI .u8) a0))), (2, (vp 1 0))], [(1, (.box [.nils]))]⟩ (Tt ∧ Tt) [.box 1] [0, 2] [1] ⟨tr, tr⟩ ?_
  refine AW.seq (AW.mkA 1 2 [(.i64, 0), (.u64, 0)] [.no] [] [2, 3] [1, 2] (s' := ⟨[(2, (vp 1 0)), (3, (vp 2 0))], [(1, (.box [.nils])), (2, (.box [(.c (sl 1 (csI .u8) a0)), (cI (0 : Int)), (.c (.int .u64 (0 : Int)))]))]⟩) (ob := (Tt ∧ Tt) ∧ Tt ∧ (Tt ∧ Tt)) (by kernel_rfl) ⟨⟨tr, tr⟩, tr, ⟨tr, tr⟩⟩ mk_spec_l00From (thenQ_normal ?_))
  refine AW.seq ?_
  obtain ⟨v1, e2, h⟩ := bind_some h
  obtain ⟨v3, e4, h⟩ := bind_some h
  refine AW.tC (T2 (((((Eqc (sl 1 (csI .u8) a0)) ∧ (eI (0 : Int)) ∧ (Eqc (.int .u64 (0 : Int))) ∧ Tt) ∧ (eI (6 : Int)) ∧ Tt) ∧ MutOK Try.prog 19 [(.box 3 (fun j => [true, false, false].getD j true) (fun j => (cs_l00Src (l00Src.mk a0 (0 : Int) (0 : Int))).getD j .nilptr) (fun j => [.nilptr, (.int .i64 v1.2.1), (.int .u64 v1.2.2)].getD j .nilptr)), .one (.ro (.int .i64 (6 : Int)))] [.one (.int .i64 v1.1)]) ∧ Tt ∧ ((((Eqc (sl 1 (csI .u8) a0)) ∧ (eI v1.2.1) ∧ (Eqc (.int .u64 v1.2.2)) ∧ Tt) ∧ (eI (IntKind.i64.wrap ((1 : Int) + v1.1))) ∧ Tt) ∧ MutOK Try.prog 18 [(.box 3 (fun j => [true, false, false].getD j true) (fun j => (cs_l00Src (l00Src.mk a0 v1.2.1 v1.2.2)).getD j .nilptr) (fun j => [.nilptr, (.int .i64 v3.2.1), (.int .u64 v3.2.2)].getD j .nilptr)), .one (.ro (.int .i64 (IntKind.i64.wrap ((1 : Int) + v1.1))))] [.agg (cs_Skeleton v3.1)]) ∧ T2 Tt)) [.no, .no, .callM [(.box 3 (fun j => [true, false, false].getD j true) (fun j => (cs_l00Src (l00Src.mk a0 (0 : Int) (0 : Int))).getD j .nilptr) (fun j => [.nilptr, (.int .i64 v1.2.1), (.int .u64 v1.2.2)].getD j .nilptr)), .one (.ro (.int .i64 (6 : Int)))] [.one (.int .i64 v1.1)] [[.view]] none, .no, .callM [(.box 3 (fun j => [true, false, false].getD j true) (fun j => (cs_l00Src (l00Src.mk a0 v1.2.1 v1.2.2)).getD j .nilptr) (fun j => [.nilptr, (.int .i64 v3.2.1), (.int .u64 v3.2.2)].getD j .nilptr)), .one (.ro (.int .i64 (IntKind.i64.wrap ((1 : Int) + v1.1))))] [.agg (cs_Skeleton v3.1)] [[.own 3]] none, .box 4] [2, 3, 4] [1, 2, 3, 4] ⟨tr, tr, ⟨⟨⟨rfl, rfl, rfl, tr⟩, rfl, tr⟩, ok_spec_l00Src_pick K (l00Src.mk a0 (0 : Int) (0 : Int)) (6 : Int) v1 e2⟩, tr, ⟨⟨⟨rfl, rfl, rfl, tr⟩, rfl, tr⟩, ok_spec_l03DrawSized K (l00Src.mk a0 v1.2.1 v1.2.2) (IntKind.i64.wrap ((1 : Int) + v1.1)) v3 e4⟩, tr, tr, tr⟩ ?_
  refine AW.seq ?_
  refine AW.sA ⟨[(2, (vp 1 0)), (3, (vp 2 0)), (4, (vp 4 0)), (15, (vI (v3.1.Bones.length : Int))), (16, (vI (0 : Int)))], [(1, (.box [.nils])), (2, (.box [(.c (sl 1 (csI .u8) a0)), (cI v3.2.1), (.c (.int .u64 v3.2.2))])), (3, (oA 4 cs_Bone v3.1.Bones)), (4, (.box [(.arr 3)]))]⟩ (T4 Tt) [] [2, 3, 4, 15, 16] [1, 2, 3, 4] ⟨tr, tr, tr, tr, tr⟩ ?_
  refine AW.block ?_
  refine AW.loopQ (σ := Nat × Int × Int × Int × (List Bone)) (fun p => ⟨[(2, (vp 1 0)), (3, (vp 2 0)), (4, (vp 4 0)), (15, (vI (v3.1.Bones.length : Int))), (16, (vI p.2.1))], [(1, (.box [.nils])), (2, (.box [(.c (sl 1 (csI .u8) a0)), (cI p.2.2.1), (.c (.int .u64 p.2.2.2.1))])), (3, (oA 4 cs_Bone p.2.2.2.2)), (4, (.box [(.arr 3)]))]⟩) (fun p => spec_B10Skeleton_l1 K a0 v3 p.1 p.2.1 p.2.2.1 p.2.2.2.1 p.2.2.2.2 = some o) (fun p => p.1) (K, (0 : Int), v3.2.1, v3.2.2, v3.1.Bones) h ?_
  clear h
  rintro ⟨k, x9, x10, x11, x12⟩ h
  replace h : spec_B10Skeleton_l1 K a0 v3 k x9 x10 x11 x12 = some o := h
  show AW _ _ (⟨[(2, (vp 1 0)), (3, (vp 2 0)), (4, (vp 4 0)), (15, (vI (v3.1.Bones.length : Int))), (16, (vI x9))], [(1, (.box [.nils])), (2, (.box [(.c (sl 1 (csI .u8) a0)), (cI x10), (.c (.int .u64 x11))])), (3, (oA 4 cs_Bone x12)), (4, (.box [(.arr 3)]))]⟩ : St) _
  obtain _ | k := k
  · rw [spec_B10Skeleton_l1] at h; cases h
  rw [spec_B10Skeleton_l1] at h
  refine AW.sA ⟨[(2, (vp 1 0)), (3, (vp 2 0)), (4, (vp 4 0)), (15, (vI (v3.1.Bones.length : Int))), (16, (vI x9)), (17, (vB (decide (x9 < (v3.1.Bones.length : Int)))))], [(1, (.box [.nils])), (2, (.box [(.c (sl 1 (csI .u8) a0)), (cI x10), (.c (.int .u64 x11))])), (3, (oA 4 cs_Bone x12)), (4, (.box [(.arr 3)]))]⟩ (Tt ∧ Tt) [] [2, 3, 4, 15, 16, 17] [1, 2, 3, 4] ⟨tr, tr⟩ ?_
  refine AW.seq ?_
  rcases ite2_cases h with ⟨b13, h⟩ | ⟨b13, h⟩
  · refine AW.cond_t rfl b13 ?_
    refine AW.skip ?_
    refine thenQ_normal ?_
    refine AW.seq ?_
    refine AW.block ?_
    refine AW.sA ⟨[(2, (vp 1 0)), (3, (vp 2 0)), (4, (vp 4 0)), (5, (vI x9)), (15, (vI (v3.1.Bones.length : Int))), (16, (vI x9))], [(1, (.box [.nils])), (2, (.box [(.c (sl 1 (csI .u8) a0)), (cI x10), (.c (.int .u64 x11))])), (3, (oA 4 cs_Bone x12)), (4, (.box [(.arr 3)]))]⟩ (T2 Tt) [] [2, 3, 4, 5, 15, 16] [1, 2, 3, 4] ⟨tr, tr, tr⟩ ?_
    refine AW.seq ?_
    obtain ⟨v19, e20, h⟩ := bind_some h
    obtain ⟨c21, h⟩ := chk_some h
    obtain ⟨y22, e23, h⟩ := bind_some h
    refine AW.firstA (by kernel_rfl) [0, 2, 3] [.no, .no, .no, .no, .callM [(.box 3 (fun j => [true, false, false].getD j true) (fun j => (cs_l00Src (l00Src.mk a0 x10 x11)).getD j .nilptr) (fun j => [.nilptr, (.int .i64 v19.2.1), (.int .u64 v19.2.2)].getD j .nilptr)), .one (.ro (.int .i64 (9 : Int)))] [.one (.int .i64 v19.1)] [[.view]] none, .no, .no, .no, .no, .no, .set y22.length (gl cs_Bone y22) ((List.range 1).map fun j => (cs_Bone (Bone.mk ((x12.getD x9.toNat default).Parent) (Vector.mk (Fl.ofInt .f32 (IntKind.i64.wrap (v19.1 - (4 : Int)))) (((x12.getD x9.toNat default).Offset).Y) (((x12.getD x9.toNat default).Offset).Z)))).getD (1 + j) .nilptr)] [2, 3, 4, 5, 15, 16] [1, 2, 3, 4] (s' := ⟨[(2, (vp 1 0)), (3, (vp 2 0)), (4, (vp 4 0)), (5, (vI x9)), (15, (vI (v3.1.Bones.length : Int))), (16, (vI x9))], [(1, (.box [.nils])), (2, (.box [(.c (sl 1 (csI .u8) a0)), (cI v19.2.1), (.c (.int .u64 v19.2.2))])), (3, (oA 4 cs_Bone y22)), (4, (.box [(.arr 3)]))]⟩) (ob := (Zt4 ((⟨[(2, (vp 1 0)), (3, (vp 2 0)), (4, (vp 4 0)), (5, (vI x9)), (15, (vI (v3.1.Bones.length : Int))), (16, (vI x9))], [(1, (.box [.nils])), (2, (.box [(.c (sl 1 (csI .u8) a0)), (cI v19.2.1), (.c (.int .u64 v19.2.2))])), (3, (oA 4 cs_Bone y22)), (4, (.box [(.arr 3)]))]⟩ : St) = ⟨[(2, (vp 1 0)), (3, (vp 2 0)), (4, (vp 4 0)), (5, (vI x9)), (15, (vI (v3.1.Bones.length : Int))), (16, (vI x9))], [(1, (.box [.nils])), (2, (.box [(.c (sl 1 (csI .u8) a0)), (cI v19.2.1), (.c (.int .u64 v19.2.2))])), (3, (oA 4 cs_Bone y22)), (4, (.box [(.arr 3)]))]⟩) (((((Eqc (sl 1 (csI .u8) a0)) ∧ (eI x10) ∧ (Eqc (.int .u64 x11)) ∧ Tt) ∧ (eI (9 : Int)) ∧ Tt) ∧ MutOK Try.prog 19 [(.box 3 (fun j => [true, false, false].getD j true) (fun j => (cs_l00Src (l00Src.mk a0 x10 x11)).getD j .nilptr) (fun j => [.nilptr, (.int .i64 v19.2.1), (.int .u64 v19.2.2)].getD j .nilptr)), .one (.ro (.int .i64 (9 : Int)))] [.one (.int .i64 v19.1)])) ((0 ≤ x9 ∧ x9 < (x12.length : Int))) ((y22.length = x12.length ∧ SetOb x12.length 4 x9.toNat 1 1 (gl cs_Bone x12) (gl cs_Bone y22) ∧ ((List.range 1).map fun j => (cs_Bone (Bone.mk ((x12.getD x9.toNat default).Parent) (Vector.mk (Fl.ofInt .f32 (IntKind.i64.wrap (v19.1 - (4 : Int)))) (((x12.getD x9.toNat default).Offset).Y) (((x12.getD x9.toNat default).Offset).Z)))).getD (1 + j) .nilptr) = ((List.range 1).map fun j => gl cs_Bone y22 x9.toNat (1 + j)) ∧ ((((.flt .f32 (Fl.ofInt .f32 (IntKind.i64.wrap (v19.1 - (4 : Int)))).bits) : C) = (.flt .f32 (Fl.ofInt .f32 (IntKind.i64.wrap (v19.1 - (4 : Int)))).bits) ∧ Tt) ∧ Tt) ∧ (true = true → ∀ j, j < 1 → isSeq (gl cs_Bone x12 x9.toNat (1 + j)) = false ∧ isSeq (gl cs_Bone y22 x9.toNat (1 + j)) = false))))) (by kernel_rfl) (zt4 rfl ⟨⟨⟨rfl, rfl, rfl, tr⟩, rfl, tr⟩, ok_spec_l00Src_pick K (l00Src.mk a0 x10 x11) (9 : Int) v19 e20⟩ (c21) ((letP (some_eq e23) (fun z => (z.length = x12.length ∧ SetOb x12.length 4 x9.toNat 1 1 (gl cs_Bone x12) (gl cs_Bone z) ∧ ((List.range 1).map fun j => (cs_Bone (Bone.mk ((x12.getD x9.toNat default).Parent) (Vector.mk (Fl.ofInt .f32 (IntKind.i64.wrap (v19.1 - (4 : Int)))) (((x12.getD x9.toNat default).Offset).Y) (((x12.getD x9.toNat default).Offset).Z)))).getD (1 + j) .nilptr) = ((List.range 1).map fun j => gl cs_Bone z x9.toNat (1 + j)) ∧ ((((.flt .f32 (Fl.ofInt .f32 (IntKind.i64.wrap (v19.1 - (4 : Int)))).bits) : C) = (.flt .f32 (Fl.ofInt .f32 (IntKind.i64.wrap (v19.1 - (4 : Int)))).bits) ∧ Tt) ∧ Tt) ∧ (true = true → ∀ j, j < 1 → isSeq (gl cs_Bone x12 x9.toNat (1 + j)) = false ∧ isSeq (gl cs_Bone z x9.toNat (1 + j)) = false))) ⟨List.length_set, gl_setp (fun j hj hn => match j, hj, hn with | 0, _, _ => rfl | 1, _, hn => absurd ⟨by decide, by decide⟩ hn | 2, _, _ => rfl | 3, _, _ => rfl) (lt_of_bound c21), (gl_atp (lt_of_bound c21)).symm, ⟨⟨rfl, tr⟩, tr⟩, (fun _ j hj => match j, hj with | 0, _ => ⟨rfl, rfl⟩)⟩))) ?_
    refine thenQ_normal ?_
    refine AW.seq ?_
    obtain ⟨v29, e30, h⟩ := bind_some h
    obtain ⟨c31, h⟩ := chk_some h
    obtain ⟨y32, e33, h⟩ := bind_some h
    refine AW.firstA (by kernel_rfl) [0, 2, 3] [.no, .no, .no, .no, .callM [(.box 3 (fun j => [true, false, false].getD j true) (fun j => (cs_l00Src (l00Src.mk a0 v19.2.1 v19.2.2)).getD j .nilptr) (fun j => [.nilptr, (.int .i64 v29.2.1), (.int .u64 v29.2.2)].getD j .nilptr)), .one (.ro (.int .i64 (9 : Int)))] [.one (.int .i64 v29.1)] [[.view]] none, .no, .no, .no, .no, .no, .set y32.length (gl cs_Bone y32) ((List.range 1).map fun j => (cs_Bone (Bone.mk ((y22.getD x9.toNat default).Parent) (Vector.mk (((y22.getD x9.toNat default).Offset).X) (Fl.ofInt .f32 (IntKind.i64.wrap (v29.1 - (4 : Int)))) (((y22.getD x9.toNat default).Offset).Z)))).getD (2 + j) .nilptr)] [2, 3, 4, 5, 15, 16] [1, 2, 3, 4] (s' := ⟨[(2, (vp 1 0)), (3, (vp 2 0)), (4, (vp 4 0)), (5, (vI x9)), (15, (vI (v3.1.Bones.length : Int))), (16, (vI x9))], [(1, (.box [.nils])), (2, (.box [(.c (sl 1 (csI .u8) a0)), (cI v29.2.1), (.c (.int .u64 v29.2.2))])), (3, (oA 4 cs_Bone y32)), (4, (.box [(.arr 3)]))]⟩) (ob := (Zt4 ((⟨[(2, (vp 1 0)), (3, (vp 2 0)), (4, (vp 4 0)), (5, (vI x9)), (15, (vI (v3.1.Bones.length : Int))), (16, (vI x9))], [(1, (.box [.nils])), (2, (.box [(.c (sl 1 (csI .u8) a0)), (cI v29.2.1), (.c (.int .u64 v29.2.2))])), (3, (oA 4 cs_Bone y32)), (4, (.box [(.arr 3)]))]⟩ : St) = ⟨[(2, (vp 1 0)), (3, (vp 2 0)), (4, (vp 4 0)), (5, (vI x9)), (15, (vI (v3.1.Bones.length : Int))), (16, (vI x9))], [(1, (.box [.nils])), (2, (.box [(.c (sl 1 (csI .u8) a0)), (cI v29.2.1), (.c (.int .u64 v29.2.2))])), (3, (oA 4 cs_Bone y32)), (4, (.box [(.arr 3)]))]⟩) (((((Eqc (sl 1 (csI .u8) a0)) ∧ (eI v19.2.1) ∧ (Eqc (.int .u64 v19.2.2)) ∧ Tt) ∧ (eI (9 : Int)) ∧ Tt) ∧ MutOK Try.prog 19 [(.box 3 (fun j => [true, false, false].getD j true) (fun j => (cs_l00Src (l00Src.mk a0 v19.2.1 v19.2.2)).getD j .nilptr) (fun j => [.nilptr, (.int .i64 v29.2.1), (.int .u64 v29.2.2)].getD j .nilptr)), .one (.ro (.int .i64 (9 : Int)))] [.one (.int .i64 v29.1)])) ((0 ≤ x9 ∧ x9 < (y22.length : Int))) ((y32.length = y22.length ∧ SetOb y22.length 4 x9.toNat 2 1 (gl cs_Bone y22) (gl cs_Bone y32) ∧ ((List.range 1).map fun j => (cs_Bone (Bone.mk ((y22.getD x9.toNat default).Parent) (Vector.mk (((y22.getD x9.toNat default).Offset).X) (Fl.ofInt .f32 (IntKind.i64.wrap (v29.1 - (4 : Int)))) (((y22.getD x9.toNat default).Offset).Z)))).getD (2 + j) .nilptr) = ((List.range 1).map fun j => gl cs_Bone y32 x9.toNat (2 + j)) ∧ ((((.flt .f32 (Fl.ofInt .f32 (IntKind.i64.wrap (v29.1 - (4 : Int)))).bits) : C) = (.flt .f32 (Fl.ofInt .f32 (IntKind.i64.wrap (v29.1 - (4 : Int)))).bits) ∧ Tt) ∧ Tt) ∧ (true = true → ∀ j, j < 1 → isSeq (gl cs_Bone y22 x9.toNat (2 + j)) = false ∧ isSeq (gl cs_Bone y32 x9.toNat (2 + j)) = false))))) (by kernel_rfl) (zt4 rfl ⟨⟨⟨rfl, rfl, rfl, tr⟩, rfl, tr⟩, ok_spec_l00Src_pick K (l00Src.mk a0 v19.2.1 v19.2.2) (9 : Int) v29 e30⟩ (c31) ((letP (some_eq e33) (fun z => (z.length = y22.length ∧ SetOb y22.length 4 x9.toNat 2 1 (gl cs_Bone y22) (gl cs_Bone z) ∧ ((List.range 1).map fun j => (cs_Bone (Bone.mk ((y22.getD x9.toNat default).Parent) (Vector.mk (((y22.getD x9.toNat default).Offset).X) (Fl.ofInt .f32 (IntKind.i64.wrap (v29.1 - (4 : Int)))) (((y22.getD x9.toNat default).Offset).Z)))).getD (2 + j) .nilptr) = ((List.range 1).map fun j => gl cs_Bone z x9.toNat (2 + j)) ∧ ((((.flt .f32 (Fl.ofInt .f32 (IntKind.i64.wrap (v29.1 - (4 : Int)))).bits) : C) = (.flt .f32 (Fl.ofInt .f32 (IntKind.i64.wrap (v29.1 - (4 : Int)))).bits) ∧ Tt) ∧ Tt) ∧ (true = true → ∀ j, j < 1 → isSeq (gl cs_Bone y22 x9.toNat (2 + j)) = false ∧ isSeq (gl cs_Bone z x9.toNat (2 + j)) = false))) ⟨List.length_set, gl_setp (fun j hj hn => match j, hj, hn with | 0, _, _ => rfl | 1, _, _ => rfl | 2, _, hn => absurd ⟨by decide, by decide⟩ hn | 3, _, _ => rfl) (lt_of_bound c31), (gl_atp (lt_of_bound c31)).symm, ⟨⟨rfl, tr⟩, tr⟩, (fun _ j hj => match j, hj with | 0, _ => ⟨rfl, rfl⟩)⟩))) ?_
    refine thenQ_normal ?_
    obtain ⟨v39, e40, h⟩ := bind_some h
    obtain ⟨c41, h⟩ := chk_some h
    obtain ⟨y42, e43, h⟩ := bind_some h
    refine AW.firstA (by kernel_rfl) [0, 2, 3] [.no, .no, .no, .no, .callM [(.box 3 (fun j => [true, false, false].getD j true) (fun j => (cs_l00Src (l00Src.mk a0 v29.2.1 v29.2.2)).getD j .nilptr) (fun j => [.nilptr, (.int .i64 v39.2.1), (.int .u64 v39.2.2)].getD j .nilptr)), .one (.ro (.int .i64 (9 : Int)))] [.one (.int .i64 v39.1)] [[.view]] none, .no, .no, .no, .no, .no, .set y42.length (gl cs_Bone y42) ((List.range 1).map fun j => (cs_Bone (Bone.mk ((y32.getD x9.toNat default).Parent) (Vector.mk (((y32.getD x9.toNat default).Offset).X) (((y32.getD x9.toNat default).Offset).Y) (Fl.ofInt .f32 (IntKind.i64.wrap (v39.1 - (4 : Int))))))).getD (3 + j) .nilptr)] [2, 3, 4, 15, 16] [1, 2, 3, 4] (s' := ⟨[(2, (vp 1 0)), (3, (vp 2 0)), (4, (vp 4 0)), (15, (vI (v3.1.Bones.length : Int))), (16, (vI x9))], [(1, (.box [.nils])), (2, (.box [(.c (sl 1 (csI .u8) a0)), (cI v39.2.1), (.c (.int .u64 v39.2.2))])), (3, (oA 4 cs_Bone y42)), (4, (.box [(.arr 3)]))]⟩) (ob := (Zt4 ((⟨[(2, (vp 1 0)), (3, (vp 2 0)), (4, (vp 4 0)), (15, (vI (v3.1.Bones.length : Int))), (16, (vI x9))], [(1, (.box [.nils])), (2, (.box [(.c (sl 1 (csI .u8) a0)), (cI v39.2.1), (.c (.int .u64 v39.2.2))])), (3, (oA 4 cs_Bone y42)), (4, (.box [(.arr 3)]))]⟩ : St) = ⟨[(2, (vp 1 0)), (3, (vp 2 0)), (4, (vp 4 0)), (15, (vI (v3.1.Bones.length : Int))), (16, (vI x9))], [(1, (.box [.nils])), (2, (.box [(.c (sl 1 (csI .u8) a0)), (cI v39.2.1), (.c (.int .u64 v39.2.2))])), (3, (oA 4 cs_Bone y42)), (4, (.box [(.arr 3)]))]⟩) (((((Eqc (sl 1 (csI .u8) a0)) ∧ (eI v29.2.1) ∧ (Eqc (.int .u64 v29.2.2)) ∧ Tt) ∧ (eI (9 : Int)) ∧ Tt) ∧ MutOK Try.prog 19 [(.box 3 (fun j => [true, false, false].getD j true) (fun j => (cs_l00Src (l00Src.mk a0 v29.2.1 v29.2.2)).getD j .nilptr) (fun j => [.nilptr, (.int .i64 v39.2.1), (.int .u64 v39.2.2)].getD j .nilptr)), .one (.ro (.int .i64 (9 : Int)))] [.one (.int .i64 v39.1)])) ((0 ≤ x9 ∧ x9 < (y32.length : Int))) ((y42.length = y32.length ∧ SetOb y32.length 4 x9.toNat 3 1 (gl cs_Bone y32) (gl cs_Bone y42) ∧ ((List.range 1).map fun j => (cs_Bone (Bone.mk ((y32.getD x9.toNat default).Parent) (Vector.mk (((y32.getD x9.toNat default).Offset).X) (((y32.getD x9.toNat default).Offset).Y) (Fl.ofInt .f32 (IntKind.i64.wrap (v39.1 - (4 : Int))))))).getD (3 + j) .nilptr) = ((List.range 1).map fun j => gl cs_Bone y42 x9.toNat (3 + j)) ∧ ((((.flt .f32 (Fl.ofInt .f32 (IntKind.i64.wrap (v39.1 - (4 : Int)))).bits) : C) = (.flt .f32 (Fl.ofInt .f32 (IntKind.i64.wrap (v39.1 - (4 : Int)))).bits) ∧ Tt) ∧ Tt) ∧ (true = true → ∀ j, j < 1 → isSeq (gl cs_Bone y32 x9.toNat (3 + j)) = false ∧ isSeq (gl cs_Bone y42 x9.toNat (3 + j)) = false))))) (by kernel_rfl) (zt4 rfl ⟨⟨⟨rfl, rfl, rfl, tr⟩, rfl, tr⟩, ok_spec_l00Src_pick K (l00Src.mk a0 v29.2.1 v29.2.2) (9 : Int) v39 e40⟩ (c41) ((letP (some_eq e43) (fun z => (z.length = y32.length ∧ SetOb y32.length 4 x9.toNat 3 1 (gl cs_Bone y32) (gl cs_Bone z) ∧ ((List.range 1).map fun j => (cs_Bone (Bone.mk ((y32.getD x9.toNat default).Parent) (Vector.mk (((y32.getD x9.toNat default).Offset).X) (((y32.getD x9.toNat default).Offset).Y) (Fl.ofInt .f32 (IntKind.i64.wrap (v39.1 - (4 : Int))))))).getD (3 + j) .nilptr) = ((List.range 1).map fun j => gl cs_Bone z x9.toNat (3 + j)) ∧ ((((.flt .f32 (Fl.ofInt .f32 (IntKind.i64.wrap (v39.1 - (4 : Int)))).bits) : C) = (.flt .f32 (Fl.ofInt .f32 (IntKind.i64.wrap (v39.1 - (4 : Int)))).bits) ∧ Tt) ∧ Tt) ∧ (true = true → ∀ j, j < 1 → isSeq (gl cs_Bone y32 x9.toNat (3 + j)) = false ∧ isSeq (gl cs_Bone z x9.toNat (3 + j)) = false))) ⟨List.length_set, gl_setp (fun j hj hn => match j, hj, hn with | 0, _, _ => rfl | 1, _, _ => rfl | 2, _, _ => rfl | 3, _, hn => absurd ⟨by decide, by decide⟩ hn) (lt_of_bound c41), (gl_atp (lt_of_bound c41)).symm, ⟨⟨rfl, tr⟩, tr⟩, (fun _ j hj => match j, hj with | 0, _ => ⟨rfl, rfl⟩)⟩))) ?_
    refine blockQ_normal ?_
    refine thenQ_normal ?_
    refine AW.rA ⟨[(2, (vp 1 0)), (3, (vp 2 0)), (4, (vp 4 0)), (15, (vI (v3.1.Bones.length : Int))), (16, (vI (IntKind.i64.wrap (x9 + (1 : Int)))))], [(1, (.box [.nils])), (2, (.box [(.c (sl 1 (csI .u8) a0)), (cI v39.2.1), (.c (.int .u64 v39.2.2))])), (3, (oA 4 cs_Bone y42)), (4, (.box [(.arr 3)]))]⟩ (T2 Tt) [] [2, 3, 4, 15, 16] [1, 2, 3, 4] ⟨tr, tr, tr⟩ ?_
    exact loopQ_normal (k, (IntKind.i64.wrap (x9 + (1 : Int))), v39.2.1, v39.2.2, y42) h (Nat.lt_succ_self k) (Sub.keep [2, 3, 4, 15, 16] [1, 2, 3, 4] (by kernel_rfl) (by kernel_rfl))
  · refine AW.cond_f rfl b13 ?_
    refine AW.exit ?_
    refine thenQ_exit ?_
    refine loopQ_exit ?_
    refine blockQ_exit ?_
    refine thenQ_normal ?_
    refine AW.sA ⟨[(2, (vp 1 0))], [(1, (.box [(.arr 3)])), (3, (oA 4 cs_Bone x12))]⟩ (T2 Tt) [] [2] [1, 3] ⟨tr, tr, tr⟩ ?_
    refine AW.ret ?_
    replace h := some_eq h
    subst h
    exact ⟨.inr rfl, retOK_of [(.agg [(.arr 3)])] (by kernel_rfl) ⟨⟨rfl, tr⟩, tr⟩ (of_decide_eq_true (by kernel_rfl))⟩

/-! spec.l02DrawExact -/
def spec_l02DrawExact (K : Nat) (a0 : l00Src) : Option (Turn × Int × Int) :=
  (spec_l00Src_pick K a0 (24 : Int)).bind fun v1 => ite2 ((decide (v1.1 < (8 : Int)))) (ite2 ((decide (v1.1 ≥ (4 : Int)))) (chk ((4 : Int) ≠ 0) (ite2 (((v1.1.tmod (4 : Int)) == (0 : Int))) (some ((Turn.mk (Fl.mk (k := .f32) 3212836864 (by decide)) (default : F32) (default : F32) (default : F32)), v1.2.1, v1.2.2)) (ite2 (((v1.1.tmod (4 : Int)) == (1 : Int))) (some ((Turn.mk (default : F32) (Fl.mk (k := .f32) 3212836864 (by decide)) (default : F32) (default : F32)), v1.2.1, v1.2.2)) (ite2 (((v1.1.tmod (4 : Int)) == (2 : Int))) (some ((Turn.mk (default : F32) (default : F32) (Fl.mk (k := .f32) 3212836864 (by decide)) (default : F32)), v1.2.1, v1.2.2)) (some ((Turn.mk (default : F32) (default : F32) (default : F32) (Fl.mk (k := .f32) 3212836864 (by decide))), v1.2.1, v1.2.2)))))) (chk ((4 : Int) ≠ 0) (ite2 (((v1.1.tmod (4 : Int)) == (0 : Int))) (some ((Turn.mk (Fl.mk (k := .f32) 1065353216 (by decide)) (default : F32) (default : F32) (default : F32)), v1.2.1, v1.2.2)) (ite2 (((v1.1.tmod (4 : Int)) == (1 : Int))) (some ((Turn.mk (default : F32) (Fl.mk (k := .f32) 1065353216 (by decide)) (default : F32) (default : F32)), v1.2.1, v1.2.2)) (ite2 (((v1.1.tmod (4 : Int)) == (2 : Int))) (some ((Turn.mk (default : F32) (default : F32) (Fl.mk (k := .f32) 1065353216 (by decide)) (default : F32)), v1.2.1, v1.2.2)) (some ((Turn.mk (default : F32) (default : F32) (default : F32) (Fl.mk (k := .f32) 1065353216 (by decide))), v1.2.1, v1.2.2))))))) (chk (0 ≤ (1 : Int)) (chk (0 ≤ (2 : Int)) (chk (0 ≤ (3 : Int)) (some ((Turn.mk ((Fl.ofInt .f32 (bits .and .i64 (IntKind.i64.wrap (v1.1 - (8 : Int))) (1 : Int))).sub (Fl.mk (k := .f32) 1056964608 (by decide))) ((Fl.ofInt .f32 (bits .and .i64 ((IntKind.i64.wrap (v1.1 - (8 : Int))).fdiv (2 ^ (min (1 : Int).toNat (IntKind.bits .i64)))) (1 : Int))).sub (Fl.mk (k := .f32) 1056964608 (by decide))) ((Fl.ofInt .f32 (bits .and .i64 ((IntKind.i64.wrap (v1.1 - (8 : Int))).fdiv (2 ^ (min (2 : Int).toNat (IntKind.bits .i64)))) (1 : Int))).sub (Fl.mk (k := .f32) 1056964608 (by decide))) ((Fl.ofInt .f32 (bits .and .i64 ((IntKind.i64.wrap (v1.1 - (8 : Int))).fdiv (2 ^ (min (3 : Int).toNat (IntKind.bits .i64)))) (1 : Int))).sub (Fl.mk (k := .f32) 1056964608 (by decide)))), v1.2.1, v1.2.2)))))

theorem ok_spec_l02DrawExact (K : Nat) (a0 : l00Src) (o : (Turn × Int × Int)) (h : spec_l02DrawExact K a0 = some o) : MutOK Try.prog 20 [(.box 3 (fun j => [true, false, false].getD j true) (fun j => (cs_l00Src a0).getD j .nilptr) (fun j => [.nilptr, (.int .i64 o.2.1), (.int .u64 o.2.2)].getD j .nilptr))] [.agg (cs_Turn o.1)] := by
  refine mutOK_of_AW 1 Try.func20 rfl (by kernel_rfl) (Nat.le_of_ble_eq_true (by kernel_rfl)) (by kernel_rfl) (by kernel_rfl) ?_
  intro w0 K0 v0 s0
  unfold spec_l02DrawExact at h
  refine AW.weak (s' := ⟨[(0, (vp 0 0))], [(0, (.box [(.fx 0 0 (sl 1 (csI .u8) a0.code)), (cI a0.at_), (.c (.int .u64 a0.seed))]))]⟩) (subUnfx 0 [1, 2] (by kernel_rfl)) ?_
  refine AW.sC (Tt ∧ Tt) [.box 1] [0, 2] [0, 1] ⟨tr, tr⟩ ?_
  refine AW.seq ?_
  obtain ⟨v1, e2, h⟩ := bind_some h
  refine AW.tC (Tt ∧ ((((Eqc (sl 1 (csI .u8) a0.code)) ∧ (eI a0.at_) ∧ (Eqc (.int .u64 a0.seed)) ∧ Tt) ∧ (eI (24 : Int)) ∧ Tt) ∧ MutOK Try.prog 19 [(.box 3 (fun j => [true, false, false].getD j true) (fun j => (cs_l00Src a0).getD j .nilptr) (fun j => [.nilptr, (.int .i64 v1.2.1), (.int .u64 v1.2.2)].getD j .nilptr)), .one (.ro (.int .i64 (24 : Int)))] [.one (.int .i64 v1.1)]) ∧ Tt ∧ Tt) [.no, .callM [(.box 3 (fun j => [true, false, false].getD j true) (fun j => (cs_l00Src a0).getD j .nilptr) (fun j => [.nilptr, (.int .i64 v1.2.1), (.int .u64 v1.2.2)].getD j .nilptr)), .one (.ro (.int .i64 (24 : Int)))] [.one (.int .i64 v1.1)] [[.view]] none] [0, 2, 3] [0, 1] ⟨tr, ⟨⟨⟨rfl, rfl, rfl, tr⟩, rfl, tr⟩, ok_spec_l00Src_pick K a0 (24 : Int) v1 e2⟩, tr, tr⟩ ?_
  refine AW.seq ?_
  refine AW.sA ⟨[(0, (vp 0 0)), (2, (vp 1 0)), (3, (vI v1.1)), (8, (vB (decide (v1.1 < (8 : Int)))))], [(0, (.box [(.fx 0 0 (sl 1 (csI .u8) a0.code)), (cI v1.2.1), (.c (.int .u64 v1.2.2))])), (1, (.box [(cF (default : F32)), (cF (default : F32)), (cF (default : F32)), (cF (default : F32))]))]⟩ (T2 Tt) [] [0, 2, 3, 8] [0, 1] ⟨tr, tr, tr⟩ ?_
  rcases ite2_cases h with ⟨b3, h⟩ | ⟨b3, h⟩
  · refine AW.cond_t rfl b3 ?_
    refine AW.sC (Tt ∧ Tt) [] [0, 2, 3, 4] [0, 1] ⟨tr, tr⟩ ?_
    refine AW.seq ?_
    refine AW.sA ⟨[(0, (vp 0 0)), (2, (vp 1 0)), (3, (vI v1.1)), (4, (vc (.flt .f32 (Fl.mk (k := .f32) 1065353216 (by decide)).bits))), (10, (vB (decide (v1.1 ≥ (4 : Int)))))], [(0, (.box [(.fx 0 0 (sl 1 (csI .u8) a0.code)), (cI v1.2.1), (.c (.int .u64 v1.2.2))])), (1, (.box [(cF (default : F32)), (cF (default : F32)), (cF (default : F32)), (cF (default : F32))]))]⟩ (T2 Tt) [] [0, 2, 3, 4, 10] [0, 1] ⟨tr, tr, tr⟩ ?_
    rcases ite2_cases h with ⟨b4, h⟩ | ⟨b4, h⟩
    · refine AW.cond_t rfl b4 ?_
      refine AW.tC (Tt ∧ Tt) [] [0, 2, 3, 4] [0, 1] ⟨tr, tr⟩ ?_
      refine AW.seq ?_
      refine AW.seq ?_
      obtain ⟨c5, h⟩ := chk_some h
      refine AW.tA ⟨[(0, (vp 0 0)), (2, (vp 1 0)), (4, (vc (.flt .f32 (Fl.mk (k := .f32) 3212836864 (by decide)).bits))), (12, (vI (v1.1.tmod (4 : Int))))], [(0, (.box [(.fx 0 0 (sl 1 (csI .u8) a0.code)), (cI v1.2.1), (.c (.int .u64 v1.2.2))])), (1, (.box [(cF (default : F32)), (cF (default : F32)), (cF (default : F32)), (cF (default : F32))]))]⟩ (Tt ∧ ((4 : Int) ≠ 0) ∧ Tt) [] [0, 2, 4, 12] [0, 1] ⟨tr, c5, tr⟩ ?_
      refine AW.block ?_
      refine AW.sA ⟨[(0, (vp 0 0)), (2, (vp 1 0)), (4, (vc (.flt .f32 (Fl.mk (k := .f32) 3212836864 (by decide)).bits))), (12, (vI (v1.1.tmod (4 : Int)))), (13, (vB ((v1.1.tmod (4 : Int)) == (0 : Int))))], [(0, (.box [(.fx 0 0 (sl 1 (csI .u8) a0.code)), (cI v1.2.1), (.c (.int .u64 v1.2.2))])), (1, (.box [(cF (default : F32)), (cF (default : F32)), (cF (default : F32)), (cF (default : F32))]))]⟩ (T2 Tt) [] [0, 2, 4, 12, 13] [0, 1] ⟨tr, tr, tr⟩ ?_
      rcases ite2_cases h with ⟨b6, h⟩ | ⟨b6, h⟩
      · refine AW.cond_t rfl b6 ?_
        refine AW.sA ⟨[(0, (vp 0 0)), (2, (vp 1 0))], [(0, (.box [(.fx 0 0 (sl 1 (csI .u8) a0.code)), (cI v1.2.1), (.c (.int .u64 v1.2.2))])), (1, (.box [(cF (Fl.mk (k := .f32) 3212836864 (by decide))), (cF (default : F32)), (cF (default : F32)), (cF (default : F32))]))]⟩ (Tt ∧ T2 Tt) [] [0, 2] [0, 1] ⟨tr, tr, tr, tr⟩ ?_
        refine AW.ret ?_
        refine blockQ_ret ?_
        refine thenQ_ret ?_
        refine thenQ_ret ?_
        replace h := some_eq h
        subst h
        exact ⟨.inr rfl, retOK_of [(.agg [(cF (Fl.mk (k := .f32) 3212836864 (by decide))), (cF (default : F32)), (cF (default : F32)), (cF (default : F32))])] (by kernel_rfl) ⟨⟨⟨rfl, tr⟩, ⟨rfl, tr⟩, ⟨rfl, tr⟩, ⟨rfl, tr⟩, tr⟩, tr⟩ (of_decide_eq_true (by kernel_rfl)), by kernel_rfl, ⟨⟨rfl, ⟨⟨rfl, rfl⟩, ⟨rfl, rfl⟩, ⟨rfl, rfl⟩, tr⟩⟩, tr⟩⟩
      · refine AW.cond_f rfl b6 ?_
        refine AW.sA ⟨[(0, (vp 0 0)), (2, (vp 1 0)), (4, (vc (.flt .f32 (Fl.mk (k := .f32) 3212836864 (by decide)).bits))), (12, (vI (v1.1.tmod (4 : Int)))), (17, (vB ((v1.1.tmod (4 : Int)) == (1 : Int))))], [(0, (.box [(.fx 0 0 (sl 1 (csI .u8) a0.code)), (cI v1.2.1), (.c (.int .u64 v1.2.2))])), (1, (.box [(cF (default : F32)), (cF (default : F32)), (cF (default : F32)), (cF (default : F32))]))]⟩ (T2 Tt) [] [0, 2, 4, 12, 17] [0, 1] ⟨tr, tr, tr⟩ ?_
        rcases ite2_cases h with ⟨b7, h⟩ | ⟨b7, h⟩
        · refine AW.cond_t rfl b7 ?_
          refine AW.sA ⟨[(0, (vp 0 0)), (2, (vp 1 0))], [(0, (.box [(.fx 0 0 (sl 1 (csI .u8) a0.code)), (cI v1.2.1), (.c (.int .u64 v1.2.2))])), (1, (.box [(cF (default : F32)), (cF (Fl.mk (k := .f32) 3212836864 (by decide))), (cF (default : F32)), (cF (default : F32))]))]⟩ (Tt ∧ T2 Tt) [] [0, 2] [0, 1] ⟨tr, tr, tr, tr⟩ ?_
          refine AW.ret ?_
          refine blockQ_ret ?_
          refine thenQ_ret ?_
          refine thenQ_ret ?_
          replace h := some_eq h
          subst h
          exact ⟨.inr rfl, retOK_of [(.agg [(cF (default : F32)), (cF (Fl.mk (k := .f32) 3212836864 (by decide))), (cF (default : F32)), (cF (default : F32))])] (by kernel_rfl) ⟨⟨⟨rfl, tr⟩, ⟨rfl, tr⟩, ⟨rfl, tr⟩, ⟨rfl, tr⟩, tr⟩, tr⟩ (of_decide_eq_true (by kernel_rfl)), by kernel_rfl, ⟨⟨rfl, ⟨⟨rfl, rfl⟩, ⟨rfl, rfl⟩, ⟨rfl, rfl⟩, tr⟩⟩, tr⟩⟩
        · refine AW.cond_f rfl b7 ?_
          refine AW.sA ⟨[(0, (vp 0 0)), (2, (vp 1 0)), (4, (vc (.flt .f32 (Fl.mk (k := .f32) 3212836864 (by decide)).bits))), (21, (vB ((v1.1.tmod (4 : Int)) == (2 : Int))))], [(0, (.box [(.fx 0 0 (sl 1 (csI .u8) a0.code)), (cI v1.2.1), (.c (.int .u64 v1.2.2))])), (1, (.box [(cF (default : F32)), (cF (default : F32)), (cF (default : F32)), (cF (default : F32))]))]⟩ (T2 Tt) [] [0, 2, 4, 21] [0, 1] ⟨tr, tr, tr⟩ ?_
          rcases ite2_cases h with ⟨b8, h⟩ | ⟨b8, h⟩
          · refine AW.cond_t rfl b8 ?_
            refine AW.sA ⟨[(0, (vp 0 0)), (2, (vp 1 0))], [(0, (.box [(.fx 0 0 (sl 1 (csI .u8) a0.code)), (cI v1.2.1), (.c (.int .u64 v1.2.2))])), (1, (.box [(cF (default : F32)), (cF (default : F32)), (cF (Fl.mk (k := .f32) 3212836864 (by decide))), (cF (default : F32))]))]⟩ (Tt ∧ T2 Tt) [] [0, 2] [0, 1] ⟨tr, tr, tr, tr⟩ ?_
            refine AW.ret ?_
            refine blockQ_ret ?_
            refine thenQ_ret ?_
            refine thenQ_ret ?_
            replace h := some_eq h
            subst h
            exact ⟨.inr rfl, retOK_of [(.agg [(cF (default : F32)), (cF (default : F32)), (cF (Fl.mk (k := .f32) 3212836864 (by decide))), (cF (default : F32))])] (by kernel_rfl) ⟨⟨⟨rfl, tr⟩, ⟨rfl, tr⟩, ⟨rfl, tr⟩, ⟨rfl, tr⟩, tr⟩, tr⟩ (of_decide_eq_true (by kernel_rfl)), by kernel_rfl, ⟨⟨rfl, ⟨⟨rfl, rfl⟩, ⟨rfl, rfl⟩, ⟨rfl, rfl⟩, tr⟩⟩, tr⟩⟩
          · refine AW.cond_f rfl b8 ?_
            refine AW.skip ?_
            refine blockQ_normal ?_
            refine thenQ_normal ?_
            refine AW.sA ⟨[(0, (vp 0 0)), (2, (vp 1 0))], [(0, (.box [(.fx 0 0 (sl 1 (csI .u8) a0.code)), (cI v1.2.1), (.c (.int .u64 v1.2.2))])), (1, (.box [(cF (default : F32)), (cF (default : F32)), (cF (default : F32)), (cF (Fl.mk (k := .f32) 3212836864 (by decide)))]))]⟩ (Tt ∧ T2 Tt) [] [0, 2] [0, 1] ⟨tr, tr, tr, tr⟩ ?_
            refine AW.ret ?_
            refine thenQ_ret ?_
            replace h := some_eq h
            subst h
            exact ⟨.inr rfl, retOK_of [(.agg [(cF (default : F32)), (cF (default : F32)), (cF (default : F32)), (cF (Fl.mk (k := .f32) 3212836864 (by decide)))])] (by kernel_rfl) ⟨⟨⟨rfl, tr⟩, ⟨rfl, tr⟩, ⟨rfl, tr⟩, ⟨rfl, tr⟩, tr⟩, tr⟩ (of_decide_eq_true (by kernel_rfl)), by kernel_rfl, ⟨⟨rfl, ⟨⟨rfl, rfl⟩, ⟨rfl, rfl⟩, ⟨rfl, rfl⟩, tr⟩⟩, tr⟩⟩
    · refine AW.cond_f rfl b4 ?_
      refine AW.skip ?_
      refine thenQ_normal ?_
      refine AW.seq ?_
      refine AW.seq ?_
      obtain ⟨c9, h⟩ := chk_some h
      refine AW.tA ⟨[(0, (vp 0 0)), (2, (vp 1 0)), (4, (vc (.flt .f32 (Fl.mk (k := .f32) 1065353216 (by decide)).bits))), (12, (vI (v1.1.tmod (4 : Int))))], [(0, (.box [(.fx 0 0 (sl 1 (csI .u8) a0.code)), (cI v1.2.1), (.c (.int .u64 v1.2.2))])), (1, (.box [(cF (default : F32)), (cF (default : F32)), (cF (default : F32)), (cF (default : F32))]))]⟩ (Tt ∧ ((4 : Int) ≠ 0) ∧ Tt) [] [0, 2, 4, 12] [0, 1] ⟨tr, c9, tr⟩ ?_
      refine AW.block ?_
      refine AW.sA ⟨[(0, (vp 0 0)), (2, (vp 1 0)), (4, (vc (.flt .f32 (Fl.mk (k := .f32) 1065353216 (by decide)).bits))), (12, (vI (v1.1.tmod (4 : Int)))), (13, (vB ((v1.1.tmod (4 : Int)) == (0 : Int))))], [(0, (.box [(.fx 0 0 (sl 1 (csI .u8) a0.code)), (cI v1.2.1), (.c (.int .u64 v1.2.2))])), (1, (.box [(cF (default : F32)), (cF (default : F32)), (cF (default : F32)), (cF (default : F32))]))]⟩ (T2 Tt) [] [0, 2, 4, 12, 13] [0, 1] ⟨tr, tr, tr⟩ ?_
      rcases ite2_cases h with ⟨b10, h⟩ | ⟨b10, h⟩
      · refine AW.cond_t rfl b10 ?_
        refine AW.sA ⟨[(0, (vp 0 0)), (2, (vp 1 0))], [(0, (.box [(.fx 0 0 (sl 1 (csI .u8) a0.code)), (cI v1.2.1), (.c (.int .u64 v1.2.2))])), (1, (.box [(cF (Fl.mk (k := .f32) 1065353216 (by decide))), (cF (default : F32)), (cF (default : F32)), (cF (default : F32))]))]⟩ (Tt ∧ T2 Tt) [] [0, 2] [0, 1] ⟨tr, tr, tr, tr⟩ ?_
        refine AW.ret ?_
        refine blockQ_ret ?_
        refine thenQ_ret ?_
        refine thenQ_ret ?_
        replace h := some_eq h
        subst h
        exact ⟨.inr rfl, retOK_of [(.agg [(cF (Fl.mk (k := .f32) 1065353216 (by decide))), (cF (default : F32)), (cF (default : F32)), (cF (default : F32))])] (by kernel_rfl) ⟨⟨⟨rfl, tr⟩, ⟨rfl, tr⟩, ⟨rfl, tr⟩, ⟨rfl, tr⟩, tr⟩, tr⟩ (of_decide_eq_true (by kernel_rfl)), by kernel_rfl, ⟨⟨rfl, ⟨⟨rfl, rfl⟩, ⟨rfl, rfl⟩, ⟨rfl, rfl⟩, tr⟩⟩, tr⟩⟩
      · refine AW.cond_f rfl b10 ?_
        refine AW.sA ⟨[(0, (vp 0 0)), (2, (vp 1 0)), (4, (vc (.flt .f32 (Fl.mk (k := .f32) 1065353216 (by decide)).bits))), (12, (vI (v1.1.tmod (4 : Int)))), (17, (vB ((v1.1.tmod (4 : Int)) == (1 : Int))))], [(0, (.box [(.fx 0 0 (sl 1 (csI .u8) a0.code)), (cI v1.2.1), (.c (.int .u64 v1.2.2))])), (1, (.box [(cF (default : F32)), (cF (default : F32)), (cF (default : F32)), (cF (default : F32))]))]⟩ (T2 Tt) [] [0, 2, 4, 12, 17] [0, 1] ⟨tr, tr, tr⟩ ?_
        rcases ite2_cases h with ⟨b11, h⟩ | ⟨b11, h⟩
        · refine AW.cond_t rfl b11 ?_
          refine AW.sA ⟨[(0, (vp 0 0)), (2, (vp 1 0))], [(0, (.box [(.fx 0 0 (sl 1 (csI .u8) a0.code)), (cI v1.2.1), (.c (.int .u64 v1.2.2))])), (1, (.box [(cF (default : F32)), (cF (Fl.mk (k := .f32) 1065353216 (by decide))), (cF (default : F32)), (cF (default : F32))]))]⟩ (Tt ∧ T2 Tt) [] [0, 2] [0, 1] ⟨tr, tr, tr, tr⟩ ?_
          refine AW.ret ?_
          refine blockQ_ret ?_
          refine thenQ_ret ?_
          refine thenQ_ret ?_
          replace h := some_eq h
          subst h
          exact ⟨.inr rfl, retOK_of [(.agg [(cF (default : F32)), (cF (Fl.mk (k := .f32) 1065353216 (by decide))), (cF (default : F32)), (cF (default : F32))])] (by kernel_rfl) ⟨⟨⟨rfl, tr⟩, ⟨rfl, tr⟩, ⟨rfl, tr⟩, ⟨rfl, tr⟩, tr⟩, tr⟩ (of_decide_eq_true (by kernel_rfl)), by kernel_rfl, ⟨⟨rfl, ⟨⟨rfl, rfl⟩, ⟨rfl, rfl⟩, ⟨rfl, rfl⟩, tr⟩⟩, tr⟩⟩
        · refine AW.cond_f rfl b11 ?_
          refine AW.sA ⟨[(0, (vp 0 0)), (2, (vp 1 0)), (4, (vc (.flt .f32 (Fl.mk (k := .f32) 1065353216 (by decide)).bits))), (21, (vB ((v1.1.tmod (4 : Int)) == (2 : Int))))], [(0, (.box [(.fx 0 0 (sl 1 (csI .u8) a0.code)), (cI v1.2.1), (.c (.int .u64 v1.2.2))])), (1, (.box [(cF (default : F32)), (cF (default : F32)), (cF (default : F32)), (cF (default : F32))]))]⟩ (T2 Tt) [] [0, 2, 4, 21] [0, 1] ⟨tr, tr, tr⟩ ?_
          rcases ite2_cases h with ⟨b12, h⟩ | ⟨b12, h⟩
          · refine AW.cond_t rfl b12 ?_
            refine AW.sA ⟨[(0, (vp 0 0)), (2, (vp 1 0))], [(0, (.box [(.fx 0 0 (sl 1 (csI .u8) a0.code)), (cI v1.2.1), (.c (.int .u64 v1.2.2))])), (1, (.box [(cF (default : F32)), (cF (default : F32)), (cF (Fl.mk (k := .f32) 1065353216 (by decide))), (cF (default : F32))]))]⟩ (Tt ∧ T2 Tt) [] [0, 2] [0, 1] ⟨tr, tr, tr, tr⟩ ?_
            refine AW.ret ?_
            refine blockQ_ret ?_
            refine thenQ_ret ?_
            refine thenQ_ret ?_
            replace h := some_eq h
            subst h
            exact ⟨.inr rfl, retOK_of [(.agg [(cF (default : F32)), (cF (default : F32)), (cF (Fl.mk (k := .f32) 1065353216 (by decide))), (cF (default : F32))])] (by kernel_rfl) ⟨⟨⟨rfl, tr⟩, ⟨rfl, tr⟩, ⟨rfl, tr⟩, ⟨rfl, tr⟩, tr⟩, tr⟩ (of_decide_eq_true (by kernel_rfl)), by kernel_rfl, ⟨⟨rfl, ⟨⟨rfl, rfl⟩, ⟨rfl, rfl⟩, ⟨rfl, rfl⟩, tr⟩⟩, tr⟩⟩
          · refine AW.cond_f rfl b12 ?_
            refine AW.skip ?_
            refine blockQ_normal ?_
            refine thenQ_normal ?_
            refine AW.sA ⟨[(0, (vp 0 0)), (2, (vp 1 0))], [(0, (.box [(.fx 0 0 (sl 1 (csI .u8) a0.code)), (cI v1.2.1), (.c (.int .u64 v1.2.2))])), (1, (.box [(cF (default : F32)), (cF (default : F32)), (cF (default : F32)), (cF (Fl.mk (k := .f32) 1065353216 (by decide)))]))]⟩ (Tt ∧ T2 Tt) [] [0, 2] [0, 1] ⟨tr, tr, tr, tr⟩ ?_
            refine AW.ret ?_
            refine thenQ_ret ?_
            replace h := some_eq h
            subst h
            exact ⟨.inr rfl, retOK_of [(.agg [(cF (default : F32)), (cF (default : F32)), (cF (default : F32)), (cF (Fl.mk (k := .f32) 1065353216 (by decide)))])] (by kernel_rfl) ⟨⟨⟨rfl, tr⟩, ⟨rfl, tr⟩, ⟨rfl, tr⟩, ⟨rfl, tr⟩, tr⟩, tr⟩ (of_decide_eq_true (by kernel_rfl)), by kernel_rfl, ⟨⟨rfl, ⟨⟨rfl, rfl⟩, ⟨rfl, rfl⟩, ⟨rfl, rfl⟩, tr⟩⟩, tr⟩⟩
  · refine AW.cond_f rfl b3 ?_
    refine AW.skip ?_
    refine thenQ_normal ?_
    refine AW.sC (Tt ∧ T2 Tt) [] [0, 2, 3] [0, 1] ⟨tr, tr, tr, tr⟩ ?_
    refine AW.seq ?_
    obtain ⟨c13, h⟩ := chk_some h
    obtain ⟨c14, h⟩ := chk_some h
    obtain ⟨c15, h⟩ := chk_some h
    refine AW.tA ⟨[(0, (vp 0 0)), (2, (vp 1 0))], [(0, (.box [(.fx 0 0 (sl 1 (csI .u8) a0.code)), (cI v1.2.1), (.c (.int .u64 v1.2.2))])), (1, (.box [(cF ((Fl.ofInt .f32 (bits .and .i64 (IntKind.i64.wrap (v1.1 - (8 : Int))) (1 : Int))).sub (Fl.mk (k := .f32) 1056964608 (by decide)))), (cF ((Fl.ofInt .f32 (bits .and .i64 ((IntKind.i64.wrap (v1.1 - (8 : Int))).fdiv (2 ^ (min (1 : Int).toNat (IntKind.bits .i64)))) (1 : Int))).sub (Fl.mk (k := .f32) 1056964608 (by decide)))), (cF ((Fl.ofInt .f32 (bits .and .i64 ((IntKind.i64.wrap (v1.1 - (8 : Int))).fdiv (2 ^ (min (2 : Int).toNat (IntKind.bits .i64)))) (1 : Int))).sub (Fl.mk (k := .f32) 1056964608 (by decide)))), (cF ((Fl.ofInt .f32 (bits .and .i64 ((IntKind.i64.wrap (v1.1 - (8 : Int))).fdiv (2 ^ (min (3 : Int).toNat (IntKind.bits .i64)))) (1 : Int))).sub (Fl.mk (k := .f32) 1056964608 (by decide))))]))]⟩ (Tt ∧ T4 ((0 ≤ (1 : Int)) ∧ T4 ((0 ≤ (2 : Int)) ∧ T4 ((0 ≤ (3 : Int)) ∧ Tt ∧ T4 Tt)))) [] [0, 2] [0, 1] ⟨tr, tr, tr, tr, tr, c13, tr, tr, tr, tr, c14, tr, tr, tr, tr, c15, tr, tr, tr, tr, tr, tr⟩ ?_
    refine AW.ret ?_
    replace h := some_eq h
    subst h
    exact ⟨.inr rfl, retOK_of [(.agg [(cF ((Fl.ofInt .f32 (bits .and .i64 (IntKind.i64.wrap (v1.1 - (8 : Int))) (1 : Int))).sub (Fl.mk (k := .f32) 1056964608 (by decide)))), (cF ((Fl.ofInt .f32 (bits .and .i64 ((IntKind.i64.wrap (v1.1 - (8 : Int))).fdiv (2 ^ (min (1 : Int).toNat (IntKind.bits .i64)))) (1 : Int))).sub (Fl.mk (k := .f32) 1056964608 (by decide)))), (cF ((Fl.ofInt .f32 (bits .and .i64 ((IntKind.i64.wrap (v1.1 - (8 : Int))).fdiv (2 ^ (min (2 : Int).toNat (IntKind.bits .i64)))) (1 : Int))).sub (Fl.mk (k := .f32) 1056964608 (by decide)))), (cF ((Fl.ofInt .f32 (bits .and .i64 ((IntKind.i64.wrap (v1.1 - (8 : Int))).fdiv (2 ^ (min (3 : Int).toNat (IntKind.bits .i64)))) (1 : Int))).sub (Fl.mk (k := .f32) 1056964608 (by decide))))])] (by kernel_rfl) ⟨⟨⟨rfl, tr⟩, ⟨rfl, tr⟩, ⟨rfl, tr⟩, ⟨rfl, tr⟩, tr⟩, tr⟩ (of_decide_eq_true (by kernel_rfl)), by kernel_rfl, ⟨⟨rfl, ⟨⟨rfl, rfl⟩, ⟨rfl, rfl⟩, ⟨rfl, rfl⟩, tr⟩⟩, tr⟩⟩

/-! spec.B10Exact -/
def Zt5 (Q0 Q1 Q2 : Prop) : Prop := (Q0 ∧ (Q1 ∧ (Q2 ∧ (Tt ∧ (Tt ∧ Tt)))))
theorem zt5 {Q0 Q1 Q2 : Prop} (q0 : Q0) (q1 : Q1) (q2 : Q2) : Zt5 Q0 Q1 Q2 := ⟨q0, ⟨q1, ⟨q2, ⟨tr, ⟨tr, tr⟩⟩⟩⟩⟩
def Zt6 (QE Q1 Q2 : Prop) : Prop := ((Tt ∧ (Q1 ∧ (Q2 ∧ (Tt ∧ (Tt ∧ Tt))))) ∧ (Q1 ∧ (Tt ∧ (Q2 ∧ (Tt ∧ (Tt ∧ Tt))))) ∧ QE)
theorem zt6 {QE Q1 Q2 : Prop} (qe : QE) (q1 : Q1) (q2 : Q2) : Zt6 QE Q1 Q2 := ⟨⟨tr, ⟨q1, ⟨q2, ⟨tr, ⟨tr, tr⟩⟩⟩⟩⟩, ⟨q1, ⟨tr, ⟨q2, ⟨tr, ⟨tr, tr⟩⟩⟩⟩⟩, qe⟩
def Zt7 (QE Q0 Q1 Q2 : Prop) : Prop := ((Tt ∧ (Zt5 Q0 Q1 Q2)) ∧ (Q0 ∧ (Zt6 QE Q1 Q2)) ∧ QE)
theorem zt7 {QE Q0 Q1 Q2 : Prop} (qe : QE) (q0 : Q0) (q1 : Q1) (q2 : Q2) : Zt7 QE Q0 Q1 Q2 := ⟨⟨tr, (zt5 q0 q1 q2)⟩, ⟨q0, (zt6 qe q1 q2)⟩, qe⟩
def spec_B10Exact_l1 (K : Nat) (a0 : (List Int)) (v1 : (Int × Int × Int)) (v3 : (Int × Int × Int)) : Nat → Int → Int → Int → (List Turn) → Option (Pose)
  | 0, _, _, _, _ => none
  | k + 1, x9, x10, x11, x12 => ite2 ((decide (x9 > (0 : Int)))) ((spec_l02DrawExact K (l00Src.mk a0 x10 x11)).bind fun v14 => chk ((x12.length + ([v14.1]).length) * 16 ≤ 140737488355328) (spec_B10Exact_l1 K a0 v1 v3 k (IntKind.i64.wrap (x9 - (1 : Int))) v14.2.1 v14.2.2 (x12 ++ ([v14.1])))) (some (Pose.mk (Vector.mk (Fl.ofInt .f32 (IntKind.i64.wrap (v1.1 - (4 : Int)))) (Fl.ofInt .f32 (IntKind.i64.wrap (v3.1 - (4 : Int)))) (default : F32)) x12))

def spec_B10Exact (K : Nat) (a0 : (List Int)) (a1 : Int) : Option (Pose) :=
  (spec_l00Src_pick K (l00Src.mk a0 (0 : Int) (0 : Int)) (9 : Int)).bind fun v1 => (spec_l00Src_pick K (l00Src.mk a0 v1.2.1 v1.2.2) (9 : Int)).bind fun v3 => spec_B10Exact_l1 K a0 v1 v3 K a1 v3.2.1 v3.2.2 ([] : List Turn)

theorem ok_spec_B10Exact (K : Nat) (a0 : (List Int)) (a1 : Int) (o : (Pose)) (h : spec_B10Exact K a0 a1 = some o) : CallOK Try.prog 6 [.one (sl 1 (csI .u8) a0), .one (.int .i64 a1)] [.agg (cs_Pose o)] := by
  refine callOK_of_AW Try.func6 rfl (by kernel_rfl) (Nat.le_of_ble_eq_true (by kernel_rfl)) ?_
  intro w0
  unfold spec_B10Exact at h
  refine AW.sA ⟨[(0, (vc (sl 1 (csI .u8) a0))), (1, (vI a1)), (4, (vp 1 0))], [(1, (.box [(cF (default : F32)), (cF (default : F32)), (cF (default : F32)), .nils]))]⟩ (Tt ∧ Tt) [.box 1] [0, 1, 4] [1] ⟨tr, tr⟩ ?_
  refine AW.seq (AW.mkA 1 2 [(.i64, 0), (.u64, 0)] [.no] [] [1, 4, 5] [1, 2] (s' := ⟨[(1, (vI a1)), (4, (vp 1 0)), (5, (vp 2 0))], [(1, (.box [(cF (default : F32)), (cF (default : F32)), (cF (default : F32)), .nils])), (2, (.box [(.c (sl 1 (csI .u8) a0)), (cI (0 : Int)), (.c (.int .u64 (0 : Int)))]))]⟩) (ob := (Tt ∧ Tt) ∧ Tt ∧ (Tt ∧ Tt)) (by kernel_rfl) ⟨⟨tr, tr⟩, tr, ⟨tr, tr⟩⟩ mk_spec_l00From (thenQ_normal ?_))
  refine AW.sC ((([] : List Turn).length = 0 ∧ Tt) ∧ Tt ∧ T2 Tt) [.obj 3 ([] : List Turn).length (gl cs_Turn ([] : List Turn)), .no, .box 4] [1, 4, 5, 6] [1, 2, 3, 4] ⟨⟨rfl, tr⟩, tr, tr, tr, tr⟩ ?_
  refine AW.seq ?_
  obtain ⟨v1, e2, h⟩ := bind_some h
  refine AW.tC (Tt ∧ ((((Eqc (sl 1 (csI .u8) a0)) ∧ (eI (0 : Int)) ∧ (Eqc (.int .u64 (0 : Int))) ∧ Tt) ∧ (eI (9 : Int)) ∧ Tt) ∧ MutOK Try.prog 19 [(.box 3 (fun j => [true, false, false].getD j true) (fun j => (cs_l00Src (l00Src.mk a0 (0 : Int) (0 : Int))).getD j .nilptr) (fun j => [.nilptr, (.int .i64 v1.2.1), (.int .u64 v1.2.2)].getD j .nilptr)), .one (.ro (.int .i64 (9 : Int)))] [.one (.int .i64 v1.1)]) ∧ Tt ∧ T4 Tt) [.no, .callM [(.box 3 (fun j => [true, false, false].getD j true) (fun j => (cs_l00Src (l00Src.mk a0 (0 : Int) (0 : Int))).getD j .nilptr) (fun j => [.nilptr, (.int .i64 v1.2.1), (.int .u64 v1.2.2)].getD j .nilptr)), .one (.ro (.int .i64 (9 : Int)))] [.one (.int .i64 v1.1)] [[.view]] none] [1, 4, 5, 6] [1, 2, 3, 4] ⟨tr, ⟨⟨⟨rfl, rfl, rfl, tr⟩, rfl, tr⟩, ok_spec_l00Src_pick K (l00Src.mk a0 (0 : Int) (0 : Int)) (9 : Int) v1 e2⟩, tr, tr, tr, tr, tr, tr⟩ ?_
  refine AW.seq ?_
  obtain ⟨v3, e4, h⟩ := bind_some h
  refine AW.tA ⟨[(1, (vI a1)), (4, (vp 1 0)), (5, (vp 2 0)), (6, (vp 4 0))], [(1, (.box [(cF (default : F32)), (cF (default : F32)), (cF (default : F32)), .nils])), (2, (.box [(.c (sl 1 (csI .u8) a0)), (cI v3.2.1), (.c (.int .u64 v3.2.2))])), (3, (oL 4 cs_Turn ([] : List Turn))), (4, (.box [(cF (Fl.ofInt .f32 (IntKind.i64.wrap (v1.1 - (4 : Int))))), (cF (Fl.ofInt .f32 (IntKind.i64.wrap (v3.1 - (4 : Int))))), (cF (default : F32)), (xL 3 4 cs_Turn ([] : List Turn))]))]⟩ (Tt ∧ ((((Eqc (sl 1 (csI .u8) a0)) ∧ (eI v1.2.1) ∧ (Eqc (.int .u64 v1.2.2)) ∧ Tt) ∧ (eI (9 : Int)) ∧ Tt) ∧ MutOK Try.prog 19 [(.box 3 (fun j => [true, false, false].getD j true) (fun j => (cs_l00Src (l00Src.mk a0 v1.2.1 v1.2.2)).getD j .nilptr) (fun j => [.nilptr, (.int .i64 v3.2.1), (.int .u64 v3.2.2)].getD j .nilptr)), .one (.ro (.int .i64 (9 : Int)))] [.one (.int .i64 v3.1)]) ∧ Tt ∧ T4 Tt) [.no, .callM [(.box 3 (fun j => [true, false, false].getD j true) (fun j => (cs_l00Src (l00Src.mk a0 v1.2.1 v1.2.2)).getD j .nilptr) (fun j => [.nilptr, (.int .i64 v3.2.1), (.int .u64 v3.2.2)].getD j .nilptr)), .one (.ro (.int .i64 (9 : Int)))] [.one (.int .i64 v3.1)] [[.view]] none] [1, 4, 5, 6] [1, 2, 3, 4] ⟨tr, ⟨⟨⟨rfl, rfl, rfl, tr⟩, rfl, tr⟩, ok_spec_l00Src_pick K (l00Src.mk a0 v1.2.1 v1.2.2) (9 : Int) v3 e4⟩, tr, tr, tr, tr, tr, tr⟩ ?_
  refine AW.seq ?_
  refine AW.block ?_
  refine AW.loopQ (σ := Nat × Int × Int × Int × (List Turn)) (fun p => ⟨[(1, (vI p.2.1)), (4, (vp 1 0)), (5, (vp 2 0)), (6, (vp 4 0))], [(1, (.box [(cF (default : F32)), (cF (default : F32)), (cF (default : F32)), .nils])), (2, (.box [(.c (sl 1 (csI .u8) a0)), (cI p.2.2.1), (.c (.int .u64 p.2.2.2.1))])), (3, (oL 4 cs_Turn p.2.2.2.2)), (4, (.box [(cF (Fl.ofInt .f32 (IntKind.i64.wrap (v1.1 - (4 : Int))))), (cF (Fl.ofInt .f32 (IntKind.i64.wrap (v3.1 - (4 : Int))))), (cF (default : F32)), (xL 3 4 cs_Turn p.2.2.2.2)]))]⟩) (fun p => spec_B10Exact_l1 K a0 v1 v3 p.1 p.2.1 p.2.2.1 p.2.2.2.1 p.2.2.2.2 = some o) (fun p => p.1) (K, a1, v3.2.1, v3.2.2, ([] : List Turn)) h ?_
  clear h
  rintro ⟨k, x9, x10, x11, x12⟩ h
  replace h : spec_B10Exact_l1 K a0 v1 v3 k x9 x10 x11 x12 = some o := h
  show AW _ _ (⟨[(1, (vI x9)), (4, (vp 1 0)), (5, (vp 2 0)), (6, (vp 4 0))], [(1, (.box [(cF (default : F32)), (cF (default : F32)), (cF (default : F32)), .nils])), (2, (.box [(.c (sl 1 (csI .u8) a0)), (cI x10), (.c (.int .u64 x11))])), (3, (oL 4 cs_Turn x12)), (4, (.box [(cF (Fl.ofInt .f32 (IntKind.i64.wrap (v1.1 - (4 : Int))))), (cF (Fl.ofInt .f32 (IntKind.i64.wrap (v3.1 - (4 : Int))))), (cF (default : F32)), (xL 3 4 cs_Turn x12)]))]⟩ : St) _
  obtain _ | k := k
  · rw [spec_B10Exact_l1] at h; cases h
  rw [spec_B10Exact_l1] at h
  refine AW.seq ?_
  refine AW.sA ⟨[(1, (vI x9)), (4, (vp 1 0)), (5, (vp 2 0)), (6, (vp 4 0)), (24, (vB (decide (x9 > (0 : Int)))))], [(1, (.box [(cF (default : F32)), (cF (default : F32)), (cF (default : F32)), .nils])), (2, (.box [(.c (sl 1 (csI .u8) a0)), (cI x10), (.c (.int .u64 x11))])), (3, (oL 4 cs_Turn x12)), (4, (.box [(cF (Fl.ofInt .f32 (IntKind.i64.wrap (v1.1 - (4 : Int))))), (cF (Fl.ofInt .f32 (IntKind.i64.wrap (v3.1 - (4 : Int))))), (cF (default : F32)), (xL 3 4 cs_Turn x12)]))]⟩ (T2 Tt) [] [1, 4, 5, 6, 24] [1, 2, 3, 4] ⟨tr, tr, tr⟩ ?_
  rcases ite2_cases h with ⟨b13, h⟩ | ⟨b13, h⟩
  · refine AW.cond_t rfl b13 ?_
    refine AW.skip ?_
    refine thenQ_normal ?_
    refine AW.seq ?_
    refine AW.block ?_
    obtain ⟨v14, e15, h⟩ := bind_some h
    obtain ⟨c16, h⟩ := chk_some h
    refine AW.firstA (by kernel_rfl) [0, 2] [.no, .no, .no, .callM [(.box 3 (fun j => [true, false, false].getD j true) (fun j => (cs_l00Src (l00Src.mk a0 x10 x11)).getD j .nilptr) (fun j => [.nilptr, (.int .i64 v14.2.1), (.int .u64 v14.2.2)].getD j .nilptr))] [.agg (cs_Turn v14.1)] [[.view, .view, .view, .view]] none, .obj 9 ([v14.1]).length (gl cs_Turn ([v14.1])), .objK 10 (x12 ++ ([v14.1])).length (gl cs_Turn (x12 ++ ([v14.1])))] [1, 4, 5, 6] [1, 2, 4, 10] (s' := ⟨[(1, (vI x9)), (4, (vp 1 0)), (5, (vp 2 0)), (6, (vp 4 0))], [(1, (.box [(cF (default : F32)), (cF (default : F32)), (cF (default : F32)), .nils])), (2, (.box [(.c (sl 1 (csI .u8) a0)), (cI v14.2.1), (.c (.int .u64 v14.2.2))])), (4, (.box [(cF (Fl.ofInt .f32 (IntKind.i64.wrap (v1.1 - (4 : Int))))), (cF (Fl.ofInt .f32 (IntKind.i64.wrap (v3.1 - (4 : Int))))), (cF (default : F32)), (xL 10 4 cs_Turn (x12 ++ ([v14.1])))])), (10, (oL 4 cs_Turn (x12 ++ ([v14.1]))))]⟩) (ob := (Zt7 ((⟨[(1, (vI x9)), (4, (vp 1 0)), (5, (vp 2 0)), (6, (vp 4 0))], [(1, (.box [(cF (default : F32)), (cF (default : F32)), (cF (default : F32)), .nils])), (2, (.box [(.c (sl 1 (csI .u8) a0)), (cI v14.2.1), (.c (.int .u64 v14.2.2))])), (4, (.box [(cF (Fl.ofInt .f32 (IntKind.i64.wrap (v1.1 - (4 : Int))))), (cF (Fl.ofInt .f32 (IntKind.i64.wrap (v3.1 - (4 : Int))))), (cF (default : F32)), (xL 10 4 cs_Turn (x12 ++ ([v14.1])))])), (10, (oL 4 cs_Turn (x12 ++ ([v14.1]))))]⟩ : St) = ⟨[(1, (vI x9)), (4, (vp 1 0)), (5, (vp 2 0)), (6, (vp 4 0))], [(1, (.box [(cF (default : F32)), (cF (default : F32)), (cF (default : F32)), .nils])), (2, (.box [(.c (sl 1 (csI .u8) a0)), (cI v14.2.1), (.c (.int .u64 v14.2.2))])), (4, (.box [(cF (Fl.ofInt .f32 (IntKind.i64.wrap (v1.1 - (4 : Int))))), (cF (Fl.ofInt .f32 (IntKind.i64.wrap (v3.1 - (4 : Int))))), (cF (default : F32)), (xL 10 4 cs_Turn (x12 ++ ([v14.1])))])), (10, (oL 4 cs_Turn (x12 ++ ([v14.1]))))]⟩) (((((Eqc (sl 1 (csI .u8) a0)) ∧ (eI x10) ∧ (Eqc (.int .u64 x11)) ∧ Tt) ∧ Tt) ∧ MutOK Try.prog 20 [(.box 3 (fun j => [true, false, false].getD j true) (fun j => (cs_l00Src (l00Src.mk a0 x10 x11)).getD j .nilptr) (fun j => [.nilptr, (.int .i64 v14.2.1), (.int .u64 v14.2.2)].getD j .nilptr))] [.agg (cs_Turn v14.1)])) ((([v14.1]).length = 1 ∧ (((.flt .f32 v14.1.W.bits) : C) = (.flt .f32 v14.1.W.bits) ∧ Tt) ∧ (((.flt .f32 v14.1.X.bits) : C) = (.flt .f32 v14.1.X.bits) ∧ Tt) ∧ (((.flt .f32 v14.1.Y.bits) : C) = (.flt .f32 v14.1.Y.bits) ∧ Tt) ∧ (((.flt .f32 v14.1.Z.bits) : C) = (.flt .f32 v14.1.Z.bits) ∧ Tt) ∧ Tt)) (((x12 ++ ([v14.1])).length = x12.length + ([v14.1]).length ∧ AppOb (x12.length) (([v14.1]).length) 4 (gl cs_Turn x12) (gl cs_Turn ([v14.1])) (gl cs_Turn (x12 ++ ([v14.1]))) ∧ (∀ i j, i < ([v14.1]).length → j < 4 → scalarC (gl cs_Turn ([v14.1]) i j)) ∧ (x12.length + ([v14.1]).length) * 16 ≤ 140737488355328)))) (by kernel_rfl) (zt7 rfl ⟨⟨⟨rfl, rfl, rfl, tr⟩, tr⟩, ok_spec_l02DrawExact K (l00Src.mk a0 x10 x11) v14 e15⟩ ⟨rfl, ⟨⟨rfl, tr⟩, ⟨rfl, tr⟩, ⟨rfl, tr⟩, ⟨rfl, tr⟩, tr⟩⟩ ⟨List.length_append, gl_append, gl_scalar sc_Turn _, c16⟩) ?_
    refine blockQ_normal ?_
    refine thenQ_normal ?_
    refine AW.rA ⟨[(1, (vI (IntKind.i64.wrap (x9 - (1 : Int))))), (4, (vp 1 0)), (5, (vp 2 0)), (6, (vp 4 0))], [(1, (.box [(cF (default : F32)), (cF (default : F32)), (cF (default : F32)), .nils])), (2, (.box [(.c (sl 1 (csI .u8) a0)), (cI v14.2.1), (.c (.int .u64 v14.2.2))])), (4, (.box [(cF (Fl.ofInt .f32 (IntKind.i64.wrap (v1.1 - (4 : Int))))), (cF (Fl.ofInt .f32 (IntKind.i64.wrap (v3.1 - (4 : Int))))), (cF (default : F32)), (xL 10 4 cs_Turn (x12 ++ ([v14.1])))])), (10, (oL 4 cs_Turn (x12 ++ ([v14.1]))))]⟩ (Tt ∧ T2 Tt) [] [1, 4, 5, 6] [1, 2, 4, 10] ⟨tr, tr, tr, tr⟩ ?_
    exact loopQ_normal (k, (IntKind.i64.wrap (x9 - (1 : Int))), v14.2.1, v14.2.2, (x12 ++ ([v14.1]))) h (Nat.lt_succ_self k) (Sub.trans (Sub.swap 3 10 _ (by kernel_rfl) (by kernel_rfl)) (Sub.keep [1, 4, 5, 6] [1, 2, 3, 4] (by kernel_rfl) (by kernel_rfl)))
  · refine AW.cond_f rfl b13 ?_
    refine AW.exit ?_
    refine thenQ_exit ?_
    refine loopQ_exit ?_
    refine blockQ_exit ?_
    refine thenQ_normal ?_
    refine AW.sA ⟨[(4, (vp 1 0))], [(1, (.box [(cF (Fl.ofInt .f32 (IntKind.i64.wrap (v1.1 - (4 : Int))))), (cF (Fl.ofInt .f32 (IntKind.i64.wrap (v3.1 - (4 : Int))))), (cF (default : F32)), (xL 3 4 cs_Turn x12)])), (3, (oL 4 cs_Turn x12))]⟩ (T2 Tt) [] [4] [1, 3] ⟨tr, tr, tr⟩ ?_
    refine AW.ret ?_
    replace h := some_eq h
    subst h
    exact ⟨.inr rfl, retOK_of [(.agg [(cF (Fl.ofInt .f32 (IntKind.i64.wrap (v1.1 - (4 : Int))))), (cF (Fl.ofInt .f32 (IntKind.i64.wrap (v3.1 - (4 : Int))))), (cF (default : F32)), (xL 3 4 cs_Turn x12)])] (by kernel_rfl) ⟨⟨⟨rfl, tr⟩, ⟨rfl, tr⟩, ⟨rfl, tr⟩, rfl, tr⟩, tr⟩ (of_decide_eq_true (by kernel_rfl))⟩

/-! laws.b10At -/
def laws_b10At (_K : Nat) (a0 : (List Int)) (a1 : Int) (a2 : Int) : Option (Int) :=
  ite2 ((decide (a2 ≤ (1 : Int)))) (some (0 : Int)) (ite2 ((decide (a1 < (a0.length : Int)))) (chk (0 ≤ a1 ∧ a1 < (a0.length : Int)) (chk (a2 ≠ 0) (some ((IntKind.i64.wrap (a0.getD a1.toNat default)).tmod a2)))) (chk (a2 ≠ 0) (some ((IntKind.i64.wrap ((IntKind.i64.wrap (a1 * (37 : Int))) + (11 : Int))).tmod a2))))

theorem ok_laws_b10At (K : Nat) (a0 : (List Int)) (a1 : Int) (a2 : Int) (o : (Int)) (h : laws_b10At K a0 a1 a2 = some o) : CallOK Try.prog 7 [.one (sl 1 (csI .u8) a0), .one (.int .i64 a1), .one (.int .i64 a2)] [.one (.int .i64 o)] := by
  refine callOK_of_AW Try.func7 rfl (by kernel_rfl) (Nat.le_of_ble_eq_true (by kernel_rfl)) ?_
  intro w0
  unfold laws_b10At at h
  refine AW.sC (Tt ∧ Tt) [] [0, 1, 2] [] ⟨tr, tr⟩ ?_
  refine AW.seq ?_
  refine AW.sA ⟨[(0, (vc (sl 1 (csI .u8) a0))), (1, (vI a1)), (2, (vI a2)), (8, (vB (decide (a2 ≤ (1 : Int)))))], []⟩ (T2 Tt) [] [0, 1, 2, 8] [] ⟨tr, tr, tr⟩ ?_
  rcases ite2_cases h with ⟨b1, h⟩ | ⟨b1, h⟩
  · refine AW.cond_t rfl b1 ?_
    refine AW.sA ⟨[(6, (vI (0 : Int)))], []⟩ (Tt ∧ Tt) [] [6] [] ⟨tr, tr⟩ ?_
    refine AW.ret ?_
    refine thenQ_ret ?_
    replace h := some_eq h
    subst h
    exact ⟨.inr rfl, retOK_of [(.one (cI (0 : Int)))] (by kernel_rfl) ⟨⟨rfl, tr⟩, tr⟩ (of_decide_eq_true (by kernel_rfl))⟩
  · refine AW.cond_f rfl b1 ?_
    refine AW.skip ?_
    refine thenQ_normal ?_
    refine AW.seq ?_
    refine AW.sA ⟨[(0, (vc (sl 1 (csI .u8) a0))), (1, (vI a1)), (2, (vI a2)), (12, (vB (decide (a1 < (a0.length : Int)))))], []⟩ (T4 Tt) [] [0, 1, 2, 12] [] ⟨tr, tr, tr, tr, tr⟩ ?_
    rcases ite2_cases h with ⟨b2, h⟩ | ⟨b2, h⟩
    · refine AW.cond_t rfl b2 ?_
      refine AW.seq ?_
      obtain ⟨c3, h⟩ := chk_some h
      obtain ⟨c4, h⟩ := chk_some h
      refine AW.tA ⟨[(6, (vI ((IntKind.i64.wrap (a0.getD a1.toNat default)).tmod a2)))], []⟩ (T2 ((0 ≤ a1 ∧ a1 < (a0.length : Int)) ∧ Tt ∧ T2 ((a2 ≠ 0) ∧ Tt ∧ Tt))) [] [6] [] ⟨tr, tr, c3, tr, tr, tr, c4, tr, tr⟩ ?_
      refine AW.ret ?_
      refine thenQ_ret ?_
      replace h := some_eq h
      subst h
      exact ⟨.inr rfl, retOK_of [(.one (cI ((IntKind.i64.wrap (a0.getD a1.toNat default)).tmod a2)))] (by kernel_rfl) ⟨⟨rfl, tr⟩, tr⟩ (of_decide_eq_true (by kernel_rfl))⟩
    · refine AW.cond_f rfl b2 ?_
      refine AW.skip ?_
      refine thenQ_normal ?_
      refine AW.seq ?_
      obtain ⟨c5, h⟩ := chk_some h
      refine AW.tA ⟨[(6, (vI ((IntKind.i64.wrap ((IntKind.i64.wrap (a1 * (37 : Int))) + (11 : Int))).tmod a2)))], []⟩ (T4 ((a2 ≠ 0) ∧ Tt ∧ Tt)) [] [6] [] ⟨tr, tr, tr, tr, c5, tr, tr⟩ ?_
      refine AW.ret ?_
      replace h := some_eq h
      subst h
      exact ⟨.inr rfl, retOK_of [(.one (cI ((IntKind.i64.wrap ((IntKind.i64.wrap (a1 * (37 : Int))) + (11 : Int))).tmod a2)))] (by kernel_rfl) ⟨⟨rfl, tr⟩, tr⟩ (of_decide_eq_true (by kernel_rfl))⟩

/-! impl.ValidSkeleton -/
def impl_ValidSkeleton_l1 (K : Nat) (a0 : Skeleton) : Nat → Int → Option (Bool)
  | 0, _ => none
  | k + 1, x9 => ite2 ((decide (x9 < (((a0.Bones.drop (1 : Int).toNat).take ((a0.Bones.length : Int).toNat - (1 : Int).toNat)).length : Int)))) (chk (0 ≤ x9 ∧ x9 < (((a0.Bones.drop (1 : Int).toNat).take ((a0.Bones.length : Int).toNat - (1 : Int).toNat)).length : Int)) ((ite2 ((decide (((((a0.Bones.drop (1 : Int).toNat).take ((a0.Bones.length : Int).toNat - (1 : Int).toNat)).getD x9.toNat default).Parent) < (0 : Int)))) (some true) (some (decide (((((a0.Bones.drop (1 : Int).toNat).take ((a0.Bones.length : Int).toNat - (1 : Int).toNat)).getD x9.toNat default).Parent) > x9)))).bind fun j13 => ite2 (j13) (some false) (impl_ValidSkeleton_l1 K a0 k (IntKind.i64.wrap (x9 + (1 : Int)))))) (some true)

def impl_ValidSkeleton (K : Nat) (a0 : Skeleton) : Option (Bool) :=
  (ite2 ((decide ((a0.Bones.length : Int) < (1 : Int)))) (some true) (ite2 ((decide ((a0.Bones.length : Int) > (12 : Int)))) (some true) (chk (0 ≤ (0 : Int) ∧ (0 : Int) < (a0.Bones.length : Int)) (some (((a0.Bones.getD ((0 : Int).toNat) default).Parent) != ((-1) : Int)))))).bind fun j4 => ite2 (j4) (some false) (chk (0 ≤ (1 : Int) ∧ (1 : Int) ≤ (a0.Bones.length : Int) ∧ (a0.Bones.length : Int) ≤ (a0.Bones.length : Int)) (impl_ValidSkeleton_l1 K a0 K (0 : Int)))

theorem ok_impl_ValidSkeleton (K : Nat) (a0 : Skeleton) (o : (Bool)) (h : impl_ValidSkeleton K a0 = some o) : CallOK Try.prog 31 [.agg (cs_Skeleton a0)] [.one (.bool o)] := by
  refine callOK_of_AW Try.func31 rfl (by kernel_rfl) (Nat.le_of_ble_eq_true (by kernel_rfl)) ?_
  intro w0
  unfold impl_ValidSkeleton at h
  refine AW.sA ⟨[(1, (vp 1 0))], [(1, (.box [(.c (sl 4 cs_Bone a0.Bones))]))]⟩ (T2 Tt) [.box 1] [1] [1] ⟨tr, tr, tr⟩ ?_
  refine AW.seq ?_
  refine AW.seq ?_
  obtain ⟨j4, e5, h⟩ := bind_some h
  refine AW.join1 (s2 := ⟨[(1, (vp 1 0)), (22, (vB j4))], [(1, (.box [(.c (sl 4 cs_Bone a0.Bones))]))]⟩) ?_ ?_
  · rcases ite2_cases e5 with ⟨b1, e5⟩ | ⟨b1, e5⟩
    · replace e5 := some_eq e5
      subst e5
      exact AW.rA ⟨[(1, (vp 1 0)), (22, (vB true))], [(1, (.box [(.c (sl 4 cs_Bone a0.Bones))]))]⟩ (T4 ((Tt ∧ (decide ((a0.Bones.length : Int) < (1 : Int))) = true) ∧ Tt ∧ T4 (T4 (T4 Tt)))) [.no, .no, .no, .no, .dec true] [1, 22] [1] ⟨tr, tr, tr, tr, ⟨tr, b1⟩, tr, tr, tr, tr, tr, tr, tr, tr, tr, tr, tr, tr, tr, tr⟩ ⟨rfl, rfl⟩
    · rcases ite2_cases e5 with ⟨b2, e5⟩ | ⟨b2, e5⟩
      · replace e5 := some_eq e5
        subst e5
        exact AW.rA ⟨[(1, (vp 1 0)), (22, (vB true))], [(1, (.box [(.c (sl 4 cs_Bone a0.Bones))]))]⟩ (T4 ((Tt ∧ (decide ((a0.Bones.length : Int) < (1 : Int))) = false) ∧ Tt ∧ T4 ((Tt ∧ (decide ((a0.Bones.length : Int) > (12 : Int))) = true) ∧ Tt ∧ T2 (T4 Tt)))) [.no, .no, .no, .no, .dec false, .no, .no, .no, .no, .no, .dec true] [1, 22] [1] ⟨tr, tr, tr, tr, ⟨tr, b1⟩, tr, tr, tr, tr, tr, ⟨tr, b2⟩, tr, tr, tr, tr, tr, tr, tr, tr⟩ ⟨rfl, rfl⟩
      · obtain ⟨c3, e5⟩ := chk_some e5
        replace e5 := some_eq e5
        subst e5
        exact AW.rA ⟨[(1, (vp 1 0)), (22, (vB (((a0.Bones.getD ((0 : Int).toNat) default).Parent) != ((-1) : Int))))], [(1, (.box [(.c (sl 4 cs_Bone a0.Bones))]))]⟩ (T4 ((Tt ∧ (decide ((a0.Bones.length : Int) < (1 : Int))) = false) ∧ Tt ∧ T4 ((Tt ∧ (decide ((a0.Bones.length : Int) > (12 : Int))) = false) ∧ T2 ((0 ≤ (0 : Int) ∧ (0 : Int) < (a0.Bones.length : Int)) ∧ T4 Tt)))) [.no, .no, .no, .no, .dec false, .no, .no, .no, .no, .no, .dec false] [1, 22] [1] ⟨tr, tr, tr, tr, ⟨tr, b1⟩, tr, tr, tr, tr, tr, ⟨tr, b2⟩, tr, tr, c3, tr, tr, tr, tr, tr⟩ ⟨rfl, rfl⟩
  refine thenQ_normal ?_
  rcases ite2_cases h with ⟨b6, h⟩ | ⟨b6, h⟩
  · refine AW.cond_t rfl b6 ?_
    refine AW.sA ⟨[(2, (vB false))], []⟩ (Tt ∧ Tt) [] [2] [] ⟨tr, tr⟩ ?_
    refine AW.ret ?_
    refine thenQ_ret ?_
    replace h := some_eq h
    subst h
    exact ⟨.inr rfl, retOK_of [(.one (.c (.bool false)))] (by kernel_rfl) ⟨⟨rfl, tr⟩, tr⟩ (of_decide_eq_true (by kernel_rfl))⟩
  · refine AW.cond_f rfl b6 ?_
    refine AW.skip ?_
    refine thenQ_normal ?_
    refine AW.seq ?_
    refine AW.seq ?_
    obtain ⟨c7, h⟩ := chk_some h
    refine AW.tA ⟨[(25, (vc (sl 4 cs_Bone ((a0.Bones.drop (1 : Int).toNat).take ((a0.Bones.length : Int).toNat - (1 : Int).toNat))))), (26, (vI (((a0.Bones.drop (1 : Int).toNat).take ((a0.Bones.length : Int).toNat - (1 : Int).toNat)).length : Int))), (27, (vI (0 : Int)))], []⟩ (T2 ((0 ≤ (1 : Int) ∧ (1 : Int) ≤ (a0.Bones.length : Int) ∧ (a0.Bones.length : Int) ≤ (a0.Bones.length : Int) ∧ ((((a0.Bones.drop (1 : Int).toNat).take ((a0.Bones.length : Int).toNat - (1 : Int).toNat)).length : Nat) : Int) = (a0.Bones.length : Int) - (1 : Int) ∧ ∀ i j, i < ((a0.Bones.drop (1 : Int).toNat).take ((a0.Bones.length : Int).toNat - (1 : Int).toNat)).length → j < 4 → gl cs_Bone ((a0.Bones.drop (1 : Int).toNat).take ((a0.Bones.length : Int).toNat - (1 : Int).toNat)) i j = gl cs_Bone a0.Bones ((1 : Int).toNat + i) j) ∧ T2 Tt)) [.no, .no, .seq ((a0.Bones.drop (1 : Int).toNat).take ((a0.Bones.length : Int).toNat - (1 : Int).toNat)).length (gl cs_Bone ((a0.Bones.drop (1 : Int).toNat).take ((a0.Bones.length : Int).toNat - (1 : Int).toNat)))] [25, 26, 27] [] ⟨tr, tr, ⟨c7.1, c7.2.1, c7.2.2, (gl_drop (sz := 4) (cs := cs_Bone) c7.1 c7.2.1 c7.2.2).1, (gl_drop c7.1 c7.2.1 c7.2.2).2⟩, tr, tr, tr⟩ ?_
    refine AW.block ?_
    refine AW.loopQ (σ := Nat × Int) (fun p => ⟨[(25, (vc (sl 4 cs_Bone ((a0.Bones.drop (1 : Int).toNat).take ((a0.Bones.length : Int).toNat - (1 : Int).toNat))))), (26, (vI (((a0.Bones.drop (1 : Int).toNat).take ((a0.Bones.length : Int).toNat - (1 : Int).toNat)).length : Int))), (27, (vI p.2))], []⟩) (fun p => impl_ValidSkeleton_l1 K a0 p.1 p.2 = some o) (fun p => p.1) (K, (0 : Int)) h ?_
    clear h
    rintro ⟨k, x9⟩ h
    replace h : impl_ValidSkeleton_l1 K a0 k x9 = some o := h
    show AW _ _ (⟨[(25, (vc (sl 4 cs_Bone ((a0.Bones.drop (1 : Int).toNat).take ((a0.Bones.length : Int).toNat - (1 : Int).toNat))))), (26, (vI (((a0.Bones.drop (1 : Int).toNat).take ((a0.Bones.length : Int).toNat - (1 : Int).toNat)).length : Int))), (27, (vI x9))], []⟩ : St) _
    obtain _ | k := k
    · rw [impl_ValidSkeleton_l1] at h; cases h
    rw [impl_ValidSkeleton_l1] at h
    refine AW.sA ⟨[(25, (vc (sl 4 cs_Bone ((a0.Bones.drop (1 : Int).toNat).take ((a0.Bones.length : Int).toNat - (1 : Int).toNat))))), (26, (vI (((a0.Bones.drop (1 : Int).toNat).take ((a0.Bones.length : Int).toNat - (1 : Int).toNat)).length : Int))), (27, (vI x9)), (28, (vB (decide (x9 < (((a0.Bones.drop (1 : Int).toNat).take ((a0.Bones.length : Int).toNat - (1 : Int).toNat)).length : Int)))))], []⟩ (Tt ∧ Tt) [] [25, 26, 27, 28] [] ⟨tr, tr⟩ ?_
    refine AW.seq ?_
    rcases ite2_cases h with ⟨b10, h⟩ | ⟨b10, h⟩
    · refine AW.cond_t rfl b10 ?_
      refine AW.skip ?_
      refine thenQ_normal ?_
      refine AW.seq ?_
      refine AW.block ?_
      refine AW.seq ?_
      obtain ⟨c11, h⟩ := chk_some h
      refine AW.tA ⟨[(3, (vI x9)), (4, (vp 4 0)), (25, (vc (sl 4 cs_Bone ((a0.Bones.drop (1 : Int).toNat).take ((a0.Bones.length : Int).toNat - (1 : Int).toNat))))), (26, (vI (((a0.Bones.drop (1 : Int).toNat).take ((a0.Bones.length : Int).toNat - (1 : Int).toNat)).length : Int))), (27, (vI x9))], [(4, (.box [(cI ((((a0.Bones.drop (1 : Int).toNat).take ((a0.Bones.length : Int).toNat - (1 : Int).toNat)).getD x9.toNat default).Parent)), (cF (((((a0.Bones.drop (1 : Int).toNat).take ((a0.Bones.length : Int).toNat - (1 : Int).toNat)).getD x9.toNat default).Offset).X)), (cF (((((a0.Bones.drop (1 : Int).toNat).take ((a0.Bones.length : Int).toNat - (1 : Int).toNat)).getD x9.toNat default).Offset).Y)), (cF (((((a0.Bones.drop (1 : Int).toNat).take ((a0.Bones.length : Int).toNat - (1 : Int).toNat)).getD x9.toNat default).Offset).Z))]))]⟩ (Tt ∧ (0 ≤ x9 ∧ x9 < (((a0.Bones.drop (1 : Int).toNat).take ((a0.Bones.length : Int).toNat - (1 : Int).toNat)).length : Int)) ∧ T4 Tt) [.no, .no, .no, .box 4] [3, 4, 25, 26, 27] [4] ⟨tr, c11, tr, tr, tr, tr, tr⟩ ?_
      refine AW.seq ?_
      obtain ⟨j13, e14, h⟩ := bind_some h
      refine AW.join1 (s2 := ⟨[(25, (vc (sl 4 cs_Bone ((a0.Bones.drop (1 : Int).toNat).take ((a0.Bones.length : Int).toNat - (1 : Int).toNat))))), (26, (vI (((a0.Bones.drop (1 : Int).toNat).take ((a0.Bones.length : Int).toNat - (1 : Int).toNat)).length : Int))), (27, (vI x9)), (40, (vB j13))], []⟩) ?_ ?_
      · rcases ite2_cases e14 with ⟨b12, e14⟩ | ⟨b12, e14⟩
        · replace e14 := some_eq e14
          subst e14
          exact AW.rA ⟨[(25, (vc (sl 4 cs_Bone ((a0.Bones.drop (1 : Int).toNat).take ((a0.Bones.length : Int).toNat - (1 : Int).toNat))))), (26, (vI (((a0.Bones.drop (1 : Int).toNat).take ((a0.Bones.length : Int).toNat - (1 : Int).toNat)).length : Int))), (27, (vI x9)), (40, (vB true))], []⟩ (Tt ∧ T2 ((Tt ∧ (decide (((((a0.Bones.drop (1 : Int).toNat).take ((a0.Bones.length : Int).toNat - (1 : Int).toNat)).getD x9.toNat default).Parent) < (0 : Int))) = true) ∧ Tt ∧ T4 Tt)) [.no, .no, .no, .dec true] [25, 26, 27, 40] [] ⟨tr, tr, tr, ⟨tr, b12⟩, tr, tr, tr, tr, tr, tr⟩ ⟨rfl, rfl⟩
        · replace e14 := some_eq e14
          subst e14
          exact AW.rA ⟨[(25, (vc (sl 4 cs_Bone ((a0.Bones.drop (1 : Int).toNat).take ((a0.Bones.length : Int).toNat - (1 : Int).toNat))))), (26, (vI (((a0.Bones.drop (1 : Int).toNat).take ((a0.Bones.length : Int).toNat - (1 : Int).toNat)).length : Int))), (27, (vI x9)), (40, (vB (decide (((((a0.Bones.drop (1 : Int).toNat).take ((a0.Bones.length : Int).toNat - (1 : Int).toNat)).getD x9.toNat default).Parent) > x9))))], []⟩ (Tt ∧ T2 ((Tt ∧ (decide (((((a0.Bones.drop (1 : Int).toNat).take ((a0.Bones.length : Int).toNat - (1 : Int).toNat)).getD x9.toNat default).Parent) < (0 : Int))) = false) ∧ Tt ∧ T4 Tt)) [.no, .no, .no, .dec false] [25, 26, 27, 40] [] ⟨tr, tr, tr, ⟨tr, b12⟩, tr, tr, tr, tr, tr, tr⟩ ⟨rfl, rfl⟩
      refine thenQ_normal ?_
      rcases ite2_cases h with ⟨b15, h⟩ | ⟨b15, h⟩
      · refine AW.cond_t rfl b15 ?_
        refine AW.sA ⟨[(2, (vB false))], []⟩ (Tt ∧ Tt) [] [2] [] ⟨tr, tr⟩ ?_
        refine AW.ret ?_
        refine blockQ_ret ?_
        refine thenQ_ret ?_
        refine loopQ_ret ?_
        refine blockQ_ret ?_
        refine thenQ_ret ?_
        replace h := some_eq h
        subst h
        exact ⟨.inr rfl, retOK_of [(.one (.c (.bool false)))] (by kernel_rfl) ⟨⟨rfl, tr⟩, tr⟩ (of_decide_eq_true (by kernel_rfl))⟩
      · refine AW.cond_f rfl b15 ?_
        refine AW.skip ?_
        refine blockQ_normal ?_
        refine thenQ_normal ?_
        refine AW.rA ⟨[(25, (vc (sl 4 cs_Bone ((a0.Bones.drop (1 : Int).toNat).take ((a0.Bones.length : Int).toNat - (1 : Int).toNat))))), (26, (vI (((a0.Bones.drop (1 : Int).toNat).take ((a0.Bones.length : Int).toNat - (1 : Int).toNat)).length : Int))), (27, (vI (IntKind.i64.wrap (x9 + (1 : Int)))))], []⟩ (T2 Tt) [] [25, 26, 27] [] ⟨tr, tr, tr⟩ ?_
        exact loopQ_normal (k, (IntKind.i64.wrap (x9 + (1 : Int)))) h (Nat.lt_succ_self k) (Sub.keep [25, 26, 27] [] (by kernel_rfl) (by kernel_rfl))
    · refine AW.cond_f rfl b10 ?_
      refine AW.exit ?_
      refine thenQ_exit ?_
      refine loopQ_exit ?_
      refine blockQ_exit ?_
      refine thenQ_normal ?_
      refine AW.sA ⟨[(2, (vB true))], []⟩ (Tt ∧ Tt) [] [2] [] ⟨tr, tr⟩ ?_
      refine AW.ret ?_
      replace h := some_eq h
      subst h
      exact ⟨.inr rfl, retOK_of [(.one (.c (.bool true)))] (by kernel_rfl) ⟨⟨rfl, tr⟩, tr⟩ (of_decide_eq_true (by kernel_rfl))⟩

/-! impl.IsPose -/
def impl_IsPose (K : Nat) (a0 : Skeleton) (a1 : Pose) : Option (Bool) :=
  (impl_ValidSkeleton K a0).bind fun v1 => (ite2 (v1) (some ((a1.Turns.length : Int) == (a0.Bones.length : Int))) (some false)).bind fun j4 => some j4

theorem ok_impl_IsPose (K : Nat) (a0 : Skeleton) (a1 : Pose) (o : (Bool)) (h : impl_IsPose K a0 a1 = some o) : CallOK Try.prog 27 [.agg (cs_Skeleton a0), .agg (cs_Pose a1)] [.one (.bool o)] := by
  refine callOK_of_AW Try.func27 rfl (by kernel_rfl) (Nat.le_of_ble_eq_true (by kernel_rfl)) ?_
  intro w0
  unfold impl_IsPose at h
  refine AW.sA ⟨[(2, (vp 1 0)), (3, (vp 2 0))], [(1, (.box [(.c (sl 4 cs_Bone a0.Bones))])), (2, (.box [(cF a1.Root.X), (cF a1.Root.Y), (cF a1.Root.Z), (.c (sl 4 cs_Turn a1.Turns))]))]⟩ (Tt ∧ T2 Tt) [.box 1, .box 2] [2, 3] [1, 2] ⟨tr, tr, tr, tr⟩ ?_
  refine AW.seq ?_
  obtain ⟨v1, e2, h⟩ := bind_some h
  obtain ⟨j4, e5, h⟩ := bind_some h
  refine AW.join1 (s2 := ⟨[(4, (vB j4))], []⟩) ?_ ?_
  · rcases ite2_cases e5 with ⟨b3, e5⟩ | ⟨b3, e5⟩
    · replace e5 := some_eq e5
      subst e5
      exact AW.rA ⟨[(4, (vB ((a1.Turns.length : Int) == (a0.Bones.length : Int))))], []⟩ (Tt ∧ ((((Eqc (sl 4 cs_Bone a0.Bones)) ∧ Tt) ∧ Tt) ∧ CallOK Try.prog 31 [.agg (cs_Skeleton a0)] [.one (.bool v1)]) ∧ (Tt ∧ v1 = true) ∧ Tt ∧ T4 (T4 Tt)) [.no, .call [.agg (cs_Skeleton a0)] [.one (.bool v1)] [[.view]], .dec true] [4] [] ⟨tr, ⟨⟨⟨rfl, tr⟩, tr⟩, ok_impl_ValidSkeleton K a0 v1 e2⟩, ⟨tr, b3⟩, tr, tr, tr, tr, tr, tr, tr, tr, tr, tr⟩ ⟨rfl, rfl⟩
    · replace e5 := some_eq e5
      subst e5
      exact AW.rA ⟨[(4, (vB false))], []⟩ (Tt ∧ ((((Eqc (sl 4 cs_Bone a0.Bones)) ∧ Tt) ∧ Tt) ∧ CallOK Try.prog 31 [.agg (cs_Skeleton a0)] [.one (.bool v1)]) ∧ (Tt ∧ v1 = false) ∧ Tt ∧ T4 (T4 Tt)) [.no, .call [.agg (cs_Skeleton a0)] [.one (.bool v1)] [[.view]], .dec false] [4] [] ⟨tr, ⟨⟨⟨rfl, tr⟩, tr⟩, ok_impl_ValidSkeleton K a0 v1 e2⟩, ⟨tr, b3⟩, tr, tr, tr, tr, tr, tr, tr, tr, tr, tr⟩ ⟨rfl, rfl⟩
  refine thenQ_normal ?_
  refine AW.ret ?_
  replace h := some_eq h
  subst h
  exact ⟨.inr rfl, retOK_of [(.one (.c (.bool j4)))] (by kernel_rfl) ⟨⟨rfl, tr⟩, tr⟩ (of_decide_eq_true (by kernel_rfl))⟩

/-! (impl.SkinPoint).isHeld -/
def impl_SkinPoint_isHeld (_K : Nat) (a0 : SkinPoint) : Option (Bool) :=
  (ite2 ((decide ((a0.Bones.length : Int) ≥ (1 : Int)))) (ite2 ((decide ((a0.Bones.length : Int) ≤ (4 : Int)))) (some ((a0.Weights.length : Int) == (a0.Bones.length : Int))) (some false)) (some false)).bind fun j3 => some j3

theorem ok_impl_SkinPoint_isHeld (K : Nat) (a0 : SkinPoint) (o : (Bool)) (h : impl_SkinPoint_isHeld K a0 = some o) : CallOK Try.prog 32 [.agg (cs_SkinPoint a0)] [.one (.bool o)] := by
  refine callOK_of_AW Try.func32 rfl (by kernel_rfl) (Nat.le_of_ble_eq_true (by kernel_rfl)) ?_
  intro w0
  unfold impl_SkinPoint_isHeld at h
  refine AW.sA ⟨[(1, (vp 1 0))], [(1, (.box [(cF a0.Place.X), (cF a0.Place.Y), (cF a0.Place.Z), (.c (sl 1 (csI .i64) a0.Bones)), (.c (sl 1 (csF .f32) a0.Weights))]))]⟩ (T2 Tt) [.box 1] [1] [1] ⟨tr, tr, tr⟩ ?_
  refine AW.seq ?_
  obtain ⟨j3, e4, h⟩ := bind_some h
  refine AW.join1 (s2 := ⟨[(2, (vB j3))], []⟩) ?_ ?_
  · rcases ite2_cases e4 with ⟨b1, e4⟩ | ⟨b1, e4⟩
    · rcases ite2_cases e4 with ⟨b2, e4⟩ | ⟨b2, e4⟩
      · replace e4 := some_eq e4
        subst e4
        exact AW.rA ⟨[(2, (vB ((a0.Weights.length : Int) == (a0.Bones.length : Int))))], []⟩ (T4 ((Tt ∧ (decide ((a0.Bones.length : Int) ≥ (1 : Int))) = true) ∧ Tt ∧ T4 ((Tt ∧ (decide ((a0.Bones.length : Int) ≤ (4 : Int))) = true) ∧ Tt ∧ T4 (T4 Tt)))) [.no, .no, .no, .no, .dec true, .no, .no, .no, .no, .no, .dec true] [2] [] ⟨tr, tr, tr, tr, ⟨tr, b1⟩, tr, tr, tr, tr, tr, ⟨tr, b2⟩, tr, tr, tr, tr, tr, tr, tr, tr, tr, tr⟩ ⟨rfl, rfl⟩
      · replace e4 := some_eq e4
        subst e4
        exact AW.rA ⟨[(2, (vB false))], []⟩ (T4 ((Tt ∧ (decide ((a0.Bones.length : Int) ≥ (1 : Int))) = true) ∧ Tt ∧ T4 ((Tt ∧ (decide ((a0.Bones.length : Int) ≤ (4 : Int))) = false) ∧ Tt ∧ T4 (T4 Tt)))) [.no, .no, .no, .no, .dec true, .no, .no, .no, .no, .no, .dec false] [2] [] ⟨tr, tr, tr, tr, ⟨tr, b1⟩, tr, tr, tr, tr, tr, ⟨tr, b2⟩, tr, tr, tr, tr, tr, tr, tr, tr, tr, tr⟩ ⟨rfl, rfl⟩
    · replace e4 := some_eq e4
      subst e4
      exact AW.rA ⟨[(2, (vB false))], []⟩ (T4 ((Tt ∧ (decide ((a0.Bones.length : Int) ≥ (1 : Int))) = false) ∧ Tt ∧ T2 (T4 (T4 (T4 Tt))))) [.no, .no, .no, .no, .dec false] [2] [] ⟨tr, tr, tr, tr, ⟨tr, b1⟩, tr, tr, tr, tr, tr, tr, tr, tr, tr, tr, tr, tr, tr, tr, tr, tr⟩ ⟨rfl, rfl⟩
  refine thenQ_normal ?_
  refine AW.ret ?_
  replace h := some_eq h
  subst h
  exact ⟨.inr rfl, retOK_of [(.one (.c (.bool j3)))] (by kernel_rfl) ⟨⟨rfl, tr⟩, tr⟩ (of_decide_eq_true (by kernel_rfl))⟩

/-! impl.IsSkin -/
def impl_IsSkin_l4 (K : Nat) (a0 : Skeleton) (a1 : (List SkinPoint)) (x8 : Int) : Nat → Int → Int → Option ((Unit) ⊕ (Unit))
  | 0, _, _ => none
  | k + 1, x30, x31 => ite2 ((decide (x31 < (((a1.getD x8.toNat default).Bones).length : Int)))) (chk (0 ≤ x31 ∧ x31 < (((a1.getD x8.toNat default).Bones).length : Int)) ((ite2 ((decide ((((a1.getD x8.toNat default).Bones).getD x31.toNat default) ≤ x30))) (some true) (some (decide ((((a1.getD x8.toNat default).Bones).getD x31.toNat default) ≥ (a0.Bones.length : Int))))).bind fun j35 => ite2 (j35) (some (.inr ())) (impl_IsSkin_l4 K a0 a1 x8 k (((a1.getD x8.toNat default).Bones).getD x31.toNat default) (IntKind.i64.wrap (x31 + (1 : Int)))))) (some (.inl ()))

def impl_IsSkin_l3 (K : Nat) (a0 : Skeleton) (a1 : (List SkinPoint)) : Nat → Int → Option (Bool)
  | 0, _ => none
  | k + 1, x8 => ite2 ((decide (x8 < (a1.length : Int)))) (chk (0 ≤ x8 ∧ x8 < (a1.length : Int)) ((impl_SkinPoint_isHeld K (a1.getD x8.toNat default)).bind fun v11 => ite2 ((!v11)) (some false) ((impl_IsSkin_l4 K a0 a1 x8 K ((-1) : Int) (0 : Int)).bind (fun z0 => sumC z0 (fun j26 => impl_IsSkin_l3 K a0 a1 k (IntKind.i64.wrap (x8 + (1 : Int)))) (fun j27 => some false))))) (some true)

def impl_IsSkin (K : Nat) (a0 : Skeleton) (a1 : (List SkinPoint)) : Option (Bool) :=
  (impl_ValidSkeleton K a0).bind fun v1 => (ite2 ((!v1)) (some true) (some (decide ((a1.length : Int) > (24 : Int))))).bind fun j4 => ite2 (j4) (some false) (impl_IsSkin_l3 K a0 a1 K (0 : Int))

theorem ok_impl_IsSkin (K : Nat) (a0 : Skeleton) (a1 : (List SkinPoint)) (o : (Bool)) (h : impl_IsSkin K a0 a1 = some o) : CallOK Try.prog 13 [.agg (cs_Skeleton a0), .one (sl 5 cs_SkinPoint a1)] [.one (.bool o)] := by
  refine callOK_of_AW Try.func13 rfl (by kernel_rfl) (Nat.le_of_ble_eq_true (by kernel_rfl)) ?_
  intro w0
  unfold impl_IsSkin at h
  refine AW.sA ⟨[(1, (vc (sl 5 cs_SkinPoint a1))), (2, (vp 1 0))], [(1, (.box [(.c (sl 4 cs_Bone a0.Bones))]))]⟩ (T2 Tt) [.box 1] [1, 2] [1] ⟨tr, tr, tr⟩ ?_
  refine AW.seq ?_
  refine AW.seq ?_
  obtain ⟨v1, e2, h⟩ := bind_some h
  obtain ⟨j4, e5, h⟩ := bind_some h
  refine AW.join1 (s2 := ⟨[(1, (vc (sl 5 cs_SkinPoint a1))), (2, (vp 1 0)), (17, (vB j4))], [(1, (.box [(.c (sl 4 cs_Bone a0.Bones))]))]⟩) ?_ ?_
  · rcases ite2_cases e5 with ⟨b3, e5⟩ | ⟨b3, e5⟩
    · replace e5 := some_eq e5
      subst e5
      exact AW.rA ⟨[(1, (vc (sl 5 cs_SkinPoint a1))), (2, (vp 1 0)), (17, (vB true))], [(1, (.box [(.c (sl 4 cs_Bone a0.Bones))]))]⟩ (Tt ∧ ((((Eqc (sl 4 cs_Bone a0.Bones)) ∧ Tt) ∧ Tt) ∧ CallOK Try.prog 31 [.agg (cs_Skeleton a0)] [.one (.bool v1)]) ∧ Tt ∧ (Tt ∧ (!v1) = true) ∧ T4 Tt) [.no, .call [.agg (cs_Skeleton a0)] [.one (.bool v1)] [[.view]], .no, .dec true] [1, 2, 17] [1] ⟨tr, ⟨⟨⟨rfl, tr⟩, tr⟩, ok_impl_ValidSkeleton K a0 v1 e2⟩, tr, ⟨tr, b3⟩, tr, tr, tr, tr, tr⟩ ⟨rfl, rfl⟩
    · replace e5 := some_eq e5
      subst e5
      exact AW.rA ⟨[(1, (vc (sl 5 cs_SkinPoint a1))), (2, (vp 1 0)), (17, (vB (decide ((a1.length : Int) > (24 : Int)))))], [(1, (.box [(.c (sl 4 cs_Bone a0.Bones))]))]⟩ (Tt ∧ ((((Eqc (sl 4 cs_Bone a0.Bones)) ∧ Tt) ∧ Tt) ∧ CallOK Try.prog 31 [.agg (cs_Skeleton a0)] [.one (.bool v1)]) ∧ Tt ∧ (Tt ∧ (!v1) = false) ∧ T4 Tt) [.no, .call [.agg (cs_Skeleton a0)] [.one (.bool v1)] [[.view]], .no, .dec false] [1, 2, 17] [1] ⟨tr, ⟨⟨⟨rfl, tr⟩, tr⟩, ok_impl_ValidSkeleton K a0 v1 e2⟩, tr, ⟨tr, b3⟩, tr, tr, tr, tr, tr⟩ ⟨rfl, rfl⟩
  refine thenQ_normal ?_
  rcases ite2_cases h with ⟨b6, h⟩ | ⟨b6, h⟩
  · refine AW.cond_t rfl b6 ?_
    refine AW.sA ⟨[(4, (vB false))], []⟩ (Tt ∧ Tt) [] [4] [] ⟨tr, tr⟩ ?_
    refine AW.ret ?_
    refine thenQ_ret ?_
    replace h := some_eq h
    subst h
    exact ⟨.inr rfl, retOK_of [(.one (.c (.bool false)))] (by kernel_rfl) ⟨⟨rfl, tr⟩, tr⟩ (of_decide_eq_true (by kernel_rfl))⟩
  · refine AW.cond_f rfl b6 ?_
    refine AW.skip ?_
    refine thenQ_normal ?_
    refine AW.seq ?_
    refine AW.sA ⟨[(2, (vp 1 0)), (18, (vc (sl 5 cs_SkinPoint a1))), (19, (vI (a1.length : Int))), (20, (vI (0 : Int)))], [(1, (.box [(.c (sl 4 cs_Bone a0.Bones))]))]⟩ (Tt ∧ T2 Tt) [] [2, 18, 19, 20] [1] ⟨tr, tr, tr, tr⟩ ?_
    refine AW.block ?_
    refine AW.loopQ (σ := Nat × Int) (fun p => ⟨[(2, (vp 1 0)), (18, (vc (sl 5 cs_SkinPoint a1))), (19, (vI (a1.length : Int))), (20, (vI p.2))], [(1, (.box [(.c (sl 4 cs_Bone a0.Bones))]))]⟩) (fun p => impl_IsSkin_l3 K a0 a1 p.1 p.2 = some o) (fun p => p.1) (K, (0 : Int)) h ?_
    clear h
    rintro ⟨k, x8⟩ h
    replace h : impl_IsSkin_l3 K a0 a1 k x8 = some o := h
    show AW _ _ (⟨[(2, (vp 1 0)), (18, (vc (sl 5 cs_SkinPoint a1))), (19, (vI (a1.length : Int))), (20, (vI x8))], [(1, (.box [(.c (sl 4 cs_Bone a0.Bones))]))]⟩ : St) _
    obtain _ | k := k
    · rw [impl_IsSkin_l3] at h; cases h
    rw [impl_IsSkin_l3] at h
    refine AW.sA ⟨[(2, (vp 1 0)), (18, (vc (sl 5 cs_SkinPoint a1))), (19, (vI (a1.length : Int))), (20, (vI x8)), (21, (vB (decide (x8 < (a1.length : Int)))))], [(1, (.box [(.c (sl 4 cs_Bone a0.Bones))]))]⟩ (Tt ∧ Tt) [] [2, 18, 19, 20, 21] [1] ⟨tr, tr⟩ ?_
    refine AW.seq ?_
    rcases ite2_cases h with ⟨b9, h⟩ | ⟨b9, h⟩
    · refine AW.cond_t rfl b9 ?_
      refine AW.skip ?_
      refine thenQ_normal ?_
      refine AW.seq ?_
      refine AW.block ?_
      refine AW.seq ?_
      obtain ⟨c10, h⟩ := chk_some h
      refine AW.tC ((0 ≤ x8 ∧ x8 < (a1.length : Int)) ∧ Tt ∧ T2 Tt) [.no, .no, .box 4] [2, 6, 18, 19, 20] [1, 4] ⟨c10, tr, tr, tr, tr⟩ ?_
      refine AW.seq ?_
      refine AW.seq ?_
      obtain ⟨v11, e12, h⟩ := bind_some h
      refine AW.tA ⟨[(2, (vp 1 0)), (6, (vp 4 0)), (18, (vc (sl 5 cs_SkinPoint a1))), (19, (vI (a1.length : Int))), (20, (vI x8)), (26, (vB (!v11)))], [(1, (.box [(.c (sl 4 cs_Bone a0.Bones))])), (4, (.box [(cF (((a1.getD x8.toNat default).Place).X)), (cF (((a1.getD x8.toNat default).Place).Y)), (cF (((a1.getD x8.toNat default).Place).Z)), (.c (sl 1 (csI .i64) ((a1.getD x8.toNat default).Bones))), (.c (sl 1 (csF .f32) ((a1.getD x8.toNat default).Weights)))]))]⟩ (Tt ∧ ((((eF (((a1.getD x8.toNat default).Place).X)) ∧ (eF (((a1.getD x8.toNat default).Place).Y)) ∧ (eF (((a1.getD x8.toNat default).Place).Z)) ∧ (Eqc (sl 1 (csI .i64) ((a1.getD x8.toNat default).Bones))) ∧ (Eqc (sl 1 (csF .f32) ((a1.getD x8.toNat default).Weights))) ∧ Tt) ∧ Tt) ∧ CallOK Try.prog 32 [.agg (cs_SkinPoint (a1.getD x8.toNat default))] [.one (.bool v11)]) ∧ Tt ∧ Tt) [.no, .call [.agg (cs_SkinPoint (a1.getD x8.toNat default))] [.one (.bool v11)] [[.view]]] [2, 6, 18, 19, 20, 26] [1, 4] ⟨tr, ⟨⟨⟨rfl, rfl, rfl, rfl, rfl, tr⟩, tr⟩, ok_impl_SkinPoint_isHeld K (a1.getD x8.toNat default) v11 e12⟩, tr, tr⟩ ?_
      rcases ite2_cases h with ⟨b13, h⟩ | ⟨b13, h⟩
      · refine AW.cond_t rfl b13 ?_
        refine AW.sA ⟨[(4, (vB false))], []⟩ (Tt ∧ Tt) [] [4] [] ⟨tr, tr⟩ ?_
        refine AW.ret ?_
        refine thenQ_ret ?_
        refine blockQ_ret ?_
        refine thenQ_ret ?_
        refine loopQ_ret ?_
        refine blockQ_ret ?_
        refine thenQ_ret ?_
        replace h := some_eq h
        subst h
        exact ⟨.inr rfl, retOK_of [(.one (.c (.bool false)))] (by kernel_rfl) ⟨⟨rfl, tr⟩, tr⟩ (of_decide_eq_true (by kernel_rfl))⟩
      · refine AW.cond_f rfl b13 ?_
        refine AW.skip ?_
        refine thenQ_normal ?_
        refine AW.sC (Tt ∧ Tt) [] [2, 6, 7, 18, 19, 20] [1, 4] ⟨tr, tr⟩ ?_
        refine AW.sA ⟨[(2, (vp 1 0)), (7, (vI ((-1) : Int))), (18, (vc (sl 5 cs_SkinPoint a1))), (19, (vI (a1.length : Int))), (20, (vI x8)), (28, (vc (sl 1 (csI .i64) ((a1.getD x8.toNat default).Bones)))), (29, (vI (((a1.getD x8.toNat default).Bones).length : Int))), (30, (vI (0 : Int)))], [(1, (.box [(.c (sl 4 cs_Bone a0.Bones))]))]⟩ (T4 Tt) [] [2, 7, 18, 19, 20, 28, 29, 30] [1] ⟨tr, tr, tr, tr, tr⟩ ?_
        obtain ⟨j25, e24, h⟩ := bind_some h
        refine AW.joinM (cx := ?cx) ((fun z0 => sumQ z0 (fun j26 => OnlyE ?cx .normal ⟨[(2, (vp 1 0)), (18, (vc (sl 5 cs_SkinPoint a1))), (19, (vI (a1.length : Int))), (20, (vI x8))], [(1, (.box [(.c (sl 4 cs_Bone a0.Bones))]))]⟩) (fun j27 => OnlyE ?cx .ret ⟨[(4, (vB false))], []⟩)) j25) ?_ ?_
        · replace h := e24
          refine AW.block ?_
          refine AW.loopQ (σ := Nat × Int × Int) (fun p => ⟨[(2, (vp 1 0)), (7, (vI p.2.1)), (18, (vc (sl 5 cs_SkinPoint a1))), (19, (vI (a1.length : Int))), (20, (vI x8)), (28, (vc (sl 1 (csI .i64) ((a1.getD x8.toNat default).Bones)))), (29, (vI (((a1.getD x8.toNat default).Bones).length : Int))), (30, (vI p.2.2))], [(1, (.box [(.c (sl 4 cs_Bone a0.Bones))]))]⟩) (fun p => impl_IsSkin_l4 K a0 a1 x8 p.1 p.2.1 p.2.2 = some j25) (fun p => p.1) (K, ((-1) : Int), (0 : Int)) h ?_
          clear h
          rintro ⟨k, x30, x31⟩ h
          replace h : impl_IsSkin_l4 K a0 a1 x8 k x30 x31 = some j25 := h
          show AW _ _ (⟨[(2, (vp 1 0)), (7, (vI x30)), (18, (vc (sl 5 cs_SkinPoint a1))), (19, (vI (a1.length : Int))), (20, (vI x8)), (28, (vc (sl 1 (csI .i64) ((a1.getD x8.toNat default).Bones)))), (29, (vI (((a1.getD x8.toNat default).Bones).length : Int))), (30, (vI x31))], [(1, (.box [(.c (sl 4 cs_Bone a0.Bones))]))]⟩ : St) _
          obtain _ | k := k
          · rw [impl_IsSkin_l4] at h; cases h
          rw [impl_IsSkin_l4] at h
          refine AW.sA ⟨[(2, (vp 1 0)), (7, (vI x30)), (18, (vc (sl 5 cs_SkinPoint a1))), (19, (vI (a1.length : Int))), (20, (vI x8)), (28, (vc (sl 1 (csI .i64) ((a1.getD x8.toNat default).Bones)))), (29, (vI (((a1.getD x8.toNat default).Bones).length : Int))), (30, (vI x31)), (31, (vB (decide (x31 < (((a1.getD x8.toNat default).Bones).length : Int)))))], [(1, (.box [(.c (sl 4 cs_Bone a0.Bones))]))]⟩ (Tt ∧ Tt) [] [2, 7, 18, 19, 20, 28, 29, 30, 31] [1] ⟨tr, tr⟩ ?_
          refine AW.seq ?_
          rcases ite2_cases h with ⟨b32, h⟩ | ⟨b32, h⟩
          · refine AW.cond_t rfl b32 ?_
            refine AW.skip ?_
            refine thenQ_normal ?_
            refine AW.seq ?_
            refine AW.block ?_
            refine AW.seq ?_
            obtain ⟨c33, h⟩ := chk_some h
            refine AW.tA ⟨[(2, (vp 1 0)), (7, (vI x30)), (9, (vI (((a1.getD x8.toNat default).Bones).getD x31.toNat default))), (18, (vc (sl 5 cs_SkinPoint a1))), (19, (vI (a1.length : Int))), (20, (vI x8)), (28, (vc (sl 1 (csI .i64) ((a1.getD x8.toNat default).Bones)))), (29, (vI (((a1.getD x8.toNat default).Bones).length : Int))), (30, (vI x31))], [(1, (.box [(.c (sl 4 cs_Bone a0.Bones))]))]⟩ ((0 ≤ x31 ∧ x31 < (((a1.getD x8.toNat default).Bones).length : Int)) ∧ T2 Tt) [] [2, 7, 9, 18, 19, 20, 28, 29, 30] [1] ⟨c33, tr, tr, tr⟩ ?_
            refine AW.seq ?_
            refine AW.seq ?_
            obtain ⟨j35, e36, h⟩ := bind_some h
            refine AW.join1 (s2 := ⟨[(2, (vp 1 0)), (9, (vI (((a1.getD x8.toNat default).Bones).getD x31.toNat default))), (18, (vc (sl 5 cs_SkinPoint a1))), (19, (vI (a1.length : Int))), (20, (vI x8)), (28, (vc (sl 1 (csI .i64) ((a1.getD x8.toNat default).Bones)))), (29, (vI (((a1.getD x8.toNat default).Bones).length : Int))), (30, (vI x31)), (43, (vB j35))], [(1, (.box [(.c (sl 4 cs_Bone a0.Bones))]))]⟩) ?_ ?_
            · rcases ite2_cases e36 with ⟨b34, e36⟩ | ⟨b34, e36⟩
              · replace e36 := some_eq e36
                subst e36
                exact AW.rA ⟨[(2, (vp 1 0)), (9, (vI (((a1.getD x8.toNat default).Bones).getD x31.toNat default))), (18, (vc (sl 5 cs_SkinPoint a1))), (19, (vI (a1.length : Int))), (20, (vI x8)), (28, (vc (sl 1 (csI .i64) ((a1.getD x8.toNat default).Bones)))), (29, (vI (((a1.getD x8.toNat default).Bones).length : Int))), (30, (vI x31)), (43, (vB true))], [(1, (.box [(.c (sl 4 cs_Bone a0.Bones))]))]⟩ (Tt ∧ T2 ((Tt ∧ (decide ((((a1.getD x8.toNat default).Bones).getD x31.toNat default) ≤ x30)) = true) ∧ T2 (T4 Tt))) [.no, .no, .no, .dec true] [2, 9, 18, 19, 20, 28, 29, 30, 43] [1] ⟨tr, tr, tr, ⟨tr, b34⟩, tr, tr, tr, tr, tr, tr, tr⟩ ⟨rfl, rfl⟩
              · replace e36 := some_eq e36
                subst e36
                exact AW.rA ⟨[(2, (vp 1 0)), (9, (vI (((a1.getD x8.toNat default).Bones).getD x31.toNat default))), (18, (vc (sl 5 cs_SkinPoint a1))), (19, (vI (a1.length : Int))), (20, (vI x8)), (28, (vc (sl 1 (csI .i64) ((a1.getD x8.toNat default).Bones)))), (29, (vI (((a1.getD x8.toNat default).Bones).length : Int))), (30, (vI x31)), (43, (vB (decide ((((a1.getD x8.toNat default).Bones).getD x31.toNat default) ≥ (a0.Bones.length : Int)))))], [(1, (.box [(.c (sl 4 cs_Bone a0.Bones))]))]⟩ (Tt ∧ T2 ((Tt ∧ (decide ((((a1.getD x8.toNat default).Bones).getD x31.toNat default) ≤ x30)) = false) ∧ T2 (T4 Tt))) [.no, .no, .no, .dec false] [2, 9, 18, 19, 20, 28, 29, 30, 43] [1] ⟨tr, tr, tr, ⟨tr, b34⟩, tr, tr, tr, tr, tr, tr, tr⟩ ⟨rfl, rfl⟩
            refine thenQ_normal ?_
            rcases ite2_cases h with ⟨b37, h⟩ | ⟨b37, h⟩
            · refine AW.cond_t rfl b37 ?_
              refine AW.sA ⟨[(4, (vB false))], []⟩ (Tt ∧ Tt) [] [4] [] ⟨tr, tr⟩ ?_
              refine AW.ret ?_
              refine thenQ_ret ?_
              refine blockQ_ret ?_
              refine thenQ_ret ?_
              refine loopQ_ret ?_
              refine blockQ_ret ?_
              replace h := some_eq h
              subst h
              exact ⟨rfl, Sub.keep [4] [] (by kernel_rfl) (by kernel_rfl)⟩
            · refine AW.cond_f rfl b37 ?_
              refine AW.skip ?_
              refine thenQ_normal ?_
              refine AW.rA ⟨[(2, (vp 1 0)), (7, (vI (((a1.getD x8.toNat default).Bones).getD x31.toNat default))), (18, (vc (sl 5 cs_SkinPoint a1))), (19, (vI (a1.length : Int))), (20, (vI x8)), (28, (vc (sl 1 (csI .i64) ((a1.getD x8.toNat default).Bones)))), (29, (vI (((a1.getD x8.toNat default).Bones).length : Int))), (30, (vI x31))], [(1, (.box [(.c (sl 4 cs_Bone a0.Bones))]))]⟩ (T2 Tt) [] [2, 7, 18, 19, 20, 28, 29, 30] [1] ⟨tr, tr, tr⟩ ?_
              refine blockQ_normal ?_
              refine thenQ_normal ?_
              refine AW.rA ⟨[(2, (vp 1 0)), (7, (vI (((a1.getD x8.toNat default).Bones).getD x31.toNat default))), (18, (vc (sl 5 cs_SkinPoint a1))), (19, (vI (a1.length : Int))), (20, (vI x8)), (28, (vc (sl 1 (csI .i64) ((a1.getD x8.toNat default).Bones)))), (29, (vI (((a1.getD x8.toNat default).Bones).length : Int))), (30, (vI (IntKind.i64.wrap (x31 + (1 : Int)))))], [(1, (.box [(.c (sl 4 cs_Bone a0.Bones))]))]⟩ (T2 Tt) [] [2, 7, 18, 19, 20, 28, 29, 30] [1] ⟨tr, tr, tr⟩ ?_
              exact loopQ_normal (k, (((a1.getD x8.toNat default).Bones).getD x31.toNat default), (IntKind.i64.wrap (x31 + (1 : Int)))) h (Nat.lt_succ_self k) (Sub.keep [2, 7, 18, 19, 20, 28, 29, 30] [1] (by kernel_rfl) (by kernel_rfl))
          · refine AW.cond_f rfl b32 ?_
            refine AW.exit ?_
            refine thenQ_exit ?_
            refine loopQ_exit ?_
            refine blockQ_exit ?_
            replace h := some_eq h
            subst h
            exact ⟨rfl, Sub.keep [2, 18, 19, 20] [1] (by kernel_rfl) (by kernel_rfl)⟩
        clear e24
        intro ex1 st1 hq
        obtain j26 | j27 := j25
        · replace h := sumC_inl h
          obtain ⟨he, hs⟩ := hq
          subst he
          refine ⟨⟨[(2, (vp 1 0)), (18, (vc (sl 5 cs_SkinPoint a1))), (19, (vI (a1.length : Int))), (20, (vI x8))], [(1, (.box [(.c (sl 4 cs_Bone a0.Bones))]))]⟩, hs, ?_⟩
          clear hs st1
          refine blockQ_normal ?_
          refine thenQ_normal ?_
          refine AW.rA ⟨[(2, (vp 1 0)), (18, (vc (sl 5 cs_SkinPoint a1))), (19, (vI (a1.length : Int))), (20, (vI (IntKind.i64.wrap (x8 + (1 : Int)))))], [(1, (.box [(.c (sl 4 cs_Bone a0.Bones))]))]⟩ (T2 Tt) [] [2, 18, 19, 20] [1] ⟨tr, tr, tr⟩ ?_
          exact loopQ_normal (k, (IntKind.i64.wrap (x8 + (1 : Int)))) h (Nat.lt_succ_self k) (Sub.keep [2, 18, 19, 20] [1] (by kernel_rfl) (by kernel_rfl))
        · replace h := sumC_inr h
          obtain ⟨he, hs⟩ := hq
          subst he
          refine ⟨⟨[(4, (vB false))], []⟩, hs, ?_⟩
          clear hs st1
          refine blockQ_ret ?_
          refine thenQ_ret ?_
          refine loopQ_ret ?_
          refine blockQ_ret ?_
          refine thenQ_ret ?_
          replace h := some_eq h
          subst h
          exact ⟨.inr rfl, retOK_of [(.one (.c (.bool false)))] (by kernel_rfl) ⟨⟨rfl, tr⟩, tr⟩ (of_decide_eq_true (by kernel_rfl))⟩
    · refine AW.cond_f rfl b9 ?_
      refine AW.exit ?_
      refine thenQ_exit ?_
      refine loopQ_exit ?_
      refine blockQ_exit ?_
      refine thenQ_normal ?_
      refine AW.sA ⟨[(4, (vB true))], []⟩ (Tt ∧ Tt) [] [4] [] ⟨tr, tr⟩ ?_
      refine AW.ret ?_
      replace h := some_eq h
      subst h
      exact ⟨.inr rfl, retOK_of [(.one (.c (.bool true)))] (by kernel_rfl) ⟨⟨rfl, tr⟩, tr⟩ (of_decide_eq_true (by kernel_rfl))⟩

/-! impl.canSkin -/
def impl_canSkin (K : Nat) (a0 : Skeleton) (a1 : Pose) (a2 : Pose) (a3 : (List SkinPoint)) : Option (Bool) :=
  (impl_IsPose K a0 a1).bind fun v1 => (ite2 (v1) ((impl_IsPose K a0 a2).bind fun v4 => ite2 (v4) ((impl_IsSkin K a0 a3).bind fun v7 => some v7) (some false)) (some false)).bind fun j9 => some j9

theorem ok_impl_canSkin (K : Nat) (a0 : Skeleton) (a1 : Pose) (a2 : Pose) (a3 : (List SkinPoint)) (o : (Bool)) (h : impl_canSkin K a0 a1 a2 a3 = some o) : CallOK Try.prog 21 [.agg (cs_Skeleton a0), .agg (cs_Pose a1), .agg (cs_Pose a2), .one (sl 5 cs_SkinPoint a3)] [.one (.bool o)] := by
  refine callOK_of_AW Try.func21 rfl (by kernel_rfl) (Nat.le_of_ble_eq_true (by kernel_rfl)) ?_
  intro w0
  unfold impl_canSkin at h
  refine AW.sA ⟨[(3, (vc (sl 5 cs_SkinPoint a3))), (4, (vp 1 0)), (5, (vp 2 0)), (6, (vp 3 0))], [(1, (.box [(.c (sl 4 cs_Bone a0.Bones))])), (2, (.box [(cF a1.Root.X), (cF a1.Root.Y), (cF a1.Root.Z), (.c (sl 4 cs_Turn a1.Turns))])), (3, (.box [(cF a2.Root.X), (cF a2.Root.Y), (cF a2.Root.Z), (.c (sl 4 cs_Turn a2.Turns))]))]⟩ (T4 Tt) [.box 1, .box 2, .box 3] [3, 4, 5, 6] [1, 2, 3] ⟨tr, tr, tr, tr, tr⟩ ?_
  refine AW.seq ?_
  obtain ⟨v1, e2, h⟩ := bind_some h
  obtain ⟨j9, e10, h⟩ := bind_some h
  refine AW.join1 (s2 := ⟨[(8, (vB j9))], []⟩) ?_ ?_
  · rcases ite2_cases e10 with ⟨b3, e10⟩ | ⟨b3, e10⟩
    · obtain ⟨v4, e5, e10⟩ := bind_some e10
      rcases ite2_cases e10 with ⟨b6, e10⟩ | ⟨b6, e10⟩
      · obtain ⟨v7, e8, e10⟩ := bind_some e10
        replace e10 := some_eq e10
        subst e10
        exact AW.rA ⟨[(8, (vB v7))], []⟩ (T2 (((((Eqc (sl 4 cs_Bone a0.Bones)) ∧ Tt) ∧ ((eF a1.Root.X) ∧ (eF a1.Root.Y) ∧ (eF a1.Root.Z) ∧ (Eqc (sl 4 cs_Turn a1.Turns)) ∧ Tt) ∧ Tt) ∧ CallOK Try.prog 27 [.agg (cs_Skeleton a0), .agg (cs_Pose a1)] [.one (.bool v1)]) ∧ (Tt ∧ v1 = true) ∧ T2 (((((Eqc (sl 4 cs_Bone a0.Bones)) ∧ Tt) ∧ ((eF a2.Root.X) ∧ (eF a2.Root.Y) ∧ (eF a2.Root.Z) ∧ (Eqc (sl 4 cs_Turn a2.Turns)) ∧ Tt) ∧ Tt) ∧ CallOK Try.prog 27 [.agg (cs_Skeleton a0), .agg (cs_Pose a2)] [.one (.bool v4)]) ∧ Tt ∧ (Tt ∧ v4 = true) ∧ T2 (((((Eqc (sl 4 cs_Bone a0.Bones)) ∧ Tt) ∧ (Eqc (sl 5 cs_SkinPoint a3)) ∧ Tt) ∧ CallOK Try.prog 13 [.agg (cs_Skeleton a0), .one (sl 5 cs_SkinPoint a3)] [.one (.bool v7)]) ∧ T2 Tt)))) [.no, .no, .call [.agg (cs_Skeleton a0), .agg (cs_Pose a1)] [.one (.bool v1)] [[.view]], .dec true, .no, .no, .call [.agg (cs_Skeleton a0), .agg (cs_Pose a2)] [.one (.bool v4)] [[.view]], .no, .dec true, .no, .no, .call [.agg (cs_Skeleton a0), .one (sl 5 cs_SkinPoint a3)] [.one (.bool v7)] [[.view]]] [8] [] ⟨tr, tr, ⟨⟨⟨rfl, tr⟩, ⟨rfl, rfl, rfl, rfl, tr⟩, tr⟩, ok_impl_IsPose K a0 a1 v1 e2⟩, ⟨tr, b3⟩, tr, tr, ⟨⟨⟨rfl, tr⟩, ⟨rfl, rfl, rfl, rfl, tr⟩, tr⟩, ok_impl_IsPose K a0 a2 v4 e5⟩, tr, ⟨tr, b6⟩, tr, tr, ⟨⟨⟨rfl, tr⟩, rfl, tr⟩, ok_impl_IsSkin K a0 a3 v7 e8⟩, tr, tr, tr⟩ ⟨rfl, rfl⟩
      · replace e10 := some_eq e10
        subst e10
        exact AW.rA ⟨[(8, (vB false))], []⟩ (T2 (((((Eqc (sl 4 cs_Bone a0.Bones)) ∧ Tt) ∧ ((eF a1.Root.X) ∧ (eF a1.Root.Y) ∧ (eF a1.Root.Z) ∧ (Eqc (sl 4 cs_Turn a1.Turns)) ∧ Tt) ∧ Tt) ∧ CallOK Try.prog 27 [.agg (cs_Skeleton a0), .agg (cs_Pose a1)] [.one (.bool v1)]) ∧ (Tt ∧ v1 = true) ∧ T2 (((((Eqc (sl 4 cs_Bone a0.Bones)) ∧ Tt) ∧ ((eF a2.Root.X) ∧ (eF a2.Root.Y) ∧ (eF a2.Root.Z) ∧ (Eqc (sl 4 cs_Turn a2.Turns)) ∧ Tt) ∧ Tt) ∧ CallOK Try.prog 27 [.agg (cs_Skeleton a0), .agg (cs_Pose a2)] [.one (.bool v4)]) ∧ Tt ∧ (Tt ∧ v4 = false) ∧ Tt ∧ T4 Tt))) [.no, .no, .call [.agg (cs_Skeleton a0), .agg (cs_Pose a1)] [.one (.bool v1)] [[.view]], .dec true, .no, .no, .call [.agg (cs_Skeleton a0), .agg (cs_Pose a2)] [.one (.bool v4)] [[.view]], .no, .dec false] [8] [] ⟨tr, tr, ⟨⟨⟨rfl, tr⟩, ⟨rfl, rfl, rfl, rfl, tr⟩, tr⟩, ok_impl_IsPose K a0 a1 v1 e2⟩, ⟨tr, b3⟩, tr, tr, ⟨⟨⟨rfl, tr⟩, ⟨rfl, rfl, rfl, rfl, tr⟩, tr⟩, ok_impl_IsPose K a0 a2 v4 e5⟩, tr, ⟨tr, b6⟩, tr, tr, tr, tr, tr, tr⟩ ⟨rfl, rfl⟩
    · replace e10 := some_eq e10
      subst e10
      exact AW.rA ⟨[(8, (vB false))], []⟩ (T2 (((((Eqc (sl 4 cs_Bone a0.Bones)) ∧ Tt) ∧ ((eF a1.Root.X) ∧ (eF a1.Root.Y) ∧ (eF a1.Root.Z) ∧ (Eqc (sl 4 cs_Turn a1.Turns)) ∧ Tt) ∧ Tt) ∧ CallOK Try.prog 27 [.agg (cs_Skeleton a0), .agg (cs_Pose a1)] [.one (.bool v1)]) ∧ (Tt ∧ v1 = false) ∧ T2 (T4 (T4 Tt)))) [.no, .no, .call [.agg (cs_Skeleton a0), .agg (cs_Pose a1)] [.one (.bool v1)] [[.view]], .dec false] [8] [] ⟨tr, tr, ⟨⟨⟨rfl, tr⟩, ⟨rfl, rfl, rfl, rfl, tr⟩, tr⟩, ok_impl_IsPose K a0 a1 v1 e2⟩, ⟨tr, b3⟩, tr, tr, tr, tr, tr, tr, tr, tr, tr, tr, tr⟩ ⟨rfl, rfl⟩
  refine thenQ_normal ?_
  refine AW.ret ?_
  replace h := some_eq h
  subst h
  exact ⟨.inr rfl, retOK_of [(.one (.c (.bool j9)))] (by kernel_rfl) ⟨⟨rfl, tr⟩, tr⟩ (of_decide_eq_true (by kernel_rfl))⟩

/-! impl.MulTurns -/
def impl_MulTurns (_K : Nat) (a0 : Turn) (a1 : Turn) : Option (Turn) :=
  some (Turn.mk ((((a0.W.mul a1.W).sub (a0.X.mul a1.X)).sub (a0.Y.mul a1.Y)).sub (a0.Z.mul a1.Z)) ((((a0.W.mul a1.X).add (a0.X.mul a1.W)).add (a0.Y.mul a1.Z)).sub (a0.Z.mul a1.Y)) ((((a0.W.mul a1.Y).sub (a0.X.mul a1.Z)).add (a0.Y.mul a1.W)).add (a0.Z.mul a1.X)) ((((a0.W.mul a1.Z).add (a0.X.mul a1.Y)).sub (a0.Y.mul a1.X)).add (a0.Z.mul a1.W)))

theorem ok_impl_MulTurns (K : Nat) (a0 : Turn) (a1 : Turn) (o : (Turn)) (h : impl_MulTurns K a0 a1 = some o) : CallOK Try.prog 37 [.agg (cs_Turn a0), .agg (cs_Turn a1)] [.agg (cs_Turn o)] := by
  refine callOK_of_AW Try.func37 rfl (by kernel_rfl) (Nat.le_of_ble_eq_true (by kernel_rfl)) ?_
  intro w0
  unfold impl_MulTurns at h
  refine AW.sC (Tt ∧ T2 Tt) [.box 1, .box 2, .box 3] [2, 3, 4] [1, 2, 3] ⟨tr, tr, tr, tr⟩ ?_
  refine AW.sA ⟨[(4, (vp 3 0))], [(3, (.box [(cF ((((a0.W.mul a1.W).sub (a0.X.mul a1.X)).sub (a0.Y.mul a1.Y)).sub (a0.Z.mul a1.Z))), (cF ((((a0.W.mul a1.X).add (a0.X.mul a1.W)).add (a0.Y.mul a1.Z)).sub (a0.Z.mul a1.Y))), (cF ((((a0.W.mul a1.Y).sub (a0.X.mul a1.Z)).add (a0.Y.mul a1.W)).add (a0.Z.mul a1.X))), (cF ((((a0.W.mul a1.Z).add (a0.X.mul a1.Y)).sub (a0.Y.mul a1.X)).add (a0.Z.mul a1.W)))]))]⟩ (T2 (T4 (T4 (T4 (T4 (T4 (T4 (T4 (T4 (T4 (T4 (T4 (T4 (T4 (T4 (T4 (T4 (T4 (T4 (T4 (T4 (T4 (T4 (T4 Tt)))))))))))))))))))))))) [] [4] [3] ⟨tr, tr, tr, tr, tr, tr, tr, tr, tr, tr, tr, tr, tr, tr, tr, tr, tr, tr, tr, tr, tr, tr, tr, tr, tr, tr, tr, tr, tr, tr, tr, tr, tr, tr, tr, tr, tr, tr, tr, tr, tr, tr, tr, tr, tr, tr, tr, tr, tr, tr, tr, tr, tr, tr, tr, tr, tr, tr, tr, tr, tr, tr, tr, tr, tr, tr, tr, tr, tr, tr, tr, tr, tr, tr, tr, tr, tr, tr, tr, tr, tr, tr, tr, tr, tr, tr, tr, tr, tr, tr, tr, tr, tr, tr, tr⟩ ?_
  refine AW.ret ?_
  replace h := some_eq h
  subst h
  exact ⟨.inr rfl, retOK_of [(.agg [(cF ((((a0.W.mul a1.W).sub (a0.X.mul a1.X)).sub (a0.Y.mul a1.Y)).sub (a0.Z.mul a1.Z))), (cF ((((a0.W.mul a1.X).add (a0.X.mul a1.W)).add (a0.Y.mul a1.Z)).sub (a0.Z.mul a1.Y))), (cF ((((a0.W.mul a1.Y).sub (a0.X.mul a1.Z)).add (a0.Y.mul a1.W)).add (a0.Z.mul a1.X))), (cF ((((a0.W.mul a1.Z).add (a0.X.mul a1.Y)).sub (a0.Y.mul a1.X)).add (a0.Z.mul a1.W)))])] (by kernel_rfl) ⟨⟨⟨rfl, tr⟩, ⟨rfl, tr⟩, ⟨rfl, tr⟩, ⟨rfl, tr⟩, tr⟩, tr⟩ (of_decide_eq_true (by kernel_rfl))⟩

/-! (impl.Turn).vector -/
def impl_Turn_vector (_K : Nat) (a0 : Turn) : Option (Vector) :=
  some (Vector.mk a0.X a0.Y a0.Z)

theorem ok_impl_Turn_vector (K : Nat) (a0 : Turn) (o : (Vector)) (h : impl_Turn_vector K a0 = some o) : CallOK Try.prog 40 [.agg (cs_Turn a0)] [.agg (cs_Vector o)] := by
  refine callOK_of_AW Try.func40 rfl (by kernel_rfl) (Nat.le_of_ble_eq_true (by kernel_rfl)) ?_
  intro w0
  unfold impl_Turn_vector at h
  refine AW.sC (T2 Tt) [.box 1, .box 2] [1, 2] [1, 2] ⟨tr, tr, tr⟩ ?_
  refine AW.sA ⟨[(2, (vp 2 0))], [(2, (.box [(cF a0.X), (cF a0.Y), (cF a0.Z)]))]⟩ (T4 (T4 Tt)) [] [2] [2] ⟨tr, tr, tr, tr, tr, tr, tr, tr, tr⟩ ?_
  refine AW.ret ?_
  replace h := some_eq h
  subst h
  exact ⟨.inr rfl, retOK_of [(.agg [(cF a0.X), (cF a0.Y), (cF a0.Z)])] (by kernel_rfl) ⟨⟨⟨rfl, tr⟩, ⟨rfl, tr⟩, ⟨rfl, tr⟩, tr⟩, tr⟩ (of_decide_eq_true (by kernel_rfl))⟩

/-! impl.CrossOf -/
def impl_CrossOf (_K : Nat) (a0 : Vector) (a1 : Vector) : Option (Vector) :=
  some (Vector.mk ((a0.Y.mul a1.Z).sub (a0.Z.mul a1.Y)) ((a0.Z.mul a1.X).sub (a0.X.mul a1.Z)) ((a0.X.mul a1.Y).sub (a0.Y.mul a1.X)))

theorem ok_impl_CrossOf (K : Nat) (a0 : Vector) (a1 : Vector) (o : (Vector)) (h : impl_CrossOf K a0 a1 = some o) : CallOK Try.prog 41 [.agg (cs_Vector a0), .agg (cs_Vector a1)] [.agg (cs_Vector o)] := by
  refine callOK_of_AW Try.func41 rfl (by kernel_rfl) (Nat.le_of_ble_eq_true (by kernel_rfl)) ?_
  intro w0
  unfold impl_CrossOf at h
  refine AW.sC (Tt ∧ T2 Tt) [.box 1, .box 2, .box 3] [2, 3, 4] [1, 2, 3] ⟨tr, tr, tr, tr⟩ ?_
  refine AW.sA ⟨[(4, (vp 3 0))], [(3, (.box [(cF ((a0.Y.mul a1.Z).sub (a0.Z.mul a1.Y))), (cF ((a0.Z.mul a1.X).sub (a0.X.mul a1.Z))), (cF ((a0.X.mul a1.Y).sub (a0.Y.mul a1.X)))]))]⟩ (Tt ∧ T2 (T4 (T4 (T4 (T4 (T4 (T4 (T4 (T4 Tt))))))))) [] [4] [3] ⟨tr, tr, tr, tr, tr, tr, tr, tr, tr, tr, tr, tr, tr, tr, tr, tr, tr, tr, tr, tr, tr, tr, tr, tr, tr, tr, tr, tr, tr, tr, tr, tr, tr, tr, tr, tr⟩ ?_
  refine AW.ret ?_
  replace h := some_eq h
  subst h
  exact ⟨.inr rfl, retOK_of [(.agg [(cF ((a0.Y.mul a1.Z).sub (a0.Z.mul a1.Y))), (cF ((a0.Z.mul a1.X).sub (a0.X.mul a1.Z))), (cF ((a0.X.mul a1.Y).sub (a0.Y.mul a1.X)))])] (by kernel_rfl) ⟨⟨⟨rfl, tr⟩, ⟨rfl, tr⟩, ⟨rfl, tr⟩, tr⟩, tr⟩ (of_decide_eq_true (by kernel_rfl))⟩

/-! impl.ScaleVector -/
def impl_ScaleVector (_K : Nat) (a0 : Vector) (a1 : F32) : Option (Vector) :=
  some (Vector.mk (a0.X.mul a1) (a0.Y.mul a1) (a0.Z.mul a1))

theorem ok_impl_ScaleVector (K : Nat) (a0 : Vector) (a1 : F32) (o : (Vector)) (h : impl_ScaleVector K a0 a1 = some o) : CallOK Try.prog 25 [.agg (cs_Vector a0), .one (.flt .f32 a1.bits)] [.agg (cs_Vector o)] := by
  refine callOK_of_AW Try.func25 rfl (by kernel_rfl) (Nat.le_of_ble_eq_true (by kernel_rfl)) ?_
  intro w0
  unfold impl_ScaleVector at h
  refine AW.sC (T2 Tt) [.box 1, .box 2] [1, 2, 4] [1, 2] ⟨tr, tr, tr⟩ ?_
  refine AW.sA ⟨[(4, (vp 2 0))], [(2, (.box [(cF (a0.X.mul a1)), (cF (a0.Y.mul a1)), (cF (a0.Z.mul a1))]))]⟩ (T2 (T4 (T4 (T4 Tt)))) [] [4] [2] ⟨tr, tr, tr, tr, tr, tr, tr, tr, tr, tr, tr, tr, tr, tr, tr⟩ ?_
  refine AW.ret ?_
  replace h := some_eq h
  subst h
  exact ⟨.inr rfl, retOK_of [(.agg [(cF (a0.X.mul a1)), (cF (a0.Y.mul a1)), (cF (a0.Z.mul a1))])] (by kernel_rfl) ⟨⟨⟨rfl, tr⟩, ⟨rfl, tr⟩, ⟨rfl, tr⟩, tr⟩, tr⟩ (of_decide_eq_true (by kernel_rfl))⟩

/-! impl.AddVectors -/
def impl_AddVectors (_K : Nat) (a0 : Vector) (a1 : Vector) : Option (Vector) :=
  some (Vector.mk (a0.X.add a1.X) (a0.Y.add a1.Y) (a0.Z.add a1.Z))

theorem ok_impl_AddVectors (K : Nat) (a0 : Vector) (a1 : Vector) (o : (Vector)) (h : impl_AddVectors K a0 a1 = some o) : CallOK Try.prog 23 [.agg (cs_Vector a0), .agg (cs_Vector a1)] [.agg (cs_Vector o)] := by
  refine callOK_of_AW Try.func23 rfl (by kernel_rfl) (Nat.le_of_ble_eq_true (by kernel_rfl)) ?_
  intro w0
  unfold impl_AddVectors at h
  refine AW.sC (Tt ∧ T2 Tt) [.box 1, .box 2, .box 3] [2, 3, 4] [1, 2, 3] ⟨tr, tr, tr, tr⟩ ?_
  refine AW.sA ⟨[(4, (vp 3 0))], [(3, (.box [(cF (a0.X.add a1.X)), (cF (a0.Y.add a1.Y)), (cF (a0.Z.add a1.Z))]))]⟩ (Tt ∧ T4 (T4 (T4 (T4 Tt)))) [] [4] [3] ⟨tr, tr, tr, tr, tr, tr, tr, tr, tr, tr, tr, tr, tr, tr, tr, tr, tr, tr⟩ ?_
  refine AW.ret ?_
  replace h := some_eq h
  subst h
  exact ⟨.inr rfl, retOK_of [(.agg [(cF (a0.X.add a1.X)), (cF (a0.Y.add a1.Y)), (cF (a0.Z.add a1.Z))])] (by kernel_rfl) ⟨⟨⟨rfl, tr⟩, ⟨rfl, tr⟩, ⟨rfl, tr⟩, tr⟩, tr⟩ (of_decide_eq_true (by kernel_rfl))⟩

/-! impl.RotateBy -/
def impl_RotateBy (K : Nat) (a0 : Turn) (a1 : Vector) : Option (Vector) :=
  (impl_Turn_vector K a0).bind fun v1 => (impl_CrossOf K v1 a1).bind fun v3 => (impl_ScaleVector K v3 (Fl.mk (k := .f32) 1073741824 (by decide))).bind fun v5 => (impl_ScaleVector K v5 a0.W).bind fun v7 => (impl_AddVectors K a1 v7).bind fun v9 => (impl_CrossOf K v1 v5).bind fun v11 => (impl_AddVectors K v9 v11).bind fun v13 => some v13

theorem ok_impl_RotateBy (K : Nat) (a0 : Turn) (a1 : Vector) (o : (Vector)) (h : impl_RotateBy K a0 a1 = some o) : CallOK Try.prog 24 [.agg (cs_Turn a0), .agg (cs_Vector a1)] [.agg (cs_Vector o)] := by
  refine callOK_of_AW Try.func24 rfl (by kernel_rfl) (Nat.le_of_ble_eq_true (by kernel_rfl)) ?_
  intro w0
  unfold impl_RotateBy at h
  refine AW.sC (Tt ∧ T2 Tt) [.box 1, .box 2, .box 3] [2, 3, 4] [1, 2, 3] ⟨tr, tr, tr, tr⟩ ?_
  refine AW.seq ?_
  obtain ⟨v1, e2, h⟩ := bind_some h
  refine AW.tC (Tt ∧ ((((eF a0.W) ∧ (eF a0.X) ∧ (eF a0.Y) ∧ (eF a0.Z) ∧ Tt) ∧ Tt) ∧ CallOK Try.prog 40 [.agg (cs_Turn a0)] [.agg (cs_Vector v1)]) ∧ T2 Tt) [.no, .call [.agg (cs_Turn a0)] [.agg (cs_Vector v1)] [[.view, .view, .view]], .box 4] [2, 3, 4, 5] [1, 2, 3, 4] ⟨tr, ⟨⟨⟨rfl, rfl, rfl, rfl, tr⟩, tr⟩, ok_impl_Turn_vector K a0 v1 e2⟩, tr, tr, tr⟩ ?_
  refine AW.seq ?_
  obtain ⟨v3, e4, h⟩ := bind_some h
  obtain ⟨v5, e6, h⟩ := bind_some h
  refine AW.tA ⟨[(2, (vp 1 0)), (3, (vp 2 0)), (4, (vp 3 0)), (5, (vp 4 0)), (6, (vp 5 0))], [(1, (.box [(cF a0.W), (cF a0.X), (cF a0.Y), (cF a0.Z)])), (2, (.box [(cF a1.X), (cF a1.Y), (cF a1.Z)])), (3, (.box [(cF (default : F32)), (cF (default : F32)), (cF (default : F32))])), (4, (.box [(cF v1.X), (cF v1.Y), (cF v1.Z)])), (5, (.box [(cF v5.X), (cF v5.Y), (cF v5.Z)]))]⟩ (T2 (((((eF v1.X) ∧ (eF v1.Y) ∧ (eF v1.Z) ∧ Tt) ∧ ((eF a1.X) ∧ (eF a1.Y) ∧ (eF a1.Z) ∧ Tt) ∧ Tt) ∧ CallOK Try.prog 41 [.agg (cs_Vector v1), .agg (cs_Vector a1)] [.agg (cs_Vector v3)]) ∧ ((((eF v3.X) ∧ (eF v3.Y) ∧ (eF v3.Z) ∧ Tt) ∧ (eF (Fl.mk (k := .f32) 1073741824 (by decide))) ∧ Tt) ∧ CallOK Try.prog 25 [.agg (cs_Vector v3), .one (.flt .f32 (Fl.mk (k := .f32) 1073741824 (by decide)).bits)] [.agg (cs_Vector v5)]) ∧ T2 Tt)) [.no, .no, .call [.agg (cs_Vector v1), .agg (cs_Vector a1)] [.agg (cs_Vector v3)] [[.view, .view, .view]], .call [.agg (cs_Vector v3), .one (.flt .f32 (Fl.mk (k := .f32) 1073741824 (by decide)).bits)] [.agg (cs_Vector v5)] [[.view, .view, .view]], .box 5] [2, 3, 4, 5, 6] [1, 2, 3, 4, 5] ⟨tr, tr, ⟨⟨⟨rfl, rfl, rfl, tr⟩, ⟨rfl, rfl, rfl, tr⟩, tr⟩, ok_impl_CrossOf K v1 a1 v3 e4⟩, ⟨⟨⟨rfl, rfl, rfl, tr⟩, rfl, tr⟩, ok_impl_ScaleVector K v3 (Fl.mk (k := .f32) 1073741824 (by decide)) v5 e6⟩, tr, tr, tr⟩ ?_
  refine AW.seq ?_
  obtain ⟨v7, e8, h⟩ := bind_some h
  obtain ⟨v9, e10, h⟩ := bind_some h
  obtain ⟨v11, e12, h⟩ := bind_some h
  obtain ⟨v13, e14, h⟩ := bind_some h
  refine AW.dA ⟨[(4, (vp 3 0))], [(3, (.box [(cF v13.X), (cF v13.Y), (cF v13.Z)]))]⟩ ((T4 (((((eF v5.X) ∧ (eF v5.Y) ∧ (eF v5.Z) ∧ Tt) ∧ (eF a0.W) ∧ Tt) ∧ CallOK Try.prog 25 [.agg (cs_Vector v5), .one (.flt .f32 a0.W.bits)] [.agg (cs_Vector v7)]) ∧ ((((eF a1.X) ∧ (eF a1.Y) ∧ (eF a1.Z) ∧ Tt) ∧ ((eF v7.X) ∧ (eF v7.Y) ∧ (eF v7.Z) ∧ Tt) ∧ Tt) ∧ CallOK Try.prog 23 [.agg (cs_Vector a1), .agg (cs_Vector v7)] [.agg (cs_Vector v9)]) ∧ T2 (((((eF v1.X) ∧ (eF v1.Y) ∧ (eF v1.Z) ∧ Tt) ∧ ((eF v5.X) ∧ (eF v5.Y) ∧ (eF v5.Z) ∧ Tt) ∧ Tt) ∧ CallOK Try.prog 41 [.agg (cs_Vector v1), .agg (cs_Vector v5)] [.agg (cs_Vector v11)]) ∧ ((((eF v9.X) ∧ (eF v9.Y) ∧ (eF v9.Z) ∧ Tt) ∧ ((eF v11.X) ∧ (eF v11.Y) ∧ (eF v11.Z) ∧ Tt) ∧ Tt) ∧ CallOK Try.prog 23 [.agg (cs_Vector v9), .agg (cs_Vector v11)] [.agg (cs_Vector v13)]) ∧ Tt))) ∧ (Tt ∧ Tt)) 10 [.no, .no, .no, .no, .call [.agg (cs_Vector v5), .one (.flt .f32 a0.W.bits)] [.agg (cs_Vector v7)] [[.view, .view, .view]], .call [.agg (cs_Vector a1), .agg (cs_Vector v7)] [.agg (cs_Vector v9)] [[.view, .view, .view]], .no, .no, .call [.agg (cs_Vector v1), .agg (cs_Vector v5)] [.agg (cs_Vector v11)] [[.view, .view, .view]], .call [.agg (cs_Vector v9), .agg (cs_Vector v11)] [.agg (cs_Vector v13)] [[.view, .view, .view]]] [4] [3] ⟨⟨tr, tr, tr, tr, ⟨⟨⟨rfl, rfl, rfl, tr⟩, rfl, tr⟩, ok_impl_ScaleVector K v5 a0.W v7 e8⟩, ⟨⟨⟨rfl, rfl, rfl, tr⟩, ⟨rfl, rfl, rfl, tr⟩, tr⟩, ok_impl_AddVectors K a1 v7 v9 e10⟩, tr, tr, ⟨⟨⟨rfl, rfl, rfl, tr⟩, ⟨rfl, rfl, rfl, tr⟩, tr⟩, ok_impl_CrossOf K v1 v5 v11 e12⟩, ⟨⟨⟨rfl, rfl, rfl, tr⟩, ⟨rfl, rfl, rfl, tr⟩, tr⟩, ok_impl_AddVectors K v9 v11 v13 e14⟩, tr⟩, ⟨tr, tr⟩⟩ ?_
  refine thenQ_normal ?_
  refine AW.ret ?_
  replace h := some_eq h
  subst h
  exact ⟨.inr rfl, retOK_of [(.agg [(cF v13.X), (cF v13.Y), (cF v13.Z)])] (by kernel_rfl) ⟨⟨⟨rfl, tr⟩, ⟨rfl, tr⟩, ⟨rfl, tr⟩, tr⟩, tr⟩ (of_decide_eq_true (by kernel_rfl))⟩

/-! (*impl.Skeleton).world -/
def Zt8 (QE Q2 Q3 Q4 : Prop) : Prop := ((Tt ∧ (Q2 ∧ (Q3 ∧ (Q4 ∧ Tt)))) ∧ (Q2 ∧ (Tt ∧ (Q3 ∧ (Q4 ∧ Tt)))) ∧ QE)
theorem zt8 {QE Q2 Q3 Q4 : Prop} (qe : QE) (q2 : Q2) (q3 : Q3) (q4 : Q4) : Zt8 QE Q2 Q3 Q4 := ⟨⟨tr, ⟨q2, ⟨q3, ⟨q4, tr⟩⟩⟩⟩, ⟨q2, ⟨tr, ⟨q3, ⟨q4, tr⟩⟩⟩⟩, qe⟩
def Zt9 (QE Q1 Q2 Q3 Q4 : Prop) : Prop := ((Tt ∧ (Q1 ∧ (Q2 ∧ (Q3 ∧ (Q4 ∧ Tt))))) ∧ (Q1 ∧ (Zt8 QE Q2 Q3 Q4)) ∧ QE)
theorem zt9 {QE Q1 Q2 Q3 Q4 : Prop} (qe : QE) (q1 : Q1) (q2 : Q2) (q3 : Q3) (q4 : Q4) : Zt9 QE Q1 Q2 Q3 Q4 := ⟨⟨tr, ⟨q1, ⟨q2, ⟨q3, ⟨q4, tr⟩⟩⟩⟩⟩, ⟨q1, (zt8 qe q2 q3 q4)⟩, qe⟩
def Zt10 (Q1 Q2 Q3 Q4 : Prop) : Prop := (Tt ∧ (Q1 ∧ (Q2 ∧ (Q3 ∧ (Q4 ∧ Tt)))))
theorem zt10 {Q1 Q2 Q3 Q4 : Prop} (q1 : Q1) (q2 : Q2) (q3 : Q3) (q4 : Q4) : Zt10 Q1 Q2 Q3 Q4 := ⟨tr, ⟨q1, ⟨q2, ⟨q3, ⟨q4, tr⟩⟩⟩⟩⟩
def Zt11 (QE Q1 Q2 Q3 Q4 : Prop) : Prop := ((Tt ∧ (Zt9 QE Q1 Q2 Q3 Q4)) ∧ (Tt ∧ (Zt10 Q1 Q2 Q3 Q4)) ∧ QE)
theorem zt11 {QE Q1 Q2 Q3 Q4 : Prop} (qe : QE) (q1 : Q1) (q2 : Q2) (q3 : Q3) (q4 : Q4) : Zt11 QE Q1 Q2 Q3 Q4 := ⟨⟨tr, (zt9 qe q1 q2 q3 q4)⟩, ⟨tr, (zt10 q1 q2 q3 q4)⟩, qe⟩
def Zt12 (QE Q0 Q1 Q2 Q3 Q4 : Prop) : Prop := ((Q0 ∧ (Zt11 QE Q1 Q2 Q3 Q4)) ∧ (Tt ∧ (Q0 ∧ (Zt10 Q1 Q2 Q3 Q4))) ∧ QE)
theorem zt12 {QE Q0 Q1 Q2 Q3 Q4 : Prop} (qe : QE) (q0 : Q0) (q1 : Q1) (q2 : Q2) (q3 : Q3) (q4 : Q4) : Zt12 QE Q0 Q1 Q2 Q3 Q4 := ⟨⟨q0, (zt11 qe q1 q2 q3 q4)⟩, ⟨tr, ⟨q0, (zt10 q1 q2 q3 q4)⟩⟩, qe⟩
def Zt13 (Q0 Q1 Q2 Q3 Q4 : Prop) : Prop := (Tt ∧ (Q0 ∧ (Zt10 Q1 Q2 Q3 Q4)))
theorem zt13 {Q0 Q1 Q2 Q3 Q4 : Prop} (q0 : Q0) (q1 : Q1) (q2 : Q2) (q3 : Q3) (q4 : Q4) : Zt13 Q0 Q1 Q2 Q3 Q4 := ⟨tr, ⟨q0, (zt10 q1 q2 q3 q4)⟩⟩
def Zt14 (QE Q0 Q1 Q2 Q3 Q4 : Prop) : Prop := ((Tt ∧ (Zt12 QE Q0 Q1 Q2 Q3 Q4)) ∧ (Tt ∧ (Zt13 Q0 Q1 Q2 Q3 Q4)) ∧ QE)
theorem zt14 {QE Q0 Q1 Q2 Q3 Q4 : Prop} (qe : QE) (q0 : Q0) (q1 : Q1) (q2 : Q2) (q3 : Q3) (q4 : Q4) : Zt14 QE Q0 Q1 Q2 Q3 Q4 := ⟨⟨tr, (zt12 qe q0 q1 q2 q3 q4)⟩, ⟨tr, (zt13 q0 q1 q2 q3 q4)⟩, qe⟩
def impl_Skeleton_world_l1 (K : Nat) (a0 : Skeleton) (a1 : Pose) : Nat → Int → (List Turn) → (List Vector) → Option ((List Turn) × (List Vector))
  | 0, _, _, _ => none
  | k + 1, x9, x10, x11 => ite2 ((decide (x9 < (a0.Bones.length : Int)))) (chk (0 ≤ x9 ∧ x9 < (a0.Bones.length : Int)) (ite2 ((decide (x9 > (0 : Int)))) (chk (0 ≤ ((a0.Bones.getD x9.toNat default).Parent) ∧ ((a0.Bones.getD x9.toNat default).Parent) < (x10.length : Int)) (chk (0 ≤ x9 ∧ x9 < (a1.Turns.length : Int)) ((impl_MulTurns K (x10.getD (((a0.Bones.getD x9.toNat default).Parent).toNat) default) (a1.Turns.getD x9.toNat default)).bind fun v17 => chk (0 ≤ x9 ∧ x9 < (x10.length : Int)) (chk (0 ≤ ((a0.Bones.getD x9.toNat default).Parent) ∧ ((a0.Bones.getD x9.toNat default).Parent) < (x11.length : Int)) (chk (0 ≤ ((a0.Bones.getD x9.toNat default).Parent) ∧ ((a0.Bones.getD x9.toNat default).Parent) < ((x10.set x9.toNat v17).length : Int)) ((impl_RotateBy K ((x10.set x9.toNat v17).getD (((a0.Bones.getD x9.toNat default).Parent).toNat) default) ((a0.Bones.getD x9.toNat default).Offset)).bind fun v22 => (impl_AddVectors K (x11.getD (((a0.Bones.getD x9.toNat default).Parent).toNat) default) v22).bind fun v24 => chk (0 ≤ x9 ∧ x9 < (x11.length : Int)) (impl_Skeleton_world_l1 K a0 a1 k (IntKind.i64.wrap (x9 + (1 : Int))) (x10.set x9.toNat v17) (x11.set x9.toNat v24)))))))) (impl_Skeleton_world_l1 K a0 a1 k (IntKind.i64.wrap (x9 + (1 : Int))) x10 x11))) (some (x10, x11))

def impl_Skeleton_world (K : Nat) (a0 : Skeleton) (a1 : Pose) : Option ((List Turn) × (List Vector)) :=
  chk (0 ≤ (a0.Bones.length : Int) ∧ (a0.Bones.length : Int).toNat * 16 ≤ 140737488355328) (chk (0 ≤ (a0.Bones.length : Int) ∧ (a0.Bones.length : Int).toNat * 12 ≤ 140737488355328) (chk (0 ≤ (0 : Int) ∧ (0 : Int) < (a1.Turns.length : Int)) (chk (0 ≤ (0 : Int) ∧ (0 : Int) < ((List.replicate (a0.Bones.length : Int).toNat (default : Turn)).length : Int)) (chk (0 ≤ (0 : Int) ∧ (0 : Int) < ((List.replicate (a0.Bones.length : Int).toNat (default : Vector)).length : Int)) (impl_Skeleton_world_l1 K a0 a1 K (0 : Int) ((List.replicate (a0.Bones.length : Int).toNat (default : Turn)).set ((0 : Int).toNat) (a1.Turns.getD ((0 : Int).toNat) default)) ((List.replicate (a0.Bones.length : Int).toNat (default : Vector)).set ((0 : Int).toNat) a1.Root))))))

theorem ok_impl_Skeleton_world (K : Nat) (a0 : Skeleton) (a1 : Pose) (o : ((List Turn) × (List Vector))) (h : impl_Skeleton_world K a0 a1 = some o) : CallOK Try.prog 28 [.one (pl 1 cs_Skeleton a0), .agg (cs_Pose a1)] [.one (sl 4 cs_Turn o.1), .one (sl 3 cs_Vector o.2)] := by
  refine callOK_of_AW Try.func28 rfl (by kernel_rfl) (Nat.le_of_ble_eq_true (by kernel_rfl)) ?_
  intro w0
  unfold impl_Skeleton_world at h
  refine AW.sA ⟨[(0, (vc (pl 1 cs_Skeleton a0))), (3, (vp 1 0))], [(1, (.box [(cF a1.Root.X), (cF a1.Root.Y), (cF a1.Root.Z), (.c (sl 4 cs_Turn a1.Turns))]))]⟩ (Tt ∧ T2 Tt) [.box 1] [0, 3] [1] ⟨tr, tr, tr, tr⟩ ?_
  refine AW.seq ?_
  obtain ⟨c1, h⟩ := chk_some h
  obtain ⟨c2, h⟩ := chk_some h
  refine AW.dA ⟨[(0, (vc (pl 1 cs_Skeleton a0))), (3, (vp 1 0)), (6, (.v (.one (.arr 2)))), (7, (.v (.one (.arr 3))))], [(1, (.box [(cF a1.Root.X), (cF a1.Root.Y), (cF a1.Root.Z), (.c (sl 4 cs_Turn a1.Turns))])), (2, (.arr false (List.replicate (a0.Bones.length : Int).toNat (default : Turn)).length 4 (gl cs_Turn (List.replicate (a0.Bones.length : Int).toNat (default : Turn))))), (3, (.arr false (List.replicate (a0.Bones.length : Int).toNat (default : Vector)).length 3 (gl cs_Vector (List.replicate (a0.Bones.length : Int).toNat (default : Vector)))))]⟩ ((Tt ∧ T4 ((0 ≤ (a0.Bones.length : Int) ∧ (a0.Bones.length : Int) = (a0.Bones.length : Int) ∧ (((List.replicate (a0.Bones.length : Int).toNat (default : Turn)).length : Nat) : Int) = (a0.Bones.length : Int) ∧ (List.replicate (a0.Bones.length : Int).toNat (default : Turn)).length * 16 ≤ 140737488355328 ∧ ∀ i, i < (List.replicate (a0.Bones.length : Int).toNat (default : Turn)).length → zeroRow (fun _ => none) [(cF (default : F32)), (cF (default : F32)), (cF (default : F32)), (cF (default : F32))] (gl cs_Turn (List.replicate (a0.Bones.length : Int).toNat (default : Turn)) i)) ∧ Tt ∧ T4 ((0 ≤ (a0.Bones.length : Int) ∧ (a0.Bones.length : Int) = (a0.Bones.length : Int) ∧ (((List.replicate (a0.Bones.length : Int).toNat (default : Vector)).length : Nat) : Int) = (a0.Bones.length : Int) ∧ (List.replicate (a0.Bones.length : Int).toNat (default : Vector)).length * 12 ≤ 140737488355328 ∧ ∀ i, i < (List.replicate (a0.Bones.length : Int).toNat (default : Vector)).length → zeroRow (fun _ => none) [(cF (default : F32)), (cF (default : F32)), (cF (default : F32))] (gl cs_Vector (List.replicate (a0.Bones.length : Int).toNat (default : Vector)) i)) ∧ T2 Tt))) ∧ (Tt)) 14 [.no, .no, .no, .no, .no, .objA 2 (List.replicate (a0.Bones.length : Int).toNat (default : Turn)).length (gl cs_Turn (List.replicate (a0.Bones.length : Int).toNat (default : Turn))), .no, .no, .no, .no, .no, .objA 3 (List.replicate (a0.Bones.length : Int).toNat (default : Vector)).length (gl cs_Vector (List.replicate (a0.Bones.length : Int).toNat (default : Vector)))] [0, 3, 6, 7] [1, 2, 3] ⟨⟨tr, tr, tr, tr, tr, ⟨c1.1, rfl, len_rep c1.1, rep_bytes c1.2, fun i hi => gl_zero (cs := cs_Turn) (zs := [(cF (default : F32)), (cF (default : F32)), (cF (default : F32)), (cF (default : F32))]) (n := (a0.Bones.length : Int).toNat) ⟨⟨rfl, tr⟩, ⟨rfl, tr⟩, ⟨rfl, tr⟩, ⟨rfl, tr⟩, tr⟩ i (rep_lt hi)⟩, tr, tr, tr, tr, tr, ⟨c2.1, rfl, len_rep c2.1, rep_bytes c2.2, fun i hi => gl_zero (cs := cs_Vector) (zs := [(cF (default : F32)), (cF (default : F32)), (cF (default : F32))]) (n := (a0.Bones.length : Int).toNat) ⟨⟨rfl, tr⟩, ⟨rfl, tr⟩, ⟨rfl, tr⟩, tr⟩ i (rep_lt hi)⟩, tr, tr, tr⟩, tr⟩ ?_
  refine thenQ_normal ?_
  refine AW.seq ?_
  obtain ⟨c3, h⟩ := chk_some h
  obtain ⟨c4, h⟩ := chk_some h
  obtain ⟨c5, h⟩ := chk_some h
  refine AW.post ?_
  refine AW.firstA (by kernel_rfl) [0, 1, 2, 6] [.no, .no, .no, .no, .no, .no, .no, .no, .no, .set (List.replicate (a0.Bones.length : Int).toNat (default : Turn)).length (gl cs_Turn ((List.replicate (a0.Bones.length : Int).toNat (default : Turn)).set ((0 : Int).toNat) (a1.Turns.getD ((0 : Int).toNat) default))) ((List.range 4).map fun j => (cs_Turn (a1.Turns.getD ((0 : Int).toNat) default)).getD (0 + j) .nilptr), .no, .set (List.replicate (a0.Bones.length : Int).toNat (default : Vector)).length (gl cs_Vector ((List.replicate (a0.Bones.length : Int).toNat (default : Vector)).set ((0 : Int).toNat) a1.Root)) ((List.range 3).map fun j => (cs_Vector a1.Root).getD (0 + j) .nilptr)] [0, 3, 6, 7] [1, 2, 3] (s' := ⟨[(0, (vc (pl 1 cs_Skeleton a0))), (3, (vp 1 0)), (6, (.v (.one (.arr 2)))), (7, (.v (.one (.arr 3))))], [(1, (.box [(cF a1.Root.X), (cF a1.Root.Y), (cF a1.Root.Z), (.c (sl 4 cs_Turn a1.Turns))])), (2, (.arr false (List.replicate (a0.Bones.length : Int).toNat (default : Turn)).length 4 (gl cs_Turn ((List.replicate (a0.Bones.length : Int).toNat (default : Turn)).set ((0 : Int).toNat) (a1.Turns.getD ((0 : Int).toNat) default))))), (3, (.arr false (List.replicate (a0.Bones.length : Int).toNat (default : Vector)).length 3 (gl cs_Vector ((List.replicate (a0.Bones.length : Int).toNat (default : Vector)).set ((0 : Int).toNat) a1.Root))))]⟩) (ob := (Zt14 ((⟨[(0, (vc (pl 1 cs_Skeleton a0))), (3, (vp 1 0)), (6, (.v (.one (.arr 2)))), (7, (.v (.one (.arr 3))))], [(1, (.box [(cF a1.Root.X), (cF a1.Root.Y), (cF a1.Root.Z), (.c (sl 4 cs_Turn a1.Turns))])), (2, (.arr false (List.replicate (a0.Bones.length : Int).toNat (default : Turn)).length 4 (gl cs_Turn ((List.replicate (a0.Bones.length : Int).toNat (default : Turn)).set ((0 : Int).toNat) (a1.Turns.getD ((0 : Int).toNat) default))))), (3, (.arr false (List.replicate (a0.Bones.length : Int).toNat (default : Vector)).length 3 (gl cs_Vector ((List.replicate (a0.Bones.length : Int).toNat (default : Vector)).set ((0 : Int).toNat) a1.Root))))]⟩ : St) = ⟨[(0, (vc (pl 1 cs_Skeleton a0))), (3, (vp 1 0)), (6, (.v (.one (.arr 2)))), (7, (.v (.one (.arr 3))))], [(1, (.box [(cF a1.Root.X), (cF a1.Root.Y), (cF a1.Root.Z), (.c (sl 4 cs_Turn a1.Turns))])), (2, (.arr false (List.replicate (a0.Bones.length : Int).toNat (default : Turn)).length 4 (gl cs_Turn ((List.replicate (a0.Bones.length : Int).toNat (default : Turn)).set ((0 : Int).toNat) (a1.Turns.getD ((0 : Int).toNat) default))))), (3, (.arr false (List.replicate (a0.Bones.length : Int).toNat (default : Vector)).length 3 (gl cs_Vector ((List.replicate (a0.Bones.length : Int).toNat (default : Vector)).set ((0 : Int).toNat) a1.Root))))]⟩) ((0 ≤ (0 : Int) ∧ (0 : Int) < (a1.Turns.length : Int))) ((0 ≤ (0 : Int) ∧ (0 : Int) < ((List.replicate (a0.Bones.length : Int).toNat (default : Turn)).length : Int))) (((List.replicate (a0.Bones.length : Int).toNat (default : Turn)).length = (List.replicate (a0.Bones.length : Int).toNat (default : Turn)).length ∧ SetOb (List.replicate (a0.Bones.length : Int).toNat (default : Turn)).length 4 ((0 : Int).toNat) 0 4 (gl cs_Turn (List.replicate (a0.Bones.length : Int).toNat (default : Turn))) (gl cs_Turn ((List.replicate (a0.Bones.length : Int).toNat (default : Turn)).set ((0 : Int).toNat) (a1.Turns.getD ((0 : Int).toNat) default))) ∧ ((List.range 4).map fun j => (cs_Turn (a1.Turns.getD ((0 : Int).toNat) default)).getD (0 + j) .nilptr) = ((List.range 4).map fun j => gl cs_Turn ((List.replicate (a0.Bones.length : Int).toNat (default : Turn)).set ((0 : Int).toNat) (a1.Turns.getD ((0 : Int).toNat) default)) ((0 : Int).toNat) (0 + j)) ∧ ((((.flt .f32 ((a1.Turns.getD ((0 : Int).toNat) default).W).bits) : C) = (.flt .f32 ((a1.Turns.getD ((0 : Int).toNat) default).W).bits) ∧ Tt) ∧ (((.flt .f32 ((a1.Turns.getD ((0 : Int).toNat) default).X).bits) : C) = (.flt .f32 ((a1.Turns.getD ((0 : Int).toNat) default).X).bits) ∧ Tt) ∧ (((.flt .f32 ((a1.Turns.getD ((0 : Int).toNat) default).Y).bits) : C) = (.flt .f32 ((a1.Turns.getD ((0 : Int).toNat) default).Y).bits) ∧ Tt) ∧ (((.flt .f32 ((a1.Turns.getD ((0 : Int).toNat) default).Z).bits) : C) = (.flt .f32 ((a1.Turns.getD ((0 : Int).toNat) default).Z).bits) ∧ Tt) ∧ Tt) ∧ (false = true → ∀ j, j < 4 → isSeq (gl cs_Turn (List.replicate (a0.Bones.length : Int).toNat (default : Turn)) ((0 : Int).toNat) (0 + j)) = false ∧ isSeq (gl cs_Turn ((List.replicate (a0.Bones.length : Int).toNat (default : Turn)).set ((0 : Int).toNat) (a1.Turns.getD ((0 : Int).toNat) default)) ((0 : Int).toNat) (0 + j)) = false))) ((0 ≤ (0 : Int) ∧ (0 : Int) < ((List.replicate (a0.Bones.length : Int).toNat (default : Vector)).length : Int))) (((List.replicate (a0.Bones.length : Int).toNat (default : Vector)).length = (List.replicate (a0.Bones.length : Int).toNat (default : Vector)).length ∧ SetOb (List.replicate (a0.Bones.length : Int).toNat (default : Vector)).length 3 ((0 : Int).toNat) 0 3 (gl cs_Vector (List.replicate (a0.Bones.length : Int).toNat (default : Vector))) (gl cs_Vector ((List.replicate (a0.Bones.length : Int).toNat (default : Vector)).set ((0 : Int).toNat) a1.Root)) ∧ ((List.range 3).map fun j => (cs_Vector a1.Root).getD (0 + j) .nilptr) = ((List.range 3).map fun j => gl cs_Vector ((List.replicate (a0.Bones.length : Int).toNat (default : Vector)).set ((0 : Int).toNat) a1.Root) ((0 : Int).toNat) (0 + j)) ∧ ((((.flt .f32 a1.Root.X.bits) : C) = (.flt .f32 a1.Root.X.bits) ∧ Tt) ∧ (((.flt .f32 a1.Root.Y.bits) : C) = (.flt .f32 a1.Root.Y.bits) ∧ Tt) ∧ (((.flt .f32 a1.Root.Z.bits) : C) = (.flt .f32 a1.Root.Z.bits) ∧ Tt) ∧ Tt) ∧ (false = true → ∀ j, j < 3 → isSeq (gl cs_Vector (List.replicate (a0.Bones.length : Int).toNat (default : Vector)) ((0 : Int).toNat) (0 + j)) = false ∧ isSeq (gl cs_Vector ((List.replicate (a0.Bones.length : Int).toNat (default : Vector)).set ((0 : Int).toNat) a1.Root) ((0 : Int).toNat) (0 + j)) = false))))) (by kernel_rfl) (zt14 rfl (c3) (c4) ⟨rfl, setN rfl gl_set, (gl_atp (ltN rfl c4)).symm, ⟨⟨rfl, tr⟩, ⟨rfl, tr⟩, ⟨rfl, tr⟩, ⟨rfl, tr⟩, tr⟩, (fun h => nomatch h)⟩ (c5) ⟨rfl, setN rfl gl_set, (gl_atp (ltN rfl c5)).symm, ⟨⟨rfl, tr⟩, ⟨rfl, tr⟩, ⟨rfl, tr⟩, tr⟩, (fun h => nomatch h)⟩) ?_
  refine ⟨⟨[(0, (vc (pl 1 cs_Skeleton a0))), (3, (vp 1 0)), (6, (.v (.one (.arr 2)))), (7, (.v (.one (.arr 3))))], [(1, (.box [(cF a1.Root.X), (cF a1.Root.Y), (cF a1.Root.Z), (.c (sl 4 cs_Turn a1.Turns))])), (2, (.arr false ((List.replicate (a0.Bones.length : Int).toNat (default : Turn)).set ((0 : Int).toNat) (a1.Turns.getD ((0 : Int).toNat) default)).length 4 (gl cs_Turn ((List.replicate (a0.Bones.length : Int).toNat (default : Turn)).set ((0 : Int).toNat) (a1.Turns.getD ((0 : Int).toNat) default))))), (3, (.arr false ((List.replicate (a0.Bones.length : Int).toNat (default : Vector)).set ((0 : Int).toNat) a1.Root).length 3 (gl cs_Vector ((List.replicate (a0.Bones.length : Int).toNat (default : Vector)).set ((0 : Int).toNat) a1.Root))))]⟩, subEq (by simp only [List.length_set]), ?_⟩
  refine thenQ_normal ?_
  refine AW.seq ?_
  refine AW.sA ⟨[(3, (vp 1 0)), (6, (.v (.one (.arr 2)))), (7, (.v (.one (.arr 3)))), (35, (vc (sl 4 cs_Bone a0.Bones))), (36, (vI (a0.Bones.length : Int))), (37, (vI (0 : Int)))], [(1, (.box [(cF a1.Root.X), (cF a1.Root.Y), (cF a1.Root.Z), (.c (sl 4 cs_Turn a1.Turns))])), (2, (.arr false ((List.replicate (a0.Bones.length : Int).toNat (default : Turn)).set ((0 : Int).toNat) (a1.Turns.getD ((0 : Int).toNat) default)).length 4 (gl cs_Turn ((List.replicate (a0.Bones.length : Int).toNat (default : Turn)).set ((0 : Int).toNat) (a1.Turns.getD ((0 : Int).toNat) default))))), (3, (.arr false ((List.replicate (a0.Bones.length : Int).toNat (default : Vector)).set ((0 : Int).toNat) a1.Root).length 3 (gl cs_Vector ((List.replicate (a0.Bones.length : Int).toNat (default : Vector)).set ((0 : Int).toNat) a1.Root))))]⟩ (T2 (T4 Tt)) [] [3, 6, 7, 35, 36, 37] [1, 2, 3] ⟨tr, tr, tr, tr, tr, tr, tr⟩ ?_
  refine AW.block ?_
  refine AW.loopQ (σ := Nat × Int × (List Turn) × (List Vector)) (fun p => ⟨[(3, (vp 1 0)), (6, (.v (.one (.arr 2)))), (7, (.v (.one (.arr 3)))), (35, (vc (sl 4 cs_Bone a0.Bones))), (36, (vI (a0.Bones.length : Int))), (37, (vI p.2.1))], [(1, (.box [(cF a1.Root.X), (cF a1.Root.Y), (cF a1.Root.Z), (.c (sl 4 cs_Turn a1.Turns))])), (2, (.arr false p.2.2.1.length 4 (gl cs_Turn p.2.2.1))), (3, (.arr false p.2.2.2.length 3 (gl cs_Vector p.2.2.2)))]⟩) (fun p => impl_Skeleton_world_l1 K a0 a1 p.1 p.2.1 p.2.2.1 p.2.2.2 = some o) (fun p => p.1) (K, (0 : Int), ((List.replicate (a0.Bones.length : Int).toNat (default : Turn)).set ((0 : Int).toNat) (a1.Turns.getD ((0 : Int).toNat) default)), ((List.replicate (a0.Bones.length : Int).toNat (default : Vector)).set ((0 : Int).toNat) a1.Root)) h ?_
  clear h
  rintro ⟨k, x9, x10, x11⟩ h
  replace h : impl_Skeleton_world_l1 K a0 a1 k x9 x10 x11 = some o := h
  show AW _ _ (⟨[(3, (vp 1 0)), (6, (.v (.one (.arr 2)))), (7, (.v (.one (.arr 3)))), (35, (vc (sl 4 cs_Bone a0.Bones))), (36, (vI (a0.Bones.length : Int))), (37, (vI x9))], [(1, (.box [(cF a1.Root.X), (cF a1.Root.Y), (cF a1.Root.Z), (.c (sl 4 cs_Turn a1.Turns))])), (2, (.arr false x10.length 4 (gl cs_Turn x10))), (3, (.arr false x11.length 3 (gl cs_Vector x11)))]⟩ : St) _
  obtain _ | k := k
  · rw [impl_Skeleton_world_l1] at h; cases h
  rw [impl_Skeleton_world_l1] at h
  refine AW.sA ⟨[(3, (vp 1 0)), (6, (.v (.one (.arr 2)))), (7, (.v (.one (.arr 3)))), (35, (vc (sl 4 cs_Bone a0.Bones))), (36, (vI (a0.Bones.length : Int))), (37, (vI x9)), (38, (vB (decide (x9 < (a0.Bones.length : Int)))))], [(1, (.box [(cF a1.Root.X), (cF a1.Root.Y), (cF a1.Root.Z), (.c (sl 4 cs_Turn a1.Turns))])), (2, (.arr false x10.length 4 (gl cs_Turn x10))), (3, (.arr false x11.length 3 (gl cs_Vector x11)))]⟩ (Tt ∧ Tt) [] [3, 6, 7, 35, 36, 37, 38] [1, 2, 3] ⟨tr, tr⟩ ?_
  refine AW.seq ?_
  rcases ite2_cases h with ⟨b12, h⟩ | ⟨b12, h⟩
  · refine AW.cond_t rfl b12 ?_
    refine AW.skip ?_
    refine thenQ_normal ?_
    refine AW.seq ?_
    refine AW.block ?_
    refine AW.seq ?_
    obtain ⟨c13, h⟩ := chk_some h
    refine AW.tC (Tt ∧ (0 ≤ x9 ∧ x9 < (a0.Bones.length : Int)) ∧ T4 Tt) [.no, .no, .no, .box 6] [3, 6, 7, 8, 9, 35, 36, 37] [1, 2, 3, 6] ⟨tr, c13, tr, tr, tr, tr, tr⟩ ?_
    refine AW.sA ⟨[(3, (vp 1 0)), (6, (.v (.one (.arr 2)))), (7, (.v (.one (.arr 3)))), (8, (vI x9)), (9, (vp 6 0)), (35, (vc (sl 4 cs_Bone a0.Bones))), (36, (vI (a0.Bones.length : Int))), (37, (vI x9)), (43, (vB (decide (x9 > (0 : Int)))))], [(1, (.box [(cF a1.Root.X), (cF a1.Root.Y), (cF a1.Root.Z), (.c (sl 4 cs_Turn a1.Turns))])), (2, (.arr false x10.length 4 (gl cs_Turn x10))), (3, (.arr false x11.length 3 (gl cs_Vector x11))), (6, (.box [(cI ((a0.Bones.getD x9.toNat default).Parent)), (cF (((a0.Bones.getD x9.toNat default).Offset).X)), (cF (((a0.Bones.getD x9.toNat default).Offset).Y)), (cF (((a0.Bones.getD x9.toNat default).Offset).Z))]))]⟩ (T2 Tt) [] [3, 6, 7, 8, 9, 35, 36, 37, 43] [1, 2, 3, 6] ⟨tr, tr, tr⟩ ?_
    rcases ite2_cases h with ⟨b14, h⟩ | ⟨b14, h⟩
    · refine AW.cond_t rfl b14 ?_
      refine AW.seq ?_
      obtain ⟨c15, h⟩ := chk_some h
      obtain ⟨c16, h⟩ := chk_some h
      obtain ⟨v17, e18, h⟩ := bind_some h
      obtain ⟨c19, h⟩ := chk_some h
      refine AW.dA ⟨[(3, (vp 1 0)), (6, (.v (.one (.arr 2)))), (7, (.v (.one (.arr 3)))), (8, (vI x9)), (9, (vp 6 0)), (35, (vc (sl 4 cs_Bone a0.Bones))), (36, (vI (a0.Bones.length : Int))), (37, (vI x9))], [(1, (.box [(cF a1.Root.X), (cF a1.Root.Y), (cF a1.Root.Z), (.c (sl 4 cs_Turn a1.Turns))])), (2, (.arr false (x10.set x9.toNat v17).length 4 (gl cs_Turn (x10.set x9.toNat v17)))), (3, (.arr false x11.length 3 (gl cs_Vector x11))), (6, (.box [(cI ((a0.Bones.getD x9.toNat default).Parent)), (cF (((a0.Bones.getD x9.toNat default).Offset).X)), (cF (((a0.Bones.getD x9.toNat default).Offset).Y)), (cF (((a0.Bones.getD x9.toNat default).Offset).Z))]))]⟩ ((Tt ∧ T4 ((0 ≤ ((a0.Bones.getD x9.toNat default).Parent) ∧ ((a0.Bones.getD x9.toNat default).Parent) < (x10.length : Int)) ∧ T4 ((0 ≤ x9 ∧ x9 < (a1.Turns.length : Int)) ∧ Tt ∧ ((((((.flt .f32 ((x10.getD (((a0.Bones.getD x9.toNat default).Parent).toNat) default).W).bits) : C) = (.flt .f32 ((x10.getD (((a0.Bones.getD x9.toNat default).Parent).toNat) default).W).bits)) ∧ (((.flt .f32 ((x10.getD (((a0.Bones.getD x9.toNat default).Parent).toNat) default).X).bits) : C) = (.flt .f32 ((x10.getD (((a0.Bones.getD x9.toNat default).Parent).toNat) default).X).bits)) ∧ (((.flt .f32 ((x10.getD (((a0.Bones.getD x9.toNat default).Parent).toNat) default).Y).bits) : C) = (.flt .f32 ((x10.getD (((a0.Bones.getD x9.toNat default).Parent).toNat) default).Y).bits)) ∧ (((.flt .f32 ((x10.getD (((a0.Bones.getD x9.toNat default).Parent).toNat) default).Z).bits) : C) = (.flt .f32 ((x10.getD (((a0.Bones.getD x9.toNat default).Parent).toNat) default).Z).bits)) ∧ Tt) ∧ ((eF ((a1.Turns.getD x9.toNat default).W)) ∧ (eF ((a1.Turns.getD x9.toNat default).X)) ∧ (eF ((a1.Turns.getD x9.toNat default).Y)) ∧ (eF ((a1.Turns.getD x9.toNat default).Z)) ∧ Tt) ∧ Tt) ∧ CallOK Try.prog 37 [.agg (cs_Turn (x10.getD (((a0.Bones.getD x9.toNat default).Parent).toNat) default)), .agg (cs_Turn (a1.Turns.getD x9.toNat default))] [.agg (cs_Turn v17)]) ∧ (0 ≤ x9 ∧ x9 < (x10.length : Int)) ∧ Tt))) ∧ (((x10.set x9.toNat v17).length = x10.length ∧ SetOb x10.length 4 x9.toNat 0 4 (gl cs_Turn x10) (gl cs_Turn (x10.set x9.toNat v17)) ∧ ((List.range 4).map fun j => (cs_Turn v17).getD (0 + j) .nilptr) = ((List.range 4).map fun j => gl cs_Turn (x10.set x9.toNat v17) x9.toNat (0 + j)) ∧ ((((.flt .f32 v17.W.bits) : C) = (.flt .f32 v17.W.bits) ∧ Tt) ∧ (((.flt .f32 v17.X.bits) : C) = (.flt .f32 v17.X.bits) ∧ Tt) ∧ (((.flt .f32 v17.Y.bits) : C) = (.flt .f32 v17.Y.bits) ∧ Tt) ∧ (((.flt .f32 v17.Z.bits) : C) = (.flt .f32 v17.Z.bits) ∧ Tt) ∧ Tt) ∧ (false = true → ∀ j, j < 4 → isSeq (gl cs_Turn x10 x9.toNat (0 + j)) = false ∧ isSeq (gl cs_Turn (x10.set x9.toNat v17) x9.toNat (0 + j)) = false)) ∧ Tt)) 14 [.no, .no, .no, .no, .no, .no, .no, .no, .no, .no, .no, .no, .call [.agg (cs_Turn (x10.getD (((a0.Bones.getD x9.toNat default).Parent).toNat) default)), .agg (cs_Turn (a1.Turns.getD x9.toNat default))] [.agg (cs_Turn v17)] [[.view, .view, .view, .view]], .no, .set (x10.set x9.toNat v17).length (gl cs_Turn (x10.set x9.toNat v17)) ((List.range 4).map fun j => (cs_Turn v17).getD (0 + j) .nilptr)] [3, 6, 7, 8, 9, 35, 36, 37] [1, 2, 3, 6] ⟨⟨tr, tr, tr, tr, tr, c15, tr, tr, tr, tr, c16, tr, ⟨⟨⟨rfl, rfl, rfl, rfl, tr⟩, ⟨rfl, rfl, rfl, rfl, tr⟩, tr⟩, ok_impl_MulTurns K (x10.getD (((a0.Bones.getD x9.toNat default).Parent).toNat) default) (a1.Turns.getD x9.toNat default) v17 e18⟩, c19, tr⟩, ⟨⟨List.length_set, gl_set, (gl_atp (lt_of_bound c19)).symm, ⟨⟨rfl, tr⟩, ⟨rfl, tr⟩, ⟨rfl, tr⟩, ⟨rfl, tr⟩, tr⟩, (fun h => nomatch h)⟩, tr⟩⟩ ?_
      refine thenQ_normal ?_
      obtain ⟨c20, h⟩ := chk_some h
      obtain ⟨c21, h⟩ := chk_some h
      obtain ⟨v22, e23, h⟩ := bind_some h
      obtain ⟨v24, e25, h⟩ := bind_some h
      obtain ⟨c26, h⟩ := chk_some h
      refine AW.dA ⟨[(3, (vp 1 0)), (6, (.v (.one (.arr 2)))), (7, (.v (.one (.arr 3)))), (35, (vc (sl 4 cs_Bone a0.Bones))), (36, (vI (a0.Bones.length : Int))), (37, (vI x9))], [(1, (.box [(cF a1.Root.X), (cF a1.Root.Y), (cF a1.Root.Z), (.c (sl 4 cs_Turn a1.Turns))])), (2, (.arr false (x10.set x9.toNat v17).length 4 (gl cs_Turn (x10.set x9.toNat v17)))), (3, (.arr false (x11.set x9.toNat v24).length 3 (gl cs_Vector (x11.set x9.toNat v24))))]⟩ ((Tt ∧ T4 ((0 ≤ ((a0.Bones.getD x9.toNat default).Parent) ∧ ((a0.Bones.getD x9.toNat default).Parent) < (x11.length : Int)) ∧ T4 ((0 ≤ ((a0.Bones.getD x9.toNat default).Parent) ∧ ((a0.Bones.getD x9.toNat default).Parent) < ((x10.set x9.toNat v17).length : Int)) ∧ Tt ∧ T2 (((((((.flt .f32 (((x10.set x9.toNat v17).getD (((a0.Bones.getD x9.toNat default).Parent).toNat) default).W).bits) : C) = (.flt .f32 (((x10.set x9.toNat v17).getD (((a0.Bones.getD x9.toNat default).Parent).toNat) default).W).bits)) ∧ (((.flt .f32 (((x10.set x9.toNat v17).getD (((a0.Bones.getD x9.toNat default).Parent).toNat) default).X).bits) : C) = (.flt .f32 (((x10.set x9.toNat v17).getD (((a0.Bones.getD x9.toNat default).Parent).toNat) default).X).bits)) ∧ (((.flt .f32 (((x10.set x9.toNat v17).getD (((a0.Bones.getD x9.toNat default).Parent).toNat) default).Y).bits) : C) = (.flt .f32 (((x10.set x9.toNat v17).getD (((a0.Bones.getD x9.toNat default).Parent).toNat) default).Y).bits)) ∧ (((.flt .f32 (((x10.set x9.toNat v17).getD (((a0.Bones.getD x9.toNat default).Parent).toNat) default).Z).bits) : C) = (.flt .f32 (((x10.set x9.toNat v17).getD (((a0.Bones.getD x9.toNat default).Parent).toNat) default).Z).bits)) ∧ Tt) ∧ ((eF (((a0.Bones.getD x9.toNat default).Offset).X)) ∧ (eF (((a0.Bones.getD x9.toNat default).Offset).Y)) ∧ (eF (((a0.Bones.getD x9.toNat default).Offset).Z)) ∧ Tt) ∧ Tt) ∧ CallOK Try.prog 24 [.agg (cs_Turn ((x10.set x9.toNat v17).getD (((a0.Bones.getD x9.toNat default).Parent).toNat) default)), .agg (cs_Vector ((a0.Bones.getD x9.toNat default).Offset))] [.agg (cs_Vector v22)]) ∧ ((((((.flt .f32 ((x11.getD (((a0.Bones.getD x9.toNat default).Parent).toNat) default).X).bits) : C) = (.flt .f32 ((x11.getD (((a0.Bones.getD x9.toNat default).Parent).toNat) default).X).bits)) ∧ (((.flt .f32 ((x11.getD (((a0.Bones.getD x9.toNat default).Parent).toNat) default).Y).bits) : C) = (.flt .f32 ((x11.getD (((a0.Bones.getD x9.toNat default).Parent).toNat) default).Y).bits)) ∧ (((.flt .f32 ((x11.getD (((a0.Bones.getD x9.toNat default).Parent).toNat) default).Z).bits) : C) = (.flt .f32 ((x11.getD (((a0.Bones.getD x9.toNat default).Parent).toNat) default).Z).bits)) ∧ Tt) ∧ ((eF v22.X) ∧ (eF v22.Y) ∧ (eF v22.Z) ∧ Tt) ∧ Tt) ∧ CallOK Try.prog 23 [.agg (cs_Vector (x11.getD (((a0.Bones.getD x9.toNat default).Parent).toNat) default)), .agg (cs_Vector v22)] [.agg (cs_Vector v24)]) ∧ (0 ≤ x9 ∧ x9 < (x11.length : Int)) ∧ Tt)))) ∧ (((x11.set x9.toNat v24).length = x11.length ∧ SetOb x11.length 3 x9.toNat 0 3 (gl cs_Vector x11) (gl cs_Vector (x11.set x9.toNat v24)) ∧ ((List.range 3).map fun j => (cs_Vector v24).getD (0 + j) .nilptr) = ((List.range 3).map fun j => gl cs_Vector (x11.set x9.toNat v24) x9.toNat (0 + j)) ∧ ((((.flt .f32 v24.X.bits) : C) = (.flt .f32 v24.X.bits) ∧ Tt) ∧ (((.flt .f32 v24.Y.bits) : C) = (.flt .f32 v24.Y.bits) ∧ Tt) ∧ (((.flt .f32 v24.Z.bits) : C) = (.flt .f32 v24.Z.bits) ∧ Tt) ∧ Tt) ∧ (false = true → ∀ j, j < 3 → isSeq (gl cs_Vector x11 x9.toNat (0 + j)) = false ∧ isSeq (gl cs_Vector (x11.set x9.toNat v24) x9.toNat (0 + j)) = false)) ∧ Tt)) 17 [.no, .no, .no, .no, .no, .no, .no, .no, .no, .no, .no, .no, .no, .no, .call [.agg (cs_Turn ((x10.set x9.toNat v17).getD (((a0.Bones.getD x9.toNat default).Parent).toNat) default)), .agg (cs_Vector ((a0.Bones.getD x9.toNat default).Offset))] [.agg (cs_Vector v22)] [[.view, .view, .view]], .call [.agg (cs_Vector (x11.getD (((a0.Bones.getD x9.toNat default).Parent).toNat) default)), .agg (cs_Vector v22)] [.agg (cs_Vector v24)] [[.view, .view, .view]], .no, .set (x11.set x9.toNat v24).length (gl cs_Vector (x11.set x9.toNat v24)) ((List.range 3).map fun j => (cs_Vector v24).getD (0 + j) .nilptr)] [3, 6, 7, 35, 36, 37] [1, 2, 3] ⟨⟨tr, tr, tr, tr, tr, c20, tr, tr, tr, tr, c21, tr, tr, tr, ⟨⟨⟨rfl, rfl, rfl, rfl, tr⟩, ⟨rfl, rfl, rfl, tr⟩, tr⟩, ok_impl_RotateBy K ((x10.set x9.toNat v17).getD (((a0.Bones.getD x9.toNat default).Parent).toNat) default) ((a0.Bones.getD x9.toNat default).Offset) v22 e23⟩, ⟨⟨⟨rfl, rfl, rfl, tr⟩, ⟨rfl, rfl, rfl, tr⟩, tr⟩, ok_impl_AddVectors K (x11.getD (((a0.Bones.getD x9.toNat default).Parent).toNat) default) v22 v24 e25⟩, c26, tr⟩, ⟨⟨List.length_set, gl_set, (gl_atp (lt_of_bound c26)).symm, ⟨⟨rfl, tr⟩, ⟨rfl, tr⟩, ⟨rfl, tr⟩, tr⟩, (fun h => nomatch h)⟩, tr⟩⟩ ?_
      refine blockQ_normal ?_
      refine thenQ_normal ?_
      refine AW.rA ⟨[(3, (vp 1 0)), (6, (.v (.one (.arr 2)))), (7, (.v (.one (.arr 3)))), (35, (vc (sl 4 cs_Bone a0.Bones))), (36, (vI (a0.Bones.length : Int))), (37, (vI (IntKind.i64.wrap (x9 + (1 : Int)))))], [(1, (.box [(cF a1.Root.X), (cF a1.Root.Y), (cF a1.Root.Z), (.c (sl 4 cs_Turn a1.Turns))])), (2, (.arr false (x10.set x9.toNat v17).length 4 (gl cs_Turn (x10.set x9.toNat v17)))), (3, (.arr false (x11.set x9.toNat v24).length 3 (gl cs_Vector (x11.set x9.toNat v24))))]⟩ (T2 Tt) [] [3, 6, 7, 35, 36, 37] [1, 2, 3] ⟨tr, tr, tr⟩ ?_
      exact loopQ_normal (k, (IntKind.i64.wrap (x9 + (1 : Int))), (x10.set x9.toNat v17), (x11.set x9.toNat v24)) h (Nat.lt_succ_self k) (Sub.keep [3, 6, 7, 35, 36, 37] [1, 2, 3] (by kernel_rfl) (by kernel_rfl))
    · refine AW.cond_f rfl b14 ?_
      refine AW.skip ?_
      refine blockQ_normal ?_
      refine thenQ_normal ?_
      refine AW.rA ⟨[(3, (vp 1 0)), (6, (.v (.one (.arr 2)))), (7, (.v (.one (.arr 3)))), (35, (vc (sl 4 cs_Bone a0.Bones))), (36, (vI (a0.Bones.length : Int))), (37, (vI (IntKind.i64.wrap (x9 + (1 : Int)))))], [(1, (.box [(cF a1.Root.X), (cF a1.Root.Y), (cF a1.Root.Z), (.c (sl 4 cs_Turn a1.Turns))])), (2, (.arr false x10.length 4 (gl cs_Turn x10))), (3, (.arr false x11.length 3 (gl cs_Vector x11)))]⟩ (T2 Tt) [] [3, 6, 7, 35, 36, 37] [1, 2, 3] ⟨tr, tr, tr⟩ ?_
      exact loopQ_normal (k, (IntKind.i64.wrap (x9 + (1 : Int))), x10, x11) h (Nat.lt_succ_self k) (Sub.keep [3, 6, 7, 35, 36, 37] [1, 2, 3] (by kernel_rfl) (by kernel_rfl))
  · refine AW.cond_f rfl b12 ?_
    refine AW.exit ?_
    refine thenQ_exit ?_
    refine loopQ_exit ?_
    refine blockQ_exit ?_
    refine thenQ_normal ?_
    refine AW.sA ⟨[(4, (.v (.one (.arr 2)))), (5, (.v (.one (.arr 3))))], [(2, (.arr false x10.length 4 (gl cs_Turn x10))), (3, (.arr false x11.length 3 (gl cs_Vector x11)))]⟩ (T4 Tt) [] [4, 5] [2, 3] ⟨tr, tr, tr, tr, tr⟩ ?_
    refine AW.ret ?_
    replace h := some_eq h
    subst h
    exact ⟨.inr rfl, retOK_of [(.one (.arr 2)), (.one (.arr 3))] (by kernel_rfl) ⟨rfl, rfl, tr⟩ (of_decide_eq_true (by kernel_rfl))⟩

/-! impl.InverseOf -/
def impl_InverseOf (_K : Nat) (a0 : Turn) : Option (Turn) :=
  some (Turn.mk a0.W (a0.X.neg) (a0.Y.neg) (a0.Z.neg))

theorem ok_impl_InverseOf (K : Nat) (a0 : Turn) (o : (Turn)) (h : impl_InverseOf K a0 = some o) : CallOK Try.prog 38 [.agg (cs_Turn a0)] [.agg (cs_Turn o)] := by
  refine callOK_of_AW Try.func38 rfl (by kernel_rfl) (Nat.le_of_ble_eq_true (by kernel_rfl)) ?_
  intro w0
  unfold impl_InverseOf at h
  refine AW.sC (T2 Tt) [.box 1, .box 2] [1, 2] [1, 2] ⟨tr, tr, tr⟩ ?_
  refine AW.sA ⟨[(2, (vp 2 0))], [(2, (.box [(cF a0.W), (cF (a0.X.neg)), (cF (a0.Y.neg)), (cF (a0.Z.neg))]))]⟩ (Tt ∧ T4 (T4 (T4 Tt))) [] [2] [2] ⟨tr, tr, tr, tr, tr, tr, tr, tr, tr, tr, tr, tr, tr, tr⟩ ?_
  refine AW.ret ?_
  replace h := some_eq h
  subst h
  exact ⟨.inr rfl, retOK_of [(.agg [(cF a0.W), (cF (a0.X.neg)), (cF (a0.Y.neg)), (cF (a0.Z.neg))])] (by kernel_rfl) ⟨⟨⟨rfl, tr⟩, ⟨rfl, tr⟩, ⟨rfl, tr⟩, ⟨rfl, tr⟩, tr⟩, tr⟩ (of_decide_eq_true (by kernel_rfl))⟩

/-! impl.LessVectors -/
def impl_LessVectors (_K : Nat) (a0 : Vector) (a1 : Vector) : Option (Vector) :=
  some (Vector.mk (a0.X.sub a1.X) (a0.Y.sub a1.Y) (a0.Z.sub a1.Z))

theorem ok_impl_LessVectors (K : Nat) (a0 : Vector) (a1 : Vector) (o : (Vector)) (h : impl_LessVectors K a0 a1 = some o) : CallOK Try.prog 39 [.agg (cs_Vector a0), .agg (cs_Vector a1)] [.agg (cs_Vector o)] := by
  refine callOK_of_AW Try.func39 rfl (by kernel_rfl) (Nat.le_of_ble_eq_true (by kernel_rfl)) ?_
  intro w0
  unfold impl_LessVectors at h
  refine AW.sC (Tt ∧ T2 Tt) [.box 1, .box 2, .box 3] [2, 3, 4] [1, 2, 3] ⟨tr, tr, tr, tr⟩ ?_
  refine AW.sA ⟨[(4, (vp 3 0))], [(3, (.box [(cF (a0.X.sub a1.X)), (cF (a0.Y.sub a1.Y)), (cF (a0.Z.sub a1.Z))]))]⟩ (Tt ∧ T4 (T4 (T4 (T4 Tt)))) [] [4] [3] ⟨tr, tr, tr, tr, tr, tr, tr, tr, tr, tr, tr, tr, tr, tr, tr, tr, tr, tr⟩ ?_
  refine AW.ret ?_
  replace h := some_eq h
  subst h
  exact ⟨.inr rfl, retOK_of [(.agg [(cF (a0.X.sub a1.X)), (cF (a0.Y.sub a1.Y)), (cF (a0.Z.sub a1.Z))])] (by kernel_rfl) ⟨⟨⟨rfl, tr⟩, ⟨rfl, tr⟩, ⟨rfl, tr⟩, tr⟩, tr⟩ (of_decide_eq_true (by kernel_rfl))⟩

/-! (*impl.Skeleton).moves -/
def impl_Skeleton_moves_l1 (K : Nat) (v1 : ((List Turn) × (List Vector))) (v3 : ((List Turn) × (List Vector))) : Nat → Int → (List Turn) → (List Vector) → Option ((List Turn) × (List Vector))
  | 0, _, _, _ => none
  | k + 1, x8, x9, x10 => ite2 ((decide (x8 < (v3.1.length : Int)))) (chk (0 ≤ x8 ∧ x8 < (x9.length : Int)) (chk (0 ≤ x8 ∧ x8 < (v1.1.length : Int)) ((impl_InverseOf K (v1.1.getD x8.toNat default)).bind fun v14 => (impl_MulTurns K (x9.getD x8.toNat default) v14).bind fun v16 => chk (0 ≤ x8 ∧ x8 < (x10.length : Int)) (chk (0 ≤ x8 ∧ x8 < ((x9.set x8.toNat v16).length : Int)) (chk (0 ≤ x8 ∧ x8 < (v1.2.length : Int)) ((impl_RotateBy K ((x9.set x8.toNat v16).getD x8.toNat default) (v1.2.getD x8.toNat default)).bind fun v21 => (impl_LessVectors K (x10.getD x8.toNat default) v21).bind fun v23 => impl_Skeleton_moves_l1 K v1 v3 k (IntKind.i64.wrap (x8 + (1 : Int))) (x9.set x8.toNat v16) (x10.set x8.toNat v23))))))) (some (x9, x10))

def impl_Skeleton_moves (K : Nat) (a0 : Skeleton) (a1 : Pose) (a2 : Pose) : Option ((List Turn) × (List Vector)) :=
  (impl_Skeleton_world K a0 a1).bind fun v1 => (impl_Skeleton_world K a0 a2).bind fun v3 => impl_Skeleton_moves_l1 K v1 v3 K (0 : Int) v3.1 v3.2

theorem ok_impl_Skeleton_moves (K : Nat) (a0 : Skeleton) (a1 : Pose) (a2 : Pose) (o : ((List Turn) × (List Vector))) (h : impl_Skeleton_moves K a0 a1 a2 = some o) : CallOK Try.prog 22 [.one (pl 1 cs_Skeleton a0), .agg (cs_Pose a1), .agg (cs_Pose a2)] [.one (sl 4 cs_Turn o.1), .one (sl 3 cs_Vector o.2)] := by
  refine callOK_of_AW Try.func22 rfl (by kernel_rfl) (Nat.le_of_ble_eq_true (by kernel_rfl)) ?_
  intro w0
  unfold impl_Skeleton_moves at h
  refine AW.sC (T4 Tt) [.box 1, .box 2] [0, 4, 5] [1, 2] ⟨tr, tr, tr, tr, tr⟩ ?_
  refine AW.seq ?_
  obtain ⟨v1, e2, h⟩ := bind_some h
  refine AW.tC (T2 ((((1 = 1 ∧ ∀ j, j < 1 → (cs_Skeleton a0).getD j .nilptr = (cs_Skeleton a0).getD j .nilptr) ∧ ((eF a1.Root.X) ∧ (eF a1.Root.Y) ∧ (eF a1.Root.Z) ∧ (Eqc (sl 4 cs_Turn a1.Turns)) ∧ Tt) ∧ Tt) ∧ CallOK Try.prog 28 [.one (pl 1 cs_Skeleton a0), .agg (cs_Pose a1)] [.one (sl 4 cs_Turn v1.1), .one (sl 3 cs_Vector v1.2)]) ∧ Tt ∧ T4 Tt)) [.no, .no, .call [.one (pl 1 cs_Skeleton a0), .agg (cs_Pose a1)] [.one (sl 4 cs_Turn v1.1), .one (sl 3 cs_Vector v1.2)] [[.lst 3], [.lst 4]]] [0, 5, 8, 9] [2, 3, 4] ⟨tr, tr, ⟨⟨⟨rfl, fun j hj => rfl⟩, ⟨rfl, rfl, rfl, rfl, tr⟩, tr⟩, ok_impl_Skeleton_world K a0 a1 v1 e2⟩, tr, tr, tr, tr, tr, tr⟩ ?_
  refine AW.seq ?_
  obtain ⟨v3, e4, h⟩ := bind_some h
  refine AW.tC (T2 ((((1 = 1 ∧ ∀ j, j < 1 → (cs_Skeleton a0).getD j .nilptr = (cs_Skeleton a0).getD j .nilptr) ∧ ((eF a2.Root.X) ∧ (eF a2.Root.Y) ∧ (eF a2.Root.Z) ∧ (Eqc (sl 4 cs_Turn a2.Turns)) ∧ Tt) ∧ Tt) ∧ CallOK Try.prog 28 [.one (pl 1 cs_Skeleton a0), .agg (cs_Pose a2)] [.one (sl 4 cs_Turn v3.1), .one (sl 3 cs_Vector v3.2)]) ∧ Tt ∧ T4 Tt)) [.no, .no, .call [.one (pl 1 cs_Skeleton a0), .agg (cs_Pose a2)] [.one (sl 4 cs_Turn v3.1), .one (sl 3 cs_Vector v3.2)] [[.own 5], [.own 6]]] [8, 9, 10, 11] [3, 4, 5, 6] ⟨tr, tr, ⟨⟨⟨rfl, fun j hj => rfl⟩, ⟨rfl, rfl, rfl, rfl, tr⟩, tr⟩, ok_impl_Skeleton_world K a0 a2 v3 e4⟩, tr, tr, tr, tr, tr, tr⟩ ?_
  refine AW.seq ?_
  refine AW.sA ⟨[(8, (vL 3 4 cs_Turn v1.1)), (9, (vL 4 3 cs_Vector v1.2)), (10, (.v (.one (.arr 5)))), (11, (.v (.one (.arr 6)))), (26, (vI (v3.1.length : Int))), (27, (vI (0 : Int)))], [(3, (oL 4 cs_Turn v1.1)), (4, (oL 3 cs_Vector v1.2)), (5, (oA 4 cs_Turn v3.1)), (6, (oA 3 cs_Vector v3.2))]⟩ (Tt ∧ T2 Tt) [] [8, 9, 10, 11, 26, 27] [3, 4, 5, 6] ⟨tr, tr, tr, tr⟩ ?_
  refine AW.block ?_
  refine AW.loopQ (σ := Nat × Int × (List Turn) × (List Vector)) (fun p => ⟨[(8, (vL 3 4 cs_Turn v1.1)), (9, (vL 4 3 cs_Vector v1.2)), (10, (.v (.one (.arr 5)))), (11, (.v (.one (.arr 6)))), (26, (vI (v3.1.length : Int))), (27, (vI p.2.1))], [(3, (oL 4 cs_Turn v1.1)), (4, (oL 3 cs_Vector v1.2)), (5, (oA 4 cs_Turn p.2.2.1)), (6, (oA 3 cs_Vector p.2.2.2))]⟩) (fun p => impl_Skeleton_moves_l1 K v1 v3 p.1 p.2.1 p.2.2.1 p.2.2.2 = some o) (fun p => p.1) (K, (0 : Int), v3.1, v3.2) h ?_
  clear h
  rintro ⟨k, x8, x9, x10⟩ h
  replace h : impl_Skeleton_moves_l1 K v1 v3 k x8 x9 x10 = some o := h
  show AW _ _ (⟨[(8, (vL 3 4 cs_Turn v1.1)), (9, (vL 4 3 cs_Vector v1.2)), (10, (.v (.one (.arr 5)))), (11, (.v (.one (.arr 6)))), (26, (vI (v3.1.length : Int))), (27, (vI x8))], [(3, (oL 4 cs_Turn v1.1)), (4, (oL 3 cs_Vector v1.2)), (5, (oA 4 cs_Turn x9)), (6, (oA 3 cs_Vector x10))]⟩ : St) _
  obtain _ | k := k
  · rw [impl_Skeleton_moves_l1] at h; cases h
  rw [impl_Skeleton_moves_l1] at h
  refine AW.sA ⟨[(8, (vL 3 4 cs_Turn v1.1)), (9, (vL 4 3 cs_Vector v1.2)), (10, (.v (.one (.arr 5)))), (11, (.v (.one (.arr 6)))), (26, (vI (v3.1.length : Int))), (27, (vI x8)), (28, (vB (decide (x8 < (v3.1.length : Int)))))], [(3, (oL 4 cs_Turn v1.1)), (4, (oL 3 cs_Vector v1.2)), (5, (oA 4 cs_Turn x9)), (6, (oA 3 cs_Vector x10))]⟩ (Tt ∧ Tt) [] [8, 9, 10, 11, 26, 27, 28] [3, 4, 5, 6] ⟨tr, tr⟩ ?_
  refine AW.seq ?_
  rcases ite2_cases h with ⟨b11, h⟩ | ⟨b11, h⟩
  · refine AW.cond_t rfl b11 ?_
    refine AW.skip ?_
    refine thenQ_normal ?_
    refine AW.seq ?_
    refine AW.block ?_
    refine AW.sA ⟨[(8, (vL 3 4 cs_Turn v1.1)), (9, (vL 4 3 cs_Vector v1.2)), (10, (.v (.one (.arr 5)))), (11, (.v (.one (.arr 6)))), (12, (vI x8)), (26, (vI (v3.1.length : Int))), (27, (vI x8))], [(3, (oL 4 cs_Turn v1.1)), (4, (oL 3 cs_Vector v1.2)), (5, (oA 4 cs_Turn x9)), (6, (oA 3 cs_Vector x10))]⟩ (T2 Tt) [] [8, 9, 10, 11, 12, 26, 27] [3, 4, 5, 6] ⟨tr, tr, tr⟩ ?_
    refine AW.seq ?_
    obtain ⟨c12, h⟩ := chk_some h
    obtain ⟨c13, h⟩ := chk_some h
    obtain ⟨v14, e15, h⟩ := bind_some h
    obtain ⟨v16, e17, h⟩ := bind_some h
    refine AW.dA ⟨[(8, (vL 3 4 cs_Turn v1.1)), (9, (vL 4 3 cs_Vector v1.2)), (10, (.v (.one (.arr 5)))), (11, (.v (.one (.arr 6)))), (12, (vI x8)), (26, (vI (v3.1.length : Int))), (27, (vI x8))], [(3, (oL 4 cs_Turn v1.1)), (4, (oL 3 cs_Vector v1.2)), (5, (oA 4 cs_Turn (x9.set x8.toNat v16))), (6, (oA 3 cs_Vector x10))]⟩ ((T4 ((0 ≤ x8 ∧ x8 < (x9.length : Int)) ∧ Tt ∧ T2 ((0 ≤ x8 ∧ x8 < (v1.1.length : Int)) ∧ Tt ∧ ((((eF ((v1.1.getD x8.toNat default).W)) ∧ (eF ((v1.1.getD x8.toNat default).X)) ∧ (eF ((v1.1.getD x8.toNat default).Y)) ∧ (eF ((v1.1.getD x8.toNat default).Z)) ∧ Tt) ∧ Tt) ∧ CallOK Try.prog 38 [.agg (cs_Turn (v1.1.getD x8.toNat default))] [.agg (cs_Turn v14)]) ∧ ((((eF ((x9.getD x8.toNat default).W)) ∧ (eF ((x9.getD x8.toNat default).X)) ∧ (eF ((x9.getD x8.toNat default).Y)) ∧ (eF ((x9.getD x8.toNat default).Z)) ∧ Tt) ∧ ((eF v14.W) ∧ (eF v14.X) ∧ (eF v14.Y) ∧ (eF v14.Z) ∧ Tt) ∧ Tt) ∧ CallOK Try.prog 37 [.agg (cs_Turn (x9.getD x8.toNat default)), .agg (cs_Turn v14)] [.agg (cs_Turn v16)]) ∧ (0 ≤ x8 ∧ x8 < (x9.length : Int)) ∧ Tt))) ∧ (((x9.set x8.toNat v16).length = x9.length ∧ SetOb x9.length 4 x8.toNat 0 4 (gl cs_Turn x9) (gl cs_Turn (x9.set x8.toNat v16)) ∧ ((List.range 4).map fun j => (cs_Turn v16).getD (0 + j) .nilptr) = ((List.range 4).map fun j => gl cs_Turn (x9.set x8.toNat v16) x8.toNat (0 + j)) ∧ ((((.flt .f32 v16.W.bits) : C) = (.flt .f32 v16.W.bits) ∧ Tt) ∧ (((.flt .f32 v16.X.bits) : C) = (.flt .f32 v16.X.bits) ∧ Tt) ∧ (((.flt .f32 v16.Y.bits) : C) = (.flt .f32 v16.Y.bits) ∧ Tt) ∧ (((.flt .f32 v16.Z.bits) : C) = (.flt .f32 v16.Z.bits) ∧ Tt) ∧ Tt) ∧ (true = true → ∀ j, j < 4 → isSeq (gl cs_Turn x9 x8.toNat (0 + j)) = false ∧ isSeq (gl cs_Turn (x9.set x8.toNat v16) x8.toNat (0 + j)) = false)) ∧ Tt)) 13 [.no, .no, .no, .no, .no, .no, .no, .no, .no, .no, .call [.agg (cs_Turn (v1.1.getD x8.toNat default))] [.agg (cs_Turn v14)] [[.view, .view, .view, .view]], .call [.agg (cs_Turn (x9.getD x8.toNat default)), .agg (cs_Turn v14)] [.agg (cs_Turn v16)] [[.view, .view, .view, .view]], .no, .set (x9.set x8.toNat v16).length (gl cs_Turn (x9.set x8.toNat v16)) ((List.range 4).map fun j => (cs_Turn v16).getD (0 + j) .nilptr)] [8, 9, 10, 11, 12, 26, 27] [3, 4, 5, 6] ⟨⟨tr, tr, tr, tr, c12, tr, tr, tr, c13, tr, ⟨⟨⟨rfl, rfl, rfl, rfl, tr⟩, tr⟩, ok_impl_InverseOf K (v1.1.getD x8.toNat default) v14 e15⟩, ⟨⟨⟨rfl, rfl, rfl, rfl, tr⟩, ⟨rfl, rfl, rfl, rfl, tr⟩, tr⟩, ok_impl_MulTurns K (x9.getD x8.toNat default) v14 v16 e17⟩, c12, tr⟩, ⟨⟨List.length_set, gl_set, (gl_atp (lt_of_bound c12)).symm, ⟨⟨rfl, tr⟩, ⟨rfl, tr⟩, ⟨rfl, tr⟩, ⟨rfl, tr⟩, tr⟩, (fun _ j hj => match j, hj with | 0, _ => ⟨rfl, rfl⟩ | 1, _ => ⟨rfl, rfl⟩ | 2, _ => ⟨rfl, rfl⟩ | 3, _ => ⟨rfl, rfl⟩)⟩, tr⟩⟩ ?_
    refine thenQ_normal ?_
    obtain ⟨c18, h⟩ := chk_some h
    obtain ⟨c19, h⟩ := chk_some h
    obtain ⟨c20, h⟩ := chk_some h
    obtain ⟨v21, e22, h⟩ := bind_some h
    obtain ⟨v23, e24, h⟩ := bind_some h
    refine AW.dA ⟨[(8, (vL 3 4 cs_Turn v1.1)), (9, (vL 4 3 cs_Vector v1.2)), (10, (.v (.one (.arr 5)))), (11, (.v (.one (.arr 6)))), (26, (vI (v3.1.length : Int))), (27, (vI x8))], [(3, (oL 4 cs_Turn v1.1)), (4, (oL 3 cs_Vector v1.2)), (5, (oA 4 cs_Turn (x9.set x8.toNat v16))), (6, (oA 3 cs_Vector (x10.set x8.toNat v23)))]⟩ ((T4 ((0 ≤ x8 ∧ x8 < (x10.length : Int)) ∧ Tt ∧ T2 ((0 ≤ x8 ∧ x8 < ((x9.set x8.toNat v16).length : Int)) ∧ Tt ∧ T2 ((0 ≤ x8 ∧ x8 < (v1.2.length : Int)) ∧ Tt ∧ ((((eF (((x9.set x8.toNat v16).getD x8.toNat default).W)) ∧ (eF (((x9.set x8.toNat v16).getD x8.toNat default).X)) ∧ (eF (((x9.set x8.toNat v16).getD x8.toNat default).Y)) ∧ (eF (((x9.set x8.toNat v16).getD x8.toNat default).Z)) ∧ Tt) ∧ ((eF ((v1.2.getD x8.toNat default).X)) ∧ (eF ((v1.2.getD x8.toNat default).Y)) ∧ (eF ((v1.2.getD x8.toNat default).Z)) ∧ Tt) ∧ Tt) ∧ CallOK Try.prog 24 [.agg (cs_Turn ((x9.set x8.toNat v16).getD x8.toNat default)), .agg (cs_Vector (v1.2.getD x8.toNat default))] [.agg (cs_Vector v21)]) ∧ ((((eF ((x10.getD x8.toNat default).X)) ∧ (eF ((x10.getD x8.toNat default).Y)) ∧ (eF ((x10.getD x8.toNat default).Z)) ∧ Tt) ∧ ((eF v21.X) ∧ (eF v21.Y) ∧ (eF v21.Z) ∧ Tt) ∧ Tt) ∧ CallOK Try.prog 39 [.agg (cs_Vector (x10.getD x8.toNat default)), .agg (cs_Vector v21)] [.agg (cs_Vector v23)]) ∧ (0 ≤ x8 ∧ x8 < (x10.length : Int)) ∧ Tt)))) ∧ (((x10.set x8.toNat v23).length = x10.length ∧ SetOb x10.length 3 x8.toNat 0 3 (gl cs_Vector x10) (gl cs_Vector (x10.set x8.toNat v23)) ∧ ((List.range 3).map fun j => (cs_Vector v23).getD (0 + j) .nilptr) = ((List.range 3).map fun j => gl cs_Vector (x10.set x8.toNat v23) x8.toNat (0 + j)) ∧ ((((.flt .f32 v23.X.bits) : C) = (.flt .f32 v23.X.bits) ∧ Tt) ∧ (((.flt .f32 v23.Y.bits) : C) = (.flt .f32 v23.Y.bits) ∧ Tt) ∧ (((.flt .f32 v23.Z.bits) : C) = (.flt .f32 v23.Z.bits) ∧ Tt) ∧ Tt) ∧ (true = true → ∀ j, j < 3 → isSeq (gl cs_Vector x10 x8.toNat (0 + j)) = false ∧ isSeq (gl cs_Vector (x10.set x8.toNat v23) x8.toNat (0 + j)) = false)) ∧ Tt)) 17 [.no, .no, .no, .no, .no, .no, .no, .no, .no, .no, .no, .no, .no, .no, .call [.agg (cs_Turn ((x9.set x8.toNat v16).getD x8.toNat default)), .agg (cs_Vector (v1.2.getD x8.toNat default))] [.agg (cs_Vector v21)] [[.view, .view, .view]], .call [.agg (cs_Vector (x10.getD x8.toNat default)), .agg (cs_Vector v21)] [.agg (cs_Vector v23)] [[.view, .view, .view]], .no, .set (x10.set x8.toNat v23).length (gl cs_Vector (x10.set x8.toNat v23)) ((List.range 3).map fun j => (cs_Vector v23).getD (0 + j) .nilptr)] [8, 9, 10, 11, 26, 27] [3, 4, 5, 6] ⟨⟨tr, tr, tr, tr, c18, tr, tr, tr, c19, tr, tr, tr, c20, tr, ⟨⟨⟨rfl, rfl, rfl, rfl, tr⟩, ⟨rfl, rfl, rfl, tr⟩, tr⟩, ok_impl_RotateBy K ((x9.set x8.toNat v16).getD x8.toNat default) (v1.2.getD x8.toNat default) v21 e22⟩, ⟨⟨⟨rfl, rfl, rfl, tr⟩, ⟨rfl, rfl, rfl, tr⟩, tr⟩, ok_impl_LessVectors K (x10.getD x8.toNat default) v21 v23 e24⟩, c18, tr⟩, ⟨⟨List.length_set, gl_set, (gl_atp (lt_of_bound c18)).symm, ⟨⟨rfl, tr⟩, ⟨rfl, tr⟩, ⟨rfl, tr⟩, tr⟩, (fun _ j hj => match j, hj with | 0, _ => ⟨rfl, rfl⟩ | 1, _ => ⟨rfl, rfl⟩ | 2, _ => ⟨rfl, rfl⟩)⟩, tr⟩⟩ ?_
    refine blockQ_normal ?_
    refine thenQ_normal ?_
    refine AW.rA ⟨[(8, (vL 3 4 cs_Turn v1.1)), (9, (vL 4 3 cs_Vector v1.2)), (10, (.v (.one (.arr 5)))), (11, (.v (.one (.arr 6)))), (26, (vI (v3.1.length : Int))), (27, (vI (IntKind.i64.wrap (x8 + (1 : Int)))))], [(3, (oL 4 cs_Turn v1.1)), (4, (oL 3 cs_Vector v1.2)), (5, (oA 4 cs_Turn (x9.set x8.toNat v16))), (6, (oA 3 cs_Vector (x10.set x8.toNat v23)))]⟩ (T2 Tt) [] [8, 9, 10, 11, 26, 27] [3, 4, 5, 6] ⟨tr, tr, tr⟩ ?_
    exact loopQ_normal (k, (IntKind.i64.wrap (x8 + (1 : Int))), (x9.set x8.toNat v16), (x10.set x8.toNat v23)) h (Nat.lt_succ_self k) (Sub.keep [8, 9, 10, 11, 26, 27] [3, 4, 5, 6] (by kernel_rfl) (by kernel_rfl))
  · refine AW.cond_f rfl b11 ?_
    refine AW.exit ?_
    refine thenQ_exit ?_
    refine loopQ_exit ?_
    refine blockQ_exit ?_
    refine thenQ_normal ?_
    refine AW.sA ⟨[(6, (.v (.one (.arr 5)))), (7, (.v (.one (.arr 6))))], [(5, (oA 4 cs_Turn x9)), (6, (oA 3 cs_Vector x10))]⟩ (T4 Tt) [] [6, 7] [5, 6] ⟨tr, tr, tr, tr, tr⟩ ?_
    refine AW.ret ?_
    replace h := some_eq h
    subst h
    exact ⟨.inr rfl, retOK_of [(.one (.arr 5)), (.one (.arr 6))] (by kernel_rfl) ⟨rfl, rfl, tr⟩ (of_decide_eq_true (by kernel_rfl))⟩

end
end Go.Fw
