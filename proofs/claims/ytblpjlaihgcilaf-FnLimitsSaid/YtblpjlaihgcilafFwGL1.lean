/- Functions of the program: what each computes, and that it computes just that. -/
import Derived.Test.YtblpjlaihgcilafFwTy
import Derived.Test.YtblpjlaihgcilafFwH
import Derived.Test.YtblpjlaihgcilafFwV
import Derived.Test.YtblpjlaihgcilafFwMK
import Derived.Test.YtblpjlaihgcilafFwAB
import Derived.Test.YtblpjlaihgcilafProg
import Derived.KernelRfl
namespace Go.Fw
open Go Go.Proofs
noncomputable section
set_option maxRecDepth 10000

/-! laws.r8Long -/
def laws_r8Long (_K : Nat) (a0 : (List Int)) (a1 : (List Int)) : Option (Bool) :=
  (ite2 ((decide ((a0.length : Int) > (48 : Int)))) (some true) (some (decide ((a1.length : Int) > (48 : Int))))).bind fun j2 => some j2

theorem ok_laws_r8Long (K : Nat) (a0 : (List Int)) (a1 : (List Int)) (o : (Bool)) (h : laws_r8Long K a0 a1 = some o) : CallOK Try.prog 4 [.one (sl 1 (csI .u8) a0), .one (sl 1 (csI .u8) a1)] [.one (.bool o)] := by
  refine callOK_of_AW Try.func4 rfl (by kernel_rfl) (Nat.le_of_ble_eq_true (by kernel_rfl)) ?_
  intro w0
  unfold laws_r8Long at h
  refine AW.sA ⟨[(0, (vc (sl 1 (csI .u8) a0))), (1, (vc (sl 1 (csI .u8) a1)))], []⟩ (Tt ∧ Tt) [] [0, 1] [] ⟨tr, tr⟩ ?_
  refine AW.seq ?_
  obtain ⟨j2, e3, h⟩ := bind_some h
  refine AW.join1 (s2 := ⟨[(4, (vB j2))], []⟩) ?_ ?_
  · rcases ite2_cases e3 with ⟨b1, e3⟩ | ⟨b1, e3⟩
    · replace e3 := some_eq e3
      subst e3
      exact AW.rA ⟨[(4, (vB true))], []⟩ (Tt ∧ T2 ((Tt ∧ (decide ((a0.length : Int) > (48 : Int))) = true) ∧ Tt ∧ T4 Tt)) [.no, .no, .no, .dec true] [4] [] ⟨tr, tr, tr, ⟨tr, b1⟩, tr, tr, tr, tr, tr, tr⟩ ⟨rfl, rfl⟩
    · replace e3 := some_eq e3
      subst e3
      exact AW.rA ⟨[(4, (vB (decide ((a1.length : Int) > (48 : Int)))))], []⟩ (Tt ∧ T2 ((Tt ∧ (decide ((a0.length : Int) > (48 : Int))) = false) ∧ Tt ∧ T4 Tt)) [.no, .no, .no, .dec false] [4] [] ⟨tr, tr, tr, ⟨tr, b1⟩, tr, tr, tr, tr, tr, tr⟩ ⟨rfl, rfl⟩
  refine thenQ_normal ?_
  refine AW.ret ?_
  replace h := some_eq h
  subst h
  exact ⟨.inr rfl, retOK_of [(.one (.c (.bool j2)))] (by kernel_rfl) ⟨⟨rfl, tr⟩, tr⟩ (of_decide_eq_true (by kernel_rfl))⟩

/-! spec.l00From -/
theorem mk_spec_l00From : MkOK Try.prog 17 68 [(.i64, 0), (.u64, 0)] := by
  refine mkOK_of Try.func17 rfl (by kernel_rfl) fun w ad n cap => ?_
  refine wp_seq (wp_region_lit (wpList_val (x := (.pointer none)) (w' := w) rfl (by kernel_rfl) (wpList_nil ?_)))
  refine wp_seq (wp_region_lit (wpList_val (x := (.slice ad n cap)) (w' := w) rfl (by kernel_rfl) (wpList_val (x := (.agg #[(.slice ad n cap), .int .i64 0, .int .u64 0])) (w' := w) rfl (by kernel_rfl) (wpList_val (x := (.pointer (some ⟨w.heap.size, 0, none⟩))) (w' := (w.alloc (.cells #[(.slice ad n cap), .int .i64 0, .int .u64 0] 68))) rfl (by kernel_rfl) (wpList_val (x := (.pointer (some ⟨w.heap.size, 0, none⟩))) (w' := (w.alloc (.cells #[(.slice ad n cap), .int .i64 0, .int .u64 0] 68))) rfl (by kernel_rfl) (wpList_nil ?_))))))
  exact wp_ret ⟨rfl, (.pointer (some ⟨w.heap.size, 0, none⟩)), (by kernel_rfl), _, rfl, rfl, rfl⟩



/-! (*spec.l00Src).next -/
def spec_l00Src_next (_K : Nat) (a0 : l00Src) : Option (Int × Int × Int) :=
  ite2 ((decide (a0.at_ < (a0.code.length : Int)))) (chk (0 ≤ a0.at_ ∧ a0.at_ < (a0.code.length : Int)) (ite2 ((decide ((IntKind.i64.wrap (a0.at_ + (1 : Int))) ≤ (a0.code.length : Int)))) (some ((IntKind.i64.wrap (a0.code.getD a0.at_.toNat default)), (IntKind.i64.wrap (a0.at_ + (1 : Int))), (IntKind.u64.wrap ((IntKind.u64.wrap ((IntKind.u64.wrap (a0.seed * (6364136223846793005 : Int))) + (IntKind.u64.wrap (IntKind.i64.wrap (a0.code.getD a0.at_.toNat default))))) + (1442695040888963407 : Int))))) (chk (0 ≤ (40 : Int)) (some ((IntKind.i64.wrap (bits .and .u64 ((IntKind.u64.wrap ((IntKind.u64.wrap ((IntKind.u64.wrap (a0.seed * (6364136223846793005 : Int))) + (IntKind.u64.wrap (IntKind.i64.wrap (a0.code.getD a0.at_.toNat default))))) + (1442695040888963407 : Int))).fdiv (2 ^ (min (40 : Int).toNat (IntKind.bits .u64)))) (255 : Int))), (IntKind.i64.wrap (a0.at_ + (1 : Int))), (IntKind.u64.wrap ((IntKind.u64.wrap ((IntKind.u64.wrap (a0.seed * (6364136223846793005 : Int))) + (IntKind.u64.wrap (IntKind.i64.wrap (a0.code.getD a0.at_.toNat default))))) + (1442695040888963407 : Int)))))))) (ite2 ((decide ((IntKind.i64.wrap (a0.at_ + (1 : Int))) ≤ (a0.code.length : Int)))) (some ((0 : Int), (IntKind.i64.wrap (a0.at_ + (1 : Int))), (IntKind.u64.wrap ((IntKind.u64.wrap ((IntKind.u64.wrap (a0.seed * (6364136223846793005 : Int))) + (IntKind.u64.wrap (0 : Int)))) + (1442695040888963407 : Int))))) (chk (0 ≤ (40 : Int)) (some ((IntKind.i64.wrap (bits .and .u64 ((IntKind.u64.wrap ((IntKind.u64.wrap ((IntKind.u64.wrap (a0.seed * (6364136223846793005 : Int))) + (IntKind.u64.wrap (0 : Int)))) + (1442695040888963407 : Int))).fdiv (2 ^ (min (40 : Int).toNat (IntKind.bits .u64)))) (255 : Int))), (IntKind.i64.wrap (a0.at_ + (1 : Int))), (IntKind.u64.wrap ((IntKind.u64.wrap ((IntKind.u64.wrap (a0.seed * (6364136223846793005 : Int))) + (IntKind.u64.wrap (0 : Int)))) + (1442695040888963407 : Int)))))))

theorem ok_spec_l00Src_next (K : Nat) (a0 : l00Src) (o : (Int × Int × Int)) (h : spec_l00Src_next K a0 = some o) : MutOK Try.prog 49 [(.box 3 (fun j => [true, false, false].getD j true) (fun j => (cs_l00Src a0).getD j .nilptr) (fun j => [.nilptr, (.int .i64 o.2.1), (.int .u64 o.2.2)].getD j .nilptr))] [.one (.int .i64 o.1)] := by
  refine mutOK_of_AW 1 Try.func49 rfl (by kernel_rfl) (Nat.le_of_ble_eq_true (by kernel_rfl)) (by kernel_rfl) (by kernel_rfl) ?_
  intro w0 K0 v0 s0
  unfold spec_l00Src_next at h
  refine AW.weak (s' := ⟨[(0, (vp 0 0))], [(0, (.box [(.fx 0 0 (sl 1 (csI .u8) a0.code)), (cI a0.at_), (.c (.int .u64 a0.seed))]))]⟩) (subUnfx 0 [1, 2] (by kernel_rfl)) ?_
  refine AW.sC (Tt ∧ Tt) [] [0] [0] ⟨tr, tr⟩ ?_
  refine AW.sA ⟨[(0, (vp 0 0)), (3, (vI (0 : Int)))], [(0, (.box [(.fx 0 0 (sl 1 (csI .u8) a0.code)), (cI a0.at_), (.c (.int .u64 a0.seed))]))]⟩ (Tt ∧ Tt) [] [0, 3] [0] ⟨tr, tr⟩ ?_
  refine AW.seq ?_
  refine AW.seq (AW.dA ⟨[(0, (vp 0 0)), (3, (vI (0 : Int))), (13, (vB (decide (a0.at_ < (a0.code.length : Int)))))], [(0, (.box [(.fx 0 0 (sl 1 (csI .u8) a0.code)), (cI a0.at_), (.c (.int .u64 a0.seed))]))]⟩ ((T2 (T4 (T4 Tt))) ∧ (Tt)) 10 [] [0, 3, 13] [0] ⟨⟨tr, tr, tr, tr, tr, tr, tr, tr, tr, tr, tr⟩, tr⟩ (thenQ_normal ?_))
  rcases ite2_cases h with ⟨b1, h⟩ | ⟨b1, h⟩
  · refine AW.cond_t rfl b1 ?_
    obtain ⟨c2, h⟩ := chk_some h
    refine AW.dA ⟨[(0, (vp 0 0)), (3, (vI (IntKind.i64.wrap (a0.code.getD a0.at_.toNat default))))], [(0, (.box [(.fx 0 0 (sl 1 (csI .u8) a0.code)), (cI a0.at_), (.c (.int .u64 a0.seed))]))]⟩ ((T4 (T4 ((0 ≤ a0.at_ ∧ a0.at_ < (a0.code.length : Int)) ∧ Tt ∧ T2 Tt))) ∧ (Tt)) 12 [] [0, 3] [0] ⟨⟨tr, tr, tr, tr, tr, tr, tr, tr, c2, tr, tr, tr, tr⟩, tr⟩ ?_
    refine thenQ_normal ?_
    refine AW.sC (T4 (T4 Tt)) [] [0, 3] [0] ⟨tr, tr, tr, tr, tr, tr, tr, tr, tr⟩ ?_
    refine AW.sA ⟨[(0, (vp 0 0)), (3, (vI (IntKind.i64.wrap (a0.code.getD a0.at_.toNat default))))], [(0, (.box [(.fx 0 0 (sl 1 (csI .u8) a0.code)), (cI (IntKind.i64.wrap (a0.at_ + (1 : Int)))), (.c (.int .u64 (IntKind.u64.wrap ((IntKind.u64.wrap ((IntKind.u64.wrap (a0.seed * (6364136223846793005 : Int))) + (IntKind.u64.wrap (IntKind.i64.wrap (a0.code.getD a0.at_.toNat default))))) + (1442695040888963407 : Int)))))]))]⟩ (Tt ∧ T4 (T4 (T4 Tt))) [] [0, 3] [0] ⟨tr, tr, tr, tr, tr, tr, tr, tr, tr, tr, tr, tr, tr, tr⟩ ?_
    refine AW.seq ?_
    refine AW.seq (AW.dA ⟨[(0, (vp 0 0)), (3, (vI (IntKind.i64.wrap (a0.code.getD a0.at_.toNat default)))), (53, (vB (decide ((IntKind.i64.wrap (a0.at_ + (1 : Int))) ≤ (a0.code.length : Int)))))], [(0, (.box [(.fx 0 0 (sl 1 (csI .u8) a0.code)), (cI (IntKind.i64.wrap (a0.at_ + (1 : Int)))), (.c (.int .u64 (IntKind.u64.wrap ((IntKind.u64.wrap ((IntKind.u64.wrap (a0.seed * (6364136223846793005 : Int))) + (IntKind.u64.wrap (IntKind.i64.wrap (a0.code.getD a0.at_.toNat default))))) + (1442695040888963407 : Int)))))]))]⟩ ((T2 (T4 (T4 Tt))) ∧ (Tt)) 10 [] [0, 3, 53] [0] ⟨⟨tr, tr, tr, tr, tr, tr, tr, tr, tr, tr, tr⟩, tr⟩ (thenQ_normal ?_))
    rcases ite2_cases h with ⟨b3, h⟩ | ⟨b3, h⟩
    · refine AW.cond_t rfl b3 ?_
      refine AW.sA ⟨[(0, (vp 0 0)), (2, (vI (IntKind.i64.wrap (a0.code.getD a0.at_.toNat default))))], [(0, (.box [(.fx 0 0 (sl 1 (csI .u8) a0.code)), (cI (IntKind.i64.wrap (a0.at_ + (1 : Int)))), (.c (.int .u64 (IntKind.u64.wrap ((IntKind.u64.wrap ((IntKind.u64.wrap (a0.seed * (6364136223846793005 : Int))) + (IntKind.u64.wrap (IntKind.i64.wrap (a0.code.getD a0.at_.toNat default))))) + (1442695040888963407 : Int)))))]))]⟩ (T2 Tt) [] [0, 2] [0] ⟨tr, tr, tr⟩ ?_
      refine AW.ret ?_
      refine thenQ_ret ?_
      replace h := some_eq h
      subst h
      exact ⟨.inr rfl, retOK_of [(.one (cI (IntKind.i64.wrap (a0.code.getD a0.at_.toNat default))))] (by kernel_rfl) ⟨⟨rfl, tr⟩, tr⟩ (of_decide_eq_true (by kernel_rfl)), by kernel_rfl, ⟨⟨rfl, ⟨⟨rfl, rfl⟩, ⟨rfl, rfl⟩, ⟨rfl, rfl⟩, tr⟩⟩, tr⟩⟩
    · refine AW.cond_f rfl b3 ?_
      refine AW.skip ?_
      refine thenQ_normal ?_
      refine AW.seq ?_
      obtain ⟨c4, h⟩ := chk_some h
      refine AW.tA ⟨[(0, (vp 0 0)), (2, (vI (IntKind.i64.wrap (bits .and .u64 ((IntKind.u64.wrap ((IntKind.u64.wrap ((IntKind.u64.wrap (a0.seed * (6364136223846793005 : Int))) + (IntKind.u64.wrap (IntKind.i64.wrap (a0.code.getD a0.at_.toNat default))))) + (1442695040888963407 : Int))).fdiv (2 ^ (min (40 : Int).toNat (IntKind.bits .u64)))) (255 : Int)))))], [(0, (.box [(.fx 0 0 (sl 1 (csI .u8) a0.code)), (cI (IntKind.i64.wrap (a0.at_ + (1 : Int)))), (.c (.int .u64 (IntKind.u64.wrap ((IntKind.u64.wrap ((IntKind.u64.wrap (a0.seed * (6364136223846793005 : Int))) + (IntKind.u64.wrap (IntKind.i64.wrap (a0.code.getD a0.at_.toNat default))))) + (1442695040888963407 : Int)))))]))]⟩ (T4 ((0 ≤ (40 : Int)) ∧ Tt ∧ T2 Tt)) [] [0, 2] [0] ⟨tr, tr, tr, tr, c4, tr, tr, tr, tr⟩ ?_
      refine AW.ret ?_
      replace h := some_eq h
      subst h
      exact ⟨.inr rfl, retOK_of [(.one (cI (IntKind.i64.wrap (bits .and .u64 ((IntKind.u64.wrap ((IntKind.u64.wrap ((IntKind.u64.wrap (a0.seed * (6364136223846793005 : Int))) + (IntKind.u64.wrap (IntKind.i64.wrap (a0.code.getD a0.at_.toNat default))))) + (1442695040888963407 : Int))).fdiv (2 ^ (min (40 : Int).toNat (IntKind.bits .u64)))) (255 : Int)))))] (by kernel_rfl) ⟨⟨rfl, tr⟩, tr⟩ (of_decide_eq_true (by kernel_rfl)), by kernel_rfl, ⟨⟨rfl, ⟨⟨rfl, rfl⟩, ⟨rfl, rfl⟩, ⟨rfl, rfl⟩, tr⟩⟩, tr⟩⟩
  · refine AW.cond_f rfl b1 ?_
    refine AW.skip ?_
    refine thenQ_normal ?_
    refine AW.sC (T4 (T4 Tt)) [] [0, 3] [0] ⟨tr, tr, tr, tr, tr, tr, tr, tr, tr⟩ ?_
    refine AW.sA ⟨[(0, (vp 0 0)), (3, (vI (0 : Int)))], [(0, (.box [(.fx 0 0 (sl 1 (csI .u8) a0.code)), (cI (IntKind.i64.wrap (a0.at_ + (1 : Int)))), (.c (.int .u64 (IntKind.u64.wrap ((IntKind.u64.wrap ((IntKind.u64.wrap (a0.seed * (6364136223846793005 : Int))) + (IntKind.u64.wrap (0 : Int)))) + (1442695040888963407 : Int)))))]))]⟩ (Tt ∧ T4 (T4 (T4 Tt))) [] [0, 3] [0] ⟨tr, tr, tr, tr, tr, tr, tr, tr, tr, tr, tr, tr, tr, tr⟩ ?_
    refine AW.seq ?_
    refine AW.seq (AW.dA ⟨[(0, (vp 0 0)), (3, (vI (0 : Int))), (53, (vB (decide ((IntKind.i64.wrap (a0.at_ + (1 : Int))) ≤ (a0.code.length : Int)))))], [(0, (.box [(.fx 0 0 (sl 1 (csI .u8) a0.code)), (cI (IntKind.i64.wrap (a0.at_ + (1 : Int)))), (.c (.int .u64 (IntKind.u64.wrap ((IntKind.u64.wrap ((IntKind.u64.wrap (a0.seed * (6364136223846793005 : Int))) + (IntKind.u64.wrap (0 : Int)))) + (1442695040888963407 : Int)))))]))]⟩ ((T2 (T4 (T4 Tt))) ∧ (Tt)) 10 [] [0, 3, 53] [0] ⟨⟨tr, tr, tr, tr, tr, tr, tr, tr, tr, tr, tr⟩, tr⟩ (thenQ_normal ?_))
    rcases ite2_cases h with ⟨b5, h⟩ | ⟨b5, h⟩
    · refine AW.cond_t rfl b5 ?_
      refine AW.sA ⟨[(0, (vp 0 0)), (2, (vI (0 : Int)))], [(0, (.box [(.fx 0 0 (sl 1 (csI .u8) a0.code)), (cI (IntKind.i64.wrap (a0.at_ + (1 : Int)))), (.c (.int .u64 (IntKind.u64.wrap ((IntKind.u64.wrap ((IntKind.u64.wrap (a0.seed * (6364136223846793005 : Int))) + (IntKind.u64.wrap (0 : Int)))) + (1442695040888963407 : Int)))))]))]⟩ (T2 Tt) [] [0, 2] [0] ⟨tr, tr, tr⟩ ?_
      refine AW.ret ?_
      refine thenQ_ret ?_
      replace h := some_eq h
      subst h
      exact ⟨.inr rfl, retOK_of [(.one (cI (0 : Int)))] (by kernel_rfl) ⟨⟨rfl, tr⟩, tr⟩ (of_decide_eq_true (by kernel_rfl)), by kernel_rfl, ⟨⟨rfl, ⟨⟨rfl, rfl⟩, ⟨rfl, rfl⟩, ⟨rfl, rfl⟩, tr⟩⟩, tr⟩⟩
    · refine AW.cond_f rfl b5 ?_
      refine AW.skip ?_
      refine thenQ_normal ?_
      refine AW.seq ?_
      obtain ⟨c6, h⟩ := chk_some h
      refine AW.tA ⟨[(0, (vp 0 0)), (2, (vI (IntKind.i64.wrap (bits .and .u64 ((IntKind.u64.wrap ((IntKind.u64.wrap ((IntKind.u64.wrap (a0.seed * (6364136223846793005 : Int))) + (IntKind.u64.wrap (0 : Int)))) + (1442695040888963407 : Int))).fdiv (2 ^ (min (40 : Int).toNat (IntKind.bits .u64)))) (255 : Int)))))], [(0, (.box [(.fx 0 0 (sl 1 (csI .u8) a0.code)), (cI (IntKind.i64.wrap (a0.at_ + (1 : Int)))), (.c (.int .u64 (IntKind.u64.wrap ((IntKind.u64.wrap ((IntKind.u64.wrap (a0.seed * (6364136223846793005 : Int))) + (IntKind.u64.wrap (0 : Int)))) + (1442695040888963407 : Int)))))]))]⟩ (T4 ((0 ≤ (40 : Int)) ∧ Tt ∧ T2 Tt)) [] [0, 2] [0] ⟨tr, tr, tr, tr, c6, tr, tr, tr, tr⟩ ?_
      refine AW.ret ?_
      replace h := some_eq h
      subst h
      exact ⟨.inr rfl, retOK_of [(.one (cI (IntKind.i64.wrap (bits .and .u64 ((IntKind.u64.wrap ((IntKind.u64.wrap ((IntKind.u64.wrap (a0.seed * (6364136223846793005 : Int))) + (IntKind.u64.wrap (0 : Int)))) + (1442695040888963407 : Int))).fdiv (2 ^ (min (40 : Int).toNat (IntKind.bits .u64)))) (255 : Int)))))] (by kernel_rfl) ⟨⟨rfl, tr⟩, tr⟩ (of_decide_eq_true (by kernel_rfl)), by kernel_rfl, ⟨⟨rfl, ⟨⟨rfl, rfl⟩, ⟨rfl, rfl⟩, ⟨rfl, rfl⟩, tr⟩⟩, tr⟩⟩

/-! (*spec.l00Src).pick -/
def spec_l00Src_pick (K : Nat) (a0 : l00Src) (a1 : Int) : Option (Int × Int × Int) :=
  ite2 ((decide (a1 ≤ (1 : Int)))) (some ((0 : Int), a0.at_, a0.seed)) ((spec_l00Src_next K a0).bind fun v2 => ite2 ((decide (a1 > (200 : Int)))) ((spec_l00Src_next K (l00Src.mk a0.code v2.2.1 v2.2.2)).bind fun v5 => chk (a1 ≠ 0) (some (((IntKind.i64.wrap ((IntKind.i64.wrap (v2.1 * (256 : Int))) + v5.1)).tmod a1), v5.2.1, v5.2.2))) (chk (a1 ≠ 0) (some ((v2.1.tmod a1), v2.2.1, v2.2.2))))

theorem ok_spec_l00Src_pick (K : Nat) (a0 : l00Src) (a1 : Int) (o : (Int × Int × Int)) (h : spec_l00Src_pick K a0 a1 = some o) : MutOK Try.prog 34 [(.box 3 (fun j => [true, false, false].getD j true) (fun j => (cs_l00Src a0).getD j .nilptr) (fun j => [.nilptr, (.int .i64 o.2.1), (.int .u64 o.2.2)].getD j .nilptr)), (.one (.ro (.int .i64 a1)))] [.one (.int .i64 o.1)] := by
  refine mutOK_of_AW 1 Try.func34 rfl (by kernel_rfl) (Nat.le_of_ble_eq_true (by kernel_rfl)) (by kernel_rfl) (by kernel_rfl) ?_
  intro w0 K0 v0 s0
  unfold spec_l00Src_pick at h
  refine AW.weak (s' := ⟨[(0, (vp 0 0)), (1, (vI a1))], [(0, (.box [(.fx 0 0 (sl 1 (csI .u8) a0.code)), (cI a0.at_), (.c (.int .u64 a0.seed))]))]⟩) (subUnfx 0 [1, 2] (by kernel_rfl)) ?_
  refine AW.sC (Tt ∧ Tt) [] [0, 1] [0] ⟨tr, tr⟩ ?_
  refine AW.seq ?_
  refine AW.sA ⟨[(0, (vp 0 0)), (1, (vI a1)), (7, (vB (decide (a1 ≤ (1 : Int)))))], [(0, (.box [(.fx 0 0 (sl 1 (csI .u8) a0.code)), (cI a0.at_), (.c (.int .u64 a0.seed))]))]⟩ (T2 Tt) [] [0, 1, 7] [0] ⟨tr, tr, tr⟩ ?_
  rcases ite2_cases h with ⟨b1, h⟩ | ⟨b1, h⟩
  · refine AW.cond_t rfl b1 ?_
    refine AW.sA ⟨[(0, (vp 0 0)), (1, (vI a1)), (4, (vI (0 : Int)))], [(0, (.box [(.fx 0 0 (sl 1 (csI .u8) a0.code)), (cI a0.at_), (.c (.int .u64 a0.seed))]))]⟩ (Tt ∧ Tt) [] [0, 1, 4] [0] ⟨tr, tr⟩ ?_
    refine AW.ret ?_
    refine thenQ_ret ?_
    replace h := some_eq h
    subst h
    exact ⟨.inr rfl, retOK_of [(.one (cI (0 : Int)))] (by kernel_rfl) ⟨⟨rfl, tr⟩, tr⟩ (of_decide_eq_true (by kernel_rfl)), by kernel_rfl, ⟨⟨rfl, ⟨⟨rfl, rfl⟩, ⟨rfl, rfl⟩, ⟨rfl, rfl⟩, tr⟩⟩, tr, tr⟩⟩
  · refine AW.cond_f rfl b1 ?_
    refine AW.skip ?_
    refine thenQ_normal ?_
    refine AW.seq ?_
    obtain ⟨v2, e3, h⟩ := bind_some h
    refine AW.tC (Tt ∧ ((((Eqc (sl 1 (csI .u8) a0.code)) ∧ (eI a0.at_) ∧ (Eqc (.int .u64 a0.seed)) ∧ Tt) ∧ Tt) ∧ MutOK Try.prog 49 [(.box 3 (fun j => [true, false, false].getD j true) (fun j => (cs_l00Src a0).getD j .nilptr) (fun j => [.nilptr, (.int .i64 v2.2.1), (.int .u64 v2.2.2)].getD j .nilptr))] [.one (.int .i64 v2.1)]) ∧ Tt ∧ Tt) [.no, .callM [(.box 3 (fun j => [true, false, false].getD j true) (fun j => (cs_l00Src a0).getD j .nilptr) (fun j => [.nilptr, (.int .i64 v2.2.1), (.int .u64 v2.2.2)].getD j .nilptr))] [.one (.int .i64 v2.1)] [[.view]] none] [0, 1, 5] [0] ⟨tr, ⟨⟨⟨rfl, rfl, rfl, tr⟩, tr⟩, ok_spec_l00Src_next K a0 v2 e3⟩, tr, tr⟩ ?_
    refine AW.seq ?_
    refine AW.sA ⟨[(0, (vp 0 0)), (1, (vI a1)), (5, (vI v2.1)), (11, (vB (decide (a1 > (200 : Int)))))], [(0, (.box [(.fx 0 0 (sl 1 (csI .u8) a0.code)), (cI v2.2.1), (.c (.int .u64 v2.2.2))]))]⟩ (T2 Tt) [] [0, 1, 5, 11] [0] ⟨tr, tr, tr⟩ ?_
    rcases ite2_cases h with ⟨b4, h⟩ | ⟨b4, h⟩
    · refine AW.cond_t rfl b4 ?_
      obtain ⟨v5, e6, h⟩ := bind_some h
      refine AW.tC (Tt ∧ T2 (((((Eqc (sl 1 (csI .u8) a0.code)) ∧ (eI v2.2.1) ∧ (Eqc (.int .u64 v2.2.2)) ∧ Tt) ∧ Tt) ∧ MutOK Try.prog 49 [(.box 3 (fun j => [true, false, false].getD j true) (fun j => (cs_l00Src (l00Src.mk a0.code v2.2.1 v2.2.2)).getD j .nilptr) (fun j => [.nilptr, (.int .i64 v5.2.1), (.int .u64 v5.2.2)].getD j .nilptr))] [.one (.int .i64 v5.1)]) ∧ T2 Tt)) [.no, .no, .no, .callM [(.box 3 (fun j => [true, false, false].getD j true) (fun j => (cs_l00Src (l00Src.mk a0.code v2.2.1 v2.2.2)).getD j .nilptr) (fun j => [.nilptr, (.int .i64 v5.2.1), (.int .u64 v5.2.2)].getD j .nilptr))] [.one (.int .i64 v5.1)] [[.view]] none] [0, 1, 5] [0] ⟨tr, tr, tr, ⟨⟨⟨rfl, rfl, rfl, tr⟩, tr⟩, ok_spec_l00Src_next K (l00Src.mk a0.code v2.2.1 v2.2.2) v5 e6⟩, tr, tr, tr⟩ ?_
      refine AW.seq ?_
      obtain ⟨c7, h⟩ := chk_some h
      refine AW.tA ⟨[(0, (vp 0 0)), (1, (vI a1)), (4, (vI ((IntKind.i64.wrap ((IntKind.i64.wrap (v2.1 * (256 : Int))) + v5.1)).tmod a1)))], [(0, (.box [(.fx 0 0 (sl 1 (csI .u8) a0.code)), (cI v5.2.1), (.c (.int .u64 v5.2.2))]))]⟩ (T2 ((a1 ≠ 0) ∧ Tt ∧ Tt)) [] [0, 1, 4] [0] ⟨tr, tr, c7, tr, tr⟩ ?_
      refine AW.ret ?_
      replace h := some_eq h
      subst h
      exact ⟨.inr rfl, retOK_of [(.one (cI ((IntKind.i64.wrap ((IntKind.i64.wrap (v2.1 * (256 : Int))) + v5.1)).tmod a1)))] (by kernel_rfl) ⟨⟨rfl, tr⟩, tr⟩ (of_decide_eq_true (by kernel_rfl)), by kernel_rfl, ⟨⟨rfl, ⟨⟨rfl, rfl⟩, ⟨rfl, rfl⟩, ⟨rfl, rfl⟩, tr⟩⟩, tr, tr⟩⟩
    · refine AW.cond_f rfl b4 ?_
      refine AW.skip ?_
      refine thenQ_normal ?_
      refine AW.seq ?_
      obtain ⟨c8, h⟩ := chk_some h
      refine AW.tA ⟨[(0, (vp 0 0)), (1, (vI a1)), (4, (vI (v2.1.tmod a1)))], [(0, (.box [(.fx 0 0 (sl 1 (csI .u8) a0.code)), (cI v2.2.1), (.c (.int .u64 v2.2.2))]))]⟩ (T2 ((a1 ≠ 0) ∧ Tt ∧ Tt)) [] [0, 1, 4] [0] ⟨tr, tr, c8, tr, tr⟩ ?_
      refine AW.ret ?_
      replace h := some_eq h
      subst h
      exact ⟨.inr rfl, retOK_of [(.one (cI (v2.1.tmod a1)))] (by kernel_rfl) ⟨⟨rfl, tr⟩, tr⟩ (of_decide_eq_true (by kernel_rfl)), by kernel_rfl, ⟨⟨rfl, ⟨⟨rfl, rfl⟩, ⟨rfl, rfl⟩, ⟨rfl, rfl⟩, tr⟩⟩, tr, tr⟩⟩

/-! (*spec.l00Src).one -/
def spec_l00Src_one (K : Nat) (a0 : l00Src) (a1 : Int) : Option (Bool × Int × Int) :=
  (spec_l00Src_pick K a0 a1).bind fun v1 => some ((v1.1 == (0 : Int)), v1.2.1, v1.2.2)

theorem ok_spec_l00Src_one (K : Nat) (a0 : l00Src) (a1 : Int) (o : (Bool × Int × Int)) (h : spec_l00Src_one K a0 a1 = some o) : MutOK Try.prog 37 [(.box 3 (fun j => [true, false, false].getD j true) (fun j => (cs_l00Src a0).getD j .nilptr) (fun j => [.nilptr, (.int .i64 o.2.1), (.int .u64 o.2.2)].getD j .nilptr)), (.one (.ro (.int .i64 a1)))] [.one (.bool o.1)] := by
  refine mutOK_of_AW 1 Try.func37 rfl (by kernel_rfl) (Nat.le_of_ble_eq_true (by kernel_rfl)) (by kernel_rfl) (by kernel_rfl) ?_
  intro w0 K0 v0 s0
  unfold spec_l00Src_one at h
  refine AW.weak (s' := ⟨[(0, (vp 0 0)), (1, (vI a1))], [(0, (.box [(.fx 0 0 (sl 1 (csI .u8) a0.code)), (cI a0.at_), (.c (.int .u64 a0.seed))]))]⟩) (subUnfx 0 [1, 2] (by kernel_rfl)) ?_
  refine AW.sC (Tt ∧ Tt) [] [0, 1] [0] ⟨tr, tr⟩ ?_
  refine AW.seq ?_
  obtain ⟨v1, e2, h⟩ := bind_some h
  refine AW.tA ⟨[(0, (vp 0 0)), (1, (vI a1)), (4, (vB (v1.1 == (0 : Int))))], [(0, (.box [(.fx 0 0 (sl 1 (csI .u8) a0.code)), (cI v1.2.1), (.c (.int .u64 v1.2.2))]))]⟩ (T2 (((((Eqc (sl 1 (csI .u8) a0.code)) ∧ (eI a0.at_) ∧ (Eqc (.int .u64 a0.seed)) ∧ Tt) ∧ (eI a1) ∧ Tt) ∧ MutOK Try.prog 34 [(.box 3 (fun j => [true, false, false].getD j true) (fun j => (cs_l00Src a0).getD j .nilptr) (fun j => [.nilptr, (.int .i64 v1.2.1), (.int .u64 v1.2.2)].getD j .nilptr)), .one (.ro (.int .i64 a1))] [.one (.int .i64 v1.1)]) ∧ T2 Tt)) [.no, .no, .callM [(.box 3 (fun j => [true, false, false].getD j true) (fun j => (cs_l00Src a0).getD j .nilptr) (fun j => [.nilptr, (.int .i64 v1.2.1), (.int .u64 v1.2.2)].getD j .nilptr)), .one (.ro (.int .i64 a1))] [.one (.int .i64 v1.1)] [[.view]] none] [0, 1, 4] [0] ⟨tr, tr, ⟨⟨⟨rfl, rfl, rfl, tr⟩, rfl, tr⟩, ok_spec_l00Src_pick K a0 a1 v1 e2⟩, tr, tr, tr⟩ ?_
  refine AW.ret ?_
  replace h := some_eq h
  subst h
  exact ⟨.inr rfl, retOK_of [(.one (.c (.bool (v1.1 == (0 : Int)))))] (by kernel_rfl) ⟨⟨rfl, tr⟩, tr⟩ (of_decide_eq_true (by kernel_rfl)), by kernel_rfl, ⟨⟨rfl, ⟨⟨rfl, rfl⟩, ⟨rfl, rfl⟩, ⟨rfl, rfl⟩, tr⟩⟩, tr, tr⟩⟩

/-! spec.l02DrawExact -/
def spec_l02DrawExact (K : Nat) (a0 : l00Src) : Option (Turn × Int × Int) :=
  (spec_l00Src_pick K a0 (24 : Int)).bind fun v1 => ite2 ((decide (v1.1 < (8 : Int)))) (ite2 ((decide (v1.1 ≥ (4 : Int)))) (chk ((4 : Int) ≠ 0) (ite2 (((v1.1.tmod (4 : Int)) == (0 : Int))) (some ((Turn.mk (Fl.mk (k := .f32) 3212836864 (by decide)) (default : F32) (default : F32) (default : F32)), v1.2.1, v1.2.2)) (ite2 (((v1.1.tmod (4 : Int)) == (1 : Int))) (some ((Turn.mk (default : F32) (Fl.mk (k := .f32) 3212836864 (by decide)) (default : F32) (default : F32)), v1.2.1, v1.2.2)) (ite2 (((v1.1.tmod (4 : Int)) == (2 : Int))) (some ((Turn.mk (default : F32) (default : F32) (Fl.mk (k := .f32) 3212836864 (by decide)) (default : F32)), v1.2.1, v1.2.2)) (some ((Turn.mk (default : F32) (default : F32) (default : F32) (Fl.mk (k := .f32) 3212836864 (by decide))), v1.2.1, v1.2.2)))))) (chk ((4 : Int) ≠ 0) (ite2 (((v1.1.tmod (4 : Int)) == (0 : Int))) (some ((Turn.mk (Fl.mk (k := .f32) 1065353216 (by decide)) (default : F32) (default : F32) (default : F32)), v1.2.1, v1.2.2)) (ite2 (((v1.1.tmod (4 : Int)) == (1 : Int))) (some ((Turn.mk (default : F32) (Fl.mk (k := .f32) 1065353216 (by decide)) (default : F32) (default : F32)), v1.2.1, v1.2.2)) (ite2 (((v1.1.tmod (4 : Int)) == (2 : Int))) (some ((Turn.mk (default : F32) (default : F32) (Fl.mk (k := .f32) 1065353216 (by decide)) (default : F32)), v1.2.1, v1.2.2)) (some ((Turn.mk (default : F32) (default : F32) (default : F32) (Fl.mk (k := .f32) 1065353216 (by decide))), v1.2.1, v1.2.2))))))) (chk (0 ≤ (1 : Int)) (chk (0 ≤ (2 : Int)) (chk (0 ≤ (3 : Int)) (some ((Turn.mk ((Fl.ofInt .f32 (bits .and .i64 (IntKind.i64.wrap (v1.1 - (8 : Int))) (1 : Int))).sub (Fl.mk (k := .f32) 1056964608 (by decide))) ((Fl.ofInt .f32 (bits .and .i64 ((IntKind.i64.wrap (v1.1 - (8 : Int))).fdiv (2 ^ (min (1 : Int).toNat (IntKind.bits .i64)))) (1 : Int))).sub (Fl.mk (k := .f32) 1056964608 (by decide))) ((Fl.ofInt .f32 (bits .and .i64 ((IntKind.i64.wrap (v1.1 - (8 : Int))).fdiv (2 ^ (min (2 : Int).toNat (IntKind.bits .i64)))) (1 : Int))).sub (Fl.mk (k := .f32) 1056964608 (by decide))) ((Fl.ofInt .f32 (bits .and .i64 ((IntKind.i64.wrap (v1.1 - (8 : Int))).fdiv (2 ^ (min (3 : Int).toNat (IntKind.bits .i64)))) (1 : Int))).sub (Fl.mk (k := .f32) 1056964608 (by decide)))), v1.2.1, v1.2.2)))))

theorem ok_spec_l02DrawExact (K : Nat) (a0 : l00Src) (o : (Turn × Int × Int)) (h : spec_l02DrawExact K a0 = some o) : MutOK Try.prog 38 [(.box 3 (fun j => [true, false, false].getD j true) (fun j => (cs_l00Src a0).getD j .nilptr) (fun j => [.nilptr, (.int .i64 o.2.1), (.int .u64 o.2.2)].getD j .nilptr))] [.agg (cs_Turn o.1)] := by
  refine mutOK_of_AW 1 Try.func38 rfl (by kernel_rfl) (Nat.le_of_ble_eq_true (by kernel_rfl)) (by kernel_rfl) (by kernel_rfl) ?_
  intro w0 K0 v0 s0
  unfold spec_l02DrawExact at h
  refine AW.weak (s' := ⟨[(0, (vp 0 0))], [(0, (.box [(.fx 0 0 (sl 1 (csI .u8) a0.code)), (cI a0.at_), (.c (.int .u64 a0.seed))]))]⟩) (subUnfx 0 [1, 2] (by kernel_rfl)) ?_
  refine AW.sC (Tt ∧ Tt) [.box 1] [0, 2] [0, 1] ⟨tr, tr⟩ ?_
  refine AW.seq ?_
  obtain ⟨v1, e2, h⟩ := bind_some h
  refine AW.tC (Tt ∧ ((((Eqc (sl 1 (csI .u8) a0.code)) ∧ (eI a0.at_) ∧ (Eqc (.int .u64 a0.seed)) ∧ Tt) ∧ (eI (24 : Int)) ∧ Tt) ∧ MutOK Try.prog 34 [(.box 3 (fun j => [true, false, false].getD j true) (fun j => (cs_l00Src a0).getD j .nilptr) (fun j => [.nilptr, (.int .i64 v1.2.1), (.int .u64 v1.2.2)].getD j .nilptr)), .one (.ro (.int .i64 (24 : Int)))] [.one (.int .i64 v1.1)]) ∧ Tt ∧ Tt) [.no, .callM [(.box 3 (fun j => [true, false, false].getD j true) (fun j => (cs_l00Src a0).getD j .nilptr) (fun j => [.nilptr, (.int .i64 v1.2.1), (.int .u64 v1.2.2)].getD j .nilptr)), .one (.ro (.int .i64 (24 : Int)))] [.one (.int .i64 v1.1)] [[.view]] none] [0, 2, 3] [0, 1] ⟨tr, ⟨⟨⟨rfl, rfl, rfl, tr⟩, rfl, tr⟩, ok_spec_l00Src_pick K a0 (24 : Int) v1 e2⟩, tr, tr⟩ ?_
  refine AW.seq ?_
  refine AW.sA ⟨[(0, (vp 0 0)), (2, (vp 1 0)), (3, (vI v1.1)), (8, (vB (decide (v1.1 < (8 : Int)))))], [(0, (.box [(.fx 0 0 (sl 1 (csI .u8) a0.code)), (cI v1.2.1), (.c (.int .u64 v1.2.2))])), (1, (.box [(cF (default : F32)), (cF (default : F32)), (cF (default : F32)), (cF (default : F32))]))]⟩ (T2 Tt) [] [0, 2, 3, 8] [0, 1] ⟨tr, tr, tr⟩ ?_
  rcases ite2_cases h with ⟨b3, h⟩ | ⟨b3, h⟩
  · refine AW.cond_t rfl b3 ?_
    refine AW.sC (Tt ∧ Tt) [] [0, 2, 3, 4] [0, 1] ⟨tr, tr⟩ ?_
    refine AW.seq ?_
    refine AW.sA ⟨[(0, (vp 0 0)), (2, (vp 1 0)), (3, (vI v1.1)), (4, (vc (.flt .f32 (Fl.mk (k := .f32) 1065353216 (by decide)).bits))), (10, (vB (decide (v1.1 ≥ (4 : Int)))))], [(0, (.box [(.fx 0 0 (sl 1 (csI .u8) a0.code)), (cI v1.2.1), (.c (.int .u64 v1.2.2))])), (1, (.box [(cF (default : F32)), (cF (default : F32)), (cF (default : F32)), (cF (default : F32))]))]⟩ (T2 Tt) [] [0, 2, 3, 4, 10] [0, 1] ⟨tr, tr, tr⟩ ?_
    rcases ite2_cases h with ⟨b4, h⟩ | ⟨b4, h⟩
    · refine AW.cond_t rfl b4 ?_
      refine AW.tC (Tt ∧ Tt) [] [0, 2, 3, 4] [0, 1] ⟨tr, tr⟩ ?_
      refine AW.seq ?_
      refine AW.seq ?_
      obtain ⟨c5, h⟩ := chk_some h
      refine AW.tA ⟨[(0, (vp 0 0)), (2, (vp 1 0)), (4, (vc (.flt .f32 (Fl.mk (k := .f32) 3212836864 (by decide)).bits))), (12, (vI (v1.1.tmod (4 : Int))))], [(0, (.box [(.fx 0 0 (sl 1 (csI .u8) a0.code)), (cI v1.2.1), (.c (.int .u64 v1.2.2))])), (1, (.box [(cF (default : F32)), (cF (default : F32)), (cF (default : F32)), (cF (default : F32))]))]⟩ (Tt ∧ ((4 : Int) ≠ 0) ∧ Tt) [] [0, 2, 4, 12] [0, 1] ⟨tr, c5, tr⟩ ?_
      refine AW.block ?_
      refine AW.sA ⟨[(0, (vp 0 0)), (2, (vp 1 0)), (4, (vc (.flt .f32 (Fl.mk (k := .f32) 3212836864 (by decide)).bits))), (12, (vI (v1.1.tmod (4 : Int)))), (13, (vB ((v1.1.tmod (4 : Int)) == (0 : Int))))], [(0, (.box [(.fx 0 0 (sl 1 (csI .u8) a0.code)), (cI v1.2.1), (.c (.int .u64 v1.2.2))])), (1, (.box [(cF (default : F32)), (cF (default : F32)), (cF (default : F32)), (cF (default : F32))]))]⟩ (T2 Tt) [] [0, 2, 4, 12, 13] [0, 1] ⟨tr, tr, tr⟩ ?_
      rcases ite2_cases h with ⟨b6, h⟩ | ⟨b6, h⟩
      · refine AW.cond_t rfl b6 ?_
        refine AW.sA ⟨[(0, (vp 0 0)), (2, (vp 1 0))], [(0, (.box [(.fx 0 0 (sl 1 (csI .u8) a0.code)), (cI v1.2.1), (.c (.int .u64 v1.2.2))])), (1, (.box [(cF (Fl.mk (k := .f32) 3212836864 (by decide))), (cF (default : F32)), (cF (default : F32)), (cF (default : F32))]))]⟩ (Tt ∧ T2 Tt) [] [0, 2] [0, 1] ⟨tr, tr, tr, tr⟩ ?_
        refine AW.ret ?_
        refine blockQ_ret ?_
        refine thenQ_ret ?_
        refine thenQ_ret ?_
        replace h := some_eq h
        subst h
        exact ⟨.inr rfl, retOK_of [(.agg [(cF (Fl.mk (k := .f32) 3212836864 (by decide))), (cF (default : F32)), (cF (default : F32)), (cF (default : F32))])] (by kernel_rfl) ⟨⟨⟨rfl, tr⟩, ⟨rfl, tr⟩, ⟨rfl, tr⟩, ⟨rfl, tr⟩, tr⟩, tr⟩ (of_decide_eq_true (by kernel_rfl)), by kernel_rfl, ⟨⟨rfl, ⟨⟨rfl, rfl⟩, ⟨rfl, rfl⟩, ⟨rfl, rfl⟩, tr⟩⟩, tr⟩⟩
      · refine AW.cond_f rfl b6 ?_
        refine AW.sA ⟨[(0, (vp 0 0)), (2, (vp 1 0)), (4, (vc (.flt .f32 (Fl.mk (k := .f32) 3212836864 (by decide)).bits))), (12, (vI (v1.1.tmod (4 : Int)))), (17, (vB ((v1.1.tmod (4 : Int)) == (1 : Int))))], [(0, (.box [(.fx 0 0 (sl 1 (csI .u8) a0.code)), (cI v1.2.1), (.c (.int .u64 v1.2.2))])), (1, (.box [(cF (default : F32)), (cF (default : F32)), (cF (default : F32)), (cF (default : F32))]))]⟩ (T2 Tt) [] [0, 2, 4, 12, 17] [0, 1] ⟨tr, tr, tr⟩ ?_
        rcases ite2_cases h with ⟨b7, h⟩ | ⟨b7, h⟩
        · refine AW.cond_t rfl b7 ?_
          refine AW.sA ⟨[(0, (vp 0 0)), (2, (vp 1 0))], [(0, (.box [(.fx 0 0 (sl 1 (csI .u8) a0.code)), (cI v1.2.1), (.c (.int .u64 v1.2.2))])), (1, (.box [(cF (default : F32)), (cF (Fl.mk (k := .f32) 3212836864 (by decide))), (cF (default : F32)), (cF (default : F32))]))]⟩ (Tt ∧ T2 Tt) [] [0, 2] [0, 1] ⟨tr, tr, tr, tr⟩ ?_
          refine AW.ret ?_
          refine blockQ_ret ?_
          refine thenQ_ret ?_
          refine thenQ_ret ?_
          replace h := some_eq h
          subst h
          exact ⟨.inr rfl, retOK_of [(.agg [(cF (default : F32)), (cF (Fl.mk (k := .f32) 3212836864 (by decide))), (cF (default : F32)), (cF (default : F32))])] (by kernel_rfl) ⟨⟨⟨rfl, tr⟩, ⟨rfl, tr⟩, ⟨rfl, tr⟩, ⟨rfl, tr⟩, tr⟩, tr⟩ (of_decide_eq_true (by kernel_rfl)), by kernel_rfl, ⟨⟨rfl, ⟨⟨rfl, rfl⟩, ⟨rfl, rfl⟩, ⟨rfl, rfl⟩, tr⟩⟩, tr⟩⟩
        · refine AW.cond_f rfl b7 ?_
          refine AW.sA ⟨[(0, (vp 0 0)), (2, (vp 1 0)), (4, (vc (.flt .f32 (Fl.mk (k := .f32) 3212836864 (by decide)).bits))), (21, (vB ((v1.1.tmod (4 : Int)) == (2 : Int))))], [(0, (.box [(.fx 0 0 (sl 1 (csI .u8) a0.code)), (cI v1.2.1), (.c (.int .u64 v1.2.2))])), (1, (.box [(cF (default : F32)), (cF (default : F32)), (cF (default : F32)), (cF (default : F32))]))]⟩ (T2 Tt) [] [0, 2, 4, 21] [0, 1] ⟨tr, tr, tr⟩ ?_
          rcases ite2_cases h with ⟨b8, h⟩ | ⟨b8, h⟩
          · refine AW.cond_t rfl b8 ?_
            refine AW.sA ⟨[(0, (vp 0 0)), (2, (vp 1 0))], [(0, (.box [(.fx 0 0 (sl 1 (csI .u8) a0.code)), (cI v1.2.1), (.c (.int .u64 v1.2.2))])), (1, (.box [(cF (default : F32)), (cF (default : F32)), (cF (Fl.mk (k := .f32) 3212836864 (by decide))), (cF (default : F32))]))]⟩ (Tt ∧ T2 Tt) [] [0, 2] [0, 1] ⟨tr, tr, tr, tr⟩ ?_
            refine AW.ret ?_
            refine blockQ_ret ?_
            refine thenQ_ret ?_
            refine thenQ_ret ?_
            replace h := some_eq h
            subst h
            exact ⟨.inr rfl, retOK_of [(.agg [(cF (default : F32)), (cF (default : F32)), (cF (Fl.mk (k := .f32) 3212836864 (by decide))), (cF (default : F32))])] (by kernel_rfl) ⟨⟨⟨rfl, tr⟩, ⟨rfl, tr⟩, ⟨rfl, tr⟩, ⟨rfl, tr⟩, tr⟩, tr⟩ (of_decide_eq_true (by kernel_rfl)), by kernel_rfl, ⟨⟨rfl, ⟨⟨rfl, rfl⟩, ⟨rfl, rfl⟩, ⟨rfl, rfl⟩, tr⟩⟩, tr⟩⟩
          · refine AW.cond_f rfl b8 ?_
            refine AW.skip ?_
            refine blockQ_normal ?_
            refine thenQ_normal ?_
            refine AW.sA ⟨[(0, (vp 0 0)), (2, (vp 1 0))], [(0, (.box [(.fx 0 0 (sl 1 (csI .u8) a0.code)), (cI v1.2.1), (.c (.int .u64 v1.2.2))])), (1, (.box [(cF (default : F32)), (cF (default : F32)), (cF (default : F32)), (cF (Fl.mk (k := .f32) 3212836864 (by decide)))]))]⟩ (Tt ∧ T2 Tt) [] [0, 2] [0, 1] ⟨tr, tr, tr, tr⟩ ?_
            refine AW.ret ?_
            refine thenQ_ret ?_
            replace h := some_eq h
            subst h
            exact ⟨.inr rfl, retOK_of [(.agg [(cF (default : F32)), (cF (default : F32)), (cF (default : F32)), (cF (Fl.mk (k := .f32) 3212836864 (by decide)))])] (by kernel_rfl) ⟨⟨⟨rfl, tr⟩, ⟨rfl, tr⟩, ⟨rfl, tr⟩, ⟨rfl, tr⟩, tr⟩, tr⟩ (of_decide_eq_true (by kernel_rfl)), by kernel_rfl, ⟨⟨rfl, ⟨⟨rfl, rfl⟩, ⟨rfl, rfl⟩, ⟨rfl, rfl⟩, tr⟩⟩, tr⟩⟩
    · refine AW.cond_f rfl b4 ?_
      refine AW.skip ?_
      refine thenQ_normal ?_
      refine AW.seq ?_
      refine AW.seq ?_
      obtain ⟨c9, h⟩ := chk_some h
      refine AW.tA ⟨[(0, (vp 0 0)), (2, (vp 1 0)), (4, (vc (.flt .f32 (Fl.mk (k := .f32) 1065353216 (by decide)).bits))), (12, (vI (v1.1.tmod (4 : Int))))], [(0, (.box [(.fx 0 0 (sl 1 (csI .u8) a0.code)), (cI v1.2.1), (.c (.int .u64 v1.2.2))])), (1, (.box [(cF (default : F32)), (cF (default : F32)), (cF (default : F32)), (cF (default : F32))]))]⟩ (Tt ∧ ((4 : Int) ≠ 0) ∧ Tt) [] [0, 2, 4, 12] [0, 1] ⟨tr, c9, tr⟩ ?_
      refine AW.block ?_
      refine AW.sA ⟨[(0, (vp 0 0)), (2, (vp 1 0)), (4, (vc (.flt .f32 (Fl.mk (k := .f32) 1065353216 (by decide)).bits))), (12, (vI (v1.1.tmod (4 : Int)))), (13, (vB ((v1.1.tmod (4 : Int)) == (0 : Int))))], [(0, (.box [(.fx 0 0 (sl 1 (csI .u8) a0.code)), (cI v1.2.1), (.c (.int .u64 v1.2.2))])), (1, (.box [(cF (default : F32)), (cF (default : F32)), (cF (default : F32)), (cF (default : F32))]))]⟩ (T2 Tt) [] [0, 2, 4, 12, 13] [0, 1] ⟨tr, tr, tr⟩ ?_
      rcases ite2_cases h with ⟨b10, h⟩ | ⟨b10, h⟩
      · refine AW.cond_t rfl b10 ?_
        refine AW.sA ⟨[(0, (vp 0 0)), (2, (vp 1 0))], [(0, (.box [(.fx 0 0 (sl 1 (csI .u8) a0.code)), (cI v1.2.1), (.c (.int .u64 v1.2.2))])), (1, (.box [(cF (Fl.mk (k := .f32) 1065353216 (by decide))), (cF (default : F32)), (cF (default : F32)), (cF (default : F32))]))]⟩ (Tt ∧ T2 Tt) [] [0, 2] [0, 1] ⟨tr, tr, tr, tr⟩ ?_
        refine AW.ret ?_
        refine blockQ_ret ?_
        refine thenQ_ret ?_
        refine thenQ_ret ?_
        replace h := some_eq h
        subst h
        exact ⟨.inr rfl, retOK_of [(.agg [(cF (Fl.mk (k := .f32) 1065353216 (by decide))), (cF (default : F32)), (cF (default : F32)), (cF (default : F32))])] (by kernel_rfl) ⟨⟨⟨rfl, tr⟩, ⟨rfl, tr⟩, ⟨rfl, tr⟩, ⟨rfl, tr⟩, tr⟩, tr⟩ (of_decide_eq_true (by kernel_rfl)), by kernel_rfl, ⟨⟨rfl, ⟨⟨rfl, rfl⟩, ⟨rfl, rfl⟩, ⟨rfl, rfl⟩, tr⟩⟩, tr⟩⟩
      · refine AW.cond_f rfl b10 ?_
        refine AW.sA ⟨[(0, (vp 0 0)), (2, (vp 1 0)), (4, (vc (.flt .f32 (Fl.mk (k := .f32) 1065353216 (by decide)).bits))), (12, (vI (v1.1.tmod (4 : Int)))), (17, (vB ((v1.1.tmod (4 : Int)) == (1 : Int))))], [(0, (.box [(.fx 0 0 (sl 1 (csI .u8) a0.code)), (cI v1.2.1), (.c (.int .u64 v1.2.2))])), (1, (.box [(cF (default : F32)), (cF (default : F32)), (cF (default : F32)), (cF (default : F32))]))]⟩ (T2 Tt) [] [0, 2, 4, 12, 17] [0, 1] ⟨tr, tr, tr⟩ ?_
        rcases ite2_cases h with ⟨b11, h⟩ | ⟨b11, h⟩
        · refine AW.cond_t rfl b11 ?_
          refine AW.sA ⟨[(0, (vp 0 0)), (2, (vp 1 0))], [(0, (.box [(.fx 0 0 (sl 1 (csI .u8) a0.code)), (cI v1.2.1), (.c (.int .u64 v1.2.2))])), (1, (.box [(cF (default : F32)), (cF (Fl.mk (k := .f32) 1065353216 (by decide))), (cF (default : F32)), (cF (default : F32))]))]⟩ (Tt ∧ T2 Tt) [] [0, 2] [0, 1] ⟨tr, tr, tr, tr⟩ ?_
          refine AW.ret ?_
          refine blockQ_ret ?_
          refine thenQ_ret ?_
          refine thenQ_ret ?_
          replace h := some_eq h
          subst h
          exact ⟨.inr rfl, retOK_of [(.agg [(cF (default : F32)), (cF (Fl.mk (k := .f32) 1065353216 (by decide))), (cF (default : F32)), (cF (default : F32))])] (by kernel_rfl) ⟨⟨⟨rfl, tr⟩, ⟨rfl, tr⟩, ⟨rfl, tr⟩, ⟨rfl, tr⟩, tr⟩, tr⟩ (of_decide_eq_true (by kernel_rfl)), by kernel_rfl, ⟨⟨rfl, ⟨⟨rfl, rfl⟩, ⟨rfl, rfl⟩, ⟨rfl, rfl⟩, tr⟩⟩, tr⟩⟩
        · refine AW.cond_f rfl b11 ?_
          refine AW.sA ⟨[(0, (vp 0 0)), (2, (vp 1 0)), (4, (vc (.flt .f32 (Fl.mk (k := .f32) 1065353216 (by decide)).bits))), (21, (vB ((v1.1.tmod (4 : Int)) == (2 : Int))))], [(0, (.box [(.fx 0 0 (sl 1 (csI .u8) a0.code)), (cI v1.2.1), (.c (.int .u64 v1.2.2))])), (1, (.box [(cF (default : F32)), (cF (default : F32)), (cF (default : F32)), (cF (default : F32))]))]⟩ (T2 Tt) [] [0, 2, 4, 21] [0, 1] ⟨tr, tr, tr⟩ ?_
          rcases ite2_cases h with ⟨b12, h⟩ | ⟨b12, h⟩
          · refine AW.cond_t rfl b12 ?_
            refine AW.sA ⟨[(0, (vp 0 0)), (2, (vp 1 0))], [(0, (.box [(.fx 0 0 (sl 1 (csI .u8) a0.code)), (cI v1.2.1), (.c (.int .u64 v1.2.2))])), (1, (.box [(cF (default : F32)), (cF (default : F32)), (cF (Fl.mk (k := .f32) 1065353216 (by decide))), (cF (default : F32))]))]⟩ (Tt ∧ T2 Tt) [] [0, 2] [0, 1] ⟨tr, tr, tr, tr⟩ ?_
            refine AW.ret ?_
            refine blockQ_ret ?_
            refine thenQ_ret ?_
            refine thenQ_ret ?_
            replace h := some_eq h
            subst h
            exact ⟨.inr rfl, retOK_of [(.agg [(cF (default : F32)), (cF (default : F32)), (cF (Fl.mk (k := .f32) 1065353216 (by decide))), (cF (default : F32))])] (by kernel_rfl) ⟨⟨⟨rfl, tr⟩, ⟨rfl, tr⟩, ⟨rfl, tr⟩, ⟨rfl, tr⟩, tr⟩, tr⟩ (of_decide_eq_true (by kernel_rfl)), by kernel_rfl, ⟨⟨rfl, ⟨⟨rfl, rfl⟩, ⟨rfl, rfl⟩, ⟨rfl, rfl⟩, tr⟩⟩, tr⟩⟩
          · refine AW.cond_f rfl b12 ?_
            refine AW.skip ?_
            refine blockQ_normal ?_
            refine thenQ_normal ?_
            refine AW.sA ⟨[(0, (vp 0 0)), (2, (vp 1 0))], [(0, (.box [(.fx 0 0 (sl 1 (csI .u8) a0.code)), (cI v1.2.1), (.c (.int .u64 v1.2.2))])), (1, (.box [(cF (default : F32)), (cF (default : F32)), (cF (default : F32)), (cF (Fl.mk (k := .f32) 1065353216 (by decide)))]))]⟩ (Tt ∧ T2 Tt) [] [0, 2] [0, 1] ⟨tr, tr, tr, tr⟩ ?_
            refine AW.ret ?_
            refine thenQ_ret ?_
            replace h := some_eq h
            subst h
            exact ⟨.inr rfl, retOK_of [(.agg [(cF (default : F32)), (cF (default : F32)), (cF (default : F32)), (cF (Fl.mk (k := .f32) 1065353216 (by decide)))])] (by kernel_rfl) ⟨⟨⟨rfl, tr⟩, ⟨rfl, tr⟩, ⟨rfl, tr⟩, ⟨rfl, tr⟩, tr⟩, tr⟩ (of_decide_eq_true (by kernel_rfl)), by kernel_rfl, ⟨⟨rfl, ⟨⟨rfl, rfl⟩, ⟨rfl, rfl⟩, ⟨rfl, rfl⟩, tr⟩⟩, tr⟩⟩
  · refine AW.cond_f rfl b3 ?_
    refine AW.skip ?_
    refine thenQ_normal ?_
    refine AW.sC (Tt ∧ T2 Tt) [] [0, 2, 3] [0, 1] ⟨tr, tr, tr, tr⟩ ?_
    refine AW.seq ?_
    obtain ⟨c13, h⟩ := chk_some h
    obtain ⟨c14, h⟩ := chk_some h
    obtain ⟨c15, h⟩ := chk_some h
    refine AW.tA ⟨[(0, (vp 0 0)), (2, (vp 1 0))], [(0, (.box [(.fx 0 0 (sl 1 (csI .u8) a0.code)), (cI v1.2.1), (.c (.int .u64 v1.2.2))])), (1, (.box [(cF ((Fl.ofInt .f32 (bits .and .i64 (IntKind.i64.wrap (v1.1 - (8 : Int))) (1 : Int))).sub (Fl.mk (k := .f32) 1056964608 (by decide)))), (cF ((Fl.ofInt .f32 (bits .and .i64 ((IntKind.i64.wrap (v1.1 - (8 : Int))).fdiv (2 ^ (min (1 : Int).toNat (IntKind.bits .i64)))) (1 : Int))).sub (Fl.mk (k := .f32) 1056964608 (by decide)))), (cF ((Fl.ofInt .f32 (bits .and .i64 ((IntKind.i64.wrap (v1.1 - (8 : Int))).fdiv (2 ^ (min (2 : Int).toNat (IntKind.bits .i64)))) (1 : Int))).sub (Fl.mk (k := .f32) 1056964608 (by decide)))), (cF ((Fl.ofInt .f32 (bits .and .i64 ((IntKind.i64.wrap (v1.1 - (8 : Int))).fdiv (2 ^ (min (3 : Int).toNat (IntKind.bits .i64)))) (1 : Int))).sub (Fl.mk (k := .f32) 1056964608 (by decide))))]))]⟩ (Tt ∧ T4 ((0 ≤ (1 : Int)) ∧ T4 ((0 ≤ (2 : Int)) ∧ T4 ((0 ≤ (3 : Int)) ∧ Tt ∧ T4 Tt)))) [] [0, 2] [0, 1] ⟨tr, tr, tr, tr, tr, c13, tr, tr, tr, tr, c14, tr, tr, tr, tr, c15, tr, tr, tr, tr, tr, tr⟩ ?_
    refine AW.ret ?_
    replace h := some_eq h
    subst h
    exact ⟨.inr rfl, retOK_of [(.agg [(cF ((Fl.ofInt .f32 (bits .and .i64 (IntKind.i64.wrap (v1.1 - (8 : Int))) (1 : Int))).sub (Fl.mk (k := .f32) 1056964608 (by decide)))), (cF ((Fl.ofInt .f32 (bits .and .i64 ((IntKind.i64.wrap (v1.1 - (8 : Int))).fdiv (2 ^ (min (1 : Int).toNat (IntKind.bits .i64)))) (1 : Int))).sub (Fl.mk (k := .f32) 1056964608 (by decide)))), (cF ((Fl.ofInt .f32 (bits .and .i64 ((IntKind.i64.wrap (v1.1 - (8 : Int))).fdiv (2 ^ (min (2 : Int).toNat (IntKind.bits .i64)))) (1 : Int))).sub (Fl.mk (k := .f32) 1056964608 (by decide)))), (cF ((Fl.ofInt .f32 (bits .and .i64 ((IntKind.i64.wrap (v1.1 - (8 : Int))).fdiv (2 ^ (min (3 : Int).toNat (IntKind.bits .i64)))) (1 : Int))).sub (Fl.mk (k := .f32) 1056964608 (by decide))))])] (by kernel_rfl) ⟨⟨⟨rfl, tr⟩, ⟨rfl, tr⟩, ⟨rfl, tr⟩, ⟨rfl, tr⟩, tr⟩, tr⟩ (of_decide_eq_true (by kernel_rfl)), by kernel_rfl, ⟨⟨rfl, ⟨⟨rfl, rfl⟩, ⟨rfl, rfl⟩, ⟨rfl, rfl⟩, tr⟩⟩, tr⟩⟩

/-! spec.l01DrawSmall -/
def spec_l01DrawSmall (K : Nat) (a0 : l00Src) : Option (F32 × Int × Int) :=
  (spec_l00Src_pick K a0 (33 : Int)).bind fun v1 => some (((Fl.ofInt .f32 (IntKind.i64.wrap (v1.1 - (16 : Int)))).div (Fl.mk (k := .f32) 1082130432 (by decide))), v1.2.1, v1.2.2)

theorem ok_spec_l01DrawSmall (K : Nat) (a0 : l00Src) (o : (F32 × Int × Int)) (h : spec_l01DrawSmall K a0 = some o) : MutOK Try.prog 35 [(.box 3 (fun j => [true, false, false].getD j true) (fun j => (cs_l00Src a0).getD j .nilptr) (fun j => [.nilptr, (.int .i64 o.2.1), (.int .u64 o.2.2)].getD j .nilptr))] [.one (.flt .f32 o.1.bits)] := by
  refine mutOK_of_AW 1 Try.func35 rfl (by kernel_rfl) (Nat.le_of_ble_eq_true (by kernel_rfl)) (by kernel_rfl) (by kernel_rfl) ?_
  intro w0 K0 v0 s0
  unfold spec_l01DrawSmall at h
  refine AW.weak (s' := ⟨[(0, (vp 0 0))], [(0, (.box [(.fx 0 0 (sl 1 (csI .u8) a0.code)), (cI a0.at_), (.c (.int .u64 a0.seed))]))]⟩) (subUnfx 0 [1, 2] (by kernel_rfl)) ?_
  refine AW.sC (Tt ∧ Tt) [] [0] [0] ⟨tr, tr⟩ ?_
  refine AW.seq ?_
  obtain ⟨v1, e2, h⟩ := bind_some h
  refine AW.tA ⟨[(0, (vp 0 0)), (2, (vc (.flt .f32 ((Fl.ofInt .f32 (IntKind.i64.wrap (v1.1 - (16 : Int)))).div (Fl.mk (k := .f32) 1082130432 (by decide))).bits)))], [(0, (.box [(.fx 0 0 (sl 1 (csI .u8) a0.code)), (cI v1.2.1), (.c (.int .u64 v1.2.2))]))]⟩ (Tt ∧ ((((Eqc (sl 1 (csI .u8) a0.code)) ∧ (eI a0.at_) ∧ (Eqc (.int .u64 a0.seed)) ∧ Tt) ∧ (eI (33 : Int)) ∧ Tt) ∧ MutOK Try.prog 34 [(.box 3 (fun j => [true, false, false].getD j true) (fun j => (cs_l00Src a0).getD j .nilptr) (fun j => [.nilptr, (.int .i64 v1.2.1), (.int .u64 v1.2.2)].getD j .nilptr)), .one (.ro (.int .i64 (33 : Int)))] [.one (.int .i64 v1.1)]) ∧ T4 Tt) [.no, .callM [(.box 3 (fun j => [true, false, false].getD j true) (fun j => (cs_l00Src a0).getD j .nilptr) (fun j => [.nilptr, (.int .i64 v1.2.1), (.int .u64 v1.2.2)].getD j .nilptr)), .one (.ro (.int .i64 (33 : Int)))] [.one (.int .i64 v1.1)] [[.view]] none] [0, 2] [0] ⟨tr, ⟨⟨⟨rfl, rfl, rfl, tr⟩, rfl, tr⟩, ok_spec_l00Src_pick K a0 (33 : Int) v1 e2⟩, tr, tr, tr, tr, tr⟩ ?_
  refine AW.ret ?_
  replace h := some_eq h
  subst h
  exact ⟨.inr rfl, retOK_of [(.one (cF ((Fl.ofInt .f32 (IntKind.i64.wrap (v1.1 - (16 : Int)))).div (Fl.mk (k := .f32) 1082130432 (by decide)))))] (by kernel_rfl) ⟨⟨rfl, tr⟩, tr⟩ (of_decide_eq_true (by kernel_rfl)), by kernel_rfl, ⟨⟨rfl, ⟨⟨rfl, rfl⟩, ⟨rfl, rfl⟩, ⟨rfl, rfl⟩, tr⟩⟩, tr⟩⟩

/-! spec.l02Inner -/
def spec_l02Inner (_K : Nat) (a0 : Turn) (a1 : Turn) : Option (F32) :=
  some ((((a0.W.mul a1.W).add (a0.X.mul a1.X)).add (a0.Y.mul a1.Y)).add (a0.Z.mul a1.Z))

theorem ok_spec_l02Inner (K : Nat) (a0 : Turn) (a1 : Turn) (o : (F32)) (h : spec_l02Inner K a0 a1 = some o) : CallOK Try.prog 51 [.agg (cs_Turn a0), .agg (cs_Turn a1)] [.one (.flt .f32 o.bits)] := by
  refine callOK_of_AW Try.func51 rfl (by kernel_rfl) (Nat.le_of_ble_eq_true (by kernel_rfl)) ?_
  intro w0
  unfold spec_l02Inner at h
  refine AW.sC (Tt ∧ T2 Tt) [.box 1, .box 2] [2, 3] [1, 2] ⟨tr, tr, tr, tr⟩ ?_
  refine AW.sC (T4 (T4 (T4 Tt))) [] [2, 3, 5] [1, 2] ⟨tr, tr, tr, tr, tr, tr, tr, tr, tr, tr, tr, tr, tr⟩ ?_
  refine AW.sC (T4 (T4 Tt)) [] [2, 3, 5] [1, 2] ⟨tr, tr, tr, tr, tr, tr, tr, tr, tr⟩ ?_
  refine AW.sA ⟨[(4, (vc (.flt .f32 ((((a0.W.mul a1.W).add (a0.X.mul a1.X)).add (a0.Y.mul a1.Y)).add (a0.Z.mul a1.Z)).bits)))], []⟩ (T4 (T4 Tt)) [] [4] [] ⟨tr, tr, tr, tr, tr, tr, tr, tr, tr⟩ ?_
  refine AW.ret ?_
  replace h := some_eq h
  subst h
  exact ⟨.inr rfl, retOK_of [(.one (cF ((((a0.W.mul a1.W).add (a0.X.mul a1.X)).add (a0.Y.mul a1.Y)).add (a0.Z.mul a1.Z))))] (by kernel_rfl) ⟨⟨rfl, tr⟩, tr⟩ (of_decide_eq_true (by kernel_rfl))⟩

/-! math.sqrt -/
def math_sqrt (_K : Nat) (a0 : F64) : Option (F64) :=
  some a0.sqrt

theorem ok_math_sqrt (K : Nat) (a0 : F64) (o : F64) (h : math_sqrt K a0 = some o) : CallOK Try.prog 59 [.one (.flt .f64 a0.bits)] [.one (.flt .f64 o.bits)] :=
  hand_sqrt (e := Extern.MathSqrt.sqrt) Try.func59 (by kernel_rfl) (by kernel_rfl) (by kernel_rfl) (by kernel_rfl) (fun _ => rfl) a0 o h

/-! math.Sqrt -/
def math_Sqrt (K : Nat) (a0 : F64) : Option (F64) :=
  (math_sqrt K a0).bind fun v1 => some v1

theorem ok_math_Sqrt (K : Nat) (a0 : F64) (o : (F64)) (h : math_Sqrt K a0 = some o) : CallOK Try.prog 54 [.one (.flt .f64 a0.bits)] [.one (.flt .f64 o.bits)] := by
  refine callOK_of_AW Try.func54 rfl (by kernel_rfl) (Nat.le_of_ble_eq_true (by kernel_rfl)) ?_
  intro w0
  unfold math_Sqrt at h
  refine AW.sC (Tt ∧ Tt) [] [0] [] ⟨tr, tr⟩ ?_
  refine AW.seq ?_
  obtain ⟨v1, e2, h⟩ := bind_some h
  refine AW.tA ⟨[(2, (vc (.flt .f64 v1.bits)))], []⟩ (Tt ∧ (((Eqc (.flt .f64 a0.bits)) ∧ Tt) ∧ CallOK Try.prog 59 [.one (.flt .f64 a0.bits)] [.one (.flt .f64 v1.bits)]) ∧ Tt ∧ Tt) [.no, .call [.one (.flt .f64 a0.bits)] [.one (.flt .f64 v1.bits)] [[.view]]] [2] [] ⟨tr, ⟨⟨rfl, tr⟩, ok_math_sqrt K a0 v1 e2⟩, tr, tr⟩ ?_
  refine AW.ret ?_
  replace h := some_eq h
  subst h
  exact ⟨.inr rfl, retOK_of [(.one (.c (.flt .f64 v1.bits)))] (by kernel_rfl) ⟨⟨rfl, tr⟩, tr⟩ (of_decide_eq_true (by kernel_rfl))⟩

/-! spec.l01Narrow -/
def spec_l01Narrow (_K : Nat) (a0 : F64) : Option (F32) :=
  chk ((convBits .f64 a0.bits .f32).isSome = true) (some (Fl.cv .f64 .f32 a0))

theorem ok_spec_l01Narrow (K : Nat) (a0 : F64) (o : (F32)) (h : spec_l01Narrow K a0 = some o) : CallOK Try.prog 58 [.one (.flt .f64 a0.bits)] [.one (.flt .f32 o.bits)] := by
  refine callOK_of_AW Try.func58 rfl (by kernel_rfl) (Nat.le_of_ble_eq_true (by kernel_rfl)) ?_
  intro w0
  unfold spec_l01Narrow at h
  refine AW.sC (Tt ∧ Tt) [] [0] [] ⟨tr, tr⟩ ?_
  refine AW.seq ?_
  obtain ⟨c1, h⟩ := chk_some h
  refine AW.tA ⟨[(2, (vc (.flt .f32 (Fl.cv .f64 .f32 a0).bits)))], []⟩ (Tt ∧ ((convBits .f64 a0.bits .f32).isSome = true) ∧ Tt ∧ Tt) [] [2] [] ⟨tr, c1, tr, tr⟩ ?_
  refine AW.ret ?_
  replace h := some_eq h
  subst h
  exact ⟨.inr rfl, retOK_of [(.one (cF (Fl.cv .f64 .f32 a0)))] (by kernel_rfl) ⟨⟨rfl, tr⟩, tr⟩ (of_decide_eq_true (by kernel_rfl))⟩

/-! spec.l01Sqrt -/
def spec_l01Sqrt (K : Nat) (a0 : F32) : Option (F32) :=
  (math_Sqrt K (Fl.cv .f32 .f64 a0)).bind fun v1 => (spec_l01Narrow K v1).bind fun v3 => some v3

theorem ok_spec_l01Sqrt (K : Nat) (a0 : F32) (o : (F32)) (h : spec_l01Sqrt K a0 = some o) : CallOK Try.prog 50 [.one (.flt .f32 a0.bits)] [.one (.flt .f32 o.bits)] := by
  refine callOK_of_AW Try.func50 rfl (by kernel_rfl) (Nat.le_of_ble_eq_true (by kernel_rfl)) ?_
  intro w0
  unfold spec_l01Sqrt at h
  refine AW.sC (Tt ∧ Tt) [] [0] [] ⟨tr, tr⟩ ?_
  refine AW.seq ?_
  obtain ⟨v1, e2, h⟩ := bind_some h
  obtain ⟨v3, e4, h⟩ := bind_some h
  refine AW.tA ⟨[(2, (vc (.flt .f32 v3.bits)))], []⟩ (Tt ∧ ((convBits .f32 a0.bits .f64).isSome = true) ∧ (((Eqc (.flt .f64 (Fl.cv .f32 .f64 a0).bits)) ∧ Tt) ∧ CallOK Try.prog 54 [.one (.flt .f64 (Fl.cv .f32 .f64 a0).bits)] [.one (.flt .f64 v1.bits)]) ∧ (((Eqc (.flt .f64 v1.bits)) ∧ Tt) ∧ CallOK Try.prog 58 [.one (.flt .f64 v1.bits)] [.one (.flt .f32 v3.bits)]) ∧ Tt ∧ Tt) [.no, .no, .call [.one (.flt .f64 (Fl.cv .f32 .f64 a0).bits)] [.one (.flt .f64 v1.bits)] [[.view]], .call [.one (.flt .f64 v1.bits)] [.one (.flt .f32 v3.bits)] [[.view]]] [2] [] ⟨tr, cv_wide a0, ⟨⟨rfl, tr⟩, ok_math_Sqrt K (Fl.cv .f32 .f64 a0) v1 e2⟩, ⟨⟨rfl, tr⟩, ok_spec_l01Narrow K v1 v3 e4⟩, tr, tr⟩ ?_
  refine AW.ret ?_
  replace h := some_eq h
  subst h
  exact ⟨.inr rfl, retOK_of [(.one (cF v3))] (by kernel_rfl) ⟨⟨rfl, tr⟩, tr⟩ (of_decide_eq_true (by kernel_rfl))⟩

/-! spec.l01Finite -/
def spec_l01Finite (_K : Nat) (a0 : F32) : Option (Bool) :=
  some ((a0.sub a0).eq (Fl.mk (k := .f32) 0 (by decide)))

theorem ok_spec_l01Finite (K : Nat) (a0 : F32) (o : (Bool)) (h : spec_l01Finite K a0 = some o) : CallOK Try.prog 52 [.one (.flt .f32 a0.bits)] [.one (.bool o)] := by
  refine callOK_of_AW Try.func52 rfl (by kernel_rfl) (Nat.le_of_ble_eq_true (by kernel_rfl)) ?_
  intro w0
  unfold spec_l01Finite at h
  refine AW.sC (Tt ∧ Tt) [] [0] [] ⟨tr, tr⟩ ?_
  refine AW.sA ⟨[(2, (vB ((a0.sub a0).eq (Fl.mk (k := .f32) 0 (by decide)))))], []⟩ (Tt ∧ T4 Tt) [] [2] [] ⟨tr, tr, tr, tr, tr, tr⟩ ?_
  refine AW.ret ?_
  replace h := some_eq h
  subst h
  exact ⟨.inr rfl, retOK_of [(.one (.c (.bool ((a0.sub a0).eq (Fl.mk (k := .f32) 0 (by decide))))))] (by kernel_rfl) ⟨⟨rfl, tr⟩, tr⟩ (of_decide_eq_true (by kernel_rfl))⟩

/-! spec.l02No -/
def spec_l02No (_K : Nat) : Option (Turn) :=
  some (Turn.mk (Fl.mk (k := .f32) 1065353216 (by decide)) (default : F32) (default : F32) (default : F32))

theorem ok_spec_l02No (K : Nat) (o : (Turn)) (h : spec_l02No K  = some o) : CallOK Try.prog 53 [] [.agg (cs_Turn o)] := by
  refine callOK_of_AW Try.func53 rfl (by kernel_rfl) (Nat.le_of_ble_eq_true (by kernel_rfl)) ?_
  intro w0
  unfold spec_l02No at h
  refine AW.sC (Tt ∧ Tt) [.box 1] [0] [1] ⟨tr, tr⟩ ?_
  refine AW.sA ⟨[(0, (vp 1 0))], [(1, (.box [(cF (Fl.mk (k := .f32) 1065353216 (by decide))), (cF (default : F32)), (cF (default : F32)), (cF (default : F32))]))]⟩ (T2 Tt) [] [0] [1] ⟨tr, tr, tr⟩ ?_
  refine AW.ret ?_
  replace h := some_eq h
  subst h
  exact ⟨.inr rfl, retOK_of [(.agg [(cF (Fl.mk (k := .f32) 1065353216 (by decide))), (cF (default : F32)), (cF (default : F32)), (cF (default : F32))])] (by kernel_rfl) ⟨⟨⟨rfl, tr⟩, ⟨rfl, tr⟩, ⟨rfl, tr⟩, ⟨rfl, tr⟩, tr⟩, tr⟩ (of_decide_eq_true (by kernel_rfl))⟩

/-! spec.l02Mend -/
def spec_l02Mend (K : Nat) (a0 : Turn) : Option (Turn) :=
  (spec_l02Inner K a0 a0).bind fun v1 => (spec_l01Sqrt K v1).bind fun v3 => (ite2 ((v3.eq (Fl.mk (k := .f32) 0 (by decide)))) (some true) ((spec_l01Finite K v3).bind fun v6 => some (!v6))).bind fun j8 => ite2 (j8) ((spec_l02No K ).bind fun v11 => some v11) (some (Turn.mk (a0.W.div v3) (a0.X.div v3) (a0.Y.div v3) (a0.Z.div v3)))

theorem ok_spec_l02Mend (K : Nat) (a0 : Turn) (o : (Turn)) (h : spec_l02Mend K a0 = some o) : CallOK Try.prog 39 [.agg (cs_Turn a0)] [.agg (cs_Turn o)] := by
  refine callOK_of_AW Try.func39 rfl (by kernel_rfl) (Nat.le_of_ble_eq_true (by kernel_rfl)) ?_
  intro w0
  unfold spec_l02Mend at h
  refine AW.sC (T2 Tt) [.box 1, .box 2] [1, 2] [1, 2] ⟨tr, tr, tr⟩ ?_
  refine AW.seq ?_
  obtain ⟨v1, e2, h⟩ := bind_some h
  obtain ⟨v3, e4, h⟩ := bind_some h
  refine AW.tA ⟨[(1, (vp 1 0)), (2, (vp 2 0)), (3, (vc (.flt .f32 v3.bits)))], [(1, (.box [(cF a0.W), (cF a0.X), (cF a0.Y), (cF a0.Z)])), (2, (.box [(cF (default : F32)), (cF (default : F32)), (cF (default : F32)), (cF (default : F32))]))]⟩ (T2 (((((eF a0.W) ∧ (eF a0.X) ∧ (eF a0.Y) ∧ (eF a0.Z) ∧ Tt) ∧ ((eF a0.W) ∧ (eF a0.X) ∧ (eF a0.Y) ∧ (eF a0.Z) ∧ Tt) ∧ Tt) ∧ CallOK Try.prog 51 [.agg (cs_Turn a0), .agg (cs_Turn a0)] [.one (.flt .f32 v1.bits)]) ∧ (((eF v1) ∧ Tt) ∧ CallOK Try.prog 50 [.one (.flt .f32 v1.bits)] [.one (.flt .f32 v3.bits)]) ∧ Tt ∧ Tt)) [.no, .no, .call [.agg (cs_Turn a0), .agg (cs_Turn a0)] [.one (.flt .f32 v1.bits)] [[.view]], .call [.one (.flt .f32 v1.bits)] [.one (.flt .f32 v3.bits)] [[.view]]] [1, 2, 3] [1, 2] ⟨tr, tr, ⟨⟨⟨rfl, rfl, rfl, rfl, tr⟩, ⟨rfl, rfl, rfl, rfl, tr⟩, tr⟩, ok_spec_l02Inner K a0 a0 v1 e2⟩, ⟨⟨rfl, tr⟩, ok_spec_l01Sqrt K v1 v3 e4⟩, tr, tr⟩ ?_
  refine AW.seq ?_
  refine AW.seq ?_
  obtain ⟨j8, e9, h⟩ := bind_some h
  refine AW.join1 (s2 := ⟨[(1, (vp 1 0)), (2, (vp 2 0)), (3, (vc (.flt .f32 v3.bits))), (14, (vB j8))], [(1, (.box [(cF a0.W), (cF a0.X), (cF a0.Y), (cF a0.Z)])), (2, (.box [(cF (default : F32)), (cF (default : F32)), (cF (default : F32)), (cF (default : F32))]))]⟩) ?_ ?_
  · rcases ite2_cases e9 with ⟨b5, e9⟩ | ⟨b5, e9⟩
    · replace e9 := some_eq e9
      subst e9
      exact AW.rA ⟨[(1, (vp 1 0)), (2, (vp 2 0)), (3, (vc (.flt .f32 v3.bits))), (14, (vB true))], [(1, (.box [(cF a0.W), (cF a0.X), (cF a0.Y), (cF a0.Z)])), (2, (.box [(cF (default : F32)), (cF (default : F32)), (cF (default : F32)), (cF (default : F32))]))]⟩ (T2 ((Tt ∧ (v3.eq (Fl.mk (k := .f32) 0 (by decide))) = true) ∧ T4 Tt)) [.no, .no, .dec true] [1, 2, 3, 14] [1, 2] ⟨tr, tr, ⟨tr, b5⟩, tr, tr, tr, tr, tr⟩ ⟨rfl, rfl⟩
    · obtain ⟨v6, e7, e9⟩ := bind_some e9
      replace e9 := some_eq e9
      subst e9
      exact AW.rA ⟨[(1, (vp 1 0)), (2, (vp 2 0)), (3, (vc (.flt .f32 v3.bits))), (14, (vB (!v6)))], [(1, (.box [(cF a0.W), (cF a0.X), (cF a0.Y), (cF a0.Z)])), (2, (.box [(cF (default : F32)), (cF (default : F32)), (cF (default : F32)), (cF (default : F32))]))]⟩ (T2 ((Tt ∧ (v3.eq (Fl.mk (k := .f32) 0 (by decide))) = false) ∧ Tt ∧ (((eF v3) ∧ Tt) ∧ CallOK Try.prog 52 [.one (.flt .f32 v3.bits)] [.one (.bool v6)]) ∧ T2 Tt)) [.no, .no, .dec false, .no, .call [.one (.flt .f32 v3.bits)] [.one (.bool v6)] [[.view]]] [1, 2, 3, 14] [1, 2] ⟨tr, tr, ⟨tr, b5⟩, tr, ⟨⟨rfl, tr⟩, ok_spec_l01Finite K v3 v6 e7⟩, tr, tr, tr⟩ ⟨rfl, rfl⟩
  refine thenQ_normal ?_
  rcases ite2_cases h with ⟨b10, h⟩ | ⟨b10, h⟩
  · refine AW.cond_t rfl b10 ?_
    refine AW.seq ?_
    obtain ⟨v11, e12, h⟩ := bind_some h
    refine AW.tA ⟨[(2, (vp 2 0))], [(2, (.box [(cF v11.W), (cF v11.X), (cF v11.Y), (cF v11.Z)]))]⟩ (((Tt) ∧ CallOK Try.prog 53 [] [.agg (cs_Turn v11)]) ∧ Tt ∧ Tt) [.call [] [.agg (cs_Turn v11)] [[.view, .view, .view, .view]]] [2] [2] ⟨⟨tr, ok_spec_l02No K v11 e12⟩, tr, tr⟩ ?_
    refine AW.ret ?_
    refine thenQ_ret ?_
    replace h := some_eq h
    subst h
    exact ⟨.inr rfl, retOK_of [(.agg [(cF v11.W), (cF v11.X), (cF v11.Y), (cF v11.Z)])] (by kernel_rfl) ⟨⟨⟨rfl, tr⟩, ⟨rfl, tr⟩, ⟨rfl, tr⟩, ⟨rfl, tr⟩, tr⟩, tr⟩ (of_decide_eq_true (by kernel_rfl))⟩
  · refine AW.cond_f rfl b10 ?_
    refine AW.skip ?_
    refine thenQ_normal ?_
    refine AW.sA ⟨[(2, (vp 2 0))], [(2, (.box [(cF (a0.W.div v3)), (cF (a0.X.div v3)), (cF (a0.Y.div v3)), (cF (a0.Z.div v3))]))]⟩ (T2 (T4 (T4 (T4 (T4 Tt))))) [] [2] [2] ⟨tr, tr, tr, tr, tr, tr, tr, tr, tr, tr, tr, tr, tr, tr, tr, tr, tr, tr, tr⟩ ?_
    refine AW.ret ?_
    replace h := some_eq h
    subst h
    exact ⟨.inr rfl, retOK_of [(.agg [(cF (a0.W.div v3)), (cF (a0.X.div v3)), (cF (a0.Y.div v3)), (cF (a0.Z.div v3))])] (by kernel_rfl) ⟨⟨⟨rfl, tr⟩, ⟨rfl, tr⟩, ⟨rfl, tr⟩, ⟨rfl, tr⟩, tr⟩, tr⟩ (of_decide_eq_true (by kernel_rfl))⟩

/-! spec.l02DrawTurn -/
def spec_l02DrawTurn (K : Nat) (a0 : l00Src) : Option (Turn × Int × Int) :=
  (spec_l00Src_one K a0 (2 : Int)).bind fun v1 => ite2 (v1.1) ((spec_l02DrawExact K (l00Src.mk a0.code v1.2.1 v1.2.2)).bind fun v4 => some (v4.1, v4.2.1, v4.2.2)) ((spec_l01DrawSmall K (l00Src.mk a0.code v1.2.1 v1.2.2)).bind fun v6 => (spec_l01DrawSmall K (l00Src.mk a0.code v6.2.1 v6.2.2)).bind fun v8 => (spec_l01DrawSmall K (l00Src.mk a0.code v8.2.1 v8.2.2)).bind fun v10 => (spec_l01DrawSmall K (l00Src.mk a0.code v10.2.1 v10.2.2)).bind fun v12 => (spec_l02Mend K (Turn.mk v6.1 v8.1 v10.1 v12.1)).bind fun v14 => some (v14, v12.2.1, v12.2.2))

theorem ok_spec_l02DrawTurn (K : Nat) (a0 : l00Src) (o : (Turn × Int × Int)) (h : spec_l02DrawTurn K a0 = some o) : MutOK Try.prog 18 [(.box 3 (fun j => [true, false, false].getD j true) (fun j => (cs_l00Src a0).getD j .nilptr) (fun j => [.nilptr, (.int .i64 o.2.1), (.int .u64 o.2.2)].getD j .nilptr))] [.agg (cs_Turn o.1)] := by
  refine mutOK_of_AW 1 Try.func18 rfl (by kernel_rfl) (Nat.le_of_ble_eq_true (by kernel_rfl)) (by kernel_rfl) (by kernel_rfl) ?_
  intro w0 K0 v0 s0
  unfold spec_l02DrawTurn at h
  refine AW.weak (s' := ⟨[(0, (vp 0 0))], [(0, (.box [(.fx 0 0 (sl 1 (csI .u8) a0.code)), (cI a0.at_), (.c (.int .u64 a0.seed))]))]⟩) (subUnfx 0 [1, 2] (by kernel_rfl)) ?_
  refine AW.sC (Tt ∧ Tt) [.box 1] [0, 2] [0, 1] ⟨tr, tr⟩ ?_
  refine AW.seq ?_
  refine AW.seq ?_
  obtain ⟨v1, e2, h⟩ := bind_some h
  refine AW.tA ⟨[(0, (vp 0 0)), (2, (vp 1 0)), (5, (vB v1.1))], [(0, (.box [(.fx 0 0 (sl 1 (csI .u8) a0.code)), (cI v1.2.1), (.c (.int .u64 v1.2.2))])), (1, (.box [(cF (default : F32)), (cF (default : F32)), (cF (default : F32)), (cF (default : F32))]))]⟩ (Tt ∧ ((((Eqc (sl 1 (csI .u8) a0.code)) ∧ (eI a0.at_) ∧ (Eqc (.int .u64 a0.seed)) ∧ Tt) ∧ (eI (2 : Int)) ∧ Tt) ∧ MutOK Try.prog 37 [(.box 3 (fun j => [true, false, false].getD j true) (fun j => (cs_l00Src a0).getD j .nilptr) (fun j => [.nilptr, (.int .i64 v1.2.1), (.int .u64 v1.2.2)].getD j .nilptr)), .one (.ro (.int .i64 (2 : Int)))] [.one (.bool v1.1)]) ∧ Tt) [.no, .callM [(.box 3 (fun j => [true, false, false].getD j true) (fun j => (cs_l00Src a0).getD j .nilptr) (fun j => [.nilptr, (.int .i64 v1.2.1), (.int .u64 v1.2.2)].getD j .nilptr)), .one (.ro (.int .i64 (2 : Int)))] [.one (.bool v1.1)] [[.view]] none] [0, 2, 5] [0, 1] ⟨tr, ⟨⟨⟨rfl, rfl, rfl, tr⟩, rfl, tr⟩, ok_spec_l00Src_one K a0 (2 : Int) v1 e2⟩, tr⟩ ?_
  rcases ite2_cases h with ⟨b3, h⟩ | ⟨b3, h⟩
  · refine AW.cond_t rfl b3 ?_
    refine AW.seq ?_
    obtain ⟨v4, e5, h⟩ := bind_some h
    refine AW.tA ⟨[(0, (vp 0 0)), (2, (vp 1 0))], [(0, (.box [(.fx 0 0 (sl 1 (csI .u8) a0.code)), (cI v4.2.1), (.c (.int .u64 v4.2.2))])), (1, (.box [(cF v4.1.W), (cF v4.1.X), (cF v4.1.Y), (cF v4.1.Z)]))]⟩ (Tt ∧ ((((Eqc (sl 1 (csI .u8) a0.code)) ∧ (eI v1.2.1) ∧ (Eqc (.int .u64 v1.2.2)) ∧ Tt) ∧ Tt) ∧ MutOK Try.prog 38 [(.box 3 (fun j => [true, false, false].getD j true) (fun j => (cs_l00Src (l00Src.mk a0.code v1.2.1 v1.2.2)).getD j .nilptr) (fun j => [.nilptr, (.int .i64 v4.2.1), (.int .u64 v4.2.2)].getD j .nilptr))] [.agg (cs_Turn v4.1)]) ∧ Tt ∧ Tt) [.no, .callM [(.box 3 (fun j => [true, false, false].getD j true) (fun j => (cs_l00Src (l00Src.mk a0.code v1.2.1 v1.2.2)).getD j .nilptr) (fun j => [.nilptr, (.int .i64 v4.2.1), (.int .u64 v4.2.2)].getD j .nilptr))] [.agg (cs_Turn v4.1)] [[.view, .view, .view, .view]] none] [0, 2] [0, 1] ⟨tr, ⟨⟨⟨rfl, rfl, rfl, tr⟩, tr⟩, ok_spec_l02DrawExact K (l00Src.mk a0.code v1.2.1 v1.2.2) v4 e5⟩, tr, tr⟩ ?_
    refine AW.ret ?_
    refine thenQ_ret ?_
    replace h := some_eq h
    subst h
    exact ⟨.inr rfl, retOK_of [(.agg [(cF v4.1.W), (cF v4.1.X), (cF v4.1.Y), (cF v4.1.Z)])] (by kernel_rfl) ⟨⟨⟨rfl, tr⟩, ⟨rfl, tr⟩, ⟨rfl, tr⟩, ⟨rfl, tr⟩, tr⟩, tr⟩ (of_decide_eq_true (by kernel_rfl)), by kernel_rfl, ⟨⟨rfl, ⟨⟨rfl, rfl⟩, ⟨rfl, rfl⟩, ⟨rfl, rfl⟩, tr⟩⟩, tr⟩⟩
  · refine AW.cond_f rfl b3 ?_
    refine AW.skip ?_
    refine thenQ_normal ?_
    refine AW.seq ?_
    obtain ⟨v6, e7, h⟩ := bind_some h
    refine AW.tC (Tt ∧ ((((Eqc (sl 1 (csI .u8) a0.code)) ∧ (eI v1.2.1) ∧ (Eqc (.int .u64 v1.2.2)) ∧ Tt) ∧ Tt) ∧ MutOK Try.prog 35 [(.box 3 (fun j => [true, false, false].getD j true) (fun j => (cs_l00Src (l00Src.mk a0.code v1.2.1 v1.2.2)).getD j .nilptr) (fun j => [.nilptr, (.int .i64 v6.2.1), (.int .u64 v6.2.2)].getD j .nilptr))] [.one (.flt .f32 v6.1.bits)]) ∧ Tt ∧ T2 Tt) [.no, .callM [(.box 3 (fun j => [true, false, false].getD j true) (fun j => (cs_l00Src (l00Src.mk a0.code v1.2.1 v1.2.2)).getD j .nilptr) (fun j => [.nilptr, (.int .i64 v6.2.1), (.int .u64 v6.2.2)].getD j .nilptr))] [.one (.flt .f32 v6.1.bits)] [[.view]] none, .no, .box 2] [0, 2, 3] [0, 1, 2] ⟨tr, ⟨⟨⟨rfl, rfl, rfl, tr⟩, tr⟩, ok_spec_l01DrawSmall K (l00Src.mk a0.code v1.2.1 v1.2.2) v6 e7⟩, tr, tr, tr, tr⟩ ?_
    refine AW.seq ?_
    obtain ⟨v8, e9, h⟩ := bind_some h
    refine AW.tC (Tt ∧ ((((Eqc (sl 1 (csI .u8) a0.code)) ∧ (eI v6.2.1) ∧ (Eqc (.int .u64 v6.2.2)) ∧ Tt) ∧ Tt) ∧ MutOK Try.prog 35 [(.box 3 (fun j => [true, false, false].getD j true) (fun j => (cs_l00Src (l00Src.mk a0.code v6.2.1 v6.2.2)).getD j .nilptr) (fun j => [.nilptr, (.int .i64 v8.2.1), (.int .u64 v8.2.2)].getD j .nilptr))] [.one (.flt .f32 v8.1.bits)]) ∧ T2 Tt) [.no, .callM [(.box 3 (fun j => [true, false, false].getD j true) (fun j => (cs_l00Src (l00Src.mk a0.code v6.2.1 v6.2.2)).getD j .nilptr) (fun j => [.nilptr, (.int .i64 v8.2.1), (.int .u64 v8.2.2)].getD j .nilptr))] [.one (.flt .f32 v8.1.bits)] [[.view]] none] [0, 2, 3] [0, 1, 2] ⟨tr, ⟨⟨⟨rfl, rfl, rfl, tr⟩, tr⟩, ok_spec_l01DrawSmall K (l00Src.mk a0.code v6.2.1 v6.2.2) v8 e9⟩, tr, tr, tr⟩ ?_
    refine AW.seq ?_
    obtain ⟨v10, e11, h⟩ := bind_some h
    refine AW.tC (Tt ∧ ((((Eqc (sl 1 (csI .u8) a0.code)) ∧ (eI v8.2.1) ∧ (Eqc (.int .u64 v8.2.2)) ∧ Tt) ∧ Tt) ∧ MutOK Try.prog 35 [(.box 3 (fun j => [true, false, false].getD j true) (fun j => (cs_l00Src (l00Src.mk a0.code v8.2.1 v8.2.2)).getD j .nilptr) (fun j => [.nilptr, (.int .i64 v10.2.1), (.int .u64 v10.2.2)].getD j .nilptr))] [.one (.flt .f32 v10.1.bits)]) ∧ T2 Tt) [.no, .callM [(.box 3 (fun j => [true, false, false].getD j true) (fun j => (cs_l00Src (l00Src.mk a0.code v8.2.1 v8.2.2)).getD j .nilptr) (fun j => [.nilptr, (.int .i64 v10.2.1), (.int .u64 v10.2.2)].getD j .nilptr))] [.one (.flt .f32 v10.1.bits)] [[.view]] none] [0, 2, 3] [0, 1, 2] ⟨tr, ⟨⟨⟨rfl, rfl, rfl, tr⟩, tr⟩, ok_spec_l01DrawSmall K (l00Src.mk a0.code v8.2.1 v8.2.2) v10 e11⟩, tr, tr, tr⟩ ?_
    refine AW.seq ?_
    obtain ⟨v12, e13, h⟩ := bind_some h
    refine AW.tC (Tt ∧ ((((Eqc (sl 1 (csI .u8) a0.code)) ∧ (eI v10.2.1) ∧ (Eqc (.int .u64 v10.2.2)) ∧ Tt) ∧ Tt) ∧ MutOK Try.prog 35 [(.box 3 (fun j => [true, false, false].getD j true) (fun j => (cs_l00Src (l00Src.mk a0.code v10.2.1 v10.2.2)).getD j .nilptr) (fun j => [.nilptr, (.int .i64 v12.2.1), (.int .u64 v12.2.2)].getD j .nilptr))] [.one (.flt .f32 v12.1.bits)]) ∧ T2 Tt) [.no, .callM [(.box 3 (fun j => [true, false, false].getD j true) (fun j => (cs_l00Src (l00Src.mk a0.code v10.2.1 v10.2.2)).getD j .nilptr) (fun j => [.nilptr, (.int .i64 v12.2.1), (.int .u64 v12.2.2)].getD j .nilptr))] [.one (.flt .f32 v12.1.bits)] [[.view]] none] [0, 2, 3] [0, 1, 2] ⟨tr, ⟨⟨⟨rfl, rfl, rfl, tr⟩, tr⟩, ok_spec_l01DrawSmall K (l00Src.mk a0.code v10.2.1 v10.2.2) v12 e13⟩, tr, tr, tr⟩ ?_
    refine AW.seq ?_
    obtain ⟨v14, e15, h⟩ := bind_some h
    refine AW.tA ⟨[(0, (vp 0 0)), (2, (vp 1 0))], [(0, (.box [(.fx 0 0 (sl 1 (csI .u8) a0.code)), (cI v12.2.1), (.c (.int .u64 v12.2.2))])), (1, (.box [(cF v14.W), (cF v14.X), (cF v14.Y), (cF v14.Z)]))]⟩ (Tt ∧ ((((eF v6.1) ∧ (eF v8.1) ∧ (eF v10.1) ∧ (eF v12.1) ∧ Tt) ∧ Tt) ∧ CallOK Try.prog 39 [.agg (cs_Turn (Turn.mk v6.1 v8.1 v10.1 v12.1))] [.agg (cs_Turn v14)]) ∧ Tt ∧ Tt) [.no, .call [.agg (cs_Turn (Turn.mk v6.1 v8.1 v10.1 v12.1))] [.agg (cs_Turn v14)] [[.view, .view, .view, .view]]] [0, 2] [0, 1] ⟨tr, ⟨⟨⟨rfl, rfl, rfl, rfl, tr⟩, tr⟩, ok_spec_l02Mend K (Turn.mk v6.1 v8.1 v10.1 v12.1) v14 e15⟩, tr, tr⟩ ?_
    refine AW.ret ?_
    replace h := some_eq h
    subst h
    exact ⟨.inr rfl, retOK_of [(.agg [(cF v14.W), (cF v14.X), (cF v14.Y), (cF v14.Z)])] (by kernel_rfl) ⟨⟨⟨rfl, tr⟩, ⟨rfl, tr⟩, ⟨rfl, tr⟩, ⟨rfl, tr⟩, tr⟩, tr⟩ (of_decide_eq_true (by kernel_rfl)), by kernel_rfl, ⟨⟨rfl, ⟨⟨rfl, rfl⟩, ⟨rfl, rfl⟩, ⟨rfl, rfl⟩, tr⟩⟩, tr⟩⟩

/-! spec.R8Turn -/
def spec_R8Turn (K : Nat) (a0 : (List Int)) : Option (Turn) :=
  (spec_l02DrawTurn K (l00Src.mk a0 (0 : Int) (0 : Int))).bind fun v1 => some v1.1

theorem ok_spec_R8Turn (K : Nat) (a0 : (List Int)) (o : (Turn)) (h : spec_R8Turn K a0 = some o) : CallOK Try.prog 5 [.one (sl 1 (csI .u8) a0)] [.agg (cs_Turn o)] := by
  refine callOK_of_AW Try.func5 rfl (by kernel_rfl) (Nat.le_of_ble_eq_true (by kernel_rfl)) ?_
  intro w0
  unfold spec_R8Turn at h
  refine AW.sA ⟨[(0, (vc (sl 1 (csI .u8) a0))), (2, (vp 1 0))], [(1, (.box [(cF (default : F32)), (cF (default : F32)), (cF (default : F32)), (cF (default : F32))]))]⟩ (Tt ∧ Tt) [.box 1] [0, 2] [1] ⟨tr, tr⟩ ?_
  refine AW.seq (AW.mkA 1 2 [(.i64, 0), (.u64, 0)] [.no] [] [2, 3] [1, 2] (s' := ⟨[(2, (vp 1 0)), (3, (vp 2 0))], [(1, (.box [(cF (default : F32)), (cF (default : F32)), (cF (default : F32)), (cF (default : F32))])), (2, (.box [(.c (sl 1 (csI .u8) a0)), (cI (0 : Int)), (.c (.int .u64 (0 : Int)))]))]⟩) (ob := (Tt ∧ Tt) ∧ Tt ∧ (Tt ∧ Tt)) (by kernel_rfl) ⟨⟨tr, tr⟩, tr, ⟨tr, tr⟩⟩ mk_spec_l00From (thenQ_normal ?_))
  refine AW.seq ?_
  obtain ⟨v1, e2, h⟩ := bind_some h
  refine AW.tA ⟨[(2, (vp 1 0))], [(1, (.box [(cF v1.1.W), (cF v1.1.X), (cF v1.1.Y), (cF v1.1.Z)]))]⟩ (Tt ∧ ((((Eqc (sl 1 (csI .u8) a0)) ∧ (eI (0 : Int)) ∧ (Eqc (.int .u64 (0 : Int))) ∧ Tt) ∧ Tt) ∧ MutOK Try.prog 18 [(.box 3 (fun j => [true, false, false].getD j true) (fun j => (cs_l00Src (l00Src.mk a0 (0 : Int) (0 : Int))).getD j .nilptr) (fun j => [.nilptr, (.int .i64 v1.2.1), (.int .u64 v1.2.2)].getD j .nilptr))] [.agg (cs_Turn v1.1)]) ∧ Tt ∧ Tt) [.no, .callM [(.box 3 (fun j => [true, false, false].getD j true) (fun j => (cs_l00Src (l00Src.mk a0 (0 : Int) (0 : Int))).getD j .nilptr) (fun j => [.nilptr, (.int .i64 v1.2.1), (.int .u64 v1.2.2)].getD j .nilptr))] [.agg (cs_Turn v1.1)] [[.view, .view, .view, .view]] none] [2] [1] ⟨tr, ⟨⟨⟨rfl, rfl, rfl, tr⟩, tr⟩, ok_spec_l02DrawTurn K (l00Src.mk a0 (0 : Int) (0 : Int)) v1 e2⟩, tr, tr⟩ ?_
  refine AW.ret ?_
  replace h := some_eq h
  subst h
  exact ⟨.inr rfl, retOK_of [(.agg [(cF v1.1.W), (cF v1.1.X), (cF v1.1.Y), (cF v1.1.Z)])] (by kernel_rfl) ⟨⟨⟨rfl, tr⟩, ⟨rfl, tr⟩, ⟨rfl, tr⟩, ⟨rfl, tr⟩, tr⟩, tr⟩ (of_decide_eq_true (by kernel_rfl))⟩

/-! laws.r8At -/
def laws_r8At (_K : Nat) (a0 : (List Int)) (a1 : Int) (a2 : Int) : Option (Int) :=
  (ite2 ((decide (a2 ≤ (1 : Int)))) (some true) (some (decide (a1 ≥ (a0.length : Int))))).bind fun j2 => ite2 (j2) (some (0 : Int)) (chk (0 ≤ a1 ∧ a1 < (a0.length : Int)) (chk (a2 ≠ 0) (some ((IntKind.i64.wrap (a0.getD a1.toNat default)).tmod a2))))

theorem ok_laws_r8At (K : Nat) (a0 : (List Int)) (a1 : Int) (a2 : Int) (o : (Int)) (h : laws_r8At K a0 a1 a2 = some o) : CallOK Try.prog 6 [.one (sl 1 (csI .u8) a0), .one (.int .i64 a1), .one (.int .i64 a2)] [.one (.int .i64 o)] := by
  refine callOK_of_AW Try.func6 rfl (by kernel_rfl) (Nat.le_of_ble_eq_true (by kernel_rfl)) ?_
  intro w0
  unfold laws_r8At at h
  refine AW.sA ⟨[(0, (vc (sl 1 (csI .u8) a0))), (1, (vI a1)), (2, (vI a2))], []⟩ (Tt ∧ Tt) [] [0, 1, 2] [] ⟨tr, tr⟩ ?_
  refine AW.seq ?_
  refine AW.seq ?_
  obtain ⟨j2, e3, h⟩ := bind_some h
  refine AW.join1 (s2 := ⟨[(0, (vc (sl 1 (csI .u8) a0))), (1, (vI a1)), (2, (vI a2)), (14, (vB j2))], []⟩) ?_ ?_
  · rcases ite2_cases e3 with ⟨b1, e3⟩ | ⟨b1, e3⟩
    · replace e3 := some_eq e3
      subst e3
      exact AW.rA ⟨[(0, (vc (sl 1 (csI .u8) a0))), (1, (vI a1)), (2, (vI a2)), (14, (vB true))], []⟩ (T2 ((Tt ∧ (decide (a2 ≤ (1 : Int))) = true) ∧ Tt ∧ T4 Tt)) [.no, .no, .dec true] [0, 1, 2, 14] [] ⟨tr, tr, ⟨tr, b1⟩, tr, tr, tr, tr, tr, tr⟩ ⟨rfl, rfl⟩
    · replace e3 := some_eq e3
      subst e3
      exact AW.rA ⟨[(0, (vc (sl 1 (csI .u8) a0))), (1, (vI a1)), (2, (vI a2)), (14, (vB (decide (a1 ≥ (a0.length : Int)))))], []⟩ (T2 ((Tt ∧ (decide (a2 ≤ (1 : Int))) = false) ∧ Tt ∧ T4 Tt)) [.no, .no, .dec false] [0, 1, 2, 14] [] ⟨tr, tr, ⟨tr, b1⟩, tr, tr, tr, tr, tr, tr⟩ ⟨rfl, rfl⟩
  refine thenQ_normal ?_
  rcases ite2_cases h with ⟨b4, h⟩ | ⟨b4, h⟩
  · refine AW.cond_t rfl b4 ?_
    refine AW.sA ⟨[(6, (vI (0 : Int)))], []⟩ (Tt ∧ Tt) [] [6] [] ⟨tr, tr⟩ ?_
    refine AW.ret ?_
    refine thenQ_ret ?_
    replace h := some_eq h
    subst h
    exact ⟨.inr rfl, retOK_of [(.one (cI (0 : Int)))] (by kernel_rfl) ⟨⟨rfl, tr⟩, tr⟩ (of_decide_eq_true (by kernel_rfl))⟩
  · refine AW.cond_f rfl b4 ?_
    refine AW.skip ?_
    refine thenQ_normal ?_
    refine AW.seq ?_
    obtain ⟨c5, h⟩ := chk_some h
    obtain ⟨c6, h⟩ := chk_some h
    refine AW.tA ⟨[(6, (vI ((IntKind.i64.wrap (a0.getD a1.toNat default)).tmod a2)))], []⟩ (T2 ((0 ≤ a1 ∧ a1 < (a0.length : Int)) ∧ Tt ∧ T2 ((a2 ≠ 0) ∧ Tt ∧ Tt))) [] [6] [] ⟨tr, tr, c5, tr, tr, tr, c6, tr, tr⟩ ?_
    refine AW.ret ?_
    replace h := some_eq h
    subst h
    exact ⟨.inr rfl, retOK_of [(.one (cI ((IntKind.i64.wrap (a0.getD a1.toNat default)).tmod a2)))] (by kernel_rfl) ⟨⟨rfl, tr⟩, tr⟩ (of_decide_eq_true (by kernel_rfl))⟩

/-! (impl.Turn).vector -/
def impl_Turn_vector (_K : Nat) (a0 : Turn) : Option (Vector) :=
  some (Vector.mk a0.X a0.Y a0.Z)

theorem ok_impl_Turn_vector (K : Nat) (a0 : Turn) (o : (Vector)) (h : impl_Turn_vector K a0 = some o) : CallOK Try.prog 22 [.agg (cs_Turn a0)] [.agg (cs_Vector o)] := by
  refine callOK_of_AW Try.func22 rfl (by kernel_rfl) (Nat.le_of_ble_eq_true (by kernel_rfl)) ?_
  intro w0
  unfold impl_Turn_vector at h
  refine AW.sC (T2 Tt) [.box 1, .box 2] [1, 2] [1, 2] ⟨tr, tr, tr⟩ ?_
  refine AW.sA ⟨[(2, (vp 2 0))], [(2, (.box [(cF a0.X), (cF a0.Y), (cF a0.Z)]))]⟩ (T4 (T4 Tt)) [] [2] [2] ⟨tr, tr, tr, tr, tr, tr, tr, tr, tr⟩ ?_
  refine AW.ret ?_
  replace h := some_eq h
  subst h
  exact ⟨.inr rfl, retOK_of [(.agg [(cF a0.X), (cF a0.Y), (cF a0.Z)])] (by kernel_rfl) ⟨⟨⟨rfl, tr⟩, ⟨rfl, tr⟩, ⟨rfl, tr⟩, tr⟩, tr⟩ (of_decide_eq_true (by kernel_rfl))⟩

/-! impl.InnerOf -/
def impl_InnerOf (_K : Nat) (a0 : Vector) (a1 : Vector) : Option (F32) :=
  some (((a0.X.mul a1.X).add (a0.Y.mul a1.Y)).add (a0.Z.mul a1.Z))

theorem ok_impl_InnerOf (K : Nat) (a0 : Vector) (a1 : Vector) (o : (F32)) (h : impl_InnerOf K a0 a1 = some o) : CallOK Try.prog 21 [.agg (cs_Vector a0), .agg (cs_Vector a1)] [.one (.flt .f32 o.bits)] := by
  refine callOK_of_AW Try.func21 rfl (by kernel_rfl) (Nat.le_of_ble_eq_true (by kernel_rfl)) ?_
  intro w0
  unfold impl_InnerOf at h
  refine AW.sC (Tt ∧ T2 Tt) [.box 1, .box 2] [2, 3] [1, 2] ⟨tr, tr, tr, tr⟩ ?_
  refine AW.sA ⟨[(4, (vc (.flt .f32 (((a0.X.mul a1.X).add (a0.Y.mul a1.Y)).add (a0.Z.mul a1.Z)).bits)))], []⟩ (T2 (T4 (T4 (T4 (T4 Tt))))) [] [4] [] ⟨tr, tr, tr, tr, tr, tr, tr, tr, tr, tr, tr, tr, tr, tr, tr, tr, tr, tr, tr⟩ ?_
  refine AW.ret ?_
  replace h := some_eq h
  subst h
  exact ⟨.inr rfl, retOK_of [(.one (cF (((a0.X.mul a1.X).add (a0.Y.mul a1.Y)).add (a0.Z.mul a1.Z))))] (by kernel_rfl) ⟨⟨rfl, tr⟩, tr⟩ (of_decide_eq_true (by kernel_rfl))⟩

/-! impl.RootNumber -/
def impl_RootNumber (K : Nat) (a0 : F32) : Option (F32) :=
  (math_Sqrt K (Fl.cv .f32 .f64 a0)).bind fun v1 => chk ((convBits .f64 v1.bits .f32).isSome = true) (some (Fl.cv .f64 .f32 v1))

theorem ok_impl_RootNumber (K : Nat) (a0 : F32) (o : (F32)) (h : impl_RootNumber K a0 = some o) : CallOK Try.prog 44 [.one (.flt .f32 a0.bits)] [.one (.flt .f32 o.bits)] := by
  refine callOK_of_AW Try.func44 rfl (by kernel_rfl) (Nat.le_of_ble_eq_true (by kernel_rfl)) ?_
  intro w0
  unfold impl_RootNumber at h
  refine AW.sC (Tt ∧ Tt) [] [0] [] ⟨tr, tr⟩ ?_
  refine AW.seq ?_
  obtain ⟨v1, e2, h⟩ := bind_some h
  obtain ⟨c3, h⟩ := chk_some h
  refine AW.tA ⟨[(2, (vc (.flt .f32 (Fl.cv .f64 .f32 v1).bits)))], []⟩ (Tt ∧ ((convBits .f32 a0.bits .f64).isSome = true) ∧ (((Eqc (.flt .f64 (Fl.cv .f32 .f64 a0).bits)) ∧ Tt) ∧ CallOK Try.prog 54 [.one (.flt .f64 (Fl.cv .f32 .f64 a0).bits)] [.one (.flt .f64 v1.bits)]) ∧ ((convBits .f64 v1.bits .f32).isSome = true) ∧ Tt ∧ Tt) [.no, .no, .call [.one (.flt .f64 (Fl.cv .f32 .f64 a0).bits)] [.one (.flt .f64 v1.bits)] [[.view]]] [2] [] ⟨tr, cv_wide a0, ⟨⟨rfl, tr⟩, ok_math_Sqrt K (Fl.cv .f32 .f64 a0) v1 e2⟩, c3, tr, tr⟩ ?_
  refine AW.ret ?_
  replace h := some_eq h
  subst h
  exact ⟨.inr rfl, retOK_of [(.one (cF (Fl.cv .f64 .f32 v1)))] (by kernel_rfl) ⟨⟨rfl, tr⟩, tr⟩ (of_decide_eq_true (by kernel_rfl))⟩

/-! impl.LongOf -/
def impl_LongOf (K : Nat) (a0 : Vector) : Option (F32) :=
  (impl_InnerOf K a0 a0).bind fun v1 => (impl_RootNumber K v1).bind fun v3 => some v3

theorem ok_impl_LongOf (K : Nat) (a0 : Vector) (o : (F32)) (h : impl_LongOf K a0 = some o) : CallOK Try.prog 23 [.agg (cs_Vector a0)] [.one (.flt .f32 o.bits)] := by
  refine callOK_of_AW Try.func23 rfl (by kernel_rfl) (Nat.le_of_ble_eq_true (by kernel_rfl)) ?_
  intro w0
  unfold impl_LongOf at h
  refine AW.sC (T2 Tt) [.box 1] [1] [1] ⟨tr, tr, tr⟩ ?_
  refine AW.seq ?_
  obtain ⟨v1, e2, h⟩ := bind_some h
  obtain ⟨v3, e4, h⟩ := bind_some h
  refine AW.tA ⟨[(2, (vc (.flt .f32 v3.bits)))], []⟩ (T2 (((((eF a0.X) ∧ (eF a0.Y) ∧ (eF a0.Z) ∧ Tt) ∧ ((eF a0.X) ∧ (eF a0.Y) ∧ (eF a0.Z) ∧ Tt) ∧ Tt) ∧ CallOK Try.prog 21 [.agg (cs_Vector a0), .agg (cs_Vector a0)] [.one (.flt .f32 v1.bits)]) ∧ (((eF v1) ∧ Tt) ∧ CallOK Try.prog 44 [.one (.flt .f32 v1.bits)] [.one (.flt .f32 v3.bits)]) ∧ Tt ∧ Tt)) [.no, .no, .call [.agg (cs_Vector a0), .agg (cs_Vector a0)] [.one (.flt .f32 v1.bits)] [[.view]], .call [.one (.flt .f32 v1.bits)] [.one (.flt .f32 v3.bits)] [[.view]]] [2] [] ⟨tr, tr, ⟨⟨⟨rfl, rfl, rfl, tr⟩, ⟨rfl, rfl, rfl, tr⟩, tr⟩, ok_impl_InnerOf K a0 a0 v1 e2⟩, ⟨⟨rfl, tr⟩, ok_impl_RootNumber K v1 v3 e4⟩, tr, tr⟩ ?_
  refine AW.ret ?_
  replace h := some_eq h
  subst h
  exact ⟨.inr rfl, retOK_of [(.one (cF v3))] (by kernel_rfl) ⟨⟨rfl, tr⟩, tr⟩ (of_decide_eq_true (by kernel_rfl))⟩

/-! math.Float64frombits -/
def math_Float64frombits (_K : Nat) (a0 : Int) : Option (F64) :=
  Fl.ofBits .f64 a0

theorem ok_math_Float64frombits (K : Nat) (a0 : Int) (o : F64) (h : math_Float64frombits K a0 = some o) : CallOK Try.prog 55 [.one (.int .u64 a0)] [.one (.flt .f64 o.bits)] :=
  hand_ofBits (e := Extern.MathFloatBits.float64frombits) Try.func55 (by kernel_rfl) (by kernel_rfl) (by kernel_rfl) (by kernel_rfl) (fun _ _ => rfl) a0 o h

/-! math.Abs -/
def math_Abs (_K : Nat) (a0 : F64) : Option (F64) :=
  some a0.abs

theorem ok_math_Abs (K : Nat) (a0 : F64) (o : F64) (h : math_Abs K a0 = some o) : CallOK Try.prog 45 [.one (.flt .f64 a0.bits)] [.one (.flt .f64 o.bits)] := by
  refine callOK_of_AW Try.func45 rfl (by kernel_rfl) (Nat.le_of_ble_eq_true (by kernel_rfl)) ?_
  intro w0
  replace h := some_eq h
  subst h
  refine AW.sA ⟨[(0, (vc (.flt .f64 a0.bits)))], []⟩ (Tt ∧ Tt) [] [0] [] ⟨tr, tr⟩ ?_
  refine AW.seq ?_
  refine AW.rawA (i := .u64) (f := 56) (d := 4) (k := .f64) (c := a0.bits) (s1 := ⟨[(3, (vc (.flt .f64 a0.bits))), (0, (vc (.flt .f64 a0.bits)))], []⟩) (ob := Tt ∧ Tt) 1 [.no] (by kernel_rfl) ⟨tr, tr⟩ (e := Extern.MathFloatBits.float64bits) Try.func56 (by kernel_rfl) (by kernel_rfl) (by kernel_rfl) (by kernel_rfl) (fun _ _ => rfl) ?_
  intro b hb hc
  refine ⟨[.no, .call [.one (.int .u64 (bits .andNot .u64 (b : Int) (9223372036854775808 : Int)))] [.one (.flt .f64 a0.abs.bits)] [[.view]]], ⟨[(2, (vc (.flt .f64 a0.abs.bits))), (6, (vc (.flt .f64 a0.abs.bits))), (5, (vc (.int .u64 (bits .andNot .u64 (b : Int) (9223372036854775808 : Int))))), (4, (vc (.int .u64 (b : Int)))), (3, (vc (.flt .f64 a0.bits))), (0, (vc (.flt .f64 a0.bits)))], []⟩, Tt ∧ (((Eqc (.int .u64 (bits .andNot .u64 (b : Int) (9223372036854775808 : Int)))) ∧ Tt) ∧ CallOK Try.prog 55 [.one (.int .u64 (bits .andNot .u64 (b : Int) (9223372036854775808 : Int)))] [.one (.flt .f64 a0.abs.bits)]) ∧ Tt ∧ Tt, by kernel_rfl, ⟨tr, ⟨⟨rfl, tr⟩, ?_⟩, tr, tr⟩, ?_⟩
  · exact ok_math_Float64frombits K _ a0.abs (by rw [andNot_sign hb]; exact ofBits_abs hb a0 hc)
  · refine thenQ_normal ?_
    refine AW.ret ?_
    exact ⟨.inr rfl, retOK_of [(.one (.c (.flt .f64 a0.abs.bits)))] (by kernel_rfl) ⟨⟨rfl, tr⟩, tr⟩ (of_decide_eq_true (by kernel_rfl))⟩

/-! impl.size -/
def impl_size (K : Nat) (a0 : F32) : Option (F32) :=
  (math_Abs K (Fl.cv .f32 .f64 a0)).bind fun v1 => chk ((convBits .f64 v1.bits .f32).isSome = true) (some (Fl.cv .f64 .f32 v1))

theorem ok_impl_size (K : Nat) (a0 : F32) (o : (F32)) (h : impl_size K a0 = some o) : CallOK Try.prog 24 [.one (.flt .f32 a0.bits)] [.one (.flt .f32 o.bits)] := by
  refine callOK_of_AW Try.func24 rfl (by kernel_rfl) (Nat.le_of_ble_eq_true (by kernel_rfl)) ?_
  intro w0
  unfold impl_size at h
  refine AW.sC (Tt ∧ Tt) [] [0] [] ⟨tr, tr⟩ ?_
  refine AW.seq ?_
  obtain ⟨v1, e2, h⟩ := bind_some h
  obtain ⟨c3, h⟩ := chk_some h
  refine AW.tA ⟨[(2, (vc (.flt .f32 (Fl.cv .f64 .f32 v1).bits)))], []⟩ (Tt ∧ ((convBits .f32 a0.bits .f64).isSome = true) ∧ (((Eqc (.flt .f64 (Fl.cv .f32 .f64 a0).bits)) ∧ Tt) ∧ CallOK Try.prog 45 [.one (.flt .f64 (Fl.cv .f32 .f64 a0).bits)] [.one (.flt .f64 v1.bits)]) ∧ ((convBits .f64 v1.bits .f32).isSome = true) ∧ Tt ∧ Tt) [.no, .no, .call [.one (.flt .f64 (Fl.cv .f32 .f64 a0).bits)] [.one (.flt .f64 v1.bits)] [[.view]]] [2] [] ⟨tr, cv_wide a0, ⟨⟨rfl, tr⟩, ok_math_Abs K (Fl.cv .f32 .f64 a0) v1 e2⟩, c3, tr, tr⟩ ?_
  refine AW.ret ?_
  replace h := some_eq h
  subst h
  exact ⟨.inr rfl, retOK_of [(.one (cF (Fl.cv .f64 .f32 v1)))] (by kernel_rfl) ⟨⟨rfl, tr⟩, tr⟩ (of_decide_eq_true (by kernel_rfl))⟩

/-! impl.IsFinite -/
def impl_IsFinite (_K : Nat) (a0 : F32) : Option (Bool) :=
  some ((a0.sub a0).eq (Fl.mk (k := .f32) 0 (by decide)))

theorem ok_impl_IsFinite (K : Nat) (a0 : F32) (o : (Bool)) (h : impl_IsFinite K a0 = some o) : CallOK Try.prog 41 [.one (.flt .f32 a0.bits)] [.one (.bool o)] := by
  refine callOK_of_AW Try.func41 rfl (by kernel_rfl) (Nat.le_of_ble_eq_true (by kernel_rfl)) ?_
  intro w0
  unfold impl_IsFinite at h
  refine AW.sC (Tt ∧ Tt) [] [0] [] ⟨tr, tr⟩ ?_
  refine AW.sA ⟨[(2, (vB ((a0.sub a0).eq (Fl.mk (k := .f32) 0 (by decide)))))], []⟩ (Tt ∧ T4 Tt) [] [2] [] ⟨tr, tr, tr, tr, tr, tr⟩ ?_
  refine AW.ret ?_
  replace h := some_eq h
  subst h
  exact ⟨.inr rfl, retOK_of [(.one (.c (.bool ((a0.sub a0).eq (Fl.mk (k := .f32) 0 (by decide))))))] (by kernel_rfl) ⟨⟨rfl, tr⟩, tr⟩ (of_decide_eq_true (by kernel_rfl))⟩

/-! math.NaN -/
def math_NaN (K : Nat) : Option (F64) :=
  (math_Float64frombits K (9221120237041090561 : Int)).bind fun v1 => some v1

theorem ok_math_NaN (K : Nat) (o : (F64)) (h : math_NaN K  = some o) : CallOK Try.prog 47 [] [.one (.flt .f64 o.bits)] := by
  refine callOK_of_AW Try.func47 rfl (by kernel_rfl) (Nat.le_of_ble_eq_true (by kernel_rfl)) ?_
  intro w0
  unfold math_NaN at h
  refine AW.sC (Tt ∧ Tt) [] [] [] ⟨tr, tr⟩ ?_
  refine AW.seq ?_
  obtain ⟨v1, e2, h⟩ := bind_some h
  refine AW.tA ⟨[(0, (vc (.flt .f64 v1.bits)))], []⟩ ((((Eqc (.int .u64 (9221120237041090561 : Int))) ∧ Tt) ∧ CallOK Try.prog 55 [.one (.int .u64 (9221120237041090561 : Int))] [.one (.flt .f64 v1.bits)]) ∧ Tt ∧ Tt) [.call [.one (.int .u64 (9221120237041090561 : Int))] [.one (.flt .f64 v1.bits)] [[.view]]] [0] [] ⟨⟨⟨rfl, tr⟩, ok_math_Float64frombits K (9221120237041090561 : Int) v1 e2⟩, tr, tr⟩ ?_
  refine AW.ret ?_
  replace h := some_eq h
  subst h
  exact ⟨.inr rfl, retOK_of [(.one (.c (.flt .f64 v1.bits)))] (by kernel_rfl) ⟨⟨rfl, tr⟩, tr⟩ (of_decide_eq_true (by kernel_rfl))⟩

/-! impl.notNumber -/
def impl_notNumber (K : Nat) : Option (F32) :=
  (math_NaN K ).bind fun v1 => chk ((convBits .f64 v1.bits .f32).isSome = true) (some (Fl.cv .f64 .f32 v1))

theorem ok_impl_notNumber (K : Nat) (o : (F32)) (h : impl_notNumber K  = some o) : CallOK Try.prog 42 [] [.one (.flt .f32 o.bits)] := by
  refine callOK_of_AW Try.func42 rfl (by kernel_rfl) (Nat.le_of_ble_eq_true (by kernel_rfl)) ?_
  intro w0
  unfold impl_notNumber at h
  refine AW.sC (Tt ∧ Tt) [] [] [] ⟨tr, tr⟩ ?_
  refine AW.seq ?_
  obtain ⟨v1, e2, h⟩ := bind_some h
  obtain ⟨c3, h⟩ := chk_some h
  refine AW.tA ⟨[(0, (vc (.flt .f32 (Fl.cv .f64 .f32 v1).bits)))], []⟩ (((Tt) ∧ CallOK Try.prog 47 [] [.one (.flt .f64 v1.bits)]) ∧ ((convBits .f64 v1.bits .f32).isSome = true) ∧ Tt ∧ Tt) [.call [] [.one (.flt .f64 v1.bits)] [[.view]]] [0] [] ⟨⟨tr, ok_math_NaN K v1 e2⟩, c3, tr, tr⟩ ?_
  refine AW.ret ?_
  replace h := some_eq h
  subst h
  exact ⟨.inr rfl, retOK_of [(.one (cF (Fl.cv .f64 .f32 v1)))] (by kernel_rfl) ⟨⟨rfl, tr⟩, tr⟩ (of_decide_eq_true (by kernel_rfl))⟩

/-! impl.wideAngle -/
def impl_wideAngle_l2 (K : Nat) (a0 : F64) (a1 : F64) (v1 : (F64)) (v3 : (F64)) (x8 : F64) : Nat → F64 → Int → Option (F64)
  | 0, _, _ => none
  | k + 1, x15, x16 => ite2 ((decide (x16 ≥ (1 : Int)))) (impl_wideAngle_l2 K a0 a1 v1 v3 x8 k (((Fl.mk (k := .f64) 4607182418800017408 (by decide)).div (Fl.ofInt .f64 x16)).sub ((x8.mul x8).mul x15)) (IntKind.i64.wrap (x16 - (2 : Int)))) (ite2 ((v1.gt v3)) (ite2 ((a1.lt' (Fl.mk (k := .f64) 0 (by decide)))) (ite2 ((a0.lt' (Fl.mk (k := .f64) 0 (by decide)))) (some (((Fl.mk (k := .f64) 4602678819172646912 (by decide)).sub ((Fl.mk (k := .f64) 4598175219545276416 (by decide)).sub (((Fl.mk (k := .f64) 4620693217682128896 (by decide)).mul (x8.mul x15)).div (Fl.mk (k := .f64) 4618760256179416344 (by decide))))).neg)) (some ((Fl.mk (k := .f64) 4602678819172646912 (by decide)).sub ((Fl.mk (k := .f64) 4598175219545276416 (by decide)).sub (((Fl.mk (k := .f64) 4620693217682128896 (by decide)).mul (x8.mul x15)).div (Fl.mk (k := .f64) 4618760256179416344 (by decide))))))) (ite2 ((a0.lt' (Fl.mk (k := .f64) 0 (by decide)))) (some (((Fl.mk (k := .f64) 4598175219545276416 (by decide)).sub (((Fl.mk (k := .f64) 4620693217682128896 (by decide)).mul (x8.mul x15)).div (Fl.mk (k := .f64) 4618760256179416344 (by decide)))).neg)) (some ((Fl.mk (k := .f64) 4598175219545276416 (by decide)).sub (((Fl.mk (k := .f64) 4620693217682128896 (by decide)).mul (x8.mul x15)).div (Fl.mk (k := .f64) 4618760256179416344 (by decide))))))) (ite2 ((a1.lt' (Fl.mk (k := .f64) 0 (by decide)))) (ite2 ((a0.lt' (Fl.mk (k := .f64) 0 (by decide)))) (some (((Fl.mk (k := .f64) 4602678819172646912 (by decide)).sub (((Fl.mk (k := .f64) 4620693217682128896 (by decide)).mul (x8.mul x15)).div (Fl.mk (k := .f64) 4618760256179416344 (by decide)))).neg)) (some ((Fl.mk (k := .f64) 4602678819172646912 (by decide)).sub (((Fl.mk (k := .f64) 4620693217682128896 (by decide)).mul (x8.mul x15)).div (Fl.mk (k := .f64) 4618760256179416344 (by decide)))))) (ite2 ((a0.lt' (Fl.mk (k := .f64) 0 (by decide)))) (some ((((Fl.mk (k := .f64) 4620693217682128896 (by decide)).mul (x8.mul x15)).div (Fl.mk (k := .f64) 4618760256179416344 (by decide))).neg)) (some (((Fl.mk (k := .f64) 4620693217682128896 (by decide)).mul (x8.mul x15)).div (Fl.mk (k := .f64) 4618760256179416344 (by decide)))))))

def impl_wideAngle_l1 (K : Nat) (a0 : F64) (a1 : F64) (v1 : (F64)) (v3 : (F64)) : Nat → F64 → Int → Option (F64)
  | 0, _, _ => none
  | k + 1, x8, x9 => ite2 ((decide (x9 < (3 : Int)))) ((math_Sqrt K ((Fl.mk (k := .f64) 4607182418800017408 (by decide)).add (x8.mul x8))).bind fun v11 => impl_wideAngle_l1 K a0 a1 v1 v3 k (x8.div ((Fl.mk (k := .f64) 4607182418800017408 (by decide)).add v11)) (IntKind.i64.wrap (x9 + (1 : Int)))) (impl_wideAngle_l2 K a0 a1 v1 v3 x8 K (Fl.mk (k := .f64) 0 (by decide)) (15 : Int))

def impl_wideAngle_l4 (K : Nat) (a0 : F64) (a1 : F64) (v1 : (F64)) (v3 : (F64)) (x27 : F64) : Nat → F64 → Int → Option (F64)
  | 0, _, _ => none
  | k + 1, x34, x35 => ite2 ((decide (x35 ≥ (1 : Int)))) (impl_wideAngle_l4 K a0 a1 v1 v3 x27 k (((Fl.mk (k := .f64) 4607182418800017408 (by decide)).div (Fl.ofInt .f64 x35)).sub ((x27.mul x27).mul x34)) (IntKind.i64.wrap (x35 - (2 : Int)))) (ite2 ((v1.gt v3)) (ite2 ((a1.lt' (Fl.mk (k := .f64) 0 (by decide)))) (ite2 ((a0.lt' (Fl.mk (k := .f64) 0 (by decide)))) (some (((Fl.mk (k := .f64) 4602678819172646912 (by decide)).sub ((Fl.mk (k := .f64) 4598175219545276416 (by decide)).sub (((Fl.mk (k := .f64) 4620693217682128896 (by decide)).mul (x27.mul x34)).div (Fl.mk (k := .f64) 4618760256179416344 (by decide))))).neg)) (some ((Fl.mk (k := .f64) 4602678819172646912 (by decide)).sub ((Fl.mk (k := .f64) 4598175219545276416 (by decide)).sub (((Fl.mk (k := .f64) 4620693217682128896 (by decide)).mul (x27.mul x34)).div (Fl.mk (k := .f64) 4618760256179416344 (by decide))))))) (ite2 ((a0.lt' (Fl.mk (k := .f64) 0 (by decide)))) (some (((Fl.mk (k := .f64) 4598175219545276416 (by decide)).sub (((Fl.mk (k := .f64) 4620693217682128896 (by decide)).mul (x27.mul x34)).div (Fl.mk (k := .f64) 4618760256179416344 (by decide)))).neg)) (some ((Fl.mk (k := .f64) 4598175219545276416 (by decide)).sub (((Fl.mk (k := .f64) 4620693217682128896 (by decide)).mul (x27.mul x34)).div (Fl.mk (k := .f64) 4618760256179416344 (by decide))))))) (ite2 ((a1.lt' (Fl.mk (k := .f64) 0 (by decide)))) (ite2 ((a0.lt' (Fl.mk (k := .f64) 0 (by decide)))) (some (((Fl.mk (k := .f64) 4602678819172646912 (by decide)).sub (((Fl.mk (k := .f64) 4620693217682128896 (by decide)).mul (x27.mul x34)).div (Fl.mk (k := .f64) 4618760256179416344 (by decide)))).neg)) (some ((Fl.mk (k := .f64) 4602678819172646912 (by decide)).sub (((Fl.mk (k := .f64) 4620693217682128896 (by decide)).mul (x27.mul x34)).div (Fl.mk (k := .f64) 4618760256179416344 (by decide)))))) (ite2 ((a0.lt' (Fl.mk (k := .f64) 0 (by decide)))) (some ((((Fl.mk (k := .f64) 4620693217682128896 (by decide)).mul (x27.mul x34)).div (Fl.mk (k := .f64) 4618760256179416344 (by decide))).neg)) (some (((Fl.mk (k := .f64) 4620693217682128896 (by decide)).mul (x27.mul x34)).div (Fl.mk (k := .f64) 4618760256179416344 (by decide)))))))

def impl_wideAngle_l3 (K : Nat) (a0 : F64) (a1 : F64) (v1 : (F64)) (v3 : (F64)) : Nat → F64 → Int → Option (F64)
  | 0, _, _ => none
  | k + 1, x27, x28 => ite2 ((decide (x28 < (3 : Int)))) ((math_Sqrt K ((Fl.mk (k := .f64) 4607182418800017408 (by decide)).add (x27.mul x27))).bind fun v30 => impl_wideAngle_l3 K a0 a1 v1 v3 k (x27.div ((Fl.mk (k := .f64) 4607182418800017408 (by decide)).add v30)) (IntKind.i64.wrap (x28 + (1 : Int)))) (impl_wideAngle_l4 K a0 a1 v1 v3 x27 K (Fl.mk (k := .f64) 0 (by decide)) (15 : Int))

def impl_wideAngle (K : Nat) (a0 : F64) (a1 : F64) : Option (F64) :=
  (math_Abs K a0).bind fun v1 => (math_Abs K a1).bind fun v3 => ite2 ((v1.gt v3)) (impl_wideAngle_l1 K a0 a1 v1 v3 K (v3.div v1) (0 : Int)) (impl_wideAngle_l3 K a0 a1 v1 v3 K (v1.div v3) (0 : Int))

theorem ok_impl_wideAngle (K : Nat) (a0 : F64) (a1 : F64) (o : (F64)) (h : impl_wideAngle K a0 a1 = some o) : CallOK Try.prog 43 [.one (.flt .f64 a0.bits), .one (.flt .f64 a1.bits)] [.one (.flt .f64 o.bits)] := by
  refine callOK_of_AW Try.func43 rfl (by kernel_rfl) (Nat.le_of_ble_eq_true (by kernel_rfl)) ?_
  intro w0
  unfold impl_wideAngle at h
  refine AW.sC (Tt ∧ Tt) [] [0, 1] [] ⟨tr, tr⟩ ?_
  refine AW.seq ?_
  obtain ⟨v1, e2, h⟩ := bind_some h
  obtain ⟨v3, e4, h⟩ := bind_some h
  refine AW.tC (Tt ∧ (((Eqc (.flt .f64 a0.bits)) ∧ Tt) ∧ CallOK Try.prog 45 [.one (.flt .f64 a0.bits)] [.one (.flt .f64 v1.bits)]) ∧ Tt ∧ (((Eqc (.flt .f64 a1.bits)) ∧ Tt) ∧ CallOK Try.prog 45 [.one (.flt .f64 a1.bits)] [.one (.flt .f64 v3.bits)]) ∧ T2 Tt) [.no, .call [.one (.flt .f64 a0.bits)] [.one (.flt .f64 v1.bits)] [[.view]], .no, .call [.one (.flt .f64 a1.bits)] [.one (.flt .f64 v3.bits)] [[.view]]] [0, 1, 5, 6] [] ⟨tr, ⟨⟨rfl, tr⟩, ok_math_Abs K a0 v1 e2⟩, tr, ⟨⟨rfl, tr⟩, ok_math_Abs K a1 v3 e4⟩, tr, tr, tr⟩ ?_
  refine AW.sC (T4 Tt) [] [0, 1, 5, 6, 7] [] ⟨tr, tr, tr, tr, tr⟩ ?_
  refine AW.seq ?_
  refine AW.sA ⟨[(0, (vc (.flt .f64 a0.bits))), (1, (vc (.flt .f64 a1.bits))), (5, (vc (.flt .f64 v1.bits))), (6, (vc (.flt .f64 v3.bits))), (7, (vc (.flt .f64 (v1.div v3).bits))), (21, (vB (v1.gt v3)))], []⟩ (Tt ∧ T2 Tt) [] [0, 1, 5, 6, 7, 21] [] ⟨tr, tr, tr, tr⟩ ?_
  rcases ite2_cases h with ⟨b5, h⟩ | ⟨b5, h⟩
  · refine AW.cond_t rfl b5 ?_
    refine AW.tC (T4 Tt) [] [0, 1, 5, 6, 7] [] ⟨tr, tr, tr, tr, tr⟩ ?_
    refine AW.seq ?_
    refine AW.sA ⟨[(0, (vc (.flt .f64 a0.bits))), (1, (vc (.flt .f64 a1.bits))), (5, (vc (.flt .f64 v1.bits))), (6, (vc (.flt .f64 v3.bits))), (7, (vc (.flt .f64 (v3.div v1).bits))), (25, (vI (0 : Int)))], []⟩ (Tt ∧ Tt) [] [0, 1, 5, 6, 7, 25] [] ⟨tr, tr⟩ ?_
    refine AW.block ?_
    refine AW.loopQ (σ := Nat × F64 × Int) (fun p => ⟨[(0, (vc (.flt .f64 a0.bits))), (1, (vc (.flt .f64 a1.bits))), (5, (vc (.flt .f64 v1.bits))), (6, (vc (.flt .f64 v3.bits))), (7, (vc (.flt .f64 p.2.1.bits))), (25, (vI p.2.2))], []⟩) (fun p => impl_wideAngle_l1 K a0 a1 v1 v3 p.1 p.2.1 p.2.2 = some o) (fun p => p.1) (K, (v3.div v1), (0 : Int)) h ?_
    clear h
    rintro ⟨k, x8, x9⟩ h
    replace h : impl_wideAngle_l1 K a0 a1 v1 v3 k x8 x9 = some o := h
    show AW _ _ (⟨[(0, (vc (.flt .f64 a0.bits))), (1, (vc (.flt .f64 a1.bits))), (5, (vc (.flt .f64 v1.bits))), (6, (vc (.flt .f64 v3.bits))), (7, (vc (.flt .f64 x8.bits))), (25, (vI x9))], []⟩ : St) _
    obtain _ | k := k
    · rw [impl_wideAngle_l1] at h; cases h
    rw [impl_wideAngle_l1] at h
    refine AW.sA ⟨[(0, (vc (.flt .f64 a0.bits))), (1, (vc (.flt .f64 a1.bits))), (5, (vc (.flt .f64 v1.bits))), (6, (vc (.flt .f64 v3.bits))), (7, (vc (.flt .f64 x8.bits))), (25, (vI x9)), (26, (vB (decide (x9 < (3 : Int)))))], []⟩ (Tt ∧ Tt) [] [0, 1, 5, 6, 7, 25, 26] [] ⟨tr, tr⟩ ?_
    refine AW.seq ?_
    rcases ite2_cases h with ⟨b10, h⟩ | ⟨b10, h⟩
    · refine AW.cond_t rfl b10 ?_
      refine AW.skip ?_
      refine thenQ_normal ?_
      refine AW.seq ?_
      refine AW.block ?_
      obtain ⟨v11, e12, h⟩ := bind_some h
      refine AW.rA ⟨[(0, (vc (.flt .f64 a0.bits))), (1, (vc (.flt .f64 a1.bits))), (5, (vc (.flt .f64 v1.bits))), (6, (vc (.flt .f64 v3.bits))), (7, (vc (.flt .f64 (x8.div ((Fl.mk (k := .f64) 4607182418800017408 (by decide)).add v11)).bits))), (25, (vI x9))], []⟩ (Tt ∧ T4 ((((Eqc (.flt .f64 ((Fl.mk (k := .f64) 4607182418800017408 (by decide)).add (x8.mul x8)).bits)) ∧ Tt) ∧ CallOK Try.prog 54 [.one (.flt .f64 ((Fl.mk (k := .f64) 4607182418800017408 (by decide)).add (x8.mul x8)).bits)] [.one (.flt .f64 v11.bits)]) ∧ Tt ∧ T2 Tt)) [.no, .no, .no, .no, .no, .call [.one (.flt .f64 ((Fl.mk (k := .f64) 4607182418800017408 (by decide)).add (x8.mul x8)).bits)] [.one (.flt .f64 v11.bits)] [[.view]]] [0, 1, 5, 6, 7, 25] [] ⟨tr, tr, tr, tr, tr, ⟨⟨rfl, tr⟩, ok_math_Sqrt K ((Fl.mk (k := .f64) 4607182418800017408 (by decide)).add (x8.mul x8)) v11 e12⟩, tr, tr, tr, tr⟩ ?_
      refine blockQ_normal ?_
      refine thenQ_normal ?_
      refine AW.rA ⟨[(0, (vc (.flt .f64 a0.bits))), (1, (vc (.flt .f64 a1.bits))), (5, (vc (.flt .f64 v1.bits))), (6, (vc (.flt .f64 v3.bits))), (7, (vc (.flt .f64 (x8.div ((Fl.mk (k := .f64) 4607182418800017408 (by decide)).add v11)).bits))), (25, (vI (IntKind.i64.wrap (x9 + (1 : Int)))))], []⟩ (T2 Tt) [] [0, 1, 5, 6, 7, 25] [] ⟨tr, tr, tr⟩ ?_
      exact loopQ_normal (k, (x8.div ((Fl.mk (k := .f64) 4607182418800017408 (by decide)).add v11)), (IntKind.i64.wrap (x9 + (1 : Int)))) h (Nat.lt_succ_self k) (Sub.keep [0, 1, 5, 6, 7, 25] [] (by kernel_rfl) (by kernel_rfl))
    · refine AW.cond_f rfl b10 ?_
      refine AW.exit ?_
      refine thenQ_exit ?_
      refine loopQ_exit ?_
      refine blockQ_exit ?_
      refine thenQ_normal ?_
      refine AW.sC (T4 Tt) [] [0, 1, 5, 6, 7, 8] [] ⟨tr, tr, tr, tr, tr⟩ ?_
      refine AW.sC (Tt ∧ Tt) [] [0, 1, 5, 6, 7, 8, 9] [] ⟨tr, tr⟩ ?_
      refine AW.seq ?_
      refine AW.sA ⟨[(0, (vc (.flt .f64 a0.bits))), (1, (vc (.flt .f64 a1.bits))), (5, (vc (.flt .f64 v1.bits))), (6, (vc (.flt .f64 v3.bits))), (7, (vc (.flt .f64 x8.bits))), (8, (vc (.flt .f64 (x8.mul x8).bits))), (9, (vc (.flt .f64 (Fl.mk (k := .f64) 0 (by decide)).bits))), (10, (vI (15 : Int)))], []⟩ (Tt ∧ Tt) [] [0, 1, 5, 6, 7, 8, 9, 10] [] ⟨tr, tr⟩ ?_
      refine AW.block ?_
      refine AW.loopQ (σ := Nat × F64 × Int) (fun p => ⟨[(0, (vc (.flt .f64 a0.bits))), (1, (vc (.flt .f64 a1.bits))), (5, (vc (.flt .f64 v1.bits))), (6, (vc (.flt .f64 v3.bits))), (7, (vc (.flt .f64 x8.bits))), (8, (vc (.flt .f64 (x8.mul x8).bits))), (9, (vc (.flt .f64 p.2.1.bits))), (10, (vI p.2.2))], []⟩) (fun p => impl_wideAngle_l2 K a0 a1 v1 v3 x8 p.1 p.2.1 p.2.2 = some o) (fun p => p.1) (K, (Fl.mk (k := .f64) 0 (by decide)), (15 : Int)) h ?_
      clear h
      rintro ⟨k, x15, x16⟩ h
      replace h : impl_wideAngle_l2 K a0 a1 v1 v3 x8 k x15 x16 = some o := h
      show AW _ _ (⟨[(0, (vc (.flt .f64 a0.bits))), (1, (vc (.flt .f64 a1.bits))), (5, (vc (.flt .f64 v1.bits))), (6, (vc (.flt .f64 v3.bits))), (7, (vc (.flt .f64 x8.bits))), (8, (vc (.flt .f64 (x8.mul x8).bits))), (9, (vc (.flt .f64 x15.bits))), (10, (vI x16))], []⟩ : St) _
      obtain _ | k := k
      · rw [impl_wideAngle_l2] at h; cases h
      rw [impl_wideAngle_l2] at h
      refine AW.seq ?_
      refine AW.sA ⟨[(0, (vc (.flt .f64 a0.bits))), (1, (vc (.flt .f64 a1.bits))), (5, (vc (.flt .f64 v1.bits))), (6, (vc (.flt .f64 v3.bits))), (7, (vc (.flt .f64 x8.bits))), (8, (vc (.flt .f64 (x8.mul x8).bits))), (9, (vc (.flt .f64 x15.bits))), (10, (vI x16)), (40, (vB (decide (x16 ≥ (1 : Int)))))], []⟩ (T2 Tt) [] [0, 1, 5, 6, 7, 8, 9, 10, 40] [] ⟨tr, tr, tr⟩ ?_
      rcases ite2_cases h with ⟨b17, h⟩ | ⟨b17, h⟩
      · refine AW.cond_t rfl b17 ?_
        refine AW.skip ?_
        refine thenQ_normal ?_
        refine AW.seq ?_
        refine AW.block ?_
        refine AW.rA ⟨[(0, (vc (.flt .f64 a0.bits))), (1, (vc (.flt .f64 a1.bits))), (5, (vc (.flt .f64 v1.bits))), (6, (vc (.flt .f64 v3.bits))), (7, (vc (.flt .f64 x8.bits))), (8, (vc (.flt .f64 (x8.mul x8).bits))), (9, (vc (.flt .f64 (((Fl.mk (k := .f64) 4607182418800017408 (by decide)).div (Fl.ofInt .f64 x16)).sub ((x8.mul x8).mul x15)).bits))), (10, (vI x16))], []⟩ (T4 (T4 Tt)) [] [0, 1, 5, 6, 7, 8, 9, 10] [] ⟨tr, tr, tr, tr, tr, tr, tr, tr, tr⟩ ?_
        refine blockQ_normal ?_
        refine thenQ_normal ?_
        refine AW.rA ⟨[(0, (vc (.flt .f64 a0.bits))), (1, (vc (.flt .f64 a1.bits))), (5, (vc (.flt .f64 v1.bits))), (6, (vc (.flt .f64 v3.bits))), (7, (vc (.flt .f64 x8.bits))), (8, (vc (.flt .f64 (x8.mul x8).bits))), (9, (vc (.flt .f64 (((Fl.mk (k := .f64) 4607182418800017408 (by decide)).div (Fl.ofInt .f64 x16)).sub ((x8.mul x8).mul x15)).bits))), (10, (vI (IntKind.i64.wrap (x16 - (2 : Int)))))], []⟩ (Tt ∧ T2 Tt) [] [0, 1, 5, 6, 7, 8, 9, 10] [] ⟨tr, tr, tr, tr⟩ ?_
        exact loopQ_normal (k, (((Fl.mk (k := .f64) 4607182418800017408 (by decide)).div (Fl.ofInt .f64 x16)).sub ((x8.mul x8).mul x15)), (IntKind.i64.wrap (x16 - (2 : Int)))) h (Nat.lt_succ_self k) (Sub.keep [0, 1, 5, 6, 7, 8, 9, 10] [] (by kernel_rfl) (by kernel_rfl))
      · refine AW.cond_f rfl b17 ?_
        refine AW.exit ?_
        refine thenQ_exit ?_
        refine loopQ_exit ?_
        refine blockQ_exit ?_
        refine thenQ_normal ?_
        refine AW.sC (T2 (T4 Tt)) [] [0, 1, 5, 6, 11] [] ⟨tr, tr, tr, tr, tr, tr, tr⟩ ?_
        refine AW.seq ?_
        refine AW.sA ⟨[(0, (vc (.flt .f64 a0.bits))), (1, (vc (.flt .f64 a1.bits))), (11, (vc (.flt .f64 (((Fl.mk (k := .f64) 4620693217682128896 (by decide)).mul (x8.mul x15)).div (Fl.mk (k := .f64) 4618760256179416344 (by decide))).bits))), (57, (vB (v1.gt v3)))], []⟩ (Tt ∧ T2 Tt) [] [0, 1, 11, 57] [] ⟨tr, tr, tr, tr⟩ ?_
        rcases ite2_cases h with ⟨b18, h⟩ | ⟨b18, h⟩
        · refine AW.cond_t rfl b18 ?_
          refine AW.tC (Tt ∧ T2 Tt) [] [0, 1, 11] [] ⟨tr, tr, tr, tr⟩ ?_
          refine AW.seq ?_
          refine AW.sA ⟨[(0, (vc (.flt .f64 a0.bits))), (11, (vc (.flt .f64 ((Fl.mk (k := .f64) 4598175219545276416 (by decide)).sub (((Fl.mk (k := .f64) 4620693217682128896 (by decide)).mul (x8.mul x15)).div (Fl.mk (k := .f64) 4618760256179416344 (by decide)))).bits))), (61, (vB (a1.lt' (Fl.mk (k := .f64) 0 (by decide)))))], []⟩ (T2 Tt) [] [0, 11, 61] [] ⟨tr, tr, tr⟩ ?_
          rcases ite2_cases h with ⟨b19, h⟩ | ⟨b19, h⟩
          · refine AW.cond_t rfl b19 ?_
            refine AW.tC (Tt ∧ T2 Tt) [] [0, 11] [] ⟨tr, tr, tr, tr⟩ ?_
            refine AW.seq ?_
            refine AW.sA ⟨[(11, (vc (.flt .f64 ((Fl.mk (k := .f64) 4602678819172646912 (by decide)).sub ((Fl.mk (k := .f64) 4598175219545276416 (by decide)).sub (((Fl.mk (k := .f64) 4620693217682128896 (by decide)).mul (x8.mul x15)).div (Fl.mk (k := .f64) 4618760256179416344 (by decide))))).bits))), (65, (vB (a0.lt' (Fl.mk (k := .f64) 0 (by decide)))))], []⟩ (T2 Tt) [] [11, 65] [] ⟨tr, tr, tr⟩ ?_
            rcases ite2_cases h with ⟨b20, h⟩ | ⟨b20, h⟩
            · refine AW.cond_t rfl b20 ?_
              refine AW.tC (Tt ∧ T2 Tt) [] [11] [] ⟨tr, tr, tr, tr⟩ ?_
              refine AW.sA ⟨[(4, (vc (.flt .f64 (((Fl.mk (k := .f64) 4602678819172646912 (by decide)).sub ((Fl.mk (k := .f64) 4598175219545276416 (by decide)).sub (((Fl.mk (k := .f64) 4620693217682128896 (by decide)).mul (x8.mul x15)).div (Fl.mk (k := .f64) 4618760256179416344 (by decide))))).neg).bits)))], []⟩ (T2 Tt) [] [4] [] ⟨tr, tr, tr⟩ ?_
              refine AW.ret ?_
              replace h := some_eq h
              subst h
              exact ⟨.inr rfl, retOK_of [(.one (.c (.flt .f64 (((Fl.mk (k := .f64) 4602678819172646912 (by decide)).sub ((Fl.mk (k := .f64) 4598175219545276416 (by decide)).sub (((Fl.mk (k := .f64) 4620693217682128896 (by decide)).mul (x8.mul x15)).div (Fl.mk (k := .f64) 4618760256179416344 (by decide))))).neg).bits)))] (by kernel_rfl) ⟨⟨rfl, tr⟩, tr⟩ (of_decide_eq_true (by kernel_rfl))⟩
            · refine AW.cond_f rfl b20 ?_
              refine AW.skip ?_
              refine thenQ_normal ?_
              refine AW.sA ⟨[(4, (vc (.flt .f64 ((Fl.mk (k := .f64) 4602678819172646912 (by decide)).sub ((Fl.mk (k := .f64) 4598175219545276416 (by decide)).sub (((Fl.mk (k := .f64) 4620693217682128896 (by decide)).mul (x8.mul x15)).div (Fl.mk (k := .f64) 4618760256179416344 (by decide))))).bits)))], []⟩ (T2 Tt) [] [4] [] ⟨tr, tr, tr⟩ ?_
              refine AW.ret ?_
              replace h := some_eq h
              subst h
              exact ⟨.inr rfl, retOK_of [(.one (.c (.flt .f64 ((Fl.mk (k := .f64) 4602678819172646912 (by decide)).sub ((Fl.mk (k := .f64) 4598175219545276416 (by decide)).sub (((Fl.mk (k := .f64) 4620693217682128896 (by decide)).mul (x8.mul x15)).div (Fl.mk (k := .f64) 4618760256179416344 (by decide))))).bits)))] (by kernel_rfl) ⟨⟨rfl, tr⟩, tr⟩ (of_decide_eq_true (by kernel_rfl))⟩
          · refine AW.cond_f rfl b19 ?_
            refine AW.skip ?_
            refine thenQ_normal ?_
            refine AW.seq ?_
            refine AW.sA ⟨[(11, (vc (.flt .f64 ((Fl.mk (k := .f64) 4598175219545276416 (by decide)).sub (((Fl.mk (k := .f64) 4620693217682128896 (by decide)).mul (x8.mul x15)).div (Fl.mk (k := .f64) 4618760256179416344 (by decide)))).bits))), (65, (vB (a0.lt' (Fl.mk (k := .f64) 0 (by decide)))))], []⟩ (T2 Tt) [] [11, 65] [] ⟨tr, tr, tr⟩ ?_
            rcases ite2_cases h with ⟨b21, h⟩ | ⟨b21, h⟩
            · refine AW.cond_t rfl b21 ?_
              refine AW.tC (Tt ∧ T2 Tt) [] [11] [] ⟨tr, tr, tr, tr⟩ ?_
              refine AW.sA ⟨[(4, (vc (.flt .f64 (((Fl.mk (k := .f64) 4598175219545276416 (by decide)).sub (((Fl.mk (k := .f64) 4620693217682128896 (by decide)).mul (x8.mul x15)).div (Fl.mk (k := .f64) 4618760256179416344 (by decide)))).neg).bits)))], []⟩ (T2 Tt) [] [4] [] ⟨tr, tr, tr⟩ ?_
              refine AW.ret ?_
              replace h := some_eq h
              subst h
              exact ⟨.inr rfl, retOK_of [(.one (.c (.flt .f64 (((Fl.mk (k := .f64) 4598175219545276416 (by decide)).sub (((Fl.mk (k := .f64) 4620693217682128896 (by decide)).mul (x8.mul x15)).div (Fl.mk (k := .f64) 4618760256179416344 (by decide)))).neg).bits)))] (by kernel_rfl) ⟨⟨rfl, tr⟩, tr⟩ (of_decide_eq_true (by kernel_rfl))⟩
            · refine AW.cond_f rfl b21 ?_
              refine AW.skip ?_
              refine thenQ_normal ?_
              refine AW.sA ⟨[(4, (vc (.flt .f64 ((Fl.mk (k := .f64) 4598175219545276416 (by decide)).sub (((Fl.mk (k := .f64) 4620693217682128896 (by decide)).mul (x8.mul x15)).div (Fl.mk (k := .f64) 4618760256179416344 (by decide)))).bits)))], []⟩ (T2 Tt) [] [4] [] ⟨tr, tr, tr⟩ ?_
              refine AW.ret ?_
              replace h := some_eq h
              subst h
              exact ⟨.inr rfl, retOK_of [(.one (.c (.flt .f64 ((Fl.mk (k := .f64) 4598175219545276416 (by decide)).sub (((Fl.mk (k := .f64) 4620693217682128896 (by decide)).mul (x8.mul x15)).div (Fl.mk (k := .f64) 4618760256179416344 (by decide)))).bits)))] (by kernel_rfl) ⟨⟨rfl, tr⟩, tr⟩ (of_decide_eq_true (by kernel_rfl))⟩
        · refine AW.cond_f rfl b18 ?_
          refine AW.skip ?_
          refine thenQ_normal ?_
          refine AW.seq ?_
          refine AW.sA ⟨[(0, (vc (.flt .f64 a0.bits))), (11, (vc (.flt .f64 (((Fl.mk (k := .f64) 4620693217682128896 (by decide)).mul (x8.mul x15)).div (Fl.mk (k := .f64) 4618760256179416344 (by decide))).bits))), (61, (vB (a1.lt' (Fl.mk (k := .f64) 0 (by decide)))))], []⟩ (T2 Tt) [] [0, 11, 61] [] ⟨tr, tr, tr⟩ ?_
          rcases ite2_cases h with ⟨b22, h⟩ | ⟨b22, h⟩
          · refine AW.cond_t rfl b22 ?_
            refine AW.tC (Tt ∧ T2 Tt) [] [0, 11] [] ⟨tr, tr, tr, tr⟩ ?_
            refine AW.seq ?_
            refine AW.sA ⟨[(11, (vc (.flt .f64 ((Fl.mk (k := .f64) 4602678819172646912 (by decide)).sub (((Fl.mk (k := .f64) 4620693217682128896 (by decide)).mul (x8.mul x15)).div (Fl.mk (k := .f64) 4618760256179416344 (by decide)))).bits))), (65, (vB (a0.lt' (Fl.mk (k := .f64) 0 (by decide)))))], []⟩ (T2 Tt) [] [11, 65] [] ⟨tr, tr, tr⟩ ?_
            rcases ite2_cases h with ⟨b23, h⟩ | ⟨b23, h⟩
            · refine AW.cond_t rfl b23 ?_
              refine AW.tC (Tt ∧ T2 Tt) [] [11] [] ⟨tr, tr, tr, tr⟩ ?_
              refine AW.sA ⟨[(4, (vc (.flt .f64 (((Fl.mk (k := .f64) 4602678819172646912 (by decide)).sub (((Fl.mk (k := .f64) 4620693217682128896 (by decide)).mul (x8.mul x15)).div (Fl.mk (k := .f64) 4618760256179416344 (by decide)))).neg).bits)))], []⟩ (T2 Tt) [] [4] [] ⟨tr, tr, tr⟩ ?_
              refine AW.ret ?_
              replace h := some_eq h
              subst h
              exact ⟨.inr rfl, retOK_of [(.one (.c (.flt .f64 (((Fl.mk (k := .f64) 4602678819172646912 (by decide)).sub (((Fl.mk (k := .f64) 4620693217682128896 (by decide)).mul (x8.mul x15)).div (Fl.mk (k := .f64) 4618760256179416344 (by decide)))).neg).bits)))] (by kernel_rfl) ⟨⟨rfl, tr⟩, tr⟩ (of_decide_eq_true (by kernel_rfl))⟩
            · refine AW.cond_f rfl b23 ?_
              refine AW.skip ?_
              refine thenQ_normal ?_
              refine AW.sA ⟨[(4, (vc (.flt .f64 ((Fl.mk (k := .f64) 4602678819172646912 (by decide)).sub (((Fl.mk (k := .f64) 4620693217682128896 (by decide)).mul (x8.mul x15)).div (Fl.mk (k := .f64) 4618760256179416344 (by decide)))).bits)))], []⟩ (T2 Tt) [] [4] [] ⟨tr, tr, tr⟩ ?_
              refine AW.ret ?_
              replace h := some_eq h
              subst h
              exact ⟨.inr rfl, retOK_of [(.one (.c (.flt .f64 ((Fl.mk (k := .f64) 4602678819172646912 (by decide)).sub (((Fl.mk (k := .f64) 4620693217682128896 (by decide)).mul (x8.mul x15)).div (Fl.mk (k := .f64) 4618760256179416344 (by decide)))).bits)))] (by kernel_rfl) ⟨⟨rfl, tr⟩, tr⟩ (of_decide_eq_true (by kernel_rfl))⟩
          · refine AW.cond_f rfl b22 ?_
            refine AW.skip ?_
            refine thenQ_normal ?_
            refine AW.seq ?_
            refine AW.sA ⟨[(11, (vc (.flt .f64 (((Fl.mk (k := .f64) 4620693217682128896 (by decide)).mul (x8.mul x15)).div (Fl.mk (k := .f64) 4618760256179416344 (by decide))).bits))), (65, (vB (a0.lt' (Fl.mk (k := .f64) 0 (by decide)))))], []⟩ (T2 Tt) [] [11, 65] [] ⟨tr, tr, tr⟩ ?_
            rcases ite2_cases h with ⟨b24, h⟩ | ⟨b24, h⟩
            · refine AW.cond_t rfl b24 ?_
              refine AW.tC (Tt ∧ T2 Tt) [] [11] [] ⟨tr, tr, tr, tr⟩ ?_
              refine AW.sA ⟨[(4, (vc (.flt .f64 ((((Fl.mk (k := .f64) 4620693217682128896 (by decide)).mul (x8.mul x15)).div (Fl.mk (k := .f64) 4618760256179416344 (by decide))).neg).bits)))], []⟩ (T2 Tt) [] [4] [] ⟨tr, tr, tr⟩ ?_
              refine AW.ret ?_
              replace h := some_eq h
              subst h
              exact ⟨.inr rfl, retOK_of [(.one (.c (.flt .f64 ((((Fl.mk (k := .f64) 4620693217682128896 (by decide)).mul (x8.mul x15)).div (Fl.mk (k := .f64) 4618760256179416344 (by decide))).neg).bits)))] (by kernel_rfl) ⟨⟨rfl, tr⟩, tr⟩ (of_decide_eq_true (by kernel_rfl))⟩
            · refine AW.cond_f rfl b24 ?_
              refine AW.skip ?_
              refine thenQ_normal ?_
              refine AW.sA ⟨[(4, (vc (.flt .f64 (((Fl.mk (k := .f64) 4620693217682128896 (by decide)).mul (x8.mul x15)).div (Fl.mk (k := .f64) 4618760256179416344 (by decide))).bits)))], []⟩ (T2 Tt) [] [4] [] ⟨tr, tr, tr⟩ ?_
              refine AW.ret ?_
              replace h := some_eq h
              subst h
              exact ⟨.inr rfl, retOK_of [(.one (.c (.flt .f64 (((Fl.mk (k := .f64) 4620693217682128896 (by decide)).mul (x8.mul x15)).div (Fl.mk (k := .f64) 4618760256179416344 (by decide))).bits)))] (by kernel_rfl) ⟨⟨rfl, tr⟩, tr⟩ (of_decide_eq_true (by kernel_rfl))⟩
  · refine AW.cond_f rfl b5 ?_
    refine AW.skip ?_
    refine thenQ_normal ?_
    refine AW.seq ?_
    refine AW.sA ⟨[(0, (vc (.flt .f64 a0.bits))), (1, (vc (.flt .f64 a1.bits))), (5, (vc (.flt .f64 v1.bits))), (6, (vc (.flt .f64 v3.bits))), (7, (vc (.flt .f64 (v1.div v3).bits))), (25, (vI (0 : Int)))], []⟩ (Tt ∧ Tt) [] [0, 1, 5, 6, 7, 25] [] ⟨tr, tr⟩ ?_
    refine AW.block ?_
    refine AW.loopQ (σ := Nat × F64 × Int) (fun p => ⟨[(0, (vc (.flt .f64 a0.bits))), (1, (vc (.flt .f64 a1.bits))), (5, (vc (.flt .f64 v1.bits))), (6, (vc (.flt .f64 v3.bits))), (7, (vc (.flt .f64 p.2.1.bits))), (25, (vI p.2.2))], []⟩) (fun p => impl_wideAngle_l3 K a0 a1 v1 v3 p.1 p.2.1 p.2.2 = some o) (fun p => p.1) (K, (v1.div v3), (0 : Int)) h ?_
    clear h
    rintro ⟨k, x27, x28⟩ h
    replace h : impl_wideAngle_l3 K a0 a1 v1 v3 k x27 x28 = some o := h
    show AW _ _ (⟨[(0, (vc (.flt .f64 a0.bits))), (1, (vc (.flt .f64 a1.bits))), (5, (vc (.flt .f64 v1.bits))), (6, (vc (.flt .f64 v3.bits))), (7, (vc (.flt .f64 x27.bits))), (25, (vI x28))], []⟩ : St) _
    obtain _ | k := k
    · rw [impl_wideAngle_l3] at h; cases h
    rw [impl_wideAngle_l3] at h
    refine AW.sA ⟨[(0, (vc (.flt .f64 a0.bits))), (1, (vc (.flt .f64 a1.bits))), (5, (vc (.flt .f64 v1.bits))), (6, (vc (.flt .f64 v3.bits))), (7, (vc (.flt .f64 x27.bits))), (25, (vI x28)), (26, (vB (decide (x28 < (3 : Int)))))], []⟩ (Tt ∧ Tt) [] [0, 1, 5, 6, 7, 25, 26] [] ⟨tr, tr⟩ ?_
    refine AW.seq ?_
    rcases ite2_cases h with ⟨b29, h⟩ | ⟨b29, h⟩
    · refine AW.cond_t rfl b29 ?_
      refine AW.skip ?_
      refine thenQ_normal ?_
      refine AW.seq ?_
      refine AW.block ?_
      obtain ⟨v30, e31, h⟩ := bind_some h
      refine AW.rA ⟨[(0, (vc (.flt .f64 a0.bits))), (1, (vc (.flt .f64 a1.bits))), (5, (vc (.flt .f64 v1.bits))), (6, (vc (.flt .f64 v3.bits))), (7, (vc (.flt .f64 (x27.div ((Fl.mk (k := .f64) 4607182418800017408 (by decide)).add v30)).bits))), (25, (vI x28))], []⟩ (Tt ∧ T4 ((((Eqc (.flt .f64 ((Fl.mk (k := .f64) 4607182418800017408 (by decide)).add (x27.mul x27)).bits)) ∧ Tt) ∧ CallOK Try.prog 54 [.one (.flt .f64 ((Fl.mk (k := .f64) 4607182418800017408 (by decide)).add (x27.mul x27)).bits)] [.one (.flt .f64 v30.bits)]) ∧ Tt ∧ T2 Tt)) [.no, .no, .no, .no, .no, .call [.one (.flt .f64 ((Fl.mk (k := .f64) 4607182418800017408 (by decide)).add (x27.mul x27)).bits)] [.one (.flt .f64 v30.bits)] [[.view]]] [0, 1, 5, 6, 7, 25] [] ⟨tr, tr, tr, tr, tr, ⟨⟨rfl, tr⟩, ok_math_Sqrt K ((Fl.mk (k := .f64) 4607182418800017408 (by decide)).add (x27.mul x27)) v30 e31⟩, tr, tr, tr, tr⟩ ?_
      refine blockQ_normal ?_
      refine thenQ_normal ?_
      refine AW.rA ⟨[(0, (vc (.flt .f64 a0.bits))), (1, (vc (.flt .f64 a1.bits))), (5, (vc (.flt .f64 v1.bits))), (6, (vc (.flt .f64 v3.bits))), (7, (vc (.flt .f64 (x27.div ((Fl.mk (k := .f64) 4607182418800017408 (by decide)).add v30)).bits))), (25, (vI (IntKind.i64.wrap (x28 + (1 : Int)))))], []⟩ (T2 Tt) [] [0, 1, 5, 6, 7, 25] [] ⟨tr, tr, tr⟩ ?_
      exact loopQ_normal (k, (x27.div ((Fl.mk (k := .f64) 4607182418800017408 (by decide)).add v30)), (IntKind.i64.wrap (x28 + (1 : Int)))) h (Nat.lt_succ_self k) (Sub.keep [0, 1, 5, 6, 7, 25] [] (by kernel_rfl) (by kernel_rfl))
    · refine AW.cond_f rfl b29 ?_
      refine AW.exit ?_
      refine thenQ_exit ?_
      refine loopQ_exit ?_
      refine blockQ_exit ?_
      refine thenQ_normal ?_
      refine AW.sC (T4 Tt) [] [0, 1, 5, 6, 7, 8] [] ⟨tr, tr, tr, tr, tr⟩ ?_
      refine AW.sC (Tt ∧ Tt) [] [0, 1, 5, 6, 7, 8, 9] [] ⟨tr, tr⟩ ?_
      refine AW.seq ?_
      refine AW.sA ⟨[(0, (vc (.flt .f64 a0.bits))), (1, (vc (.flt .f64 a1.bits))), (5, (vc (.flt .f64 v1.bits))), (6, (vc (.flt .f64 v3.bits))), (7, (vc (.flt .f64 x27.bits))), (8, (vc (.flt .f64 (x27.mul x27).bits))), (9, (vc (.flt .f64 (Fl.mk (k := .f64) 0 (by decide)).bits))), (10, (vI (15 : Int)))], []⟩ (Tt ∧ Tt) [] [0, 1, 5, 6, 7, 8, 9, 10] [] ⟨tr, tr⟩ ?_
      refine AW.block ?_
      refine AW.loopQ (σ := Nat × F64 × Int) (fun p => ⟨[(0, (vc (.flt .f64 a0.bits))), (1, (vc (.flt .f64 a1.bits))), (5, (vc (.flt .f64 v1.bits))), (6, (vc (.flt .f64 v3.bits))), (7, (vc (.flt .f64 x27.bits))), (8, (vc (.flt .f64 (x27.mul x27).bits))), (9, (vc (.flt .f64 p.2.1.bits))), (10, (vI p.2.2))], []⟩) (fun p => impl_wideAngle_l4 K a0 a1 v1 v3 x27 p.1 p.2.1 p.2.2 = some o) (fun p => p.1) (K, (Fl.mk (k := .f64) 0 (by decide)), (15 : Int)) h ?_
      clear h
      rintro ⟨k, x34, x35⟩ h
      replace h : impl_wideAngle_l4 K a0 a1 v1 v3 x27 k x34 x35 = some o := h
      show AW _ _ (⟨[(0, (vc (.flt .f64 a0.bits))), (1, (vc (.flt .f64 a1.bits))), (5, (vc (.flt .f64 v1.bits))), (6, (vc (.flt .f64 v3.bits))), (7, (vc (.flt .f64 x27.bits))), (8, (vc (.flt .f64 (x27.mul x27).bits))), (9, (vc (.flt .f64 x34.bits))), (10, (vI x35))], []⟩ : St) _
      obtain _ | k := k
      · rw [impl_wideAngle_l4] at h; cases h
      rw [impl_wideAngle_l4] at h
      refine AW.seq ?_
      refine AW.sA ⟨[(0, (vc (.flt .f64 a0.bits))), (1, (vc (.flt .f64 a1.bits))), (5, (vc (.flt .f64 v1.bits))), (6, (vc (.flt .f64 v3.bits))), (7, (vc (.flt .f64 x27.bits))), (8, (vc (.flt .f64 (x27.mul x27).bits))), (9, (vc (.flt .f64 x34.bits))), (10, (vI x35)), (40, (vB (decide (x35 ≥ (1 : Int)))))], []⟩ (T2 Tt) [] [0, 1, 5, 6, 7, 8, 9, 10, 40] [] ⟨tr, tr, tr⟩ ?_
      rcases ite2_cases h with ⟨b36, h⟩ | ⟨b36, h⟩
      · refine AW.cond_t rfl b36 ?_
        refine AW.skip ?_
        refine thenQ_normal ?_
        refine AW.seq ?_
        refine AW.block ?_
        refine AW.rA ⟨[(0, (vc (.flt .f64 a0.bits))), (1, (vc (.flt .f64 a1.bits))), (5, (vc (.flt .f64 v1.bits))), (6, (vc (.flt .f64 v3.bits))), (7, (vc (.flt .f64 x27.bits))), (8, (vc (.flt .f64 (x27.mul x27).bits))), (9, (vc (.flt .f64 (((Fl.mk (k := .f64) 4607182418800017408 (by decide)).div (Fl.ofInt .f64 x35)).sub ((x27.mul x27).mul x34)).bits))), (10, (vI x35))], []⟩ (T4 (T4 Tt)) [] [0, 1, 5, 6, 7, 8, 9, 10] [] ⟨tr, tr, tr, tr, tr, tr, tr, tr, tr⟩ ?_
        refine blockQ_normal ?_
        refine thenQ_normal ?_
        refine AW.rA ⟨[(0, (vc (.flt .f64 a0.bits))), (1, (vc (.flt .f64 a1.bits))), (5, (vc (.flt .f64 v1.bits))), (6, (vc (.flt .f64 v3.bits))), (7, (vc (.flt .f64 x27.bits))), (8, (vc (.flt .f64 (x27.mul x27).bits))), (9, (vc (.flt .f64 (((Fl.mk (k := .f64) 4607182418800017408 (by decide)).div (Fl.ofInt .f64 x35)).sub ((x27.mul x27).mul x34)).bits))), (10, (vI (IntKind.i64.wrap (x35 - (2 : Int)))))], []⟩ (Tt ∧ T2 Tt) [] [0, 1, 5, 6, 7, 8, 9, 10] [] ⟨tr, tr, tr, tr⟩ ?_
        exact loopQ_normal (k, (((Fl.mk (k := .f64) 4607182418800017408 (by decide)).div (Fl.ofInt .f64 x35)).sub ((x27.mul x27).mul x34)), (IntKind.i64.wrap (x35 - (2 : Int)))) h (Nat.lt_succ_self k) (Sub.keep [0, 1, 5, 6, 7, 8, 9, 10] [] (by kernel_rfl) (by kernel_rfl))
      · refine AW.cond_f rfl b36 ?_
        refine AW.exit ?_
        refine thenQ_exit ?_
        refine loopQ_exit ?_
        refine blockQ_exit ?_
        refine thenQ_normal ?_
        refine AW.sC (T2 (T4 Tt)) [] [0, 1, 5, 6, 11] [] ⟨tr, tr, tr, tr, tr, tr, tr⟩ ?_
        refine AW.seq ?_
        refine AW.sA ⟨[(0, (vc (.flt .f64 a0.bits))), (1, (vc (.flt .f64 a1.bits))), (11, (vc (.flt .f64 (((Fl.mk (k := .f64) 4620693217682128896 (by decide)).mul (x27.mul x34)).div (Fl.mk (k := .f64) 4618760256179416344 (by decide))).bits))), (57, (vB (v1.gt v3)))], []⟩ (Tt ∧ T2 Tt) [] [0, 1, 11, 57] [] ⟨tr, tr, tr, tr⟩ ?_
        rcases ite2_cases h with ⟨b37, h⟩ | ⟨b37, h⟩
        · refine AW.cond_t rfl b37 ?_
          refine AW.tC (Tt ∧ T2 Tt) [] [0, 1, 11] [] ⟨tr, tr, tr, tr⟩ ?_
          refine AW.seq ?_
          refine AW.sA ⟨[(0, (vc (.flt .f64 a0.bits))), (11, (vc (.flt .f64 ((Fl.mk (k := .f64) 4598175219545276416 (by decide)).sub (((Fl.mk (k := .f64) 4620693217682128896 (by decide)).mul (x27.mul x34)).div (Fl.mk (k := .f64) 4618760256179416344 (by decide)))).bits))), (61, (vB (a1.lt' (Fl.mk (k := .f64) 0 (by decide)))))], []⟩ (T2 Tt) [] [0, 11, 61] [] ⟨tr, tr, tr⟩ ?_
          rcases ite2_cases h with ⟨b38, h⟩ | ⟨b38, h⟩
          · refine AW.cond_t rfl b38 ?_
            refine AW.tC (Tt ∧ T2 Tt) [] [0, 11] [] ⟨tr, tr, tr, tr⟩ ?_
            refine AW.seq ?_
            refine AW.sA ⟨[(11, (vc (.flt .f64 ((Fl.mk (k := .f64) 4602678819172646912 (by decide)).sub ((Fl.mk (k := .f64) 4598175219545276416 (by decide)).sub (((Fl.mk (k := .f64) 4620693217682128896 (by decide)).mul (x27.mul x34)).div (Fl.mk (k := .f64) 4618760256179416344 (by decide))))).bits))), (65, (vB (a0.lt' (Fl.mk (k := .f64) 0 (by decide)))))], []⟩ (T2 Tt) [] [11, 65] [] ⟨tr, tr, tr⟩ ?_
            rcases ite2_cases h with ⟨b39, h⟩ | ⟨b39, h⟩
            · refine AW.cond_t rfl b39 ?_
              refine AW.tC (Tt ∧ T2 Tt) [] [11] [] ⟨tr, tr, tr, tr⟩ ?_
              refine AW.sA ⟨[(4, (vc (.flt .f64 (((Fl.mk (k := .f64) 4602678819172646912 (by decide)).sub ((Fl.mk (k := .f64) 4598175219545276416 (by decide)).sub (((Fl.mk (k := .f64) 4620693217682128896 (by decide)).mul (x27.mul x34)).div (Fl.mk (k := .f64) 4618760256179416344 (by decide))))).neg).bits)))], []⟩ (T2 Tt) [] [4] [] ⟨tr, tr, tr⟩ ?_
              refine AW.ret ?_
              replace h := some_eq h
              subst h
              exact ⟨.inr rfl, retOK_of [(.one (.c (.flt .f64 (((Fl.mk (k := .f64) 4602678819172646912 (by decide)).sub ((Fl.mk (k := .f64) 4598175219545276416 (by decide)).sub (((Fl.mk (k := .f64) 4620693217682128896 (by decide)).mul (x27.mul x34)).div (Fl.mk (k := .f64) 4618760256179416344 (by decide))))).neg).bits)))] (by kernel_rfl) ⟨⟨rfl, tr⟩, tr⟩ (of_decide_eq_true (by kernel_rfl))⟩
            · refine AW.cond_f rfl b39 ?_
              refine AW.skip ?_
              refine thenQ_normal ?_
              refine AW.sA ⟨[(4, (vc (.flt .f64 ((Fl.mk (k := .f64) 4602678819172646912 (by decide)).sub ((Fl.mk (k := .f64) 4598175219545276416 (by decide)).sub (((Fl.mk (k := .f64) 4620693217682128896 (by decide)).mul (x27.mul x34)).div (Fl.mk (k := .f64) 4618760256179416344 (by decide))))).bits)))], []⟩ (T2 Tt) [] [4] [] ⟨tr, tr, tr⟩ ?_
              refine AW.ret ?_
              replace h := some_eq h
              subst h
              exact ⟨.inr rfl, retOK_of [(.one (.c (.flt .f64 ((Fl.mk (k := .f64) 4602678819172646912 (by decide)).sub ((Fl.mk (k := .f64) 4598175219545276416 (by decide)).sub (((Fl.mk (k := .f64) 4620693217682128896 (by decide)).mul (x27.mul x34)).div (Fl.mk (k := .f64) 4618760256179416344 (by decide))))).bits)))] (by kernel_rfl) ⟨⟨rfl, tr⟩, tr⟩ (of_decide_eq_true (by kernel_rfl))⟩
          · refine AW.cond_f rfl b38 ?_
            refine AW.skip ?_
            refine thenQ_normal ?_
            refine AW.seq ?_
            refine AW.sA ⟨[(11, (vc (.flt .f64 ((Fl.mk (k := .f64) 4598175219545276416 (by decide)).sub (((Fl.mk (k := .f64) 4620693217682128896 (by decide)).mul (x27.mul x34)).div (Fl.mk (k := .f64) 4618760256179416344 (by decide)))).bits))), (65, (vB (a0.lt' (Fl.mk (k := .f64) 0 (by decide)))))], []⟩ (T2 Tt) [] [11, 65] [] ⟨tr, tr, tr⟩ ?_
            rcases ite2_cases h with ⟨b40, h⟩ | ⟨b40, h⟩
            · refine AW.cond_t rfl b40 ?_
              refine AW.tC (Tt ∧ T2 Tt) [] [11] [] ⟨tr, tr, tr, tr⟩ ?_
              refine AW.sA ⟨[(4, (vc (.flt .f64 (((Fl.mk (k := .f64) 4598175219545276416 (by decide)).sub (((Fl.mk (k := .f64) 4620693217682128896 (by decide)).mul (x27.mul x34)).div (Fl.mk (k := .f64) 4618760256179416344 (by decide)))).neg).bits)))], []⟩ (T2 Tt) [] [4] [] ⟨tr, tr, tr⟩ ?_
              refine AW.ret ?_
              replace h := some_eq h
              subst h
              exact ⟨.inr rfl, retOK_of [(.one (.c (.flt .f64 (((Fl.mk (k := .f64) 4598175219545276416 (by decide)).sub (((Fl.mk (k := .f64) 4620693217682128896 (by decide)).mul (x27.mul x34)).div (Fl.mk (k := .f64) 4618760256179416344 (by decide)))).neg).bits)))] (by kernel_rfl) ⟨⟨rfl, tr⟩, tr⟩ (of_decide_eq_true (by kernel_rfl))⟩
            · refine AW.cond_f rfl b40 ?_
              refine AW.skip ?_
              refine thenQ_normal ?_
              refine AW.sA ⟨[(4, (vc (.flt .f64 ((Fl.mk (k := .f64) 4598175219545276416 (by decide)).sub (((Fl.mk (k := .f64) 4620693217682128896 (by decide)).mul (x27.mul x34)).div (Fl.mk (k := .f64) 4618760256179416344 (by decide)))).bits)))], []⟩ (T2 Tt) [] [4] [] ⟨tr, tr, tr⟩ ?_
              refine AW.ret ?_
              replace h := some_eq h
              subst h
              exact ⟨.inr rfl, retOK_of [(.one (.c (.flt .f64 ((Fl.mk (k := .f64) 4598175219545276416 (by decide)).sub (((Fl.mk (k := .f64) 4620693217682128896 (by decide)).mul (x27.mul x34)).div (Fl.mk (k := .f64) 4618760256179416344 (by decide)))).bits)))] (by kernel_rfl) ⟨⟨rfl, tr⟩, tr⟩ (of_decide_eq_true (by kernel_rfl))⟩
        · refine AW.cond_f rfl b37 ?_
          refine AW.skip ?_
          refine thenQ_normal ?_
          refine AW.seq ?_
          refine AW.sA ⟨[(0, (vc (.flt .f64 a0.bits))), (11, (vc (.flt .f64 (((Fl.mk (k := .f64) 4620693217682128896 (by decide)).mul (x27.mul x34)).div (Fl.mk (k := .f64) 4618760256179416344 (by decide))).bits))), (61, (vB (a1.lt' (Fl.mk (k := .f64) 0 (by decide)))))], []⟩ (T2 Tt) [] [0, 11, 61] [] ⟨tr, tr, tr⟩ ?_
          rcases ite2_cases h with ⟨b41, h⟩ | ⟨b41, h⟩
          · refine AW.cond_t rfl b41 ?_
            refine AW.tC (Tt ∧ T2 Tt) [] [0, 11] [] ⟨tr, tr, tr, tr⟩ ?_
            refine AW.seq ?_
            refine AW.sA ⟨[(11, (vc (.flt .f64 ((Fl.mk (k := .f64) 4602678819172646912 (by decide)).sub (((Fl.mk (k := .f64) 4620693217682128896 (by decide)).mul (x27.mul x34)).div (Fl.mk (k := .f64) 4618760256179416344 (by decide)))).bits))), (65, (vB (a0.lt' (Fl.mk (k := .f64) 0 (by decide)))))], []⟩ (T2 Tt) [] [11, 65] [] ⟨tr, tr, tr⟩ ?_
            rcases ite2_cases h with ⟨b42, h⟩ | ⟨b42, h⟩
            · refine AW.cond_t rfl b42 ?_
              refine AW.tC (Tt ∧ T2 Tt) [] [11] [] ⟨tr, tr, tr, tr⟩ ?_
              refine AW.sA ⟨[(4, (vc (.flt .f64 (((Fl.mk (k := .f64) 4602678819172646912 (by decide)).sub (((Fl.mk (k := .f64) 4620693217682128896 (by decide)).mul (x27.mul x34)).div (Fl.mk (k := .f64) 4618760256179416344 (by decide)))).neg).bits)))], []⟩ (T2 Tt) [] [4] [] ⟨tr, tr, tr⟩ ?_
              refine AW.ret ?_
              replace h := some_eq h
              subst h
              exact ⟨.inr rfl, retOK_of [(.one (.c (.flt .f64 (((Fl.mk (k := .f64) 4602678819172646912 (by decide)).sub (((Fl.mk (k := .f64) 4620693217682128896 (by decide)).mul (x27.mul x34)).div (Fl.mk (k := .f64) 4618760256179416344 (by decide)))).neg).bits)))] (by kernel_rfl) ⟨⟨rfl, tr⟩, tr⟩ (of_decide_eq_true (by kernel_rfl))⟩
            · refine AW.cond_f rfl b42 ?_
              refine AW.skip ?_
              refine thenQ_normal ?_
              refine AW.sA ⟨[(4, (vc (.flt .f64 ((Fl.mk (k := .f64) 4602678819172646912 (by decide)).sub (((Fl.mk (k := .f64) 4620693217682128896 (by decide)).mul (x27.mul x34)).div (Fl.mk (k := .f64) 4618760256179416344 (by decide)))).bits)))], []⟩ (T2 Tt) [] [4] [] ⟨tr, tr, tr⟩ ?_
              refine AW.ret ?_
              replace h := some_eq h
              subst h
              exact ⟨.inr rfl, retOK_of [(.one (.c (.flt .f64 ((Fl.mk (k := .f64) 4602678819172646912 (by decide)).sub (((Fl.mk (k := .f64) 4620693217682128896 (by decide)).mul (x27.mul x34)).div (Fl.mk (k := .f64) 4618760256179416344 (by decide)))).bits)))] (by kernel_rfl) ⟨⟨rfl, tr⟩, tr⟩ (of_decide_eq_true (by kernel_rfl))⟩
          · refine AW.cond_f rfl b41 ?_
            refine AW.skip ?_
            refine thenQ_normal ?_
            refine AW.seq ?_
            refine AW.sA ⟨[(11, (vc (.flt .f64 (((Fl.mk (k := .f64) 4620693217682128896 (by decide)).mul (x27.mul x34)).div (Fl.mk (k := .f64) 4618760256179416344 (by decide))).bits))), (65, (vB (a0.lt' (Fl.mk (k := .f64) 0 (by decide)))))], []⟩ (T2 Tt) [] [11, 65] [] ⟨tr, tr, tr⟩ ?_
            rcases ite2_cases h with ⟨b43, h⟩ | ⟨b43, h⟩
            · refine AW.cond_t rfl b43 ?_
              refine AW.tC (Tt ∧ T2 Tt) [] [11] [] ⟨tr, tr, tr, tr⟩ ?_
              refine AW.sA ⟨[(4, (vc (.flt .f64 ((((Fl.mk (k := .f64) 4620693217682128896 (by decide)).mul (x27.mul x34)).div (Fl.mk (k := .f64) 4618760256179416344 (by decide))).neg).bits)))], []⟩ (T2 Tt) [] [4] [] ⟨tr, tr, tr⟩ ?_
              refine AW.ret ?_
              replace h := some_eq h
              subst h
              exact ⟨.inr rfl, retOK_of [(.one (.c (.flt .f64 ((((Fl.mk (k := .f64) 4620693217682128896 (by decide)).mul (x27.mul x34)).div (Fl.mk (k := .f64) 4618760256179416344 (by decide))).neg).bits)))] (by kernel_rfl) ⟨⟨rfl, tr⟩, tr⟩ (of_decide_eq_true (by kernel_rfl))⟩
            · refine AW.cond_f rfl b43 ?_
              refine AW.skip ?_
              refine thenQ_normal ?_
              refine AW.sA ⟨[(4, (vc (.flt .f64 (((Fl.mk (k := .f64) 4620693217682128896 (by decide)).mul (x27.mul x34)).div (Fl.mk (k := .f64) 4618760256179416344 (by decide))).bits)))], []⟩ (T2 Tt) [] [4] [] ⟨tr, tr, tr⟩ ?_
              refine AW.ret ?_
              replace h := some_eq h
              subst h
              exact ⟨.inr rfl, retOK_of [(.one (.c (.flt .f64 (((Fl.mk (k := .f64) 4620693217682128896 (by decide)).mul (x27.mul x34)).div (Fl.mk (k := .f64) 4618760256179416344 (by decide))).bits)))] (by kernel_rfl) ⟨⟨rfl, tr⟩, tr⟩ (of_decide_eq_true (by kernel_rfl))⟩

/-! impl.AngleTurns -/
def impl_AngleTurns (K : Nat) (a0 : F32) (a1 : F32) : Option (F32) :=
  (impl_IsFinite K a1).bind fun v1 => (ite2 ((!v1)) (some true) ((impl_IsFinite K a0).bind fun v4 => some (!v4))).bind fun j6 => ite2 (j6) ((impl_notNumber K ).bind fun v9 => some v9) ((ite2 ((a1.eq (Fl.mk (k := .f32) 0 (by decide)))) (some (a0.eq (Fl.mk (k := .f32) 0 (by decide)))) (some false)).bind fun j12 => ite2 (j12) (some (Fl.mk (k := .f32) 0 (by decide))) ((impl_wideAngle K (Fl.cv .f32 .f64 a0) (Fl.cv .f32 .f64 a1)).bind fun v15 => chk ((convBits .f64 v15.bits .f32).isSome = true) (some (Fl.cv .f64 .f32 v15))))

theorem ok_impl_AngleTurns (K : Nat) (a0 : F32) (a1 : F32) (o : (F32)) (h : impl_AngleTurns K a0 a1 = some o) : CallOK Try.prog 20 [.one (.flt .f32 a0.bits), .one (.flt .f32 a1.bits)] [.one (.flt .f32 o.bits)] := by
  refine callOK_of_AW Try.func20 rfl (by kernel_rfl) (Nat.le_of_ble_eq_true (by kernel_rfl)) ?_
  intro w0
  unfold impl_AngleTurns at h
  refine AW.sA ⟨[(0, (vc (.flt .f32 a0.bits))), (1, (vc (.flt .f32 a1.bits)))], []⟩ (Tt ∧ Tt) [] [0, 1] [] ⟨tr, tr⟩ ?_
  refine AW.seq ?_
  refine AW.seq ?_
  obtain ⟨v1, e2, h⟩ := bind_some h
  obtain ⟨j6, e7, h⟩ := bind_some h
  refine AW.join1 (s2 := ⟨[(0, (vc (.flt .f32 a0.bits))), (1, (vc (.flt .f32 a1.bits))), (12, (vB j6))], []⟩) ?_ ?_
  · rcases ite2_cases e7 with ⟨b3, e7⟩ | ⟨b3, e7⟩
    · replace e7 := some_eq e7
      subst e7
      exact AW.rA ⟨[(0, (vc (.flt .f32 a0.bits))), (1, (vc (.flt .f32 a1.bits))), (12, (vB true))], []⟩ (Tt ∧ (((eF a1) ∧ Tt) ∧ CallOK Try.prog 41 [.one (.flt .f32 a1.bits)] [.one (.bool v1)]) ∧ Tt ∧ (Tt ∧ (!v1) = true) ∧ T4 Tt) [.no, .call [.one (.flt .f32 a1.bits)] [.one (.bool v1)] [[.view]], .no, .dec true] [0, 1, 12] [] ⟨tr, ⟨⟨rfl, tr⟩, ok_impl_IsFinite K a1 v1 e2⟩, tr, ⟨tr, b3⟩, tr, tr, tr, tr, tr⟩ ⟨rfl, rfl⟩
    · obtain ⟨v4, e5, e7⟩ := bind_some e7
      replace e7 := some_eq e7
      subst e7
      exact AW.rA ⟨[(0, (vc (.flt .f32 a0.bits))), (1, (vc (.flt .f32 a1.bits))), (12, (vB (!v4)))], []⟩ (Tt ∧ (((eF a1) ∧ Tt) ∧ CallOK Try.prog 41 [.one (.flt .f32 a1.bits)] [.one (.bool v1)]) ∧ Tt ∧ (Tt ∧ (!v1) = false) ∧ Tt ∧ (((eF a0) ∧ Tt) ∧ CallOK Try.prog 41 [.one (.flt .f32 a0.bits)] [.one (.bool v4)]) ∧ T2 Tt) [.no, .call [.one (.flt .f32 a1.bits)] [.one (.bool v1)] [[.view]], .no, .dec false, .no, .call [.one (.flt .f32 a0.bits)] [.one (.bool v4)] [[.view]]] [0, 1, 12] [] ⟨tr, ⟨⟨rfl, tr⟩, ok_impl_IsFinite K a1 v1 e2⟩, tr, ⟨tr, b3⟩, tr, ⟨⟨rfl, tr⟩, ok_impl_IsFinite K a0 v4 e5⟩, tr, tr, tr⟩ ⟨rfl, rfl⟩
  refine thenQ_normal ?_
  rcases ite2_cases h with ⟨b8, h⟩ | ⟨b8, h⟩
  · refine AW.cond_t rfl b8 ?_
    refine AW.seq ?_
    obtain ⟨v9, e10, h⟩ := bind_some h
    refine AW.tA ⟨[(4, (vc (.flt .f32 v9.bits)))], []⟩ (((Tt) ∧ CallOK Try.prog 42 [] [.one (.flt .f32 v9.bits)]) ∧ Tt ∧ Tt) [.call [] [.one (.flt .f32 v9.bits)] [[.view]]] [4] [] ⟨⟨tr, ok_impl_notNumber K v9 e10⟩, tr, tr⟩ ?_
    refine AW.ret ?_
    refine thenQ_ret ?_
    replace h := some_eq h
    subst h
    exact ⟨.inr rfl, retOK_of [(.one (cF v9))] (by kernel_rfl) ⟨⟨rfl, tr⟩, tr⟩ (of_decide_eq_true (by kernel_rfl))⟩
  · refine AW.cond_f rfl b8 ?_
    refine AW.skip ?_
    refine thenQ_normal ?_
    refine AW.seq ?_
    refine AW.seq ?_
    obtain ⟨j12, e13, h⟩ := bind_some h
    refine AW.join1 (s2 := ⟨[(0, (vc (.flt .f32 a0.bits))), (1, (vc (.flt .f32 a1.bits))), (19, (vB j12))], []⟩) ?_ ?_
    · rcases ite2_cases e13 with ⟨b11, e13⟩ | ⟨b11, e13⟩
      · replace e13 := some_eq e13
        subst e13
        exact AW.rA ⟨[(0, (vc (.flt .f32 a0.bits))), (1, (vc (.flt .f32 a1.bits))), (19, (vB (a0.eq (Fl.mk (k := .f32) 0 (by decide)))))], []⟩ (T2 ((Tt ∧ (a1.eq (Fl.mk (k := .f32) 0 (by decide))) = true) ∧ Tt ∧ T2 Tt)) [.no, .no, .dec true] [0, 1, 19] [] ⟨tr, tr, ⟨tr, b11⟩, tr, tr, tr, tr⟩ ⟨rfl, rfl⟩
      · replace e13 := some_eq e13
        subst e13
        exact AW.rA ⟨[(0, (vc (.flt .f32 a0.bits))), (1, (vc (.flt .f32 a1.bits))), (19, (vB false))], []⟩ (T2 ((Tt ∧ (a1.eq (Fl.mk (k := .f32) 0 (by decide))) = false) ∧ Tt ∧ T2 Tt)) [.no, .no, .dec false] [0, 1, 19] [] ⟨tr, tr, ⟨tr, b11⟩, tr, tr, tr, tr⟩ ⟨rfl, rfl⟩
    refine thenQ_normal ?_
    rcases ite2_cases h with ⟨b14, h⟩ | ⟨b14, h⟩
    · refine AW.cond_t rfl b14 ?_
      refine AW.sA ⟨[(4, (vc (.flt .f32 (Fl.mk (k := .f32) 0 (by decide)).bits)))], []⟩ (Tt ∧ Tt) [] [4] [] ⟨tr, tr⟩ ?_
      refine AW.ret ?_
      refine thenQ_ret ?_
      replace h := some_eq h
      subst h
      exact ⟨.inr rfl, retOK_of [(.one (cF (Fl.mk (k := .f32) 0 (by decide))))] (by kernel_rfl) ⟨⟨rfl, tr⟩, tr⟩ (of_decide_eq_true (by kernel_rfl))⟩
    · refine AW.cond_f rfl b14 ?_
      refine AW.skip ?_
      refine thenQ_normal ?_
      refine AW.seq ?_
      obtain ⟨v15, e16, h⟩ := bind_some h
      obtain ⟨c17, h⟩ := chk_some h
      refine AW.tA ⟨[(4, (vc (.flt .f32 (Fl.cv .f64 .f32 v15).bits)))], []⟩ (Tt ∧ ((convBits .f32 a0.bits .f64).isSome = true) ∧ Tt ∧ ((convBits .f32 a1.bits .f64).isSome = true) ∧ (((Eqc (.flt .f64 (Fl.cv .f32 .f64 a0).bits)) ∧ (Eqc (.flt .f64 (Fl.cv .f32 .f64 a1).bits)) ∧ Tt) ∧ CallOK Try.prog 43 [.one (.flt .f64 (Fl.cv .f32 .f64 a0).bits), .one (.flt .f64 (Fl.cv .f32 .f64 a1).bits)] [.one (.flt .f64 v15.bits)]) ∧ ((convBits .f64 v15.bits .f32).isSome = true) ∧ Tt ∧ Tt) [.no, .no, .no, .no, .call [.one (.flt .f64 (Fl.cv .f32 .f64 a0).bits), .one (.flt .f64 (Fl.cv .f32 .f64 a1).bits)] [.one (.flt .f64 v15.bits)] [[.view]]] [4] [] ⟨tr, cv_wide a0, tr, cv_wide a1, ⟨⟨rfl, rfl, tr⟩, ok_impl_wideAngle K (Fl.cv .f32 .f64 a0) (Fl.cv .f32 .f64 a1) v15 e16⟩, c17, tr, tr⟩ ?_
      refine AW.ret ?_
      replace h := some_eq h
      subst h
      exact ⟨.inr rfl, retOK_of [(.one (cF (Fl.cv .f64 .f32 v15)))] (by kernel_rfl) ⟨⟨rfl, tr⟩, tr⟩ (of_decide_eq_true (by kernel_rfl))⟩

/-! impl.AngleOf -/
def impl_AngleOf (K : Nat) (a0 : Turn) : Option (F32) :=
  (impl_Turn_vector K a0).bind fun v1 => (impl_LongOf K v1).bind fun v3 => (impl_size K a0.W).bind fun v5 => (impl_AngleTurns K v3 v5).bind fun v7 => some ((Fl.mk (k := .f32) 1073741824 (by decide)).mul v7)

theorem ok_impl_AngleOf (K : Nat) (a0 : Turn) (o : (F32)) (h : impl_AngleOf K a0 = some o) : CallOK Try.prog 10 [.agg (cs_Turn a0)] [.one (.flt .f32 o.bits)] := by
  refine callOK_of_AW Try.func10 rfl (by kernel_rfl) (Nat.le_of_ble_eq_true (by kernel_rfl)) ?_
  intro w0
  unfold impl_AngleOf at h
  refine AW.sA ⟨[(1, (vp 1 0))], [(1, (.box [(cF a0.W), (cF a0.X), (cF a0.Y), (cF a0.Z)]))]⟩ (T2 Tt) [.box 1] [1] [1] ⟨tr, tr, tr⟩ ?_
  refine AW.seq ?_
  obtain ⟨v1, e2, h⟩ := bind_some h
  obtain ⟨v3, e4, h⟩ := bind_some h
  obtain ⟨v5, e6, h⟩ := bind_some h
  obtain ⟨v7, e8, h⟩ := bind_some h
  refine AW.dA ⟨[(2, (vc (.flt .f32 ((Fl.mk (k := .f32) 1073741824 (by decide)).mul v7).bits)))], []⟩ ((Tt ∧ ((((eF a0.W) ∧ (eF a0.X) ∧ (eF a0.Y) ∧ (eF a0.Z) ∧ Tt) ∧ Tt) ∧ CallOK Try.prog 22 [.agg (cs_Turn a0)] [.agg (cs_Vector v1)]) ∧ ((((eF v1.X) ∧ (eF v1.Y) ∧ (eF v1.Z) ∧ Tt) ∧ Tt) ∧ CallOK Try.prog 23 [.agg (cs_Vector v1)] [.one (.flt .f32 v3.bits)]) ∧ T2 ((((eF a0.W) ∧ Tt) ∧ CallOK Try.prog 24 [.one (.flt .f32 a0.W.bits)] [.one (.flt .f32 v5.bits)]) ∧ (((eF v3) ∧ (eF v5) ∧ Tt) ∧ CallOK Try.prog 20 [.one (.flt .f32 v3.bits), .one (.flt .f32 v5.bits)] [.one (.flt .f32 v7.bits)]) ∧ T2 Tt)) ∧ (Tt)) 9 [.no, .call [.agg (cs_Turn a0)] [.agg (cs_Vector v1)] [[.view, .view, .view]], .call [.agg (cs_Vector v1)] [.one (.flt .f32 v3.bits)] [[.view]], .no, .no, .call [.one (.flt .f32 a0.W.bits)] [.one (.flt .f32 v5.bits)] [[.view]], .call [.one (.flt .f32 v3.bits), .one (.flt .f32 v5.bits)] [.one (.flt .f32 v7.bits)] [[.view]]] [2] [] ⟨⟨tr, ⟨⟨⟨rfl, rfl, rfl, rfl, tr⟩, tr⟩, ok_impl_Turn_vector K a0 v1 e2⟩, ⟨⟨⟨rfl, rfl, rfl, tr⟩, tr⟩, ok_impl_LongOf K v1 v3 e4⟩, tr, tr, ⟨⟨rfl, tr⟩, ok_impl_size K a0.W v5 e6⟩, ⟨⟨rfl, rfl, tr⟩, ok_impl_AngleTurns K v3 v5 v7 e8⟩, tr, tr, tr⟩, tr⟩ ?_
  refine thenQ_normal ?_
  refine AW.ret ?_
  replace h := some_eq h
  subst h
  exact ⟨.inr rfl, retOK_of [(.one (cF ((Fl.mk (k := .f32) 1073741824 (by decide)).mul v7)))] (by kernel_rfl) ⟨⟨rfl, tr⟩, tr⟩ (of_decide_eq_true (by kernel_rfl))⟩

/-! impl.isLength -/
def impl_isLength (K : Nat) (a0 : F32) : Option (Bool) :=
  (impl_IsFinite K a0).bind fun v1 => (ite2 (v1) (some (a0.ne (Fl.mk (k := .f32) 0 (by decide)))) (some false)).bind fun j4 => some j4

theorem ok_impl_isLength (K : Nat) (a0 : F32) (o : (Bool)) (h : impl_isLength K a0 = some o) : CallOK Try.prog 28 [.one (.flt .f32 a0.bits)] [.one (.bool o)] := by
  refine callOK_of_AW Try.func28 rfl (by kernel_rfl) (Nat.le_of_ble_eq_true (by kernel_rfl)) ?_
  intro w0
  unfold impl_isLength at h
  refine AW.sA ⟨[(0, (vc (.flt .f32 a0.bits)))], []⟩ (Tt ∧ Tt) [] [0] [] ⟨tr, tr⟩ ?_
  refine AW.seq ?_
  obtain ⟨v1, e2, h⟩ := bind_some h
  obtain ⟨j4, e5, h⟩ := bind_some h
  refine AW.join1 (s2 := ⟨[(2, (vB j4))], []⟩) ?_ ?_
  · rcases ite2_cases e5 with ⟨b3, e5⟩ | ⟨b3, e5⟩
    · replace e5 := some_eq e5
      subst e5
      exact AW.rA ⟨[(2, (vB (a0.ne (Fl.mk (k := .f32) 0 (by decide)))))], []⟩ (Tt ∧ (((eF a0) ∧ Tt) ∧ CallOK Try.prog 41 [.one (.flt .f32 a0.bits)] [.one (.bool v1)]) ∧ (Tt ∧ v1 = true) ∧ T4 Tt) [.no, .call [.one (.flt .f32 a0.bits)] [.one (.bool v1)] [[.view]], .dec true] [2] [] ⟨tr, ⟨⟨rfl, tr⟩, ok_impl_IsFinite K a0 v1 e2⟩, ⟨tr, b3⟩, tr, tr, tr, tr, tr⟩ ⟨rfl, rfl⟩
    · replace e5 := some_eq e5
      subst e5
      exact AW.rA ⟨[(2, (vB false))], []⟩ (Tt ∧ (((eF a0) ∧ Tt) ∧ CallOK Try.prog 41 [.one (.flt .f32 a0.bits)] [.one (.bool v1)]) ∧ (Tt ∧ v1 = false) ∧ T4 Tt) [.no, .call [.one (.flt .f32 a0.bits)] [.one (.bool v1)] [[.view]], .dec false] [2] [] ⟨tr, ⟨⟨rfl, tr⟩, ok_impl_IsFinite K a0 v1 e2⟩, ⟨tr, b3⟩, tr, tr, tr, tr, tr⟩ ⟨rfl, rfl⟩
  refine thenQ_normal ?_
  refine AW.ret ?_
  replace h := some_eq h
  subst h
  exact ⟨.inr rfl, retOK_of [(.one (.c (.bool j4)))] (by kernel_rfl) ⟨⟨rfl, tr⟩, tr⟩ (of_decide_eq_true (by kernel_rfl))⟩

/-! (impl.Turn).opposite -/
def impl_Turn_opposite (_K : Nat) (a0 : Turn) : Option (Turn) :=
  some (Turn.mk (a0.W.neg) (a0.X.neg) (a0.Y.neg) (a0.Z.neg))

theorem ok_impl_Turn_opposite (K : Nat) (a0 : Turn) (o : (Turn)) (h : impl_Turn_opposite K a0 = some o) : CallOK Try.prog 40 [.agg (cs_Turn a0)] [.agg (cs_Turn o)] := by
  refine callOK_of_AW Try.func40 rfl (by kernel_rfl) (Nat.le_of_ble_eq_true (by kernel_rfl)) ?_
  intro w0
  unfold impl_Turn_opposite at h
  refine AW.sC (T2 Tt) [.box 1, .box 2] [1, 2] [1, 2] ⟨tr, tr, tr⟩ ?_
  refine AW.sA ⟨[(2, (vp 2 0))], [(2, (.box [(cF (a0.W.neg)), (cF (a0.X.neg)), (cF (a0.Y.neg)), (cF (a0.Z.neg))]))]⟩ (T2 (T4 (T4 (T4 Tt)))) [] [2] [2] ⟨tr, tr, tr, tr, tr, tr, tr, tr, tr, tr, tr, tr, tr, tr, tr⟩ ?_
  refine AW.ret ?_
  replace h := some_eq h
  subst h
  exact ⟨.inr rfl, retOK_of [(.agg [(cF (a0.W.neg)), (cF (a0.X.neg)), (cF (a0.Y.neg)), (cF (a0.Z.neg))])] (by kernel_rfl) ⟨⟨⟨rfl, tr⟩, ⟨rfl, tr⟩, ⟨rfl, tr⟩, ⟨rfl, tr⟩, tr⟩, tr⟩ (of_decide_eq_true (by kernel_rfl))⟩

/-! (impl.Vector).over -/
def impl_Vector_over (_K : Nat) (a0 : Vector) (a1 : F32) : Option (Vector) :=
  some (Vector.mk (a0.X.div a1) (a0.Y.div a1) (a0.Z.div a1))

theorem ok_impl_Vector_over (K : Nat) (a0 : Vector) (a1 : F32) (o : (Vector)) (h : impl_Vector_over K a0 a1 = some o) : CallOK Try.prog 33 [.agg (cs_Vector a0), .one (.flt .f32 a1.bits)] [.agg (cs_Vector o)] := by
  refine callOK_of_AW Try.func33 rfl (by kernel_rfl) (Nat.le_of_ble_eq_true (by kernel_rfl)) ?_
  intro w0
  unfold impl_Vector_over at h
  refine AW.sC (T2 Tt) [.box 1, .box 2] [1, 2, 4] [1, 2] ⟨tr, tr, tr⟩ ?_
  refine AW.sA ⟨[(4, (vp 2 0))], [(2, (.box [(cF (a0.X.div a1)), (cF (a0.Y.div a1)), (cF (a0.Z.div a1))]))]⟩ (T2 (T4 (T4 (T4 Tt)))) [] [4] [2] ⟨tr, tr, tr, tr, tr, tr, tr, tr, tr, tr, tr, tr, tr, tr, tr⟩ ?_
  refine AW.ret ?_
  replace h := some_eq h
  subst h
  exact ⟨.inr rfl, retOK_of [(.agg [(cF (a0.X.div a1)), (cF (a0.Y.div a1)), (cF (a0.Z.div a1))])] (by kernel_rfl) ⟨⟨⟨rfl, tr⟩, ⟨rfl, tr⟩, ⟨rfl, tr⟩, tr⟩, tr⟩ (of_decide_eq_true (by kernel_rfl))⟩

/-! impl.AxisOf -/
def impl_AxisOf (K : Nat) (a0 : Turn) : Option (Vector) :=
  (impl_Turn_vector K a0).bind fun v1 => (impl_LongOf K v1).bind fun v3 => (impl_isLength K v3).bind fun v5 => ite2 ((!v5)) (some (Vector.mk (default : F32) (default : F32) (Fl.mk (k := .f32) 1065353216 (by decide)))) (ite2 ((a0.W.lt' (Fl.mk (k := .f32) 0 (by decide)))) ((impl_Turn_opposite K a0).bind fun v9 => (impl_Turn_vector K v9).bind fun v11 => (impl_Vector_over K v11 v3).bind fun v13 => some v13) ((impl_Turn_vector K a0).bind fun v15 => (impl_Vector_over K v15 v3).bind fun v17 => some v17))

theorem ok_impl_AxisOf (K : Nat) (a0 : Turn) (o : (Vector)) (h : impl_AxisOf K a0 = some o) : CallOK Try.prog 19 [.agg (cs_Turn a0)] [.agg (cs_Vector o)] := by
  refine callOK_of_AW Try.func19 rfl (by kernel_rfl) (Nat.le_of_ble_eq_true (by kernel_rfl)) ?_
  intro w0
  unfold impl_AxisOf at h
  refine AW.sC (T2 Tt) [.box 1, .box 2] [1, 2] [1, 2] ⟨tr, tr, tr⟩ ?_
  refine AW.seq ?_
  obtain ⟨v1, e2, h⟩ := bind_some h
  obtain ⟨v3, e4, h⟩ := bind_some h
  refine AW.tC (Tt ∧ ((((eF a0.W) ∧ (eF a0.X) ∧ (eF a0.Y) ∧ (eF a0.Z) ∧ Tt) ∧ Tt) ∧ CallOK Try.prog 22 [.agg (cs_Turn a0)] [.agg (cs_Vector v1)]) ∧ ((((eF v1.X) ∧ (eF v1.Y) ∧ (eF v1.Z) ∧ Tt) ∧ Tt) ∧ CallOK Try.prog 23 [.agg (cs_Vector v1)] [.one (.flt .f32 v3.bits)]) ∧ Tt ∧ Tt) [.no, .call [.agg (cs_Turn a0)] [.agg (cs_Vector v1)] [[.view, .view, .view]], .call [.agg (cs_Vector v1)] [.one (.flt .f32 v3.bits)] [[.view]]] [1, 2, 3] [1, 2] ⟨tr, ⟨⟨⟨rfl, rfl, rfl, rfl, tr⟩, tr⟩, ok_impl_Turn_vector K a0 v1 e2⟩, ⟨⟨⟨rfl, rfl, rfl, tr⟩, tr⟩, ok_impl_LongOf K v1 v3 e4⟩, tr, tr⟩ ?_
  refine AW.seq ?_
  refine AW.seq ?_
  obtain ⟨v5, e6, h⟩ := bind_some h
  refine AW.tA ⟨[(1, (vp 1 0)), (2, (vp 2 0)), (3, (vc (.flt .f32 v3.bits))), (9, (vB (!v5)))], [(1, (.box [(cF a0.W), (cF a0.X), (cF a0.Y), (cF a0.Z)])), (2, (.box [(cF (default : F32)), (cF (default : F32)), (cF (default : F32))]))]⟩ (Tt ∧ (((eF v3) ∧ Tt) ∧ CallOK Try.prog 28 [.one (.flt .f32 v3.bits)] [.one (.bool v5)]) ∧ Tt ∧ Tt) [.no, .call [.one (.flt .f32 v3.bits)] [.one (.bool v5)] [[.view]]] [1, 2, 3, 9] [1, 2] ⟨tr, ⟨⟨rfl, tr⟩, ok_impl_isLength K v3 v5 e6⟩, tr, tr⟩ ?_
  rcases ite2_cases h with ⟨b7, h⟩ | ⟨b7, h⟩
  · refine AW.cond_t rfl b7 ?_
    refine AW.sA ⟨[(2, (vp 2 0))], [(2, (.box [(cF (default : F32)), (cF (default : F32)), (cF (Fl.mk (k := .f32) 1065353216 (by decide)))]))]⟩ (T2 Tt) [] [2] [2] ⟨tr, tr, tr⟩ ?_
    refine AW.ret ?_
    refine thenQ_ret ?_
    replace h := some_eq h
    subst h
    exact ⟨.inr rfl, retOK_of [(.agg [(cF (default : F32)), (cF (default : F32)), (cF (Fl.mk (k := .f32) 1065353216 (by decide)))])] (by kernel_rfl) ⟨⟨⟨rfl, tr⟩, ⟨rfl, tr⟩, ⟨rfl, tr⟩, tr⟩, tr⟩ (of_decide_eq_true (by kernel_rfl))⟩
  · refine AW.cond_f rfl b7 ?_
    refine AW.skip ?_
    refine thenQ_normal ?_
    refine AW.seq ?_
    refine AW.sA ⟨[(1, (vp 1 0)), (2, (vp 2 0)), (3, (vc (.flt .f32 v3.bits))), (13, (vB (a0.W.lt' (Fl.mk (k := .f32) 0 (by decide)))))], [(1, (.box [(cF a0.W), (cF a0.X), (cF a0.Y), (cF a0.Z)])), (2, (.box [(cF (default : F32)), (cF (default : F32)), (cF (default : F32))]))]⟩ (Tt ∧ T2 Tt) [] [1, 2, 3, 13] [1, 2] ⟨tr, tr, tr, tr⟩ ?_
    rcases ite2_cases h with ⟨b8, h⟩ | ⟨b8, h⟩
    · refine AW.cond_t rfl b8 ?_
      obtain ⟨v9, e10, h⟩ := bind_some h
      refine AW.tC (Tt ∧ ((((eF a0.W) ∧ (eF a0.X) ∧ (eF a0.Y) ∧ (eF a0.Z) ∧ Tt) ∧ Tt) ∧ CallOK Try.prog 40 [.agg (cs_Turn a0)] [.agg (cs_Turn v9)]) ∧ Tt ∧ Tt) [.no, .call [.agg (cs_Turn a0)] [.agg (cs_Turn v9)] [[.view, .view, .view, .view]]] [1, 2, 3] [1, 2] ⟨tr, ⟨⟨⟨rfl, rfl, rfl, rfl, tr⟩, tr⟩, ok_impl_Turn_opposite K a0 v9 e10⟩, tr, tr⟩ ?_
      refine AW.seq ?_
      obtain ⟨v11, e12, h⟩ := bind_some h
      obtain ⟨v13, e14, h⟩ := bind_some h
      refine AW.tA ⟨[(2, (vp 2 0))], [(2, (.box [(cF v13.X), (cF v13.Y), (cF v13.Z)]))]⟩ (Tt ∧ ((((eF v9.W) ∧ (eF v9.X) ∧ (eF v9.Y) ∧ (eF v9.Z) ∧ Tt) ∧ Tt) ∧ CallOK Try.prog 22 [.agg (cs_Turn v9)] [.agg (cs_Vector v11)]) ∧ Tt ∧ ((((eF v11.X) ∧ (eF v11.Y) ∧ (eF v11.Z) ∧ Tt) ∧ (eF v3) ∧ Tt) ∧ CallOK Try.prog 33 [.agg (cs_Vector v11), .one (.flt .f32 v3.bits)] [.agg (cs_Vector v13)]) ∧ Tt ∧ Tt) [.no, .call [.agg (cs_Turn v9)] [.agg (cs_Vector v11)] [[.view, .view, .view]], .no, .call [.agg (cs_Vector v11), .one (.flt .f32 v3.bits)] [.agg (cs_Vector v13)] [[.view, .view, .view]]] [2] [2] ⟨tr, ⟨⟨⟨rfl, rfl, rfl, rfl, tr⟩, tr⟩, ok_impl_Turn_vector K v9 v11 e12⟩, tr, ⟨⟨⟨rfl, rfl, rfl, tr⟩, rfl, tr⟩, ok_impl_Vector_over K v11 v3 v13 e14⟩, tr, tr⟩ ?_
      refine AW.ret ?_
      replace h := some_eq h
      subst h
      exact ⟨.inr rfl, retOK_of [(.agg [(cF v13.X), (cF v13.Y), (cF v13.Z)])] (by kernel_rfl) ⟨⟨⟨rfl, tr⟩, ⟨rfl, tr⟩, ⟨rfl, tr⟩, tr⟩, tr⟩ (of_decide_eq_true (by kernel_rfl))⟩
    · refine AW.cond_f rfl b8 ?_
      refine AW.skip ?_
      refine thenQ_normal ?_
      refine AW.seq ?_
      obtain ⟨v15, e16, h⟩ := bind_some h
      obtain ⟨v17, e18, h⟩ := bind_some h
      refine AW.tA ⟨[(2, (vp 2 0))], [(2, (.box [(cF v17.X), (cF v17.Y), (cF v17.Z)]))]⟩ (Tt ∧ ((((eF a0.W) ∧ (eF a0.X) ∧ (eF a0.Y) ∧ (eF a0.Z) ∧ Tt) ∧ Tt) ∧ CallOK Try.prog 22 [.agg (cs_Turn a0)] [.agg (cs_Vector v15)]) ∧ Tt ∧ ((((eF v15.X) ∧ (eF v15.Y) ∧ (eF v15.Z) ∧ Tt) ∧ (eF v3) ∧ Tt) ∧ CallOK Try.prog 33 [.agg (cs_Vector v15), .one (.flt .f32 v3.bits)] [.agg (cs_Vector v17)]) ∧ Tt ∧ Tt) [.no, .call [.agg (cs_Turn a0)] [.agg (cs_Vector v15)] [[.view, .view, .view]], .no, .call [.agg (cs_Vector v15), .one (.flt .f32 v3.bits)] [.agg (cs_Vector v17)] [[.view, .view, .view]]] [2] [2] ⟨tr, ⟨⟨⟨rfl, rfl, rfl, rfl, tr⟩, tr⟩, ok_impl_Turn_vector K a0 v15 e16⟩, tr, ⟨⟨⟨rfl, rfl, rfl, tr⟩, rfl, tr⟩, ok_impl_Vector_over K v15 v3 v17 e18⟩, tr, tr⟩ ?_
      refine AW.ret ?_
      replace h := some_eq h
      subst h
      exact ⟨.inr rfl, retOK_of [(.agg [(cF v17.X), (cF v17.Y), (cF v17.Z)])] (by kernel_rfl) ⟨⟨⟨rfl, tr⟩, ⟨rfl, tr⟩, ⟨rfl, tr⟩, tr⟩, tr⟩ (of_decide_eq_true (by kernel_rfl))⟩

/-! impl.NoTurn -/
def impl_NoTurn (_K : Nat) : Option (Turn) :=
  some (Turn.mk (Fl.mk (k := .f32) 1065353216 (by decide)) (default : F32) (default : F32) (default : F32))

theorem ok_impl_NoTurn (K : Nat) (o : (Turn)) (h : impl_NoTurn K  = some o) : CallOK Try.prog 29 [] [.agg (cs_Turn o)] := by
  refine callOK_of_AW Try.func29 rfl (by kernel_rfl) (Nat.le_of_ble_eq_true (by kernel_rfl)) ?_
  intro w0
  unfold impl_NoTurn at h
  refine AW.sC (Tt ∧ Tt) [.box 1] [0] [1] ⟨tr, tr⟩ ?_
  refine AW.sA ⟨[(0, (vp 1 0))], [(1, (.box [(cF (Fl.mk (k := .f32) 1065353216 (by decide))), (cF (default : F32)), (cF (default : F32)), (cF (default : F32))]))]⟩ (T2 Tt) [] [0] [1] ⟨tr, tr, tr⟩ ?_
  refine AW.ret ?_
  replace h := some_eq h
  subst h
  exact ⟨.inr rfl, retOK_of [(.agg [(cF (Fl.mk (k := .f32) 1065353216 (by decide))), (cF (default : F32)), (cF (default : F32)), (cF (default : F32))])] (by kernel_rfl) ⟨⟨⟨rfl, tr⟩, ⟨rfl, tr⟩, ⟨rfl, tr⟩, ⟨rfl, tr⟩, tr⟩, tr⟩ (of_decide_eq_true (by kernel_rfl))⟩

/-! math.archTrunc -/
def math_archTrunc (_K : Nat) (a0 : F64) : Option (F64) :=
  a0.integ .zero

theorem ok_math_archTrunc (K : Nat) (a0 : F64) (o : F64) (h : math_archTrunc K a0 = some o) : CallOK Try.prog 61 [.one (.flt .f64 a0.bits)] [.one (.flt .f64 o.bits)] :=
  hand_integ (e := Extern.MathFloor.toIntegral "math.archTrunc" .zero) Try.func61 (by kernel_rfl) (by kernel_rfl) (by kernel_rfl) (by kernel_rfl) (fun _ => rfl) a0 o h

/-! math.Trunc -/
def math_Trunc (K : Nat) (a0 : F64) : Option (F64) :=
  (math_archTrunc K a0).bind fun v1 => some v1

theorem ok_math_Trunc (K : Nat) (a0 : F64) (o : (F64)) (h : math_Trunc K a0 = some o) : CallOK Try.prog 60 [.one (.flt .f64 a0.bits)] [.one (.flt .f64 o.bits)] := by
  refine callOK_of_AW Try.func60 rfl (by kernel_rfl) (Nat.le_of_ble_eq_true (by kernel_rfl)) ?_
  intro w0
  unfold math_Trunc at h
  refine AW.sA ⟨[(0, (vc (.flt .f64 a0.bits)))], []⟩ (Tt ∧ Tt) [] [0] [] ⟨tr, tr⟩ ?_
  refine AW.seq ?_
  refine AW.condk ?_
  refine AW.seq ?_
  obtain ⟨v1, e2, h⟩ := bind_some h
  refine AW.tA ⟨[(2, (vc (.flt .f64 v1.bits)))], []⟩ (Tt ∧ (((Eqc (.flt .f64 a0.bits)) ∧ Tt) ∧ CallOK Try.prog 61 [.one (.flt .f64 a0.bits)] [.one (.flt .f64 v1.bits)]) ∧ Tt ∧ Tt) [.no, .call [.one (.flt .f64 a0.bits)] [.one (.flt .f64 v1.bits)] [[.view]]] [2] [] ⟨tr, ⟨⟨rfl, tr⟩, ok_math_archTrunc K a0 v1 e2⟩, tr, tr⟩ ?_
  refine AW.ret ?_
  refine thenQ_ret ?_
  replace h := some_eq h
  subst h
  exact ⟨.inr rfl, retOK_of [(.one (.c (.flt .f64 v1.bits)))] (by kernel_rfl) ⟨⟨rfl, tr⟩, tr⟩ (of_decide_eq_true (by kernel_rfl))⟩

/-! impl.placesOf -/
def impl_placesOf (K : Nat) (a0 : F64) : Option (F64) :=
  (math_Trunc K a0).bind fun v1 => ite2 ((v1.ne (Fl.mk (k := .f64) 0 (by decide)))) (ite2 (((a0.sub v1).lt' (Fl.mk (k := .f64) 0 (by decide)))) (some ((a0.sub v1).add (Fl.mk (k := .f64) 4607182418800017408 (by decide)))) (some (a0.sub v1))) (ite2 ((a0.lt' (Fl.mk (k := .f64) 0 (by decide)))) (some (a0.add (Fl.mk (k := .f64) 4607182418800017408 (by decide)))) (some a0))

theorem ok_impl_placesOf (K : Nat) (a0 : F64) (o : (F64)) (h : impl_placesOf K a0 = some o) : CallOK Try.prog 57 [.one (.flt .f64 a0.bits)] [.one (.flt .f64 o.bits)] := by
  refine callOK_of_AW Try.func57 rfl (by kernel_rfl) (Nat.le_of_ble_eq_true (by kernel_rfl)) ?_
  intro w0
  unfold impl_placesOf at h
  refine AW.sC (Tt ∧ Tt) [] [0] [] ⟨tr, tr⟩ ?_
  refine AW.sC (T2 Tt) [] [0, 3] [] ⟨tr, tr, tr⟩ ?_
  refine AW.seq ?_
  refine AW.seq ?_
  obtain ⟨v1, e2, h⟩ := bind_some h
  refine AW.tC (Tt ∧ (((Eqc (.flt .f64 a0.bits)) ∧ Tt) ∧ CallOK Try.prog 60 [.one (.flt .f64 a0.bits)] [.one (.flt .f64 v1.bits)]) ∧ Tt ∧ Tt) [.no, .call [.one (.flt .f64 a0.bits)] [.one (.flt .f64 v1.bits)] [[.view]]] [3, 4] [] ⟨tr, ⟨⟨rfl, tr⟩, ok_math_Trunc K a0 v1 e2⟩, tr, tr⟩ ?_
  refine AW.sA ⟨[(3, (vc (.flt .f64 a0.bits))), (4, (vc (.flt .f64 v1.bits))), (9, (vB (v1.ne (Fl.mk (k := .f64) 0 (by decide)))))], []⟩ (T2 Tt) [] [3, 4, 9] [] ⟨tr, tr, tr⟩ ?_
  rcases ite2_cases h with ⟨b3, h⟩ | ⟨b3, h⟩
  · refine AW.cond_t rfl b3 ?_
    refine AW.tC (T4 Tt) [] [3] [] ⟨tr, tr, tr, tr, tr⟩ ?_
    refine AW.seq ?_
    refine AW.sA ⟨[(3, (vc (.flt .f64 (a0.sub v1).bits))), (14, (vB ((a0.sub v1).lt' (Fl.mk (k := .f64) 0 (by decide)))))], []⟩ (T2 Tt) [] [3, 14] [] ⟨tr, tr, tr⟩ ?_
    rcases ite2_cases h with ⟨b4, h⟩ | ⟨b4, h⟩
    · refine AW.cond_t rfl b4 ?_
      refine AW.tC (Tt ∧ T2 Tt) [] [3] [] ⟨tr, tr, tr, tr⟩ ?_
      refine AW.sA ⟨[(2, (vc (.flt .f64 ((a0.sub v1).add (Fl.mk (k := .f64) 4607182418800017408 (by decide))).bits)))], []⟩ (T2 Tt) [] [2] [] ⟨tr, tr, tr⟩ ?_
      refine AW.ret ?_
      replace h := some_eq h
      subst h
      exact ⟨.inr rfl, retOK_of [(.one (.c (.flt .f64 ((a0.sub v1).add (Fl.mk (k := .f64) 4607182418800017408 (by decide))).bits)))] (by kernel_rfl) ⟨⟨rfl, tr⟩, tr⟩ (of_decide_eq_true (by kernel_rfl))⟩
    · refine AW.cond_f rfl b4 ?_
      refine AW.skip ?_
      refine thenQ_normal ?_
      refine AW.sA ⟨[(2, (vc (.flt .f64 (a0.sub v1).bits)))], []⟩ (T2 Tt) [] [2] [] ⟨tr, tr, tr⟩ ?_
      refine AW.ret ?_
      replace h := some_eq h
      subst h
      exact ⟨.inr rfl, retOK_of [(.one (.c (.flt .f64 (a0.sub v1).bits)))] (by kernel_rfl) ⟨⟨rfl, tr⟩, tr⟩ (of_decide_eq_true (by kernel_rfl))⟩
  · refine AW.cond_f rfl b3 ?_
    refine AW.skip ?_
    refine thenQ_normal ?_
    refine AW.seq ?_
    refine AW.sA ⟨[(3, (vc (.flt .f64 a0.bits))), (14, (vB (a0.lt' (Fl.mk (k := .f64) 0 (by decide)))))], []⟩ (T2 Tt) [] [3, 14] [] ⟨tr, tr, tr⟩ ?_
    rcases ite2_cases h with ⟨b5, h⟩ | ⟨b5, h⟩
    · refine AW.cond_t rfl b5 ?_
      refine AW.tC (Tt ∧ T2 Tt) [] [3] [] ⟨tr, tr, tr, tr⟩ ?_
      refine AW.sA ⟨[(2, (vc (.flt .f64 (a0.add (Fl.mk (k := .f64) 4607182418800017408 (by decide))).bits)))], []⟩ (T2 Tt) [] [2] [] ⟨tr, tr, tr⟩ ?_
      refine AW.ret ?_
      replace h := some_eq h
      subst h
      exact ⟨.inr rfl, retOK_of [(.one (.c (.flt .f64 (a0.add (Fl.mk (k := .f64) 4607182418800017408 (by decide))).bits)))] (by kernel_rfl) ⟨⟨rfl, tr⟩, tr⟩ (of_decide_eq_true (by kernel_rfl))⟩
    · refine AW.cond_f rfl b5 ?_
      refine AW.skip ?_
      refine thenQ_normal ?_
      refine AW.sA ⟨[(2, (vc (.flt .f64 a0.bits)))], []⟩ (T2 Tt) [] [2] [] ⟨tr, tr, tr⟩ ?_
      refine AW.ret ?_
      replace h := some_eq h
      subst h
      exact ⟨.inr rfl, retOK_of [(.one (.c (.flt .f64 a0.bits)))] (by kernel_rfl) ⟨⟨rfl, tr⟩, tr⟩ (of_decide_eq_true (by kernel_rfl))⟩

/-! impl.sine -/
def impl_sine_l1 (K : Nat) (v1 : (F64)) : Nat → F64 → Int → Option (F64)
  | 0, _, _ => none
  | k + 1, x7, x8 => ite2 ((decide (x8 ≥ (1 : Int)))) (impl_sine_l1 K v1 k ((Fl.mk (k := .f64) 4607182418800017408 (by decide)).sub ((((((Fl.mk (k := .f64) 4602678819172646912 (by decide)).sub (v1.sub (Fl.mk (k := .f64) 4602678819172646912 (by decide)))).mul (Fl.mk (k := .f64) 4618760256179416344 (by decide))).mul (((Fl.mk (k := .f64) 4602678819172646912 (by decide)).sub (v1.sub (Fl.mk (k := .f64) 4602678819172646912 (by decide)))).mul (Fl.mk (k := .f64) 4618760256179416344 (by decide)))).mul x7).div (Fl.ofInt .f64 (IntKind.i64.wrap ((IntKind.i64.wrap ((2 : Int) * x8)) * (IntKind.i64.wrap ((IntKind.i64.wrap ((2 : Int) * x8)) + (1 : Int)))))))) (IntKind.i64.wrap (x8 - (1 : Int)))) (ite2 ((v1.ge (Fl.mk (k := .f64) 4602678819172646912 (by decide)))) (some (((((Fl.mk (k := .f64) 4602678819172646912 (by decide)).sub (v1.sub (Fl.mk (k := .f64) 4602678819172646912 (by decide)))).mul (Fl.mk (k := .f64) 4618760256179416344 (by decide))).mul x7).neg)) (some ((((Fl.mk (k := .f64) 4602678819172646912 (by decide)).sub (v1.sub (Fl.mk (k := .f64) 4602678819172646912 (by decide)))).mul (Fl.mk (k := .f64) 4618760256179416344 (by decide))).mul x7)))

def impl_sine_l2 (K : Nat) (v1 : (F64)) : Nat → F64 → Int → Option (F64)
  | 0, _, _ => none
  | k + 1, x13, x14 => ite2 ((decide (x14 ≥ (1 : Int)))) (impl_sine_l2 K v1 k ((Fl.mk (k := .f64) 4607182418800017408 (by decide)).sub (((((v1.sub (Fl.mk (k := .f64) 4602678819172646912 (by decide))).mul (Fl.mk (k := .f64) 4618760256179416344 (by decide))).mul ((v1.sub (Fl.mk (k := .f64) 4602678819172646912 (by decide))).mul (Fl.mk (k := .f64) 4618760256179416344 (by decide)))).mul x13).div (Fl.ofInt .f64 (IntKind.i64.wrap ((IntKind.i64.wrap ((2 : Int) * x14)) * (IntKind.i64.wrap ((IntKind.i64.wrap ((2 : Int) * x14)) + (1 : Int)))))))) (IntKind.i64.wrap (x14 - (1 : Int)))) (ite2 ((v1.ge (Fl.mk (k := .f64) 4602678819172646912 (by decide)))) (some ((((v1.sub (Fl.mk (k := .f64) 4602678819172646912 (by decide))).mul (Fl.mk (k := .f64) 4618760256179416344 (by decide))).mul x13).neg)) (some (((v1.sub (Fl.mk (k := .f64) 4602678819172646912 (by decide))).mul (Fl.mk (k := .f64) 4618760256179416344 (by decide))).mul x13)))

def impl_sine_l3 (K : Nat) (v1 : (F64)) : Nat → F64 → Int → Option (F64)
  | 0, _, _ => none
  | k + 1, x20, x21 => ite2 ((decide (x21 ≥ (1 : Int)))) (impl_sine_l3 K v1 k ((Fl.mk (k := .f64) 4607182418800017408 (by decide)).sub ((((((Fl.mk (k := .f64) 4602678819172646912 (by decide)).sub v1).mul (Fl.mk (k := .f64) 4618760256179416344 (by decide))).mul (((Fl.mk (k := .f64) 4602678819172646912 (by decide)).sub v1).mul (Fl.mk (k := .f64) 4618760256179416344 (by decide)))).mul x20).div (Fl.ofInt .f64 (IntKind.i64.wrap ((IntKind.i64.wrap ((2 : Int) * x21)) * (IntKind.i64.wrap ((IntKind.i64.wrap ((2 : Int) * x21)) + (1 : Int)))))))) (IntKind.i64.wrap (x21 - (1 : Int)))) (ite2 ((v1.ge (Fl.mk (k := .f64) 4602678819172646912 (by decide)))) (some (((((Fl.mk (k := .f64) 4602678819172646912 (by decide)).sub v1).mul (Fl.mk (k := .f64) 4618760256179416344 (by decide))).mul x20).neg)) (some ((((Fl.mk (k := .f64) 4602678819172646912 (by decide)).sub v1).mul (Fl.mk (k := .f64) 4618760256179416344 (by decide))).mul x20)))

def impl_sine_l4 (K : Nat) (v1 : (F64)) : Nat → F64 → Int → Option (F64)
  | 0, _, _ => none
  | k + 1, x26, x27 => ite2 ((decide (x27 ≥ (1 : Int)))) (impl_sine_l4 K v1 k ((Fl.mk (k := .f64) 4607182418800017408 (by decide)).sub ((((v1.mul (Fl.mk (k := .f64) 4618760256179416344 (by decide))).mul (v1.mul (Fl.mk (k := .f64) 4618760256179416344 (by decide)))).mul x26).div (Fl.ofInt .f64 (IntKind.i64.wrap ((IntKind.i64.wrap ((2 : Int) * x27)) * (IntKind.i64.wrap ((IntKind.i64.wrap ((2 : Int) * x27)) + (1 : Int)))))))) (IntKind.i64.wrap (x27 - (1 : Int)))) (ite2 ((v1.ge (Fl.mk (k := .f64) 4602678819172646912 (by decide)))) (some (((v1.mul (Fl.mk (k := .f64) 4618760256179416344 (by decide))).mul x26).neg)) (some ((v1.mul (Fl.mk (k := .f64) 4618760256179416344 (by decide))).mul x26)))

def impl_sine (K : Nat) (a0 : F64) : Option (F64) :=
  (impl_placesOf K a0).bind fun v1 => ite2 ((v1.ge (Fl.mk (k := .f64) 4602678819172646912 (by decide)))) (ite2 (((v1.sub (Fl.mk (k := .f64) 4602678819172646912 (by decide))).gt (Fl.mk (k := .f64) 4598175219545276416 (by decide)))) (impl_sine_l1 K v1 K (Fl.mk (k := .f64) 4607182418800017408 (by decide)) (8 : Int)) (impl_sine_l2 K v1 K (Fl.mk (k := .f64) 4607182418800017408 (by decide)) (8 : Int))) (ite2 ((v1.gt (Fl.mk (k := .f64) 4598175219545276416 (by decide)))) (impl_sine_l3 K v1 K (Fl.mk (k := .f64) 4607182418800017408 (by decide)) (8 : Int)) (impl_sine_l4 K v1 K (Fl.mk (k := .f64) 4607182418800017408 (by decide)) (8 : Int)))

theorem ok_impl_sine (K : Nat) (a0 : F64) (o : (F64)) (h : impl_sine K a0 = some o) : CallOK Try.prog 48 [.one (.flt .f64 a0.bits)] [.one (.flt .f64 o.bits)] := by
  refine callOK_of_AW Try.func48 rfl (by kernel_rfl) (Nat.le_of_ble_eq_true (by kernel_rfl)) ?_
  intro w0
  unfold impl_sine at h
  refine AW.sC (Tt ∧ Tt) [] [0] [] ⟨tr, tr⟩ ?_
  refine AW.seq ?_
  obtain ⟨v1, e2, h⟩ := bind_some h
  refine AW.tC (Tt ∧ (((Eqc (.flt .f64 a0.bits)) ∧ Tt) ∧ CallOK Try.prog 57 [.one (.flt .f64 a0.bits)] [.one (.flt .f64 v1.bits)]) ∧ Tt ∧ Tt) [.no, .call [.one (.flt .f64 a0.bits)] [.one (.flt .f64 v1.bits)] [[.view]]] [3] [] ⟨tr, ⟨⟨rfl, tr⟩, ok_impl_placesOf K a0 v1 e2⟩, tr, tr⟩ ?_
  refine AW.sC (Tt ∧ T2 Tt) [] [3, 4] [] ⟨tr, tr, tr, tr⟩ ?_
  refine AW.seq ?_
  refine AW.sA ⟨[(3, (vc (.flt .f64 v1.bits))), (4, (vB (v1.ge (Fl.mk (k := .f64) 4602678819172646912 (by decide))))), (13, (vB (v1.ge (Fl.mk (k := .f64) 4602678819172646912 (by decide)))))], []⟩ (Tt ∧ Tt) [] [3, 4, 13] [] ⟨tr, tr⟩ ?_
  rcases ite2_cases h with ⟨b3, h⟩ | ⟨b3, h⟩
  · refine AW.cond_t rfl b3 ?_
    refine AW.tC (Tt ∧ T2 Tt) [] [3, 4] [] ⟨tr, tr, tr, tr⟩ ?_
    refine AW.seq ?_
    refine AW.sA ⟨[(3, (vc (.flt .f64 (v1.sub (Fl.mk (k := .f64) 4602678819172646912 (by decide))).bits))), (4, (vB (v1.ge (Fl.mk (k := .f64) 4602678819172646912 (by decide))))), (17, (vB ((v1.sub (Fl.mk (k := .f64) 4602678819172646912 (by decide))).gt (Fl.mk (k := .f64) 4598175219545276416 (by decide)))))], []⟩ (T2 Tt) [] [3, 4, 17] [] ⟨tr, tr, tr⟩ ?_
    rcases ite2_cases h with ⟨b4, h⟩ | ⟨b4, h⟩
    · refine AW.cond_t rfl b4 ?_
      refine AW.tC (Tt ∧ T2 Tt) [] [3, 4] [] ⟨tr, tr, tr, tr⟩ ?_
      refine AW.sC (Tt ∧ T2 Tt) [] [4, 5] [] ⟨tr, tr, tr, tr⟩ ?_
      refine AW.sC (T4 Tt) [] [4, 5, 6] [] ⟨tr, tr, tr, tr, tr⟩ ?_
      refine AW.sC (Tt ∧ Tt) [] [4, 5, 6, 7] [] ⟨tr, tr⟩ ?_
      refine AW.seq ?_
      refine AW.sA ⟨[(4, (vB (v1.ge (Fl.mk (k := .f64) 4602678819172646912 (by decide))))), (5, (vc (.flt .f64 (((Fl.mk (k := .f64) 4602678819172646912 (by decide)).sub (v1.sub (Fl.mk (k := .f64) 4602678819172646912 (by decide)))).mul (Fl.mk (k := .f64) 4618760256179416344 (by decide))).bits))), (6, (vc (.flt .f64 ((((Fl.mk (k := .f64) 4602678819172646912 (by decide)).sub (v1.sub (Fl.mk (k := .f64) 4602678819172646912 (by decide)))).mul (Fl.mk (k := .f64) 4618760256179416344 (by decide))).mul (((Fl.mk (k := .f64) 4602678819172646912 (by decide)).sub (v1.sub (Fl.mk (k := .f64) 4602678819172646912 (by decide)))).mul (Fl.mk (k := .f64) 4618760256179416344 (by decide)))).bits))), (7, (vc (.flt .f64 (Fl.mk (k := .f64) 4607182418800017408 (by decide)).bits))), (8, (vI (8 : Int)))], []⟩ (Tt ∧ Tt) [] [4, 5, 6, 7, 8] [] ⟨tr, tr⟩ ?_
      refine AW.block ?_
      refine AW.loopQ (σ := Nat × F64 × Int) (fun p => ⟨[(4, (vB (v1.ge (Fl.mk (k := .f64) 4602678819172646912 (by decide))))), (5, (vc (.flt .f64 (((Fl.mk (k := .f64) 4602678819172646912 (by decide)).sub (v1.sub (Fl.mk (k := .f64) 4602678819172646912 (by decide)))).mul (Fl.mk (k := .f64) 4618760256179416344 (by decide))).bits))), (6, (vc (.flt .f64 ((((Fl.mk (k := .f64) 4602678819172646912 (by decide)).sub (v1.sub (Fl.mk (k := .f64) 4602678819172646912 (by decide)))).mul (Fl.mk (k := .f64) 4618760256179416344 (by decide))).mul (((Fl.mk (k := .f64) 4602678819172646912 (by decide)).sub (v1.sub (Fl.mk (k := .f64) 4602678819172646912 (by decide)))).mul (Fl.mk (k := .f64) 4618760256179416344 (by decide)))).bits))), (7, (vc (.flt .f64 p.2.1.bits))), (8, (vI p.2.2))], []⟩) (fun p => impl_sine_l1 K v1 p.1 p.2.1 p.2.2 = some o) (fun p => p.1) (K, (Fl.mk (k := .f64) 4607182418800017408 (by decide)), (8 : Int)) h ?_
      clear h
      rintro ⟨k, x7, x8⟩ h
      replace h : impl_sine_l1 K v1 k x7 x8 = some o := h
      show AW _ _ (⟨[(4, (vB (v1.ge (Fl.mk (k := .f64) 4602678819172646912 (by decide))))), (5, (vc (.flt .f64 (((Fl.mk (k := .f64) 4602678819172646912 (by decide)).sub (v1.sub (Fl.mk (k := .f64) 4602678819172646912 (by decide)))).mul (Fl.mk (k := .f64) 4618760256179416344 (by decide))).bits))), (6, (vc (.flt .f64 ((((Fl.mk (k := .f64) 4602678819172646912 (by decide)).sub (v1.sub (Fl.mk (k := .f64) 4602678819172646912 (by decide)))).mul (Fl.mk (k := .f64) 4618760256179416344 (by decide))).mul (((Fl.mk (k := .f64) 4602678819172646912 (by decide)).sub (v1.sub (Fl.mk (k := .f64) 4602678819172646912 (by decide)))).mul (Fl.mk (k := .f64) 4618760256179416344 (by decide)))).bits))), (7, (vc (.flt .f64 x7.bits))), (8, (vI x8))], []⟩ : St) _
      obtain _ | k := k
      · rw [impl_sine_l1] at h; cases h
      rw [impl_sine_l1] at h
      refine AW.seq ?_
      refine AW.sA ⟨[(4, (vB (v1.ge (Fl.mk (k := .f64) 4602678819172646912 (by decide))))), (5, (vc (.flt .f64 (((Fl.mk (k := .f64) 4602678819172646912 (by decide)).sub (v1.sub (Fl.mk (k := .f64) 4602678819172646912 (by decide)))).mul (Fl.mk (k := .f64) 4618760256179416344 (by decide))).bits))), (6, (vc (.flt .f64 ((((Fl.mk (k := .f64) 4602678819172646912 (by decide)).sub (v1.sub (Fl.mk (k := .f64) 4602678819172646912 (by decide)))).mul (Fl.mk (k := .f64) 4618760256179416344 (by decide))).mul (((Fl.mk (k := .f64) 4602678819172646912 (by decide)).sub (v1.sub (Fl.mk (k := .f64) 4602678819172646912 (by decide)))).mul (Fl.mk (k := .f64) 4618760256179416344 (by decide)))).bits))), (7, (vc (.flt .f64 x7.bits))), (8, (vI x8)), (26, (vB (decide (x8 ≥ (1 : Int)))))], []⟩ (T2 Tt) [] [4, 5, 6, 7, 8, 26] [] ⟨tr, tr, tr⟩ ?_
      rcases ite2_cases h with ⟨b9, h⟩ | ⟨b9, h⟩
      · refine AW.cond_t rfl b9 ?_
        refine AW.skip ?_
        refine thenQ_normal ?_
        refine AW.seq ?_
        refine AW.block ?_
        refine AW.rA ⟨[(4, (vB (v1.ge (Fl.mk (k := .f64) 4602678819172646912 (by decide))))), (5, (vc (.flt .f64 (((Fl.mk (k := .f64) 4602678819172646912 (by decide)).sub (v1.sub (Fl.mk (k := .f64) 4602678819172646912 (by decide)))).mul (Fl.mk (k := .f64) 4618760256179416344 (by decide))).bits))), (6, (vc (.flt .f64 ((((Fl.mk (k := .f64) 4602678819172646912 (by decide)).sub (v1.sub (Fl.mk (k := .f64) 4602678819172646912 (by decide)))).mul (Fl.mk (k := .f64) 4618760256179416344 (by decide))).mul (((Fl.mk (k := .f64) 4602678819172646912 (by decide)).sub (v1.sub (Fl.mk (k := .f64) 4602678819172646912 (by decide)))).mul (Fl.mk (k := .f64) 4618760256179416344 (by decide)))).bits))), (7, (vc (.flt .f64 ((Fl.mk (k := .f64) 4607182418800017408 (by decide)).sub ((((((Fl.mk (k := .f64) 4602678819172646912 (by decide)).sub (v1.sub (Fl.mk (k := .f64) 4602678819172646912 (by decide)))).mul (Fl.mk (k := .f64) 4618760256179416344 (by decide))).mul (((Fl.mk (k := .f64) 4602678819172646912 (by decide)).sub (v1.sub (Fl.mk (k := .f64) 4602678819172646912 (by decide)))).mul (Fl.mk (k := .f64) 4618760256179416344 (by decide)))).mul x7).div (Fl.ofInt .f64 (IntKind.i64.wrap ((IntKind.i64.wrap ((2 : Int) * x8)) * (IntKind.i64.wrap ((IntKind.i64.wrap ((2 : Int) * x8)) + (1 : Int)))))))).bits))), (8, (vI x8))], []⟩ (Tt ∧ T4 (T4 (T4 Tt))) [] [4, 5, 6, 7, 8] [] ⟨tr, tr, tr, tr, tr, tr, tr, tr, tr, tr, tr, tr, tr, tr⟩ ?_
        refine blockQ_normal ?_
        refine thenQ_normal ?_
        refine AW.rA ⟨[(4, (vB (v1.ge (Fl.mk (k := .f64) 4602678819172646912 (by decide))))), (5, (vc (.flt .f64 (((Fl.mk (k := .f64) 4602678819172646912 (by decide)).sub (v1.sub (Fl.mk (k := .f64) 4602678819172646912 (by decide)))).mul (Fl.mk (k := .f64) 4618760256179416344 (by decide))).bits))), (6, (vc (.flt .f64 ((((Fl.mk (k := .f64) 4602678819172646912 (by decide)).sub (v1.sub (Fl.mk (k := .f64) 4602678819172646912 (by decide)))).mul (Fl.mk (k := .f64) 4618760256179416344 (by decide))).mul (((Fl.mk (k := .f64) 4602678819172646912 (by decide)).sub (v1.sub (Fl.mk (k := .f64) 4602678819172646912 (by decide)))).mul (Fl.mk (k := .f64) 4618760256179416344 (by decide)))).bits))), (7, (vc (.flt .f64 ((Fl.mk (k := .f64) 4607182418800017408 (by decide)).sub ((((((Fl.mk (k := .f64) 4602678819172646912 (by decide)).sub (v1.sub (Fl.mk (k := .f64) 4602678819172646912 (by decide)))).mul (Fl.mk (k := .f64) 4618760256179416344 (by decide))).mul (((Fl.mk (k := .f64) 4602678819172646912 (by decide)).sub (v1.sub (Fl.mk (k := .f64) 4602678819172646912 (by decide)))).mul (Fl.mk (k := .f64) 4618760256179416344 (by decide)))).mul x7).div (Fl.ofInt .f64 (IntKind.i64.wrap ((IntKind.i64.wrap ((2 : Int) * x8)) * (IntKind.i64.wrap ((IntKind.i64.wrap ((2 : Int) * x8)) + (1 : Int)))))))).bits))), (8, (vI (IntKind.i64.wrap (x8 - (1 : Int)))))], []⟩ (Tt ∧ T2 Tt) [] [4, 5, 6, 7, 8] [] ⟨tr, tr, tr, tr⟩ ?_
        exact loopQ_normal (k, ((Fl.mk (k := .f64) 4607182418800017408 (by decide)).sub ((((((Fl.mk (k := .f64) 4602678819172646912 (by decide)).sub (v1.sub (Fl.mk (k := .f64) 4602678819172646912 (by decide)))).mul (Fl.mk (k := .f64) 4618760256179416344 (by decide))).mul (((Fl.mk (k := .f64) 4602678819172646912 (by decide)).sub (v1.sub (Fl.mk (k := .f64) 4602678819172646912 (by decide)))).mul (Fl.mk (k := .f64) 4618760256179416344 (by decide)))).mul x7).div (Fl.ofInt .f64 (IntKind.i64.wrap ((IntKind.i64.wrap ((2 : Int) * x8)) * (IntKind.i64.wrap ((IntKind.i64.wrap ((2 : Int) * x8)) + (1 : Int)))))))), (IntKind.i64.wrap (x8 - (1 : Int)))) h (Nat.lt_succ_self k) (Sub.keep [4, 5, 6, 7, 8] [] (by kernel_rfl) (by kernel_rfl))
      · refine AW.cond_f rfl b9 ?_
        refine AW.exit ?_
        refine thenQ_exit ?_
        refine loopQ_exit ?_
        refine blockQ_exit ?_
        refine thenQ_normal ?_
        refine AW.seq ?_
        refine AW.sA ⟨[(5, (vc (.flt .f64 (((Fl.mk (k := .f64) 4602678819172646912 (by decide)).sub (v1.sub (Fl.mk (k := .f64) 4602678819172646912 (by decide)))).mul (Fl.mk (k := .f64) 4618760256179416344 (by decide))).bits))), (7, (vc (.flt .f64 x7.bits))), (41, (vB (v1.ge (Fl.mk (k := .f64) 4602678819172646912 (by decide)))))], []⟩ (Tt ∧ Tt) [] [5, 7, 41] [] ⟨tr, tr⟩ ?_
        rcases ite2_cases h with ⟨b10, h⟩ | ⟨b10, h⟩
        · refine AW.cond_t rfl b10 ?_
          refine AW.sA ⟨[(2, (vc (.flt .f64 (((((Fl.mk (k := .f64) 4602678819172646912 (by decide)).sub (v1.sub (Fl.mk (k := .f64) 4602678819172646912 (by decide)))).mul (Fl.mk (k := .f64) 4618760256179416344 (by decide))).mul x7).neg).bits)))], []⟩ (Tt ∧ T4 Tt) [] [2] [] ⟨tr, tr, tr, tr, tr, tr⟩ ?_
          refine AW.ret ?_
          refine thenQ_ret ?_
          replace h := some_eq h
          subst h
          exact ⟨.inr rfl, retOK_of [(.one (.c (.flt .f64 (((((Fl.mk (k := .f64) 4602678819172646912 (by decide)).sub (v1.sub (Fl.mk (k := .f64) 4602678819172646912 (by decide)))).mul (Fl.mk (k := .f64) 4618760256179416344 (by decide))).mul x7).neg).bits)))] (by kernel_rfl) ⟨⟨rfl, tr⟩, tr⟩ (of_decide_eq_true (by kernel_rfl))⟩
        · refine AW.cond_f rfl b10 ?_
          refine AW.skip ?_
          refine thenQ_normal ?_
          refine AW.sA ⟨[(2, (vc (.flt .f64 ((((Fl.mk (k := .f64) 4602678819172646912 (by decide)).sub (v1.sub (Fl.mk (k := .f64) 4602678819172646912 (by decide)))).mul (Fl.mk (k := .f64) 4618760256179416344 (by decide))).mul x7).bits)))], []⟩ (T4 Tt) [] [2] [] ⟨tr, tr, tr, tr, tr⟩ ?_
          refine AW.ret ?_
          replace h := some_eq h
          subst h
          exact ⟨.inr rfl, retOK_of [(.one (.c (.flt .f64 ((((Fl.mk (k := .f64) 4602678819172646912 (by decide)).sub (v1.sub (Fl.mk (k := .f64) 4602678819172646912 (by decide)))).mul (Fl.mk (k := .f64) 4618760256179416344 (by decide))).mul x7).bits)))] (by kernel_rfl) ⟨⟨rfl, tr⟩, tr⟩ (of_decide_eq_true (by kernel_rfl))⟩
    · refine AW.cond_f rfl b4 ?_
      refine AW.skip ?_
      refine thenQ_normal ?_
      refine AW.sC (Tt ∧ T2 Tt) [] [4, 5] [] ⟨tr, tr, tr, tr⟩ ?_
      refine AW.sC (T4 Tt) [] [4, 5, 6] [] ⟨tr, tr, tr, tr, tr⟩ ?_
      refine AW.sC (Tt ∧ Tt) [] [4, 5, 6, 7] [] ⟨tr, tr⟩ ?_
      refine AW.seq ?_
      refine AW.sA ⟨[(4, (vB (v1.ge (Fl.mk (k := .f64) 4602678819172646912 (by decide))))), (5, (vc (.flt .f64 ((v1.sub (Fl.mk (k := .f64) 4602678819172646912 (by decide))).mul (Fl.mk (k := .f64) 4618760256179416344 (by decide))).bits))), (6, (vc (.flt .f64 (((v1.sub (Fl.mk (k := .f64) 4602678819172646912 (by decide))).mul (Fl.mk (k := .f64) 4618760256179416344 (by decide))).mul ((v1.sub (Fl.mk (k := .f64) 4602678819172646912 (by decide))).mul (Fl.mk (k := .f64) 4618760256179416344 (by decide)))).bits))), (7, (vc (.flt .f64 (Fl.mk (k := .f64) 4607182418800017408 (by decide)).bits))), (8, (vI (8 : Int)))], []⟩ (Tt ∧ Tt) [] [4, 5, 6, 7, 8] [] ⟨tr, tr⟩ ?_
      refine AW.block ?_
      refine AW.loopQ (σ := Nat × F64 × Int) (fun p => ⟨[(4, (vB (v1.ge (Fl.mk (k := .f64) 4602678819172646912 (by decide))))), (5, (vc (.flt .f64 ((v1.sub (Fl.mk (k := .f64) 4602678819172646912 (by decide))).mul (Fl.mk (k := .f64) 4618760256179416344 (by decide))).bits))), (6, (vc (.flt .f64 (((v1.sub (Fl.mk (k := .f64) 4602678819172646912 (by decide))).mul (Fl.mk (k := .f64) 4618760256179416344 (by decide))).mul ((v1.sub (Fl.mk (k := .f64) 4602678819172646912 (by decide))).mul (Fl.mk (k := .f64) 4618760256179416344 (by decide)))).bits))), (7, (vc (.flt .f64 p.2.1.bits))), (8, (vI p.2.2))], []⟩) (fun p => impl_sine_l2 K v1 p.1 p.2.1 p.2.2 = some o) (fun p => p.1) (K, (Fl.mk (k := .f64) 4607182418800017408 (by decide)), (8 : Int)) h ?_
      clear h
      rintro ⟨k, x13, x14⟩ h
      replace h : impl_sine_l2 K v1 k x13 x14 = some o := h
      show AW _ _ (⟨[(4, (vB (v1.ge (Fl.mk (k := .f64) 4602678819172646912 (by decide))))), (5, (vc (.flt .f64 ((v1.sub (Fl.mk (k := .f64) 4602678819172646912 (by decide))).mul (Fl.mk (k := .f64) 4618760256179416344 (by decide))).bits))), (6, (vc (.flt .f64 (((v1.sub (Fl.mk (k := .f64) 4602678819172646912 (by decide))).mul (Fl.mk (k := .f64) 4618760256179416344 (by decide))).mul ((v1.sub (Fl.mk (k := .f64) 4602678819172646912 (by decide))).mul (Fl.mk (k := .f64) 4618760256179416344 (by decide)))).bits))), (7, (vc (.flt .f64 x13.bits))), (8, (vI x14))], []⟩ : St) _
      obtain _ | k := k
      · rw [impl_sine_l2] at h; cases h
      rw [impl_sine_l2] at h
      refine AW.seq ?_
      refine AW.sA ⟨[(4, (vB (v1.ge (Fl.mk (k := .f64) 4602678819172646912 (by decide))))), (5, (vc (.flt .f64 ((v1.sub (Fl.mk (k := .f64) 4602678819172646912 (by decide))).mul (Fl.mk (k := .f64) 4618760256179416344 (by decide))).bits))), (6, (vc (.flt .f64 (((v1.sub (Fl.mk (k := .f64) 4602678819172646912 (by decide))).mul (Fl.mk (k := .f64) 4618760256179416344 (by decide))).mul ((v1.sub (Fl.mk (k := .f64) 4602678819172646912 (by decide))).mul (Fl.mk (k := .f64) 4618760256179416344 (by decide)))).bits))), (7, (vc (.flt .f64 x13.bits))), (8, (vI x14)), (26, (vB (decide (x14 ≥ (1 : Int)))))], []⟩ (T2 Tt) [] [4, 5, 6, 7, 8, 26] [] ⟨tr, tr, tr⟩ ?_
      rcases ite2_cases h with ⟨b15, h⟩ | ⟨b15, h⟩
      · refine AW.cond_t rfl b15 ?_
        refine AW.skip ?_
        refine thenQ_normal ?_
        refine AW.seq ?_
        refine AW.block ?_
        refine AW.rA ⟨[(4, (vB (v1.ge (Fl.mk (k := .f64) 4602678819172646912 (by decide))))), (5, (vc (.flt .f64 ((v1.sub (Fl.mk (k := .f64) 4602678819172646912 (by decide))).mul (Fl.mk (k := .f64) 4618760256179416344 (by decide))).bits))), (6, (vc (.flt .f64 (((v1.sub (Fl.mk (k := .f64) 4602678819172646912 (by decide))).mul (Fl.mk (k := .f64) 4618760256179416344 (by decide))).mul ((v1.sub (Fl.mk (k := .f64) 4602678819172646912 (by decide))).mul (Fl.mk (k := .f64) 4618760256179416344 (by decide)))).bits))), (7, (vc (.flt .f64 ((Fl.mk (k := .f64) 4607182418800017408 (by decide)).sub (((((v1.sub (Fl.mk (k := .f64) 4602678819172646912 (by decide))).mul (Fl.mk (k := .f64) 4618760256179416344 (by decide))).mul ((v1.sub (Fl.mk (k := .f64) 4602678819172646912 (by decide))).mul (Fl.mk (k := .f64) 4618760256179416344 (by decide)))).mul x13).div (Fl.ofInt .f64 (IntKind.i64.wrap ((IntKind.i64.wrap ((2 : Int) * x14)) * (IntKind.i64.wrap ((IntKind.i64.wrap ((2 : Int) * x14)) + (1 : Int)))))))).bits))), (8, (vI x14))], []⟩ (Tt ∧ T4 (T4 (T4 Tt))) [] [4, 5, 6, 7, 8] [] ⟨tr, tr, tr, tr, tr, tr, tr, tr, tr, tr, tr, tr, tr, tr⟩ ?_
        refine blockQ_normal ?_
        refine thenQ_normal ?_
        refine AW.rA ⟨[(4, (vB (v1.ge (Fl.mk (k := .f64) 4602678819172646912 (by decide))))), (5, (vc (.flt .f64 ((v1.sub (Fl.mk (k := .f64) 4602678819172646912 (by decide))).mul (Fl.mk (k := .f64) 4618760256179416344 (by decide))).bits))), (6, (vc (.flt .f64 (((v1.sub (Fl.mk (k := .f64) 4602678819172646912 (by decide))).mul (Fl.mk (k := .f64) 4618760256179416344 (by decide))).mul ((v1.sub (Fl.mk (k := .f64) 4602678819172646912 (by decide))).mul (Fl.mk (k := .f64) 4618760256179416344 (by decide)))).bits))), (7, (vc (.flt .f64 ((Fl.mk (k := .f64) 4607182418800017408 (by decide)).sub (((((v1.sub (Fl.mk (k := .f64) 4602678819172646912 (by decide))).mul (Fl.mk (k := .f64) 4618760256179416344 (by decide))).mul ((v1.sub (Fl.mk (k := .f64) 4602678819172646912 (by decide))).mul (Fl.mk (k := .f64) 4618760256179416344 (by decide)))).mul x13).div (Fl.ofInt .f64 (IntKind.i64.wrap ((IntKind.i64.wrap ((2 : Int) * x14)) * (IntKind.i64.wrap ((IntKind.i64.wrap ((2 : Int) * x14)) + (1 : Int)))))))).bits))), (8, (vI (IntKind.i64.wrap (x14 - (1 : Int)))))], []⟩ (Tt ∧ T2 Tt) [] [4, 5, 6, 7, 8] [] ⟨tr, tr, tr, tr⟩ ?_
        exact loopQ_normal (k, ((Fl.mk (k := .f64) 4607182418800017408 (by decide)).sub (((((v1.sub (Fl.mk (k := .f64) 4602678819172646912 (by decide))).mul (Fl.mk (k := .f64) 4618760256179416344 (by decide))).mul ((v1.sub (Fl.mk (k := .f64) 4602678819172646912 (by decide))).mul (Fl.mk (k := .f64) 4618760256179416344 (by decide)))).mul x13).div (Fl.ofInt .f64 (IntKind.i64.wrap ((IntKind.i64.wrap ((2 : Int) * x14)) * (IntKind.i64.wrap ((IntKind.i64.wrap ((2 : Int) * x14)) + (1 : Int)))))))), (IntKind.i64.wrap (x14 - (1 : Int)))) h (Nat.lt_succ_self k) (Sub.keep [4, 5, 6, 7, 8] [] (by kernel_rfl) (by kernel_rfl))
      · refine AW.cond_f rfl b15 ?_
        refine AW.exit ?_
        refine thenQ_exit ?_
        refine loopQ_exit ?_
        refine blockQ_exit ?_
        refine thenQ_normal ?_
        refine AW.seq ?_
        refine AW.sA ⟨[(5, (vc (.flt .f64 ((v1.sub (Fl.mk (k := .f64) 4602678819172646912 (by decide))).mul (Fl.mk (k := .f64) 4618760256179416344 (by decide))).bits))), (7, (vc (.flt .f64 x13.bits))), (41, (vB (v1.ge (Fl.mk (k := .f64) 4602678819172646912 (by decide)))))], []⟩ (Tt ∧ Tt) [] [5, 7, 41] [] ⟨tr, tr⟩ ?_
        rcases ite2_cases h with ⟨b16, h⟩ | ⟨b16, h⟩
        · refine AW.cond_t rfl b16 ?_
          refine AW.sA ⟨[(2, (vc (.flt .f64 ((((v1.sub (Fl.mk (k := .f64) 4602678819172646912 (by decide))).mul (Fl.mk (k := .f64) 4618760256179416344 (by decide))).mul x13).neg).bits)))], []⟩ (Tt ∧ T4 Tt) [] [2] [] ⟨tr, tr, tr, tr, tr, tr⟩ ?_
          refine AW.ret ?_
          refine thenQ_ret ?_
          replace h := some_eq h
          subst h
          exact ⟨.inr rfl, retOK_of [(.one (.c (.flt .f64 ((((v1.sub (Fl.mk (k := .f64) 4602678819172646912 (by decide))).mul (Fl.mk (k := .f64) 4618760256179416344 (by decide))).mul x13).neg).bits)))] (by kernel_rfl) ⟨⟨rfl, tr⟩, tr⟩ (of_decide_eq_true (by kernel_rfl))⟩
        · refine AW.cond_f rfl b16 ?_
          refine AW.skip ?_
          refine thenQ_normal ?_
          refine AW.sA ⟨[(2, (vc (.flt .f64 (((v1.sub (Fl.mk (k := .f64) 4602678819172646912 (by decide))).mul (Fl.mk (k := .f64) 4618760256179416344 (by decide))).mul x13).bits)))], []⟩ (T4 Tt) [] [2] [] ⟨tr, tr, tr, tr, tr⟩ ?_
          refine AW.ret ?_
          replace h := some_eq h
          subst h
          exact ⟨.inr rfl, retOK_of [(.one (.c (.flt .f64 (((v1.sub (Fl.mk (k := .f64) 4602678819172646912 (by decide))).mul (Fl.mk (k := .f64) 4618760256179416344 (by decide))).mul x13).bits)))] (by kernel_rfl) ⟨⟨rfl, tr⟩, tr⟩ (of_decide_eq_true (by kernel_rfl))⟩
  · refine AW.cond_f rfl b3 ?_
    refine AW.skip ?_
    refine thenQ_normal ?_
    refine AW.seq ?_
    refine AW.sA ⟨[(3, (vc (.flt .f64 v1.bits))), (4, (vB (v1.ge (Fl.mk (k := .f64) 4602678819172646912 (by decide))))), (17, (vB (v1.gt (Fl.mk (k := .f64) 4598175219545276416 (by decide)))))], []⟩ (T2 Tt) [] [3, 4, 17] [] ⟨tr, tr, tr⟩ ?_
    rcases ite2_cases h with ⟨b17, h⟩ | ⟨b17, h⟩
    · refine AW.cond_t rfl b17 ?_
      refine AW.tC (Tt ∧ T2 Tt) [] [3, 4] [] ⟨tr, tr, tr, tr⟩ ?_
      refine AW.sC (Tt ∧ T2 Tt) [] [4, 5] [] ⟨tr, tr, tr, tr⟩ ?_
      refine AW.sC (T4 Tt) [] [4, 5, 6] [] ⟨tr, tr, tr, tr, tr⟩ ?_
      refine AW.sC (Tt ∧ Tt) [] [4, 5, 6, 7] [] ⟨tr, tr⟩ ?_
      refine AW.seq ?_
      refine AW.sA ⟨[(4, (vB (v1.ge (Fl.mk (k := .f64) 4602678819172646912 (by decide))))), (5, (vc (.flt .f64 (((Fl.mk (k := .f64) 4602678819172646912 (by decide)).sub v1).mul (Fl.mk (k := .f64) 4618760256179416344 (by decide))).bits))), (6, (vc (.flt .f64 ((((Fl.mk (k := .f64) 4602678819172646912 (by decide)).sub v1).mul (Fl.mk (k := .f64) 4618760256179416344 (by decide))).mul (((Fl.mk (k := .f64) 4602678819172646912 (by decide)).sub v1).mul (Fl.mk (k := .f64) 4618760256179416344 (by decide)))).bits))), (7, (vc (.flt .f64 (Fl.mk (k := .f64) 4607182418800017408 (by decide)).bits))), (8, (vI (8 : Int)))], []⟩ (Tt ∧ Tt) [] [4, 5, 6, 7, 8] [] ⟨tr, tr⟩ ?_
      refine AW.block ?_
      refine AW.loopQ (σ := Nat × F64 × Int) (fun p => ⟨[(4, (vB (v1.ge (Fl.mk (k := .f64) 4602678819172646912 (by decide))))), (5, (vc (.flt .f64 (((Fl.mk (k := .f64) 4602678819172646912 (by decide)).sub v1).mul (Fl.mk (k := .f64) 4618760256179416344 (by decide))).bits))), (6, (vc (.flt .f64 ((((Fl.mk (k := .f64) 4602678819172646912 (by decide)).sub v1).mul (Fl.mk (k := .f64) 4618760256179416344 (by decide))).mul (((Fl.mk (k := .f64) 4602678819172646912 (by decide)).sub v1).mul (Fl.mk (k := .f64) 4618760256179416344 (by decide)))).bits))), (7, (vc (.flt .f64 p.2.1.bits))), (8, (vI p.2.2))], []⟩) (fun p => impl_sine_l3 K v1 p.1 p.2.1 p.2.2 = some o) (fun p => p.1) (K, (Fl.mk (k := .f64) 4607182418800017408 (by decide)), (8 : Int)) h ?_
      clear h
      rintro ⟨k, x20, x21⟩ h
      replace h : impl_sine_l3 K v1 k x20 x21 = some o := h
      show AW _ _ (⟨[(4, (vB (v1.ge (Fl.mk (k := .f64) 4602678819172646912 (by decide))))), (5, (vc (.flt .f64 (((Fl.mk (k := .f64) 4602678819172646912 (by decide)).sub v1).mul (Fl.mk (k := .f64) 4618760256179416344 (by decide))).bits))), (6, (vc (.flt .f64 ((((Fl.mk (k := .f64) 4602678819172646912 (by decide)).sub v1).mul (Fl.mk (k := .f64) 4618760256179416344 (by decide))).mul (((Fl.mk (k := .f64) 4602678819172646912 (by decide)).sub v1).mul (Fl.mk (k := .f64) 4618760256179416344 (by decide)))).bits))), (7, (vc (.flt .f64 x20.bits))), (8, (vI x21))], []⟩ : St) _
      obtain _ | k := k
      · rw [impl_sine_l3] at h; cases h
      rw [impl_sine_l3] at h
      refine AW.seq ?_
      refine AW.sA ⟨[(4, (vB (v1.ge (Fl.mk (k := .f64) 4602678819172646912 (by decide))))), (5, (vc (.flt .f64 (((Fl.mk (k := .f64) 4602678819172646912 (by decide)).sub v1).mul (Fl.mk (k := .f64) 4618760256179416344 (by decide))).bits))), (6, (vc (.flt .f64 ((((Fl.mk (k := .f64) 4602678819172646912 (by decide)).sub v1).mul (Fl.mk (k := .f64) 4618760256179416344 (by decide))).mul (((Fl.mk (k := .f64) 4602678819172646912 (by decide)).sub v1).mul (Fl.mk (k := .f64) 4618760256179416344 (by decide)))).bits))), (7, (vc (.flt .f64 x20.bits))), (8, (vI x21)), (26, (vB (decide (x21 ≥ (1 : Int)))))], []⟩ (T2 Tt) [] [4, 5, 6, 7, 8, 26] [] ⟨tr, tr, tr⟩ ?_
      rcases ite2_cases h with ⟨b22, h⟩ | ⟨b22, h⟩
      · refine AW.cond_t rfl b22 ?_
        refine AW.skip ?_
        refine thenQ_normal ?_
        refine AW.seq ?_
        refine AW.block ?_
        refine AW.rA ⟨[(4, (vB (v1.ge (Fl.mk (k := .f64) 4602678819172646912 (by decide))))), (5, (vc (.flt .f64 (((Fl.mk (k := .f64) 4602678819172646912 (by decide)).sub v1).mul (Fl.mk (k := .f64) 4618760256179416344 (by decide))).bits))), (6, (vc (.flt .f64 ((((Fl.mk (k := .f64) 4602678819172646912 (by decide)).sub v1).mul (Fl.mk (k := .f64) 4618760256179416344 (by decide))).mul (((Fl.mk (k := .f64) 4602678819172646912 (by decide)).sub v1).mul (Fl.mk (k := .f64) 4618760256179416344 (by decide)))).bits))), (7, (vc (.flt .f64 ((Fl.mk (k := .f64) 4607182418800017408 (by decide)).sub ((((((Fl.mk (k := .f64) 4602678819172646912 (by decide)).sub v1).mul (Fl.mk (k := .f64) 4618760256179416344 (by decide))).mul (((Fl.mk (k := .f64) 4602678819172646912 (by decide)).sub v1).mul (Fl.mk (k := .f64) 4618760256179416344 (by decide)))).mul x20).div (Fl.ofInt .f64 (IntKind.i64.wrap ((IntKind.i64.wrap ((2 : Int) * x21)) * (IntKind.i64.wrap ((IntKind.i64.wrap ((2 : Int) * x21)) + (1 : Int)))))))).bits))), (8, (vI x21))], []⟩ (Tt ∧ T4 (T4 (T4 Tt))) [] [4, 5, 6, 7, 8] [] ⟨tr, tr, tr, tr, tr, tr, tr, tr, tr, tr, tr, tr, tr, tr⟩ ?_
        refine blockQ_normal ?_
        refine thenQ_normal ?_
        refine AW.rA ⟨[(4, (vB (v1.ge (Fl.mk (k := .f64) 4602678819172646912 (by decide))))), (5, (vc (.flt .f64 (((Fl.mk (k := .f64) 4602678819172646912 (by decide)).sub v1).mul (Fl.mk (k := .f64) 4618760256179416344 (by decide))).bits))), (6, (vc (.flt .f64 ((((Fl.mk (k := .f64) 4602678819172646912 (by decide)).sub v1).mul (Fl.mk (k := .f64) 4618760256179416344 (by decide))).mul (((Fl.mk (k := .f64) 4602678819172646912 (by decide)).sub v1).mul (Fl.mk (k := .f64) 4618760256179416344 (by decide)))).bits))), (7, (vc (.flt .f64 ((Fl.mk (k := .f64) 4607182418800017408 (by decide)).sub ((((((Fl.mk (k := .f64) 4602678819172646912 (by decide)).sub v1).mul (Fl.mk (k := .f64) 4618760256179416344 (by decide))).mul (((Fl.mk (k := .f64) 4602678819172646912 (by decide)).sub v1).mul (Fl.mk (k := .f64) 4618760256179416344 (by decide)))).mul x20).div (Fl.ofInt .f64 (IntKind.i64.wrap ((IntKind.i64.wrap ((2 : Int) * x21)) * (IntKind.i64.wrap ((IntKind.i64.wrap ((2 : Int) * x21)) + (1 : Int)))))))).bits))), (8, (vI (IntKind.i64.wrap (x21 - (1 : Int)))))], []⟩ (Tt ∧ T2 Tt) [] [4, 5, 6, 7, 8] [] ⟨tr, tr, tr, tr⟩ ?_
        exact loopQ_normal (k, ((Fl.mk (k := .f64) 4607182418800017408 (by decide)).sub ((((((Fl.mk (k := .f64) 4602678819172646912 (by decide)).sub v1).mul (Fl.mk (k := .f64) 4618760256179416344 (by decide))).mul (((Fl.mk (k := .f64) 4602678819172646912 (by decide)).sub v1).mul (Fl.mk (k := .f64) 4618760256179416344 (by decide)))).mul x20).div (Fl.ofInt .f64 (IntKind.i64.wrap ((IntKind.i64.wrap ((2 : Int) * x21)) * (IntKind.i64.wrap ((IntKind.i64.wrap ((2 : Int) * x21)) + (1 : Int)))))))), (IntKind.i64.wrap (x21 - (1 : Int)))) h (Nat.lt_succ_self k) (Sub.keep [4, 5, 6, 7, 8] [] (by kernel_rfl) (by kernel_rfl))
      · refine AW.cond_f rfl b22 ?_
        refine AW.exit ?_
        refine thenQ_exit ?_
        refine loopQ_exit ?_
        refine blockQ_exit ?_
        refine thenQ_normal ?_
        refine AW.seq ?_
        refine AW.sA ⟨[(5, (vc (.flt .f64 (((Fl.mk (k := .f64) 4602678819172646912 (by decide)).sub v1).mul (Fl.mk (k := .f64) 4618760256179416344 (by decide))).bits))), (7, (vc (.flt .f64 x20.bits))), (41, (vB (v1.ge (Fl.mk (k := .f64) 4602678819172646912 (by decide)))))], []⟩ (Tt ∧ Tt) [] [5, 7, 41] [] ⟨tr, tr⟩ ?_
        rcases ite2_cases h with ⟨b23, h⟩ | ⟨b23, h⟩
        · refine AW.cond_t rfl b23 ?_
          refine AW.sA ⟨[(2, (vc (.flt .f64 (((((Fl.mk (k := .f64) 4602678819172646912 (by decide)).sub v1).mul (Fl.mk (k := .f64) 4618760256179416344 (by decide))).mul x20).neg).bits)))], []⟩ (Tt ∧ T4 Tt) [] [2] [] ⟨tr, tr, tr, tr, tr, tr⟩ ?_
          refine AW.ret ?_
          refine thenQ_ret ?_
          replace h := some_eq h
          subst h
          exact ⟨.inr rfl, retOK_of [(.one (.c (.flt .f64 (((((Fl.mk (k := .f64) 4602678819172646912 (by decide)).sub v1).mul (Fl.mk (k := .f64) 4618760256179416344 (by decide))).mul x20).neg).bits)))] (by kernel_rfl) ⟨⟨rfl, tr⟩, tr⟩ (of_decide_eq_true (by kernel_rfl))⟩
        · refine AW.cond_f rfl b23 ?_
          refine AW.skip ?_
          refine thenQ_normal ?_
          refine AW.sA ⟨[(2, (vc (.flt .f64 ((((Fl.mk (k := .f64) 4602678819172646912 (by decide)).sub v1).mul (Fl.mk (k := .f64) 4618760256179416344 (by decide))).mul x20).bits)))], []⟩ (T4 Tt) [] [2] [] ⟨tr, tr, tr, tr, tr⟩ ?_
          refine AW.ret ?_
          replace h := some_eq h
          subst h
          exact ⟨.inr rfl, retOK_of [(.one (.c (.flt .f64 ((((Fl.mk (k := .f64) 4602678819172646912 (by decide)).sub v1).mul (Fl.mk (k := .f64) 4618760256179416344 (by decide))).mul x20).bits)))] (by kernel_rfl) ⟨⟨rfl, tr⟩, tr⟩ (of_decide_eq_true (by kernel_rfl))⟩
    · refine AW.cond_f rfl b17 ?_
      refine AW.skip ?_
      refine thenQ_normal ?_
      refine AW.sC (Tt ∧ T2 Tt) [] [4, 5] [] ⟨tr, tr, tr, tr⟩ ?_
      refine AW.sC (T4 Tt) [] [4, 5, 6] [] ⟨tr, tr, tr, tr, tr⟩ ?_
      refine AW.sC (Tt ∧ Tt) [] [4, 5, 6, 7] [] ⟨tr, tr⟩ ?_
      refine AW.seq ?_
      refine AW.sA ⟨[(4, (vB (v1.ge (Fl.mk (k := .f64) 4602678819172646912 (by decide))))), (5, (vc (.flt .f64 (v1.mul (Fl.mk (k := .f64) 4618760256179416344 (by decide))).bits))), (6, (vc (.flt .f64 ((v1.mul (Fl.mk (k := .f64) 4618760256179416344 (by decide))).mul (v1.mul (Fl.mk (k := .f64) 4618760256179416344 (by decide)))).bits))), (7, (vc (.flt .f64 (Fl.mk (k := .f64) 4607182418800017408 (by decide)).bits))), (8, (vI (8 : Int)))], []⟩ (Tt ∧ Tt) [] [4, 5, 6, 7, 8] [] ⟨tr, tr⟩ ?_
      refine AW.block ?_
      refine AW.loopQ (σ := Nat × F64 × Int) (fun p => ⟨[(4, (vB (v1.ge (Fl.mk (k := .f64) 4602678819172646912 (by decide))))), (5, (vc (.flt .f64 (v1.mul (Fl.mk (k := .f64) 4618760256179416344 (by decide))).bits))), (6, (vc (.flt .f64 ((v1.mul (Fl.mk (k := .f64) 4618760256179416344 (by decide))).mul (v1.mul (Fl.mk (k := .f64) 4618760256179416344 (by decide)))).bits))), (7, (vc (.flt .f64 p.2.1.bits))), (8, (vI p.2.2))], []⟩) (fun p => impl_sine_l4 K v1 p.1 p.2.1 p.2.2 = some o) (fun p => p.1) (K, (Fl.mk (k := .f64) 4607182418800017408 (by decide)), (8 : Int)) h ?_
      clear h
      rintro ⟨k, x26, x27⟩ h
      replace h : impl_sine_l4 K v1 k x26 x27 = some o := h
      show AW _ _ (⟨[(4, (vB (v1.ge (Fl.mk (k := .f64) 4602678819172646912 (by decide))))), (5, (vc (.flt .f64 (v1.mul (Fl.mk (k := .f64) 4618760256179416344 (by decide))).bits))), (6, (vc (.flt .f64 ((v1.mul (Fl.mk (k := .f64) 4618760256179416344 (by decide))).mul (v1.mul (Fl.mk (k := .f64) 4618760256179416344 (by decide)))).bits))), (7, (vc (.flt .f64 x26.bits))), (8, (vI x27))], []⟩ : St) _
      obtain _ | k := k
      · rw [impl_sine_l4] at h; cases h
      rw [impl_sine_l4] at h
      refine AW.seq ?_
      refine AW.sA ⟨[(4, (vB (v1.ge (Fl.mk (k := .f64) 4602678819172646912 (by decide))))), (5, (vc (.flt .f64 (v1.mul (Fl.mk (k := .f64) 4618760256179416344 (by decide))).bits))), (6, (vc (.flt .f64 ((v1.mul (Fl.mk (k := .f64) 4618760256179416344 (by decide))).mul (v1.mul (Fl.mk (k := .f64) 4618760256179416344 (by decide)))).bits))), (7, (vc (.flt .f64 x26.bits))), (8, (vI x27)), (26, (vB (decide (x27 ≥ (1 : Int)))))], []⟩ (T2 Tt) [] [4, 5, 6, 7, 8, 26] [] ⟨tr, tr, tr⟩ ?_
      rcases ite2_cases h with ⟨b28, h⟩ | ⟨b28, h⟩
      · refine AW.cond_t rfl b28 ?_
        refine AW.skip ?_
        refine thenQ_normal ?_
        refine AW.seq ?_
        refine AW.block ?_
        refine AW.rA ⟨[(4, (vB (v1.ge (Fl.mk (k := .f64) 4602678819172646912 (by decide))))), (5, (vc (.flt .f64 (v1.mul (Fl.mk (k := .f64) 4618760256179416344 (by decide))).bits))), (6, (vc (.flt .f64 ((v1.mul (Fl.mk (k := .f64) 4618760256179416344 (by decide))).mul (v1.mul (Fl.mk (k := .f64) 4618760256179416344 (by decide)))).bits))), (7, (vc (.flt .f64 ((Fl.mk (k := .f64) 4607182418800017408 (by decide)).sub ((((v1.mul (Fl.mk (k := .f64) 4618760256179416344 (by decide))).mul (v1.mul (Fl.mk (k := .f64) 4618760256179416344 (by decide)))).mul x26).div (Fl.ofInt .f64 (IntKind.i64.wrap ((IntKind.i64.wrap ((2 : Int) * x27)) * (IntKind.i64.wrap ((IntKind.i64.wrap ((2 : Int) * x27)) + (1 : Int)))))))).bits))), (8, (vI x27))], []⟩ (Tt ∧ T4 (T4 (T4 Tt))) [] [4, 5, 6, 7, 8] [] ⟨tr, tr, tr, tr, tr, tr, tr, tr, tr, tr, tr, tr, tr, tr⟩ ?_
        refine blockQ_normal ?_
        refine thenQ_normal ?_
        refine AW.rA ⟨[(4, (vB (v1.ge (Fl.mk (k := .f64) 4602678819172646912 (by decide))))), (5, (vc (.flt .f64 (v1.mul (Fl.mk (k := .f64) 4618760256179416344 (by decide))).bits))), (6, (vc (.flt .f64 ((v1.mul (Fl.mk (k := .f64) 4618760256179416344 (by decide))).mul (v1.mul (Fl.mk (k := .f64) 4618760256179416344 (by decide)))).bits))), (7, (vc (.flt .f64 ((Fl.mk (k := .f64) 4607182418800017408 (by decide)).sub ((((v1.mul (Fl.mk (k := .f64) 4618760256179416344 (by decide))).mul (v1.mul (Fl.mk (k := .f64) 4618760256179416344 (by decide)))).mul x26).div (Fl.ofInt .f64 (IntKind.i64.wrap ((IntKind.i64.wrap ((2 : Int) * x27)) * (IntKind.i64.wrap ((IntKind.i64.wrap ((2 : Int) * x27)) + (1 : Int)))))))).bits))), (8, (vI (IntKind.i64.wrap (x27 - (1 : Int)))))], []⟩ (Tt ∧ T2 Tt) [] [4, 5, 6, 7, 8] [] ⟨tr, tr, tr, tr⟩ ?_
        exact loopQ_normal (k, ((Fl.mk (k := .f64) 4607182418800017408 (by decide)).sub ((((v1.mul (Fl.mk (k := .f64) 4618760256179416344 (by decide))).mul (v1.mul (Fl.mk (k := .f64) 4618760256179416344 (by decide)))).mul x26).div (Fl.ofInt .f64 (IntKind.i64.wrap ((IntKind.i64.wrap ((2 : Int) * x27)) * (IntKind.i64.wrap ((IntKind.i64.wrap ((2 : Int) * x27)) + (1 : Int)))))))), (IntKind.i64.wrap (x27 - (1 : Int)))) h (Nat.lt_succ_self k) (Sub.keep [4, 5, 6, 7, 8] [] (by kernel_rfl) (by kernel_rfl))
      · refine AW.cond_f rfl b28 ?_
        refine AW.exit ?_
        refine thenQ_exit ?_
        refine loopQ_exit ?_
        refine blockQ_exit ?_
        refine thenQ_normal ?_
        refine AW.seq ?_
        refine AW.sA ⟨[(5, (vc (.flt .f64 (v1.mul (Fl.mk (k := .f64) 4618760256179416344 (by decide))).bits))), (7, (vc (.flt .f64 x26.bits))), (41, (vB (v1.ge (Fl.mk (k := .f64) 4602678819172646912 (by decide)))))], []⟩ (Tt ∧ Tt) [] [5, 7, 41] [] ⟨tr, tr⟩ ?_
        rcases ite2_cases h with ⟨b29, h⟩ | ⟨b29, h⟩
        · refine AW.cond_t rfl b29 ?_
          refine AW.sA ⟨[(2, (vc (.flt .f64 (((v1.mul (Fl.mk (k := .f64) 4618760256179416344 (by decide))).mul x26).neg).bits)))], []⟩ (Tt ∧ T4 Tt) [] [2] [] ⟨tr, tr, tr, tr, tr, tr⟩ ?_
          refine AW.ret ?_
          refine thenQ_ret ?_
          replace h := some_eq h
          subst h
          exact ⟨.inr rfl, retOK_of [(.one (.c (.flt .f64 (((v1.mul (Fl.mk (k := .f64) 4618760256179416344 (by decide))).mul x26).neg).bits)))] (by kernel_rfl) ⟨⟨rfl, tr⟩, tr⟩ (of_decide_eq_true (by kernel_rfl))⟩
        · refine AW.cond_f rfl b29 ?_
          refine AW.skip ?_
          refine thenQ_normal ?_
          refine AW.sA ⟨[(2, (vc (.flt .f64 ((v1.mul (Fl.mk (k := .f64) 4618760256179416344 (by decide))).mul x26).bits)))], []⟩ (T4 Tt) [] [2] [] ⟨tr, tr, tr, tr, tr⟩ ?_
          refine AW.ret ?_
          replace h := some_eq h
          subst h
          exact ⟨.inr rfl, retOK_of [(.one (.c (.flt .f64 ((v1.mul (Fl.mk (k := .f64) 4618760256179416344 (by decide))).mul x26).bits)))] (by kernel_rfl) ⟨⟨rfl, tr⟩, tr⟩ (of_decide_eq_true (by kernel_rfl))⟩

/-! impl.wideSine -/
def impl_wideSine (K : Nat) (a0 : F64) : Option (F64) :=
  ite2 (((a0.sub a0).ne (Fl.mk (k := .f64) 0 (by decide)))) ((math_NaN K ).bind fun v2 => some v2) ((math_Abs K a0).bind fun v4 => ite2 ((v4.ge (Fl.mk (k := .f64) 4841369599423283200 (by decide)))) (some (Fl.mk (k := .f64) 0 (by decide))) ((impl_sine K a0).bind fun v7 => some v7))

theorem ok_impl_wideSine (K : Nat) (a0 : F64) (o : (F64)) (h : impl_wideSine K a0 = some o) : CallOK Try.prog 30 [.one (.flt .f64 a0.bits)] [.one (.flt .f64 o.bits)] := by
  refine callOK_of_AW Try.func30 rfl (by kernel_rfl) (Nat.le_of_ble_eq_true (by kernel_rfl)) ?_
  intro w0
  unfold impl_wideSine at h
  refine AW.sA ⟨[(0, (vc (.flt .f64 a0.bits)))], []⟩ (Tt ∧ Tt) [] [0] [] ⟨tr, tr⟩ ?_
  refine AW.seq ?_
  refine AW.block ?_
  refine AW.sA ⟨[(0, (vc (.flt .f64 a0.bits))), (3, (vB ((a0.sub a0).ne (Fl.mk (k := .f64) 0 (by decide)))))], []⟩ (Tt ∧ T4 Tt) [] [0, 3] [] ⟨tr, tr, tr, tr, tr, tr⟩ ?_
  rcases ite2_cases h with ⟨b1, h⟩ | ⟨b1, h⟩
  · refine AW.cond_t rfl b1 ?_
    refine AW.seq ?_
    obtain ⟨v2, e3, h⟩ := bind_some h
    refine AW.tA ⟨[(2, (vc (.flt .f64 v2.bits)))], []⟩ (((Tt) ∧ CallOK Try.prog 47 [] [.one (.flt .f64 v2.bits)]) ∧ Tt ∧ Tt) [.call [] [.one (.flt .f64 v2.bits)] [[.view]]] [2] [] ⟨⟨tr, ok_math_NaN K v2 e3⟩, tr, tr⟩ ?_
    refine AW.ret ?_
    refine blockQ_ret ?_
    refine thenQ_ret ?_
    replace h := some_eq h
    subst h
    exact ⟨.inr rfl, retOK_of [(.one (.c (.flt .f64 v2.bits)))] (by kernel_rfl) ⟨⟨rfl, tr⟩, tr⟩ (of_decide_eq_true (by kernel_rfl))⟩
  · refine AW.cond_f rfl b1 ?_
    refine AW.seq ?_
    obtain ⟨v4, e5, h⟩ := bind_some h
    refine AW.tA ⟨[(0, (vc (.flt .f64 a0.bits))), (9, (vB (v4.ge (Fl.mk (k := .f64) 4841369599423283200 (by decide)))))], []⟩ (Tt ∧ (((Eqc (.flt .f64 a0.bits)) ∧ Tt) ∧ CallOK Try.prog 45 [.one (.flt .f64 a0.bits)] [.one (.flt .f64 v4.bits)]) ∧ T2 Tt) [.no, .call [.one (.flt .f64 a0.bits)] [.one (.flt .f64 v4.bits)] [[.view]]] [0, 9] [] ⟨tr, ⟨⟨rfl, tr⟩, ok_math_Abs K a0 v4 e5⟩, tr, tr, tr⟩ ?_
    rcases ite2_cases h with ⟨b6, h⟩ | ⟨b6, h⟩
    · refine AW.cond_t rfl b6 ?_
      refine AW.sA ⟨[(2, (vc (.flt .f64 (Fl.mk (k := .f64) 0 (by decide)).bits)))], []⟩ (Tt ∧ Tt) [] [2] [] ⟨tr, tr⟩ ?_
      refine AW.ret ?_
      refine blockQ_ret ?_
      refine thenQ_ret ?_
      replace h := some_eq h
      subst h
      exact ⟨.inr rfl, retOK_of [(.one (.c (.flt .f64 (Fl.mk (k := .f64) 0 (by decide)).bits)))] (by kernel_rfl) ⟨⟨rfl, tr⟩, tr⟩ (of_decide_eq_true (by kernel_rfl))⟩
    · refine AW.cond_f rfl b6 ?_
      refine AW.skip ?_
      refine blockQ_normal ?_
      refine thenQ_normal ?_
      refine AW.seq ?_
      obtain ⟨v7, e8, h⟩ := bind_some h
      refine AW.tA ⟨[(2, (vc (.flt .f64 v7.bits)))], []⟩ (Tt ∧ (((Eqc (.flt .f64 a0.bits)) ∧ Tt) ∧ CallOK Try.prog 48 [.one (.flt .f64 a0.bits)] [.one (.flt .f64 v7.bits)]) ∧ Tt ∧ Tt) [.no, .call [.one (.flt .f64 a0.bits)] [.one (.flt .f64 v7.bits)] [[.view]]] [2] [] ⟨tr, ⟨⟨rfl, tr⟩, ok_impl_sine K a0 v7 e8⟩, tr, tr⟩ ?_
      refine AW.ret ?_
      replace h := some_eq h
      subst h
      exact ⟨.inr rfl, retOK_of [(.one (.c (.flt .f64 v7.bits)))] (by kernel_rfl) ⟨⟨rfl, tr⟩, tr⟩ (of_decide_eq_true (by kernel_rfl))⟩

/-! impl.ScaleVector -/
def impl_ScaleVector (_K : Nat) (a0 : Vector) (a1 : F32) : Option (Vector) :=
  some (Vector.mk (a0.X.mul a1) (a0.Y.mul a1) (a0.Z.mul a1))

theorem ok_impl_ScaleVector (K : Nat) (a0 : Vector) (a1 : F32) (o : (Vector)) (h : impl_ScaleVector K a0 a1 = some o) : CallOK Try.prog 32 [.agg (cs_Vector a0), .one (.flt .f32 a1.bits)] [.agg (cs_Vector o)] := by
  refine callOK_of_AW Try.func32 rfl (by kernel_rfl) (Nat.le_of_ble_eq_true (by kernel_rfl)) ?_
  intro w0
  unfold impl_ScaleVector at h
  refine AW.sC (T2 Tt) [.box 1, .box 2] [1, 2, 4] [1, 2] ⟨tr, tr, tr⟩ ?_
  refine AW.sA ⟨[(4, (vp 2 0))], [(2, (.box [(cF (a0.X.mul a1)), (cF (a0.Y.mul a1)), (cF (a0.Z.mul a1))]))]⟩ (T2 (T4 (T4 (T4 Tt)))) [] [4] [2] ⟨tr, tr, tr, tr, tr, tr, tr, tr, tr, tr, tr, tr, tr, tr, tr⟩ ?_
  refine AW.ret ?_
  replace h := some_eq h
  subst h
  exact ⟨.inr rfl, retOK_of [(.agg [(cF (a0.X.mul a1)), (cF (a0.Y.mul a1)), (cF (a0.Z.mul a1))])] (by kernel_rfl) ⟨⟨⟨rfl, tr⟩, ⟨rfl, tr⟩, ⟨rfl, tr⟩, tr⟩, tr⟩ (of_decide_eq_true (by kernel_rfl))⟩

/-! impl.turnOf -/
def impl_turnOf (_K : Nat) (a0 : F32) (a1 : Vector) : Option (Turn) :=
  some (Turn.mk a0 a1.X a1.Y a1.Z)

theorem ok_impl_turnOf (K : Nat) (a0 : F32) (a1 : Vector) (o : (Turn)) (h : impl_turnOf K a0 a1 = some o) : CallOK Try.prog 31 [.one (.flt .f32 a0.bits), .agg (cs_Vector a1)] [.agg (cs_Turn o)] := by
  refine callOK_of_AW Try.func31 rfl (by kernel_rfl) (Nat.le_of_ble_eq_true (by kernel_rfl)) ?_
  intro w0
  unfold impl_turnOf at h
  refine AW.sC (T2 Tt) [.box 1, .box 2] [0, 3, 4] [1, 2] ⟨tr, tr, tr⟩ ?_
  refine AW.sA ⟨[(4, (vp 2 0))], [(2, (.box [(cF a0), (cF a1.X), (cF a1.Y), (cF a1.Z)]))]⟩ (Tt ∧ T4 (T4 Tt)) [] [4] [2] ⟨tr, tr, tr, tr, tr, tr, tr, tr, tr, tr⟩ ?_
  refine AW.ret ?_
  replace h := some_eq h
  subst h
  exact ⟨.inr rfl, retOK_of [(.agg [(cF a0), (cF a1.X), (cF a1.Y), (cF a1.Z)])] (by kernel_rfl) ⟨⟨⟨rfl, tr⟩, ⟨rfl, tr⟩, ⟨rfl, tr⟩, ⟨rfl, tr⟩, tr⟩, tr⟩ (of_decide_eq_true (by kernel_rfl))⟩

/-! impl.TurnAbout -/
def impl_TurnAbout (K : Nat) (a0 : Vector) (a1 : F32) : Option (Turn) :=
  (impl_LongOf K a0).bind fun v1 => (impl_isLength K v1).bind fun v3 => ite2 ((!v3)) ((impl_NoTurn K ).bind fun v6 => some v6) ((impl_wideSine K ((Fl.cv .f32 .f64 a1).div (Fl.mk (k := .f64) 4611686018427387904 (by decide)))).bind fun v8 => chk ((convBits .f64 v8.bits .f32).isSome = true) ((impl_wideSine K (((Fl.cv .f32 .f64 a1).div (Fl.mk (k := .f64) 4611686018427387904 (by decide))).add (Fl.mk (k := .f64) 4598175219545276416 (by decide)))).bind fun v11 => chk ((convBits .f64 v11.bits .f32).isSome = true) ((impl_Vector_over K a0 v1).bind fun v14 => (impl_ScaleVector K v14 (Fl.cv .f64 .f32 v8)).bind fun v16 => (impl_turnOf K (Fl.cv .f64 .f32 v11) v16).bind fun v18 => some v18)))

theorem ok_impl_TurnAbout (K : Nat) (a0 : Vector) (a1 : F32) (o : (Turn)) (h : impl_TurnAbout K a0 a1 = some o) : CallOK Try.prog 14 [.agg (cs_Vector a0), .one (.flt .f32 a1.bits)] [.agg (cs_Turn o)] := by
  refine callOK_of_AW Try.func14 rfl (by kernel_rfl) (Nat.le_of_ble_eq_true (by kernel_rfl)) ?_
  intro w0
  unfold impl_TurnAbout at h
  refine AW.sC (T2 Tt) [.box 1, .box 2] [1, 2, 4] [1, 2] ⟨tr, tr, tr⟩ ?_
  refine AW.seq ?_
  obtain ⟨v1, e2, h⟩ := bind_some h
  refine AW.tC (Tt ∧ ((((eF a0.X) ∧ (eF a0.Y) ∧ (eF a0.Z) ∧ Tt) ∧ Tt) ∧ CallOK Try.prog 23 [.agg (cs_Vector a0)] [.one (.flt .f32 v1.bits)]) ∧ Tt ∧ Tt) [.no, .call [.agg (cs_Vector a0)] [.one (.flt .f32 v1.bits)] [[.view]]] [1, 2, 4, 5] [1, 2] ⟨tr, ⟨⟨⟨rfl, rfl, rfl, tr⟩, tr⟩, ok_impl_LongOf K a0 v1 e2⟩, tr, tr⟩ ?_
  refine AW.seq ?_
  refine AW.seq ?_
  obtain ⟨v3, e4, h⟩ := bind_some h
  refine AW.tA ⟨[(1, (vc (.flt .f32 a1.bits))), (2, (vp 1 0)), (4, (vp 2 0)), (5, (vc (.flt .f32 v1.bits))), (13, (vB (!v3)))], [(1, (.box [(cF a0.X), (cF a0.Y), (cF a0.Z)])), (2, (.box [(cF (default : F32)), (cF (default : F32)), (cF (default : F32)), (cF (default : F32))]))]⟩ (Tt ∧ (((eF v1) ∧ Tt) ∧ CallOK Try.prog 28 [.one (.flt .f32 v1.bits)] [.one (.bool v3)]) ∧ Tt ∧ Tt) [.no, .call [.one (.flt .f32 v1.bits)] [.one (.bool v3)] [[.view]]] [1, 2, 4, 5, 13] [1, 2] ⟨tr, ⟨⟨rfl, tr⟩, ok_impl_isLength K v1 v3 e4⟩, tr, tr⟩ ?_
  rcases ite2_cases h with ⟨b5, h⟩ | ⟨b5, h⟩
  · refine AW.cond_t rfl b5 ?_
    refine AW.seq ?_
    obtain ⟨v6, e7, h⟩ := bind_some h
    refine AW.tA ⟨[(4, (vp 2 0))], [(2, (.box [(cF v6.W), (cF v6.X), (cF v6.Y), (cF v6.Z)]))]⟩ (((Tt) ∧ CallOK Try.prog 29 [] [.agg (cs_Turn v6)]) ∧ Tt ∧ Tt) [.call [] [.agg (cs_Turn v6)] [[.view, .view, .view, .view]]] [4] [2] ⟨⟨tr, ok_impl_NoTurn K v6 e7⟩, tr, tr⟩ ?_
    refine AW.ret ?_
    refine thenQ_ret ?_
    replace h := some_eq h
    subst h
    exact ⟨.inr rfl, retOK_of [(.agg [(cF v6.W), (cF v6.X), (cF v6.Y), (cF v6.Z)])] (by kernel_rfl) ⟨⟨⟨rfl, tr⟩, ⟨rfl, tr⟩, ⟨rfl, tr⟩, ⟨rfl, tr⟩, tr⟩, tr⟩ (of_decide_eq_true (by kernel_rfl))⟩
  · refine AW.cond_f rfl b5 ?_
    refine AW.skip ?_
    refine thenQ_normal ?_
    refine AW.sC (Tt ∧ ((convBits .f32 a1.bits .f64).isSome = true) ∧ T2 Tt) [] [2, 4, 5, 6] [1, 2] ⟨tr, cv_wide a1, tr, tr, tr⟩ ?_
    refine AW.seq ?_
    obtain ⟨v8, e9, h⟩ := bind_some h
    obtain ⟨c10, h⟩ := chk_some h
    obtain ⟨v11, e12, h⟩ := bind_some h
    obtain ⟨c13, h⟩ := chk_some h
    refine AW.tC (Tt ∧ (((Eqc (.flt .f64 ((Fl.cv .f32 .f64 a1).div (Fl.mk (k := .f64) 4611686018427387904 (by decide))).bits)) ∧ Tt) ∧ CallOK Try.prog 30 [.one (.flt .f64 ((Fl.cv .f32 .f64 a1).div (Fl.mk (k := .f64) 4611686018427387904 (by decide))).bits)] [.one (.flt .f64 v8.bits)]) ∧ ((convBits .f64 v8.bits .f32).isSome = true) ∧ T2 ((((Eqc (.flt .f64 (((Fl.cv .f32 .f64 a1).div (Fl.mk (k := .f64) 4611686018427387904 (by decide))).add (Fl.mk (k := .f64) 4598175219545276416 (by decide))).bits)) ∧ Tt) ∧ CallOK Try.prog 30 [.one (.flt .f64 (((Fl.cv .f32 .f64 a1).div (Fl.mk (k := .f64) 4611686018427387904 (by decide))).add (Fl.mk (k := .f64) 4598175219545276416 (by decide))).bits)] [.one (.flt .f64 v11.bits)]) ∧ ((convBits .f64 v11.bits .f32).isSome = true) ∧ T2 Tt)) [.no, .call [.one (.flt .f64 ((Fl.cv .f32 .f64 a1).div (Fl.mk (k := .f64) 4611686018427387904 (by decide))).bits)] [.one (.flt .f64 v8.bits)] [[.view]], .no, .no, .no, .call [.one (.flt .f64 (((Fl.cv .f32 .f64 a1).div (Fl.mk (k := .f64) 4611686018427387904 (by decide))).add (Fl.mk (k := .f64) 4598175219545276416 (by decide))).bits)] [.one (.flt .f64 v11.bits)] [[.view]]] [2, 4, 5, 7, 8] [1, 2] ⟨tr, ⟨⟨rfl, tr⟩, ok_impl_wideSine K ((Fl.cv .f32 .f64 a1).div (Fl.mk (k := .f64) 4611686018427387904 (by decide))) v8 e9⟩, c10, tr, tr, ⟨⟨rfl, tr⟩, ok_impl_wideSine K (((Fl.cv .f32 .f64 a1).div (Fl.mk (k := .f64) 4611686018427387904 (by decide))).add (Fl.mk (k := .f64) 4598175219545276416 (by decide))) v11 e12⟩, c13, tr, tr, tr⟩ ?_
    refine AW.seq ?_
    obtain ⟨v14, e15, h⟩ := bind_some h
    obtain ⟨v16, e17, h⟩ := bind_some h
    obtain ⟨v18, e19, h⟩ := bind_some h
    refine AW.tA ⟨[(4, (vp 2 0))], [(2, (.box [(cF v18.W), (cF v18.X), (cF v18.Y), (cF v18.Z)]))]⟩ (Tt ∧ T2 (((((eF a0.X) ∧ (eF a0.Y) ∧ (eF a0.Z) ∧ Tt) ∧ (eF v1) ∧ Tt) ∧ CallOK Try.prog 33 [.agg (cs_Vector a0), .one (.flt .f32 v1.bits)] [.agg (cs_Vector v14)]) ∧ Tt ∧ ((((eF v14.X) ∧ (eF v14.Y) ∧ (eF v14.Z) ∧ Tt) ∧ (eF (Fl.cv .f64 .f32 v8)) ∧ Tt) ∧ CallOK Try.prog 32 [.agg (cs_Vector v14), .one (.flt .f32 (Fl.cv .f64 .f32 v8).bits)] [.agg (cs_Vector v16)]) ∧ (((eF (Fl.cv .f64 .f32 v11)) ∧ ((eF v16.X) ∧ (eF v16.Y) ∧ (eF v16.Z) ∧ Tt) ∧ Tt) ∧ CallOK Try.prog 31 [.one (.flt .f32 (Fl.cv .f64 .f32 v11).bits), .agg (cs_Vector v16)] [.agg (cs_Turn v18)]) ∧ Tt ∧ Tt)) [.no, .no, .no, .call [.agg (cs_Vector a0), .one (.flt .f32 v1.bits)] [.agg (cs_Vector v14)] [[.view, .view, .view]], .no, .call [.agg (cs_Vector v14), .one (.flt .f32 (Fl.cv .f64 .f32 v8).bits)] [.agg (cs_Vector v16)] [[.view, .view, .view]], .call [.one (.flt .f32 (Fl.cv .f64 .f32 v11).bits), .agg (cs_Vector v16)] [.agg (cs_Turn v18)] [[.view, .view, .view, .view]]] [4] [2] ⟨tr, tr, tr, ⟨⟨⟨rfl, rfl, rfl, tr⟩, rfl, tr⟩, ok_impl_Vector_over K a0 v1 v14 e15⟩, tr, ⟨⟨⟨rfl, rfl, rfl, tr⟩, rfl, tr⟩, ok_impl_ScaleVector K v14 (Fl.cv .f64 .f32 v8) v16 e17⟩, ⟨⟨rfl, ⟨rfl, rfl, rfl, tr⟩, tr⟩, ok_impl_turnOf K (Fl.cv .f64 .f32 v11) v16 v18 e19⟩, tr, tr⟩ ?_
    refine AW.ret ?_
    replace h := some_eq h
    subst h
    exact ⟨.inr rfl, retOK_of [(.agg [(cF v18.W), (cF v18.X), (cF v18.Y), (cF v18.Z)])] (by kernel_rfl) ⟨⟨⟨rfl, tr⟩, ⟨rfl, tr⟩, ⟨rfl, tr⟩, ⟨rfl, tr⟩, tr⟩, tr⟩ (of_decide_eq_true (by kernel_rfl))⟩

/-! impl.LimitAngle -/
def impl_LimitAngle (K : Nat) (a0 : Turn) (a1 : F32) : Option (Turn) :=
  (impl_AngleOf K a0).bind fun v1 => ite2 ((!(v1.gt a1))) (some a0) ((impl_AxisOf K a0).bind fun v4 => (impl_TurnAbout K v4 a1).bind fun v6 => some v6)

theorem ok_impl_LimitAngle (K : Nat) (a0 : Turn) (a1 : F32) (o : (Turn)) (h : impl_LimitAngle K a0 a1 = some o) : CallOK Try.prog 7 [.agg (cs_Turn a0), .one (.flt .f32 a1.bits)] [.agg (cs_Turn o)] := by
  refine callOK_of_AW Try.func7 rfl (by kernel_rfl) (Nat.le_of_ble_eq_true (by kernel_rfl)) ?_
  intro w0
  unfold impl_LimitAngle at h
  refine AW.sC (T2 Tt) [.box 1, .box 2] [1, 2, 4] [1, 2] ⟨tr, tr, tr⟩ ?_
  refine AW.seq ?_
  refine AW.seq ?_
  obtain ⟨v1, e2, h⟩ := bind_some h
  refine AW.tC (Tt ∧ ((((eF a0.W) ∧ (eF a0.X) ∧ (eF a0.Y) ∧ (eF a0.Z) ∧ Tt) ∧ Tt) ∧ CallOK Try.prog 10 [.agg (cs_Turn a0)] [.one (.flt .f32 v1.bits)]) ∧ Tt ∧ Tt) [.no, .call [.agg (cs_Turn a0)] [.one (.flt .f32 v1.bits)] [[.view]]] [1, 2, 4, 5] [1, 2] ⟨tr, ⟨⟨⟨rfl, rfl, rfl, rfl, tr⟩, tr⟩, ok_impl_AngleOf K a0 v1 e2⟩, tr, tr⟩ ?_
  refine AW.sA ⟨[(1, (vc (.flt .f32 a1.bits))), (2, (vp 1 0)), (4, (vp 2 0)), (11, (vB (!(v1.gt a1))))], [(1, (.box [(cF a0.W), (cF a0.X), (cF a0.Y), (cF a0.Z)])), (2, (.box [(cF (default : F32)), (cF (default : F32)), (cF (default : F32)), (cF (default : F32))]))]⟩ (T4 Tt) [] [1, 2, 4, 11] [1, 2] ⟨tr, tr, tr, tr, tr⟩ ?_
  rcases ite2_cases h with ⟨b3, h⟩ | ⟨b3, h⟩
  · refine AW.cond_t rfl b3 ?_
    refine AW.sA ⟨[(4, (vp 2 0))], [(2, (.box [(cF a0.W), (cF a0.X), (cF a0.Y), (cF a0.Z)]))]⟩ (T2 Tt) [] [4] [2] ⟨tr, tr, tr⟩ ?_
    refine AW.ret ?_
    refine thenQ_ret ?_
    replace h := some_eq h
    subst h
    exact ⟨.inr rfl, retOK_of [(.agg [(cF a0.W), (cF a0.X), (cF a0.Y), (cF a0.Z)])] (by kernel_rfl) ⟨⟨⟨rfl, tr⟩, ⟨rfl, tr⟩, ⟨rfl, tr⟩, ⟨rfl, tr⟩, tr⟩, tr⟩ (of_decide_eq_true (by kernel_rfl))⟩
  · refine AW.cond_f rfl b3 ?_
    refine AW.skip ?_
    refine thenQ_normal ?_
    refine AW.seq ?_
    obtain ⟨v4, e5, h⟩ := bind_some h
    obtain ⟨v6, e7, h⟩ := bind_some h
    refine AW.tA ⟨[(4, (vp 2 0))], [(2, (.box [(cF v6.W), (cF v6.X), (cF v6.Y), (cF v6.Z)]))]⟩ (Tt ∧ ((((eF a0.W) ∧ (eF a0.X) ∧ (eF a0.Y) ∧ (eF a0.Z) ∧ Tt) ∧ Tt) ∧ CallOK Try.prog 19 [.agg (cs_Turn a0)] [.agg (cs_Vector v4)]) ∧ Tt ∧ ((((eF v4.X) ∧ (eF v4.Y) ∧ (eF v4.Z) ∧ Tt) ∧ (eF a1) ∧ Tt) ∧ CallOK Try.prog 14 [.agg (cs_Vector v4), .one (.flt .f32 a1.bits)] [.agg (cs_Turn v6)]) ∧ Tt ∧ Tt) [.no, .call [.agg (cs_Turn a0)] [.agg (cs_Vector v4)] [[.view, .view, .view]], .no, .call [.agg (cs_Vector v4), .one (.flt .f32 a1.bits)] [.agg (cs_Turn v6)] [[.view, .view, .view, .view]]] [4] [2] ⟨tr, ⟨⟨⟨rfl, rfl, rfl, rfl, tr⟩, tr⟩, ok_impl_AxisOf K a0 v4 e5⟩, tr, ⟨⟨⟨rfl, rfl, rfl, tr⟩, rfl, tr⟩, ok_impl_TurnAbout K v4 a1 v6 e7⟩, tr, tr⟩ ?_
    refine AW.ret ?_
    replace h := some_eq h
    subst h
    exact ⟨.inr rfl, retOK_of [(.agg [(cF v6.W), (cF v6.X), (cF v6.Y), (cF v6.Z)])] (by kernel_rfl) ⟨⟨⟨rfl, tr⟩, ⟨rfl, tr⟩, ⟨rfl, tr⟩, ⟨rfl, tr⟩, tr⟩, tr⟩ (of_decide_eq_true (by kernel_rfl))⟩

/-! impl.HingeAngle -/
def impl_HingeAngle (K : Nat) (a0 : Turn) (a1 : Vector) : Option (F32) :=
  (impl_Turn_vector K a0).bind fun v1 => (impl_InnerOf K a1 v1).bind fun v3 => (impl_AngleTurns K v3 a0.W).bind fun v5 => ite2 ((((Fl.mk (k := .f32) 1073741824 (by decide)).mul v5).gt (Fl.mk (k := .f32) 1056964608 (by decide)))) (ite2 (((((Fl.mk (k := .f32) 1073741824 (by decide)).mul v5).sub (Fl.mk (k := .f32) 1065353216 (by decide))).lt' (Fl.mk (k := .f32) 3204448256 (by decide)))) (some ((((Fl.mk (k := .f32) 1073741824 (by decide)).mul v5).sub (Fl.mk (k := .f32) 1065353216 (by decide))).add (Fl.mk (k := .f32) 1065353216 (by decide)))) (some (((Fl.mk (k := .f32) 1073741824 (by decide)).mul v5).sub (Fl.mk (k := .f32) 1065353216 (by decide))))) (ite2 ((((Fl.mk (k := .f32) 1073741824 (by decide)).mul v5).lt' (Fl.mk (k := .f32) 3204448256 (by decide)))) (some (((Fl.mk (k := .f32) 1073741824 (by decide)).mul v5).add (Fl.mk (k := .f32) 1065353216 (by decide)))) (some ((Fl.mk (k := .f32) 1073741824 (by decide)).mul v5)))

theorem ok_impl_HingeAngle (K : Nat) (a0 : Turn) (a1 : Vector) (o : (F32)) (h : impl_HingeAngle K a0 a1 = some o) : CallOK Try.prog 9 [.agg (cs_Turn a0), .agg (cs_Vector a1)] [.one (.flt .f32 o.bits)] := by
  refine callOK_of_AW Try.func9 rfl (by kernel_rfl) (Nat.le_of_ble_eq_true (by kernel_rfl)) ?_
  intro w0
  unfold impl_HingeAngle at h
  refine AW.sA ⟨[(2, (vp 1 0)), (3, (vp 2 0))], [(1, (.box [(cF a0.W), (cF a0.X), (cF a0.Y), (cF a0.Z)])), (2, (.box [(cF a1.X), (cF a1.Y), (cF a1.Z)]))]⟩ (Tt ∧ T2 Tt) [.box 1, .box 2] [2, 3] [1, 2] ⟨tr, tr, tr, tr⟩ ?_
  refine AW.seq ?_
  obtain ⟨v1, e2, h⟩ := bind_some h
  obtain ⟨v3, e4, h⟩ := bind_some h
  obtain ⟨v5, e6, h⟩ := bind_some h
  refine AW.dA ⟨[(5, (vc (.flt .f32 ((Fl.mk (k := .f32) 1073741824 (by decide)).mul v5).bits)))], []⟩ ((T2 (((((eF a0.W) ∧ (eF a0.X) ∧ (eF a0.Y) ∧ (eF a0.Z) ∧ Tt) ∧ Tt) ∧ CallOK Try.prog 22 [.agg (cs_Turn a0)] [.agg (cs_Vector v1)]) ∧ ((((eF a1.X) ∧ (eF a1.Y) ∧ (eF a1.Z) ∧ Tt) ∧ ((eF v1.X) ∧ (eF v1.Y) ∧ (eF v1.Z) ∧ Tt) ∧ Tt) ∧ CallOK Try.prog 21 [.agg (cs_Vector a1), .agg (cs_Vector v1)] [.one (.flt .f32 v3.bits)]) ∧ T2 ((((eF v3) ∧ (eF a0.W) ∧ Tt) ∧ CallOK Try.prog 20 [.one (.flt .f32 v3.bits), .one (.flt .f32 a0.W.bits)] [.one (.flt .f32 v5.bits)]) ∧ T2 Tt))) ∧ (Tt)) 9 [.no, .no, .call [.agg (cs_Turn a0)] [.agg (cs_Vector v1)] [[.view, .view, .view]], .call [.agg (cs_Vector a1), .agg (cs_Vector v1)] [.one (.flt .f32 v3.bits)] [[.view]], .no, .no, .call [.one (.flt .f32 v3.bits), .one (.flt .f32 a0.W.bits)] [.one (.flt .f32 v5.bits)] [[.view]]] [5] [] ⟨⟨tr, tr, ⟨⟨⟨rfl, rfl, rfl, rfl, tr⟩, tr⟩, ok_impl_Turn_vector K a0 v1 e2⟩, ⟨⟨⟨rfl, rfl, rfl, tr⟩, ⟨rfl, rfl, rfl, tr⟩, tr⟩, ok_impl_InnerOf K a1 v1 v3 e4⟩, tr, tr, ⟨⟨rfl, rfl, tr⟩, ok_impl_AngleTurns K v3 a0.W v5 e6⟩, tr, tr, tr⟩, tr⟩ ?_
  refine thenQ_normal ?_
  refine AW.seq ?_
  refine AW.sA ⟨[(5, (vc (.flt .f32 ((Fl.mk (k := .f32) 1073741824 (by decide)).mul v5).bits))), (15, (vB (((Fl.mk (k := .f32) 1073741824 (by decide)).mul v5).gt (Fl.mk (k := .f32) 1056964608 (by decide)))))], []⟩ (T2 Tt) [] [5, 15] [] ⟨tr, tr, tr⟩ ?_
  rcases ite2_cases h with ⟨b7, h⟩ | ⟨b7, h⟩
  · refine AW.cond_t rfl b7 ?_
    refine AW.tC (Tt ∧ T2 Tt) [] [5] [] ⟨tr, tr, tr, tr⟩ ?_
    refine AW.seq ?_
    refine AW.sA ⟨[(5, (vc (.flt .f32 (((Fl.mk (k := .f32) 1073741824 (by decide)).mul v5).sub (Fl.mk (k := .f32) 1065353216 (by decide))).bits))), (19, (vB ((((Fl.mk (k := .f32) 1073741824 (by decide)).mul v5).sub (Fl.mk (k := .f32) 1065353216 (by decide))).lt' (Fl.mk (k := .f32) 3204448256 (by decide)))))], []⟩ (T2 Tt) [] [5, 19] [] ⟨tr, tr, tr⟩ ?_
    rcases ite2_cases h with ⟨b8, h⟩ | ⟨b8, h⟩
    · refine AW.cond_t rfl b8 ?_
      refine AW.tC (Tt ∧ T2 Tt) [] [5] [] ⟨tr, tr, tr, tr⟩ ?_
      refine AW.sA ⟨[(4, (vc (.flt .f32 ((((Fl.mk (k := .f32) 1073741824 (by decide)).mul v5).sub (Fl.mk (k := .f32) 1065353216 (by decide))).add (Fl.mk (k := .f32) 1065353216 (by decide))).bits)))], []⟩ (T2 Tt) [] [4] [] ⟨tr, tr, tr⟩ ?_
      refine AW.ret ?_
      replace h := some_eq h
      subst h
      exact ⟨.inr rfl, retOK_of [(.one (cF ((((Fl.mk (k := .f32) 1073741824 (by decide)).mul v5).sub (Fl.mk (k := .f32) 1065353216 (by decide))).add (Fl.mk (k := .f32) 1065353216 (by decide)))))] (by kernel_rfl) ⟨⟨rfl, tr⟩, tr⟩ (of_decide_eq_true (by kernel_rfl))⟩
    · refine AW.cond_f rfl b8 ?_
      refine AW.skip ?_
      refine thenQ_normal ?_
      refine AW.sA ⟨[(4, (vc (.flt .f32 (((Fl.mk (k := .f32) 1073741824 (by decide)).mul v5).sub (Fl.mk (k := .f32) 1065353216 (by decide))).bits)))], []⟩ (T2 Tt) [] [4] [] ⟨tr, tr, tr⟩ ?_
      refine AW.ret ?_
      replace h := some_eq h
      subst h
      exact ⟨.inr rfl, retOK_of [(.one (cF (((Fl.mk (k := .f32) 1073741824 (by decide)).mul v5).sub (Fl.mk (k := .f32) 1065353216 (by decide)))))] (by kernel_rfl) ⟨⟨rfl, tr⟩, tr⟩ (of_decide_eq_true (by kernel_rfl))⟩
  · refine AW.cond_f rfl b7 ?_
    refine AW.skip ?_
    refine thenQ_normal ?_
    refine AW.seq ?_
    refine AW.sA ⟨[(5, (vc (.flt .f32 ((Fl.mk (k := .f32) 1073741824 (by decide)).mul v5).bits))), (19, (vB (((Fl.mk (k := .f32) 1073741824 (by decide)).mul v5).lt' (Fl.mk (k := .f32) 3204448256 (by decide)))))], []⟩ (T2 Tt) [] [5, 19] [] ⟨tr, tr, tr⟩ ?_
    rcases ite2_cases h with ⟨b9, h⟩ | ⟨b9, h⟩
    · refine AW.cond_t rfl b9 ?_
      refine AW.tC (Tt ∧ T2 Tt) [] [5] [] ⟨tr, tr, tr, tr⟩ ?_
      refine AW.sA ⟨[(4, (vc (.flt .f32 (((Fl.mk (k := .f32) 1073741824 (by decide)).mul v5).add (Fl.mk (k := .f32) 1065353216 (by decide))).bits)))], []⟩ (T2 Tt) [] [4] [] ⟨tr, tr, tr⟩ ?_
      refine AW.ret ?_
      replace h := some_eq h
      subst h
      exact ⟨.inr rfl, retOK_of [(.one (cF (((Fl.mk (k := .f32) 1073741824 (by decide)).mul v5).add (Fl.mk (k := .f32) 1065353216 (by decide)))))] (by kernel_rfl) ⟨⟨rfl, tr⟩, tr⟩ (of_decide_eq_true (by kernel_rfl))⟩
    · refine AW.cond_f rfl b9 ?_
      refine AW.skip ?_
      refine thenQ_normal ?_
      refine AW.sA ⟨[(4, (vc (.flt .f32 ((Fl.mk (k := .f32) 1073741824 (by decide)).mul v5).bits)))], []⟩ (T2 Tt) [] [4] [] ⟨tr, tr, tr⟩ ?_
      refine AW.ret ?_
      replace h := some_eq h
      subst h
      exact ⟨.inr rfl, retOK_of [(.one (cF ((Fl.mk (k := .f32) 1073741824 (by decide)).mul v5)))] (by kernel_rfl) ⟨⟨rfl, tr⟩, tr⟩ (of_decide_eq_true (by kernel_rfl))⟩

/-! impl.LimitHinge -/
def impl_LimitHinge (K : Nat) (a0 : Turn) (a1 : Vector) (a2 : F32) (a3 : F32) : Option (Turn × Bool) :=
  (ite2 ((!(a2.ge (Fl.mk (k := .f32) 3204448256 (by decide))))) (some true) (ite2 ((!(a2.le a3))) (some true) (some (!(a3.le (Fl.mk (k := .f32) 1056964608 (by decide))))))).bind fun j3 => ite2 (j3) (some ((Turn.mk (default : F32) (default : F32) (default : F32) (default : F32)), false)) ((impl_HingeAngle K a0 a1).bind fun v6 => ite2 ((v6.lt' a2)) ((impl_TurnAbout K a1 a2).bind fun v9 => some (v9, true)) (ite2 ((v6.gt a3)) ((impl_TurnAbout K a1 a3).bind fun v12 => some (v12, true)) ((impl_TurnAbout K a1 v6).bind fun v14 => some (v14, true))))

theorem ok_impl_LimitHinge (K : Nat) (a0 : Turn) (a1 : Vector) (a2 : F32) (a3 : F32) (o : (Turn × Bool)) (h : impl_LimitHinge K a0 a1 a2 a3 = some o) : CallOK Try.prog 8 [.agg (cs_Turn a0), .agg (cs_Vector a1), .one (.flt .f32 a2.bits), .one (.flt .f32 a3.bits)] [.agg (cs_Turn o.1), .one (.bool o.2)] := by
  refine callOK_of_AW Try.func8 rfl (by kernel_rfl) (Nat.le_of_ble_eq_true (by kernel_rfl)) ?_
  intro w0
  unfold impl_LimitHinge at h
  refine AW.sA ⟨[(2, (vc (.flt .f32 a2.bits))), (3, (vc (.flt .f32 a3.bits))), (4, (vp 1 0)), (5, (vp 2 0)), (8, (vp 3 0))], [(1, (.box [(cF a0.W), (cF a0.X), (cF a0.Y), (cF a0.Z)])), (2, (.box [(cF a1.X), (cF a1.Y), (cF a1.Z)])), (3, (.box [(cF (default : F32)), (cF (default : F32)), (cF (default : F32)), (cF (default : F32))]))]⟩ (T4 Tt) [.box 1, .box 2, .box 3] [2, 3, 4, 5, 8] [1, 2, 3] ⟨tr, tr, tr, tr, tr⟩ ?_
  refine AW.seq ?_
  refine AW.seq ?_
  obtain ⟨j3, e4, h⟩ := bind_some h
  refine AW.join1 (s2 := ⟨[(2, (vc (.flt .f32 a2.bits))), (3, (vc (.flt .f32 a3.bits))), (4, (vp 1 0)), (5, (vp 2 0)), (8, (vp 3 0)), (24, (vB j3))], [(1, (.box [(cF a0.W), (cF a0.X), (cF a0.Y), (cF a0.Z)])), (2, (.box [(cF a1.X), (cF a1.Y), (cF a1.Z)])), (3, (.box [(cF (default : F32)), (cF (default : F32)), (cF (default : F32)), (cF (default : F32))]))]⟩) ?_ ?_
  · rcases ite2_cases e4 with ⟨b1, e4⟩ | ⟨b1, e4⟩
    · replace e4 := some_eq e4
      subst e4
      exact AW.rA ⟨[(2, (vc (.flt .f32 a2.bits))), (3, (vc (.flt .f32 a3.bits))), (4, (vp 1 0)), (5, (vp 2 0)), (8, (vp 3 0)), (24, (vB true))], [(1, (.box [(cF a0.W), (cF a0.X), (cF a0.Y), (cF a0.Z)])), (2, (.box [(cF a1.X), (cF a1.Y), (cF a1.Z)])), (3, (.box [(cF (default : F32)), (cF (default : F32)), (cF (default : F32)), (cF (default : F32))]))]⟩ (Tt ∧ T2 ((Tt ∧ (!(a2.ge (Fl.mk (k := .f32) 3204448256 (by decide)))) = true) ∧ T2 (T4 (T4 Tt)))) [.no, .no, .no, .dec true] [2, 3, 4, 5, 8, 24] [1, 2, 3] ⟨tr, tr, tr, ⟨tr, b1⟩, tr, tr, tr, tr, tr, tr, tr, tr, tr, tr, tr⟩ ⟨rfl, rfl⟩
    · rcases ite2_cases e4 with ⟨b2, e4⟩ | ⟨b2, e4⟩
      · replace e4 := some_eq e4
        subst e4
        exact AW.rA ⟨[(2, (vc (.flt .f32 a2.bits))), (3, (vc (.flt .f32 a3.bits))), (4, (vp 1 0)), (5, (vp 2 0)), (8, (vp 3 0)), (24, (vB true))], [(1, (.box [(cF a0.W), (cF a0.X), (cF a0.Y), (cF a0.Z)])), (2, (.box [(cF a1.X), (cF a1.Y), (cF a1.Z)])), (3, (.box [(cF (default : F32)), (cF (default : F32)), (cF (default : F32)), (cF (default : F32))]))]⟩ (Tt ∧ T2 ((Tt ∧ (!(a2.ge (Fl.mk (k := .f32) 3204448256 (by decide)))) = false) ∧ Tt ∧ T4 ((Tt ∧ (!(a2.le a3)) = true) ∧ T4 Tt))) [.no, .no, .no, .dec false, .no, .no, .no, .no, .no, .dec true] [2, 3, 4, 5, 8, 24] [1, 2, 3] ⟨tr, tr, tr, ⟨tr, b1⟩, tr, tr, tr, tr, tr, ⟨tr, b2⟩, tr, tr, tr, tr, tr⟩ ⟨rfl, rfl⟩
      · replace e4 := some_eq e4
        subst e4
        exact AW.rA ⟨[(2, (vc (.flt .f32 a2.bits))), (3, (vc (.flt .f32 a3.bits))), (4, (vp 1 0)), (5, (vp 2 0)), (8, (vp 3 0)), (24, (vB (!(a3.le (Fl.mk (k := .f32) 1056964608 (by decide))))))], [(1, (.box [(cF a0.W), (cF a0.X), (cF a0.Y), (cF a0.Z)])), (2, (.box [(cF a1.X), (cF a1.Y), (cF a1.Z)])), (3, (.box [(cF (default : F32)), (cF (default : F32)), (cF (default : F32)), (cF (default : F32))]))]⟩ (Tt ∧ T2 ((Tt ∧ (!(a2.ge (Fl.mk (k := .f32) 3204448256 (by decide)))) = false) ∧ Tt ∧ T4 ((Tt ∧ (!(a2.le a3)) = false) ∧ T4 Tt))) [.no, .no, .no, .dec false, .no, .no, .no, .no, .no, .dec false] [2, 3, 4, 5, 8, 24] [1, 2, 3] ⟨tr, tr, tr, ⟨tr, b1⟩, tr, tr, tr, tr, tr, ⟨tr, b2⟩, tr, tr, tr, tr, tr⟩ ⟨rfl, rfl⟩
  refine thenQ_normal ?_
  rcases ite2_cases h with ⟨b5, h⟩ | ⟨b5, h⟩
  · refine AW.cond_t rfl b5 ?_
    refine AW.sA ⟨[(8, (vp 3 0)), (9, (vB false))], [(3, (.box [(cF (default : F32)), (cF (default : F32)), (cF (default : F32)), (cF (default : F32))]))]⟩ (Tt ∧ T2 Tt) [] [8, 9] [3] ⟨tr, tr, tr, tr⟩ ?_
    refine AW.ret ?_
    refine thenQ_ret ?_
    replace h := some_eq h
    subst h
    exact ⟨.inr rfl, retOK_of [(.agg [(cF (default : F32)), (cF (default : F32)), (cF (default : F32)), (cF (default : F32))]), (.one (.c (.bool false)))] (by kernel_rfl) ⟨⟨⟨rfl, tr⟩, ⟨rfl, tr⟩, ⟨rfl, tr⟩, ⟨rfl, tr⟩, tr⟩, ⟨rfl, tr⟩, tr⟩ (of_decide_eq_true (by kernel_rfl))⟩
  · refine AW.cond_f rfl b5 ?_
    refine AW.skip ?_
    refine thenQ_normal ?_
    refine AW.seq ?_
    obtain ⟨v6, e7, h⟩ := bind_some h
    refine AW.tA ⟨[(2, (vc (.flt .f32 a2.bits))), (3, (vc (.flt .f32 a3.bits))), (5, (vp 2 0)), (8, (vp 3 0)), (10, (vc (.flt .f32 v6.bits)))], [(2, (.box [(cF a1.X), (cF a1.Y), (cF a1.Z)])), (3, (.box [(cF (default : F32)), (cF (default : F32)), (cF (default : F32)), (cF (default : F32))]))]⟩ (T2 (((((eF a0.W) ∧ (eF a0.X) ∧ (eF a0.Y) ∧ (eF a0.Z) ∧ Tt) ∧ ((eF a1.X) ∧ (eF a1.Y) ∧ (eF a1.Z) ∧ Tt) ∧ Tt) ∧ CallOK Try.prog 9 [.agg (cs_Turn a0), .agg (cs_Vector a1)] [.one (.flt .f32 v6.bits)]) ∧ Tt ∧ Tt)) [.no, .no, .call [.agg (cs_Turn a0), .agg (cs_Vector a1)] [.one (.flt .f32 v6.bits)] [[.view]]] [2, 3, 5, 8, 10] [2, 3] ⟨tr, tr, ⟨⟨⟨rfl, rfl, rfl, rfl, tr⟩, ⟨rfl, rfl, rfl, tr⟩, tr⟩, ok_impl_HingeAngle K a0 a1 v6 e7⟩, tr, tr⟩ ?_
    refine AW.seq ?_
    refine AW.block ?_
    refine AW.sA ⟨[(2, (vc (.flt .f32 a2.bits))), (3, (vc (.flt .f32 a3.bits))), (5, (vp 2 0)), (8, (vp 3 0)), (10, (vc (.flt .f32 v6.bits))), (29, (vB (v6.lt' a2)))], [(2, (.box [(cF a1.X), (cF a1.Y), (cF a1.Z)])), (3, (.box [(cF (default : F32)), (cF (default : F32)), (cF (default : F32)), (cF (default : F32))]))]⟩ (T4 Tt) [] [2, 3, 5, 8, 10, 29] [2, 3] ⟨tr, tr, tr, tr, tr⟩ ?_
    rcases ite2_cases h with ⟨b8, h⟩ | ⟨b8, h⟩
    · refine AW.cond_t rfl b8 ?_
      refine AW.rA ⟨[(5, (vp 2 0)), (8, (vp 3 0)), (10, (vc (.flt .f32 a2.bits)))], [(2, (.box [(cF a1.X), (cF a1.Y), (cF a1.Z)])), (3, (.box [(cF (default : F32)), (cF (default : F32)), (cF (default : F32)), (cF (default : F32))]))]⟩ (T2 Tt) [] [5, 8, 10] [2, 3] ⟨tr, tr, tr⟩ ?_
      refine blockQ_normal ?_
      refine thenQ_normal ?_
      refine AW.seq ?_
      obtain ⟨v9, e10, h⟩ := bind_some h
      refine AW.tA ⟨[(8, (vp 3 0)), (9, (vB true))], [(3, (.box [(cF v9.W), (cF v9.X), (cF v9.Y), (cF v9.Z)]))]⟩ (T2 (((((eF a1.X) ∧ (eF a1.Y) ∧ (eF a1.Z) ∧ Tt) ∧ (eF a2) ∧ Tt) ∧ CallOK Try.prog 14 [.agg (cs_Vector a1), .one (.flt .f32 a2.bits)] [.agg (cs_Turn v9)]) ∧ T2 Tt)) [.no, .no, .call [.agg (cs_Vector a1), .one (.flt .f32 a2.bits)] [.agg (cs_Turn v9)] [[.view, .view, .view, .view]]] [8, 9] [3] ⟨tr, tr, ⟨⟨⟨rfl, rfl, rfl, tr⟩, rfl, tr⟩, ok_impl_TurnAbout K a1 a2 v9 e10⟩, tr, tr, tr⟩ ?_
      refine AW.ret ?_
      replace h := some_eq h
      subst h
      exact ⟨.inr rfl, retOK_of [(.agg [(cF v9.W), (cF v9.X), (cF v9.Y), (cF v9.Z)]), (.one (.c (.bool true)))] (by kernel_rfl) ⟨⟨⟨rfl, tr⟩, ⟨rfl, tr⟩, ⟨rfl, tr⟩, ⟨rfl, tr⟩, tr⟩, ⟨rfl, tr⟩, tr⟩ (of_decide_eq_true (by kernel_rfl))⟩
    · refine AW.cond_f rfl b8 ?_
      refine AW.sA ⟨[(3, (vc (.flt .f32 a3.bits))), (5, (vp 2 0)), (8, (vp 3 0)), (10, (vc (.flt .f32 v6.bits))), (34, (vB (v6.gt a3)))], [(2, (.box [(cF a1.X), (cF a1.Y), (cF a1.Z)])), (3, (.box [(cF (default : F32)), (cF (default : F32)), (cF (default : F32)), (cF (default : F32))]))]⟩ (T4 Tt) [] [3, 5, 8, 10, 34] [2, 3] ⟨tr, tr, tr, tr, tr⟩ ?_
      rcases ite2_cases h with ⟨b11, h⟩ | ⟨b11, h⟩
      · refine AW.cond_t rfl b11 ?_
        refine AW.rA ⟨[(5, (vp 2 0)), (8, (vp 3 0)), (10, (vc (.flt .f32 a3.bits)))], [(2, (.box [(cF a1.X), (cF a1.Y), (cF a1.Z)])), (3, (.box [(cF (default : F32)), (cF (default : F32)), (cF (default : F32)), (cF (default : F32))]))]⟩ (T2 Tt) [] [5, 8, 10] [2, 3] ⟨tr, tr, tr⟩ ?_
        refine blockQ_normal ?_
        refine thenQ_normal ?_
        refine AW.seq ?_
        obtain ⟨v12, e13, h⟩ := bind_some h
        refine AW.tA ⟨[(8, (vp 3 0)), (9, (vB true))], [(3, (.box [(cF v12.W), (cF v12.X), (cF v12.Y), (cF v12.Z)]))]⟩ (T2 (((((eF a1.X) ∧ (eF a1.Y) ∧ (eF a1.Z) ∧ Tt) ∧ (eF a3) ∧ Tt) ∧ CallOK Try.prog 14 [.agg (cs_Vector a1), .one (.flt .f32 a3.bits)] [.agg (cs_Turn v12)]) ∧ T2 Tt)) [.no, .no, .call [.agg (cs_Vector a1), .one (.flt .f32 a3.bits)] [.agg (cs_Turn v12)] [[.view, .view, .view, .view]]] [8, 9] [3] ⟨tr, tr, ⟨⟨⟨rfl, rfl, rfl, tr⟩, rfl, tr⟩, ok_impl_TurnAbout K a1 a3 v12 e13⟩, tr, tr, tr⟩ ?_
        refine AW.ret ?_
        replace h := some_eq h
        subst h
        exact ⟨.inr rfl, retOK_of [(.agg [(cF v12.W), (cF v12.X), (cF v12.Y), (cF v12.Z)]), (.one (.c (.bool true)))] (by kernel_rfl) ⟨⟨⟨rfl, tr⟩, ⟨rfl, tr⟩, ⟨rfl, tr⟩, ⟨rfl, tr⟩, tr⟩, ⟨rfl, tr⟩, tr⟩ (of_decide_eq_true (by kernel_rfl))⟩
      · refine AW.cond_f rfl b11 ?_
        refine AW.skip ?_
        refine blockQ_normal ?_
        refine thenQ_normal ?_
        refine AW.seq ?_
        obtain ⟨v14, e15, h⟩ := bind_some h
        refine AW.tA ⟨[(8, (vp 3 0)), (9, (vB true))], [(3, (.box [(cF v14.W), (cF v14.X), (cF v14.Y), (cF v14.Z)]))]⟩ (T2 (((((eF a1.X) ∧ (eF a1.Y) ∧ (eF a1.Z) ∧ Tt) ∧ (eF v6) ∧ Tt) ∧ CallOK Try.prog 14 [.agg (cs_Vector a1), .one (.flt .f32 v6.bits)] [.agg (cs_Turn v14)]) ∧ T2 Tt)) [.no, .no, .call [.agg (cs_Vector a1), .one (.flt .f32 v6.bits)] [.agg (cs_Turn v14)] [[.view, .view, .view, .view]]] [8, 9] [3] ⟨tr, tr, ⟨⟨⟨rfl, rfl, rfl, tr⟩, rfl, tr⟩, ok_impl_TurnAbout K a1 v6 v14 e15⟩, tr, tr, tr⟩ ?_
        refine AW.ret ?_
        replace h := some_eq h
        subst h
        exact ⟨.inr rfl, retOK_of [(.agg [(cF v14.W), (cF v14.X), (cF v14.Y), (cF v14.Z)]), (.one (.c (.bool true)))] (by kernel_rfl) ⟨⟨⟨rfl, tr⟩, ⟨rfl, tr⟩, ⟨rfl, tr⟩, ⟨rfl, tr⟩, tr⟩, ⟨rfl, tr⟩, tr⟩ (of_decide_eq_true (by kernel_rfl))⟩

/-! math.Float64bits -/
def math_Float64bits (_K : Nat) (a0 : F64) : Option (Int) :=
  a0.toBits

theorem ok_math_Float64bits (K : Nat) (a0 : F64) (o : Int) (h : math_Float64bits K a0 = some o) : CallOK Try.prog 56 [.one (.flt .f64 a0.bits)] [.one (.int .u64 o)] :=
  hand_toBits (e := Extern.MathFloatBits.float64bits) Try.func56 (by kernel_rfl) (by kernel_rfl) (by kernel_rfl) (by kernel_rfl) (fun _ _ => rfl) a0 o h

/-! math.Signbit -/
def math_Signbit (K : Nat) (a0 : F64) : Option (Bool) :=
  (math_Float64bits K a0).bind fun v1 => some (decide ((IntKind.i64.wrap v1) < (0 : Int)))

theorem ok_math_Signbit (K : Nat) (a0 : F64) (o : (Bool)) (h : math_Signbit K a0 = some o) : CallOK Try.prog 46 [.one (.flt .f64 a0.bits)] [.one (.bool o)] := by
  refine callOK_of_AW Try.func46 rfl (by kernel_rfl) (Nat.le_of_ble_eq_true (by kernel_rfl)) ?_
  intro w0
  unfold math_Signbit at h
  refine AW.sC (Tt ∧ Tt) [] [0] [] ⟨tr, tr⟩ ?_
  refine AW.seq ?_
  obtain ⟨v1, e2, h⟩ := bind_some h
  refine AW.tA ⟨[(2, (vB (decide ((IntKind.i64.wrap v1) < (0 : Int)))))], []⟩ (Tt ∧ (((Eqc (.flt .f64 a0.bits)) ∧ Tt) ∧ CallOK Try.prog 56 [.one (.flt .f64 a0.bits)] [.one (.int .u64 v1)]) ∧ Tt ∧ T2 Tt) [.no, .call [.one (.flt .f64 a0.bits)] [.one (.int .u64 v1)] [[.view]]] [2] [] ⟨tr, ⟨⟨rfl, tr⟩, ok_math_Float64bits K a0 v1 e2⟩, tr, tr, tr, tr⟩ ?_
  refine AW.ret ?_
  replace h := some_eq h
  subst h
  exact ⟨.inr rfl, retOK_of [(.one (.c (.bool (decide ((IntKind.i64.wrap v1) < (0 : Int))))))] (by kernel_rfl) ⟨⟨rfl, tr⟩, tr⟩ (of_decide_eq_true (by kernel_rfl))⟩

/-! impl.SameNumber -/
def impl_SameNumber (K : Nat) (a0 : F32) (a1 : F32) : Option (Bool) :=
  (ite2 ((a0.ne a0)) (some true) (some (a1.ne a1))).bind fun j2 => ite2 (j2) ((ite2 ((a0.ne a0)) (some (a1.ne a1)) (some false)).bind fun j6 => some j6) ((ite2 ((a0.eq a1)) ((math_Signbit K (Fl.cv .f32 .f64 a0)).bind fun v9 => (math_Signbit K (Fl.cv .f32 .f64 a1)).bind fun v11 => some (v9 == v11)) (some false)).bind fun j13 => some j13)

theorem ok_impl_SameNumber (K : Nat) (a0 : F32) (a1 : F32) (o : (Bool)) (h : impl_SameNumber K a0 a1 = some o) : CallOK Try.prog 25 [.one (.flt .f32 a0.bits), .one (.flt .f32 a1.bits)] [.one (.bool o)] := by
  refine callOK_of_AW Try.func25 rfl (by kernel_rfl) (Nat.le_of_ble_eq_true (by kernel_rfl)) ?_
  intro w0
  unfold impl_SameNumber at h
  refine AW.sA ⟨[(0, (vc (.flt .f32 a0.bits))), (1, (vc (.flt .f32 a1.bits)))], []⟩ (Tt ∧ Tt) [] [0, 1] [] ⟨tr, tr⟩ ?_
  refine AW.seq ?_
  refine AW.seq ?_
  obtain ⟨j2, e3, h⟩ := bind_some h
  refine AW.join1 (s2 := ⟨[(0, (vc (.flt .f32 a0.bits))), (1, (vc (.flt .f32 a1.bits))), (12, (vB j2))], []⟩) ?_ ?_
  · rcases ite2_cases e3 with ⟨b1, e3⟩ | ⟨b1, e3⟩
    · replace e3 := some_eq e3
      subst e3
      exact AW.rA ⟨[(0, (vc (.flt .f32 a0.bits))), (1, (vc (.flt .f32 a1.bits))), (12, (vB true))], []⟩ (Tt ∧ T2 ((Tt ∧ (a0.ne a0) = true) ∧ T4 Tt)) [.no, .no, .no, .dec true] [0, 1, 12] [] ⟨tr, tr, tr, ⟨tr, b1⟩, tr, tr, tr, tr, tr⟩ ⟨rfl, rfl⟩
    · replace e3 := some_eq e3
      subst e3
      exact AW.rA ⟨[(0, (vc (.flt .f32 a0.bits))), (1, (vc (.flt .f32 a1.bits))), (12, (vB (a1.ne a1)))], []⟩ (Tt ∧ T2 ((Tt ∧ (a0.ne a0) = false) ∧ T4 Tt)) [.no, .no, .no, .dec false] [0, 1, 12] [] ⟨tr, tr, tr, ⟨tr, b1⟩, tr, tr, tr, tr, tr⟩ ⟨rfl, rfl⟩
  refine thenQ_normal ?_
  rcases ite2_cases h with ⟨b4, h⟩ | ⟨b4, h⟩
  · refine AW.cond_t rfl b4 ?_
    refine AW.seq ?_
    obtain ⟨j6, e7, h⟩ := bind_some h
    refine AW.join1 (s2 := ⟨[(4, (vB j6))], []⟩) ?_ ?_
    · rcases ite2_cases e7 with ⟨b5, e7⟩ | ⟨b5, e7⟩
      · replace e7 := some_eq e7
        subst e7
        exact AW.rA ⟨[(4, (vB (a1.ne a1)))], []⟩ (Tt ∧ T2 ((Tt ∧ (a0.ne a0) = true) ∧ Tt ∧ T4 Tt)) [.no, .no, .no, .dec true] [4] [] ⟨tr, tr, tr, ⟨tr, b5⟩, tr, tr, tr, tr, tr, tr⟩ ⟨rfl, rfl⟩
      · replace e7 := some_eq e7
        subst e7
        exact AW.rA ⟨[(4, (vB false))], []⟩ (Tt ∧ T2 ((Tt ∧ (a0.ne a0) = false) ∧ Tt ∧ T4 Tt)) [.no, .no, .no, .dec false] [4] [] ⟨tr, tr, tr, ⟨tr, b5⟩, tr, tr, tr, tr, tr, tr⟩ ⟨rfl, rfl⟩
    refine thenQ_normal ?_
    refine AW.ret ?_
    refine thenQ_ret ?_
    replace h := some_eq h
    subst h
    exact ⟨.inr rfl, retOK_of [(.one (.c (.bool j6)))] (by kernel_rfl) ⟨⟨rfl, tr⟩, tr⟩ (of_decide_eq_true (by kernel_rfl))⟩
  · refine AW.cond_f rfl b4 ?_
    refine AW.skip ?_
    refine thenQ_normal ?_
    refine AW.seq ?_
    obtain ⟨j13, e14, h⟩ := bind_some h
    refine AW.join1 (s2 := ⟨[(4, (vB j13))], []⟩) ?_ ?_
    · rcases ite2_cases e14 with ⟨b8, e14⟩ | ⟨b8, e14⟩
      · obtain ⟨v9, e10, e14⟩ := bind_some e14
        obtain ⟨v11, e12, e14⟩ := bind_some e14
        replace e14 := some_eq e14
        subst e14
        exact AW.rA ⟨[(4, (vB (v9 == v11)))], []⟩ (Tt ∧ T2 ((Tt ∧ (a0.eq a1) = true) ∧ Tt ∧ ((convBits .f32 a0.bits .f64).isSome = true) ∧ (((Eqc (.flt .f64 (Fl.cv .f32 .f64 a0).bits)) ∧ Tt) ∧ CallOK Try.prog 46 [.one (.flt .f64 (Fl.cv .f32 .f64 a0).bits)] [.one (.bool v9)]) ∧ Tt ∧ ((convBits .f32 a1.bits .f64).isSome = true) ∧ (((Eqc (.flt .f64 (Fl.cv .f32 .f64 a1).bits)) ∧ Tt) ∧ CallOK Try.prog 46 [.one (.flt .f64 (Fl.cv .f32 .f64 a1).bits)] [.one (.bool v11)]) ∧ Tt ∧ T2 Tt)) [.no, .no, .no, .dec true, .no, .no, .call [.one (.flt .f64 (Fl.cv .f32 .f64 a0).bits)] [.one (.bool v9)] [[.view]], .no, .no, .call [.one (.flt .f64 (Fl.cv .f32 .f64 a1).bits)] [.one (.bool v11)] [[.view]]] [4] [] ⟨tr, tr, tr, ⟨tr, b8⟩, tr, cv_wide a0, ⟨⟨rfl, tr⟩, ok_math_Signbit K (Fl.cv .f32 .f64 a0) v9 e10⟩, tr, cv_wide a1, ⟨⟨rfl, tr⟩, ok_math_Signbit K (Fl.cv .f32 .f64 a1) v11 e12⟩, tr, tr, tr, tr⟩ ⟨rfl, rfl⟩
      · replace e14 := some_eq e14
        subst e14
        exact AW.rA ⟨[(4, (vB false))], []⟩ (Tt ∧ T2 ((Tt ∧ (a0.eq a1) = false) ∧ Tt ∧ T4 (T4 Tt))) [.no, .no, .no, .dec false] [4] [] ⟨tr, tr, tr, ⟨tr, b8⟩, tr, tr, tr, tr, tr, tr, tr, tr, tr, tr⟩ ⟨rfl, rfl⟩
    refine thenQ_normal ?_
    refine AW.ret ?_
    replace h := some_eq h
    subst h
    exact ⟨.inr rfl, retOK_of [(.one (.c (.bool j13)))] (by kernel_rfl) ⟨⟨rfl, tr⟩, tr⟩ (of_decide_eq_true (by kernel_rfl))⟩

/-! impl.SameTurn -/
def impl_SameTurn (K : Nat) (a0 : Turn) (a1 : Turn) : Option (Bool) :=
  (impl_SameNumber K a0.W a1.W).bind fun v1 => (ite2 (v1) ((impl_SameNumber K a0.X a1.X).bind fun v4 => ite2 (v4) ((impl_SameNumber K a0.Y a1.Y).bind fun v7 => ite2 (v7) ((impl_SameNumber K a0.Z a1.Z).bind fun v10 => some v10) (some false)) (some false)) (some false)).bind fun j12 => some j12

theorem ok_impl_SameTurn (K : Nat) (a0 : Turn) (a1 : Turn) (o : (Bool)) (h : impl_SameTurn K a0 a1 = some o) : CallOK Try.prog 11 [.agg (cs_Turn a0), .agg (cs_Turn a1)] [.one (.bool o)] := by
  refine callOK_of_AW Try.func11 rfl (by kernel_rfl) (Nat.le_of_ble_eq_true (by kernel_rfl)) ?_
  intro w0
  unfold impl_SameTurn at h
  refine AW.sA ⟨[(2, (vp 1 0)), (3, (vp 2 0))], [(1, (.box [(cF a0.W), (cF a0.X), (cF a0.Y), (cF a0.Z)])), (2, (.box [(cF a1.W), (cF a1.X), (cF a1.Y), (cF a1.Z)]))]⟩ (Tt ∧ T2 Tt) [.box 1, .box 2] [2, 3] [1, 2] ⟨tr, tr, tr, tr⟩ ?_
  refine AW.seq ?_
  obtain ⟨v1, e2, h⟩ := bind_some h
  obtain ⟨j12, e13, h⟩ := bind_some h
  refine AW.join1 (s2 := ⟨[(4, (vB j12))], []⟩) ?_ ?_
  · rcases ite2_cases e13 with ⟨b3, e13⟩ | ⟨b3, e13⟩
    · obtain ⟨v4, e5, e13⟩ := bind_some e13
      rcases ite2_cases e13 with ⟨b6, e13⟩ | ⟨b6, e13⟩
      · obtain ⟨v7, e8, e13⟩ := bind_some e13
        rcases ite2_cases e13 with ⟨b9, e13⟩ | ⟨b9, e13⟩
        · obtain ⟨v10, e11, e13⟩ := bind_some e13
          replace e13 := some_eq e13
          subst e13
          exact AW.rA ⟨[(4, (vB v10))], []⟩ (T4 ((((eF a0.W) ∧ (eF a1.W) ∧ Tt) ∧ CallOK Try.prog 25 [.one (.flt .f32 a0.W.bits), .one (.flt .f32 a1.W.bits)] [.one (.bool v1)]) ∧ (Tt ∧ v1 = true) ∧ T4 ((((eF a0.X) ∧ (eF a1.X) ∧ Tt) ∧ CallOK Try.prog 25 [.one (.flt .f32 a0.X.bits), .one (.flt .f32 a1.X.bits)] [.one (.bool v4)]) ∧ Tt ∧ (Tt ∧ v4 = true) ∧ T4 ((((eF a0.Y) ∧ (eF a1.Y) ∧ Tt) ∧ CallOK Try.prog 25 [.one (.flt .f32 a0.Y.bits), .one (.flt .f32 a1.Y.bits)] [.one (.bool v7)]) ∧ Tt ∧ (Tt ∧ v7 = true) ∧ T4 ((((eF a0.Z) ∧ (eF a1.Z) ∧ Tt) ∧ CallOK Try.prog 25 [.one (.flt .f32 a0.Z.bits), .one (.flt .f32 a1.Z.bits)] [.one (.bool v10)]) ∧ T2 Tt))))) [.no, .no, .no, .no, .call [.one (.flt .f32 a0.W.bits), .one (.flt .f32 a1.W.bits)] [.one (.bool v1)] [[.view]], .dec true, .no, .no, .no, .no, .call [.one (.flt .f32 a0.X.bits), .one (.flt .f32 a1.X.bits)] [.one (.bool v4)] [[.view]], .no, .dec true, .no, .no, .no, .no, .call [.one (.flt .f32 a0.Y.bits), .one (.flt .f32 a1.Y.bits)] [.one (.bool v7)] [[.view]], .no, .dec true, .no, .no, .no, .no, .call [.one (.flt .f32 a0.Z.bits), .one (.flt .f32 a1.Z.bits)] [.one (.bool v10)] [[.view]]] [4] [] ⟨tr, tr, tr, tr, ⟨⟨rfl, rfl, tr⟩, ok_impl_SameNumber K a0.W a1.W v1 e2⟩, ⟨tr, b3⟩, tr, tr, tr, tr, ⟨⟨rfl, rfl, tr⟩, ok_impl_SameNumber K a0.X a1.X v4 e5⟩, tr, ⟨tr, b6⟩, tr, tr, tr, tr, ⟨⟨rfl, rfl, tr⟩, ok_impl_SameNumber K a0.Y a1.Y v7 e8⟩, tr, ⟨tr, b9⟩, tr, tr, tr, tr, ⟨⟨rfl, rfl, tr⟩, ok_impl_SameNumber K a0.Z a1.Z v10 e11⟩, tr, tr, tr⟩ ⟨rfl, rfl⟩
        · replace e13 := some_eq e13
          subst e13
          exact AW.rA ⟨[(4, (vB false))], []⟩ (T4 ((((eF a0.W) ∧ (eF a1.W) ∧ Tt) ∧ CallOK Try.prog 25 [.one (.flt .f32 a0.W.bits), .one (.flt .f32 a1.W.bits)] [.one (.bool v1)]) ∧ (Tt ∧ v1 = true) ∧ T4 ((((eF a0.X) ∧ (eF a1.X) ∧ Tt) ∧ CallOK Try.prog 25 [.one (.flt .f32 a0.X.bits), .one (.flt .f32 a1.X.bits)] [.one (.bool v4)]) ∧ Tt ∧ (Tt ∧ v4 = true) ∧ T4 ((((eF a0.Y) ∧ (eF a1.Y) ∧ Tt) ∧ CallOK Try.prog 25 [.one (.flt .f32 a0.Y.bits), .one (.flt .f32 a1.Y.bits)] [.one (.bool v7)]) ∧ Tt ∧ (Tt ∧ v7 = false) ∧ Tt ∧ T2 (T4 Tt))))) [.no, .no, .no, .no, .call [.one (.flt .f32 a0.W.bits), .one (.flt .f32 a1.W.bits)] [.one (.bool v1)] [[.view]], .dec true, .no, .no, .no, .no, .call [.one (.flt .f32 a0.X.bits), .one (.flt .f32 a1.X.bits)] [.one (.bool v4)] [[.view]], .no, .dec true, .no, .no, .no, .no, .call [.one (.flt .f32 a0.Y.bits), .one (.flt .f32 a1.Y.bits)] [.one (.bool v7)] [[.view]], .no, .dec false] [4] [] ⟨tr, tr, tr, tr, ⟨⟨rfl, rfl, tr⟩, ok_impl_SameNumber K a0.W a1.W v1 e2⟩, ⟨tr, b3⟩, tr, tr, tr, tr, ⟨⟨rfl, rfl, tr⟩, ok_impl_SameNumber K a0.X a1.X v4 e5⟩, tr, ⟨tr, b6⟩, tr, tr, tr, tr, ⟨⟨rfl, rfl, tr⟩, ok_impl_SameNumber K a0.Y a1.Y v7 e8⟩, tr, ⟨tr, b9⟩, tr, tr, tr, tr, tr, tr, tr, tr⟩ ⟨rfl, rfl⟩
      · replace e13 := some_eq e13
        subst e13
        exact AW.rA ⟨[(4, (vB false))], []⟩ (T4 ((((eF a0.W) ∧ (eF a1.W) ∧ Tt) ∧ CallOK Try.prog 25 [.one (.flt .f32 a0.W.bits), .one (.flt .f32 a1.W.bits)] [.one (.bool v1)]) ∧ (Tt ∧ v1 = true) ∧ T4 ((((eF a0.X) ∧ (eF a1.X) ∧ Tt) ∧ CallOK Try.prog 25 [.one (.flt .f32 a0.X.bits), .one (.flt .f32 a1.X.bits)] [.one (.bool v4)]) ∧ Tt ∧ (Tt ∧ v4 = false) ∧ T2 (T4 (T4 (T4 Tt)))))) [.no, .no, .no, .no, .call [.one (.flt .f32 a0.W.bits), .one (.flt .f32 a1.W.bits)] [.one (.bool v1)] [[.view]], .dec true, .no, .no, .no, .no, .call [.one (.flt .f32 a0.X.bits), .one (.flt .f32 a1.X.bits)] [.one (.bool v4)] [[.view]], .no, .dec false] [4] [] ⟨tr, tr, tr, tr, ⟨⟨rfl, rfl, tr⟩, ok_impl_SameNumber K a0.W a1.W v1 e2⟩, ⟨tr, b3⟩, tr, tr, tr, tr, ⟨⟨rfl, rfl, tr⟩, ok_impl_SameNumber K a0.X a1.X v4 e5⟩, tr, ⟨tr, b6⟩, tr, tr, tr, tr, tr, tr, tr, tr, tr, tr, tr, tr, tr, tr, tr⟩ ⟨rfl, rfl⟩
    · replace e13 := some_eq e13
      subst e13
      exact AW.rA ⟨[(4, (vB false))], []⟩ (T4 ((((eF a0.W) ∧ (eF a1.W) ∧ Tt) ∧ CallOK Try.prog 25 [.one (.flt .f32 a0.W.bits), .one (.flt .f32 a1.W.bits)] [.one (.bool v1)]) ∧ (Tt ∧ v1 = false) ∧ Tt ∧ T4 (T4 (T4 (T4 (T4 Tt)))))) [.no, .no, .no, .no, .call [.one (.flt .f32 a0.W.bits), .one (.flt .f32 a1.W.bits)] [.one (.bool v1)] [[.view]], .dec false] [4] [] ⟨tr, tr, tr, tr, ⟨⟨rfl, rfl, tr⟩, ok_impl_SameNumber K a0.W a1.W v1 e2⟩, ⟨tr, b3⟩, tr, tr, tr, tr, tr, tr, tr, tr, tr, tr, tr, tr, tr, tr, tr, tr, tr, tr, tr, tr, tr, tr⟩ ⟨rfl, rfl⟩
  refine thenQ_normal ?_
  refine AW.ret ?_
  replace h := some_eq h
  subst h
  exact ⟨.inr rfl, retOK_of [(.one (.c (.bool j12)))] (by kernel_rfl) ⟨⟨rfl, tr⟩, tr⟩ (of_decide_eq_true (by kernel_rfl))⟩

/-! impl.InverseOf -/
def impl_InverseOf (_K : Nat) (a0 : Turn) : Option (Turn) :=
  some (Turn.mk a0.W (a0.X.neg) (a0.Y.neg) (a0.Z.neg))

theorem ok_impl_InverseOf (K : Nat) (a0 : Turn) (o : (Turn)) (h : impl_InverseOf K a0 = some o) : CallOK Try.prog 27 [.agg (cs_Turn a0)] [.agg (cs_Turn o)] := by
  refine callOK_of_AW Try.func27 rfl (by kernel_rfl) (Nat.le_of_ble_eq_true (by kernel_rfl)) ?_
  intro w0
  unfold impl_InverseOf at h
  refine AW.sC (T2 Tt) [.box 1, .box 2] [1, 2] [1, 2] ⟨tr, tr, tr⟩ ?_
  refine AW.sA ⟨[(2, (vp 2 0))], [(2, (.box [(cF a0.W), (cF (a0.X.neg)), (cF (a0.Y.neg)), (cF (a0.Z.neg))]))]⟩ (Tt ∧ T4 (T4 (T4 Tt))) [] [2] [2] ⟨tr, tr, tr, tr, tr, tr, tr, tr, tr, tr, tr, tr, tr, tr⟩ ?_
  refine AW.ret ?_
  replace h := some_eq h
  subst h
  exact ⟨.inr rfl, retOK_of [(.agg [(cF a0.W), (cF (a0.X.neg)), (cF (a0.Y.neg)), (cF (a0.Z.neg))])] (by kernel_rfl) ⟨⟨⟨rfl, tr⟩, ⟨rfl, tr⟩, ⟨rfl, tr⟩, ⟨rfl, tr⟩, tr⟩, tr⟩ (of_decide_eq_true (by kernel_rfl))⟩

/-! impl.MulTurns -/
def impl_MulTurns (_K : Nat) (a0 : Turn) (a1 : Turn) : Option (Turn) :=
  some (Turn.mk ((((a0.W.mul a1.W).sub (a0.X.mul a1.X)).sub (a0.Y.mul a1.Y)).sub (a0.Z.mul a1.Z)) ((((a0.W.mul a1.X).add (a0.X.mul a1.W)).add (a0.Y.mul a1.Z)).sub (a0.Z.mul a1.Y)) ((((a0.W.mul a1.Y).sub (a0.X.mul a1.Z)).add (a0.Y.mul a1.W)).add (a0.Z.mul a1.X)) ((((a0.W.mul a1.Z).add (a0.X.mul a1.Y)).sub (a0.Y.mul a1.X)).add (a0.Z.mul a1.W)))

theorem ok_impl_MulTurns (K : Nat) (a0 : Turn) (a1 : Turn) (o : (Turn)) (h : impl_MulTurns K a0 a1 = some o) : CallOK Try.prog 26 [.agg (cs_Turn a0), .agg (cs_Turn a1)] [.agg (cs_Turn o)] := by
  refine callOK_of_AW Try.func26 rfl (by kernel_rfl) (Nat.le_of_ble_eq_true (by kernel_rfl)) ?_
  intro w0
  unfold impl_MulTurns at h
  refine AW.sC (Tt ∧ T2 Tt) [.box 1, .box 2, .box 3] [2, 3, 4] [1, 2, 3] ⟨tr, tr, tr, tr⟩ ?_
  refine AW.sA ⟨[(4, (vp 3 0))], [(3, (.box [(cF ((((a0.W.mul a1.W).sub (a0.X.mul a1.X)).sub (a0.Y.mul a1.Y)).sub (a0.Z.mul a1.Z))), (cF ((((a0.W.mul a1.X).add (a0.X.mul a1.W)).add (a0.Y.mul a1.Z)).sub (a0.Z.mul a1.Y))), (cF ((((a0.W.mul a1.Y).sub (a0.X.mul a1.Z)).add (a0.Y.mul a1.W)).add (a0.Z.mul a1.X))), (cF ((((a0.W.mul a1.Z).add (a0.X.mul a1.Y)).sub (a0.Y.mul a1.X)).add (a0.Z.mul a1.W)))]))]⟩ (T2 (T4 (T4 (T4 (T4 (T4 (T4 (T4 (T4 (T4 (T4 (T4 (T4 (T4 (T4 (T4 (T4 (T4 (T4 (T4 (T4 (T4 (T4 (T4 Tt)))))))))))))))))))))))) [] [4] [3] ⟨tr, tr, tr, tr, tr, tr, tr, tr, tr, tr, tr, tr, tr, tr, tr, tr, tr, tr, tr, tr, tr, tr, tr, tr, tr, tr, tr, tr, tr, tr, tr, tr, tr, tr, tr, tr, tr, tr, tr, tr, tr, tr, tr, tr, tr, tr, tr, tr, tr, tr, tr, tr, tr, tr, tr, tr, tr, tr, tr, tr, tr, tr, tr, tr, tr, tr, tr, tr, tr, tr, tr, tr, tr, tr, tr, tr, tr, tr, tr, tr, tr, tr, tr, tr, tr, tr, tr, tr, tr, tr, tr, tr, tr, tr, tr⟩ ?_
  refine AW.ret ?_
  replace h := some_eq h
  subst h
  exact ⟨.inr rfl, retOK_of [(.agg [(cF ((((a0.W.mul a1.W).sub (a0.X.mul a1.X)).sub (a0.Y.mul a1.Y)).sub (a0.Z.mul a1.Z))), (cF ((((a0.W.mul a1.X).add (a0.X.mul a1.W)).add (a0.Y.mul a1.Z)).sub (a0.Z.mul a1.Y))), (cF ((((a0.W.mul a1.Y).sub (a0.X.mul a1.Z)).add (a0.Y.mul a1.W)).add (a0.Z.mul a1.X))), (cF ((((a0.W.mul a1.Z).add (a0.X.mul a1.Y)).sub (a0.Y.mul a1.X)).add (a0.Z.mul a1.W)))])] (by kernel_rfl) ⟨⟨⟨rfl, tr⟩, ⟨rfl, tr⟩, ⟨rfl, tr⟩, ⟨rfl, tr⟩, tr⟩, tr⟩ (of_decide_eq_true (by kernel_rfl))⟩

end
end Go.Fw
