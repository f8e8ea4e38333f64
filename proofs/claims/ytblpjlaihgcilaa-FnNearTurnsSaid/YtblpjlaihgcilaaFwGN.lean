/- Functions of the program: what each computes, and that it computes just that. -/
import Derived.Test.YtblpjlaihgcilaaFwTy
import Derived.Test.YtblpjlaihgcilaaFwH
import Derived.Test.YtblpjlaihgcilaaFwV
import Derived.Test.YtblpjlaihgcilaaFwVW
import Derived.Test.YtblpjlaihgcilaaFwMK
import Derived.Test.YtblpjlaihgcilaaFwAB
import Derived.Test.YtblpjlaihgcilaaProg
import Derived.KernelRfl
namespace Go.Fw
open Go Go.Proofs
noncomputable section
set_option maxRecDepth 10000

/-! laws.r8Long -/
def laws_r8Long (_K : Nat) (a0 : (List Int)) (a1 : (List Int)) : Option (Bool) :=
  (ite2 ((decide ((a0.length : Int) > (48 : Int)))) (some true) (some (decide ((a1.length : Int) > (48 : Int))))).bind fun j2 => some j2

theorem ok_laws_r8Long (K : Nat) (a0 : (List Int)) (a1 : (List Int)) (o : (Bool)) (h : laws_r8Long K a0 a1 = some o) : CallOK Try.prog 4 [.one (sl 1 (csI .u8) a0), .one (sl 1 (csI .u8) a1)] [.one (.bool o)] := by
  refine callOK_of_AW Try.func4 rfl (by kernel_rfl) (Nat.le_of_ble_eq_true (by kernel_rfl)) ?_
  intro w0
  unfold laws_r8Long at h
  refine AW.sA ⟨[(0, (vc (sl 1 (csI .u8) a0))), (1, (vc (sl 1 (csI .u8) a1)))], []⟩ (Tt ∧ Tt) [] [0, 1] [] ⟨tr, tr⟩ ?_
  refine AW.seq ?_
  obtain ⟨j2, e3, h⟩ := bind_some h
  refine AW.join1 (s2 := ⟨[(4, (vB j2))], []⟩) ?_ ?_
  · rcases ite2_cases e3 with ⟨b1, e3⟩ | ⟨b1, e3⟩
    · replace e3 := some_eq e3
      subst e3
      exact AW.rA ⟨[(4, (vB true))], []⟩ (Tt ∧ T2 ((Tt ∧ (decide ((a0.length : Int) > (48 : Int))) = true) ∧ Tt ∧ T4 Tt)) [.no, .no, .no, .dec true] [4] [] ⟨tr, tr, tr, ⟨tr, b1⟩, tr, tr, tr, tr, tr, tr⟩ ⟨rfl, rfl⟩
    · replace e3 := some_eq e3
      subst e3
      exact AW.rA ⟨[(4, (vB (decide ((a1.length : Int) > (48 : Int)))))], []⟩ (Tt ∧ T2 ((Tt ∧ (decide ((a0.length : Int) > (48 : Int))) = false) ∧ Tt ∧ T4 Tt)) [.no, .no, .no, .dec false] [4] [] ⟨tr, tr, tr, ⟨tr, b1⟩, tr, tr, tr, tr, tr, tr⟩ ⟨rfl, rfl⟩
  refine thenQ_normal ?_
  refine AW.ret ?_
  replace h := some_eq h
  subst h
  exact ⟨.inr rfl, retOK_of [(.one (.c (.bool j2)))] (by kernel_rfl) ⟨⟨rfl, tr⟩, tr⟩ (of_decide_eq_true (by kernel_rfl))⟩

/-! spec.l00From -/
theorem mk_spec_l00From : MkOK Try.prog 12 49 [(.i64, 0), (.u64, 0)] := by
  refine mkOK_of Try.func12 rfl (by kernel_rfl) fun w ad n cap => ?_
  refine wp_seq (wp_region_lit (wpList_val (x := (.pointer none)) (w' := w) rfl (by kernel_rfl) (wpList_nil ?_)))
  refine wp_seq (wp_region_lit (wpList_val (x := (.slice ad n cap)) (w' := w) rfl (by kernel_rfl) (wpList_val (x := (.agg #[(.slice ad n cap), .int .i64 0, .int .u64 0])) (w' := w) rfl (by kernel_rfl) (wpList_val (x := (.pointer (some ⟨w.heap.size, 0, none⟩))) (w' := (w.alloc (.cells #[(.slice ad n cap), .int .i64 0, .int .u64 0] 49))) rfl (by kernel_rfl) (wpList_val (x := (.pointer (some ⟨w.heap.size, 0, none⟩))) (w' := (w.alloc (.cells #[(.slice ad n cap), .int .i64 0, .int .u64 0] 49))) rfl (by kernel_rfl) (wpList_nil ?_))))))
  exact wp_ret ⟨rfl, (.pointer (some ⟨w.heap.size, 0, none⟩)), (by kernel_rfl), _, rfl, rfl, rfl⟩



/-! (*spec.l00Src).next -/
def spec_l00Src_next (_K : Nat) (a0 : l00Src) : Option (Int × Int × Int) :=
  ite2 ((decide (a0.at_ < (a0.code.length : Int)))) (chk (0 ≤ a0.at_ ∧ a0.at_ < (a0.code.length : Int)) (ite2 ((decide ((IntKind.i64.wrap (a0.at_ + (1 : Int))) ≤ (a0.code.length : Int)))) (some ((IntKind.i64.wrap (a0.code.getD a0.at_.toNat default)), (IntKind.i64.wrap (a0.at_ + (1 : Int))), (IntKind.u64.wrap ((IntKind.u64.wrap ((IntKind.u64.wrap (a0.seed * (6364136223846793005 : Int))) + (IntKind.u64.wrap (IntKind.i64.wrap (a0.code.getD a0.at_.toNat default))))) + (1442695040888963407 : Int))))) (chk (0 ≤ (40 : Int)) (some ((IntKind.i64.wrap (bits .and .u64 ((IntKind.u64.wrap ((IntKind.u64.wrap ((IntKind.u64.wrap (a0.seed * (6364136223846793005 : Int))) + (IntKind.u64.wrap (IntKind.i64.wrap (a0.code.getD a0.at_.toNat default))))) + (1442695040888963407 : Int))).fdiv (2 ^ (min (40 : Int).toNat (IntKind.bits .u64)))) (255 : Int))), (IntKind.i64.wrap (a0.at_ + (1 : Int))), (IntKind.u64.wrap ((IntKind.u64.wrap ((IntKind.u64.wrap (a0.seed * (6364136223846793005 : Int))) + (IntKind.u64.wrap (IntKind.i64.wrap (a0.code.getD a0.at_.toNat default))))) + (1442695040888963407 : Int)))))))) (ite2 ((decide ((IntKind.i64.wrap (a0.at_ + (1 : Int))) ≤ (a0.code.length : Int)))) (some ((0 : Int), (IntKind.i64.wrap (a0.at_ + (1 : Int))), (IntKind.u64.wrap ((IntKind.u64.wrap ((IntKind.u64.wrap (a0.seed * (6364136223846793005 : Int))) + (IntKind.u64.wrap (0 : Int)))) + (1442695040888963407 : Int))))) (chk (0 ≤ (40 : Int)) (some ((IntKind.i64.wrap (bits .and .u64 ((IntKind.u64.wrap ((IntKind.u64.wrap ((IntKind.u64.wrap (a0.seed * (6364136223846793005 : Int))) + (IntKind.u64.wrap (0 : Int)))) + (1442695040888963407 : Int))).fdiv (2 ^ (min (40 : Int).toNat (IntKind.bits .u64)))) (255 : Int))), (IntKind.i64.wrap (a0.at_ + (1 : Int))), (IntKind.u64.wrap ((IntKind.u64.wrap ((IntKind.u64.wrap (a0.seed * (6364136223846793005 : Int))) + (IntKind.u64.wrap (0 : Int)))) + (1442695040888963407 : Int)))))))

theorem ok_spec_l00Src_next (K : Nat) (a0 : l00Src) (o : (Int × Int × Int)) (h : spec_l00Src_next K a0 = some o) : MutOK Try.prog 44 [(.box 3 (fun j => [true, false, false].getD j true) (fun j => (cs_l00Src a0).getD j .nilptr) (fun j => [.nilptr, (.int .i64 o.2.1), (.int .u64 o.2.2)].getD j .nilptr))] [.one (.int .i64 o.1)] := by
  refine mutOK_of_AW 1 Try.func44 rfl (by kernel_rfl) (Nat.le_of_ble_eq_true (by kernel_rfl)) (by kernel_rfl) (by kernel_rfl) ?_
  intro w0 K0 v0 s0
  unfold spec_l00Src_next at h
  refine AW.weak (s' := ⟨[(0, (vp 0 0))], [(0, (.box [(.fx 0 0 (sl 1 (csI .u8) a0.code)), (cI a0.at_), (.c (.int .u64 a0.seed))]))]⟩) (subUnfx 0 [1, 2] (by kernel_rfl)) ?_
  refine AW.sC (Tt ∧ Tt) [] [0] [0] ⟨tr, tr⟩ ?_
  refine AW.sA ⟨[(0, (vp 0 0)), (3, (vI (0 : Int)))], [(0, (.box [(.fx 0 0 (sl 1 (csI .u8) a0.code)), (cI a0.at_), (.c (.int .u64 a0.seed))]))]⟩ (Tt ∧ Tt) [] [0, 3] [0] ⟨tr, tr⟩ ?_
  refine AW.seq ?_
  refine AW.seq (AW.dA ⟨[(0, (vp 0 0)), (3, (vI (0 : Int))), (13, (vB (decide (a0.at_ < (a0.code.length : Int)))))], [(0, (.box [(.fx 0 0 (sl 1 (csI .u8) a0.code)), (cI a0.at_), (.c (.int .u64 a0.seed))]))]⟩ ((T2 (T4 (T4 Tt))) ∧ (Tt)) 10 [] [0, 3, 13] [0] ⟨⟨tr, tr, tr, tr, tr, tr, tr, tr, tr, tr, tr⟩, tr⟩ (thenQ_normal ?_))
  rcases ite2_cases h with ⟨b1, h⟩ | ⟨b1, h⟩
  · refine AW.cond_t rfl b1 ?_
    obtain ⟨c2, h⟩ := chk_some h
    refine AW.dA ⟨[(0, (vp 0 0)), (3, (vI (IntKind.i64.wrap (a0.code.getD a0.at_.toNat default))))], [(0, (.box [(.fx 0 0 (sl 1 (csI .u8) a0.code)), (cI a0.at_), (.c (.int .u64 a0.seed))]))]⟩ ((T4 (T4 ((0 ≤ a0.at_ ∧ a0.at_ < (a0.code.length : Int)) ∧ Tt ∧ T2 Tt))) ∧ (Tt)) 12 [] [0, 3] [0] ⟨⟨tr, tr, tr, tr, tr, tr, tr, tr, c2, tr, tr, tr, tr⟩, tr⟩ ?_
    refine thenQ_normal ?_
    refine AW.sC (T4 (T4 Tt)) [] [0, 3] [0] ⟨tr, tr, tr, tr, tr, tr, tr, tr, tr⟩ ?_
    refine AW.sA ⟨[(0, (vp 0 0)), (3, (vI (IntKind.i64.wrap (a0.code.getD a0.at_.toNat default))))], [(0, (.box [(.fx 0 0 (sl 1 (csI .u8) a0.code)), (cI (IntKind.i64.wrap (a0.at_ + (1 : Int)))), (.c (.int .u64 (IntKind.u64.wrap ((IntKind.u64.wrap ((IntKind.u64.wrap (a0.seed * (6364136223846793005 : Int))) + (IntKind.u64.wrap (IntKind.i64.wrap (a0.code.getD a0.at_.toNat default))))) + (1442695040888963407 : Int)))))]))]⟩ (Tt ∧ T4 (T4 (T4 Tt))) [] [0, 3] [0] ⟨tr, tr, tr, tr, tr, tr, tr, tr, tr, tr, tr, tr, tr, tr⟩ ?_
    refine AW.seq ?_
    refine AW.seq (AW.dA ⟨[(0, (vp 0 0)), (3, (vI (IntKind.i64.wrap (a0.code.getD a0.at_.toNat default)))), (53, (vB (decide ((IntKind.i64.wrap (a0.at_ + (1 : Int))) ≤ (a0.code.length : Int)))))], [(0, (.box [(.fx 0 0 (sl 1 (csI .u8) a0.code)), (cI (IntKind.i64.wrap (a0.at_ + (1 : Int)))), (.c (.int .u64 (IntKind.u64.wrap ((IntKind.u64.wrap ((IntKind.u64.wrap (a0.seed * (6364136223846793005 : Int))) + (IntKind.u64.wrap (IntKind.i64.wrap (a0.code.getD a0.at_.toNat default))))) + (1442695040888963407 : Int)))))]))]⟩ ((T2 (T4 (T4 Tt))) ∧ (Tt)) 10 [] [0, 3, 53] [0] ⟨⟨tr, tr, tr, tr, tr, tr, tr, tr, tr, tr, tr⟩, tr⟩ (thenQ_normal ?_))
    rcases ite2_cases h with ⟨b3, h⟩ | ⟨b3, h⟩
    · refine AW.cond_t rfl b3 ?_
      refine AW.sA ⟨[(0, (vp 0 0)), (2, (vI (IntKind.i64.wrap (a0.code.getD a0.at_.toNat default))))], [(0, (.box [(.fx 0 0 (sl 1 (csI .u8) a0.code)), (cI (IntKind.i64.wrap (a0.at_ + (1 : Int)))), (.c (.int .u64 (IntKind.u64.wrap ((IntKind.u64.wrap ((IntKind.u64.wrap (a0.seed * (6364136223846793005 : Int))) + (IntKind.u64.wrap (IntKind.i64.wrap (a0.code.getD a0.at_.toNat default))))) + (1442695040888963407 : Int)))))]))]⟩ (T2 Tt) [] [0, 2] [0] ⟨tr, tr, tr⟩ ?_
      refine AW.ret ?_
      refine thenQ_ret ?_
      replace h := some_eq h
      subst h
      exact ⟨.inr rfl, retOK_of [(.one (cI (IntKind.i64.wrap (a0.code.getD a0.at_.toNat default))))] (by kernel_rfl) ⟨⟨rfl, tr⟩, tr⟩ (of_decide_eq_true (by kernel_rfl)), by kernel_rfl, ⟨⟨rfl, ⟨⟨rfl, rfl⟩, ⟨rfl, rfl⟩, ⟨rfl, rfl⟩, tr⟩⟩, tr⟩⟩
    · refine AW.cond_f rfl b3 ?_
      refine AW.skip ?_
      refine thenQ_normal ?_
      refine AW.seq ?_
      obtain ⟨c4, h⟩ := chk_some h
      refine AW.tA ⟨[(0, (vp 0 0)), (2, (vI (IntKind.i64.wrap (bits .and .u64 ((IntKind.u64.wrap ((IntKind.u64.wrap ((IntKind.u64.wrap (a0.seed * (6364136223846793005 : Int))) + (IntKind.u64.wrap (IntKind.i64.wrap (a0.code.getD a0.at_.toNat default))))) + (1442695040888963407 : Int))).fdiv (2 ^ (min (40 : Int).toNat (IntKind.bits .u64)))) (255 : Int)))))], [(0, (.box [(.fx 0 0 (sl 1 (csI .u8) a0.code)), (cI (IntKind.i64.wrap (a0.at_ + (1 : Int)))), (.c (.int .u64 (IntKind.u64.wrap ((IntKind.u64.wrap ((IntKind.u64.wrap (a0.seed * (6364136223846793005 : Int))) + (IntKind.u64.wrap (IntKind.i64.wrap (a0.code.getD a0.at_.toNat default))))) + (1442695040888963407 : Int)))))]))]⟩ (T4 ((0 ≤ (40 : Int)) ∧ Tt ∧ T2 Tt)) [] [0, 2] [0] ⟨tr, tr, tr, tr, c4, tr, tr, tr, tr⟩ ?_
      refine AW.ret ?_
      replace h := some_eq h
      subst h
      exact ⟨.inr rfl, retOK_of [(.one (cI (IntKind.i64.wrap (bits .and .u64 ((IntKind.u64.wrap ((IntKind.u64.wrap ((IntKind.u64.wrap (a0.seed * (6364136223846793005 : Int))) + (IntKind.u64.wrap (IntKind.i64.wrap (a0.code.getD a0.at_.toNat default))))) + (1442695040888963407 : Int))).fdiv (2 ^ (min (40 : Int).toNat (IntKind.bits .u64)))) (255 : Int)))))] (by kernel_rfl) ⟨⟨rfl, tr⟩, tr⟩ (of_decide_eq_true (by kernel_rfl)), by kernel_rfl, ⟨⟨rfl, ⟨⟨rfl, rfl⟩, ⟨rfl, rfl⟩, ⟨rfl, rfl⟩, tr⟩⟩, tr⟩⟩
  · refine AW.cond_f rfl b1 ?_
    refine AW.skip ?_
    refine thenQ_normal ?_
    refine AW.sC (T4 (T4 Tt)) [] [0, 3] [0] ⟨tr, tr, tr, tr, tr, tr, tr, tr, tr⟩ ?_
    refine AW.sA ⟨[(0, (vp 0 0)), (3, (vI (0 : Int)))], [(0, (.box [(.fx 0 0 (sl 1 (csI .u8) a0.code)), (cI (IntKind.i64.wrap (a0.at_ + (1 : Int)))), (.c (.int .u64 (IntKind.u64.wrap ((IntKind.u64.wrap ((IntKind.u64.wrap (a0.seed * (6364136223846793005 : Int))) + (IntKind.u64.wrap (0 : Int)))) + (1442695040888963407 : Int)))))]))]⟩ (Tt ∧ T4 (T4 (T4 Tt))) [] [0, 3] [0] ⟨tr, tr, tr, tr, tr, tr, tr, tr, tr, tr, tr, tr, tr, tr⟩ ?_
    refine AW.seq ?_
    refine AW.seq (AW.dA ⟨[(0, (vp 0 0)), (3, (vI (0 : Int))), (53, (vB (decide ((IntKind.i64.wrap (a0.at_ + (1 : Int))) ≤ (a0.code.length : Int)))))], [(0, (.box [(.fx 0 0 (sl 1 (csI .u8) a0.code)), (cI (IntKind.i64.wrap (a0.at_ + (1 : Int)))), (.c (.int .u64 (IntKind.u64.wrap ((IntKind.u64.wrap ((IntKind.u64.wrap (a0.seed * (6364136223846793005 : Int))) + (IntKind.u64.wrap (0 : Int)))) + (1442695040888963407 : Int)))))]))]⟩ ((T2 (T4 (T4 Tt))) ∧ (Tt)) 10 [] [0, 3, 53] [0] ⟨⟨tr, tr, tr, tr, tr, tr, tr, tr, tr, tr, tr⟩, tr⟩ (thenQ_normal ?_))
    rcases ite2_cases h with ⟨b5, h⟩ | ⟨b5, h⟩
    · refine AW.cond_t rfl b5 ?_
      refine AW.sA ⟨[(0, (vp 0 0)), (2, (vI (0 : Int)))], [(0, (.box [(.fx 0 0 (sl 1 (csI .u8) a0.code)), (cI (IntKind.i64.wrap (a0.at_ + (1 : Int)))), (.c (.int .u64 (IntKind.u64.wrap ((IntKind.u64.wrap ((IntKind.u64.wrap (a0.seed * (6364136223846793005 : Int))) + (IntKind.u64.wrap (0 : Int)))) + (1442695040888963407 : Int)))))]))]⟩ (T2 Tt) [] [0, 2] [0] ⟨tr, tr, tr⟩ ?_
      refine AW.ret ?_
      refine thenQ_ret ?_
      replace h := some_eq h
      subst h
      exact ⟨.inr rfl, retOK_of [(.one (cI (0 : Int)))] (by kernel_rfl) ⟨⟨rfl, tr⟩, tr⟩ (of_decide_eq_true (by kernel_rfl)), by kernel_rfl, ⟨⟨rfl, ⟨⟨rfl, rfl⟩, ⟨rfl, rfl⟩, ⟨rfl, rfl⟩, tr⟩⟩, tr⟩⟩
    · refine AW.cond_f rfl b5 ?_
      refine AW.skip ?_
      refine thenQ_normal ?_
      refine AW.seq ?_
      obtain ⟨c6, h⟩ := chk_some h
      refine AW.tA ⟨[(0, (vp 0 0)), (2, (vI (IntKind.i64.wrap (bits .and .u64 ((IntKind.u64.wrap ((IntKind.u64.wrap ((IntKind.u64.wrap (a0.seed * (6364136223846793005 : Int))) + (IntKind.u64.wrap (0 : Int)))) + (1442695040888963407 : Int))).fdiv (2 ^ (min (40 : Int).toNat (IntKind.bits .u64)))) (255 : Int)))))], [(0, (.box [(.fx 0 0 (sl 1 (csI .u8) a0.code)), (cI (IntKind.i64.wrap (a0.at_ + (1 : Int)))), (.c (.int .u64 (IntKind.u64.wrap ((IntKind.u64.wrap ((IntKind.u64.wrap (a0.seed * (6364136223846793005 : Int))) + (IntKind.u64.wrap (0 : Int)))) + (1442695040888963407 : Int)))))]))]⟩ (T4 ((0 ≤ (40 : Int)) ∧ Tt ∧ T2 Tt)) [] [0, 2] [0] ⟨tr, tr, tr, tr, c6, tr, tr, tr, tr⟩ ?_
      refine AW.ret ?_
      replace h := some_eq h
      subst h
      exact ⟨.inr rfl, retOK_of [(.one (cI (IntKind.i64.wrap (bits .and .u64 ((IntKind.u64.wrap ((IntKind.u64.wrap ((IntKind.u64.wrap (a0.seed * (6364136223846793005 : Int))) + (IntKind.u64.wrap (0 : Int)))) + (1442695040888963407 : Int))).fdiv (2 ^ (min (40 : Int).toNat (IntKind.bits .u64)))) (255 : Int)))))] (by kernel_rfl) ⟨⟨rfl, tr⟩, tr⟩ (of_decide_eq_true (by kernel_rfl)), by kernel_rfl, ⟨⟨rfl, ⟨⟨rfl, rfl⟩, ⟨rfl, rfl⟩, ⟨rfl, rfl⟩, tr⟩⟩, tr⟩⟩

/-! (*spec.l00Src).pick -/
def spec_l00Src_pick (K : Nat) (a0 : l00Src) (a1 : Int) : Option (Int × Int × Int) :=
  ite2 ((decide (a1 ≤ (1 : Int)))) (some ((0 : Int), a0.at_, a0.seed)) ((spec_l00Src_next K a0).bind fun v2 => ite2 ((decide (a1 > (200 : Int)))) ((spec_l00Src_next K (l00Src.mk a0.code v2.2.1 v2.2.2)).bind fun v5 => chk (a1 ≠ 0) (some (((IntKind.i64.wrap ((IntKind.i64.wrap (v2.1 * (256 : Int))) + v5.1)).tmod a1), v5.2.1, v5.2.2))) (chk (a1 ≠ 0) (some ((v2.1.tmod a1), v2.2.1, v2.2.2))))

theorem ok_spec_l00Src_pick (K : Nat) (a0 : l00Src) (a1 : Int) (o : (Int × Int × Int)) (h : spec_l00Src_pick K a0 a1 = some o) : MutOK Try.prog 33 [(.box 3 (fun j => [true, false, false].getD j true) (fun j => (cs_l00Src a0).getD j .nilptr) (fun j => [.nilptr, (.int .i64 o.2.1), (.int .u64 o.2.2)].getD j .nilptr)), (.one (.ro (.int .i64 a1)))] [.one (.int .i64 o.1)] := by
  refine mutOK_of_AW 1 Try.func33 rfl (by kernel_rfl) (Nat.le_of_ble_eq_true (by kernel_rfl)) (by kernel_rfl) (by kernel_rfl) ?_
  intro w0 K0 v0 s0
  unfold spec_l00Src_pick at h
  refine AW.weak (s' := ⟨[(0, (vp 0 0)), (1, (vI a1))], [(0, (.box [(.fx 0 0 (sl 1 (csI .u8) a0.code)), (cI a0.at_), (.c (.int .u64 a0.seed))]))]⟩) (subUnfx 0 [1, 2] (by kernel_rfl)) ?_
  refine AW.sC (Tt ∧ Tt) [] [0, 1] [0] ⟨tr, tr⟩ ?_
  refine AW.seq ?_
  refine AW.sA ⟨[(0, (vp 0 0)), (1, (vI a1)), (7, (vB (decide (a1 ≤ (1 : Int)))))], [(0, (.box [(.fx 0 0 (sl 1 (csI .u8) a0.code)), (cI a0.at_), (.c (.int .u64 a0.seed))]))]⟩ (T2 Tt) [] [0, 1, 7] [0] ⟨tr, tr, tr⟩ ?_
  rcases ite2_cases h with ⟨b1, h⟩ | ⟨b1, h⟩
  · refine AW.cond_t rfl b1 ?_
    refine AW.sA ⟨[(0, (vp 0 0)), (1, (vI a1)), (4, (vI (0 : Int)))], [(0, (.box [(.fx 0 0 (sl 1 (csI .u8) a0.code)), (cI a0.at_), (.c (.int .u64 a0.seed))]))]⟩ (Tt ∧ Tt) [] [0, 1, 4] [0] ⟨tr, tr⟩ ?_
    refine AW.ret ?_
    refine thenQ_ret ?_
    replace h := some_eq h
    subst h
    exact ⟨.inr rfl, retOK_of [(.one (cI (0 : Int)))] (by kernel_rfl) ⟨⟨rfl, tr⟩, tr⟩ (of_decide_eq_true (by kernel_rfl)), by kernel_rfl, ⟨⟨rfl, ⟨⟨rfl, rfl⟩, ⟨rfl, rfl⟩, ⟨rfl, rfl⟩, tr⟩⟩, tr, tr⟩⟩
  · refine AW.cond_f rfl b1 ?_
    refine AW.skip ?_
    refine thenQ_normal ?_
    refine AW.seq ?_
    obtain ⟨v2, e3, h⟩ := bind_some h
    refine AW.tC (Tt ∧ ((((Eqc (sl 1 (csI .u8) a0.code)) ∧ (eI a0.at_) ∧ (Eqc (.int .u64 a0.seed)) ∧ Tt) ∧ Tt) ∧ MutOK Try.prog 44 [(.box 3 (fun j => [true, false, false].getD j true) (fun j => (cs_l00Src a0).getD j .nilptr) (fun j => [.nilptr, (.int .i64 v2.2.1), (.int .u64 v2.2.2)].getD j .nilptr))] [.one (.int .i64 v2.1)]) ∧ Tt ∧ Tt) [.no, .callM [(.box 3 (fun j => [true, false, false].getD j true) (fun j => (cs_l00Src a0).getD j .nilptr) (fun j => [.nilptr, (.int .i64 v2.2.1), (.int .u64 v2.2.2)].getD j .nilptr))] [.one (.int .i64 v2.1)] [[.view]] none] [0, 1, 5] [0] ⟨tr, ⟨⟨⟨rfl, rfl, rfl, tr⟩, tr⟩, ok_spec_l00Src_next K a0 v2 e3⟩, tr, tr⟩ ?_
    refine AW.seq ?_
    refine AW.sA ⟨[(0, (vp 0 0)), (1, (vI a1)), (5, (vI v2.1)), (11, (vB (decide (a1 > (200 : Int)))))], [(0, (.box [(.fx 0 0 (sl 1 (csI .u8) a0.code)), (cI v2.2.1), (.c (.int .u64 v2.2.2))]))]⟩ (T2 Tt) [] [0, 1, 5, 11] [0] ⟨tr, tr, tr⟩ ?_
    rcases ite2_cases h with ⟨b4, h⟩ | ⟨b4, h⟩
    · refine AW.cond_t rfl b4 ?_
      obtain ⟨v5, e6, h⟩ := bind_some h
      refine AW.tC (Tt ∧ T2 (((((Eqc (sl 1 (csI .u8) a0.code)) ∧ (eI v2.2.1) ∧ (Eqc (.int .u64 v2.2.2)) ∧ Tt) ∧ Tt) ∧ MutOK Try.prog 44 [(.box 3 (fun j => [true, false, false].getD j true) (fun j => (cs_l00Src (l00Src.mk a0.code v2.2.1 v2.2.2)).getD j .nilptr) (fun j => [.nilptr, (.int .i64 v5.2.1), (.int .u64 v5.2.2)].getD j .nilptr))] [.one (.int .i64 v5.1)]) ∧ T2 Tt)) [.no, .no, .no, .callM [(.box 3 (fun j => [true, false, false].getD j true) (fun j => (cs_l00Src (l00Src.mk a0.code v2.2.1 v2.2.2)).getD j .nilptr) (fun j => [.nilptr, (.int .i64 v5.2.1), (.int .u64 v5.2.2)].getD j .nilptr))] [.one (.int .i64 v5.1)] [[.view]] none] [0, 1, 5] [0] ⟨tr, tr, tr, ⟨⟨⟨rfl, rfl, rfl, tr⟩, tr⟩, ok_spec_l00Src_next K (l00Src.mk a0.code v2.2.1 v2.2.2) v5 e6⟩, tr, tr, tr⟩ ?_
      refine AW.seq ?_
      obtain ⟨c7, h⟩ := chk_some h
      refine AW.tA ⟨[(0, (vp 0 0)), (1, (vI a1)), (4, (vI ((IntKind.i64.wrap ((IntKind.i64.wrap (v2.1 * (256 : Int))) + v5.1)).tmod a1)))], [(0, (.box [(.fx 0 0 (sl 1 (csI .u8) a0.code)), (cI v5.2.1), (.c (.int .u64 v5.2.2))]))]⟩ (T2 ((a1 ≠ 0) ∧ Tt ∧ Tt)) [] [0, 1, 4] [0] ⟨tr, tr, c7, tr, tr⟩ ?_
      refine AW.ret ?_
      replace h := some_eq h
      subst h
      exact ⟨.inr rfl, retOK_of [(.one (cI ((IntKind.i64.wrap ((IntKind.i64.wrap (v2.1 * (256 : Int))) + v5.1)).tmod a1)))] (by kernel_rfl) ⟨⟨rfl, tr⟩, tr⟩ (of_decide_eq_true (by kernel_rfl)), by kernel_rfl, ⟨⟨rfl, ⟨⟨rfl, rfl⟩, ⟨rfl, rfl⟩, ⟨rfl, rfl⟩, tr⟩⟩, tr, tr⟩⟩
    · refine AW.cond_f rfl b4 ?_
      refine AW.skip ?_
      refine thenQ_normal ?_
      refine AW.seq ?_
      obtain ⟨c8, h⟩ := chk_some h
      refine AW.tA ⟨[(0, (vp 0 0)), (1, (vI a1)), (4, (vI (v2.1.tmod a1)))], [(0, (.box [(.fx 0 0 (sl 1 (csI .u8) a0.code)), (cI v2.2.1), (.c (.int .u64 v2.2.2))]))]⟩ (T2 ((a1 ≠ 0) ∧ Tt ∧ Tt)) [] [0, 1, 4] [0] ⟨tr, tr, c8, tr, tr⟩ ?_
      refine AW.ret ?_
      replace h := some_eq h
      subst h
      exact ⟨.inr rfl, retOK_of [(.one (cI (v2.1.tmod a1)))] (by kernel_rfl) ⟨⟨rfl, tr⟩, tr⟩ (of_decide_eq_true (by kernel_rfl)), by kernel_rfl, ⟨⟨rfl, ⟨⟨rfl, rfl⟩, ⟨rfl, rfl⟩, ⟨rfl, rfl⟩, tr⟩⟩, tr, tr⟩⟩

/-! (*spec.l00Src).one -/
def spec_l00Src_one (K : Nat) (a0 : l00Src) (a1 : Int) : Option (Bool × Int × Int) :=
  (spec_l00Src_pick K a0 a1).bind fun v1 => some ((v1.1 == (0 : Int)), v1.2.1, v1.2.2)

theorem ok_spec_l00Src_one (K : Nat) (a0 : l00Src) (a1 : Int) (o : (Bool × Int × Int)) (h : spec_l00Src_one K a0 a1 = some o) : MutOK Try.prog 22 [(.box 3 (fun j => [true, false, false].getD j true) (fun j => (cs_l00Src a0).getD j .nilptr) (fun j => [.nilptr, (.int .i64 o.2.1), (.int .u64 o.2.2)].getD j .nilptr)), (.one (.ro (.int .i64 a1)))] [.one (.bool o.1)] := by
  refine mutOK_of_AW 1 Try.func22 rfl (by kernel_rfl) (Nat.le_of_ble_eq_true (by kernel_rfl)) (by kernel_rfl) (by kernel_rfl) ?_
  intro w0 K0 v0 s0
  unfold spec_l00Src_one at h
  refine AW.weak (s' := ⟨[(0, (vp 0 0)), (1, (vI a1))], [(0, (.box [(.fx 0 0 (sl 1 (csI .u8) a0.code)), (cI a0.at_), (.c (.int .u64 a0.seed))]))]⟩) (subUnfx 0 [1, 2] (by kernel_rfl)) ?_
  refine AW.sC (Tt ∧ Tt) [] [0, 1] [0] ⟨tr, tr⟩ ?_
  refine AW.seq ?_
  obtain ⟨v1, e2, h⟩ := bind_some h
  refine AW.tA ⟨[(0, (vp 0 0)), (1, (vI a1)), (4, (vB (v1.1 == (0 : Int))))], [(0, (.box [(.fx 0 0 (sl 1 (csI .u8) a0.code)), (cI v1.2.1), (.c (.int .u64 v1.2.2))]))]⟩ (T2 (((((Eqc (sl 1 (csI .u8) a0.code)) ∧ (eI a0.at_) ∧ (Eqc (.int .u64 a0.seed)) ∧ Tt) ∧ (eI a1) ∧ Tt) ∧ MutOK Try.prog 33 [(.box 3 (fun j => [true, false, false].getD j true) (fun j => (cs_l00Src a0).getD j .nilptr) (fun j => [.nilptr, (.int .i64 v1.2.1), (.int .u64 v1.2.2)].getD j .nilptr)), .one (.ro (.int .i64 a1))] [.one (.int .i64 v1.1)]) ∧ T2 Tt)) [.no, .no, .callM [(.box 3 (fun j => [true, false, false].getD j true) (fun j => (cs_l00Src a0).getD j .nilptr) (fun j => [.nilptr, (.int .i64 v1.2.1), (.int .u64 v1.2.2)].getD j .nilptr)), .one (.ro (.int .i64 a1))] [.one (.int .i64 v1.1)] [[.view]] none] [0, 1, 4] [0] ⟨tr, tr, ⟨⟨⟨rfl, rfl, rfl, tr⟩, rfl, tr⟩, ok_spec_l00Src_pick K a0 a1 v1 e2⟩, tr, tr, tr⟩ ?_
  refine AW.ret ?_
  replace h := some_eq h
  subst h
  exact ⟨.inr rfl, retOK_of [(.one (.c (.bool (v1.1 == (0 : Int)))))] (by kernel_rfl) ⟨⟨rfl, tr⟩, tr⟩ (of_decide_eq_true (by kernel_rfl)), by kernel_rfl, ⟨⟨rfl, ⟨⟨rfl, rfl⟩, ⟨rfl, rfl⟩, ⟨rfl, rfl⟩, tr⟩⟩, tr, tr⟩⟩

/-! spec.l02DrawExact -/
def spec_l02DrawExact (K : Nat) (a0 : l00Src) : Option (Turn × Int × Int) :=
  (spec_l00Src_pick K a0 (24 : Int)).bind fun v1 => ite2 ((decide (v1.1 < (8 : Int)))) (ite2 ((decide (v1.1 ≥ (4 : Int)))) (chk ((4 : Int) ≠ 0) (ite2 (((v1.1.tmod (4 : Int)) == (0 : Int))) (some ((Turn.mk (Fl.mk (k := .f32) 3212836864 (by decide)) (default : F32) (default : F32) (default : F32)), v1.2.1, v1.2.2)) (ite2 (((v1.1.tmod (4 : Int)) == (1 : Int))) (some ((Turn.mk (default : F32) (Fl.mk (k := .f32) 3212836864 (by decide)) (default : F32) (default : F32)), v1.2.1, v1.2.2)) (ite2 (((v1.1.tmod (4 : Int)) == (2 : Int))) (some ((Turn.mk (default : F32) (default : F32) (Fl.mk (k := .f32) 3212836864 (by decide)) (default : F32)), v1.2.1, v1.2.2)) (some ((Turn.mk (default : F32) (default : F32) (default : F32) (Fl.mk (k := .f32) 3212836864 (by decide))), v1.2.1, v1.2.2)))))) (chk ((4 : Int) ≠ 0) (ite2 (((v1.1.tmod (4 : Int)) == (0 : Int))) (some ((Turn.mk (Fl.mk (k := .f32) 1065353216 (by decide)) (default : F32) (default : F32) (default : F32)), v1.2.1, v1.2.2)) (ite2 (((v1.1.tmod (4 : Int)) == (1 : Int))) (some ((Turn.mk (default : F32) (Fl.mk (k := .f32) 1065353216 (by decide)) (default : F32) (default : F32)), v1.2.1, v1.2.2)) (ite2 (((v1.1.tmod (4 : Int)) == (2 : Int))) (some ((Turn.mk (default : F32) (default : F32) (Fl.mk (k := .f32) 1065353216 (by decide)) (default : F32)), v1.2.1, v1.2.2)) (some ((Turn.mk (default : F32) (default : F32) (default : F32) (Fl.mk (k := .f32) 1065353216 (by decide))), v1.2.1, v1.2.2))))))) (chk (0 ≤ (1 : Int)) (chk (0 ≤ (2 : Int)) (chk (0 ≤ (3 : Int)) (some ((Turn.mk ((Fl.ofInt .f32 (bits .and .i64 (IntKind.i64.wrap (v1.1 - (8 : Int))) (1 : Int))).sub (Fl.mk (k := .f32) 1056964608 (by decide))) ((Fl.ofInt .f32 (bits .and .i64 ((IntKind.i64.wrap (v1.1 - (8 : Int))).fdiv (2 ^ (min (1 : Int).toNat (IntKind.bits .i64)))) (1 : Int))).sub (Fl.mk (k := .f32) 1056964608 (by decide))) ((Fl.ofInt .f32 (bits .and .i64 ((IntKind.i64.wrap (v1.1 - (8 : Int))).fdiv (2 ^ (min (2 : Int).toNat (IntKind.bits .i64)))) (1 : Int))).sub (Fl.mk (k := .f32) 1056964608 (by decide))) ((Fl.ofInt .f32 (bits .and .i64 ((IntKind.i64.wrap (v1.1 - (8 : Int))).fdiv (2 ^ (min (3 : Int).toNat (IntKind.bits .i64)))) (1 : Int))).sub (Fl.mk (k := .f32) 1056964608 (by decide)))), v1.2.1, v1.2.2)))))

theorem ok_spec_l02DrawExact (K : Nat) (a0 : l00Src) (o : (Turn × Int × Int)) (h : spec_l02DrawExact K a0 = some o) : MutOK Try.prog 23 [(.box 3 (fun j => [true, false, false].getD j true) (fun j => (cs_l00Src a0).getD j .nilptr) (fun j => [.nilptr, (.int .i64 o.2.1), (.int .u64 o.2.2)].getD j .nilptr))] [.agg (cs_Turn o.1)] := by
  refine mutOK_of_AW 1 Try.func23 rfl (by kernel_rfl) (Nat.le_of_ble_eq_true (by kernel_rfl)) (by kernel_rfl) (by kernel_rfl) ?_
  intro w0 K0 v0 s0
  unfold spec_l02DrawExact at h
  refine AW.weak (s' := ⟨[(0, (vp 0 0))], [(0, (.box [(.fx 0 0 (sl 1 (csI .u8) a0.code)), (cI a0.at_), (.c (.int .u64 a0.seed))]))]⟩) (subUnfx 0 [1, 2] (by kernel_rfl)) ?_
  refine AW.sC (Tt ∧ Tt) [.box 1] [0, 2] [0, 1] ⟨tr, tr⟩ ?_
  refine AW.seq ?_
  obtain ⟨v1, e2, h⟩ := bind_some h
  refine AW.tC (Tt ∧ ((((Eqc (sl 1 (csI .u8) a0.code)) ∧ (eI a0.at_) ∧ (Eqc (.int .u64 a0.seed)) ∧ Tt) ∧ (eI (24 : Int)) ∧ Tt) ∧ MutOK Try.prog 33 [(.box 3 (fun j => [true, false, false].getD j true) (fun j => (cs_l00Src a0).getD j .nilptr) (fun j => [.nilptr, (.int .i64 v1.2.1), (.int .u64 v1.2.2)].getD j .nilptr)), .one (.ro (.int .i64 (24 : Int)))] [.one (.int .i64 v1.1)]) ∧ Tt ∧ Tt) [.no, .callM [(.box 3 (fun j => [true, false, false].getD j true) (fun j => (cs_l00Src a0).getD j .nilptr) (fun j => [.nilptr, (.int .i64 v1.2.1), (.int .u64 v1.2.2)].getD j .nilptr)), .one (.ro (.int .i64 (24 : Int)))] [.one (.int .i64 v1.1)] [[.view]] none] [0, 2, 3] [0, 1] ⟨tr, ⟨⟨⟨rfl, rfl, rfl, tr⟩, rfl, tr⟩, ok_spec_l00Src_pick K a0 (24 : Int) v1 e2⟩, tr, tr⟩ ?_
  refine AW.seq ?_
  refine AW.sA ⟨[(0, (vp 0 0)), (2, (vp 1 0)), (3, (vI v1.1)), (8, (vB (decide (v1.1 < (8 : Int)))))], [(0, (.box [(.fx 0 0 (sl 1 (csI .u8) a0.code)), (cI v1.2.1), (.c (.int .u64 v1.2.2))])), (1, (.box [(cF (default : F32)), (cF (default : F32)), (cF (default : F32)), (cF (default : F32))]))]⟩ (T2 Tt) [] [0, 2, 3, 8] [0, 1] ⟨tr, tr, tr⟩ ?_
  rcases ite2_cases h with ⟨b3, h⟩ | ⟨b3, h⟩
  · refine AW.cond_t rfl b3 ?_
    refine AW.sC (Tt ∧ Tt) [] [0, 2, 3, 4] [0, 1] ⟨tr, tr⟩ ?_
    refine AW.seq ?_
    refine AW.sA ⟨[(0, (vp 0 0)), (2, (vp 1 0)), (3, (vI v1.1)), (4, (vc (.flt .f32 (Fl.mk (k := .f32) 1065353216 (by decide)).bits))), (10, (vB (decide (v1.1 ≥ (4 : Int)))))], [(0, (.box [(.fx 0 0 (sl 1 (csI .u8) a0.code)), (cI v1.2.1), (.c (.int .u64 v1.2.2))])), (1, (.box [(cF (default : F32)), (cF (default : F32)), (cF (default : F32)), (cF (default : F32))]))]⟩ (T2 Tt) [] [0, 2, 3, 4, 10] [0, 1] ⟨tr, tr, tr⟩ ?_
    rcases ite2_cases h with ⟨b4, h⟩ | ⟨b4, h⟩
    · refine AW.cond_t rfl b4 ?_
      refine AW.tC (Tt ∧ Tt) [] [0, 2, 3, 4] [0, 1] ⟨tr, tr⟩ ?_
      refine AW.seq ?_
      refine AW.seq ?_
      obtain ⟨c5, h⟩ := chk_some h
      refine AW.tA ⟨[(0, (vp 0 0)), (2, (vp 1 0)), (4, (vc (.flt .f32 (Fl.mk (k := .f32) 3212836864 (by decide)).bits))), (12, (vI (v1.1.tmod (4 : Int))))], [(0, (.box [(.fx 0 0 (sl 1 (csI .u8) a0.code)), (cI v1.2.1), (.c (.int .u64 v1.2.2))])), (1, (.box [(cF (default : F32)), (cF (default : F32)), (cF (default : F32)), (cF (default : F32))]))]⟩ (Tt ∧ ((4 : Int) ≠ 0) ∧ Tt) [] [0, 2, 4, 12] [0, 1] ⟨tr, c5, tr⟩ ?_
      refine AW.block ?_
      refine AW.sA ⟨[(0, (vp 0 0)), (2, (vp 1 0)), (4, (vc (.flt .f32 (Fl.mk (k := .f32) 3212836864 (by decide)).bits))), (12, (vI (v1.1.tmod (4 : Int)))), (13, (vB ((v1.1.tmod (4 : Int)) == (0 : Int))))], [(0, (.box [(.fx 0 0 (sl 1 (csI .u8) a0.code)), (cI v1.2.1), (.c (.int .u64 v1.2.2))])), (1, (.box [(cF (default : F32)), (cF (default : F32)), (cF (default : F32)), (cF (default : F32))]))]⟩ (T2 Tt) [] [0, 2, 4, 12, 13] [0, 1] ⟨tr, tr, tr⟩ ?_
      rcases ite2_cases h with ⟨b6, h⟩ | ⟨b6, h⟩
      · refine AW.cond_t rfl b6 ?_
        refine AW.sA ⟨[(0, (vp 0 0)), (2, (vp 1 0))], [(0, (.box [(.fx 0 0 (sl 1 (csI .u8) a0.code)), (cI v1.2.1), (.c (.int .u64 v1.2.2))])), (1, (.box [(cF (Fl.mk (k := .f32) 3212836864 (by decide))), (cF (default : F32)), (cF (default : F32)), (cF (default : F32))]))]⟩ (Tt ∧ T2 Tt) [] [0, 2] [0, 1] ⟨tr, tr, tr, tr⟩ ?_
        refine AW.ret ?_
        refine blockQ_ret ?_
        refine thenQ_ret ?_
        refine thenQ_ret ?_
        replace h := some_eq h
        subst h
        exact ⟨.inr rfl, retOK_of [(.agg [(cF (Fl.mk (k := .f32) 3212836864 (by decide))), (cF (default : F32)), (cF (default : F32)), (cF (default : F32))])] (by kernel_rfl) ⟨⟨⟨rfl, tr⟩, ⟨rfl, tr⟩, ⟨rfl, tr⟩, ⟨rfl, tr⟩, tr⟩, tr⟩ (of_decide_eq_true (by kernel_rfl)), by kernel_rfl, ⟨⟨rfl, ⟨⟨rfl, rfl⟩, ⟨rfl, rfl⟩, ⟨rfl, rfl⟩, tr⟩⟩, tr⟩⟩
      · refine AW.cond_f rfl b6 ?_
        refine AW.sA ⟨[(0, (vp 0 0)), (2, (vp 1 0)), (4, (vc (.flt .f32 (Fl.mk (k := .f32) 3212836864 (by decide)).bits))), (12, (vI (v1.1.tmod (4 : Int)))), (17, (vB ((v1.1.tmod (4 : Int)) == (1 : Int))))], [(0, (.box [(.fx 0 0 (sl 1 (csI .u8) a0.code)), (cI v1.2.1), (.c (.int .u64 v1.2.2))])), (1, (.box [(cF (default : F32)), (cF (default : F32)), (cF (default : F32)), (cF (default : F32))]))]⟩ (T2 Tt) [] [0, 2, 4, 12, 17] [0, 1] ⟨tr, tr, tr⟩ ?_
        rcases ite2_cases h with ⟨b7, h⟩ | ⟨b7, h⟩
        · refine AW.cond_t rfl b7 ?_
          refine AW.sA ⟨[(0, (vp 0 0)), (2, (vp 1 0))], [(0, (.box [(.fx 0 0 (sl 1 (csI .u8) a0.code)), (cI v1.2.1), (.c (.int .u64 v1.2.2))])), (1, (.box [(cF (default : F32)), (cF (Fl.mk (k := .f32) 3212836864 (by decide))), (cF (default : F32)), (cF (default : F32))]))]⟩ (Tt ∧ T2 Tt) [] [0, 2] [0, 1] ⟨tr, tr, tr, tr⟩ ?_
          refine AW.ret ?_
          refine blockQ_ret ?_
          refine thenQ_ret ?_
          refine thenQ_ret ?_
          replace h := some_eq h
          subst h
          exact ⟨.inr rfl, retOK_of [(.agg [(cF (default : F32)), (cF (Fl.mk (k := .f32) 3212836864 (by decide))), (cF (default : F32)), (cF (default : F32))])] (by kernel_rfl) ⟨⟨⟨rfl, tr⟩, ⟨rfl, tr⟩, ⟨rfl, tr⟩, ⟨rfl, tr⟩, tr⟩, tr⟩ (of_decide_eq_true (by kernel_rfl)), by kernel_rfl, ⟨⟨rfl, ⟨⟨rfl, rfl⟩, ⟨rfl, rfl⟩, ⟨rfl, rfl⟩, tr⟩⟩, tr⟩⟩
        · refine AW.cond_f rfl b7 ?_
          refine AW.sA ⟨[(0, (vp 0 0)), (2, (vp 1 0)), (4, (vc (.flt .f32 (Fl.mk (k := .f32) 3212836864 (by decide)).bits))), (21, (vB ((v1.1.tmod (4 : Int)) == (2 : Int))))], [(0, (.box [(.fx 0 0 (sl 1 (csI .u8) a0.code)), (cI v1.2.1), (.c (.int .u64 v1.2.2))])), (1, (.box [(cF (default : F32)), (cF (default : F32)), (cF (default : F32)), (cF (default : F32))]))]⟩ (T2 Tt) [] [0, 2, 4, 21] [0, 1] ⟨tr, tr, tr⟩ ?_
          rcases ite2_cases h with ⟨b8, h⟩ | ⟨b8, h⟩
          · refine AW.cond_t rfl b8 ?_
            refine AW.sA ⟨[(0, (vp 0 0)), (2, (vp 1 0))], [(0, (.box [(.fx 0 0 (sl 1 (csI .u8) a0.code)), (cI v1.2.1), (.c (.int .u64 v1.2.2))])), (1, (.box [(cF (default : F32)), (cF (default : F32)), (cF (Fl.mk (k := .f32) 3212836864 (by decide))), (cF (default : F32))]))]⟩ (Tt ∧ T2 Tt) [] [0, 2] [0, 1] ⟨tr, tr, tr, tr⟩ ?_
            refine AW.ret ?_
            refine blockQ_ret ?_
            refine thenQ_ret ?_
            refine thenQ_ret ?_
            replace h := some_eq h
            subst h
            exact ⟨.inr rfl, retOK_of [(.agg [(cF (default : F32)), (cF (default : F32)), (cF (Fl.mk (k := .f32) 3212836864 (by decide))), (cF (default : F32))])] (by kernel_rfl) ⟨⟨⟨rfl, tr⟩, ⟨rfl, tr⟩, ⟨rfl, tr⟩, ⟨rfl, tr⟩, tr⟩, tr⟩ (of_decide_eq_true (by kernel_rfl)), by kernel_rfl, ⟨⟨rfl, ⟨⟨rfl, rfl⟩, ⟨rfl, rfl⟩, ⟨rfl, rfl⟩, tr⟩⟩, tr⟩⟩
          · refine AW.cond_f rfl b8 ?_
            refine AW.skip ?_
            refine blockQ_normal ?_
            refine thenQ_normal ?_
            refine AW.sA ⟨[(0, (vp 0 0)), (2, (vp 1 0))], [(0, (.box [(.fx 0 0 (sl 1 (csI .u8) a0.code)), (cI v1.2.1), (.c (.int .u64 v1.2.2))])), (1, (.box [(cF (default : F32)), (cF (default : F32)), (cF (default : F32)), (cF (Fl.mk (k := .f32) 3212836864 (by decide)))]))]⟩ (Tt ∧ T2 Tt) [] [0, 2] [0, 1] ⟨tr, tr, tr, tr⟩ ?_
            refine AW.ret ?_
            refine thenQ_ret ?_
            replace h := some_eq h
            subst h
            exact ⟨.inr rfl, retOK_of [(.agg [(cF (default : F32)), (cF (default : F32)), (cF (default : F32)), (cF (Fl.mk (k := .f32) 3212836864 (by decide)))])] (by kernel_rfl) ⟨⟨⟨rfl, tr⟩, ⟨rfl, tr⟩, ⟨rfl, tr⟩, ⟨rfl, tr⟩, tr⟩, tr⟩ (of_decide_eq_true (by kernel_rfl)), by kernel_rfl, ⟨⟨rfl, ⟨⟨rfl, rfl⟩, ⟨rfl, rfl⟩, ⟨rfl, rfl⟩, tr⟩⟩, tr⟩⟩
    · refine AW.cond_f rfl b4 ?_
      refine AW.skip ?_
      refine thenQ_normal ?_
      refine AW.seq ?_
      refine AW.seq ?_
      obtain ⟨c9, h⟩ := chk_some h
      refine AW.tA ⟨[(0, (vp 0 0)), (2, (vp 1 0)), (4, (vc (.flt .f32 (Fl.mk (k := .f32) 1065353216 (by decide)).bits))), (12, (vI (v1.1.tmod (4 : Int))))], [(0, (.box [(.fx 0 0 (sl 1 (csI .u8) a0.code)), (cI v1.2.1), (.c (.int .u64 v1.2.2))])), (1, (.box [(cF (default : F32)), (cF (default : F32)), (cF (default : F32)), (cF (default : F32))]))]⟩ (Tt ∧ ((4 : Int) ≠ 0) ∧ Tt) [] [0, 2, 4, 12] [0, 1] ⟨tr, c9, tr⟩ ?_
      refine AW.block ?_
      refine AW.sA ⟨[(0, (vp 0 0)), (2, (vp 1 0)), (4, (vc (.flt .f32 (Fl.mk (k := .f32) 1065353216 (by decide)).bits))), (12, (vI (v1.1.tmod (4 : Int)))), (13, (vB ((v1.1.tmod (4 : Int)) == (0 : Int))))], [(0, (.box [(.fx 0 0 (sl 1 (csI .u8) a0.code)), (cI v1.2.1), (.c (.int .u64 v1.2.2))])), (1, (.box [(cF (default : F32)), (cF (default : F32)), (cF (default : F32)), (cF (default : F32))]))]⟩ (T2 Tt) [] [0, 2, 4, 12, 13] [0, 1] ⟨tr, tr, tr⟩ ?_
      rcases ite2_cases h with ⟨b10, h⟩ | ⟨b10, h⟩
      · refine AW.cond_t rfl b10 ?_
        refine AW.sA ⟨[(0, (vp 0 0)), (2, (vp 1 0))], [(0, (.box [(.fx 0 0 (sl 1 (csI .u8) a0.code)), (cI v1.2.1), (.c (.int .u64 v1.2.2))])), (1, (.box [(cF (Fl.mk (k := .f32) 1065353216 (by decide))), (cF (default : F32)), (cF (default : F32)), (cF (default : F32))]))]⟩ (Tt ∧ T2 Tt) [] [0, 2] [0, 1] ⟨tr, tr, tr, tr⟩ ?_
        refine AW.ret ?_
        refine blockQ_ret ?_
        refine thenQ_ret ?_
        refine thenQ_ret ?_
        replace h := some_eq h
        subst h
        exact ⟨.inr rfl, retOK_of [(.agg [(cF (Fl.mk (k := .f32) 1065353216 (by decide))), (cF (default : F32)), (cF (default : F32)), (cF (default : F32))])] (by kernel_rfl) ⟨⟨⟨rfl, tr⟩, ⟨rfl, tr⟩, ⟨rfl, tr⟩, ⟨rfl, tr⟩, tr⟩, tr⟩ (of_decide_eq_true (by kernel_rfl)), by kernel_rfl, ⟨⟨rfl, ⟨⟨rfl, rfl⟩, ⟨rfl, rfl⟩, ⟨rfl, rfl⟩, tr⟩⟩, tr⟩⟩
      · refine AW.cond_f rfl b10 ?_
        refine AW.sA ⟨[(0, (vp 0 0)), (2, (vp 1 0)), (4, (vc (.flt .f32 (Fl.mk (k := .f32) 1065353216 (by decide)).bits))), (12, (vI (v1.1.tmod (4 : Int)))), (17, (vB ((v1.1.tmod (4 : Int)) == (1 : Int))))], [(0, (.box [(.fx 0 0 (sl 1 (csI .u8) a0.code)), (cI v1.2.1), (.c (.int .u64 v1.2.2))])), (1, (.box [(cF (default : F32)), (cF (default : F32)), (cF (default : F32)), (cF (default : F32))]))]⟩ (T2 Tt) [] [0, 2, 4, 12, 17] [0, 1] ⟨tr, tr, tr⟩ ?_
        rcases ite2_cases h with ⟨b11, h⟩ | ⟨b11, h⟩
        · refine AW.cond_t rfl b11 ?_
          refine AW.sA ⟨[(0, (vp 0 0)), (2, (vp 1 0))], [(0, (.box [(.fx 0 0 (sl 1 (csI .u8) a0.code)), (cI v1.2.1), (.c (.int .u64 v1.2.2))])), (1, (.box [(cF (default : F32)), (cF (Fl.mk (k := .f32) 1065353216 (by decide))), (cF (default : F32)), (cF (default : F32))]))]⟩ (Tt ∧ T2 Tt) [] [0, 2] [0, 1] ⟨tr, tr, tr, tr⟩ ?_
          refine AW.ret ?_
          refine blockQ_ret ?_
          refine thenQ_ret ?_
          refine thenQ_ret ?_
          replace h := some_eq h
          subst h
          exact ⟨.inr rfl, retOK_of [(.agg [(cF (default : F32)), (cF (Fl.mk (k := .f32) 1065353216 (by decide))), (cF (default : F32)), (cF (default : F32))])] (by kernel_rfl) ⟨⟨⟨rfl, tr⟩, ⟨rfl, tr⟩, ⟨rfl, tr⟩, ⟨rfl, tr⟩, tr⟩, tr⟩ (of_decide_eq_true (by kernel_rfl)), by kernel_rfl, ⟨⟨rfl, ⟨⟨rfl, rfl⟩, ⟨rfl, rfl⟩, ⟨rfl, rfl⟩, tr⟩⟩, tr⟩⟩
        · refine AW.cond_f rfl b11 ?_
          refine AW.sA ⟨[(0, (vp 0 0)), (2, (vp 1 0)), (4, (vc (.flt .f32 (Fl.mk (k := .f32) 1065353216 (by decide)).bits))), (21, (vB ((v1.1.tmod (4 : Int)) == (2 : Int))))], [(0, (.box [(.fx 0 0 (sl 1 (csI .u8) a0.code)), (cI v1.2.1), (.c (.int .u64 v1.2.2))])), (1, (.box [(cF (default : F32)), (cF (default : F32)), (cF (default : F32)), (cF (default : F32))]))]⟩ (T2 Tt) [] [0, 2, 4, 21] [0, 1] ⟨tr, tr, tr⟩ ?_
          rcases ite2_cases h with ⟨b12, h⟩ | ⟨b12, h⟩
          · refine AW.cond_t rfl b12 ?_
            refine AW.sA ⟨[(0, (vp 0 0)), (2, (vp 1 0))], [(0, (.box [(.fx 0 0 (sl 1 (csI .u8) a0.code)), (cI v1.2.1), (.c (.int .u64 v1.2.2))])), (1, (.box [(cF (default : F32)), (cF (default : F32)), (cF (Fl.mk (k := .f32) 1065353216 (by decide))), (cF (default : F32))]))]⟩ (Tt ∧ T2 Tt) [] [0, 2] [0, 1] ⟨tr, tr, tr, tr⟩ ?_
            refine AW.ret ?_
            refine blockQ_ret ?_
            refine thenQ_ret ?_
            refine thenQ_ret ?_
            replace h := some_eq h
            subst h
            exact ⟨.inr rfl, retOK_of [(.agg [(cF (default : F32)), (cF (default : F32)), (cF (Fl.mk (k := .f32) 1065353216 (by decide))), (cF (default : F32))])] (by kernel_rfl) ⟨⟨⟨rfl, tr⟩, ⟨rfl, tr⟩, ⟨rfl, tr⟩, ⟨rfl, tr⟩, tr⟩, tr⟩ (of_decide_eq_true (by kernel_rfl)), by kernel_rfl, ⟨⟨rfl, ⟨⟨rfl, rfl⟩, ⟨rfl, rfl⟩, ⟨rfl, rfl⟩, tr⟩⟩, tr⟩⟩
          · refine AW.cond_f rfl b12 ?_
            refine AW.skip ?_
            refine blockQ_normal ?_
            refine thenQ_normal ?_
            refine AW.sA ⟨[(0, (vp 0 0)), (2, (vp 1 0))], [(0, (.box [(.fx 0 0 (sl 1 (csI .u8) a0.code)), (cI v1.2.1), (.c (.int .u64 v1.2.2))])), (1, (.box [(cF (default : F32)), (cF (default : F32)), (cF (default : F32)), (cF (Fl.mk (k := .f32) 1065353216 (by decide)))]))]⟩ (Tt ∧ T2 Tt) [] [0, 2] [0, 1] ⟨tr, tr, tr, tr⟩ ?_
            refine AW.ret ?_
            refine thenQ_ret ?_
            replace h := some_eq h
            subst h
            exact ⟨.inr rfl, retOK_of [(.agg [(cF (default : F32)), (cF (default : F32)), (cF (default : F32)), (cF (Fl.mk (k := .f32) 1065353216 (by decide)))])] (by kernel_rfl) ⟨⟨⟨rfl, tr⟩, ⟨rfl, tr⟩, ⟨rfl, tr⟩, ⟨rfl, tr⟩, tr⟩, tr⟩ (of_decide_eq_true (by kernel_rfl)), by kernel_rfl, ⟨⟨rfl, ⟨⟨rfl, rfl⟩, ⟨rfl, rfl⟩, ⟨rfl, rfl⟩, tr⟩⟩, tr⟩⟩
  · refine AW.cond_f rfl b3 ?_
    refine AW.skip ?_
    refine thenQ_normal ?_
    refine AW.sC (Tt ∧ T2 Tt) [] [0, 2, 3] [0, 1] ⟨tr, tr, tr, tr⟩ ?_
    refine AW.seq ?_
    obtain ⟨c13, h⟩ := chk_some h
    obtain ⟨c14, h⟩ := chk_some h
    obtain ⟨c15, h⟩ := chk_some h
    refine AW.tA ⟨[(0, (vp 0 0)), (2, (vp 1 0))], [(0, (.box [(.fx 0 0 (sl 1 (csI .u8) a0.code)), (cI v1.2.1), (.c (.int .u64 v1.2.2))])), (1, (.box [(cF ((Fl.ofInt .f32 (bits .and .i64 (IntKind.i64.wrap (v1.1 - (8 : Int))) (1 : Int))).sub (Fl.mk (k := .f32) 1056964608 (by decide)))), (cF ((Fl.ofInt .f32 (bits .and .i64 ((IntKind.i64.wrap (v1.1 - (8 : Int))).fdiv (2 ^ (min (1 : Int).toNat (IntKind.bits .i64)))) (1 : Int))).sub (Fl.mk (k := .f32) 1056964608 (by decide)))), (cF ((Fl.ofInt .f32 (bits .and .i64 ((IntKind.i64.wrap (v1.1 - (8 : Int))).fdiv (2 ^ (min (2 : Int).toNat (IntKind.bits .i64)))) (1 : Int))).sub (Fl.mk (k := .f32) 1056964608 (by decide)))), (cF ((Fl.ofInt .f32 (bits .and .i64 ((IntKind.i64.wrap (v1.1 - (8 : Int))).fdiv (2 ^ (min (3 : Int).toNat (IntKind.bits .i64)))) (1 : Int))).sub (Fl.mk (k := .f32) 1056964608 (by decide))))]))]⟩ (Tt ∧ T4 ((0 ≤ (1 : Int)) ∧ T4 ((0 ≤ (2 : Int)) ∧ T4 ((0 ≤ (3 : Int)) ∧ Tt ∧ T4 Tt)))) [] [0, 2] [0, 1] ⟨tr, tr, tr, tr, tr, c13, tr, tr, tr, tr, c14, tr, tr, tr, tr, c15, tr, tr, tr, tr, tr, tr⟩ ?_
    refine AW.ret ?_
    replace h := some_eq h
    subst h
    exact ⟨.inr rfl, retOK_of [(.agg [(cF ((Fl.ofInt .f32 (bits .and .i64 (IntKind.i64.wrap (v1.1 - (8 : Int))) (1 : Int))).sub (Fl.mk (k := .f32) 1056964608 (by decide)))), (cF ((Fl.ofInt .f32 (bits .and .i64 ((IntKind.i64.wrap (v1.1 - (8 : Int))).fdiv (2 ^ (min (1 : Int).toNat (IntKind.bits .i64)))) (1 : Int))).sub (Fl.mk (k := .f32) 1056964608 (by decide)))), (cF ((Fl.ofInt .f32 (bits .and .i64 ((IntKind.i64.wrap (v1.1 - (8 : Int))).fdiv (2 ^ (min (2 : Int).toNat (IntKind.bits .i64)))) (1 : Int))).sub (Fl.mk (k := .f32) 1056964608 (by decide)))), (cF ((Fl.ofInt .f32 (bits .and .i64 ((IntKind.i64.wrap (v1.1 - (8 : Int))).fdiv (2 ^ (min (3 : Int).toNat (IntKind.bits .i64)))) (1 : Int))).sub (Fl.mk (k := .f32) 1056964608 (by decide))))])] (by kernel_rfl) ⟨⟨⟨rfl, tr⟩, ⟨rfl, tr⟩, ⟨rfl, tr⟩, ⟨rfl, tr⟩, tr⟩, tr⟩ (of_decide_eq_true (by kernel_rfl)), by kernel_rfl, ⟨⟨rfl, ⟨⟨rfl, rfl⟩, ⟨rfl, rfl⟩, ⟨rfl, rfl⟩, tr⟩⟩, tr⟩⟩

/-! spec.l01DrawSmall -/
def spec_l01DrawSmall (K : Nat) (a0 : l00Src) : Option (F32 × Int × Int) :=
  (spec_l00Src_pick K a0 (33 : Int)).bind fun v1 => some (((Fl.ofInt .f32 (IntKind.i64.wrap (v1.1 - (16 : Int)))).div (Fl.mk (k := .f32) 1082130432 (by decide))), v1.2.1, v1.2.2)

theorem ok_spec_l01DrawSmall (K : Nat) (a0 : l00Src) (o : (F32 × Int × Int)) (h : spec_l01DrawSmall K a0 = some o) : MutOK Try.prog 24 [(.box 3 (fun j => [true, false, false].getD j true) (fun j => (cs_l00Src a0).getD j .nilptr) (fun j => [.nilptr, (.int .i64 o.2.1), (.int .u64 o.2.2)].getD j .nilptr))] [.one (.flt .f32 o.1.bits)] := by
  refine mutOK_of_AW 1 Try.func24 rfl (by kernel_rfl) (Nat.le_of_ble_eq_true (by kernel_rfl)) (by kernel_rfl) (by kernel_rfl) ?_
  intro w0 K0 v0 s0
  unfold spec_l01DrawSmall at h
  refine AW.weak (s' := ⟨[(0, (vp 0 0))], [(0, (.box [(.fx 0 0 (sl 1 (csI .u8) a0.code)), (cI a0.at_), (.c (.int .u64 a0.seed))]))]⟩) (subUnfx 0 [1, 2] (by kernel_rfl)) ?_
  refine AW.sC (Tt ∧ Tt) [] [0] [0] ⟨tr, tr⟩ ?_
  refine AW.seq ?_
  obtain ⟨v1, e2, h⟩ := bind_some h
  refine AW.tA ⟨[(0, (vp 0 0)), (2, (vc (.flt .f32 ((Fl.ofInt .f32 (IntKind.i64.wrap (v1.1 - (16 : Int)))).div (Fl.mk (k := .f32) 1082130432 (by decide))).bits)))], [(0, (.box [(.fx 0 0 (sl 1 (csI .u8) a0.code)), (cI v1.2.1), (.c (.int .u64 v1.2.2))]))]⟩ (Tt ∧ ((((Eqc (sl 1 (csI .u8) a0.code)) ∧ (eI a0.at_) ∧ (Eqc (.int .u64 a0.seed)) ∧ Tt) ∧ (eI (33 : Int)) ∧ Tt) ∧ MutOK Try.prog 33 [(.box 3 (fun j => [true, false, false].getD j true) (fun j => (cs_l00Src a0).getD j .nilptr) (fun j => [.nilptr, (.int .i64 v1.2.1), (.int .u64 v1.2.2)].getD j .nilptr)), .one (.ro (.int .i64 (33 : Int)))] [.one (.int .i64 v1.1)]) ∧ T4 Tt) [.no, .callM [(.box 3 (fun j => [true, false, false].getD j true) (fun j => (cs_l00Src a0).getD j .nilptr) (fun j => [.nilptr, (.int .i64 v1.2.1), (.int .u64 v1.2.2)].getD j .nilptr)), .one (.ro (.int .i64 (33 : Int)))] [.one (.int .i64 v1.1)] [[.view]] none] [0, 2] [0] ⟨tr, ⟨⟨⟨rfl, rfl, rfl, tr⟩, rfl, tr⟩, ok_spec_l00Src_pick K a0 (33 : Int) v1 e2⟩, tr, tr, tr, tr, tr⟩ ?_
  refine AW.ret ?_
  replace h := some_eq h
  subst h
  exact ⟨.inr rfl, retOK_of [(.one (cF ((Fl.ofInt .f32 (IntKind.i64.wrap (v1.1 - (16 : Int)))).div (Fl.mk (k := .f32) 1082130432 (by decide)))))] (by kernel_rfl) ⟨⟨rfl, tr⟩, tr⟩ (of_decide_eq_true (by kernel_rfl)), by kernel_rfl, ⟨⟨rfl, ⟨⟨rfl, rfl⟩, ⟨rfl, rfl⟩, ⟨rfl, rfl⟩, tr⟩⟩, tr⟩⟩

/-! spec.l02Inner -/
def spec_l02Inner (_K : Nat) (a0 : Turn) (a1 : Turn) : Option (F32) :=
  some ((((a0.W.mul a1.W).add (a0.X.mul a1.X)).add (a0.Y.mul a1.Y)).add (a0.Z.mul a1.Z))

theorem ok_spec_l02Inner (K : Nat) (a0 : Turn) (a1 : Turn) (o : (F32)) (h : spec_l02Inner K a0 a1 = some o) : CallOK Try.prog 35 [.agg (cs_Turn a0), .agg (cs_Turn a1)] [.one (.flt .f32 o.bits)] := by
  refine callOK_of_AW Try.func35 rfl (by kernel_rfl) (Nat.le_of_ble_eq_true (by kernel_rfl)) ?_
  intro w0
  unfold spec_l02Inner at h
  refine AW.sC (Tt ∧ T2 Tt) [.box 1, .box 2] [2, 3] [1, 2] ⟨tr, tr, tr, tr⟩ ?_
  refine AW.sC (T4 (T4 (T4 Tt))) [] [2, 3, 5] [1, 2] ⟨tr, tr, tr, tr, tr, tr, tr, tr, tr, tr, tr, tr, tr⟩ ?_
  refine AW.sC (T4 (T4 Tt)) [] [2, 3, 5] [1, 2] ⟨tr, tr, tr, tr, tr, tr, tr, tr, tr⟩ ?_
  refine AW.sA ⟨[(4, (vc (.flt .f32 ((((a0.W.mul a1.W).add (a0.X.mul a1.X)).add (a0.Y.mul a1.Y)).add (a0.Z.mul a1.Z)).bits)))], []⟩ (T4 (T4 Tt)) [] [4] [] ⟨tr, tr, tr, tr, tr, tr, tr, tr, tr⟩ ?_
  refine AW.ret ?_
  replace h := some_eq h
  subst h
  exact ⟨.inr rfl, retOK_of [(.one (cF ((((a0.W.mul a1.W).add (a0.X.mul a1.X)).add (a0.Y.mul a1.Y)).add (a0.Z.mul a1.Z))))] (by kernel_rfl) ⟨⟨rfl, tr⟩, tr⟩ (of_decide_eq_true (by kernel_rfl))⟩

/-! math.sqrt -/
def math_sqrt (_K : Nat) (a0 : F64) : Option (F64) :=
  some a0.sqrt

theorem ok_math_sqrt (K : Nat) (a0 : F64) (o : F64) (h : math_sqrt K a0 = some o) : CallOK Try.prog 50 [.one (.flt .f64 a0.bits)] [.one (.flt .f64 o.bits)] :=
  hand_sqrt (e := Extern.MathSqrt.sqrt) Try.func50 (by kernel_rfl) (by kernel_rfl) (by kernel_rfl) (by kernel_rfl) (fun _ => rfl) a0 o h

/-! math.Sqrt -/
def math_Sqrt (K : Nat) (a0 : F64) : Option (F64) :=
  (math_sqrt K a0).bind fun v1 => some v1

theorem ok_math_Sqrt (K : Nat) (a0 : F64) (o : (F64)) (h : math_Sqrt K a0 = some o) : CallOK Try.prog 46 [.one (.flt .f64 a0.bits)] [.one (.flt .f64 o.bits)] := by
  refine callOK_of_AW Try.func46 rfl (by kernel_rfl) (Nat.le_of_ble_eq_true (by kernel_rfl)) ?_
  intro w0
  unfold math_Sqrt at h
  refine AW.sC (Tt ∧ Tt) [] [0] [] ⟨tr, tr⟩ ?_
  refine AW.seq ?_
  obtain ⟨v1, e2, h⟩ := bind_some h
  refine AW.tA ⟨[(2, (vc (.flt .f64 v1.bits)))], []⟩ (Tt ∧ (((Eqc (.flt .f64 a0.bits)) ∧ Tt) ∧ CallOK Try.prog 50 [.one (.flt .f64 a0.bits)] [.one (.flt .f64 v1.bits)]) ∧ Tt ∧ Tt) [.no, .call [.one (.flt .f64 a0.bits)] [.one (.flt .f64 v1.bits)] [[.view]]] [2] [] ⟨tr, ⟨⟨rfl, tr⟩, ok_math_sqrt K a0 v1 e2⟩, tr, tr⟩ ?_
  refine AW.ret ?_
  replace h := some_eq h
  subst h
  exact ⟨.inr rfl, retOK_of [(.one (.c (.flt .f64 v1.bits)))] (by kernel_rfl) ⟨⟨rfl, tr⟩, tr⟩ (of_decide_eq_true (by kernel_rfl))⟩

/-! spec.l01Narrow -/
def spec_l01Narrow (_K : Nat) (a0 : F64) : Option (F32) :=
  chk ((convBits .f64 a0.bits .f32).isSome = true) (some (Fl.cv .f64 .f32 a0))

theorem ok_spec_l01Narrow (K : Nat) (a0 : F64) (o : (F32)) (h : spec_l01Narrow K a0 = some o) : CallOK Try.prog 45 [.one (.flt .f64 a0.bits)] [.one (.flt .f32 o.bits)] := by
  refine callOK_of_AW Try.func45 rfl (by kernel_rfl) (Nat.le_of_ble_eq_true (by kernel_rfl)) ?_
  intro w0
  unfold spec_l01Narrow at h
  refine AW.sC (Tt ∧ Tt) [] [0] [] ⟨tr, tr⟩ ?_
  refine AW.seq ?_
  obtain ⟨c1, h⟩ := chk_some h
  refine AW.tA ⟨[(2, (vc (.flt .f32 (Fl.cv .f64 .f32 a0).bits)))], []⟩ (Tt ∧ ((convBits .f64 a0.bits .f32).isSome = true) ∧ Tt ∧ Tt) [] [2] [] ⟨tr, c1, tr, tr⟩ ?_
  refine AW.ret ?_
  replace h := some_eq h
  subst h
  exact ⟨.inr rfl, retOK_of [(.one (cF (Fl.cv .f64 .f32 a0)))] (by kernel_rfl) ⟨⟨rfl, tr⟩, tr⟩ (of_decide_eq_true (by kernel_rfl))⟩

/-! spec.l01Sqrt -/
def spec_l01Sqrt (K : Nat) (a0 : F32) : Option (F32) :=
  (math_Sqrt K (Fl.cv .f32 .f64 a0)).bind fun v1 => (spec_l01Narrow K v1).bind fun v3 => some v3

theorem ok_spec_l01Sqrt (K : Nat) (a0 : F32) (o : (F32)) (h : spec_l01Sqrt K a0 = some o) : CallOK Try.prog 34 [.one (.flt .f32 a0.bits)] [.one (.flt .f32 o.bits)] := by
  refine callOK_of_AW Try.func34 rfl (by kernel_rfl) (Nat.le_of_ble_eq_true (by kernel_rfl)) ?_
  intro w0
  unfold spec_l01Sqrt at h
  refine AW.sC (Tt ∧ Tt) [] [0] [] ⟨tr, tr⟩ ?_
  refine AW.seq ?_
  obtain ⟨v1, e2, h⟩ := bind_some h
  obtain ⟨v3, e4, h⟩ := bind_some h
  refine AW.tA ⟨[(2, (vc (.flt .f32 v3.bits)))], []⟩ (Tt ∧ ((convBits .f32 a0.bits .f64).isSome = true) ∧ (((Eqc (.flt .f64 (Fl.cv .f32 .f64 a0).bits)) ∧ Tt) ∧ CallOK Try.prog 46 [.one (.flt .f64 (Fl.cv .f32 .f64 a0).bits)] [.one (.flt .f64 v1.bits)]) ∧ (((Eqc (.flt .f64 v1.bits)) ∧ Tt) ∧ CallOK Try.prog 45 [.one (.flt .f64 v1.bits)] [.one (.flt .f32 v3.bits)]) ∧ Tt ∧ Tt) [.no, .no, .call [.one (.flt .f64 (Fl.cv .f32 .f64 a0).bits)] [.one (.flt .f64 v1.bits)] [[.view]], .call [.one (.flt .f64 v1.bits)] [.one (.flt .f32 v3.bits)] [[.view]]] [2] [] ⟨tr, cv_wide a0, ⟨⟨rfl, tr⟩, ok_math_Sqrt K (Fl.cv .f32 .f64 a0) v1 e2⟩, ⟨⟨rfl, tr⟩, ok_spec_l01Narrow K v1 v3 e4⟩, tr, tr⟩ ?_
  refine AW.ret ?_
  replace h := some_eq h
  subst h
  exact ⟨.inr rfl, retOK_of [(.one (cF v3))] (by kernel_rfl) ⟨⟨rfl, tr⟩, tr⟩ (of_decide_eq_true (by kernel_rfl))⟩

/-! spec.l01Finite -/
def spec_l01Finite (_K : Nat) (a0 : F32) : Option (Bool) :=
  some ((a0.sub a0).eq (Fl.mk (k := .f32) 0 (by decide)))

theorem ok_spec_l01Finite (K : Nat) (a0 : F32) (o : (Bool)) (h : spec_l01Finite K a0 = some o) : CallOK Try.prog 36 [.one (.flt .f32 a0.bits)] [.one (.bool o)] := by
  refine callOK_of_AW Try.func36 rfl (by kernel_rfl) (Nat.le_of_ble_eq_true (by kernel_rfl)) ?_
  intro w0
  unfold spec_l01Finite at h
  refine AW.sC (Tt ∧ Tt) [] [0] [] ⟨tr, tr⟩ ?_
  refine AW.sA ⟨[(2, (vB ((a0.sub a0).eq (Fl.mk (k := .f32) 0 (by decide)))))], []⟩ (Tt ∧ T4 Tt) [] [2] [] ⟨tr, tr, tr, tr, tr, tr⟩ ?_
  refine AW.ret ?_
  replace h := some_eq h
  subst h
  exact ⟨.inr rfl, retOK_of [(.one (.c (.bool ((a0.sub a0).eq (Fl.mk (k := .f32) 0 (by decide))))))] (by kernel_rfl) ⟨⟨rfl, tr⟩, tr⟩ (of_decide_eq_true (by kernel_rfl))⟩

/-! spec.l02No -/
def spec_l02No (_K : Nat) : Option (Turn) :=
  some (Turn.mk (Fl.mk (k := .f32) 1065353216 (by decide)) (default : F32) (default : F32) (default : F32))

theorem ok_spec_l02No (K : Nat) (o : (Turn)) (h : spec_l02No K  = some o) : CallOK Try.prog 37 [] [.agg (cs_Turn o)] := by
  refine callOK_of_AW Try.func37 rfl (by kernel_rfl) (Nat.le_of_ble_eq_true (by kernel_rfl)) ?_
  intro w0
  unfold spec_l02No at h
  refine AW.sC (Tt ∧ Tt) [.box 1] [0] [1] ⟨tr, tr⟩ ?_
  refine AW.sA ⟨[(0, (vp 1 0))], [(1, (.box [(cF (Fl.mk (k := .f32) 1065353216 (by decide))), (cF (default : F32)), (cF (default : F32)), (cF (default : F32))]))]⟩ (T2 Tt) [] [0] [1] ⟨tr, tr, tr⟩ ?_
  refine AW.ret ?_
  replace h := some_eq h
  subst h
  exact ⟨.inr rfl, retOK_of [(.agg [(cF (Fl.mk (k := .f32) 1065353216 (by decide))), (cF (default : F32)), (cF (default : F32)), (cF (default : F32))])] (by kernel_rfl) ⟨⟨⟨rfl, tr⟩, ⟨rfl, tr⟩, ⟨rfl, tr⟩, ⟨rfl, tr⟩, tr⟩, tr⟩ (of_decide_eq_true (by kernel_rfl))⟩

/-! spec.l02Mend -/
def spec_l02Mend (K : Nat) (a0 : Turn) : Option (Turn) :=
  (spec_l02Inner K a0 a0).bind fun v1 => (spec_l01Sqrt K v1).bind fun v3 => (ite2 ((v3.eq (Fl.mk (k := .f32) 0 (by decide)))) (some true) ((spec_l01Finite K v3).bind fun v6 => some (!v6))).bind fun j8 => ite2 (j8) ((spec_l02No K ).bind fun v11 => some v11) (some (Turn.mk (a0.W.div v3) (a0.X.div v3) (a0.Y.div v3) (a0.Z.div v3)))

theorem ok_spec_l02Mend (K : Nat) (a0 : Turn) (o : (Turn)) (h : spec_l02Mend K a0 = some o) : CallOK Try.prog 25 [.agg (cs_Turn a0)] [.agg (cs_Turn o)] := by
  refine callOK_of_AW Try.func25 rfl (by kernel_rfl) (Nat.le_of_ble_eq_true (by kernel_rfl)) ?_
  intro w0
  unfold spec_l02Mend at h
  refine AW.sC (T2 Tt) [.box 1, .box 2] [1, 2] [1, 2] ⟨tr, tr, tr⟩ ?_
  refine AW.seq ?_
  obtain ⟨v1, e2, h⟩ := bind_some h
  obtain ⟨v3, e4, h⟩ := bind_some h
  refine AW.tA ⟨[(1, (vp 1 0)), (2, (vp 2 0)), (3, (vc (.flt .f32 v3.bits)))], [(1, (.box [(cF a0.W), (cF a0.X), (cF a0.Y), (cF a0.Z)])), (2, (.box [(cF (default : F32)), (cF (default : F32)), (cF (default : F32)), (cF (default : F32))]))]⟩ (T2 (((((eF a0.W) ∧ (eF a0.X) ∧ (eF a0.Y) ∧ (eF a0.Z) ∧ Tt) ∧ ((eF a0.W) ∧ (eF a0.X) ∧ (eF a0.Y) ∧ (eF a0.Z) ∧ Tt) ∧ Tt) ∧ CallOK Try.prog 35 [.agg (cs_Turn a0), .agg (cs_Turn a0)] [.one (.flt .f32 v1.bits)]) ∧ (((eF v1) ∧ Tt) ∧ CallOK Try.prog 34 [.one (.flt .f32 v1.bits)] [.one (.flt .f32 v3.bits)]) ∧ Tt ∧ Tt)) [.no, .no, .call [.agg (cs_Turn a0), .agg (cs_Turn a0)] [.one (.flt .f32 v1.bits)] [[.view]], .call [.one (.flt .f32 v1.bits)] [.one (.flt .f32 v3.bits)] [[.view]]] [1, 2, 3] [1, 2] ⟨tr, tr, ⟨⟨⟨rfl, rfl, rfl, rfl, tr⟩, ⟨rfl, rfl, rfl, rfl, tr⟩, tr⟩, ok_spec_l02Inner K a0 a0 v1 e2⟩, ⟨⟨rfl, tr⟩, ok_spec_l01Sqrt K v1 v3 e4⟩, tr, tr⟩ ?_
  refine AW.seq ?_
  refine AW.seq ?_
  obtain ⟨j8, e9, h⟩ := bind_some h
  refine AW.join1 (s2 := ⟨[(1, (vp 1 0)), (2, (vp 2 0)), (3, (vc (.flt .f32 v3.bits))), (14, (vB j8))], [(1, (.box [(cF a0.W), (cF a0.X), (cF a0.Y), (cF a0.Z)])), (2, (.box [(cF (default : F32)), (cF (default : F32)), (cF (default : F32)), (cF (default : F32))]))]⟩) ?_ ?_
  · rcases ite2_cases e9 with ⟨b5, e9⟩ | ⟨b5, e9⟩
    · replace e9 := some_eq e9
      subst e9
      exact AW.rA ⟨[(1, (vp 1 0)), (2, (vp 2 0)), (3, (vc (.flt .f32 v3.bits))), (14, (vB true))], [(1, (.box [(cF a0.W), (cF a0.X), (cF a0.Y), (cF a0.Z)])), (2, (.box [(cF (default : F32)), (cF (default : F32)), (cF (default : F32)), (cF (default : F32))]))]⟩ (T2 ((Tt ∧ (v3.eq (Fl.mk (k := .f32) 0 (by decide))) = true) ∧ T4 Tt)) [.no, .no, .dec true] [1, 2, 3, 14] [1, 2] ⟨tr, tr, ⟨tr, b5⟩, tr, tr, tr, tr, tr⟩ ⟨rfl, rfl⟩
    · obtain ⟨v6, e7, e9⟩ := bind_some e9
      replace e9 := some_eq e9
      subst e9
      exact AW.rA ⟨[(1, (vp 1 0)), (2, (vp 2 0)), (3, (vc (.flt .f32 v3.bits))), (14, (vB (!v6)))], [(1, (.box [(cF a0.W), (cF a0.X), (cF a0.Y), (cF a0.Z)])), (2, (.box [(cF (default : F32)), (cF (default : F32)), (cF (default : F32)), (cF (default : F32))]))]⟩ (T2 ((Tt ∧ (v3.eq (Fl.mk (k := .f32) 0 (by decide))) = false) ∧ Tt ∧ (((eF v3) ∧ Tt) ∧ CallOK Try.prog 36 [.one (.flt .f32 v3.bits)] [.one (.bool v6)]) ∧ T2 Tt)) [.no, .no, .dec false, .no, .call [.one (.flt .f32 v3.bits)] [.one (.bool v6)] [[.view]]] [1, 2, 3, 14] [1, 2] ⟨tr, tr, ⟨tr, b5⟩, tr, ⟨⟨rfl, tr⟩, ok_spec_l01Finite K v3 v6 e7⟩, tr, tr, tr⟩ ⟨rfl, rfl⟩
  refine thenQ_normal ?_
  rcases ite2_cases h with ⟨b10, h⟩ | ⟨b10, h⟩
  · refine AW.cond_t rfl b10 ?_
    refine AW.seq ?_
    obtain ⟨v11, e12, h⟩ := bind_some h
    refine AW.tA ⟨[(2, (vp 2 0))], [(2, (.box [(cF v11.W), (cF v11.X), (cF v11.Y), (cF v11.Z)]))]⟩ (((Tt) ∧ CallOK Try.prog 37 [] [.agg (cs_Turn v11)]) ∧ Tt ∧ Tt) [.call [] [.agg (cs_Turn v11)] [[.view, .view, .view, .view]]] [2] [2] ⟨⟨tr, ok_spec_l02No K v11 e12⟩, tr, tr⟩ ?_
    refine AW.ret ?_
    refine thenQ_ret ?_
    replace h := some_eq h
    subst h
    exact ⟨.inr rfl, retOK_of [(.agg [(cF v11.W), (cF v11.X), (cF v11.Y), (cF v11.Z)])] (by kernel_rfl) ⟨⟨⟨rfl, tr⟩, ⟨rfl, tr⟩, ⟨rfl, tr⟩, ⟨rfl, tr⟩, tr⟩, tr⟩ (of_decide_eq_true (by kernel_rfl))⟩
  · refine AW.cond_f rfl b10 ?_
    refine AW.skip ?_
    refine thenQ_normal ?_
    refine AW.sA ⟨[(2, (vp 2 0))], [(2, (.box [(cF (a0.W.div v3)), (cF (a0.X.div v3)), (cF (a0.Y.div v3)), (cF (a0.Z.div v3))]))]⟩ (T2 (T4 (T4 (T4 (T4 Tt))))) [] [2] [2] ⟨tr, tr, tr, tr, tr, tr, tr, tr, tr, tr, tr, tr, tr, tr, tr, tr, tr, tr, tr⟩ ?_
    refine AW.ret ?_
    replace h := some_eq h
    subst h
    exact ⟨.inr rfl, retOK_of [(.agg [(cF (a0.W.div v3)), (cF (a0.X.div v3)), (cF (a0.Y.div v3)), (cF (a0.Z.div v3))])] (by kernel_rfl) ⟨⟨⟨rfl, tr⟩, ⟨rfl, tr⟩, ⟨rfl, tr⟩, ⟨rfl, tr⟩, tr⟩, tr⟩ (of_decide_eq_true (by kernel_rfl))⟩

/-! spec.l02DrawTurn -/
def spec_l02DrawTurn (K : Nat) (a0 : l00Src) : Option (Turn × Int × Int) :=
  (spec_l00Src_one K a0 (2 : Int)).bind fun v1 => ite2 (v1.1) ((spec_l02DrawExact K (l00Src.mk a0.code v1.2.1 v1.2.2)).bind fun v4 => some (v4.1, v4.2.1, v4.2.2)) ((spec_l01DrawSmall K (l00Src.mk a0.code v1.2.1 v1.2.2)).bind fun v6 => (spec_l01DrawSmall K (l00Src.mk a0.code v6.2.1 v6.2.2)).bind fun v8 => (spec_l01DrawSmall K (l00Src.mk a0.code v8.2.1 v8.2.2)).bind fun v10 => (spec_l01DrawSmall K (l00Src.mk a0.code v10.2.1 v10.2.2)).bind fun v12 => (spec_l02Mend K (Turn.mk v6.1 v8.1 v10.1 v12.1)).bind fun v14 => some (v14, v12.2.1, v12.2.2))

theorem ok_spec_l02DrawTurn (K : Nat) (a0 : l00Src) (o : (Turn × Int × Int)) (h : spec_l02DrawTurn K a0 = some o) : MutOK Try.prog 13 [(.box 3 (fun j => [true, false, false].getD j true) (fun j => (cs_l00Src a0).getD j .nilptr) (fun j => [.nilptr, (.int .i64 o.2.1), (.int .u64 o.2.2)].getD j .nilptr))] [.agg (cs_Turn o.1)] := by
  refine mutOK_of_AW 1 Try.func13 rfl (by kernel_rfl) (Nat.le_of_ble_eq_true (by kernel_rfl)) (by kernel_rfl) (by kernel_rfl) ?_
  intro w0 K0 v0 s0
  unfold spec_l02DrawTurn at h
  refine AW.weak (s' := ⟨[(0, (vp 0 0))], [(0, (.box [(.fx 0 0 (sl 1 (csI .u8) a0.code)), (cI a0.at_), (.c (.int .u64 a0.seed))]))]⟩) (subUnfx 0 [1, 2] (by kernel_rfl)) ?_
  refine AW.sC (Tt ∧ Tt) [.box 1] [0, 2] [0, 1] ⟨tr, tr⟩ ?_
  refine AW.seq ?_
  refine AW.seq ?_
  obtain ⟨v1, e2, h⟩ := bind_some h
  refine AW.tA ⟨[(0, (vp 0 0)), (2, (vp 1 0)), (5, (vB v1.1))], [(0, (.box [(.fx 0 0 (sl 1 (csI .u8) a0.code)), (cI v1.2.1), (.c (.int .u64 v1.2.2))])), (1, (.box [(cF (default : F32)), (cF (default : F32)), (cF (default : F32)), (cF (default : F32))]))]⟩ (Tt ∧ ((((Eqc (sl 1 (csI .u8) a0.code)) ∧ (eI a0.at_) ∧ (Eqc (.int .u64 a0.seed)) ∧ Tt) ∧ (eI (2 : Int)) ∧ Tt) ∧ MutOK Try.prog 22 [(.box 3 (fun j => [true, false, false].getD j true) (fun j => (cs_l00Src a0).getD j .nilptr) (fun j => [.nilptr, (.int .i64 v1.2.1), (.int .u64 v1.2.2)].getD j .nilptr)), .one (.ro (.int .i64 (2 : Int)))] [.one (.bool v1.1)]) ∧ Tt) [.no, .callM [(.box 3 (fun j => [true, false, false].getD j true) (fun j => (cs_l00Src a0).getD j .nilptr) (fun j => [.nilptr, (.int .i64 v1.2.1), (.int .u64 v1.2.2)].getD j .nilptr)), .one (.ro (.int .i64 (2 : Int)))] [.one (.bool v1.1)] [[.view]] none] [0, 2, 5] [0, 1] ⟨tr, ⟨⟨⟨rfl, rfl, rfl, tr⟩, rfl, tr⟩, ok_spec_l00Src_one K a0 (2 : Int) v1 e2⟩, tr⟩ ?_
  rcases ite2_cases h with ⟨b3, h⟩ | ⟨b3, h⟩
  · refine AW.cond_t rfl b3 ?_
    refine AW.seq ?_
    obtain ⟨v4, e5, h⟩ := bind_some h
    refine AW.tA ⟨[(0, (vp 0 0)), (2, (vp 1 0))], [(0, (.box [(.fx 0 0 (sl 1 (csI .u8) a0.code)), (cI v4.2.1), (.c (.int .u64 v4.2.2))])), (1, (.box [(cF v4.1.W), (cF v4.1.X), (cF v4.1.Y), (cF v4.1.Z)]))]⟩ (Tt ∧ ((((Eqc (sl 1 (csI .u8) a0.code)) ∧ (eI v1.2.1) ∧ (Eqc (.int .u64 v1.2.2)) ∧ Tt) ∧ Tt) ∧ MutOK Try.prog 23 [(.box 3 (fun j => [true, false, false].getD j true) (fun j => (cs_l00Src (l00Src.mk a0.code v1.2.1 v1.2.2)).getD j .nilptr) (fun j => [.nilptr, (.int .i64 v4.2.1), (.int .u64 v4.2.2)].getD j .nilptr))] [.agg (cs_Turn v4.1)]) ∧ Tt ∧ Tt) [.no, .callM [(.box 3 (fun j => [true, false, false].getD j true) (fun j => (cs_l00Src (l00Src.mk a0.code v1.2.1 v1.2.2)).getD j .nilptr) (fun j => [.nilptr, (.int .i64 v4.2.1), (.int .u64 v4.2.2)].getD j .nilptr))] [.agg (cs_Turn v4.1)] [[.view, .view, .view, .view]] none] [0, 2] [0, 1] ⟨tr, ⟨⟨⟨rfl, rfl, rfl, tr⟩, tr⟩, ok_spec_l02DrawExact K (l00Src.mk a0.code v1.2.1 v1.2.2) v4 e5⟩, tr, tr⟩ ?_
    refine AW.ret ?_
    refine thenQ_ret ?_
    replace h := some_eq h
    subst h
    exact ⟨.inr rfl, retOK_of [(.agg [(cF v4.1.W), (cF v4.1.X), (cF v4.1.Y), (cF v4.1.Z)])] (by kernel_rfl) ⟨⟨⟨rfl, tr⟩, ⟨rfl, tr⟩, ⟨rfl, tr⟩, ⟨rfl, tr⟩, tr⟩, tr⟩ (of_decide_eq_true (by kernel_rfl)), by kernel_rfl, ⟨⟨rfl, ⟨⟨rfl, rfl⟩, ⟨rfl, rfl⟩, ⟨rfl, rfl⟩, tr⟩⟩, tr⟩⟩
  · refine AW.cond_f rfl b3 ?_
    refine AW.skip ?_
    refine thenQ_normal ?_
    refine AW.seq ?_
    obtain ⟨v6, e7, h⟩ := bind_some h
    refine AW.tC (Tt ∧ ((((Eqc (sl 1 (csI .u8) a0.code)) ∧ (eI v1.2.1) ∧ (Eqc (.int .u64 v1.2.2)) ∧ Tt) ∧ Tt) ∧ MutOK Try.prog 24 [(.box 3 (fun j => [true, false, false].getD j true) (fun j => (cs_l00Src (l00Src.mk a0.code v1.2.1 v1.2.2)).getD j .nilptr) (fun j => [.nilptr, (.int .i64 v6.2.1), (.int .u64 v6.2.2)].getD j .nilptr))] [.one (.flt .f32 v6.1.bits)]) ∧ Tt ∧ T2 Tt) [.no, .callM [(.box 3 (fun j => [true, false, false].getD j true) (fun j => (cs_l00Src (l00Src.mk a0.code v1.2.1 v1.2.2)).getD j .nilptr) (fun j => [.nilptr, (.int .i64 v6.2.1), (.int .u64 v6.2.2)].getD j .nilptr))] [.one (.flt .f32 v6.1.bits)] [[.view]] none, .no, .box 2] [0, 2, 3] [0, 1, 2] ⟨tr, ⟨⟨⟨rfl, rfl, rfl, tr⟩, tr⟩, ok_spec_l01DrawSmall K (l00Src.mk a0.code v1.2.1 v1.2.2) v6 e7⟩, tr, tr, tr, tr⟩ ?_
    refine AW.seq ?_
    obtain ⟨v8, e9, h⟩ := bind_some h
    refine AW.tC (Tt ∧ ((((Eqc (sl 1 (csI .u8) a0.code)) ∧ (eI v6.2.1) ∧ (Eqc (.int .u64 v6.2.2)) ∧ Tt) ∧ Tt) ∧ MutOK Try.prog 24 [(.box 3 (fun j => [true, false, false].getD j true) (fun j => (cs_l00Src (l00Src.mk a0.code v6.2.1 v6.2.2)).getD j .nilptr) (fun j => [.nilptr, (.int .i64 v8.2.1), (.int .u64 v8.2.2)].getD j .nilptr))] [.one (.flt .f32 v8.1.bits)]) ∧ T2 Tt) [.no, .callM [(.box 3 (fun j => [true, false, false].getD j true) (fun j => (cs_l00Src (l00Src.mk a0.code v6.2.1 v6.2.2)).getD j .nilptr) (fun j => [.nilptr, (.int .i64 v8.2.1), (.int .u64 v8.2.2)].getD j .nilptr))] [.one (.flt .f32 v8.1.bits)] [[.view]] none] [0, 2, 3] [0, 1, 2] ⟨tr, ⟨⟨⟨rfl, rfl, rfl, tr⟩, tr⟩, ok_spec_l01DrawSmall K (l00Src.mk a0.code v6.2.1 v6.2.2) v8 e9⟩, tr, tr, tr⟩ ?_
    refine AW.seq ?_
    obtain ⟨v10, e11, h⟩ := bind_some h
    refine AW.tC (Tt ∧ ((((Eqc (sl 1 (csI .u8) a0.code)) ∧ (eI v8.2.1) ∧ (Eqc (.int .u64 v8.2.2)) ∧ Tt) ∧ Tt) ∧ MutOK Try.prog 24 [(.box 3 (fun j => [true, false, false].getD j true) (fun j => (cs_l00Src (l00Src.mk a0.code v8.2.1 v8.2.2)).getD j .nilptr) (fun j => [.nilptr, (.int .i64 v10.2.1), (.int .u64 v10.2.2)].getD j .nilptr))] [.one (.flt .f32 v10.1.bits)]) ∧ T2 Tt) [.no, .callM [(.box 3 (fun j => [true, false, false].getD j true) (fun j => (cs_l00Src (l00Src.mk a0.code v8.2.1 v8.2.2)).getD j .nilptr) (fun j => [.nilptr, (.int .i64 v10.2.1), (.int .u64 v10.2.2)].getD j .nilptr))] [.one (.flt .f32 v10.1.bits)] [[.view]] none] [0, 2, 3] [0, 1, 2] ⟨tr, ⟨⟨⟨rfl, rfl, rfl, tr⟩, tr⟩, ok_spec_l01DrawSmall K (l00Src.mk a0.code v8.2.1 v8.2.2) v10 e11⟩, tr, tr, tr⟩ ?_
    refine AW.seq ?_
    obtain ⟨v12, e13, h⟩ := bind_some h
    refine AW.tC (Tt ∧ ((((Eqc (sl 1 (csI .u8) a0.code)) ∧ (eI v10.2.1) ∧ (Eqc (.int .u64 v10.2.2)) ∧ Tt) ∧ Tt) ∧ MutOK Try.prog 24 [(.box 3 (fun j => [true, false, false].getD j true) (fun j => (cs_l00Src (l00Src.mk a0.code v10.2.1 v10.2.2)).getD j .nilptr) (fun j => [.nilptr, (.int .i64 v12.2.1), (.int .u64 v12.2.2)].getD j .nilptr))] [.one (.flt .f32 v12.1.bits)]) ∧ T2 Tt) [.no, .callM [(.box 3 (fun j => [true, false, false].getD j true) (fun j => (cs_l00Src (l00Src.mk a0.code v10.2.1 v10.2.2)).getD j .nilptr) (fun j => [.nilptr, (.int .i64 v12.2.1), (.int .u64 v12.2.2)].getD j .nilptr))] [.one (.flt .f32 v12.1.bits)] [[.view]] none] [0, 2, 3] [0, 1, 2] ⟨tr, ⟨⟨⟨rfl, rfl, rfl, tr⟩, tr⟩, ok_spec_l01DrawSmall K (l00Src.mk a0.code v10.2.1 v10.2.2) v12 e13⟩, tr, tr, tr⟩ ?_
    refine AW.seq ?_
    obtain ⟨v14, e15, h⟩ := bind_some h
    refine AW.tA ⟨[(0, (vp 0 0)), (2, (vp 1 0))], [(0, (.box [(.fx 0 0 (sl 1 (csI .u8) a0.code)), (cI v12.2.1), (.c (.int .u64 v12.2.2))])), (1, (.box [(cF v14.W), (cF v14.X), (cF v14.Y), (cF v14.Z)]))]⟩ (Tt ∧ ((((eF v6.1) ∧ (eF v8.1) ∧ (eF v10.1) ∧ (eF v12.1) ∧ Tt) ∧ Tt) ∧ CallOK Try.prog 25 [.agg (cs_Turn (Turn.mk v6.1 v8.1 v10.1 v12.1))] [.agg (cs_Turn v14)]) ∧ Tt ∧ Tt) [.no, .call [.agg (cs_Turn (Turn.mk v6.1 v8.1 v10.1 v12.1))] [.agg (cs_Turn v14)] [[.view, .view, .view, .view]]] [0, 2] [0, 1] ⟨tr, ⟨⟨⟨rfl, rfl, rfl, rfl, tr⟩, tr⟩, ok_spec_l02Mend K (Turn.mk v6.1 v8.1 v10.1 v12.1) v14 e15⟩, tr, tr⟩ ?_
    refine AW.ret ?_
    replace h := some_eq h
    subst h
    exact ⟨.inr rfl, retOK_of [(.agg [(cF v14.W), (cF v14.X), (cF v14.Y), (cF v14.Z)])] (by kernel_rfl) ⟨⟨⟨rfl, tr⟩, ⟨rfl, tr⟩, ⟨rfl, tr⟩, ⟨rfl, tr⟩, tr⟩, tr⟩ (of_decide_eq_true (by kernel_rfl)), by kernel_rfl, ⟨⟨rfl, ⟨⟨rfl, rfl⟩, ⟨rfl, rfl⟩, ⟨rfl, rfl⟩, tr⟩⟩, tr⟩⟩

/-! spec.R8Turn -/
def spec_R8Turn (K : Nat) (a0 : (List Int)) : Option (Turn) :=
  (spec_l02DrawTurn K (l00Src.mk a0 (0 : Int) (0 : Int))).bind fun v1 => some v1.1

theorem ok_spec_R8Turn (K : Nat) (a0 : (List Int)) (o : (Turn)) (h : spec_R8Turn K a0 = some o) : CallOK Try.prog 5 [.one (sl 1 (csI .u8) a0)] [.agg (cs_Turn o)] := by
  refine callOK_of_AW Try.func5 rfl (by kernel_rfl) (Nat.le_of_ble_eq_true (by kernel_rfl)) ?_
  intro w0
  unfold spec_R8Turn at h
  refine AW.sA ⟨[(0, (vc (sl 1 (csI .u8) a0))), (2, (vp 1 0))], [(1, (.box [(cF (default : F32)), (cF (default : F32)), (cF (default : F32)), (cF (default : F32))]))]⟩ (Tt ∧ Tt) [.box 1] [0, 2] [1] ⟨tr, tr⟩ ?_
  refine AW.seq (AW.mkA 1 2 [(.i64, 0), (.u64, 0)] [.no] [] [2, 3] [1, 2] (s' := ⟨[(2, (vp 1 0)), (3, (vp 2 0))], [(1, (.box [(cF (default : F32)), (cF (default : F32)), (cF (default : F32)), (cF (default : F32))])), (2, (.box [(.c (sl 1 (csI .u8) a0)), (cI (0 : Int)), (.c (.int .u64 (0 : Int)))]))]⟩) (ob := (Tt ∧ Tt) ∧ Tt ∧ (Tt ∧ Tt)) (by kernel_rfl) ⟨⟨tr, tr⟩, tr, ⟨tr, tr⟩⟩ mk_spec_l00From (thenQ_normal ?_))
  refine AW.seq ?_
  obtain ⟨v1, e2, h⟩ := bind_some h
  refine AW.tA ⟨[(2, (vp 1 0))], [(1, (.box [(cF v1.1.W), (cF v1.1.X), (cF v1.1.Y), (cF v1.1.Z)]))]⟩ (Tt ∧ ((((Eqc (sl 1 (csI .u8) a0)) ∧ (eI (0 : Int)) ∧ (Eqc (.int .u64 (0 : Int))) ∧ Tt) ∧ Tt) ∧ MutOK Try.prog 13 [(.box 3 (fun j => [true, false, false].getD j true) (fun j => (cs_l00Src (l00Src.mk a0 (0 : Int) (0 : Int))).getD j .nilptr) (fun j => [.nilptr, (.int .i64 v1.2.1), (.int .u64 v1.2.2)].getD j .nilptr))] [.agg (cs_Turn v1.1)]) ∧ Tt ∧ Tt) [.no, .callM [(.box 3 (fun j => [true, false, false].getD j true) (fun j => (cs_l00Src (l00Src.mk a0 (0 : Int) (0 : Int))).getD j .nilptr) (fun j => [.nilptr, (.int .i64 v1.2.1), (.int .u64 v1.2.2)].getD j .nilptr))] [.agg (cs_Turn v1.1)] [[.view, .view, .view, .view]] none] [2] [1] ⟨tr, ⟨⟨⟨rfl, rfl, rfl, tr⟩, tr⟩, ok_spec_l02DrawTurn K (l00Src.mk a0 (0 : Int) (0 : Int)) v1 e2⟩, tr, tr⟩ ?_
  refine AW.ret ?_
  replace h := some_eq h
  subst h
  exact ⟨.inr rfl, retOK_of [(.agg [(cF v1.1.W), (cF v1.1.X), (cF v1.1.Y), (cF v1.1.Z)])] (by kernel_rfl) ⟨⟨⟨rfl, tr⟩, ⟨rfl, tr⟩, ⟨rfl, tr⟩, ⟨rfl, tr⟩, tr⟩, tr⟩ (of_decide_eq_true (by kernel_rfl))⟩

/-! laws.r8Rest -/
theorem half_laws_r8Rest : HalfOK Try.prog 6 := by
  refine halfOK_of Try.func6 rfl (by kernel_rfl) fun w ad n cap hn hlt => ?_
  refine wp_seq (wp_region_lit (wpList_val (x := (.slice none 0 0)) (w' := w) rfl (by kernel_rfl) (wpList_nil ?_)))
  refine wp_seq (wp_region_lit (wpList_val (x := (.slice ad n cap)) (w' := w) rfl (by kernel_rfl) (wpList_val (x := (.slice ad n cap)) (w' := w) rfl (by kernel_rfl) (wpList_val (x := (.int .i64 (n : Int))) (w' := w) rfl (by kernel_rfl) (wpList_val (x := (.int .i64 (IntKind.i64.wrap ((n : Int).tdiv 2)))) (w' := w) rfl (by kernel_rfl) (wpList_val (x := (.slice (if cap = n / 2 then ad else ad.map (·.add (n / 2 * 1))) (n - n / 2) (cap - n / 2))) (w' := w) rfl (Eq.trans (b := (do pure (Next.value (← Instr.sliceAt 22 (.slice ad n cap) (some (.int .i64 (IntKind.i64.wrap ((n : Int).tdiv 2)))) none none)) : Sem Next).run Try.prog w) (by kernel_rfl) (run_half_v (e := 5) (by kernel_rfl) (by kernel_rfl) hn (half_wrap hlt))) (wpList_val (x := (.slice (if cap = n / 2 then ad else ad.map (·.add (n / 2 * 1))) (n - n / 2) (cap - n / 2))) (w' := w) rfl (by kernel_rfl) (wpList_nil ?_))))))))
  exact wp_ret ⟨rfl, (.slice (if cap = n / 2 then ad else ad.map (·.add (n / 2 * 1))) (n - n / 2) (cap - n / 2)), (by kernel_rfl), _, rfl, rfl, rfl⟩



/-! laws.r8At -/
def laws_r8At (_K : Nat) (a0 : (List Int)) (a1 : Int) (a2 : Int) : Option (Int) :=
  (ite2 ((decide (a2 ≤ (1 : Int)))) (some true) (some (decide (a1 ≥ (a0.length : Int))))).bind fun j2 => ite2 (j2) (some (0 : Int)) (chk (0 ≤ a1 ∧ a1 < (a0.length : Int)) (chk (a2 ≠ 0) (some ((IntKind.i64.wrap (a0.getD a1.toNat default)).tmod a2))))

theorem ok_laws_r8At (K : Nat) (a0 : (List Int)) (a1 : Int) (a2 : Int) (o : (Int)) (h : laws_r8At K a0 a1 a2 = some o) : CallOK Try.prog 7 [.one (sl 1 (csI .u8) a0), .one (.int .i64 a1), .one (.int .i64 a2)] [.one (.int .i64 o)] := by
  refine callOK_of_AW Try.func7 rfl (by kernel_rfl) (Nat.le_of_ble_eq_true (by kernel_rfl)) ?_
  intro w0
  unfold laws_r8At at h
  refine AW.sA ⟨[(0, (vc (sl 1 (csI .u8) a0))), (1, (vI a1)), (2, (vI a2))], []⟩ (Tt ∧ Tt) [] [0, 1, 2] [] ⟨tr, tr⟩ ?_
  refine AW.seq ?_
  refine AW.seq ?_
  obtain ⟨j2, e3, h⟩ := bind_some h
  refine AW.join1 (s2 := ⟨[(0, (vc (sl 1 (csI .u8) a0))), (1, (vI a1)), (2, (vI a2)), (14, (vB j2))], []⟩) ?_ ?_
  · rcases ite2_cases e3 with ⟨b1, e3⟩ | ⟨b1, e3⟩
    · replace e3 := some_eq e3
      subst e3
      exact AW.rA ⟨[(0, (vc (sl 1 (csI .u8) a0))), (1, (vI a1)), (2, (vI a2)), (14, (vB true))], []⟩ (T2 ((Tt ∧ (decide (a2 ≤ (1 : Int))) = true) ∧ Tt ∧ T4 Tt)) [.no, .no, .dec true] [0, 1, 2, 14] [] ⟨tr, tr, ⟨tr, b1⟩, tr, tr, tr, tr, tr, tr⟩ ⟨rfl, rfl⟩
    · replace e3 := some_eq e3
      subst e3
      exact AW.rA ⟨[(0, (vc (sl 1 (csI .u8) a0))), (1, (vI a1)), (2, (vI a2)), (14, (vB (decide (a1 ≥ (a0.length : Int)))))], []⟩ (T2 ((Tt ∧ (decide (a2 ≤ (1 : Int))) = false) ∧ Tt ∧ T4 Tt)) [.no, .no, .dec false] [0, 1, 2, 14] [] ⟨tr, tr, ⟨tr, b1⟩, tr, tr, tr, tr, tr, tr⟩ ⟨rfl, rfl⟩
  refine thenQ_normal ?_
  rcases ite2_cases h with ⟨b4, h⟩ | ⟨b4, h⟩
  · refine AW.cond_t rfl b4 ?_
    refine AW.sA ⟨[(6, (vI (0 : Int)))], []⟩ (Tt ∧ Tt) [] [6] [] ⟨tr, tr⟩ ?_
    refine AW.ret ?_
    refine thenQ_ret ?_
    replace h := some_eq h
    subst h
    exact ⟨.inr rfl, retOK_of [(.one (cI (0 : Int)))] (by kernel_rfl) ⟨⟨rfl, tr⟩, tr⟩ (of_decide_eq_true (by kernel_rfl))⟩
  · refine AW.cond_f rfl b4 ?_
    refine AW.skip ?_
    refine thenQ_normal ?_
    refine AW.seq ?_
    obtain ⟨c5, h⟩ := chk_some h
    obtain ⟨c6, h⟩ := chk_some h
    refine AW.tA ⟨[(6, (vI ((IntKind.i64.wrap (a0.getD a1.toNat default)).tmod a2)))], []⟩ (T2 ((0 ≤ a1 ∧ a1 < (a0.length : Int)) ∧ Tt ∧ T2 ((a2 ≠ 0) ∧ Tt ∧ Tt))) [] [6] [] ⟨tr, tr, c5, tr, tr, tr, c6, tr, tr⟩ ?_
    refine AW.ret ?_
    replace h := some_eq h
    subst h
    exact ⟨.inr rfl, retOK_of [(.one (cI ((IntKind.i64.wrap (a0.getD a1.toNat default)).tmod a2)))] (by kernel_rfl) ⟨⟨rfl, tr⟩, tr⟩ (of_decide_eq_true (by kernel_rfl))⟩

/-! impl.InnerOfTurns -/
def impl_InnerOfTurns (_K : Nat) (a0 : Turn) (a1 : Turn) : Option (F32) :=
  some ((((a0.W.mul a1.W).add (a0.X.mul a1.X)).add (a0.Y.mul a1.Y)).add (a0.Z.mul a1.Z))

theorem ok_impl_InnerOfTurns (K : Nat) (a0 : Turn) (a1 : Turn) (o : (F32)) (h : impl_InnerOfTurns K a0 a1 = some o) : CallOK Try.prog 14 [.agg (cs_Turn a0), .agg (cs_Turn a1)] [.one (.flt .f32 o.bits)] := by
  refine callOK_of_AW Try.func14 rfl (by kernel_rfl) (Nat.le_of_ble_eq_true (by kernel_rfl)) ?_
  intro w0
  unfold impl_InnerOfTurns at h
  refine AW.sC (Tt ∧ T2 Tt) [.box 1, .box 2] [2, 3] [1, 2] ⟨tr, tr, tr, tr⟩ ?_
  refine AW.sA ⟨[(4, (vc (.flt .f32 ((((a0.W.mul a1.W).add (a0.X.mul a1.X)).add (a0.Y.mul a1.Y)).add (a0.Z.mul a1.Z)).bits)))], []⟩ (T4 (T4 (T4 (T4 (T4 (T4 Tt)))))) [] [4] [] ⟨tr, tr, tr, tr, tr, tr, tr, tr, tr, tr, tr, tr, tr, tr, tr, tr, tr, tr, tr, tr, tr, tr, tr, tr, tr⟩ ?_
  refine AW.ret ?_
  replace h := some_eq h
  subst h
  exact ⟨.inr rfl, retOK_of [(.one (cF ((((a0.W.mul a1.W).add (a0.X.mul a1.X)).add (a0.Y.mul a1.Y)).add (a0.Z.mul a1.Z))))] (by kernel_rfl) ⟨⟨rfl, tr⟩, tr⟩ (of_decide_eq_true (by kernel_rfl))⟩

/-! (impl.Turn).opposite -/
def impl_Turn_opposite (_K : Nat) (a0 : Turn) : Option (Turn) :=
  some (Turn.mk (a0.W.neg) (a0.X.neg) (a0.Y.neg) (a0.Z.neg))

theorem ok_impl_Turn_opposite (K : Nat) (a0 : Turn) (o : (Turn)) (h : impl_Turn_opposite K a0 = some o) : CallOK Try.prog 15 [.agg (cs_Turn a0)] [.agg (cs_Turn o)] := by
  refine callOK_of_AW Try.func15 rfl (by kernel_rfl) (Nat.le_of_ble_eq_true (by kernel_rfl)) ?_
  intro w0
  unfold impl_Turn_opposite at h
  refine AW.sC (T2 Tt) [.box 1, .box 2] [1, 2] [1, 2] ⟨tr, tr, tr⟩ ?_
  refine AW.sA ⟨[(2, (vp 2 0))], [(2, (.box [(cF (a0.W.neg)), (cF (a0.X.neg)), (cF (a0.Y.neg)), (cF (a0.Z.neg))]))]⟩ (T2 (T4 (T4 (T4 Tt)))) [] [2] [2] ⟨tr, tr, tr, tr, tr, tr, tr, tr, tr, tr, tr, tr, tr, tr, tr⟩ ?_
  refine AW.ret ?_
  replace h := some_eq h
  subst h
  exact ⟨.inr rfl, retOK_of [(.agg [(cF (a0.W.neg)), (cF (a0.X.neg)), (cF (a0.Y.neg)), (cF (a0.Z.neg))])] (by kernel_rfl) ⟨⟨⟨rfl, tr⟩, ⟨rfl, tr⟩, ⟨rfl, tr⟩, ⟨rfl, tr⟩, tr⟩, tr⟩ (of_decide_eq_true (by kernel_rfl))⟩

/-! impl.between -/
def impl_between (_K : Nat) (a0 : F32) (a1 : F32) (a2 : F32) : Option (F32) :=
  some (a0.add (a2.mul (a1.sub a0)))

theorem ok_impl_between (K : Nat) (a0 : F32) (a1 : F32) (a2 : F32) (o : (F32)) (h : impl_between K a0 a1 a2 = some o) : CallOK Try.prog 17 [.one (.flt .f32 a0.bits), .one (.flt .f32 a1.bits), .one (.flt .f32 a2.bits)] [.one (.flt .f32 o.bits)] := by
  refine callOK_of_AW Try.func17 rfl (by kernel_rfl) (Nat.le_of_ble_eq_true (by kernel_rfl)) ?_
  intro w0
  unfold impl_between at h
  refine AW.sC (Tt ∧ Tt) [] [0, 1, 2] [] ⟨tr, tr⟩ ?_
  refine AW.sA ⟨[(6, (vc (.flt .f32 (a0.add (a2.mul (a1.sub a0))).bits)))], []⟩ (T4 (T4 Tt)) [] [6] [] ⟨tr, tr, tr, tr, tr, tr, tr, tr, tr⟩ ?_
  refine AW.ret ?_
  replace h := some_eq h
  subst h
  exact ⟨.inr rfl, retOK_of [(.one (cF (a0.add (a2.mul (a1.sub a0)))))] (by kernel_rfl) ⟨⟨rfl, tr⟩, tr⟩ (of_decide_eq_true (by kernel_rfl))⟩

/-! impl.RootNumber -/
def impl_RootNumber (K : Nat) (a0 : F32) : Option (F32) :=
  (math_Sqrt K (Fl.cv .f32 .f64 a0)).bind fun v1 => chk ((convBits .f64 v1.bits .f32).isSome = true) (some (Fl.cv .f64 .f32 v1))

theorem ok_impl_RootNumber (K : Nat) (a0 : F32) (o : (F32)) (h : impl_RootNumber K a0 = some o) : CallOK Try.prog 38 [.one (.flt .f32 a0.bits)] [.one (.flt .f32 o.bits)] := by
  refine callOK_of_AW Try.func38 rfl (by kernel_rfl) (Nat.le_of_ble_eq_true (by kernel_rfl)) ?_
  intro w0
  unfold impl_RootNumber at h
  refine AW.sC (Tt ∧ Tt) [] [0] [] ⟨tr, tr⟩ ?_
  refine AW.seq ?_
  obtain ⟨v1, e2, h⟩ := bind_some h
  obtain ⟨c3, h⟩ := chk_some h
  refine AW.tA ⟨[(2, (vc (.flt .f32 (Fl.cv .f64 .f32 v1).bits)))], []⟩ (Tt ∧ ((convBits .f32 a0.bits .f64).isSome = true) ∧ (((Eqc (.flt .f64 (Fl.cv .f32 .f64 a0).bits)) ∧ Tt) ∧ CallOK Try.prog 46 [.one (.flt .f64 (Fl.cv .f32 .f64 a0).bits)] [.one (.flt .f64 v1.bits)]) ∧ ((convBits .f64 v1.bits .f32).isSome = true) ∧ Tt ∧ Tt) [.no, .no, .call [.one (.flt .f64 (Fl.cv .f32 .f64 a0).bits)] [.one (.flt .f64 v1.bits)] [[.view]]] [2] [] ⟨tr, cv_wide a0, ⟨⟨rfl, tr⟩, ok_math_Sqrt K (Fl.cv .f32 .f64 a0) v1 e2⟩, c3, tr, tr⟩ ?_
  refine AW.ret ?_
  replace h := some_eq h
  subst h
  exact ⟨.inr rfl, retOK_of [(.one (cF (Fl.cv .f64 .f32 v1)))] (by kernel_rfl) ⟨⟨rfl, tr⟩, tr⟩ (of_decide_eq_true (by kernel_rfl))⟩

/-! impl.LengthOfTurn -/
def impl_LengthOfTurn (K : Nat) (a0 : Turn) : Option (F32) :=
  (impl_InnerOfTurns K a0 a0).bind fun v1 => (impl_RootNumber K v1).bind fun v3 => some v3

theorem ok_impl_LengthOfTurn (K : Nat) (a0 : Turn) (o : (F32)) (h : impl_LengthOfTurn K a0 = some o) : CallOK Try.prog 26 [.agg (cs_Turn a0)] [.one (.flt .f32 o.bits)] := by
  refine callOK_of_AW Try.func26 rfl (by kernel_rfl) (Nat.le_of_ble_eq_true (by kernel_rfl)) ?_
  intro w0
  unfold impl_LengthOfTurn at h
  refine AW.sC (T2 Tt) [.box 1] [1] [1] ⟨tr, tr, tr⟩ ?_
  refine AW.seq ?_
  obtain ⟨v1, e2, h⟩ := bind_some h
  obtain ⟨v3, e4, h⟩ := bind_some h
  refine AW.tA ⟨[(2, (vc (.flt .f32 v3.bits)))], []⟩ (T2 (((((eF a0.W) ∧ (eF a0.X) ∧ (eF a0.Y) ∧ (eF a0.Z) ∧ Tt) ∧ ((eF a0.W) ∧ (eF a0.X) ∧ (eF a0.Y) ∧ (eF a0.Z) ∧ Tt) ∧ Tt) ∧ CallOK Try.prog 14 [.agg (cs_Turn a0), .agg (cs_Turn a0)] [.one (.flt .f32 v1.bits)]) ∧ (((eF v1) ∧ Tt) ∧ CallOK Try.prog 38 [.one (.flt .f32 v1.bits)] [.one (.flt .f32 v3.bits)]) ∧ Tt ∧ Tt)) [.no, .no, .call [.agg (cs_Turn a0), .agg (cs_Turn a0)] [.one (.flt .f32 v1.bits)] [[.view]], .call [.one (.flt .f32 v1.bits)] [.one (.flt .f32 v3.bits)] [[.view]]] [2] [] ⟨tr, tr, ⟨⟨⟨rfl, rfl, rfl, rfl, tr⟩, ⟨rfl, rfl, rfl, rfl, tr⟩, tr⟩, ok_impl_InnerOfTurns K a0 a0 v1 e2⟩, ⟨⟨rfl, tr⟩, ok_impl_RootNumber K v1 v3 e4⟩, tr, tr⟩ ?_
  refine AW.ret ?_
  replace h := some_eq h
  subst h
  exact ⟨.inr rfl, retOK_of [(.one (cF v3))] (by kernel_rfl) ⟨⟨rfl, tr⟩, tr⟩ (of_decide_eq_true (by kernel_rfl))⟩

/-! impl.IsFinite -/
def impl_IsFinite (_K : Nat) (a0 : F32) : Option (Bool) :=
  some ((a0.sub a0).eq (Fl.mk (k := .f32) 0 (by decide)))

theorem ok_impl_IsFinite (K : Nat) (a0 : F32) (o : (Bool)) (h : impl_IsFinite K a0 = some o) : CallOK Try.prog 39 [.one (.flt .f32 a0.bits)] [.one (.bool o)] := by
  refine callOK_of_AW Try.func39 rfl (by kernel_rfl) (Nat.le_of_ble_eq_true (by kernel_rfl)) ?_
  intro w0
  unfold impl_IsFinite at h
  refine AW.sC (Tt ∧ Tt) [] [0] [] ⟨tr, tr⟩ ?_
  refine AW.sA ⟨[(2, (vB ((a0.sub a0).eq (Fl.mk (k := .f32) 0 (by decide)))))], []⟩ (Tt ∧ T4 Tt) [] [2] [] ⟨tr, tr, tr, tr, tr, tr⟩ ?_
  refine AW.ret ?_
  replace h := some_eq h
  subst h
  exact ⟨.inr rfl, retOK_of [(.one (.c (.bool ((a0.sub a0).eq (Fl.mk (k := .f32) 0 (by decide))))))] (by kernel_rfl) ⟨⟨rfl, tr⟩, tr⟩ (of_decide_eq_true (by kernel_rfl))⟩

/-! impl.isLength -/
def impl_isLength (K : Nat) (a0 : F32) : Option (Bool) :=
  (impl_IsFinite K a0).bind fun v1 => (ite2 (v1) (some (a0.ne (Fl.mk (k := .f32) 0 (by decide)))) (some false)).bind fun j4 => some j4

theorem ok_impl_isLength (K : Nat) (a0 : F32) (o : (Bool)) (h : impl_isLength K a0 = some o) : CallOK Try.prog 27 [.one (.flt .f32 a0.bits)] [.one (.bool o)] := by
  refine callOK_of_AW Try.func27 rfl (by kernel_rfl) (Nat.le_of_ble_eq_true (by kernel_rfl)) ?_
  intro w0
  unfold impl_isLength at h
  refine AW.sA ⟨[(0, (vc (.flt .f32 a0.bits)))], []⟩ (Tt ∧ Tt) [] [0] [] ⟨tr, tr⟩ ?_
  refine AW.seq ?_
  obtain ⟨v1, e2, h⟩ := bind_some h
  obtain ⟨j4, e5, h⟩ := bind_some h
  refine AW.join1 (s2 := ⟨[(2, (vB j4))], []⟩) ?_ ?_
  · rcases ite2_cases e5 with ⟨b3, e5⟩ | ⟨b3, e5⟩
    · replace e5 := some_eq e5
      subst e5
      exact AW.rA ⟨[(2, (vB (a0.ne (Fl.mk (k := .f32) 0 (by decide)))))], []⟩ (Tt ∧ (((eF a0) ∧ Tt) ∧ CallOK Try.prog 39 [.one (.flt .f32 a0.bits)] [.one (.bool v1)]) ∧ (Tt ∧ v1 = true) ∧ T4 Tt) [.no, .call [.one (.flt .f32 a0.bits)] [.one (.bool v1)] [[.view]], .dec true] [2] [] ⟨tr, ⟨⟨rfl, tr⟩, ok_impl_IsFinite K a0 v1 e2⟩, ⟨tr, b3⟩, tr, tr, tr, tr, tr⟩ ⟨rfl, rfl⟩
    · replace e5 := some_eq e5
      subst e5
      exact AW.rA ⟨[(2, (vB false))], []⟩ (Tt ∧ (((eF a0) ∧ Tt) ∧ CallOK Try.prog 39 [.one (.flt .f32 a0.bits)] [.one (.bool v1)]) ∧ (Tt ∧ v1 = false) ∧ T4 Tt) [.no, .call [.one (.flt .f32 a0.bits)] [.one (.bool v1)] [[.view]], .dec false] [2] [] ⟨tr, ⟨⟨rfl, tr⟩, ok_impl_IsFinite K a0 v1 e2⟩, ⟨tr, b3⟩, tr, tr, tr, tr, tr⟩ ⟨rfl, rfl⟩
  refine thenQ_normal ?_
  refine AW.ret ?_
  replace h := some_eq h
  subst h
  exact ⟨.inr rfl, retOK_of [(.one (.c (.bool j4)))] (by kernel_rfl) ⟨⟨rfl, tr⟩, tr⟩ (of_decide_eq_true (by kernel_rfl))⟩

/-! impl.NoTurn -/
def impl_NoTurn (_K : Nat) : Option (Turn) :=
  some (Turn.mk (Fl.mk (k := .f32) 1065353216 (by decide)) (default : F32) (default : F32) (default : F32))

theorem ok_impl_NoTurn (K : Nat) (o : (Turn)) (h : impl_NoTurn K  = some o) : CallOK Try.prog 28 [] [.agg (cs_Turn o)] := by
  refine callOK_of_AW Try.func28 rfl (by kernel_rfl) (Nat.le_of_ble_eq_true (by kernel_rfl)) ?_
  intro w0
  unfold impl_NoTurn at h
  refine AW.sC (Tt ∧ Tt) [.box 1] [0] [1] ⟨tr, tr⟩ ?_
  refine AW.sA ⟨[(0, (vp 1 0))], [(1, (.box [(cF (Fl.mk (k := .f32) 1065353216 (by decide))), (cF (default : F32)), (cF (default : F32)), (cF (default : F32))]))]⟩ (T2 Tt) [] [0] [1] ⟨tr, tr, tr⟩ ?_
  refine AW.ret ?_
  replace h := some_eq h
  subst h
  exact ⟨.inr rfl, retOK_of [(.agg [(cF (Fl.mk (k := .f32) 1065353216 (by decide))), (cF (default : F32)), (cF (default : F32)), (cF (default : F32))])] (by kernel_rfl) ⟨⟨⟨rfl, tr⟩, ⟨rfl, tr⟩, ⟨rfl, tr⟩, ⟨rfl, tr⟩, tr⟩, tr⟩ (of_decide_eq_true (by kernel_rfl))⟩

/-! impl.MendTurn -/
def impl_MendTurn (K : Nat) (a0 : Turn) : Option (Turn) :=
  (impl_LengthOfTurn K a0).bind fun v1 => (impl_isLength K v1).bind fun v3 => ite2 ((!v3)) ((impl_NoTurn K ).bind fun v6 => some v6) (some (Turn.mk (a0.W.div v1) (a0.X.div v1) (a0.Y.div v1) (a0.Z.div v1)))

theorem ok_impl_MendTurn (K : Nat) (a0 : Turn) (o : (Turn)) (h : impl_MendTurn K a0 = some o) : CallOK Try.prog 16 [.agg (cs_Turn a0)] [.agg (cs_Turn o)] := by
  refine callOK_of_AW Try.func16 rfl (by kernel_rfl) (Nat.le_of_ble_eq_true (by kernel_rfl)) ?_
  intro w0
  unfold impl_MendTurn at h
  refine AW.sC (T2 Tt) [.box 1, .box 2] [1, 2] [1, 2] ⟨tr, tr, tr⟩ ?_
  refine AW.seq ?_
  obtain ⟨v1, e2, h⟩ := bind_some h
  refine AW.tC (Tt ∧ ((((eF a0.W) ∧ (eF a0.X) ∧ (eF a0.Y) ∧ (eF a0.Z) ∧ Tt) ∧ Tt) ∧ CallOK Try.prog 26 [.agg (cs_Turn a0)] [.one (.flt .f32 v1.bits)]) ∧ Tt ∧ Tt) [.no, .call [.agg (cs_Turn a0)] [.one (.flt .f32 v1.bits)] [[.view]]] [1, 2, 3] [1, 2] ⟨tr, ⟨⟨⟨rfl, rfl, rfl, rfl, tr⟩, tr⟩, ok_impl_LengthOfTurn K a0 v1 e2⟩, tr, tr⟩ ?_
  refine AW.seq ?_
  refine AW.seq ?_
  obtain ⟨v3, e4, h⟩ := bind_some h
  refine AW.tA ⟨[(1, (vp 1 0)), (2, (vp 2 0)), (3, (vc (.flt .f32 v1.bits))), (8, (vB (!v3)))], [(1, (.box [(cF a0.W), (cF a0.X), (cF a0.Y), (cF a0.Z)])), (2, (.box [(cF (default : F32)), (cF (default : F32)), (cF (default : F32)), (cF (default : F32))]))]⟩ (Tt ∧ (((eF v1) ∧ Tt) ∧ CallOK Try.prog 27 [.one (.flt .f32 v1.bits)] [.one (.bool v3)]) ∧ Tt ∧ Tt) [.no, .call [.one (.flt .f32 v1.bits)] [.one (.bool v3)] [[.view]]] [1, 2, 3, 8] [1, 2] ⟨tr, ⟨⟨rfl, tr⟩, ok_impl_isLength K v1 v3 e4⟩, tr, tr⟩ ?_
  rcases ite2_cases h with ⟨b5, h⟩ | ⟨b5, h⟩
  · refine AW.cond_t rfl b5 ?_
    refine AW.seq ?_
    obtain ⟨v6, e7, h⟩ := bind_some h
    refine AW.tA ⟨[(2, (vp 2 0))], [(2, (.box [(cF v6.W), (cF v6.X), (cF v6.Y), (cF v6.Z)]))]⟩ (((Tt) ∧ CallOK Try.prog 28 [] [.agg (cs_Turn v6)]) ∧ Tt ∧ Tt) [.call [] [.agg (cs_Turn v6)] [[.view, .view, .view, .view]]] [2] [2] ⟨⟨tr, ok_impl_NoTurn K v6 e7⟩, tr, tr⟩ ?_
    refine AW.ret ?_
    refine thenQ_ret ?_
    replace h := some_eq h
    subst h
    exact ⟨.inr rfl, retOK_of [(.agg [(cF v6.W), (cF v6.X), (cF v6.Y), (cF v6.Z)])] (by kernel_rfl) ⟨⟨⟨rfl, tr⟩, ⟨rfl, tr⟩, ⟨rfl, tr⟩, ⟨rfl, tr⟩, tr⟩, tr⟩ (of_decide_eq_true (by kernel_rfl))⟩
  · refine AW.cond_f rfl b5 ?_
    refine AW.skip ?_
    refine thenQ_normal ?_
    refine AW.sA ⟨[(2, (vp 2 0))], [(2, (.box [(cF (a0.W.div v1)), (cF (a0.X.div v1)), (cF (a0.Y.div v1)), (cF (a0.Z.div v1))]))]⟩ (T2 (T4 (T4 (T4 (T4 Tt))))) [] [2] [2] ⟨tr, tr, tr, tr, tr, tr, tr, tr, tr, tr, tr, tr, tr, tr, tr, tr, tr, tr, tr⟩ ?_
    refine AW.ret ?_
    replace h := some_eq h
    subst h
    exact ⟨.inr rfl, retOK_of [(.agg [(cF (a0.W.div v1)), (cF (a0.X.div v1)), (cF (a0.Y.div v1)), (cF (a0.Z.div v1))])] (by kernel_rfl) ⟨⟨⟨rfl, tr⟩, ⟨rfl, tr⟩, ⟨rfl, tr⟩, ⟨rfl, tr⟩, tr⟩, tr⟩ (of_decide_eq_true (by kernel_rfl))⟩

/-! impl.NearTurn -/
def impl_NearTurn (K : Nat) (a0 : Turn) (a1 : Turn) (a2 : F32) : Option (Turn) :=
  (impl_InnerOfTurns K a0 a1).bind fun v1 => ite2 ((v1.lt' (Fl.mk (k := .f32) 0 (by decide)))) ((impl_Turn_opposite K a1).bind fun v4 => (impl_between K a0.W v4.W a2).bind fun v6 => (impl_between K a0.X v4.X a2).bind fun v8 => (impl_between K a0.Y v4.Y a2).bind fun v10 => (impl_between K a0.Z v4.Z a2).bind fun v12 => (impl_MendTurn K (Turn.mk v6 v8 v10 v12)).bind fun v14 => some v14) ((impl_between K a0.W a1.W a2).bind fun v16 => (impl_between K a0.X a1.X a2).bind fun v18 => (impl_between K a0.Y a1.Y a2).bind fun v20 => (impl_between K a0.Z a1.Z a2).bind fun v22 => (impl_MendTurn K (Turn.mk v16 v18 v20 v22)).bind fun v24 => some v24)

theorem ok_impl_NearTurn (K : Nat) (a0 : Turn) (a1 : Turn) (a2 : F32) (o : (Turn)) (h : impl_NearTurn K a0 a1 a2 = some o) : CallOK Try.prog 8 [.agg (cs_Turn a0), .agg (cs_Turn a1), .one (.flt .f32 a2.bits)] [.agg (cs_Turn o)] := by
  refine callOK_of_AW Try.func8 rfl (by kernel_rfl) (Nat.le_of_ble_eq_true (by kernel_rfl)) ?_
  intro w0
  unfold impl_NearTurn at h
  refine AW.sC (Tt ∧ T2 Tt) [.box 1, .box 2, .box 3] [2, 3, 4, 6] [1, 2, 3] ⟨tr, tr, tr, tr⟩ ?_
  refine AW.seq ?_
  refine AW.seq ?_
  obtain ⟨v1, e2, h⟩ := bind_some h
  refine AW.tA ⟨[(2, (vc (.flt .f32 a2.bits))), (3, (vp 1 0)), (4, (vp 2 0)), (6, (vp 3 0)), (10, (vB (v1.lt' (Fl.mk (k := .f32) 0 (by decide)))))], [(1, (.box [(cF a0.W), (cF a0.X), (cF a0.Y), (cF a0.Z)])), (2, (.box [(cF a1.W), (cF a1.X), (cF a1.Y), (cF a1.Z)])), (3, (.box [(cF (default : F32)), (cF (default : F32)), (cF (default : F32)), (cF (default : F32))]))]⟩ (T2 (((((eF a0.W) ∧ (eF a0.X) ∧ (eF a0.Y) ∧ (eF a0.Z) ∧ Tt) ∧ ((eF a1.W) ∧ (eF a1.X) ∧ (eF a1.Y) ∧ (eF a1.Z) ∧ Tt) ∧ Tt) ∧ CallOK Try.prog 14 [.agg (cs_Turn a0), .agg (cs_Turn a1)] [.one (.flt .f32 v1.bits)]) ∧ Tt ∧ Tt)) [.no, .no, .call [.agg (cs_Turn a0), .agg (cs_Turn a1)] [.one (.flt .f32 v1.bits)] [[.view]]] [2, 3, 4, 6, 10] [1, 2, 3] ⟨tr, tr, ⟨⟨⟨rfl, rfl, rfl, rfl, tr⟩, ⟨rfl, rfl, rfl, rfl, tr⟩, tr⟩, ok_impl_InnerOfTurns K a0 a1 v1 e2⟩, tr, tr⟩ ?_
  rcases ite2_cases h with ⟨b3, h⟩ | ⟨b3, h⟩
  · refine AW.cond_t rfl b3 ?_
    obtain ⟨v4, e5, h⟩ := bind_some h
    refine AW.tA ⟨[(2, (vc (.flt .f32 a2.bits))), (3, (vp 1 0)), (4, (vp 2 0)), (6, (vp 3 0))], [(1, (.box [(cF a0.W), (cF a0.X), (cF a0.Y), (cF a0.Z)])), (2, (.box [(cF v4.W), (cF v4.X), (cF v4.Y), (cF v4.Z)])), (3, (.box [(cF (default : F32)), (cF (default : F32)), (cF (default : F32)), (cF (default : F32))]))]⟩ (Tt ∧ ((((eF a1.W) ∧ (eF a1.X) ∧ (eF a1.Y) ∧ (eF a1.Z) ∧ Tt) ∧ Tt) ∧ CallOK Try.prog 15 [.agg (cs_Turn a1)] [.agg (cs_Turn v4)]) ∧ Tt ∧ Tt) [.no, .call [.agg (cs_Turn a1)] [.agg (cs_Turn v4)] [[.view, .view, .view, .view]]] [2, 3, 4, 6] [1, 2, 3] ⟨tr, ⟨⟨⟨rfl, rfl, rfl, rfl, tr⟩, tr⟩, ok_impl_Turn_opposite K a1 v4 e5⟩, tr, tr⟩ ?_
    refine AW.seq ?_
    obtain ⟨v6, e7, h⟩ := bind_some h
    obtain ⟨v8, e9, h⟩ := bind_some h
    obtain ⟨v10, e11, h⟩ := bind_some h
    obtain ⟨v12, e13, h⟩ := bind_some h
    obtain ⟨v14, e15, h⟩ := bind_some h
    refine AW.dA ⟨[(6, (vp 3 0))], [(3, (.box [(cF v14.W), (cF v14.X), (cF v14.Y), (cF v14.Z)]))]⟩ ((Tt ∧ T4 ((((eF a0.W) ∧ (eF v4.W) ∧ (eF a2) ∧ Tt) ∧ CallOK Try.prog 17 [.one (.flt .f32 a0.W.bits), .one (.flt .f32 v4.W.bits), .one (.flt .f32 a2.bits)] [.one (.flt .f32 v6.bits)]) ∧ Tt ∧ T4 ((((eF a0.X) ∧ (eF v4.X) ∧ (eF a2) ∧ Tt) ∧ CallOK Try.prog 17 [.one (.flt .f32 a0.X.bits), .one (.flt .f32 v4.X.bits), .one (.flt .f32 a2.bits)] [.one (.flt .f32 v8.bits)]) ∧ Tt ∧ T4 ((((eF a0.Y) ∧ (eF v4.Y) ∧ (eF a2) ∧ Tt) ∧ CallOK Try.prog 17 [.one (.flt .f32 a0.Y.bits), .one (.flt .f32 v4.Y.bits), .one (.flt .f32 a2.bits)] [.one (.flt .f32 v10.bits)]) ∧ Tt ∧ T4 ((((eF a0.Z) ∧ (eF v4.Z) ∧ (eF a2) ∧ Tt) ∧ CallOK Try.prog 17 [.one (.flt .f32 a0.Z.bits), .one (.flt .f32 v4.Z.bits), .one (.flt .f32 a2.bits)] [.one (.flt .f32 v12.bits)]) ∧ Tt ∧ ((((eF v6) ∧ (eF v8) ∧ (eF v10) ∧ (eF v12) ∧ Tt) ∧ Tt) ∧ CallOK Try.prog 16 [.agg (cs_Turn (Turn.mk v6 v8 v10 v12))] [.agg (cs_Turn v14)]) ∧ Tt))))) ∧ (Tt ∧ Tt)) 26 [.no, .no, .no, .no, .no, .call [.one (.flt .f32 a0.W.bits), .one (.flt .f32 v4.W.bits), .one (.flt .f32 a2.bits)] [.one (.flt .f32 v6.bits)] [[.view]], .no, .no, .no, .no, .no, .call [.one (.flt .f32 a0.X.bits), .one (.flt .f32 v4.X.bits), .one (.flt .f32 a2.bits)] [.one (.flt .f32 v8.bits)] [[.view]], .no, .no, .no, .no, .no, .call [.one (.flt .f32 a0.Y.bits), .one (.flt .f32 v4.Y.bits), .one (.flt .f32 a2.bits)] [.one (.flt .f32 v10.bits)] [[.view]], .no, .no, .no, .no, .no, .call [.one (.flt .f32 a0.Z.bits), .one (.flt .f32 v4.Z.bits), .one (.flt .f32 a2.bits)] [.one (.flt .f32 v12.bits)] [[.view]], .no, .call [.agg (cs_Turn (Turn.mk v6 v8 v10 v12))] [.agg (cs_Turn v14)] [[.view, .view, .view, .view]]] [6] [3] ⟨⟨tr, tr, tr, tr, tr, ⟨⟨rfl, rfl, rfl, tr⟩, ok_impl_between K a0.W v4.W a2 v6 e7⟩, tr, tr, tr, tr, tr, ⟨⟨rfl, rfl, rfl, tr⟩, ok_impl_between K a0.X v4.X a2 v8 e9⟩, tr, tr, tr, tr, tr, ⟨⟨rfl, rfl, rfl, tr⟩, ok_impl_between K a0.Y v4.Y a2 v10 e11⟩, tr, tr, tr, tr, tr, ⟨⟨rfl, rfl, rfl, tr⟩, ok_impl_between K a0.Z v4.Z a2 v12 e13⟩, tr, ⟨⟨⟨rfl, rfl, rfl, rfl, tr⟩, tr⟩, ok_impl_MendTurn K (Turn.mk v6 v8 v10 v12) v14 e15⟩, tr⟩, ⟨tr, tr⟩⟩ ?_
    refine thenQ_normal ?_
    refine AW.ret ?_
    replace h := some_eq h
    subst h
    exact ⟨.inr rfl, retOK_of [(.agg [(cF v14.W), (cF v14.X), (cF v14.Y), (cF v14.Z)])] (by kernel_rfl) ⟨⟨⟨rfl, tr⟩, ⟨rfl, tr⟩, ⟨rfl, tr⟩, ⟨rfl, tr⟩, tr⟩, tr⟩ (of_decide_eq_true (by kernel_rfl))⟩
  · refine AW.cond_f rfl b3 ?_
    refine AW.skip ?_
    refine thenQ_normal ?_
    refine AW.seq ?_
    obtain ⟨v16, e17, h⟩ := bind_some h
    obtain ⟨v18, e19, h⟩ := bind_some h
    obtain ⟨v20, e21, h⟩ := bind_some h
    obtain ⟨v22, e23, h⟩ := bind_some h
    obtain ⟨v24, e25, h⟩ := bind_some h
    refine AW.dA ⟨[(6, (vp 3 0))], [(3, (.box [(cF v24.W), (cF v24.X), (cF v24.Y), (cF v24.Z)]))]⟩ ((Tt ∧ T4 ((((eF a0.W) ∧ (eF a1.W) ∧ (eF a2) ∧ Tt) ∧ CallOK Try.prog 17 [.one (.flt .f32 a0.W.bits), .one (.flt .f32 a1.W.bits), .one (.flt .f32 a2.bits)] [.one (.flt .f32 v16.bits)]) ∧ Tt ∧ T4 ((((eF a0.X) ∧ (eF a1.X) ∧ (eF a2) ∧ Tt) ∧ CallOK Try.prog 17 [.one (.flt .f32 a0.X.bits), .one (.flt .f32 a1.X.bits), .one (.flt .f32 a2.bits)] [.one (.flt .f32 v18.bits)]) ∧ Tt ∧ T4 ((((eF a0.Y) ∧ (eF a1.Y) ∧ (eF a2) ∧ Tt) ∧ CallOK Try.prog 17 [.one (.flt .f32 a0.Y.bits), .one (.flt .f32 a1.Y.bits), .one (.flt .f32 a2.bits)] [.one (.flt .f32 v20.bits)]) ∧ Tt ∧ T4 ((((eF a0.Z) ∧ (eF a1.Z) ∧ (eF a2) ∧ Tt) ∧ CallOK Try.prog 17 [.one (.flt .f32 a0.Z.bits), .one (.flt .f32 a1.Z.bits), .one (.flt .f32 a2.bits)] [.one (.flt .f32 v22.bits)]) ∧ Tt ∧ ((((eF v16) ∧ (eF v18) ∧ (eF v20) ∧ (eF v22) ∧ Tt) ∧ Tt) ∧ CallOK Try.prog 16 [.agg (cs_Turn (Turn.mk v16 v18 v20 v22))] [.agg (cs_Turn v24)]) ∧ Tt))))) ∧ (Tt ∧ Tt)) 26 [.no, .no, .no, .no, .no, .call [.one (.flt .f32 a0.W.bits), .one (.flt .f32 a1.W.bits), .one (.flt .f32 a2.bits)] [.one (.flt .f32 v16.bits)] [[.view]], .no, .no, .no, .no, .no, .call [.one (.flt .f32 a0.X.bits), .one (.flt .f32 a1.X.bits), .one (.flt .f32 a2.bits)] [.one (.flt .f32 v18.bits)] [[.view]], .no, .no, .no, .no, .no, .call [.one (.flt .f32 a0.Y.bits), .one (.flt .f32 a1.Y.bits), .one (.flt .f32 a2.bits)] [.one (.flt .f32 v20.bits)] [[.view]], .no, .no, .no, .no, .no, .call [.one (.flt .f32 a0.Z.bits), .one (.flt .f32 a1.Z.bits), .one (.flt .f32 a2.bits)] [.one (.flt .f32 v22.bits)] [[.view]], .no, .call [.agg (cs_Turn (Turn.mk v16 v18 v20 v22))] [.agg (cs_Turn v24)] [[.view, .view, .view, .view]]] [6] [3] ⟨⟨tr, tr, tr, tr, tr, ⟨⟨rfl, rfl, rfl, tr⟩, ok_impl_between K a0.W a1.W a2 v16 e17⟩, tr, tr, tr, tr, tr, ⟨⟨rfl, rfl, rfl, tr⟩, ok_impl_between K a0.X a1.X a2 v18 e19⟩, tr, tr, tr, tr, tr, ⟨⟨rfl, rfl, rfl, tr⟩, ok_impl_between K a0.Y a1.Y a2 v20 e21⟩, tr, tr, tr, tr, tr, ⟨⟨rfl, rfl, rfl, tr⟩, ok_impl_between K a0.Z a1.Z a2 v22 e23⟩, tr, ⟨⟨⟨rfl, rfl, rfl, rfl, tr⟩, tr⟩, ok_impl_MendTurn K (Turn.mk v16 v18 v20 v22) v24 e25⟩, tr⟩, ⟨tr, tr⟩⟩ ?_
    refine thenQ_normal ?_
    refine AW.ret ?_
    replace h := some_eq h
    subst h
    exact ⟨.inr rfl, retOK_of [(.agg [(cF v24.W), (cF v24.X), (cF v24.Y), (cF v24.Z)])] (by kernel_rfl) ⟨⟨⟨rfl, tr⟩, ⟨rfl, tr⟩, ⟨rfl, tr⟩, ⟨rfl, tr⟩, tr⟩, tr⟩ (of_decide_eq_true (by kernel_rfl))⟩

/-! impl.mixTurns -/
def impl_mixTurns_l1 (K : Nat) (a0 : (List Turn)) (a1 : (List F32)) : Nat → Int → F32 → F32 → F32 → F32 → Option (Turn)
  | 0, _, _, _, _, _ => none
  | k + 1, x6, x7, x8, x9, x10 => ite2 ((decide (x6 < (a0.length : Int)))) (chk (0 ≤ x6 ∧ x6 < (a0.length : Int)) (chk (0 ≤ (0 : Int) ∧ (0 : Int) < (a0.length : Int)) ((impl_InnerOfTurns K (a0.getD ((0 : Int).toNat) default) (a0.getD x6.toNat default)).bind fun v14 => ite2 ((v14.lt' (Fl.mk (k := .f32) 0 (by decide)))) ((impl_Turn_opposite K (a0.getD x6.toNat default)).bind fun v17 => chk (0 ≤ x6 ∧ x6 < (a1.length : Int)) (impl_mixTurns_l1 K a0 a1 k (IntKind.i64.wrap (x6 + (1 : Int))) (x7.add (v17.W.mul (a1.getD x6.toNat default))) (x8.add (v17.X.mul (a1.getD x6.toNat default))) (x9.add (v17.Y.mul (a1.getD x6.toNat default))) (x10.add (v17.Z.mul (a1.getD x6.toNat default))))) (chk (0 ≤ x6 ∧ x6 < (a1.length : Int)) (impl_mixTurns_l1 K a0 a1 k (IntKind.i64.wrap (x6 + (1 : Int))) (x7.add (((a0.getD x6.toNat default).W).mul (a1.getD x6.toNat default))) (x8.add (((a0.getD x6.toNat default).X).mul (a1.getD x6.toNat default))) (x9.add (((a0.getD x6.toNat default).Y).mul (a1.getD x6.toNat default))) (x10.add (((a0.getD x6.toNat default).Z).mul (a1.getD x6.toNat default)))))))) ((impl_MendTurn K (Turn.mk x7 x8 x9 x10)).bind fun v21 => some v21)

def impl_mixTurns (K : Nat) (a0 : (List Turn)) (a1 : (List F32)) : Option (Turn) :=
  impl_mixTurns_l1 K a0 a1 K (0 : Int) (default : F32) (default : F32) (default : F32) (default : F32)

theorem ok_impl_mixTurns (K : Nat) (a0 : (List Turn)) (a1 : (List F32)) (o : (Turn)) (h : impl_mixTurns K a0 a1 = some o) : CallOK Try.prog 18 [.one (sl 4 cs_Turn a0), .one (sl 1 (csF .f32) a1)] [.agg (cs_Turn o)] := by
  refine callOK_of_AW Try.func18 rfl (by kernel_rfl) (Nat.le_of_ble_eq_true (by kernel_rfl)) ?_
  intro w0
  unfold impl_mixTurns at h
  refine AW.sC (Tt ∧ Tt) [.box 1] [0, 1, 4] [1] ⟨tr, tr⟩ ?_
  refine AW.sC (Tt ∧ Tt) [.box 2] [0, 1, 4, 5] [1, 2] ⟨tr, tr⟩ ?_
  refine AW.seq ?_
  refine AW.sA ⟨[(0, (vc (sl 4 cs_Turn a0))), (1, (vc (sl 1 (csF .f32) a1))), (4, (vp 1 0)), (5, (vp 2 0)), (9, (vc (sl 4 cs_Turn a0))), (10, (vI (a0.length : Int))), (11, (vI (0 : Int)))], [(1, (.box [(cF (default : F32)), (cF (default : F32)), (cF (default : F32)), (cF (default : F32))])), (2, (.box [(cF (default : F32)), (cF (default : F32)), (cF (default : F32)), (cF (default : F32))]))]⟩ (Tt ∧ T2 Tt) [] [0, 1, 4, 5, 9, 10, 11] [1, 2] ⟨tr, tr, tr, tr⟩ ?_
  refine AW.block ?_
  refine AW.loopQ (σ := Nat × Int × F32 × F32 × F32 × F32) (fun p => ⟨[(0, (vc (sl 4 cs_Turn a0))), (1, (vc (sl 1 (csF .f32) a1))), (4, (vp 1 0)), (5, (vp 2 0)), (9, (vc (sl 4 cs_Turn a0))), (10, (vI (a0.length : Int))), (11, (vI p.2.1))], [(1, (.box [(cF (default : F32)), (cF (default : F32)), (cF (default : F32)), (cF (default : F32))])), (2, (.box [(cF p.2.2.1), (cF p.2.2.2.1), (cF p.2.2.2.2.1), (cF p.2.2.2.2.2)]))]⟩) (fun p => impl_mixTurns_l1 K a0 a1 p.1 p.2.1 p.2.2.1 p.2.2.2.1 p.2.2.2.2.1 p.2.2.2.2.2 = some o) (fun p => p.1) (K, (0 : Int), (default : F32), (default : F32), (default : F32), (default : F32)) h ?_
  clear h
  rintro ⟨k, x6, x7, x8, x9, x10⟩ h
  replace h : impl_mixTurns_l1 K a0 a1 k x6 x7 x8 x9 x10 = some o := h
  show AW _ _ (⟨[(0, (vc (sl 4 cs_Turn a0))), (1, (vc (sl 1 (csF .f32) a1))), (4, (vp 1 0)), (5, (vp 2 0)), (9, (vc (sl 4 cs_Turn a0))), (10, (vI (a0.length : Int))), (11, (vI x6))], [(1, (.box [(cF (default : F32)), (cF (default : F32)), (cF (default : F32)), (cF (default : F32))])), (2, (.box [(cF x7), (cF x8), (cF x9), (cF x10)]))]⟩ : St) _
  obtain _ | k := k
  · rw [impl_mixTurns_l1] at h; cases h
  rw [impl_mixTurns_l1] at h
  refine AW.sA ⟨[(0, (vc (sl 4 cs_Turn a0))), (1, (vc (sl 1 (csF .f32) a1))), (4, (vp 1 0)), (5, (vp 2 0)), (9, (vc (sl 4 cs_Turn a0))), (10, (vI (a0.length : Int))), (11, (vI x6)), (12, (vB (decide (x6 < (a0.length : Int)))))], [(1, (.box [(cF (default : F32)), (cF (default : F32)), (cF (default : F32)), (cF (default : F32))])), (2, (.box [(cF x7), (cF x8), (cF x9), (cF x10)]))]⟩ (Tt ∧ Tt) [] [0, 1, 4, 5, 9, 10, 11, 12] [1, 2] ⟨tr, tr⟩ ?_
  refine AW.seq ?_
  rcases ite2_cases h with ⟨b11, h⟩ | ⟨b11, h⟩
  · refine AW.cond_t rfl b11 ?_
    refine AW.skip ?_
    refine thenQ_normal ?_
    refine AW.seq ?_
    refine AW.block ?_
    refine AW.seq ?_
    obtain ⟨c12, h⟩ := chk_some h
    refine AW.tA ⟨[(0, (vc (sl 4 cs_Turn a0))), (1, (vc (sl 1 (csF .f32) a1))), (4, (vp 1 0)), (5, (vp 2 0)), (6, (vI x6)), (7, (vp 5 0)), (9, (vc (sl 4 cs_Turn a0))), (10, (vI (a0.length : Int))), (11, (vI x6))], [(1, (.box [(cF (default : F32)), (cF (default : F32)), (cF (default : F32)), (cF (default : F32))])), (2, (.box [(cF x7), (cF x8), (cF x9), (cF x10)])), (5, (.box [(cF ((a0.getD x6.toNat default).W)), (cF ((a0.getD x6.toNat default).X)), (cF ((a0.getD x6.toNat default).Y)), (cF ((a0.getD x6.toNat default).Z))]))]⟩ (Tt ∧ (0 ≤ x6 ∧ x6 < (a0.length : Int)) ∧ T4 Tt) [.no, .no, .no, .box 5] [0, 1, 4, 5, 6, 7, 9, 10, 11] [1, 2, 5] ⟨tr, c12, tr, tr, tr, tr, tr⟩ ?_
    refine AW.seq ?_
    refine AW.seq ?_
    obtain ⟨c13, h⟩ := chk_some h
    obtain ⟨v14, e15, h⟩ := bind_some h
    refine AW.dA ⟨[(0, (vc (sl 4 cs_Turn a0))), (1, (vc (sl 1 (csF .f32) a1))), (4, (vp 1 0)), (5, (vp 2 0)), (6, (vI x6)), (7, (vp 5 0)), (9, (vc (sl 4 cs_Turn a0))), (10, (vI (a0.length : Int))), (11, (vI x6)), (21, (vB (v14.lt' (Fl.mk (k := .f32) 0 (by decide)))))], [(1, (.box [(cF (default : F32)), (cF (default : F32)), (cF (default : F32)), (cF (default : F32))])), (2, (.box [(cF x7), (cF x8), (cF x9), (cF x10)])), (5, (.box [(cF ((a0.getD x6.toNat default).W)), (cF ((a0.getD x6.toNat default).X)), (cF ((a0.getD x6.toNat default).Y)), (cF ((a0.getD x6.toNat default).Z))]))]⟩ ((Tt ∧ (0 ≤ (0 : Int) ∧ (0 : Int) < (a0.length : Int)) ∧ T2 (((((eF ((a0.getD ((0 : Int).toNat) default).W)) ∧ (eF ((a0.getD ((0 : Int).toNat) default).X)) ∧ (eF ((a0.getD ((0 : Int).toNat) default).Y)) ∧ (eF ((a0.getD ((0 : Int).toNat) default).Z)) ∧ Tt) ∧ ((eF ((a0.getD x6.toNat default).W)) ∧ (eF ((a0.getD x6.toNat default).X)) ∧ (eF ((a0.getD x6.toNat default).Y)) ∧ (eF ((a0.getD x6.toNat default).Z)) ∧ Tt) ∧ Tt) ∧ CallOK Try.prog 14 [.agg (cs_Turn (a0.getD ((0 : Int).toNat) default)), .agg (cs_Turn (a0.getD x6.toNat default))] [.one (.flt .f32 v14.bits)]) ∧ Tt ∧ Tt)) ∧ (Tt)) 6 [.no, .no, .no, .no, .call [.agg (cs_Turn (a0.getD ((0 : Int).toNat) default)), .agg (cs_Turn (a0.getD x6.toNat default))] [.one (.flt .f32 v14.bits)] [[.view]]] [0, 1, 4, 5, 6, 7, 9, 10, 11, 21] [1, 2, 5] ⟨⟨tr, c13, tr, tr, ⟨⟨⟨rfl, rfl, rfl, rfl, tr⟩, ⟨rfl, rfl, rfl, rfl, tr⟩, tr⟩, ok_impl_InnerOfTurns K (a0.getD ((0 : Int).toNat) default) (a0.getD x6.toNat default) v14 e15⟩, tr, tr⟩, tr⟩ ?_
    refine thenQ_normal ?_
    rcases ite2_cases h with ⟨b16, h⟩ | ⟨b16, h⟩
    · refine AW.cond_t rfl b16 ?_
      obtain ⟨v17, e18, h⟩ := bind_some h
      refine AW.tC (Tt ∧ ((((eF ((a0.getD x6.toNat default).W)) ∧ (eF ((a0.getD x6.toNat default).X)) ∧ (eF ((a0.getD x6.toNat default).Y)) ∧ (eF ((a0.getD x6.toNat default).Z)) ∧ Tt) ∧ Tt) ∧ CallOK Try.prog 15 [.agg (cs_Turn (a0.getD x6.toNat default))] [.agg (cs_Turn v17)]) ∧ Tt ∧ Tt) [.no, .call [.agg (cs_Turn (a0.getD x6.toNat default))] [.agg (cs_Turn v17)] [[.view, .view, .view, .view]]] [0, 1, 4, 5, 6, 7, 9, 10, 11] [1, 2, 5] ⟨tr, ⟨⟨⟨rfl, rfl, rfl, rfl, tr⟩, tr⟩, ok_impl_Turn_opposite K (a0.getD x6.toNat default) v17 e18⟩, tr, tr⟩ ?_
      refine AW.seq ?_
      obtain ⟨c19, h⟩ := chk_some h
      refine AW.tC (T2 ((0 ≤ x6 ∧ x6 < (a1.length : Int)) ∧ T2 Tt)) [] [0, 1, 4, 5, 7, 8, 9, 10, 11] [1, 2, 5] ⟨tr, tr, c19, tr, tr, tr⟩ ?_
      refine AW.rA ⟨[(0, (vc (sl 4 cs_Turn a0))), (1, (vc (sl 1 (csF .f32) a1))), (4, (vp 1 0)), (5, (vp 2 0)), (9, (vc (sl 4 cs_Turn a0))), (10, (vI (a0.length : Int))), (11, (vI x6))], [(1, (.box [(cF (default : F32)), (cF (default : F32)), (cF (default : F32)), (cF (default : F32))])), (2, (.box [(cF (x7.add (v17.W.mul (a1.getD x6.toNat default)))), (cF (x8.add (v17.X.mul (a1.getD x6.toNat default)))), (cF (x9.add (v17.Y.mul (a1.getD x6.toNat default)))), (cF (x10.add (v17.Z.mul (a1.getD x6.toNat default))))]))]⟩ (T2 (T4 (T4 (T4 (T4 (T4 (T4 (T4 Tt)))))))) [] [0, 1, 4, 5, 9, 10, 11] [1, 2] ⟨tr, tr, tr, tr, tr, tr, tr, tr, tr, tr, tr, tr, tr, tr, tr, tr, tr, tr, tr, tr, tr, tr, tr, tr, tr, tr, tr, tr, tr, tr, tr⟩ ?_
      refine blockQ_normal ?_
      refine thenQ_normal ?_
      refine AW.rA ⟨[(0, (vc (sl 4 cs_Turn a0))), (1, (vc (sl 1 (csF .f32) a1))), (4, (vp 1 0)), (5, (vp 2 0)), (9, (vc (sl 4 cs_Turn a0))), (10, (vI (a0.length : Int))), (11, (vI (IntKind.i64.wrap (x6 + (1 : Int)))))], [(1, (.box [(cF (default : F32)), (cF (default : F32)), (cF (default : F32)), (cF (default : F32))])), (2, (.box [(cF (x7.add (v17.W.mul (a1.getD x6.toNat default)))), (cF (x8.add (v17.X.mul (a1.getD x6.toNat default)))), (cF (x9.add (v17.Y.mul (a1.getD x6.toNat default)))), (cF (x10.add (v17.Z.mul (a1.getD x6.toNat default))))]))]⟩ (T2 Tt) [] [0, 1, 4, 5, 9, 10, 11] [1, 2] ⟨tr, tr, tr⟩ ?_
      exact loopQ_normal (k, (IntKind.i64.wrap (x6 + (1 : Int))), (x7.add (v17.W.mul (a1.getD x6.toNat default))), (x8.add (v17.X.mul (a1.getD x6.toNat default))), (x9.add (v17.Y.mul (a1.getD x6.toNat default))), (x10.add (v17.Z.mul (a1.getD x6.toNat default)))) h (Nat.lt_succ_self k) (Sub.keep [0, 1, 4, 5, 9, 10, 11] [1, 2] (by kernel_rfl) (by kernel_rfl))
    · refine AW.cond_f rfl b16 ?_
      refine AW.skip ?_
      refine thenQ_normal ?_
      refine AW.seq ?_
      obtain ⟨c20, h⟩ := chk_some h
      refine AW.tC (T2 ((0 ≤ x6 ∧ x6 < (a1.length : Int)) ∧ T2 Tt)) [] [0, 1, 4, 5, 7, 8, 9, 10, 11] [1, 2, 5] ⟨tr, tr, c20, tr, tr, tr⟩ ?_
      refine AW.rA ⟨[(0, (vc (sl 4 cs_Turn a0))), (1, (vc (sl 1 (csF .f32) a1))), (4, (vp 1 0)), (5, (vp 2 0)), (9, (vc (sl 4 cs_Turn a0))), (10, (vI (a0.length : Int))), (11, (vI x6))], [(1, (.box [(cF (default : F32)), (cF (default : F32)), (cF (default : F32)), (cF (default : F32))])), (2, (.box [(cF (x7.add (((a0.getD x6.toNat default).W).mul (a1.getD x6.toNat default)))), (cF (x8.add (((a0.getD x6.toNat default).X).mul (a1.getD x6.toNat default)))), (cF (x9.add (((a0.getD x6.toNat default).Y).mul (a1.getD x6.toNat default)))), (cF (x10.add (((a0.getD x6.toNat default).Z).mul (a1.getD x6.toNat default))))]))]⟩ (T2 (T4 (T4 (T4 (T4 (T4 (T4 (T4 Tt)))))))) [] [0, 1, 4, 5, 9, 10, 11] [1, 2] ⟨tr, tr, tr, tr, tr, tr, tr, tr, tr, tr, tr, tr, tr, tr, tr, tr, tr, tr, tr, tr, tr, tr, tr, tr, tr, tr, tr, tr, tr, tr, tr⟩ ?_
      refine blockQ_normal ?_
      refine thenQ_normal ?_
      refine AW.rA ⟨[(0, (vc (sl 4 cs_Turn a0))), (1, (vc (sl 1 (csF .f32) a1))), (4, (vp 1 0)), (5, (vp 2 0)), (9, (vc (sl 4 cs_Turn a0))), (10, (vI (a0.length : Int))), (11, (vI (IntKind.i64.wrap (x6 + (1 : Int)))))], [(1, (.box [(cF (default : F32)), (cF (default : F32)), (cF (default : F32)), (cF (default : F32))])), (2, (.box [(cF (x7.add (((a0.getD x6.toNat default).W).mul (a1.getD x6.toNat default)))), (cF (x8.add (((a0.getD x6.toNat default).X).mul (a1.getD x6.toNat default)))), (cF (x9.add (((a0.getD x6.toNat default).Y).mul (a1.getD x6.toNat default)))), (cF (x10.add (((a0.getD x6.toNat default).Z).mul (a1.getD x6.toNat default))))]))]⟩ (T2 Tt) [] [0, 1, 4, 5, 9, 10, 11] [1, 2] ⟨tr, tr, tr⟩ ?_
      exact loopQ_normal (k, (IntKind.i64.wrap (x6 + (1 : Int))), (x7.add (((a0.getD x6.toNat default).W).mul (a1.getD x6.toNat default))), (x8.add (((a0.getD x6.toNat default).X).mul (a1.getD x6.toNat default))), (x9.add (((a0.getD x6.toNat default).Y).mul (a1.getD x6.toNat default))), (x10.add (((a0.getD x6.toNat default).Z).mul (a1.getD x6.toNat default)))) h (Nat.lt_succ_self k) (Sub.keep [0, 1, 4, 5, 9, 10, 11] [1, 2] (by kernel_rfl) (by kernel_rfl))
  · refine AW.cond_f rfl b11 ?_
    refine AW.exit ?_
    refine thenQ_exit ?_
    refine loopQ_exit ?_
    refine blockQ_exit ?_
    refine thenQ_normal ?_
    refine AW.seq ?_
    obtain ⟨v21, e22, h⟩ := bind_some h
    refine AW.tA ⟨[(4, (vp 1 0))], [(1, (.box [(cF v21.W), (cF v21.X), (cF v21.Y), (cF v21.Z)]))]⟩ (Tt ∧ ((((eF x7) ∧ (eF x8) ∧ (eF x9) ∧ (eF x10) ∧ Tt) ∧ Tt) ∧ CallOK Try.prog 16 [.agg (cs_Turn (Turn.mk x7 x8 x9 x10))] [.agg (cs_Turn v21)]) ∧ Tt ∧ Tt) [.no, .call [.agg (cs_Turn (Turn.mk x7 x8 x9 x10))] [.agg (cs_Turn v21)] [[.view, .view, .view, .view]]] [4] [1] ⟨tr, ⟨⟨⟨rfl, rfl, rfl, rfl, tr⟩, tr⟩, ok_impl_MendTurn K (Turn.mk x7 x8 x9 x10) v21 e22⟩, tr, tr⟩ ?_
    refine AW.ret ?_
    replace h := some_eq h
    subst h
    exact ⟨.inr rfl, retOK_of [(.agg [(cF v21.W), (cF v21.X), (cF v21.Y), (cF v21.Z)])] (by kernel_rfl) ⟨⟨⟨rfl, tr⟩, ⟨rfl, tr⟩, ⟨rfl, tr⟩, ⟨rfl, tr⟩, tr⟩, tr⟩ (of_decide_eq_true (by kernel_rfl))⟩

/-! impl.MixTurns -/
def impl_MixTurns (K : Nat) (a0 : (List Turn)) (a1 : (List F32)) : Option (Turn × Bool) :=
  (ite2 ((decide ((a0.length : Int) < (1 : Int)))) (some true) (ite2 ((decide ((a0.length : Int) > (16 : Int)))) (some true) (some ((a1.length : Int) != (a0.length : Int))))).bind fun j3 => ite2 (j3) (some ((Turn.mk (default : F32) (default : F32) (default : F32) (default : F32)), false)) ((impl_mixTurns K a0 a1).bind fun v6 => some (v6, true))

theorem ok_impl_MixTurns (K : Nat) (a0 : (List Turn)) (a1 : (List F32)) (o : (Turn × Bool)) (h : impl_MixTurns K a0 a1 = some o) : CallOK Try.prog 9 [.one (sl 4 cs_Turn a0), .one (sl 1 (csF .f32) a1)] [.agg (cs_Turn o.1), .one (.bool o.2)] := by
  refine callOK_of_AW Try.func9 rfl (by kernel_rfl) (Nat.le_of_ble_eq_true (by kernel_rfl)) ?_
  intro w0
  unfold impl_MixTurns at h
  refine AW.sA ⟨[(0, (vc (sl 4 cs_Turn a0))), (1, (vc (sl 1 (csF .f32) a1))), (4, (vp 1 0))], [(1, (.box [(cF (default : F32)), (cF (default : F32)), (cF (default : F32)), (cF (default : F32))]))]⟩ (T2 Tt) [.box 1] [0, 1, 4] [1] ⟨tr, tr, tr⟩ ?_
  refine AW.seq ?_
  refine AW.seq ?_
  obtain ⟨j3, e4, h⟩ := bind_some h
  refine AW.join1 (s2 := ⟨[(0, (vc (sl 4 cs_Turn a0))), (1, (vc (sl 1 (csF .f32) a1))), (4, (vp 1 0)), (20, (vB j3))], [(1, (.box [(cF (default : F32)), (cF (default : F32)), (cF (default : F32)), (cF (default : F32))]))]⟩) ?_ ?_
  · rcases ite2_cases e4 with ⟨b1, e4⟩ | ⟨b1, e4⟩
    · replace e4 := some_eq e4
      subst e4
      exact AW.rA ⟨[(0, (vc (sl 4 cs_Turn a0))), (1, (vc (sl 1 (csF .f32) a1))), (4, (vp 1 0)), (20, (vB true))], [(1, (.box [(cF (default : F32)), (cF (default : F32)), (cF (default : F32)), (cF (default : F32))]))]⟩ (Tt ∧ T2 ((Tt ∧ (decide ((a0.length : Int) < (1 : Int))) = true) ∧ Tt ∧ T2 (T4 (T4 Tt)))) [.no, .no, .no, .dec true] [0, 1, 4, 20] [1] ⟨tr, tr, tr, ⟨tr, b1⟩, tr, tr, tr, tr, tr, tr, tr, tr, tr, tr, tr, tr⟩ ⟨rfl, rfl⟩
    · rcases ite2_cases e4 with ⟨b2, e4⟩ | ⟨b2, e4⟩
      · replace e4 := some_eq e4
        subst e4
        exact AW.rA ⟨[(0, (vc (sl 4 cs_Turn a0))), (1, (vc (sl 1 (csF .f32) a1))), (4, (vp 1 0)), (20, (vB true))], [(1, (.box [(cF (default : F32)), (cF (default : F32)), (cF (default : F32)), (cF (default : F32))]))]⟩ (Tt ∧ T2 ((Tt ∧ (decide ((a0.length : Int) < (1 : Int))) = false) ∧ T4 ((Tt ∧ (decide ((a0.length : Int) > (16 : Int))) = true) ∧ T2 (T4 Tt)))) [.no, .no, .no, .dec false, .no, .no, .no, .no, .dec true] [0, 1, 4, 20] [1] ⟨tr, tr, tr, ⟨tr, b1⟩, tr, tr, tr, tr, ⟨tr, b2⟩, tr, tr, tr, tr, tr, tr, tr⟩ ⟨rfl, rfl⟩
      · replace e4 := some_eq e4
        subst e4
        exact AW.rA ⟨[(0, (vc (sl 4 cs_Turn a0))), (1, (vc (sl 1 (csF .f32) a1))), (4, (vp 1 0)), (20, (vB ((a1.length : Int) != (a0.length : Int))))], [(1, (.box [(cF (default : F32)), (cF (default : F32)), (cF (default : F32)), (cF (default : F32))]))]⟩ (Tt ∧ T2 ((Tt ∧ (decide ((a0.length : Int) < (1 : Int))) = false) ∧ T4 ((Tt ∧ (decide ((a0.length : Int) > (16 : Int))) = false) ∧ T2 (T4 Tt)))) [.no, .no, .no, .dec false, .no, .no, .no, .no, .dec false] [0, 1, 4, 20] [1] ⟨tr, tr, tr, ⟨tr, b1⟩, tr, tr, tr, tr, ⟨tr, b2⟩, tr, tr, tr, tr, tr, tr, tr⟩ ⟨rfl, rfl⟩
  refine thenQ_normal ?_
  rcases ite2_cases h with ⟨b5, h⟩ | ⟨b5, h⟩
  · refine AW.cond_t rfl b5 ?_
    refine AW.sA ⟨[(4, (vp 1 0)), (5, (vB false))], [(1, (.box [(cF (default : F32)), (cF (default : F32)), (cF (default : F32)), (cF (default : F32))]))]⟩ (Tt ∧ T2 Tt) [] [4, 5] [1] ⟨tr, tr, tr, tr⟩ ?_
    refine AW.ret ?_
    refine thenQ_ret ?_
    replace h := some_eq h
    subst h
    exact ⟨.inr rfl, retOK_of [(.agg [(cF (default : F32)), (cF (default : F32)), (cF (default : F32)), (cF (default : F32))]), (.one (.c (.bool false)))] (by kernel_rfl) ⟨⟨⟨rfl, tr⟩, ⟨rfl, tr⟩, ⟨rfl, tr⟩, ⟨rfl, tr⟩, tr⟩, ⟨rfl, tr⟩, tr⟩ (of_decide_eq_true (by kernel_rfl))⟩
  · refine AW.cond_f rfl b5 ?_
    refine AW.skip ?_
    refine thenQ_normal ?_
    refine AW.seq ?_
    obtain ⟨v6, e7, h⟩ := bind_some h
    refine AW.tA ⟨[(4, (vp 1 0)), (5, (vB true))], [(1, (.box [(cF v6.W), (cF v6.X), (cF v6.Y), (cF v6.Z)]))]⟩ (T2 ((((Eqc (sl 4 cs_Turn a0)) ∧ (Eqc (sl 1 (csF .f32) a1)) ∧ Tt) ∧ CallOK Try.prog 18 [.one (sl 4 cs_Turn a0), .one (sl 1 (csF .f32) a1)] [.agg (cs_Turn v6)]) ∧ T2 Tt)) [.no, .no, .call [.one (sl 4 cs_Turn a0), .one (sl 1 (csF .f32) a1)] [.agg (cs_Turn v6)] [[.view, .view, .view, .view]]] [4, 5] [1] ⟨tr, tr, ⟨⟨rfl, rfl, tr⟩, ok_impl_mixTurns K a0 a1 v6 e7⟩, tr, tr, tr⟩ ?_
    refine AW.ret ?_
    replace h := some_eq h
    subst h
    exact ⟨.inr rfl, retOK_of [(.agg [(cF v6.W), (cF v6.X), (cF v6.Y), (cF v6.Z)]), (.one (.c (.bool true)))] (by kernel_rfl) ⟨⟨⟨rfl, tr⟩, ⟨rfl, tr⟩, ⟨rfl, tr⟩, ⟨rfl, tr⟩, tr⟩, ⟨rfl, tr⟩, tr⟩ (of_decide_eq_true (by kernel_rfl))⟩

/-! impl.InverseOf -/
def impl_InverseOf (_K : Nat) (a0 : Turn) : Option (Turn) :=
  some (Turn.mk a0.W (a0.X.neg) (a0.Y.neg) (a0.Z.neg))

theorem ok_impl_InverseOf (K : Nat) (a0 : Turn) (o : (Turn)) (h : impl_InverseOf K a0 = some o) : CallOK Try.prog 21 [.agg (cs_Turn a0)] [.agg (cs_Turn o)] := by
  refine callOK_of_AW Try.func21 rfl (by kernel_rfl) (Nat.le_of_ble_eq_true (by kernel_rfl)) ?_
  intro w0
  unfold impl_InverseOf at h
  refine AW.sC (T2 Tt) [.box 1, .box 2] [1, 2] [1, 2] ⟨tr, tr, tr⟩ ?_
  refine AW.sA ⟨[(2, (vp 2 0))], [(2, (.box [(cF a0.W), (cF (a0.X.neg)), (cF (a0.Y.neg)), (cF (a0.Z.neg))]))]⟩ (Tt ∧ T4 (T4 (T4 Tt))) [] [2] [2] ⟨tr, tr, tr, tr, tr, tr, tr, tr, tr, tr, tr, tr, tr, tr⟩ ?_
  refine AW.ret ?_
  replace h := some_eq h
  subst h
  exact ⟨.inr rfl, retOK_of [(.agg [(cF a0.W), (cF (a0.X.neg)), (cF (a0.Y.neg)), (cF (a0.Z.neg))])] (by kernel_rfl) ⟨⟨⟨rfl, tr⟩, ⟨rfl, tr⟩, ⟨rfl, tr⟩, ⟨rfl, tr⟩, tr⟩, tr⟩ (of_decide_eq_true (by kernel_rfl))⟩

/-! impl.MulTurns -/
def impl_MulTurns (_K : Nat) (a0 : Turn) (a1 : Turn) : Option (Turn) :=
  some (Turn.mk ((((a0.W.mul a1.W).sub (a0.X.mul a1.X)).sub (a0.Y.mul a1.Y)).sub (a0.Z.mul a1.Z)) ((((a0.W.mul a1.X).add (a0.X.mul a1.W)).add (a0.Y.mul a1.Z)).sub (a0.Z.mul a1.Y)) ((((a0.W.mul a1.Y).sub (a0.X.mul a1.Z)).add (a0.Y.mul a1.W)).add (a0.Z.mul a1.X)) ((((a0.W.mul a1.Z).add (a0.X.mul a1.Y)).sub (a0.Y.mul a1.X)).add (a0.Z.mul a1.W)))

theorem ok_impl_MulTurns (K : Nat) (a0 : Turn) (a1 : Turn) (o : (Turn)) (h : impl_MulTurns K a0 a1 = some o) : CallOK Try.prog 20 [.agg (cs_Turn a0), .agg (cs_Turn a1)] [.agg (cs_Turn o)] := by
  refine callOK_of_AW Try.func20 rfl (by kernel_rfl) (Nat.le_of_ble_eq_true (by kernel_rfl)) ?_
  intro w0
  unfold impl_MulTurns at h
  refine AW.sC (Tt ∧ T2 Tt) [.box 1, .box 2, .box 3] [2, 3, 4] [1, 2, 3] ⟨tr, tr, tr, tr⟩ ?_
  refine AW.sA ⟨[(4, (vp 3 0))], [(3, (.box [(cF ((((a0.W.mul a1.W).sub (a0.X.mul a1.X)).sub (a0.Y.mul a1.Y)).sub (a0.Z.mul a1.Z))), (cF ((((a0.W.mul a1.X).add (a0.X.mul a1.W)).add (a0.Y.mul a1.Z)).sub (a0.Z.mul a1.Y))), (cF ((((a0.W.mul a1.Y).sub (a0.X.mul a1.Z)).add (a0.Y.mul a1.W)).add (a0.Z.mul a1.X))), (cF ((((a0.W.mul a1.Z).add (a0.X.mul a1.Y)).sub (a0.Y.mul a1.X)).add (a0.Z.mul a1.W)))]))]⟩ (T2 (T4 (T4 (T4 (T4 (T4 (T4 (T4 (T4 (T4 (T4 (T4 (T4 (T4 (T4 (T4 (T4 (T4 (T4 (T4 (T4 (T4 (T4 (T4 Tt)))))))))))))))))))))))) [] [4] [3] ⟨tr, tr, tr, tr, tr, tr, tr, tr, tr, tr, tr, tr, tr, tr, tr, tr, tr, tr, tr, tr, tr, tr, tr, tr, tr, tr, tr, tr, tr, tr, tr, tr, tr, tr, tr, tr, tr, tr, tr, tr, tr, tr, tr, tr, tr, tr, tr, tr, tr, tr, tr, tr, tr, tr, tr, tr, tr, tr, tr, tr, tr, tr, tr, tr, tr, tr, tr, tr, tr, tr, tr, tr, tr, tr, tr, tr, tr, tr, tr, tr, tr, tr, tr, tr, tr, tr, tr, tr, tr, tr, tr, tr, tr, tr, tr⟩ ?_
  refine AW.ret ?_
  replace h := some_eq h
  subst h
  exact ⟨.inr rfl, retOK_of [(.agg [(cF ((((a0.W.mul a1.W).sub (a0.X.mul a1.X)).sub (a0.Y.mul a1.Y)).sub (a0.Z.mul a1.Z))), (cF ((((a0.W.mul a1.X).add (a0.X.mul a1.W)).add (a0.Y.mul a1.Z)).sub (a0.Z.mul a1.Y))), (cF ((((a0.W.mul a1.Y).sub (a0.X.mul a1.Z)).add (a0.Y.mul a1.W)).add (a0.Z.mul a1.X))), (cF ((((a0.W.mul a1.Z).add (a0.X.mul a1.Y)).sub (a0.Y.mul a1.X)).add (a0.Z.mul a1.W)))])] (by kernel_rfl) ⟨⟨⟨rfl, tr⟩, ⟨rfl, tr⟩, ⟨rfl, tr⟩, ⟨rfl, tr⟩, tr⟩, tr⟩ (of_decide_eq_true (by kernel_rfl))⟩

/-! (impl.Turn).vector -/
def impl_Turn_vector (_K : Nat) (a0 : Turn) : Option (Vector) :=
  some (Vector.mk a0.X a0.Y a0.Z)

theorem ok_impl_Turn_vector (K : Nat) (a0 : Turn) (o : (Vector)) (h : impl_Turn_vector K a0 = some o) : CallOK Try.prog 31 [.agg (cs_Turn a0)] [.agg (cs_Vector o)] := by
  refine callOK_of_AW Try.func31 rfl (by kernel_rfl) (Nat.le_of_ble_eq_true (by kernel_rfl)) ?_
  intro w0
  unfold impl_Turn_vector at h
  refine AW.sC (T2 Tt) [.box 1, .box 2] [1, 2] [1, 2] ⟨tr, tr, tr⟩ ?_
  refine AW.sA ⟨[(2, (vp 2 0))], [(2, (.box [(cF a0.X), (cF a0.Y), (cF a0.Z)]))]⟩ (T4 (T4 Tt)) [] [2] [2] ⟨tr, tr, tr, tr, tr, tr, tr, tr, tr⟩ ?_
  refine AW.ret ?_
  replace h := some_eq h
  subst h
  exact ⟨.inr rfl, retOK_of [(.agg [(cF a0.X), (cF a0.Y), (cF a0.Z)])] (by kernel_rfl) ⟨⟨⟨rfl, tr⟩, ⟨rfl, tr⟩, ⟨rfl, tr⟩, tr⟩, tr⟩ (of_decide_eq_true (by kernel_rfl))⟩

/-! impl.InnerOf -/
def impl_InnerOf (_K : Nat) (a0 : Vector) (a1 : Vector) : Option (F32) :=
  some (((a0.X.mul a1.X).add (a0.Y.mul a1.Y)).add (a0.Z.mul a1.Z))

theorem ok_impl_InnerOf (K : Nat) (a0 : Vector) (a1 : Vector) (o : (F32)) (h : impl_InnerOf K a0 a1 = some o) : CallOK Try.prog 42 [.agg (cs_Vector a0), .agg (cs_Vector a1)] [.one (.flt .f32 o.bits)] := by
  refine callOK_of_AW Try.func42 rfl (by kernel_rfl) (Nat.le_of_ble_eq_true (by kernel_rfl)) ?_
  intro w0
  unfold impl_InnerOf at h
  refine AW.sC (Tt ∧ T2 Tt) [.box 1, .box 2] [2, 3] [1, 2] ⟨tr, tr, tr, tr⟩ ?_
  refine AW.sA ⟨[(4, (vc (.flt .f32 (((a0.X.mul a1.X).add (a0.Y.mul a1.Y)).add (a0.Z.mul a1.Z)).bits)))], []⟩ (T2 (T4 (T4 (T4 (T4 Tt))))) [] [4] [] ⟨tr, tr, tr, tr, tr, tr, tr, tr, tr, tr, tr, tr, tr, tr, tr, tr, tr, tr, tr⟩ ?_
  refine AW.ret ?_
  replace h := some_eq h
  subst h
  exact ⟨.inr rfl, retOK_of [(.one (cF (((a0.X.mul a1.X).add (a0.Y.mul a1.Y)).add (a0.Z.mul a1.Z))))] (by kernel_rfl) ⟨⟨rfl, tr⟩, tr⟩ (of_decide_eq_true (by kernel_rfl))⟩

/-! impl.LongOf -/
def impl_LongOf (K : Nat) (a0 : Vector) : Option (F32) :=
  (impl_InnerOf K a0 a0).bind fun v1 => (impl_RootNumber K v1).bind fun v3 => some v3

theorem ok_impl_LongOf (K : Nat) (a0 : Vector) (o : (F32)) (h : impl_LongOf K a0 = some o) : CallOK Try.prog 30 [.agg (cs_Vector a0)] [.one (.flt .f32 o.bits)] := by
  refine callOK_of_AW Try.func30 rfl (by kernel_rfl) (Nat.le_of_ble_eq_true (by kernel_rfl)) ?_
  intro w0
  unfold impl_LongOf at h
  refine AW.sC (T2 Tt) [.box 1] [1] [1] ⟨tr, tr, tr⟩ ?_
  refine AW.seq ?_
  obtain ⟨v1, e2, h⟩ := bind_some h
  obtain ⟨v3, e4, h⟩ := bind_some h
  refine AW.tA ⟨[(2, (vc (.flt .f32 v3.bits)))], []⟩ (T2 (((((eF a0.X) ∧ (eF a0.Y) ∧ (eF a0.Z) ∧ Tt) ∧ ((eF a0.X) ∧ (eF a0.Y) ∧ (eF a0.Z) ∧ Tt) ∧ Tt) ∧ CallOK Try.prog 42 [.agg (cs_Vector a0), .agg (cs_Vector a0)] [.one (.flt .f32 v1.bits)]) ∧ (((eF v1) ∧ Tt) ∧ CallOK Try.prog 38 [.one (.flt .f32 v1.bits)] [.one (.flt .f32 v3.bits)]) ∧ Tt ∧ Tt)) [.no, .no, .call [.agg (cs_Vector a0), .agg (cs_Vector a0)] [.one (.flt .f32 v1.bits)] [[.view]], .call [.one (.flt .f32 v1.bits)] [.one (.flt .f32 v3.bits)] [[.view]]] [2] [] ⟨tr, tr, ⟨⟨⟨rfl, rfl, rfl, tr⟩, ⟨rfl, rfl, rfl, tr⟩, tr⟩, ok_impl_InnerOf K a0 a0 v1 e2⟩, ⟨⟨rfl, tr⟩, ok_impl_RootNumber K v1 v3 e4⟩, tr, tr⟩ ?_
  refine AW.ret ?_
  replace h := some_eq h
  subst h
  exact ⟨.inr rfl, retOK_of [(.one (cF v3))] (by kernel_rfl) ⟨⟨rfl, tr⟩, tr⟩ (of_decide_eq_true (by kernel_rfl))⟩

/-! math.Float64frombits -/
def math_Float64frombits (_K : Nat) (a0 : Int) : Option (F64) :=
  Fl.ofBits .f64 a0

theorem ok_math_Float64frombits (K : Nat) (a0 : Int) (o : F64) (h : math_Float64frombits K a0 = some o) : CallOK Try.prog 48 [.one (.int .u64 a0)] [.one (.flt .f64 o.bits)] :=
  hand_ofBits (e := Extern.MathFloatBits.float64frombits) Try.func48 (by kernel_rfl) (by kernel_rfl) (by kernel_rfl) (by kernel_rfl) (fun _ _ => rfl) a0 o h

/-! math.Abs -/
def math_Abs (_K : Nat) (a0 : F64) : Option (F64) :=
  some a0.abs

theorem ok_math_Abs (K : Nat) (a0 : F64) (o : F64) (h : math_Abs K a0 = some o) : CallOK Try.prog 43 [.one (.flt .f64 a0.bits)] [.one (.flt .f64 o.bits)] := by
  refine callOK_of_AW Try.func43 rfl (by kernel_rfl) (Nat.le_of_ble_eq_true (by kernel_rfl)) ?_
  intro w0
  replace h := some_eq h
  subst h
  refine AW.sA ⟨[(0, (vc (.flt .f64 a0.bits)))], []⟩ (Tt ∧ Tt) [] [0] [] ⟨tr, tr⟩ ?_
  refine AW.seq ?_
  refine AW.rawA (i := .u64) (f := 49) (d := 4) (k := .f64) (c := a0.bits) (s1 := ⟨[(3, (vc (.flt .f64 a0.bits))), (0, (vc (.flt .f64 a0.bits)))], []⟩) (ob := Tt ∧ Tt) 1 [.no] (by kernel_rfl) ⟨tr, tr⟩ (e := Extern.MathFloatBits.float64bits) Try.func49 (by kernel_rfl) (by kernel_rfl) (by kernel_rfl) (by kernel_rfl) (fun _ _ => rfl) ?_
  intro b hb hc
  refine ⟨[.no, .call [.one (.int .u64 (bits .andNot .u64 (b : Int) (9223372036854775808 : Int)))] [.one (.flt .f64 a0.abs.bits)] [[.view]]], ⟨[(2, (vc (.flt .f64 a0.abs.bits))), (6, (vc (.flt .f64 a0.abs.bits))), (5, (vc (.int .u64 (bits .andNot .u64 (b : Int) (9223372036854775808 : Int))))), (4, (vc (.int .u64 (b : Int)))), (3, (vc (.flt .f64 a0.bits))), (0, (vc (.flt .f64 a0.bits)))], []⟩, Tt ∧ (((Eqc (.int .u64 (bits .andNot .u64 (b : Int) (9223372036854775808 : Int)))) ∧ Tt) ∧ CallOK Try.prog 48 [.one (.int .u64 (bits .andNot .u64 (b : Int) (9223372036854775808 : Int)))] [.one (.flt .f64 a0.abs.bits)]) ∧ Tt ∧ Tt, by kernel_rfl, ⟨tr, ⟨⟨rfl, tr⟩, ?_⟩, tr, tr⟩, ?_⟩
  · exact ok_math_Float64frombits K _ a0.abs (by rw [andNot_sign hb]; exact ofBits_abs hb a0 hc)
  · refine thenQ_normal ?_
    refine AW.ret ?_
    exact ⟨.inr rfl, retOK_of [(.one (.c (.flt .f64 a0.abs.bits)))] (by kernel_rfl) ⟨⟨rfl, tr⟩, tr⟩ (of_decide_eq_true (by kernel_rfl))⟩

/-! impl.size -/
def impl_size (K : Nat) (a0 : F32) : Option (F32) :=
  (math_Abs K (Fl.cv .f32 .f64 a0)).bind fun v1 => chk ((convBits .f64 v1.bits .f32).isSome = true) (some (Fl.cv .f64 .f32 v1))

theorem ok_impl_size (K : Nat) (a0 : F32) (o : (F32)) (h : impl_size K a0 = some o) : CallOK Try.prog 32 [.one (.flt .f32 a0.bits)] [.one (.flt .f32 o.bits)] := by
  refine callOK_of_AW Try.func32 rfl (by kernel_rfl) (Nat.le_of_ble_eq_true (by kernel_rfl)) ?_
  intro w0
  unfold impl_size at h
  refine AW.sC (Tt ∧ Tt) [] [0] [] ⟨tr, tr⟩ ?_
  refine AW.seq ?_
  obtain ⟨v1, e2, h⟩ := bind_some h
  obtain ⟨c3, h⟩ := chk_some h
  refine AW.tA ⟨[(2, (vc (.flt .f32 (Fl.cv .f64 .f32 v1).bits)))], []⟩ (Tt ∧ ((convBits .f32 a0.bits .f64).isSome = true) ∧ (((Eqc (.flt .f64 (Fl.cv .f32 .f64 a0).bits)) ∧ Tt) ∧ CallOK Try.prog 43 [.one (.flt .f64 (Fl.cv .f32 .f64 a0).bits)] [.one (.flt .f64 v1.bits)]) ∧ ((convBits .f64 v1.bits .f32).isSome = true) ∧ Tt ∧ Tt) [.no, .no, .call [.one (.flt .f64 (Fl.cv .f32 .f64 a0).bits)] [.one (.flt .f64 v1.bits)] [[.view]]] [2] [] ⟨tr, cv_wide a0, ⟨⟨rfl, tr⟩, ok_math_Abs K (Fl.cv .f32 .f64 a0) v1 e2⟩, c3, tr, tr⟩ ?_
  refine AW.ret ?_
  replace h := some_eq h
  subst h
  exact ⟨.inr rfl, retOK_of [(.one (cF (Fl.cv .f64 .f32 v1)))] (by kernel_rfl) ⟨⟨rfl, tr⟩, tr⟩ (of_decide_eq_true (by kernel_rfl))⟩

/-! math.NaN -/
def math_NaN (K : Nat) : Option (F64) :=
  (math_Float64frombits K (9221120237041090561 : Int)).bind fun v1 => some v1

theorem ok_math_NaN (K : Nat) (o : (F64)) (h : math_NaN K  = some o) : CallOK Try.prog 47 [] [.one (.flt .f64 o.bits)] := by
  refine callOK_of_AW Try.func47 rfl (by kernel_rfl) (Nat.le_of_ble_eq_true (by kernel_rfl)) ?_
  intro w0
  unfold math_NaN at h
  refine AW.sC (Tt ∧ Tt) [] [] [] ⟨tr, tr⟩ ?_
  refine AW.seq ?_
  obtain ⟨v1, e2, h⟩ := bind_some h
  refine AW.tA ⟨[(0, (vc (.flt .f64 v1.bits)))], []⟩ ((((Eqc (.int .u64 (9221120237041090561 : Int))) ∧ Tt) ∧ CallOK Try.prog 48 [.one (.int .u64 (9221120237041090561 : Int))] [.one (.flt .f64 v1.bits)]) ∧ Tt ∧ Tt) [.call [.one (.int .u64 (9221120237041090561 : Int))] [.one (.flt .f64 v1.bits)] [[.view]]] [0] [] ⟨⟨⟨rfl, tr⟩, ok_math_Float64frombits K (9221120237041090561 : Int) v1 e2⟩, tr, tr⟩ ?_
  refine AW.ret ?_
  replace h := some_eq h
  subst h
  exact ⟨.inr rfl, retOK_of [(.one (.c (.flt .f64 v1.bits)))] (by kernel_rfl) ⟨⟨rfl, tr⟩, tr⟩ (of_decide_eq_true (by kernel_rfl))⟩

/-! impl.notNumber -/
def impl_notNumber (K : Nat) : Option (F32) :=
  (math_NaN K ).bind fun v1 => chk ((convBits .f64 v1.bits .f32).isSome = true) (some (Fl.cv .f64 .f32 v1))

theorem ok_impl_notNumber (K : Nat) (o : (F32)) (h : impl_notNumber K  = some o) : CallOK Try.prog 40 [] [.one (.flt .f32 o.bits)] := by
  refine callOK_of_AW Try.func40 rfl (by kernel_rfl) (Nat.le_of_ble_eq_true (by kernel_rfl)) ?_
  intro w0
  unfold impl_notNumber at h
  refine AW.sC (Tt ∧ Tt) [] [] [] ⟨tr, tr⟩ ?_
  refine AW.seq ?_
  obtain ⟨v1, e2, h⟩ := bind_some h
  obtain ⟨c3, h⟩ := chk_some h
  refine AW.tA ⟨[(0, (vc (.flt .f32 (Fl.cv .f64 .f32 v1).bits)))], []⟩ (((Tt) ∧ CallOK Try.prog 47 [] [.one (.flt .f64 v1.bits)]) ∧ ((convBits .f64 v1.bits .f32).isSome = true) ∧ Tt ∧ Tt) [.call [] [.one (.flt .f64 v1.bits)] [[.view]]] [0] [] ⟨⟨tr, ok_math_NaN K v1 e2⟩, c3, tr, tr⟩ ?_
  refine AW.ret ?_
  replace h := some_eq h
  subst h
  exact ⟨.inr rfl, retOK_of [(.one (cF (Fl.cv .f64 .f32 v1)))] (by kernel_rfl) ⟨⟨rfl, tr⟩, tr⟩ (of_decide_eq_true (by kernel_rfl))⟩

/-! impl.wideAngle -/
def impl_wideAngle_l2 (K : Nat) (a0 : F64) (a1 : F64) (v1 : (F64)) (v3 : (F64)) (x8 : F64) : Nat → F64 → Int → Option (F64)
  | 0, _, _ => none
  | k + 1, x15, x16 => ite2 ((decide (x16 ≥ (1 : Int)))) (impl_wideAngle_l2 K a0 a1 v1 v3 x8 k (((Fl.mk (k := .f64) 4607182418800017408 (by decide)).div (Fl.ofInt .f64 x16)).sub ((x8.mul x8).mul x15)) (IntKind.i64.wrap (x16 - (2 : Int)))) (ite2 ((v1.gt v3)) (ite2 ((a1.lt' (Fl.mk (k := .f64) 0 (by decide)))) (ite2 ((a0.lt' (Fl.mk (k := .f64) 0 (by decide)))) (some (((Fl.mk (k := .f64) 4602678819172646912 (by decide)).sub ((Fl.mk (k := .f64) 4598175219545276416 (by decide)).sub (((Fl.mk (k := .f64) 4620693217682128896 (by decide)).mul (x8.mul x15)).div (Fl.mk (k := .f64) 4618760256179416344 (by decide))))).neg)) (some ((Fl.mk (k := .f64) 4602678819172646912 (by decide)).sub ((Fl.mk (k := .f64) 4598175219545276416 (by decide)).sub (((Fl.mk (k := .f64) 4620693217682128896 (by decide)).mul (x8.mul x15)).div (Fl.mk (k := .f64) 4618760256179416344 (by decide))))))) (ite2 ((a0.lt' (Fl.mk (k := .f64) 0 (by decide)))) (some (((Fl.mk (k := .f64) 4598175219545276416 (by decide)).sub (((Fl.mk (k := .f64) 4620693217682128896 (by decide)).mul (x8.mul x15)).div (Fl.mk (k := .f64) 4618760256179416344 (by decide)))).neg)) (some ((Fl.mk (k := .f64) 4598175219545276416 (by decide)).sub (((Fl.mk (k := .f64) 4620693217682128896 (by decide)).mul (x8.mul x15)).div (Fl.mk (k := .f64) 4618760256179416344 (by decide))))))) (ite2 ((a1.lt' (Fl.mk (k := .f64) 0 (by decide)))) (ite2 ((a0.lt' (Fl.mk (k := .f64) 0 (by decide)))) (some (((Fl.mk (k := .f64) 4602678819172646912 (by decide)).sub (((Fl.mk (k := .f64) 4620693217682128896 (by decide)).mul (x8.mul x15)).div (Fl.mk (k := .f64) 4618760256179416344 (by decide)))).neg)) (some ((Fl.mk (k := .f64) 4602678819172646912 (by decide)).sub (((Fl.mk (k := .f64) 4620693217682128896 (by decide)).mul (x8.mul x15)).div (Fl.mk (k := .f64) 4618760256179416344 (by decide)))))) (ite2 ((a0.lt' (Fl.mk (k := .f64) 0 (by decide)))) (some ((((Fl.mk (k := .f64) 4620693217682128896 (by decide)).mul (x8.mul x15)).div (Fl.mk (k := .f64) 4618760256179416344 (by decide))).neg)) (some (((Fl.mk (k := .f64) 4620693217682128896 (by decide)).mul (x8.mul x15)).div (Fl.mk (k := .f64) 4618760256179416344 (by decide)))))))

def impl_wideAngle_l1 (K : Nat) (a0 : F64) (a1 : F64) (v1 : (F64)) (v3 : (F64)) : Nat → F64 → Int → Option (F64)
  | 0, _, _ => none
  | k + 1, x8, x9 => ite2 ((decide (x9 < (3 : Int)))) ((math_Sqrt K ((Fl.mk (k := .f64) 4607182418800017408 (by decide)).add (x8.mul x8))).bind fun v11 => impl_wideAngle_l1 K a0 a1 v1 v3 k (x8.div ((Fl.mk (k := .f64) 4607182418800017408 (by decide)).add v11)) (IntKind.i64.wrap (x9 + (1 : Int)))) (impl_wideAngle_l2 K a0 a1 v1 v3 x8 K (Fl.mk (k := .f64) 0 (by decide)) (15 : Int))

def impl_wideAngle_l4 (K : Nat) (a0 : F64) (a1 : F64) (v1 : (F64)) (v3 : (F64)) (x27 : F64) : Nat → F64 → Int → Option (F64)
  | 0, _, _ => none
  | k + 1, x34, x35 => ite2 ((decide (x35 ≥ (1 : Int)))) (impl_wideAngle_l4 K a0 a1 v1 v3 x27 k (((Fl.mk (k := .f64) 4607182418800017408 (by decide)).div (Fl.ofInt .f64 x35)).sub ((x27.mul x27).mul x34)) (IntKind.i64.wrap (x35 - (2 : Int)))) (ite2 ((v1.gt v3)) (ite2 ((a1.lt' (Fl.mk (k := .f64) 0 (by decide)))) (ite2 ((a0.lt' (Fl.mk (k := .f64) 0 (by decide)))) (some (((Fl.mk (k := .f64) 4602678819172646912 (by decide)).sub ((Fl.mk (k := .f64) 4598175219545276416 (by decide)).sub (((Fl.mk (k := .f64) 4620693217682128896 (by decide)).mul (x27.mul x34)).div (Fl.mk (k := .f64) 4618760256179416344 (by decide))))).neg)) (some ((Fl.mk (k := .f64) 4602678819172646912 (by decide)).sub ((Fl.mk (k := .f64) 4598175219545276416 (by decide)).sub (((Fl.mk (k := .f64) 4620693217682128896 (by decide)).mul (x27.mul x34)).div (Fl.mk (k := .f64) 4618760256179416344 (by decide))))))) (ite2 ((a0.lt' (Fl.mk (k := .f64) 0 (by decide)))) (some (((Fl.mk (k := .f64) 4598175219545276416 (by decide)).sub (((Fl.mk (k := .f64) 4620693217682128896 (by decide)).mul (x27.mul x34)).div (Fl.mk (k := .f64) 4618760256179416344 (by decide)))).neg)) (some ((Fl.mk (k := .f64) 4598175219545276416 (by decide)).sub (((Fl.mk (k := .f64) 4620693217682128896 (by decide)).mul (x27.mul x34)).div (Fl.mk (k := .f64) 4618760256179416344 (by decide))))))) (ite2 ((a1.lt' (Fl.mk (k := .f64) 0 (by decide)))) (ite2 ((a0.lt' (Fl.mk (k := .f64) 0 (by decide)))) (some (((Fl.mk (k := .f64) 4602678819172646912 (by decide)).sub (((Fl.mk (k := .f64) 4620693217682128896 (by decide)).mul (x27.mul x34)).div (Fl.mk (k := .f64) 4618760256179416344 (by decide)))).neg)) (some ((Fl.mk (k := .f64) 4602678819172646912 (by decide)).sub (((Fl.mk (k := .f64) 4620693217682128896 (by decide)).mul (x27.mul x34)).div (Fl.mk (k := .f64) 4618760256179416344 (by decide)))))) (ite2 ((a0.lt' (Fl.mk (k := .f64) 0 (by decide)))) (some ((((Fl.mk (k := .f64) 4620693217682128896 (by decide)).mul (x27.mul x34)).div (Fl.mk (k := .f64) 4618760256179416344 (by decide))).neg)) (some (((Fl.mk (k := .f64) 4620693217682128896 (by decide)).mul (x27.mul x34)).div (Fl.mk (k := .f64) 4618760256179416344 (by decide)))))))

def impl_wideAngle_l3 (K : Nat) (a0 : F64) (a1 : F64) (v1 : (F64)) (v3 : (F64)) : Nat → F64 → Int → Option (F64)
  | 0, _, _ => none
  | k + 1, x27, x28 => ite2 ((decide (x28 < (3 : Int)))) ((math_Sqrt K ((Fl.mk (k := .f64) 4607182418800017408 (by decide)).add (x27.mul x27))).bind fun v30 => impl_wideAngle_l3 K a0 a1 v1 v3 k (x27.div ((Fl.mk (k := .f64) 4607182418800017408 (by decide)).add v30)) (IntKind.i64.wrap (x28 + (1 : Int)))) (impl_wideAngle_l4 K a0 a1 v1 v3 x27 K (Fl.mk (k := .f64) 0 (by decide)) (15 : Int))

def impl_wideAngle (K : Nat) (a0 : F64) (a1 : F64) : Option (F64) :=
  (math_Abs K a0).bind fun v1 => (math_Abs K a1).bind fun v3 => ite2 ((v1.gt v3)) (impl_wideAngle_l1 K a0 a1 v1 v3 K (v3.div v1) (0 : Int)) (impl_wideAngle_l3 K a0 a1 v1 v3 K (v1.div v3) (0 : Int))

theorem ok_impl_wideAngle (K : Nat) (a0 : F64) (a1 : F64) (o : (F64)) (h : impl_wideAngle K a0 a1 = some o) : CallOK Try.prog 41 [.one (.flt .f64 a0.bits), .one (.flt .f64 a1.bits)] [.one (.flt .f64 o.bits)] := by
  refine callOK_of_AW Try.func41 rfl (by kernel_rfl) (Nat.le_of_ble_eq_true (by kernel_rfl)) ?_
  intro w0
  unfold impl_wideAngle at h
  refine AW.sC (Tt ∧ Tt) [] [0, 1] [] ⟨tr, tr⟩ ?_
  refine AW.seq ?_
  obtain ⟨v1, e2, h⟩ := bind_some h
  obtain ⟨v3, e4, h⟩ := bind_some h
  refine AW.tC (Tt ∧ (((Eqc (.flt .f64 a0.bits)) ∧ Tt) ∧ CallOK Try.prog 43 [.one (.flt .f64 a0.bits)] [.one (.flt .f64 v1.bits)]) ∧ Tt ∧ (((Eqc (.flt .f64 a1.bits)) ∧ Tt) ∧ CallOK Try.prog 43 [.one (.flt .f64 a1.bits)] [.one (.flt .f64 v3.bits)]) ∧ T2 Tt) [.no, .call [.one (.flt .f64 a0.bits)] [.one (.flt .f64 v1.bits)] [[.view]], .no, .call [.one (.flt .f64 a1.bits)] [.one (.flt .f64 v3.bits)] [[.view]]] [0, 1, 5, 6] [] ⟨tr, ⟨⟨rfl, tr⟩, ok_math_Abs K a0 v1 e2⟩, tr, ⟨⟨rfl, tr⟩, ok_math_Abs K a1 v3 e4⟩, tr, tr, tr⟩ ?_
  refine AW.sC (T4 Tt) [] [0, 1, 5, 6, 7] [] ⟨tr, tr, tr, tr, tr⟩ ?_
  refine AW.seq ?_
  refine AW.sA ⟨[(0, (vc (.flt .f64 a0.bits))), (1, (vc (.flt .f64 a1.bits))), (5, (vc (.flt .f64 v1.bits))), (6, (vc (.flt .f64 v3.bits))), (7, (vc (.flt .f64 (v1.div v3).bits))), (21, (vB (v1.gt v3)))], []⟩ (Tt ∧ T2 Tt) [] [0, 1, 5, 6, 7, 21] [] ⟨tr, tr, tr, tr⟩ ?_
  rcases ite2_cases h with ⟨b5, h⟩ | ⟨b5, h⟩
  · refine AW.cond_t rfl b5 ?_
    refine AW.tC (T4 Tt) [] [0, 1, 5, 6, 7] [] ⟨tr, tr, tr, tr, tr⟩ ?_
    refine AW.seq ?_
    refine AW.sA ⟨[(0, (vc (.flt .f64 a0.bits))), (1, (vc (.flt .f64 a1.bits))), (5, (vc (.flt .f64 v1.bits))), (6, (vc (.flt .f64 v3.bits))), (7, (vc (.flt .f64 (v3.div v1).bits))), (25, (vI (0 : Int)))], []⟩ (Tt ∧ Tt) [] [0, 1, 5, 6, 7, 25] [] ⟨tr, tr⟩ ?_
    refine AW.block ?_
    refine AW.loopQ (σ := Nat × F64 × Int) (fun p => ⟨[(0, (vc (.flt .f64 a0.bits))), (1, (vc (.flt .f64 a1.bits))), (5, (vc (.flt .f64 v1.bits))), (6, (vc (.flt .f64 v3.bits))), (7, (vc (.flt .f64 p.2.1.bits))), (25, (vI p.2.2))], []⟩) (fun p => impl_wideAngle_l1 K a0 a1 v1 v3 p.1 p.2.1 p.2.2 = some o) (fun p => p.1) (K, (v3.div v1), (0 : Int)) h ?_
    clear h
    rintro ⟨k, x8, x9⟩ h
    replace h : impl_wideAngle_l1 K a0 a1 v1 v3 k x8 x9 = some o := h
    show AW _ _ (⟨[(0, (vc (.flt .f64 a0.bits))), (1, (vc (.flt .f64 a1.bits))), (5, (vc (.flt .f64 v1.bits))), (6, (vc (.flt .f64 v3.bits))), (7, (vc (.flt .f64 x8.bits))), (25, (vI x9))], []⟩ : St) _
    obtain _ | k := k
    · rw [impl_wideAngle_l1] at h; cases h
    rw [impl_wideAngle_l1] at h
    refine AW.sA ⟨[(0, (vc (.flt .f64 a0.bits))), (1, (vc (.flt .f64 a1.bits))), (5, (vc (.flt .f64 v1.bits))), (6, (vc (.flt .f64 v3.bits))), (7, (vc (.flt .f64 x8.bits))), (25, (vI x9)), (26, (vB (decide (x9 < (3 : Int)))))], []⟩ (Tt ∧ Tt) [] [0, 1, 5, 6, 7, 25, 26] [] ⟨tr, tr⟩ ?_
    refine AW.seq ?_
    rcases ite2_cases h with ⟨b10, h⟩ | ⟨b10, h⟩
    · refine AW.cond_t rfl b10 ?_
      refine AW.skip ?_
      refine thenQ_normal ?_
      refine AW.seq ?_
      refine AW.block ?_
      obtain ⟨v11, e12, h⟩ := bind_some h
      refine AW.rA ⟨[(0, (vc (.flt .f64 a0.bits))), (1, (vc (.flt .f64 a1.bits))), (5, (vc (.flt .f64 v1.bits))), (6, (vc (.flt .f64 v3.bits))), (7, (vc (.flt .f64 (x8.div ((Fl.mk (k := .f64) 4607182418800017408 (by decide)).add v11)).bits))), (25, (vI x9))], []⟩ (Tt ∧ T4 ((((Eqc (.flt .f64 ((Fl.mk (k := .f64) 4607182418800017408 (by decide)).add (x8.mul x8)).bits)) ∧ Tt) ∧ CallOK Try.prog 46 [.one (.flt .f64 ((Fl.mk (k := .f64) 4607182418800017408 (by decide)).add (x8.mul x8)).bits)] [.one (.flt .f64 v11.bits)]) ∧ Tt ∧ T2 Tt)) [.no, .no, .no, .no, .no, .call [.one (.flt .f64 ((Fl.mk (k := .f64) 4607182418800017408 (by decide)).add (x8.mul x8)).bits)] [.one (.flt .f64 v11.bits)] [[.view]]] [0, 1, 5, 6, 7, 25] [] ⟨tr, tr, tr, tr, tr, ⟨⟨rfl, tr⟩, ok_math_Sqrt K ((Fl.mk (k := .f64) 4607182418800017408 (by decide)).add (x8.mul x8)) v11 e12⟩, tr, tr, tr, tr⟩ ?_
      refine blockQ_normal ?_
      refine thenQ_normal ?_
      refine AW.rA ⟨[(0, (vc (.flt .f64 a0.bits))), (1, (vc (.flt .f64 a1.bits))), (5, (vc (.flt .f64 v1.bits))), (6, (vc (.flt .f64 v3.bits))), (7, (vc (.flt .f64 (x8.div ((Fl.mk (k := .f64) 4607182418800017408 (by decide)).add v11)).bits))), (25, (vI (IntKind.i64.wrap (x9 + (1 : Int)))))], []⟩ (T2 Tt) [] [0, 1, 5, 6, 7, 25] [] ⟨tr, tr, tr⟩ ?_
      exact loopQ_normal (k, (x8.div ((Fl.mk (k := .f64) 4607182418800017408 (by decide)).add v11)), (IntKind.i64.wrap (x9 + (1 : Int)))) h (Nat.lt_succ_self k) (Sub.keep [0, 1, 5, 6, 7, 25] [] (by kernel_rfl) (by kernel_rfl))
    · refine AW.cond_f rfl b10 ?_
      refine AW.exit ?_
      refine thenQ_exit ?_
      refine loopQ_exit ?_
      refine blockQ_exit ?_
      refine thenQ_normal ?_
      refine AW.sC (T4 Tt) [] [0, 1, 5, 6, 7, 8] [] ⟨tr, tr, tr, tr, tr⟩ ?_
      refine AW.sC (Tt ∧ Tt) [] [0, 1, 5, 6, 7, 8, 9] [] ⟨tr, tr⟩ ?_
      refine AW.seq ?_
      refine AW.sA ⟨[(0, (vc (.flt .f64 a0.bits))), (1, (vc (.flt .f64 a1.bits))), (5, (vc (.flt .f64 v1.bits))), (6, (vc (.flt .f64 v3.bits))), (7, (vc (.flt .f64 x8.bits))), (8, (vc (.flt .f64 (x8.mul x8).bits))), (9, (vc (.flt .f64 (Fl.mk (k := .f64) 0 (by decide)).bits))), (10, (vI (15 : Int)))], []⟩ (Tt ∧ Tt) [] [0, 1, 5, 6, 7, 8, 9, 10] [] ⟨tr, tr⟩ ?_
      refine AW.block ?_
      refine AW.loopQ (σ := Nat × F64 × Int) (fun p => ⟨[(0, (vc (.flt .f64 a0.bits))), (1, (vc (.flt .f64 a1.bits))), (5, (vc (.flt .f64 v1.bits))), (6, (vc (.flt .f64 v3.bits))), (7, (vc (.flt .f64 x8.bits))), (8, (vc (.flt .f64 (x8.mul x8).bits))), (9, (vc (.flt .f64 p.2.1.bits))), (10, (vI p.2.2))], []⟩) (fun p => impl_wideAngle_l2 K a0 a1 v1 v3 x8 p.1 p.2.1 p.2.2 = some o) (fun p => p.1) (K, (Fl.mk (k := .f64) 0 (by decide)), (15 : Int)) h ?_
      clear h
      rintro ⟨k, x15, x16⟩ h
      replace h : impl_wideAngle_l2 K a0 a1 v1 v3 x8 k x15 x16 = some o := h
      show AW _ _ (⟨[(0, (vc (.flt .f64 a0.bits))), (1, (vc (.flt .f64 a1.bits))), (5, (vc (.flt .f64 v1.bits))), (6, (vc (.flt .f64 v3.bits))), (7, (vc (.flt .f64 x8.bits))), (8, (vc (.flt .f64 (x8.mul x8).bits))), (9, (vc (.flt .f64 x15.bits))), (10, (vI x16))], []⟩ : St) _
      obtain _ | k := k
      · rw [impl_wideAngle_l2] at h; cases h
      rw [impl_wideAngle_l2] at h
      refine AW.seq ?_
      refine AW.sA ⟨[(0, (vc (.flt .f64 a0.bits))), (1, (vc (.flt .f64 a1.bits))), (5, (vc (.flt .f64 v1.bits))), (6, (vc (.flt .f64 v3.bits))), (7, (vc (.flt .f64 x8.bits))), (8, (vc (.flt .f64 (x8.mul x8).bits))), (9, (vc (.flt .f64 x15.bits))), (10, (vI x16)), (40, (vB (decide (x16 ≥ (1 : Int)))))], []⟩ (T2 Tt) [] [0, 1, 5, 6, 7, 8, 9, 10, 40] [] ⟨tr, tr, tr⟩ ?_
      rcases ite2_cases h with ⟨b17, h⟩ | ⟨b17, h⟩
      · refine AW.cond_t rfl b17 ?_
        refine AW.skip ?_
        refine thenQ_normal ?_
        refine AW.seq ?_
        refine AW.block ?_
        refine AW.rA ⟨[(0, (vc (.flt .f64 a0.bits))), (1, (vc (.flt .f64 a1.bits))), (5, (vc (.flt .f64 v1.bits))), (6, (vc (.flt .f64 v3.bits))), (7, (vc (.flt .f64 x8.bits))), (8, (vc (.flt .f64 (x8.mul x8).bits))), (9, (vc (.flt .f64 (((Fl.mk (k := .f64) 4607182418800017408 (by decide)).div (Fl.ofInt .f64 x16)).sub ((x8.mul x8).mul x15)).bits))), (10, (vI x16))], []⟩ (T4 (T4 Tt)) [] [0, 1, 5, 6, 7, 8, 9, 10] [] ⟨tr, tr, tr, tr, tr, tr, tr, tr, tr⟩ ?_
        refine blockQ_normal ?_
        refine thenQ_normal ?_
        refine AW.rA ⟨[(0, (vc (.flt .f64 a0.bits))), (1, (vc (.flt .f64 a1.bits))), (5, (vc (.flt .f64 v1.bits))), (6, (vc (.flt .f64 v3.bits))), (7, (vc (.flt .f64 x8.bits))), (8, (vc (.flt .f64 (x8.mul x8).bits))), (9, (vc (.flt .f64 (((Fl.mk (k := .f64) 4607182418800017408 (by decide)).div (Fl.ofInt .f64 x16)).sub ((x8.mul x8).mul x15)).bits))), (10, (vI (IntKind.i64.wrap (x16 - (2 : Int)))))], []⟩ (Tt ∧ T2 Tt) [] [0, 1, 5, 6, 7, 8, 9, 10] [] ⟨tr, tr, tr, tr⟩ ?_
        exact loopQ_normal (k, (((Fl.mk (k := .f64) 4607182418800017408 (by decide)).div (Fl.ofInt .f64 x16)).sub ((x8.mul x8).mul x15)), (IntKind.i64.wrap (x16 - (2 : Int)))) h (Nat.lt_succ_self k) (Sub.keep [0, 1, 5, 6, 7, 8, 9, 10] [] (by kernel_rfl) (by kernel_rfl))
      · refine AW.cond_f rfl b17 ?_
        refine AW.exit ?_
        refine thenQ_exit ?_
        refine loopQ_exit ?_
        refine blockQ_exit ?_
        refine thenQ_normal ?_
        refine AW.sC (T2 (T4 Tt)) [] [0, 1, 5, 6, 11] [] ⟨tr, tr, tr, tr, tr, tr, tr⟩ ?_
        refine AW.seq ?_
        refine AW.sA ⟨[(0, (vc (.flt .f64 a0.bits))), (1, (vc (.flt .f64 a1.bits))), (11, (vc (.flt .f64 (((Fl.mk (k := .f64) 4620693217682128896 (by decide)).mul (x8.mul x15)).div (Fl.mk (k := .f64) 4618760256179416344 (by decide))).bits))), (57, (vB (v1.gt v3)))], []⟩ (Tt ∧ T2 Tt) [] [0, 1, 11, 57] [] ⟨tr, tr, tr, tr⟩ ?_
        rcases ite2_cases h with ⟨b18, h⟩ | ⟨b18, h⟩
        · refine AW.cond_t rfl b18 ?_
          refine AW.tC (Tt ∧ T2 Tt) [] [0, 1, 11] [] ⟨tr, tr, tr, tr⟩ ?_
          refine AW.seq ?_
          refine AW.sA ⟨[(0, (vc (.flt .f64 a0.bits))), (11, (vc (.flt .f64 ((Fl.mk (k := .f64) 4598175219545276416 (by decide)).sub (((Fl.mk (k := .f64) 4620693217682128896 (by decide)).mul (x8.mul x15)).div (Fl.mk (k := .f64) 4618760256179416344 (by decide)))).bits))), (61, (vB (a1.lt' (Fl.mk (k := .f64) 0 (by decide)))))], []⟩ (T2 Tt) [] [0, 11, 61] [] ⟨tr, tr, tr⟩ ?_
          rcases ite2_cases h with ⟨b19, h⟩ | ⟨b19, h⟩
          · refine AW.cond_t rfl b19 ?_
            refine AW.tC (Tt ∧ T2 Tt) [] [0, 11] [] ⟨tr, tr, tr, tr⟩ ?_
            refine AW.seq ?_
            refine AW.sA ⟨[(11, (vc (.flt .f64 ((Fl.mk (k := .f64) 4602678819172646912 (by decide)).sub ((Fl.mk (k := .f64) 4598175219545276416 (by decide)).sub (((Fl.mk (k := .f64) 4620693217682128896 (by decide)).mul (x8.mul x15)).div (Fl.mk (k := .f64) 4618760256179416344 (by decide))))).bits))), (65, (vB (a0.lt' (Fl.mk (k := .f64) 0 (by decide)))))], []⟩ (T2 Tt) [] [11, 65] [] ⟨tr, tr, tr⟩ ?_
            rcases ite2_cases h with ⟨b20, h⟩ | ⟨b20, h⟩
            · refine AW.cond_t rfl b20 ?_
              refine AW.tC (Tt ∧ T2 Tt) [] [11] [] ⟨tr, tr, tr, tr⟩ ?_
              refine AW.sA ⟨[(4, (vc (.flt .f64 (((Fl.mk (k := .f64) 4602678819172646912 (by decide)).sub ((Fl.mk (k := .f64) 4598175219545276416 (by decide)).sub (((Fl.mk (k := .f64) 4620693217682128896 (by decide)).mul (x8.mul x15)).div (Fl.mk (k := .f64) 4618760256179416344 (by decide))))).neg).bits)))], []⟩ (T2 Tt) [] [4] [] ⟨tr, tr, tr⟩ ?_
              refine AW.ret ?_
              replace h := some_eq h
              subst h
              exact ⟨.inr rfl, retOK_of [(.one (.c (.flt .f64 (((Fl.mk (k := .f64) 4602678819172646912 (by decide)).sub ((Fl.mk (k := .f64) 4598175219545276416 (by decide)).sub (((Fl.mk (k := .f64) 4620693217682128896 (by decide)).mul (x8.mul x15)).div (Fl.mk (k := .f64) 4618760256179416344 (by decide))))).neg).bits)))] (by kernel_rfl) ⟨⟨rfl, tr⟩, tr⟩ (of_decide_eq_true (by kernel_rfl))⟩
            · refine AW.cond_f rfl b20 ?_
              refine AW.skip ?_
              refine thenQ_normal ?_
              refine AW.sA ⟨[(4, (vc (.flt .f64 ((Fl.mk (k := .f64) 4602678819172646912 (by decide)).sub ((Fl.mk (k := .f64) 4598175219545276416 (by decide)).sub (((Fl.mk (k := .f64) 4620693217682128896 (by decide)).mul (x8.mul x15)).div (Fl.mk (k := .f64) 4618760256179416344 (by decide))))).bits)))], []⟩ (T2 Tt) [] [4] [] ⟨tr, tr, tr⟩ ?_
              refine AW.ret ?_
              replace h := some_eq h
              subst h
              exact ⟨.inr rfl, retOK_of [(.one (.c (.flt .f64 ((Fl.mk (k := .f64) 4602678819172646912 (by decide)).sub ((Fl.mk (k := .f64) 4598175219545276416 (by decide)).sub (((Fl.mk (k := .f64) 4620693217682128896 (by decide)).mul (x8.mul x15)).div (Fl.mk (k := .f64) 4618760256179416344 (by decide))))).bits)))] (by kernel_rfl) ⟨⟨rfl, tr⟩, tr⟩ (of_decide_eq_true (by kernel_rfl))⟩
          · refine AW.cond_f rfl b19 ?_
            refine AW.skip ?_
            refine thenQ_normal ?_
            refine AW.seq ?_
            refine AW.sA ⟨[(11, (vc (.flt .f64 ((Fl.mk (k := .f64) 4598175219545276416 (by decide)).sub (((Fl.mk (k := .f64) 4620693217682128896 (by decide)).mul (x8.mul x15)).div (Fl.mk (k := .f64) 4618760256179416344 (by decide)))).bits))), (65, (vB (a0.lt' (Fl.mk (k := .f64) 0 (by decide)))))], []⟩ (T2 Tt) [] [11, 65] [] ⟨tr, tr, tr⟩ ?_
            rcases ite2_cases h with ⟨b21, h⟩ | ⟨b21, h⟩
            · refine AW.cond_t rfl b21 ?_
              refine AW.tC (Tt ∧ T2 Tt) [] [11] [] ⟨tr, tr, tr, tr⟩ ?_
              refine AW.sA ⟨[(4, (vc (.flt .f64 (((Fl.mk (k := .f64) 4598175219545276416 (by decide)).sub (((Fl.mk (k := .f64) 4620693217682128896 (by decide)).mul (x8.mul x15)).div (Fl.mk (k := .f64) 4618760256179416344 (by decide)))).neg).bits)))], []⟩ (T2 Tt) [] [4] [] ⟨tr, tr, tr⟩ ?_
              refine AW.ret ?_
              replace h := some_eq h
              subst h
              exact ⟨.inr rfl, retOK_of [(.one (.c (.flt .f64 (((Fl.mk (k := .f64) 4598175219545276416 (by decide)).sub (((Fl.mk (k := .f64) 4620693217682128896 (by decide)).mul (x8.mul x15)).div (Fl.mk (k := .f64) 4618760256179416344 (by decide)))).neg).bits)))] (by kernel_rfl) ⟨⟨rfl, tr⟩, tr⟩ (of_decide_eq_true (by kernel_rfl))⟩
            · refine AW.cond_f rfl b21 ?_
              refine AW.skip ?_
              refine thenQ_normal ?_
              refine AW.sA ⟨[(4, (vc (.flt .f64 ((Fl.mk (k := .f64) 4598175219545276416 (by decide)).sub (((Fl.mk (k := .f64) 4620693217682128896 (by decide)).mul (x8.mul x15)).div (Fl.mk (k := .f64) 4618760256179416344 (by decide)))).bits)))], []⟩ (T2 Tt) [] [4] [] ⟨tr, tr, tr⟩ ?_
              refine AW.ret ?_
              replace h := some_eq h
              subst h
              exact ⟨.inr rfl, retOK_of [(.one (.c (.flt .f64 ((Fl.mk (k := .f64) 4598175219545276416 (by decide)).sub (((Fl.mk (k := .f64) 4620693217682128896 (by decide)).mul (x8.mul x15)).div (Fl.mk (k := .f64) 4618760256179416344 (by decide)))).bits)))] (by kernel_rfl) ⟨⟨rfl, tr⟩, tr⟩ (of_decide_eq_true (by kernel_rfl))⟩
        · refine AW.cond_f rfl b18 ?_
          refine AW.skip ?_
          refine thenQ_normal ?_
          refine AW.seq ?_
          refine AW.sA ⟨[(0, (vc (.flt .f64 a0.bits))), (11, (vc (.flt .f64 (((Fl.mk (k := .f64) 4620693217682128896 (by decide)).mul (x8.mul x15)).div (Fl.mk (k := .f64) 4618760256179416344 (by decide))).bits))), (61, (vB (a1.lt' (Fl.mk (k := .f64) 0 (by decide)))))], []⟩ (T2 Tt) [] [0, 11, 61] [] ⟨tr, tr, tr⟩ ?_
          rcases ite2_cases h with ⟨b22, h⟩ | ⟨b22, h⟩
          · refine AW.cond_t rfl b22 ?_
            refine AW.tC (Tt ∧ T2 Tt) [] [0, 11] [] ⟨tr, tr, tr, tr⟩ ?_
            refine AW.seq ?_
            refine AW.sA ⟨[(11, (vc (.flt .f64 ((Fl.mk (k := .f64) 4602678819172646912 (by decide)).sub (((Fl.mk (k := .f64) 4620693217682128896 (by decide)).mul (x8.mul x15)).div (Fl.mk (k := .f64) 4618760256179416344 (by decide)))).bits))), (65, (vB (a0.lt' (Fl.mk (k := .f64) 0 (by decide)))))], []⟩ (T2 Tt) [] [11, 65] [] ⟨tr, tr, tr⟩ ?_
            rcases ite2_cases h with ⟨b23, h⟩ | ⟨b23, h⟩
            · refine AW.cond_t rfl b23 ?_
              refine AW.tC (Tt ∧ T2 Tt) [] [11] [] ⟨tr, tr, tr, tr⟩ ?_
              refine AW.sA ⟨[(4, (vc (.flt .f64 (((Fl.mk (k := .f64) 4602678819172646912 (by decide)).sub (((Fl.mk (k := .f64) 4620693217682128896 (by decide)).mul (x8.mul x15)).div (Fl.mk (k := .f64) 4618760256179416344 (by decide)))).neg).bits)))], []⟩ (T2 Tt) [] [4] [] ⟨tr, tr, tr⟩ ?_
              refine AW.ret ?_
              replace h := some_eq h
              subst h
              exact ⟨.inr rfl, retOK_of [(.one (.c (.flt .f64 (((Fl.mk (k := .f64) 4602678819172646912 (by decide)).sub (((Fl.mk (k := .f64) 4620693217682128896 (by decide)).mul (x8.mul x15)).div (Fl.mk (k := .f64) 4618760256179416344 (by decide)))).neg).bits)))] (by kernel_rfl) ⟨⟨rfl, tr⟩, tr⟩ (of_decide_eq_true (by kernel_rfl))⟩
            · refine AW.cond_f rfl b23 ?_
              refine AW.skip ?_
              refine thenQ_normal ?_
              refine AW.sA ⟨[(4, (vc (.flt .f64 ((Fl.mk (k := .f64) 4602678819172646912 (by decide)).sub (((Fl.mk (k := .f64) 4620693217682128896 (by decide)).mul (x8.mul x15)).div (Fl.mk (k := .f64) 4618760256179416344 (by decide)))).bits)))], []⟩ (T2 Tt) [] [4] [] ⟨tr, tr, tr⟩ ?_
              refine AW.ret ?_
              replace h := some_eq h
              subst h
              exact ⟨.inr rfl, retOK_of [(.one (.c (.flt .f64 ((Fl.mk (k := .f64) 4602678819172646912 (by decide)).sub (((Fl.mk (k := .f64) 4620693217682128896 (by decide)).mul (x8.mul x15)).div (Fl.mk (k := .f64) 4618760256179416344 (by decide)))).bits)))] (by kernel_rfl) ⟨⟨rfl, tr⟩, tr⟩ (of_decide_eq_true (by kernel_rfl))⟩
          · refine AW.cond_f rfl b22 ?_
            refine AW.skip ?_
            refine thenQ_normal ?_
            refine AW.seq ?_
            refine AW.sA ⟨[(11, (vc (.flt .f64 (((Fl.mk (k := .f64) 4620693217682128896 (by decide)).mul (x8.mul x15)).div (Fl.mk (k := .f64) 4618760256179416344 (by decide))).bits))), (65, (vB (a0.lt' (Fl.mk (k := .f64) 0 (by decide)))))], []⟩ (T2 Tt) [] [11, 65] [] ⟨tr, tr, tr⟩ ?_
            rcases ite2_cases h with ⟨b24, h⟩ | ⟨b24, h⟩
            · refine AW.cond_t rfl b24 ?_
              refine AW.tC (Tt ∧ T2 Tt) [] [11] [] ⟨tr, tr, tr, tr⟩ ?_
              refine AW.sA ⟨[(4, (vc (.flt .f64 ((((Fl.mk (k := .f64) 4620693217682128896 (by decide)).mul (x8.mul x15)).div (Fl.mk (k := .f64) 4618760256179416344 (by decide))).neg).bits)))], []⟩ (T2 Tt) [] [4] [] ⟨tr, tr, tr⟩ ?_
              refine AW.ret ?_
              replace h := some_eq h
              subst h
              exact ⟨.inr rfl, retOK_of [(.one (.c (.flt .f64 ((((Fl.mk (k := .f64) 4620693217682128896 (by decide)).mul (x8.mul x15)).div (Fl.mk (k := .f64) 4618760256179416344 (by decide))).neg).bits)))] (by kernel_rfl) ⟨⟨rfl, tr⟩, tr⟩ (of_decide_eq_true (by kernel_rfl))⟩
            · refine AW.cond_f rfl b24 ?_
              refine AW.skip ?_
              refine thenQ_normal ?_
              refine AW.sA ⟨[(4, (vc (.flt .f64 (((Fl.mk (k := .f64) 4620693217682128896 (by decide)).mul (x8.mul x15)).div (Fl.mk (k := .f64) 4618760256179416344 (by decide))).bits)))], []⟩ (T2 Tt) [] [4] [] ⟨tr, tr, tr⟩ ?_
              refine AW.ret ?_
              replace h := some_eq h
              subst h
              exact ⟨.inr rfl, retOK_of [(.one (.c (.flt .f64 (((Fl.mk (k := .f64) 4620693217682128896 (by decide)).mul (x8.mul x15)).div (Fl.mk (k := .f64) 4618760256179416344 (by decide))).bits)))] (by kernel_rfl) ⟨⟨rfl, tr⟩, tr⟩ (of_decide_eq_true (by kernel_rfl))⟩
  · refine AW.cond_f rfl b5 ?_
    refine AW.skip ?_
    refine thenQ_normal ?_
    refine AW.seq ?_
    refine AW.sA ⟨[(0, (vc (.flt .f64 a0.bits))), (1, (vc (.flt .f64 a1.bits))), (5, (vc (.flt .f64 v1.bits))), (6, (vc (.flt .f64 v3.bits))), (7, (vc (.flt .f64 (v1.div v3).bits))), (25, (vI (0 : Int)))], []⟩ (Tt ∧ Tt) [] [0, 1, 5, 6, 7, 25] [] ⟨tr, tr⟩ ?_
    refine AW.block ?_
    refine AW.loopQ (σ := Nat × F64 × Int) (fun p => ⟨[(0, (vc (.flt .f64 a0.bits))), (1, (vc (.flt .f64 a1.bits))), (5, (vc (.flt .f64 v1.bits))), (6, (vc (.flt .f64 v3.bits))), (7, (vc (.flt .f64 p.2.1.bits))), (25, (vI p.2.2))], []⟩) (fun p => impl_wideAngle_l3 K a0 a1 v1 v3 p.1 p.2.1 p.2.2 = some o) (fun p => p.1) (K, (v1.div v3), (0 : Int)) h ?_
    clear h
    rintro ⟨k, x27, x28⟩ h
    replace h : impl_wideAngle_l3 K a0 a1 v1 v3 k x27 x28 = some o := h
    show AW _ _ (⟨[(0, (vc (.flt .f64 a0.bits))), (1, (vc (.flt .f64 a1.bits))), (5, (vc (.flt .f64 v1.bits))), (6, (vc (.flt .f64 v3.bits))), (7, (vc (.flt .f64 x27.bits))), (25, (vI x28))], []⟩ : St) _
    obtain _ | k := k
    · rw [impl_wideAngle_l3] at h; cases h
    rw [impl_wideAngle_l3] at h
    refine AW.sA ⟨[(0, (vc (.flt .f64 a0.bits))), (1, (vc (.flt .f64 a1.bits))), (5, (vc (.flt .f64 v1.bits))), (6, (vc (.flt .f64 v3.bits))), (7, (vc (.flt .f64 x27.bits))), (25, (vI x28)), (26, (vB (decide (x28 < (3 : Int)))))], []⟩ (Tt ∧ Tt) [] [0, 1, 5, 6, 7, 25, 26] [] ⟨tr, tr⟩ ?_
    refine AW.seq ?_
    rcases ite2_cases h with ⟨b29, h⟩ | ⟨b29, h⟩
    · refine AW.cond_t rfl b29 ?_
      refine AW.skip ?_
      refine thenQ_normal ?_
      refine AW.seq ?_
      refine AW.block ?_
      obtain ⟨v30, e31, h⟩ := bind_some h
      refine AW.rA ⟨[(0, (vc (.flt .f64 a0.bits))), (1, (vc (.flt .f64 a1.bits))), (5, (vc (.flt .f64 v1.bits))), (6, (vc (.flt .f64 v3.bits))), (7, (vc (.flt .f64 (x27.div ((Fl.mk (k := .f64) 4607182418800017408 (by decide)).add v30)).bits))), (25, (vI x28))], []⟩ (Tt ∧ T4 ((((Eqc (.flt .f64 ((Fl.mk (k := .f64) 4607182418800017408 (by decide)).add (x27.mul x27)).bits)) ∧ Tt) ∧ CallOK Try.prog 46 [.one (.flt .f64 ((Fl.mk (k := .f64) 4607182418800017408 (by decide)).add (x27.mul x27)).bits)] [.one (.flt .f64 v30.bits)]) ∧ Tt ∧ T2 Tt)) [.no, .no, .no, .no, .no, .call [.one (.flt .f64 ((Fl.mk (k := .f64) 4607182418800017408 (by decide)).add (x27.mul x27)).bits)] [.one (.flt .f64 v30.bits)] [[.view]]] [0, 1, 5, 6, 7, 25] [] ⟨tr, tr, tr, tr, tr, ⟨⟨rfl, tr⟩, ok_math_Sqrt K ((Fl.mk (k := .f64) 4607182418800017408 (by decide)).add (x27.mul x27)) v30 e31⟩, tr, tr, tr, tr⟩ ?_
      refine blockQ_normal ?_
      refine thenQ_normal ?_
      refine AW.rA ⟨[(0, (vc (.flt .f64 a0.bits))), (1, (vc (.flt .f64 a1.bits))), (5, (vc (.flt .f64 v1.bits))), (6, (vc (.flt .f64 v3.bits))), (7, (vc (.flt .f64 (x27.div ((Fl.mk (k := .f64) 4607182418800017408 (by decide)).add v30)).bits))), (25, (vI (IntKind.i64.wrap (x28 + (1 : Int)))))], []⟩ (T2 Tt) [] [0, 1, 5, 6, 7, 25] [] ⟨tr, tr, tr⟩ ?_
      exact loopQ_normal (k, (x27.div ((Fl.mk (k := .f64) 4607182418800017408 (by decide)).add v30)), (IntKind.i64.wrap (x28 + (1 : Int)))) h (Nat.lt_succ_self k) (Sub.keep [0, 1, 5, 6, 7, 25] [] (by kernel_rfl) (by kernel_rfl))
    · refine AW.cond_f rfl b29 ?_
      refine AW.exit ?_
      refine thenQ_exit ?_
      refine loopQ_exit ?_
      refine blockQ_exit ?_
      refine thenQ_normal ?_
      refine AW.sC (T4 Tt) [] [0, 1, 5, 6, 7, 8] [] ⟨tr, tr, tr, tr, tr⟩ ?_
      refine AW.sC (Tt ∧ Tt) [] [0, 1, 5, 6, 7, 8, 9] [] ⟨tr, tr⟩ ?_
      refine AW.seq ?_
      refine AW.sA ⟨[(0, (vc (.flt .f64 a0.bits))), (1, (vc (.flt .f64 a1.bits))), (5, (vc (.flt .f64 v1.bits))), (6, (vc (.flt .f64 v3.bits))), (7, (vc (.flt .f64 x27.bits))), (8, (vc (.flt .f64 (x27.mul x27).bits))), (9, (vc (.flt .f64 (Fl.mk (k := .f64) 0 (by decide)).bits))), (10, (vI (15 : Int)))], []⟩ (Tt ∧ Tt) [] [0, 1, 5, 6, 7, 8, 9, 10] [] ⟨tr, tr⟩ ?_
      refine AW.block ?_
      refine AW.loopQ (σ := Nat × F64 × Int) (fun p => ⟨[(0, (vc (.flt .f64 a0.bits))), (1, (vc (.flt .f64 a1.bits))), (5, (vc (.flt .f64 v1.bits))), (6, (vc (.flt .f64 v3.bits))), (7, (vc (.flt .f64 x27.bits))), (8, (vc (.flt .f64 (x27.mul x27).bits))), (9, (vc (.flt .f64 p.2.1.bits))), (10, (vI p.2.2))], []⟩) (fun p => impl_wideAngle_l4 K a0 a1 v1 v3 x27 p.1 p.2.1 p.2.2 = some o) (fun p => p.1) (K, (Fl.mk (k := .f64) 0 (by decide)), (15 : Int)) h ?_
      clear h
      rintro ⟨k, x34, x35⟩ h
      replace h : impl_wideAngle_l4 K a0 a1 v1 v3 x27 k x34 x35 = some o := h
      show AW _ _ (⟨[(0, (vc (.flt .f64 a0.bits))), (1, (vc (.flt .f64 a1.bits))), (5, (vc (.flt .f64 v1.bits))), (6, (vc (.flt .f64 v3.bits))), (7, (vc (.flt .f64 x27.bits))), (8, (vc (.flt .f64 (x27.mul x27).bits))), (9, (vc (.flt .f64 x34.bits))), (10, (vI x35))], []⟩ : St) _
      obtain _ | k := k
      · rw [impl_wideAngle_l4] at h; cases h
      rw [impl_wideAngle_l4] at h
      refine AW.seq ?_
      refine AW.sA ⟨[(0, (vc (.flt .f64 a0.bits))), (1, (vc (.flt .f64 a1.bits))), (5, (vc (.flt .f64 v1.bits))), (6, (vc (.flt .f64 v3.bits))), (7, (vc (.flt .f64 x27.bits))), (8, (vc (.flt .f64 (x27.mul x27).bits))), (9, (vc (.flt .f64 x34.bits))), (10, (vI x35)), (40, (vB (decide (x35 ≥ (1 : Int)))))], []⟩ (T2 Tt) [] [0, 1, 5, 6, 7, 8, 9, 10, 40] [] ⟨tr, tr, tr⟩ ?_
      rcases ite2_cases h with ⟨b36, h⟩ | ⟨b36, h⟩
      · refine AW.cond_t rfl b36 ?_
        refine AW.skip ?_
        refine thenQ_normal ?_
        refine AW.seq ?_
        refine AW.block ?_
        refine AW.rA ⟨[(0, (vc (.flt .f64 a0.bits))), (1, (vc (.flt .f64 a1.bits))), (5, (vc (.flt .f64 v1.bits))), (6, (vc (.flt .f64 v3.bits))), (7, (vc (.flt .f64 x27.bits))), (8, (vc (.flt .f64 (x27.mul x27).bits))), (9, (vc (.flt .f64 (((Fl.mk (k := .f64) 4607182418800017408 (by decide)).div (Fl.ofInt .f64 x35)).sub ((x27.mul x27).mul x34)).bits))), (10, (vI x35))], []⟩ (T4 (T4 Tt)) [] [0, 1, 5, 6, 7, 8, 9, 10] [] ⟨tr, tr, tr, tr, tr, tr, tr, tr, tr⟩ ?_
        refine blockQ_normal ?_
        refine thenQ_normal ?_
        refine AW.rA ⟨[(0, (vc (.flt .f64 a0.bits))), (1, (vc (.flt .f64 a1.bits))), (5, (vc (.flt .f64 v1.bits))), (6, (vc (.flt .f64 v3.bits))), (7, (vc (.flt .f64 x27.bits))), (8, (vc (.flt .f64 (x27.mul x27).bits))), (9, (vc (.flt .f64 (((Fl.mk (k := .f64) 4607182418800017408 (by decide)).div (Fl.ofInt .f64 x35)).sub ((x27.mul x27).mul x34)).bits))), (10, (vI (IntKind.i64.wrap (x35 - (2 : Int)))))], []⟩ (Tt ∧ T2 Tt) [] [0, 1, 5, 6, 7, 8, 9, 10] [] ⟨tr, tr, tr, tr⟩ ?_
        exact loopQ_normal (k, (((Fl.mk (k := .f64) 4607182418800017408 (by decide)).div (Fl.ofInt .f64 x35)).sub ((x27.mul x27).mul x34)), (IntKind.i64.wrap (x35 - (2 : Int)))) h (Nat.lt_succ_self k) (Sub.keep [0, 1, 5, 6, 7, 8, 9, 10] [] (by kernel_rfl) (by kernel_rfl))
      · refine AW.cond_f rfl b36 ?_
        refine AW.exit ?_
        refine thenQ_exit ?_
        refine loopQ_exit ?_
        refine blockQ_exit ?_
        refine thenQ_normal ?_
        refine AW.sC (T2 (T4 Tt)) [] [0, 1, 5, 6, 11] [] ⟨tr, tr, tr, tr, tr, tr, tr⟩ ?_
        refine AW.seq ?_
        refine AW.sA ⟨[(0, (vc (.flt .f64 a0.bits))), (1, (vc (.flt .f64 a1.bits))), (11, (vc (.flt .f64 (((Fl.mk (k := .f64) 4620693217682128896 (by decide)).mul (x27.mul x34)).div (Fl.mk (k := .f64) 4618760256179416344 (by decide))).bits))), (57, (vB (v1.gt v3)))], []⟩ (Tt ∧ T2 Tt) [] [0, 1, 11, 57] [] ⟨tr, tr, tr, tr⟩ ?_
        rcases ite2_cases h with ⟨b37, h⟩ | ⟨b37, h⟩
        · refine AW.cond_t rfl b37 ?_
          refine AW.tC (Tt ∧ T2 Tt) [] [0, 1, 11] [] ⟨tr, tr, tr, tr⟩ ?_
          refine AW.seq ?_
          refine AW.sA ⟨[(0, (vc (.flt .f64 a0.bits))), (11, (vc (.flt .f64 ((Fl.mk (k := .f64) 4598175219545276416 (by decide)).sub (((Fl.mk (k := .f64) 4620693217682128896 (by decide)).mul (x27.mul x34)).div (Fl.mk (k := .f64) 4618760256179416344 (by decide)))).bits))), (61, (vB (a1.lt' (Fl.mk (k := .f64) 0 (by decide)))))], []⟩ (T2 Tt) [] [0, 11, 61] [] ⟨tr, tr, tr⟩ ?_
          rcases ite2_cases h with ⟨b38, h⟩ | ⟨b38, h⟩
          · refine AW.cond_t rfl b38 ?_
            refine AW.tC (Tt ∧ T2 Tt) [] [0, 11] [] ⟨tr, tr, tr, tr⟩ ?_
            refine AW.seq ?_
            refine AW.sA ⟨[(11, (vc (.flt .f64 ((Fl.mk (k := .f64) 4602678819172646912 (by decide)).sub ((Fl.mk (k := .f64) 4598175219545276416 (by decide)).sub (((Fl.mk (k := .f64) 4620693217682128896 (by decide)).mul (x27.mul x34)).div (Fl.mk (k := .f64) 4618760256179416344 (by decide))))).bits))), (65, (vB (a0.lt' (Fl.mk (k := .f64) 0 (by decide)))))], []⟩ (T2 Tt) [] [11, 65] [] ⟨tr, tr, tr⟩ ?_
            rcases ite2_cases h with ⟨b39, h⟩ | ⟨b39, h⟩
            · refine AW.cond_t rfl b39 ?_
              refine AW.tC (Tt ∧ T2 Tt) [] [11] [] ⟨tr, tr, tr, tr⟩ ?_
              refine AW.sA ⟨[(4, (vc (.flt .f64 (((Fl.mk (k := .f64) 4602678819172646912 (by decide)).sub ((Fl.mk (k := .f64) 4598175219545276416 (by decide)).sub (((Fl.mk (k := .f64) 4620693217682128896 (by decide)).mul (x27.mul x34)).div (Fl.mk (k := .f64) 4618760256179416344 (by decide))))).neg).bits)))], []⟩ (T2 Tt) [] [4] [] ⟨tr, tr, tr⟩ ?_
              refine AW.ret ?_
              replace h := some_eq h
              subst h
              exact ⟨.inr rfl, retOK_of [(.one (.c (.flt .f64 (((Fl.mk (k := .f64) 4602678819172646912 (by decide)).sub ((Fl.mk (k := .f64) 4598175219545276416 (by decide)).sub (((Fl.mk (k := .f64) 4620693217682128896 (by decide)).mul (x27.mul x34)).div (Fl.mk (k := .f64) 4618760256179416344 (by decide))))).neg).bits)))] (by kernel_rfl) ⟨⟨rfl, tr⟩, tr⟩ (of_decide_eq_true (by kernel_rfl))⟩
            · refine AW.cond_f rfl b39 ?_
              refine AW.skip ?_
              refine thenQ_normal ?_
              refine AW.sA ⟨[(4, (vc (.flt .f64 ((Fl.mk (k := .f64) 4602678819172646912 (by decide)).sub ((Fl.mk (k := .f64) 4598175219545276416 (by decide)).sub (((Fl.mk (k := .f64) 4620693217682128896 (by decide)).mul (x27.mul x34)).div (Fl.mk (k := .f64) 4618760256179416344 (by decide))))).bits)))], []⟩ (T2 Tt) [] [4] [] ⟨tr, tr, tr⟩ ?_
              refine AW.ret ?_
              replace h := some_eq h
              subst h
              exact ⟨.inr rfl, retOK_of [(.one (.c (.flt .f64 ((Fl.mk (k := .f64) 4602678819172646912 (by decide)).sub ((Fl.mk (k := .f64) 4598175219545276416 (by decide)).sub (((Fl.mk (k := .f64) 4620693217682128896 (by decide)).mul (x27.mul x34)).div (Fl.mk (k := .f64) 4618760256179416344 (by decide))))).bits)))] (by kernel_rfl) ⟨⟨rfl, tr⟩, tr⟩ (of_decide_eq_true (by kernel_rfl))⟩
          · refine AW.cond_f rfl b38 ?_
            refine AW.skip ?_
            refine thenQ_normal ?_
            refine AW.seq ?_
            refine AW.sA ⟨[(11, (vc (.flt .f64 ((Fl.mk (k := .f64) 4598175219545276416 (by decide)).sub (((Fl.mk (k := .f64) 4620693217682128896 (by decide)).mul (x27.mul x34)).div (Fl.mk (k := .f64) 4618760256179416344 (by decide)))).bits))), (65, (vB (a0.lt' (Fl.mk (k := .f64) 0 (by decide)))))], []⟩ (T2 Tt) [] [11, 65] [] ⟨tr, tr, tr⟩ ?_
            rcases ite2_cases h with ⟨b40, h⟩ | ⟨b40, h⟩
            · refine AW.cond_t rfl b40 ?_
              refine AW.tC (Tt ∧ T2 Tt) [] [11] [] ⟨tr, tr, tr, tr⟩ ?_
              refine AW.sA ⟨[(4, (vc (.flt .f64 (((Fl.mk (k := .f64) 4598175219545276416 (by decide)).sub (((Fl.mk (k := .f64) 4620693217682128896 (by decide)).mul (x27.mul x34)).div (Fl.mk (k := .f64) 4618760256179416344 (by decide)))).neg).bits)))], []⟩ (T2 Tt) [] [4] [] ⟨tr, tr, tr⟩ ?_
              refine AW.ret ?_
              replace h := some_eq h
              subst h
              exact ⟨.inr rfl, retOK_of [(.one (.c (.flt .f64 (((Fl.mk (k := .f64) 4598175219545276416 (by decide)).sub (((Fl.mk (k := .f64) 4620693217682128896 (by decide)).mul (x27.mul x34)).div (Fl.mk (k := .f64) 4618760256179416344 (by decide)))).neg).bits)))] (by kernel_rfl) ⟨⟨rfl, tr⟩, tr⟩ (of_decide_eq_true (by kernel_rfl))⟩
            · refine AW.cond_f rfl b40 ?_
              refine AW.skip ?_
              refine thenQ_normal ?_
              refine AW.sA ⟨[(4, (vc (.flt .f64 ((Fl.mk (k := .f64) 4598175219545276416 (by decide)).sub (((Fl.mk (k := .f64) 4620693217682128896 (by decide)).mul (x27.mul x34)).div (Fl.mk (k := .f64) 4618760256179416344 (by decide)))).bits)))], []⟩ (T2 Tt) [] [4] [] ⟨tr, tr, tr⟩ ?_
              refine AW.ret ?_
              replace h := some_eq h
              subst h
              exact ⟨.inr rfl, retOK_of [(.one (.c (.flt .f64 ((Fl.mk (k := .f64) 4598175219545276416 (by decide)).sub (((Fl.mk (k := .f64) 4620693217682128896 (by decide)).mul (x27.mul x34)).div (Fl.mk (k := .f64) 4618760256179416344 (by decide)))).bits)))] (by kernel_rfl) ⟨⟨rfl, tr⟩, tr⟩ (of_decide_eq_true (by kernel_rfl))⟩
        · refine AW.cond_f rfl b37 ?_
          refine AW.skip ?_
          refine thenQ_normal ?_
          refine AW.seq ?_
          refine AW.sA ⟨[(0, (vc (.flt .f64 a0.bits))), (11, (vc (.flt .f64 (((Fl.mk (k := .f64) 4620693217682128896 (by decide)).mul (x27.mul x34)).div (Fl.mk (k := .f64) 4618760256179416344 (by decide))).bits))), (61, (vB (a1.lt' (Fl.mk (k := .f64) 0 (by decide)))))], []⟩ (T2 Tt) [] [0, 11, 61] [] ⟨tr, tr, tr⟩ ?_
          rcases ite2_cases h with ⟨b41, h⟩ | ⟨b41, h⟩
          · refine AW.cond_t rfl b41 ?_
            refine AW.tC (Tt ∧ T2 Tt) [] [0, 11] [] ⟨tr, tr, tr, tr⟩ ?_
            refine AW.seq ?_
            refine AW.sA ⟨[(11, (vc (.flt .f64 ((Fl.mk (k := .f64) 4602678819172646912 (by decide)).sub (((Fl.mk (k := .f64) 4620693217682128896 (by decide)).mul (x27.mul x34)).div (Fl.mk (k := .f64) 4618760256179416344 (by decide)))).bits))), (65, (vB (a0.lt' (Fl.mk (k := .f64) 0 (by decide)))))], []⟩ (T2 Tt) [] [11, 65] [] ⟨tr, tr, tr⟩ ?_
            rcases ite2_cases h with ⟨b42, h⟩ | ⟨b42, h⟩
            · refine AW.cond_t rfl b42 ?_
              refine AW.tC (Tt ∧ T2 Tt) [] [11] [] ⟨tr, tr, tr, tr⟩ ?_
              refine AW.sA ⟨[(4, (vc (.flt .f64 (((Fl.mk (k := .f64) 4602678819172646912 (by decide)).sub (((Fl.mk (k := .f64) 4620693217682128896 (by decide)).mul (x27.mul x34)).div (Fl.mk (k := .f64) 4618760256179416344 (by decide)))).neg).bits)))], []⟩ (T2 Tt) [] [4] [] ⟨tr, tr, tr⟩ ?_
              refine AW.ret ?_
              replace h := some_eq h
              subst h
              exact ⟨.inr rfl, retOK_of [(.one (.c (.flt .f64 (((Fl.mk (k := .f64) 4602678819172646912 (by decide)).sub (((Fl.mk (k := .f64) 4620693217682128896 (by decide)).mul (x27.mul x34)).div (Fl.mk (k := .f64) 4618760256179416344 (by decide)))).neg).bits)))] (by kernel_rfl) ⟨⟨rfl, tr⟩, tr⟩ (of_decide_eq_true (by kernel_rfl))⟩
            · refine AW.cond_f rfl b42 ?_
              refine AW.skip ?_
              refine thenQ_normal ?_
              refine AW.sA ⟨[(4, (vc (.flt .f64 ((Fl.mk (k := .f64) 4602678819172646912 (by decide)).sub (((Fl.mk (k := .f64) 4620693217682128896 (by decide)).mul (x27.mul x34)).div (Fl.mk (k := .f64) 4618760256179416344 (by decide)))).bits)))], []⟩ (T2 Tt) [] [4] [] ⟨tr, tr, tr⟩ ?_
              refine AW.ret ?_
              replace h := some_eq h
              subst h
              exact ⟨.inr rfl, retOK_of [(.one (.c (.flt .f64 ((Fl.mk (k := .f64) 4602678819172646912 (by decide)).sub (((Fl.mk (k := .f64) 4620693217682128896 (by decide)).mul (x27.mul x34)).div (Fl.mk (k := .f64) 4618760256179416344 (by decide)))).bits)))] (by kernel_rfl) ⟨⟨rfl, tr⟩, tr⟩ (of_decide_eq_true (by kernel_rfl))⟩
          · refine AW.cond_f rfl b41 ?_
            refine AW.skip ?_
            refine thenQ_normal ?_
            refine AW.seq ?_
            refine AW.sA ⟨[(11, (vc (.flt .f64 (((Fl.mk (k := .f64) 4620693217682128896 (by decide)).mul (x27.mul x34)).div (Fl.mk (k := .f64) 4618760256179416344 (by decide))).bits))), (65, (vB (a0.lt' (Fl.mk (k := .f64) 0 (by decide)))))], []⟩ (T2 Tt) [] [11, 65] [] ⟨tr, tr, tr⟩ ?_
            rcases ite2_cases h with ⟨b43, h⟩ | ⟨b43, h⟩
            · refine AW.cond_t rfl b43 ?_
              refine AW.tC (Tt ∧ T2 Tt) [] [11] [] ⟨tr, tr, tr, tr⟩ ?_
              refine AW.sA ⟨[(4, (vc (.flt .f64 ((((Fl.mk (k := .f64) 4620693217682128896 (by decide)).mul (x27.mul x34)).div (Fl.mk (k := .f64) 4618760256179416344 (by decide))).neg).bits)))], []⟩ (T2 Tt) [] [4] [] ⟨tr, tr, tr⟩ ?_
              refine AW.ret ?_
              replace h := some_eq h
              subst h
              exact ⟨.inr rfl, retOK_of [(.one (.c (.flt .f64 ((((Fl.mk (k := .f64) 4620693217682128896 (by decide)).mul (x27.mul x34)).div (Fl.mk (k := .f64) 4618760256179416344 (by decide))).neg).bits)))] (by kernel_rfl) ⟨⟨rfl, tr⟩, tr⟩ (of_decide_eq_true (by kernel_rfl))⟩
            · refine AW.cond_f rfl b43 ?_
              refine AW.skip ?_
              refine thenQ_normal ?_
              refine AW.sA ⟨[(4, (vc (.flt .f64 (((Fl.mk (k := .f64) 4620693217682128896 (by decide)).mul (x27.mul x34)).div (Fl.mk (k := .f64) 4618760256179416344 (by decide))).bits)))], []⟩ (T2 Tt) [] [4] [] ⟨tr, tr, tr⟩ ?_
              refine AW.ret ?_
              replace h := some_eq h
              subst h
              exact ⟨.inr rfl, retOK_of [(.one (.c (.flt .f64 (((Fl.mk (k := .f64) 4620693217682128896 (by decide)).mul (x27.mul x34)).div (Fl.mk (k := .f64) 4618760256179416344 (by decide))).bits)))] (by kernel_rfl) ⟨⟨rfl, tr⟩, tr⟩ (of_decide_eq_true (by kernel_rfl))⟩

/-! impl.AngleTurns -/
def impl_AngleTurns (K : Nat) (a0 : F32) (a1 : F32) : Option (F32) :=
  (impl_IsFinite K a1).bind fun v1 => (ite2 ((!v1)) (some true) ((impl_IsFinite K a0).bind fun v4 => some (!v4))).bind fun j6 => ite2 (j6) ((impl_notNumber K ).bind fun v9 => some v9) ((ite2 ((a1.eq (Fl.mk (k := .f32) 0 (by decide)))) (some (a0.eq (Fl.mk (k := .f32) 0 (by decide)))) (some false)).bind fun j12 => ite2 (j12) (some (Fl.mk (k := .f32) 0 (by decide))) ((impl_wideAngle K (Fl.cv .f32 .f64 a0) (Fl.cv .f32 .f64 a1)).bind fun v15 => chk ((convBits .f64 v15.bits .f32).isSome = true) (some (Fl.cv .f64 .f32 v15))))

theorem ok_impl_AngleTurns (K : Nat) (a0 : F32) (a1 : F32) (o : (F32)) (h : impl_AngleTurns K a0 a1 = some o) : CallOK Try.prog 29 [.one (.flt .f32 a0.bits), .one (.flt .f32 a1.bits)] [.one (.flt .f32 o.bits)] := by
  refine callOK_of_AW Try.func29 rfl (by kernel_rfl) (Nat.le_of_ble_eq_true (by kernel_rfl)) ?_
  intro w0
  unfold impl_AngleTurns at h
  refine AW.sA ⟨[(0, (vc (.flt .f32 a0.bits))), (1, (vc (.flt .f32 a1.bits)))], []⟩ (Tt ∧ Tt) [] [0, 1] [] ⟨tr, tr⟩ ?_
  refine AW.seq ?_
  refine AW.seq ?_
  obtain ⟨v1, e2, h⟩ := bind_some h
  obtain ⟨j6, e7, h⟩ := bind_some h
  refine AW.join1 (s2 := ⟨[(0, (vc (.flt .f32 a0.bits))), (1, (vc (.flt .f32 a1.bits))), (12, (vB j6))], []⟩) ?_ ?_
  · rcases ite2_cases e7 with ⟨b3, e7⟩ | ⟨b3, e7⟩
    · replace e7 := some_eq e7
      subst e7
      exact AW.rA ⟨[(0, (vc (.flt .f32 a0.bits))), (1, (vc (.flt .f32 a1.bits))), (12, (vB true))], []⟩ (Tt ∧ (((eF a1) ∧ Tt) ∧ CallOK Try.prog 39 [.one (.flt .f32 a1.bits)] [.one (.bool v1)]) ∧ Tt ∧ (Tt ∧ (!v1) = true) ∧ T4 Tt) [.no, .call [.one (.flt .f32 a1.bits)] [.one (.bool v1)] [[.view]], .no, .dec true] [0, 1, 12] [] ⟨tr, ⟨⟨rfl, tr⟩, ok_impl_IsFinite K a1 v1 e2⟩, tr, ⟨tr, b3⟩, tr, tr, tr, tr, tr⟩ ⟨rfl, rfl⟩
    · obtain ⟨v4, e5, e7⟩ := bind_some e7
      replace e7 := some_eq e7
      subst e7
      exact AW.rA ⟨[(0, (vc (.flt .f32 a0.bits))), (1, (vc (.flt .f32 a1.bits))), (12, (vB (!v4)))], []⟩ (Tt ∧ (((eF a1) ∧ Tt) ∧ CallOK Try.prog 39 [.one (.flt .f32 a1.bits)] [.one (.bool v1)]) ∧ Tt ∧ (Tt ∧ (!v1) = false) ∧ Tt ∧ (((eF a0) ∧ Tt) ∧ CallOK Try.prog 39 [.one (.flt .f32 a0.bits)] [.one (.bool v4)]) ∧ T2 Tt) [.no, .call [.one (.flt .f32 a1.bits)] [.one (.bool v1)] [[.view]], .no, .dec false, .no, .call [.one (.flt .f32 a0.bits)] [.one (.bool v4)] [[.view]]] [0, 1, 12] [] ⟨tr, ⟨⟨rfl, tr⟩, ok_impl_IsFinite K a1 v1 e2⟩, tr, ⟨tr, b3⟩, tr, ⟨⟨rfl, tr⟩, ok_impl_IsFinite K a0 v4 e5⟩, tr, tr, tr⟩ ⟨rfl, rfl⟩
  refine thenQ_normal ?_
  rcases ite2_cases h with ⟨b8, h⟩ | ⟨b8, h⟩
  · refine AW.cond_t rfl b8 ?_
    refine AW.seq ?_
    obtain ⟨v9, e10, h⟩ := bind_some h
    refine AW.tA ⟨[(4, (vc (.flt .f32 v9.bits)))], []⟩ (((Tt) ∧ CallOK Try.prog 40 [] [.one (.flt .f32 v9.bits)]) ∧ Tt ∧ Tt) [.call [] [.one (.flt .f32 v9.bits)] [[.view]]] [4] [] ⟨⟨tr, ok_impl_notNumber K v9 e10⟩, tr, tr⟩ ?_
    refine AW.ret ?_
    refine thenQ_ret ?_
    replace h := some_eq h
    subst h
    exact ⟨.inr rfl, retOK_of [(.one (cF v9))] (by kernel_rfl) ⟨⟨rfl, tr⟩, tr⟩ (of_decide_eq_true (by kernel_rfl))⟩
  · refine AW.cond_f rfl b8 ?_
    refine AW.skip ?_
    refine thenQ_normal ?_
    refine AW.seq ?_
    refine AW.seq ?_
    obtain ⟨j12, e13, h⟩ := bind_some h
    refine AW.join1 (s2 := ⟨[(0, (vc (.flt .f32 a0.bits))), (1, (vc (.flt .f32 a1.bits))), (19, (vB j12))], []⟩) ?_ ?_
    · rcases ite2_cases e13 with ⟨b11, e13⟩ | ⟨b11, e13⟩
      · replace e13 := some_eq e13
        subst e13
        exact AW.rA ⟨[(0, (vc (.flt .f32 a0.bits))), (1, (vc (.flt .f32 a1.bits))), (19, (vB (a0.eq (Fl.mk (k := .f32) 0 (by decide)))))], []⟩ (T2 ((Tt ∧ (a1.eq (Fl.mk (k := .f32) 0 (by decide))) = true) ∧ Tt ∧ T2 Tt)) [.no, .no, .dec true] [0, 1, 19] [] ⟨tr, tr, ⟨tr, b11⟩, tr, tr, tr, tr⟩ ⟨rfl, rfl⟩
      · replace e13 := some_eq e13
        subst e13
        exact AW.rA ⟨[(0, (vc (.flt .f32 a0.bits))), (1, (vc (.flt .f32 a1.bits))), (19, (vB false))], []⟩ (T2 ((Tt ∧ (a1.eq (Fl.mk (k := .f32) 0 (by decide))) = false) ∧ Tt ∧ T2 Tt)) [.no, .no, .dec false] [0, 1, 19] [] ⟨tr, tr, ⟨tr, b11⟩, tr, tr, tr, tr⟩ ⟨rfl, rfl⟩
    refine thenQ_normal ?_
    rcases ite2_cases h with ⟨b14, h⟩ | ⟨b14, h⟩
    · refine AW.cond_t rfl b14 ?_
      refine AW.sA ⟨[(4, (vc (.flt .f32 (Fl.mk (k := .f32) 0 (by decide)).bits)))], []⟩ (Tt ∧ Tt) [] [4] [] ⟨tr, tr⟩ ?_
      refine AW.ret ?_
      refine thenQ_ret ?_
      replace h := some_eq h
      subst h
      exact ⟨.inr rfl, retOK_of [(.one (cF (Fl.mk (k := .f32) 0 (by decide))))] (by kernel_rfl) ⟨⟨rfl, tr⟩, tr⟩ (of_decide_eq_true (by kernel_rfl))⟩
    · refine AW.cond_f rfl b14 ?_
      refine AW.skip ?_
      refine thenQ_normal ?_
      refine AW.seq ?_
      obtain ⟨v15, e16, h⟩ := bind_some h
      obtain ⟨c17, h⟩ := chk_some h
      refine AW.tA ⟨[(4, (vc (.flt .f32 (Fl.cv .f64 .f32 v15).bits)))], []⟩ (Tt ∧ ((convBits .f32 a0.bits .f64).isSome = true) ∧ Tt ∧ ((convBits .f32 a1.bits .f64).isSome = true) ∧ (((Eqc (.flt .f64 (Fl.cv .f32 .f64 a0).bits)) ∧ (Eqc (.flt .f64 (Fl.cv .f32 .f64 a1).bits)) ∧ Tt) ∧ CallOK Try.prog 41 [.one (.flt .f64 (Fl.cv .f32 .f64 a0).bits), .one (.flt .f64 (Fl.cv .f32 .f64 a1).bits)] [.one (.flt .f64 v15.bits)]) ∧ ((convBits .f64 v15.bits .f32).isSome = true) ∧ Tt ∧ Tt) [.no, .no, .no, .no, .call [.one (.flt .f64 (Fl.cv .f32 .f64 a0).bits), .one (.flt .f64 (Fl.cv .f32 .f64 a1).bits)] [.one (.flt .f64 v15.bits)] [[.view]]] [4] [] ⟨tr, cv_wide a0, tr, cv_wide a1, ⟨⟨rfl, rfl, tr⟩, ok_impl_wideAngle K (Fl.cv .f32 .f64 a0) (Fl.cv .f32 .f64 a1) v15 e16⟩, c17, tr, tr⟩ ?_
      refine AW.ret ?_
      replace h := some_eq h
      subst h
      exact ⟨.inr rfl, retOK_of [(.one (cF (Fl.cv .f64 .f32 v15)))] (by kernel_rfl) ⟨⟨rfl, tr⟩, tr⟩ (of_decide_eq_true (by kernel_rfl))⟩

/-! impl.AngleOf -/
def impl_AngleOf (K : Nat) (a0 : Turn) : Option (F32) :=
  (impl_Turn_vector K a0).bind fun v1 => (impl_LongOf K v1).bind fun v3 => (impl_size K a0.W).bind fun v5 => (impl_AngleTurns K v3 v5).bind fun v7 => some ((Fl.mk (k := .f32) 1073741824 (by decide)).mul v7)

theorem ok_impl_AngleOf (K : Nat) (a0 : Turn) (o : (F32)) (h : impl_AngleOf K a0 = some o) : CallOK Try.prog 19 [.agg (cs_Turn a0)] [.one (.flt .f32 o.bits)] := by
  refine callOK_of_AW Try.func19 rfl (by kernel_rfl) (Nat.le_of_ble_eq_true (by kernel_rfl)) ?_
  intro w0
  unfold impl_AngleOf at h
  refine AW.sA ⟨[(1, (vp 1 0))], [(1, (.box [(cF a0.W), (cF a0.X), (cF a0.Y), (cF a0.Z)]))]⟩ (T2 Tt) [.box 1] [1] [1] ⟨tr, tr, tr⟩ ?_
  refine AW.seq ?_
  obtain ⟨v1, e2, h⟩ := bind_some h
  obtain ⟨v3, e4, h⟩ := bind_some h
  obtain ⟨v5, e6, h⟩ := bind_some h
  obtain ⟨v7, e8, h⟩ := bind_some h
  refine AW.dA ⟨[(2, (vc (.flt .f32 ((Fl.mk (k := .f32) 1073741824 (by decide)).mul v7).bits)))], []⟩ ((Tt ∧ ((((eF a0.W) ∧ (eF a0.X) ∧ (eF a0.Y) ∧ (eF a0.Z) ∧ Tt) ∧ Tt) ∧ CallOK Try.prog 31 [.agg (cs_Turn a0)] [.agg (cs_Vector v1)]) ∧ ((((eF v1.X) ∧ (eF v1.Y) ∧ (eF v1.Z) ∧ Tt) ∧ Tt) ∧ CallOK Try.prog 30 [.agg (cs_Vector v1)] [.one (.flt .f32 v3.bits)]) ∧ T2 ((((eF a0.W) ∧ Tt) ∧ CallOK Try.prog 32 [.one (.flt .f32 a0.W.bits)] [.one (.flt .f32 v5.bits)]) ∧ (((eF v3) ∧ (eF v5) ∧ Tt) ∧ CallOK Try.prog 29 [.one (.flt .f32 v3.bits), .one (.flt .f32 v5.bits)] [.one (.flt .f32 v7.bits)]) ∧ T2 Tt)) ∧ (Tt)) 9 [.no, .call [.agg (cs_Turn a0)] [.agg (cs_Vector v1)] [[.view, .view, .view]], .call [.agg (cs_Vector v1)] [.one (.flt .f32 v3.bits)] [[.view]], .no, .no, .call [.one (.flt .f32 a0.W.bits)] [.one (.flt .f32 v5.bits)] [[.view]], .call [.one (.flt .f32 v3.bits), .one (.flt .f32 v5.bits)] [.one (.flt .f32 v7.bits)] [[.view]]] [2] [] ⟨⟨tr, ⟨⟨⟨rfl, rfl, rfl, rfl, tr⟩, tr⟩, ok_impl_Turn_vector K a0 v1 e2⟩, ⟨⟨⟨rfl, rfl, rfl, tr⟩, tr⟩, ok_impl_LongOf K v1 v3 e4⟩, tr, tr, ⟨⟨rfl, tr⟩, ok_impl_size K a0.W v5 e6⟩, ⟨⟨rfl, rfl, tr⟩, ok_impl_AngleTurns K v3 v5 v7 e8⟩, tr, tr, tr⟩, tr⟩ ?_
  refine thenQ_normal ?_
  refine AW.ret ?_
  replace h := some_eq h
  subst h
  exact ⟨.inr rfl, retOK_of [(.one (cF ((Fl.mk (k := .f32) 1073741824 (by decide)).mul v7)))] (by kernel_rfl) ⟨⟨rfl, tr⟩, tr⟩ (of_decide_eq_true (by kernel_rfl))⟩

/-! impl.ApartTurns -/
def impl_ApartTurns (K : Nat) (a0 : Turn) (a1 : Turn) : Option (F32) :=
  (impl_InverseOf K a0).bind fun v1 => (impl_MulTurns K v1 a1).bind fun v3 => (impl_AngleOf K v3).bind fun v5 => some v5

theorem ok_impl_ApartTurns (K : Nat) (a0 : Turn) (a1 : Turn) (o : (F32)) (h : impl_ApartTurns K a0 a1 = some o) : CallOK Try.prog 10 [.agg (cs_Turn a0), .agg (cs_Turn a1)] [.one (.flt .f32 o.bits)] := by
  refine callOK_of_AW Try.func10 rfl (by kernel_rfl) (Nat.le_of_ble_eq_true (by kernel_rfl)) ?_
  intro w0
  unfold impl_ApartTurns at h
  refine AW.sA ⟨[(2, (vp 1 0)), (3, (vp 2 0))], [(1, (.box [(cF a0.W), (cF a0.X), (cF a0.Y), (cF a0.Z)])), (2, (.box [(cF a1.W), (cF a1.X), (cF a1.Y), (cF a1.Z)]))]⟩ (Tt ∧ T2 Tt) [.box 1, .box 2] [2, 3] [1, 2] ⟨tr, tr, tr, tr⟩ ?_
  refine AW.seq ?_
  obtain ⟨v1, e2, h⟩ := bind_some h
  obtain ⟨v3, e4, h⟩ := bind_some h
  obtain ⟨v5, e6, h⟩ := bind_some h
  refine AW.dA ⟨[(4, (vc (.flt .f32 v5.bits)))], []⟩ ((Tt ∧ ((((eF a0.W) ∧ (eF a0.X) ∧ (eF a0.Y) ∧ (eF a0.Z) ∧ Tt) ∧ Tt) ∧ CallOK Try.prog 21 [.agg (cs_Turn a0)] [.agg (cs_Turn v1)]) ∧ Tt ∧ ((((eF v1.W) ∧ (eF v1.X) ∧ (eF v1.Y) ∧ (eF v1.Z) ∧ Tt) ∧ ((eF a1.W) ∧ (eF a1.X) ∧ (eF a1.Y) ∧ (eF a1.Z) ∧ Tt) ∧ Tt) ∧ CallOK Try.prog 20 [.agg (cs_Turn v1), .agg (cs_Turn a1)] [.agg (cs_Turn v3)]) ∧ ((((eF v3.W) ∧ (eF v3.X) ∧ (eF v3.Y) ∧ (eF v3.Z) ∧ Tt) ∧ Tt) ∧ CallOK Try.prog 19 [.agg (cs_Turn v3)] [.one (.flt .f32 v5.bits)]) ∧ Tt ∧ Tt) ∧ (Tt)) 6 [.no, .call [.agg (cs_Turn a0)] [.agg (cs_Turn v1)] [[.view, .view, .view, .view]], .no, .call [.agg (cs_Turn v1), .agg (cs_Turn a1)] [.agg (cs_Turn v3)] [[.view, .view, .view, .view]], .call [.agg (cs_Turn v3)] [.one (.flt .f32 v5.bits)] [[.view]]] [4] [] ⟨⟨tr, ⟨⟨⟨rfl, rfl, rfl, rfl, tr⟩, tr⟩, ok_impl_InverseOf K a0 v1 e2⟩, tr, ⟨⟨⟨rfl, rfl, rfl, rfl, tr⟩, ⟨rfl, rfl, rfl, rfl, tr⟩, tr⟩, ok_impl_MulTurns K v1 a1 v3 e4⟩, ⟨⟨⟨rfl, rfl, rfl, rfl, tr⟩, tr⟩, ok_impl_AngleOf K v3 v5 e6⟩, tr, tr⟩, tr⟩ ?_
  refine thenQ_normal ?_
  refine AW.ret ?_
  replace h := some_eq h
  subst h
  exact ⟨.inr rfl, retOK_of [(.one (cF v5))] (by kernel_rfl) ⟨⟨rfl, tr⟩, tr⟩ (of_decide_eq_true (by kernel_rfl))⟩

/-! impl.CurveTurn -/
def impl_CurveTurn (K : Nat) (a0 : Turn) (a1 : Turn) (a2 : Turn) (a3 : Turn) (a4 : F32) : Option (Turn) :=
  (impl_NearTurn K a0 a1 a4).bind fun v1 => (impl_NearTurn K a1 a2 a4).bind fun v3 => (impl_NearTurn K a2 a3 a4).bind fun v5 => (impl_NearTurn K v1 v3 a4).bind fun v7 => (impl_NearTurn K v3 v5 a4).bind fun v9 => (impl_NearTurn K v7 v9 a4).bind fun v11 => some v11

theorem ok_impl_CurveTurn (K : Nat) (a0 : Turn) (a1 : Turn) (a2 : Turn) (a3 : Turn) (a4 : F32) (o : (Turn)) (h : impl_CurveTurn K a0 a1 a2 a3 a4 = some o) : CallOK Try.prog 11 [.agg (cs_Turn a0), .agg (cs_Turn a1), .agg (cs_Turn a2), .agg (cs_Turn a3), .one (.flt .f32 a4.bits)] [.agg (cs_Turn o)] := by
  refine callOK_of_AW Try.func11 rfl (by kernel_rfl) (Nat.le_of_ble_eq_true (by kernel_rfl)) ?_
  intro w0
  unfold impl_CurveTurn at h
  refine AW.sA ⟨[(4, (vc (.flt .f32 a4.bits))), (5, (vp 1 0)), (6, (vp 2 0)), (7, (vp 3 0)), (8, (vp 4 0)), (10, (vp 5 0))], [(1, (.box [(cF a0.W), (cF a0.X), (cF a0.Y), (cF a0.Z)])), (2, (.box [(cF a1.W), (cF a1.X), (cF a1.Y), (cF a1.Z)])), (3, (.box [(cF a2.W), (cF a2.X), (cF a2.Y), (cF a2.Z)])), (4, (.box [(cF a3.W), (cF a3.X), (cF a3.Y), (cF a3.Z)])), (5, (.box [(cF (default : F32)), (cF (default : F32)), (cF (default : F32)), (cF (default : F32))]))]⟩ (Tt ∧ T4 Tt) [.box 1, .box 2, .box 3, .box 4, .box 5] [4, 5, 6, 7, 8, 10] [1, 2, 3, 4, 5] ⟨tr, tr, tr, tr, tr, tr⟩ ?_
  refine AW.seq ?_
  obtain ⟨v1, e2, h⟩ := bind_some h
  obtain ⟨v3, e4, h⟩ := bind_some h
  obtain ⟨v5, e6, h⟩ := bind_some h
  refine AW.dA ⟨[(4, (vc (.flt .f32 a4.bits))), (10, (vp 5 0)), (11, (vp 6 0)), (12, (vp 7 0)), (13, (vp 8 0))], [(5, (.box [(cF (default : F32)), (cF (default : F32)), (cF (default : F32)), (cF (default : F32))])), (6, (.box [(cF v1.W), (cF v1.X), (cF v1.Y), (cF v1.Z)])), (7, (.box [(cF v3.W), (cF v3.X), (cF v3.Y), (cF v3.Z)])), (8, (.box [(cF v5.W), (cF v5.X), (cF v5.Y), (cF v5.Z)]))]⟩ ((Tt ∧ T2 (((((eF a0.W) ∧ (eF a0.X) ∧ (eF a0.Y) ∧ (eF a0.Z) ∧ Tt) ∧ ((eF a1.W) ∧ (eF a1.X) ∧ (eF a1.Y) ∧ (eF a1.Z) ∧ Tt) ∧ (eF a4) ∧ Tt) ∧ CallOK Try.prog 8 [.agg (cs_Turn a0), .agg (cs_Turn a1), .one (.flt .f32 a4.bits)] [.agg (cs_Turn v1)]) ∧ Tt ∧ T2 (((((eF a1.W) ∧ (eF a1.X) ∧ (eF a1.Y) ∧ (eF a1.Z) ∧ Tt) ∧ ((eF a2.W) ∧ (eF a2.X) ∧ (eF a2.Y) ∧ (eF a2.Z) ∧ Tt) ∧ (eF a4) ∧ Tt) ∧ CallOK Try.prog 8 [.agg (cs_Turn a1), .agg (cs_Turn a2), .one (.flt .f32 a4.bits)] [.agg (cs_Turn v3)]) ∧ Tt ∧ T2 (((((eF a2.W) ∧ (eF a2.X) ∧ (eF a2.Y) ∧ (eF a2.Z) ∧ Tt) ∧ ((eF a3.W) ∧ (eF a3.X) ∧ (eF a3.Y) ∧ (eF a3.Z) ∧ Tt) ∧ (eF a4) ∧ Tt) ∧ CallOK Try.prog 8 [.agg (cs_Turn a2), .agg (cs_Turn a3), .one (.flt .f32 a4.bits)] [.agg (cs_Turn v5)]) ∧ Tt ∧ T2 Tt)))) ∧ (Tt ∧ T2 Tt)) 15 [.no, .no, .no, .call [.agg (cs_Turn a0), .agg (cs_Turn a1), .one (.flt .f32 a4.bits)] [.agg (cs_Turn v1)] [[.view, .view, .view, .view]], .no, .no, .no, .call [.agg (cs_Turn a1), .agg (cs_Turn a2), .one (.flt .f32 a4.bits)] [.agg (cs_Turn v3)] [[.view, .view, .view, .view]], .no, .no, .no, .call [.agg (cs_Turn a2), .agg (cs_Turn a3), .one (.flt .f32 a4.bits)] [.agg (cs_Turn v5)] [[.view, .view, .view, .view]], .box 6, .box 7, .box 8] [4, 10, 11, 12, 13] [5, 6, 7, 8] ⟨⟨tr, tr, tr, ⟨⟨⟨rfl, rfl, rfl, rfl, tr⟩, ⟨rfl, rfl, rfl, rfl, tr⟩, rfl, tr⟩, ok_impl_NearTurn K a0 a1 a4 v1 e2⟩, tr, tr, tr, ⟨⟨⟨rfl, rfl, rfl, rfl, tr⟩, ⟨rfl, rfl, rfl, rfl, tr⟩, rfl, tr⟩, ok_impl_NearTurn K a1 a2 a4 v3 e4⟩, tr, tr, tr, ⟨⟨⟨rfl, rfl, rfl, rfl, tr⟩, ⟨rfl, rfl, rfl, rfl, tr⟩, rfl, tr⟩, ok_impl_NearTurn K a2 a3 a4 v5 e6⟩, tr, tr, tr, tr⟩, ⟨tr, tr, tr, tr⟩⟩ ?_
  refine thenQ_normal ?_
  refine AW.seq ?_
  obtain ⟨v7, e8, h⟩ := bind_some h
  obtain ⟨v9, e10, h⟩ := bind_some h
  obtain ⟨v11, e12, h⟩ := bind_some h
  refine AW.dA ⟨[(10, (vp 5 0))], [(5, (.box [(cF v11.W), (cF v11.X), (cF v11.Y), (cF v11.Z)]))]⟩ ((Tt ∧ T2 (((((eF v1.W) ∧ (eF v1.X) ∧ (eF v1.Y) ∧ (eF v1.Z) ∧ Tt) ∧ ((eF v3.W) ∧ (eF v3.X) ∧ (eF v3.Y) ∧ (eF v3.Z) ∧ Tt) ∧ (eF a4) ∧ Tt) ∧ CallOK Try.prog 8 [.agg (cs_Turn v1), .agg (cs_Turn v3), .one (.flt .f32 a4.bits)] [.agg (cs_Turn v7)]) ∧ Tt ∧ T2 (((((eF v3.W) ∧ (eF v3.X) ∧ (eF v3.Y) ∧ (eF v3.Z) ∧ Tt) ∧ ((eF v5.W) ∧ (eF v5.X) ∧ (eF v5.Y) ∧ (eF v5.Z) ∧ Tt) ∧ (eF a4) ∧ Tt) ∧ CallOK Try.prog 8 [.agg (cs_Turn v3), .agg (cs_Turn v5), .one (.flt .f32 a4.bits)] [.agg (cs_Turn v9)]) ∧ Tt ∧ ((((eF v7.W) ∧ (eF v7.X) ∧ (eF v7.Y) ∧ (eF v7.Z) ∧ Tt) ∧ ((eF v9.W) ∧ (eF v9.X) ∧ (eF v9.Y) ∧ (eF v9.Z) ∧ Tt) ∧ (eF a4) ∧ Tt) ∧ CallOK Try.prog 8 [.agg (cs_Turn v7), .agg (cs_Turn v9), .one (.flt .f32 a4.bits)] [.agg (cs_Turn v11)]) ∧ Tt))) ∧ (Tt ∧ Tt)) 10 [.no, .no, .no, .call [.agg (cs_Turn v1), .agg (cs_Turn v3), .one (.flt .f32 a4.bits)] [.agg (cs_Turn v7)] [[.view, .view, .view, .view]], .no, .no, .no, .call [.agg (cs_Turn v3), .agg (cs_Turn v5), .one (.flt .f32 a4.bits)] [.agg (cs_Turn v9)] [[.view, .view, .view, .view]], .no, .call [.agg (cs_Turn v7), .agg (cs_Turn v9), .one (.flt .f32 a4.bits)] [.agg (cs_Turn v11)] [[.view, .view, .view, .view]]] [10] [5] ⟨⟨tr, tr, tr, ⟨⟨⟨rfl, rfl, rfl, rfl, tr⟩, ⟨rfl, rfl, rfl, rfl, tr⟩, rfl, tr⟩, ok_impl_NearTurn K v1 v3 a4 v7 e8⟩, tr, tr, tr, ⟨⟨⟨rfl, rfl, rfl, rfl, tr⟩, ⟨rfl, rfl, rfl, rfl, tr⟩, rfl, tr⟩, ok_impl_NearTurn K v3 v5 a4 v9 e10⟩, tr, ⟨⟨⟨rfl, rfl, rfl, rfl, tr⟩, ⟨rfl, rfl, rfl, rfl, tr⟩, rfl, tr⟩, ok_impl_NearTurn K v7 v9 a4 v11 e12⟩, tr⟩, ⟨tr, tr⟩⟩ ?_
  refine thenQ_normal ?_
  refine AW.ret ?_
  replace h := some_eq h
  subst h
  exact ⟨.inr rfl, retOK_of [(.agg [(cF v11.W), (cF v11.X), (cF v11.Y), (cF v11.Z)])] (by kernel_rfl) ⟨⟨⟨rfl, tr⟩, ⟨rfl, tr⟩, ⟨rfl, tr⟩, ⟨rfl, tr⟩, tr⟩, tr⟩ (of_decide_eq_true (by kernel_rfl))⟩

/-! laws.FnNearTurns -/
def laws_FnNearTurns (K : Nat) (a0 : (List Int)) (a1 : (List Int)) : Option (Bool) :=
  (laws_r8Long K a0 a1).bind fun v1 => ite2 (v1) (some true) ((spec_R8Turn K a0).bind fun v4 => (spec_R8Turn K a1).bind fun v6 => chk (a0.length < 2 ^ 62) ((spec_R8Turn K (a0.drop (a0.length / 2))).bind fun v9 => chk (a1.length < 2 ^ 62) ((spec_R8Turn K (a1.drop (a1.length / 2))).bind fun v12 => (laws_r8At K a1 (40 : Int) (17 : Int)).bind fun v14 => (impl_NearTurn K v4 v6 (Fl.mk (k := .f32) 0 (by decide))).bind fun v16 => (impl_NearTurn K v4 v6 (Fl.mk (k := .f32) 1065353216 (by decide))).bind fun v18 => (impl_NearTurn K v4 v6 ((Fl.ofInt .f32 v14).div (Fl.mk (k := .f32) 1098907648 (by decide)))).bind fun v20 => (impl_MixTurns K ([v4]) ([(Fl.mk (k := .f32) 1065353216 (by decide))])).bind fun v22 => (ite2 ((!v22.2)) (some true) ((impl_ApartTurns K v4 v16).bind fun v25 => ite2 (((Fl.cv .f32 .f64 v25).gt (Fl.mk (k := .f64) 4562254508917369340 (by decide)))) (some true) ((impl_ApartTurns K v6 v18).bind fun v28 => ite2 (((Fl.cv .f32 .f64 v28).gt (Fl.mk (k := .f64) 4562254508917369340 (by decide)))) (some true) ((impl_ApartTurns K v4 v22.1).bind fun v31 => ite2 (((Fl.cv .f32 .f64 v31).gt (Fl.mk (k := .f64) 4562254508917369340 (by decide)))) (some true) ((impl_ApartTurns K v4 v20).bind fun v34 => (impl_ApartTurns K v4 v6).bind fun v36 => some ((Fl.cv .f32 .f64 v34).gt ((Fl.cv .f32 .f64 v36).add (Fl.mk (k := .f64) 4562254508917369340 (by decide))))))))).bind fun j38 => ite2 (j38) (some false) ((impl_CurveTurn K v4 v6 v9 v12 (Fl.mk (k := .f32) 0 (by decide))).bind fun v41 => (impl_CurveTurn K v4 v6 v9 v12 (Fl.mk (k := .f32) 1065353216 (by decide))).bind fun v43 => (impl_MixTurns K ([] : List Turn) ([] : List F32)).bind fun v45 => (ite2 ((!v45.2)) ((impl_ApartTurns K v4 v41).bind fun v48 => ite2 (((Fl.cv .f32 .f64 v48).lt' (Fl.mk (k := .f64) 4576918229304087675 (by decide)))) ((impl_ApartTurns K v12 v43).bind fun v51 => some ((Fl.cv .f32 .f64 v51).lt' (Fl.mk (k := .f64) 4576918229304087675 (by decide)))) (some false)) (some false)).bind fun j53 => some j53))))

theorem ok_laws_FnNearTurns (K : Nat) (a0 : (List Int)) (a1 : (List Int)) (o : (Bool)) (h : laws_FnNearTurns K a0 a1 = some o) : CallOK Try.prog 3 [.one (sl 1 (csI .u8) a0), .one (sl 1 (csI .u8) a1)] [.one (.bool o)] := by
  refine callOK_of_AW Try.func3 rfl (by kernel_rfl) (Nat.le_of_ble_eq_true (by kernel_rfl)) ?_
  intro w0
  unfold laws_FnNearTurns at h
  refine AW.sC (Tt ∧ Tt) [] [0, 1] [] ⟨tr, tr⟩ ?_
  refine AW.seq ?_
  refine AW.seq ?_
  obtain ⟨v1, e2, h⟩ := bind_some h
  refine AW.tA ⟨[(0, (vc (sl 1 (csI .u8) a0))), (1, (vc (sl 1 (csI .u8) a1))), (21, (vB v1))], []⟩ (T2 ((((Eqc (sl 1 (csI .u8) a0)) ∧ (Eqc (sl 1 (csI .u8) a1)) ∧ Tt) ∧ CallOK Try.prog 4 [.one (sl 1 (csI .u8) a0), .one (sl 1 (csI .u8) a1)] [.one (.bool v1)]) ∧ Tt)) [.no, .no, .call [.one (sl 1 (csI .u8) a0), .one (sl 1 (csI .u8) a1)] [.one (.bool v1)] [[.view]]] [0, 1, 21] [] ⟨tr, tr, ⟨⟨rfl, rfl, tr⟩, ok_laws_r8Long K a0 a1 v1 e2⟩, tr⟩ ?_
  rcases ite2_cases h with ⟨b3, h⟩ | ⟨b3, h⟩
  · refine AW.cond_t rfl b3 ?_
    refine AW.sA ⟨[(4, (vB true))], []⟩ (Tt ∧ Tt) [] [4] [] ⟨tr, tr⟩ ?_
    refine AW.ret ?_
    refine thenQ_ret ?_
    replace h := some_eq h
    subst h
    exact ⟨.inr rfl, retOK_of [(.one (.c (.bool true)))] (by kernel_rfl) ⟨⟨rfl, tr⟩, tr⟩ (of_decide_eq_true (by kernel_rfl))⟩
  · refine AW.cond_f rfl b3 ?_
    refine AW.skip ?_
    refine thenQ_normal ?_
    refine AW.seq ?_
    obtain ⟨v4, e5, h⟩ := bind_some h
    refine AW.tC (Tt ∧ (((Eqc (sl 1 (csI .u8) a0)) ∧ Tt) ∧ CallOK Try.prog 5 [.one (sl 1 (csI .u8) a0)] [.agg (cs_Turn v4)]) ∧ T2 Tt) [.no, .call [.one (sl 1 (csI .u8) a0)] [.agg (cs_Turn v4)] [[.view, .view, .view, .view]], .box 1] [0, 1, 5] [1] ⟨tr, ⟨⟨rfl, tr⟩, ok_spec_R8Turn K a0 v4 e5⟩, tr, tr, tr⟩ ?_
    refine AW.seq ?_
    obtain ⟨v6, e7, h⟩ := bind_some h
    refine AW.tA ⟨[(0, (vc (sl 1 (csI .u8) a0))), (1, (vc (sl 1 (csI .u8) a1))), (5, (vp 1 0)), (6, (vp 2 0))], [(1, (.box [(cF v4.W), (cF v4.X), (cF v4.Y), (cF v4.Z)])), (2, (.box [(cF v6.W), (cF v6.X), (cF v6.Y), (cF v6.Z)]))]⟩ (Tt ∧ (((Eqc (sl 1 (csI .u8) a1)) ∧ Tt) ∧ CallOK Try.prog 5 [.one (sl 1 (csI .u8) a1)] [.agg (cs_Turn v6)]) ∧ T2 Tt) [.no, .call [.one (sl 1 (csI .u8) a1)] [.agg (cs_Turn v6)] [[.view, .view, .view, .view]], .box 2] [0, 1, 5, 6] [1, 2] ⟨tr, ⟨⟨rfl, tr⟩, ok_spec_R8Turn K a1 v6 e7⟩, tr, tr, tr⟩ ?_
    refine AW.seq ?_
    obtain ⟨c8, h⟩ := chk_some h
    obtain ⟨v9, e10, h⟩ := bind_some h
    refine AW.halfA 1 (a0.drop (a0.length / 2)).length (gl (csI .u8) (a0.drop (a0.length / 2))) [.no] [.call [.one (sl 1 (csI .u8) (a0.drop (a0.length / 2)))] [.agg (cs_Turn v9)] [[.view, .view, .view, .view]], .box 3] [1, 5, 6, 7] [1, 2, 3] (s' := ⟨[(1, (vc (sl 1 (csI .u8) a1))), (5, (vp 1 0)), (6, (vp 2 0)), (7, (vp 3 0))], [(1, (.box [(cF v4.W), (cF v4.X), (cF v4.Y), (cF v4.Z)])), (2, (.box [(cF v6.W), (cF v6.X), (cF v6.Y), (cF v6.Z)])), (3, (.box [(cF v9.W), (cF v9.X), (cF v9.Y), (cF v9.Z)]))]⟩) (ob := (Tt ∧ Tt) ∧ (a0.length < 2 ^ 62 ∧ (a0.drop (a0.length / 2)).length = a0.length - a0.length / 2 ∧ ∀ i j, i < (a0.drop (a0.length / 2)).length → j < 1 → gl (csI .u8) (a0.drop (a0.length / 2)) i j = gl (csI .u8) a0 (a0.length / 2 + i) j) ∧ ((((Eqc (sl 1 (csI .u8) (a0.drop (a0.length / 2)))) ∧ Tt) ∧ CallOK Try.prog 5 [.one (sl 1 (csI .u8) (a0.drop (a0.length / 2)))] [.agg (cs_Turn v9)]) ∧ T2 Tt)) (by kernel_rfl) ⟨⟨tr, tr⟩, (half_drop (cs := (csI .u8)) (sz := 1) c8), ⟨⟨⟨rfl, tr⟩, ok_spec_R8Turn K (a0.drop (a0.length / 2)) v9 e10⟩, tr, tr, tr⟩⟩ half_laws_r8Rest ?_
    refine thenQ_normal ?_
    refine AW.seq ?_
    obtain ⟨c11, h⟩ := chk_some h
    obtain ⟨v12, e13, h⟩ := bind_some h
    refine AW.halfA 1 (a1.drop (a1.length / 2)).length (gl (csI .u8) (a1.drop (a1.length / 2))) [.no] [.call [.one (sl 1 (csI .u8) (a1.drop (a1.length / 2)))] [.agg (cs_Turn v12)] [[.view, .view, .view, .view]], .box 4] [1, 5, 6, 7, 8] [1, 2, 3, 4] (s' := ⟨[(1, (vc (sl 1 (csI .u8) a1))), (5, (vp 1 0)), (6, (vp 2 0)), (7, (vp 3 0)), (8, (vp 4 0))], [(1, (.box [(cF v4.W), (cF v4.X), (cF v4.Y), (cF v4.Z)])), (2, (.box [(cF v6.W), (cF v6.X), (cF v6.Y), (cF v6.Z)])), (3, (.box [(cF v9.W), (cF v9.X), (cF v9.Y), (cF v9.Z)])), (4, (.box [(cF v12.W), (cF v12.X), (cF v12.Y), (cF v12.Z)]))]⟩) (ob := (Tt ∧ Tt) ∧ (a1.length < 2 ^ 62 ∧ (a1.drop (a1.length / 2)).length = a1.length - a1.length / 2 ∧ ∀ i j, i < (a1.drop (a1.length / 2)).length → j < 1 → gl (csI .u8) (a1.drop (a1.length / 2)) i j = gl (csI .u8) a1 (a1.length / 2 + i) j) ∧ ((((Eqc (sl 1 (csI .u8) (a1.drop (a1.length / 2)))) ∧ Tt) ∧ CallOK Try.prog 5 [.one (sl 1 (csI .u8) (a1.drop (a1.length / 2)))] [.agg (cs_Turn v12)]) ∧ T2 Tt)) (by kernel_rfl) ⟨⟨tr, tr⟩, (half_drop (cs := (csI .u8)) (sz := 1) c11), ⟨⟨⟨rfl, tr⟩, ok_spec_R8Turn K (a1.drop (a1.length / 2)) v12 e13⟩, tr, tr, tr⟩⟩ half_laws_r8Rest ?_
    refine thenQ_normal ?_
    refine AW.seq ?_
    obtain ⟨v14, e15, h⟩ := bind_some h
    refine AW.tC (Tt ∧ (((Eqc (sl 1 (csI .u8) a1)) ∧ (eI (40 : Int)) ∧ (eI (17 : Int)) ∧ Tt) ∧ CallOK Try.prog 7 [.one (sl 1 (csI .u8) a1), .one (.int .i64 (40 : Int)), .one (.int .i64 (17 : Int))] [.one (.int .i64 v14)]) ∧ Tt ∧ T2 Tt) [.no, .call [.one (sl 1 (csI .u8) a1), .one (.int .i64 (40 : Int)), .one (.int .i64 (17 : Int))] [.one (.int .i64 v14)] [[.view]]] [5, 6, 7, 8, 9] [1, 2, 3, 4] ⟨tr, ⟨⟨rfl, rfl, rfl, tr⟩, ok_laws_r8At K a1 (40 : Int) (17 : Int) v14 e15⟩, tr, tr, tr, tr⟩ ?_
    refine AW.seq ?_
    obtain ⟨v16, e17, h⟩ := bind_some h
    refine AW.tC (T2 (((((eF v4.W) ∧ (eF v4.X) ∧ (eF v4.Y) ∧ (eF v4.Z) ∧ Tt) ∧ ((eF v6.W) ∧ (eF v6.X) ∧ (eF v6.Y) ∧ (eF v6.Z) ∧ Tt) ∧ (eF (Fl.mk (k := .f32) 0 (by decide))) ∧ Tt) ∧ CallOK Try.prog 8 [.agg (cs_Turn v4), .agg (cs_Turn v6), .one (.flt .f32 (Fl.mk (k := .f32) 0 (by decide)).bits)] [.agg (cs_Turn v16)]) ∧ T2 Tt)) [.no, .no, .call [.agg (cs_Turn v4), .agg (cs_Turn v6), .one (.flt .f32 (Fl.mk (k := .f32) 0 (by decide)).bits)] [.agg (cs_Turn v16)] [[.view, .view, .view, .view]], .box 5] [5, 6, 7, 8, 9, 10] [1, 2, 3, 4, 5] ⟨tr, tr, ⟨⟨⟨rfl, rfl, rfl, rfl, tr⟩, ⟨rfl, rfl, rfl, rfl, tr⟩, rfl, tr⟩, ok_impl_NearTurn K v4 v6 (Fl.mk (k := .f32) 0 (by decide)) v16 e17⟩, tr, tr, tr⟩ ?_
    refine AW.seq ?_
    obtain ⟨v18, e19, h⟩ := bind_some h
    refine AW.tC (T2 (((((eF v4.W) ∧ (eF v4.X) ∧ (eF v4.Y) ∧ (eF v4.Z) ∧ Tt) ∧ ((eF v6.W) ∧ (eF v6.X) ∧ (eF v6.Y) ∧ (eF v6.Z) ∧ Tt) ∧ (eF (Fl.mk (k := .f32) 1065353216 (by decide))) ∧ Tt) ∧ CallOK Try.prog 8 [.agg (cs_Turn v4), .agg (cs_Turn v6), .one (.flt .f32 (Fl.mk (k := .f32) 1065353216 (by decide)).bits)] [.agg (cs_Turn v18)]) ∧ T2 Tt)) [.no, .no, .call [.agg (cs_Turn v4), .agg (cs_Turn v6), .one (.flt .f32 (Fl.mk (k := .f32) 1065353216 (by decide)).bits)] [.agg (cs_Turn v18)] [[.view, .view, .view, .view]], .box 6] [5, 6, 7, 8, 9, 10, 11] [1, 2, 3, 4, 5, 6] ⟨tr, tr, ⟨⟨⟨rfl, rfl, rfl, rfl, tr⟩, ⟨rfl, rfl, rfl, rfl, tr⟩, rfl, tr⟩, ok_impl_NearTurn K v4 v6 (Fl.mk (k := .f32) 1065353216 (by decide)) v18 e19⟩, tr, tr, tr⟩ ?_
    refine AW.seq ?_
    obtain ⟨v20, e21, h⟩ := bind_some h
    refine AW.tC (Tt ∧ T2 (((((eF v4.W) ∧ (eF v4.X) ∧ (eF v4.Y) ∧ (eF v4.Z) ∧ Tt) ∧ ((eF v6.W) ∧ (eF v6.X) ∧ (eF v6.Y) ∧ (eF v6.Z) ∧ Tt) ∧ (eF ((Fl.ofInt .f32 v14).div (Fl.mk (k := .f32) 1098907648 (by decide)))) ∧ Tt) ∧ CallOK Try.prog 8 [.agg (cs_Turn v4), .agg (cs_Turn v6), .one (.flt .f32 ((Fl.ofInt .f32 v14).div (Fl.mk (k := .f32) 1098907648 (by decide))).bits)] [.agg (cs_Turn v20)]) ∧ T2 Tt)) [.no, .no, .no, .call [.agg (cs_Turn v4), .agg (cs_Turn v6), .one (.flt .f32 ((Fl.ofInt .f32 v14).div (Fl.mk (k := .f32) 1098907648 (by decide))).bits)] [.agg (cs_Turn v20)] [[.view, .view, .view, .view]], .box 7] [5, 6, 7, 8, 10, 11, 12] [1, 2, 3, 4, 5, 6, 7] ⟨tr, tr, tr, ⟨⟨⟨rfl, rfl, rfl, rfl, tr⟩, ⟨rfl, rfl, rfl, rfl, tr⟩, rfl, tr⟩, ok_impl_NearTurn K v4 v6 ((Fl.ofInt .f32 v14).div (Fl.mk (k := .f32) 1098907648 (by decide))) v20 e21⟩, tr, tr, tr⟩ ?_
    refine AW.seq ?_
    obtain ⟨v22, e23, h⟩ := bind_some h
    refine AW.tA ⟨[(5, (vp 1 0)), (6, (vp 2 0)), (7, (vp 3 0)), (8, (vp 4 0)), (10, (vp 5 0)), (11, (vp 6 0)), (12, (vp 7 0)), (13, (vp 10 0)), (14, (vB v22.2))], [(1, (.box [(cF v4.W), (cF v4.X), (cF v4.Y), (cF v4.Z)])), (2, (.box [(cF v6.W), (cF v6.X), (cF v6.Y), (cF v6.Z)])), (3, (.box [(cF v9.W), (cF v9.X), (cF v9.Y), (cF v9.Z)])), (4, (.box [(cF v12.W), (cF v12.X), (cF v12.Y), (cF v12.Z)])), (5, (.box [(cF v16.W), (cF v16.X), (cF v16.Y), (cF v16.Z)])), (6, (.box [(cF v18.W), (cF v18.X), (cF v18.Y), (cF v18.Z)])), (7, (.box [(cF v20.W), (cF v20.X), (cF v20.Y), (cF v20.Z)])), (10, (.box [(cF v22.1.W), (cF v22.1.X), (cF v22.1.Y), (cF v22.1.Z)]))]⟩ (Tt ∧ (([v4]).length = 1 ∧ (((.flt .f32 v4.W.bits) : C) = (.flt .f32 v4.W.bits) ∧ Tt) ∧ (((.flt .f32 v4.X.bits) : C) = (.flt .f32 v4.X.bits) ∧ Tt) ∧ (((.flt .f32 v4.Y.bits) : C) = (.flt .f32 v4.Y.bits) ∧ Tt) ∧ (((.flt .f32 v4.Z.bits) : C) = (.flt .f32 v4.Z.bits) ∧ Tt) ∧ Tt) ∧ (([(Fl.mk (k := .f32) 1065353216 (by decide))]).length = 1 ∧ (((.flt .f32 (Fl.mk (k := .f32) 1065353216 (by decide)).bits) : C) = (.flt .f32 (Fl.mk (k := .f32) 1065353216 (by decide)).bits) ∧ Tt) ∧ Tt) ∧ (((Eqc (sl 4 cs_Turn ([v4]))) ∧ (Eqc (sl 1 (csF .f32) ([(Fl.mk (k := .f32) 1065353216 (by decide))]))) ∧ Tt) ∧ CallOK Try.prog 9 [.one (sl 4 cs_Turn ([v4])), .one (sl 1 (csF .f32) ([(Fl.mk (k := .f32) 1065353216 (by decide))]))] [.agg (cs_Turn v22.1), .one (.bool v22.2)]) ∧ T2 (T4 Tt)) [.no, .obj 8 ([v4]).length (gl cs_Turn ([v4])), .obj 9 ([(Fl.mk (k := .f32) 1065353216 (by decide))]).length (gl (csF .f32) ([(Fl.mk (k := .f32) 1065353216 (by decide))])), .call [.one (sl 4 cs_Turn ([v4])), .one (sl 1 (csF .f32) ([(Fl.mk (k := .f32) 1065353216 (by decide))]))] [.agg (cs_Turn v22.1), .one (.bool v22.2)] [[.view, .view, .view, .view], [.view]], .no, .no, .no, .box 10] [5, 6, 7, 8, 10, 11, 12, 13, 14] [1, 2, 3, 4, 5, 6, 7, 10] ⟨tr, ⟨rfl, ⟨⟨rfl, tr⟩, ⟨rfl, tr⟩, ⟨rfl, tr⟩, ⟨rfl, tr⟩, tr⟩⟩, ⟨rfl, ⟨⟨rfl, tr⟩, tr⟩⟩, ⟨⟨rfl, rfl, tr⟩, ok_impl_MixTurns K ([v4]) ([(Fl.mk (k := .f32) 1065353216 (by decide))]) v22 e23⟩, tr, tr, tr, tr, tr, tr, tr⟩ ?_
    refine AW.seq ?_
    refine AW.seq ?_
    obtain ⟨j38, e39, h⟩ := bind_some h
    refine AW.join1 (s2 := ⟨[(5, (vp 1 0)), (6, (vp 2 0)), (7, (vp 3 0)), (8, (vp 4 0)), (87, (vB j38))], [(1, (.box [(cF v4.W), (cF v4.X), (cF v4.Y), (cF v4.Z)])), (2, (.box [(cF v6.W), (cF v6.X), (cF v6.Y), (cF v6.Z)])), (3, (.box [(cF v9.W), (cF v9.X), (cF v9.Y), (cF v9.Z)])), (4, (.box [(cF v12.W), (cF v12.X), (cF v12.Y), (cF v12.Z)]))]⟩) ?_ ?_
    · rcases ite2_cases e39 with ⟨b24, e39⟩ | ⟨b24, e39⟩
      · replace e39 := some_eq e39
        subst e39
        exact AW.dA ⟨[(5, (vp 1 0)), (6, (vp 2 0)), (7, (vp 3 0)), (8, (vp 4 0)), (87, (vB true))], [(1, (.box [(cF v4.W), (cF v4.X), (cF v4.Y), (cF v4.Z)])), (2, (.box [(cF v6.W), (cF v6.X), (cF v6.Y), (cF v6.Z)])), (3, (.box [(cF v9.W), (cF v9.X), (cF v9.Y), (cF v9.Z)])), (4, (.box [(cF v12.W), (cF v12.X), (cF v12.Y), (cF v12.Z)]))]⟩ ((T2 ((Tt ∧ (!v22.2) = true) ∧ T4 (T4 (T4 (T4 (T4 (T4 (T4 (T4 Tt))))))))) ∧ (Tt)) 35 [.no, .no, .dec true] [5, 6, 7, 8, 87] [1, 2, 3, 4] ⟨⟨tr, tr, ⟨tr, b24⟩, tr, tr, tr, tr, tr, tr, tr, tr, tr, tr, tr, tr, tr, tr, tr, tr, tr, tr, tr, tr, tr, tr, tr, tr, tr, tr, tr, tr, tr, tr, tr, tr, tr⟩, tr⟩ ⟨rfl, rfl⟩
      · obtain ⟨v25, e26, e39⟩ := bind_some e39
        rcases ite2_cases e39 with ⟨b27, e39⟩ | ⟨b27, e39⟩
        · replace e39 := some_eq e39
          subst e39
          exact AW.dA ⟨[(5, (vp 1 0)), (6, (vp 2 0)), (7, (vp 3 0)), (8, (vp 4 0)), (87, (vB true))], [(1, (.box [(cF v4.W), (cF v4.X), (cF v4.Y), (cF v4.Z)])), (2, (.box [(cF v6.W), (cF v6.X), (cF v6.Y), (cF v6.Z)])), (3, (.box [(cF v9.W), (cF v9.X), (cF v9.Y), (cF v9.Z)])), (4, (.box [(cF v12.W), (cF v12.X), (cF v12.Y), (cF v12.Z)]))]⟩ ((T2 ((Tt ∧ (!v22.2) = false) ∧ T2 (((((eF v4.W) ∧ (eF v4.X) ∧ (eF v4.Y) ∧ (eF v4.Z) ∧ Tt) ∧ ((eF v16.W) ∧ (eF v16.X) ∧ (eF v16.Y) ∧ (eF v16.Z) ∧ Tt) ∧ Tt) ∧ CallOK Try.prog 10 [.agg (cs_Turn v4), .agg (cs_Turn v16)] [.one (.flt .f32 v25.bits)]) ∧ ((convBits .f32 v25.bits .f64).isSome = true) ∧ T2 ((Tt ∧ ((Fl.cv .f32 .f64 v25).gt (Fl.mk (k := .f64) 4562254508917369340 (by decide))) = true) ∧ Tt ∧ T4 (T4 (T4 (T4 (T4 (T4 Tt))))))))) ∧ (Tt)) 35 [.no, .no, .dec false, .no, .no, .call [.agg (cs_Turn v4), .agg (cs_Turn v16)] [.one (.flt .f32 v25.bits)] [[.view]], .no, .no, .no, .dec true] [5, 6, 7, 8, 87] [1, 2, 3, 4] ⟨⟨tr, tr, ⟨tr, b24⟩, tr, tr, ⟨⟨⟨rfl, rfl, rfl, rfl, tr⟩, ⟨rfl, rfl, rfl, rfl, tr⟩, tr⟩, ok_impl_ApartTurns K v4 v16 v25 e26⟩, cv_wide v25, tr, tr, ⟨tr, b27⟩, tr, tr, tr, tr, tr, tr, tr, tr, tr, tr, tr, tr, tr, tr, tr, tr, tr, tr, tr, tr, tr, tr, tr, tr, tr, tr⟩, tr⟩ ⟨rfl, rfl⟩
        · obtain ⟨v28, e29, e39⟩ := bind_some e39
          rcases ite2_cases e39 with ⟨b30, e39⟩ | ⟨b30, e39⟩
          · replace e39 := some_eq e39
            subst e39
            exact AW.dA ⟨[(5, (vp 1 0)), (6, (vp 2 0)), (7, (vp 3 0)), (8, (vp 4 0)), (87, (vB true))], [(1, (.box [(cF v4.W), (cF v4.X), (cF v4.Y), (cF v4.Z)])), (2, (.box [(cF v6.W), (cF v6.X), (cF v6.Y), (cF v6.Z)])), (3, (.box [(cF v9.W), (cF v9.X), (cF v9.Y), (cF v9.Z)])), (4, (.box [(cF v12.W), (cF v12.X), (cF v12.Y), (cF v12.Z)]))]⟩ ((T2 ((Tt ∧ (!v22.2) = false) ∧ T2 (((((eF v4.W) ∧ (eF v4.X) ∧ (eF v4.Y) ∧ (eF v4.Z) ∧ Tt) ∧ ((eF v16.W) ∧ (eF v16.X) ∧ (eF v16.Y) ∧ (eF v16.Z) ∧ Tt) ∧ Tt) ∧ CallOK Try.prog 10 [.agg (cs_Turn v4), .agg (cs_Turn v16)] [.one (.flt .f32 v25.bits)]) ∧ ((convBits .f32 v25.bits .f64).isSome = true) ∧ T2 ((Tt ∧ ((Fl.cv .f32 .f64 v25).gt (Fl.mk (k := .f64) 4562254508917369340 (by decide))) = false) ∧ T2 (((((eF v6.W) ∧ (eF v6.X) ∧ (eF v6.Y) ∧ (eF v6.Z) ∧ Tt) ∧ ((eF v18.W) ∧ (eF v18.X) ∧ (eF v18.Y) ∧ (eF v18.Z) ∧ Tt) ∧ Tt) ∧ CallOK Try.prog 10 [.agg (cs_Turn v6), .agg (cs_Turn v18)] [.one (.flt .f32 v28.bits)]) ∧ ((convBits .f32 v28.bits .f64).isSome = true) ∧ T2 ((Tt ∧ ((Fl.cv .f32 .f64 v28).gt (Fl.mk (k := .f64) 4562254508917369340 (by decide))) = true) ∧ T2 (T4 (T4 (T4 (T4 Tt)))))))))) ∧ (Tt)) 35 [.no, .no, .dec false, .no, .no, .call [.agg (cs_Turn v4), .agg (cs_Turn v16)] [.one (.flt .f32 v25.bits)] [[.view]], .no, .no, .no, .dec false, .no, .no, .call [.agg (cs_Turn v6), .agg (cs_Turn v18)] [.one (.flt .f32 v28.bits)] [[.view]], .no, .no, .no, .dec true] [5, 6, 7, 8, 87] [1, 2, 3, 4] ⟨⟨tr, tr, ⟨tr, b24⟩, tr, tr, ⟨⟨⟨rfl, rfl, rfl, rfl, tr⟩, ⟨rfl, rfl, rfl, rfl, tr⟩, tr⟩, ok_impl_ApartTurns K v4 v16 v25 e26⟩, cv_wide v25, tr, tr, ⟨tr, b27⟩, tr, tr, ⟨⟨⟨rfl, rfl, rfl, rfl, tr⟩, ⟨rfl, rfl, rfl, rfl, tr⟩, tr⟩, ok_impl_ApartTurns K v6 v18 v28 e29⟩, cv_wide v28, tr, tr, ⟨tr, b30⟩, tr, tr, tr, tr, tr, tr, tr, tr, tr, tr, tr, tr, tr, tr, tr, tr, tr, tr, tr⟩, tr⟩ ⟨rfl, rfl⟩
          · obtain ⟨v31, e32, e39⟩ := bind_some e39
            rcases ite2_cases e39 with ⟨b33, e39⟩ | ⟨b33, e39⟩
            · replace e39 := some_eq e39
              subst e39
              exact AW.dA ⟨[(5, (vp 1 0)), (6, (vp 2 0)), (7, (vp 3 0)), (8, (vp 4 0)), (87, (vB true))], [(1, (.box [(cF v4.W), (cF v4.X), (cF v4.Y), (cF v4.Z)])), (2, (.box [(cF v6.W), (cF v6.X), (cF v6.Y), (cF v6.Z)])), (3, (.box [(cF v9.W), (cF v9.X), (cF v9.Y), (cF v9.Z)])), (4, (.box [(cF v12.W), (cF v12.X), (cF v12.Y), (cF v12.Z)]))]⟩ ((T2 ((Tt ∧ (!v22.2) = false) ∧ T2 (((((eF v4.W) ∧ (eF v4.X) ∧ (eF v4.Y) ∧ (eF v4.Z) ∧ Tt) ∧ ((eF v16.W) ∧ (eF v16.X) ∧ (eF v16.Y) ∧ (eF v16.Z) ∧ Tt) ∧ Tt) ∧ CallOK Try.prog 10 [.agg (cs_Turn v4), .agg (cs_Turn v16)] [.one (.flt .f32 v25.bits)]) ∧ ((convBits .f32 v25.bits .f64).isSome = true) ∧ T2 ((Tt ∧ ((Fl.cv .f32 .f64 v25).gt (Fl.mk (k := .f64) 4562254508917369340 (by decide))) = false) ∧ T2 (((((eF v6.W) ∧ (eF v6.X) ∧ (eF v6.Y) ∧ (eF v6.Z) ∧ Tt) ∧ ((eF v18.W) ∧ (eF v18.X) ∧ (eF v18.Y) ∧ (eF v18.Z) ∧ Tt) ∧ Tt) ∧ CallOK Try.prog 10 [.agg (cs_Turn v6), .agg (cs_Turn v18)] [.one (.flt .f32 v28.bits)]) ∧ ((convBits .f32 v28.bits .f64).isSome = true) ∧ T2 ((Tt ∧ ((Fl.cv .f32 .f64 v28).gt (Fl.mk (k := .f64) 4562254508917369340 (by decide))) = false) ∧ T2 (((((eF v4.W) ∧ (eF v4.X) ∧ (eF v4.Y) ∧ (eF v4.Z) ∧ Tt) ∧ ((eF v22.1.W) ∧ (eF v22.1.X) ∧ (eF v22.1.Y) ∧ (eF v22.1.Z) ∧ Tt) ∧ Tt) ∧ CallOK Try.prog 10 [.agg (cs_Turn v4), .agg (cs_Turn v22.1)] [.one (.flt .f32 v31.bits)]) ∧ ((convBits .f32 v31.bits .f64).isSome = true) ∧ T2 ((Tt ∧ ((Fl.cv .f32 .f64 v31).gt (Fl.mk (k := .f64) 4562254508917369340 (by decide))) = true) ∧ Tt ∧ T2 (T4 (T4 Tt)))))))))) ∧ (Tt)) 35 [.no, .no, .dec false, .no, .no, .call [.agg (cs_Turn v4), .agg (cs_Turn v16)] [.one (.flt .f32 v25.bits)] [[.view]], .no, .no, .no, .dec false, .no, .no, .call [.agg (cs_Turn v6), .agg (cs_Turn v18)] [.one (.flt .f32 v28.bits)] [[.view]], .no, .no, .no, .dec false, .no, .no, .call [.agg (cs_Turn v4), .agg (cs_Turn v22.1)] [.one (.flt .f32 v31.bits)] [[.view]], .no, .no, .no, .dec true] [5, 6, 7, 8, 87] [1, 2, 3, 4] ⟨⟨tr, tr, ⟨tr, b24⟩, tr, tr, ⟨⟨⟨rfl, rfl, rfl, rfl, tr⟩, ⟨rfl, rfl, rfl, rfl, tr⟩, tr⟩, ok_impl_ApartTurns K v4 v16 v25 e26⟩, cv_wide v25, tr, tr, ⟨tr, b27⟩, tr, tr, ⟨⟨⟨rfl, rfl, rfl, rfl, tr⟩, ⟨rfl, rfl, rfl, rfl, tr⟩, tr⟩, ok_impl_ApartTurns K v6 v18 v28 e29⟩, cv_wide v28, tr, tr, ⟨tr, b30⟩, tr, tr, ⟨⟨⟨rfl, rfl, rfl, rfl, tr⟩, ⟨rfl, rfl, rfl, rfl, tr⟩, tr⟩, ok_impl_ApartTurns K v4 v22.1 v31 e32⟩, cv_wide v31, tr, tr, ⟨tr, b33⟩, tr, tr, tr, tr, tr, tr, tr, tr, tr, tr, tr, tr⟩, tr⟩ ⟨rfl, rfl⟩
            · obtain ⟨v34, e35, e39⟩ := bind_some e39
              obtain ⟨v36, e37, e39⟩ := bind_some e39
              replace e39 := some_eq e39
              subst e39
              exact AW.dA ⟨[(5, (vp 1 0)), (6, (vp 2 0)), (7, (vp 3 0)), (8, (vp 4 0)), (87, (vB ((Fl.cv .f32 .f64 v34).gt ((Fl.cv .f32 .f64 v36).add (Fl.mk (k := .f64) 4562254508917369340 (by decide))))))], [(1, (.box [(cF v4.W), (cF v4.X), (cF v4.Y), (cF v4.Z)])), (2, (.box [(cF v6.W), (cF v6.X), (cF v6.Y), (cF v6.Z)])), (3, (.box [(cF v9.W), (cF v9.X), (cF v9.Y), (cF v9.Z)])), (4, (.box [(cF v12.W), (cF v12.X), (cF v12.Y), (cF v12.Z)]))]⟩ ((T2 ((Tt ∧ (!v22.2) = false) ∧ T2 (((((eF v4.W) ∧ (eF v4.X) ∧ (eF v4.Y) ∧ (eF v4.Z) ∧ Tt) ∧ ((eF v16.W) ∧ (eF v16.X) ∧ (eF v16.Y) ∧ (eF v16.Z) ∧ Tt) ∧ Tt) ∧ CallOK Try.prog 10 [.agg (cs_Turn v4), .agg (cs_Turn v16)] [.one (.flt .f32 v25.bits)]) ∧ ((convBits .f32 v25.bits .f64).isSome = true) ∧ T2 ((Tt ∧ ((Fl.cv .f32 .f64 v25).gt (Fl.mk (k := .f64) 4562254508917369340 (by decide))) = false) ∧ T2 (((((eF v6.W) ∧ (eF v6.X) ∧ (eF v6.Y) ∧ (eF v6.Z) ∧ Tt) ∧ ((eF v18.W) ∧ (eF v18.X) ∧ (eF v18.Y) ∧ (eF v18.Z) ∧ Tt) ∧ Tt) ∧ CallOK Try.prog 10 [.agg (cs_Turn v6), .agg (cs_Turn v18)] [.one (.flt .f32 v28.bits)]) ∧ ((convBits .f32 v28.bits .f64).isSome = true) ∧ T2 ((Tt ∧ ((Fl.cv .f32 .f64 v28).gt (Fl.mk (k := .f64) 4562254508917369340 (by decide))) = false) ∧ T2 (((((eF v4.W) ∧ (eF v4.X) ∧ (eF v4.Y) ∧ (eF v4.Z) ∧ Tt) ∧ ((eF v22.1.W) ∧ (eF v22.1.X) ∧ (eF v22.1.Y) ∧ (eF v22.1.Z) ∧ Tt) ∧ Tt) ∧ CallOK Try.prog 10 [.agg (cs_Turn v4), .agg (cs_Turn v22.1)] [.one (.flt .f32 v31.bits)]) ∧ ((convBits .f32 v31.bits .f64).isSome = true) ∧ T2 ((Tt ∧ ((Fl.cv .f32 .f64 v31).gt (Fl.mk (k := .f64) 4562254508917369340 (by decide))) = false) ∧ T2 (((((eF v4.W) ∧ (eF v4.X) ∧ (eF v4.Y) ∧ (eF v4.Z) ∧ Tt) ∧ ((eF v20.W) ∧ (eF v20.X) ∧ (eF v20.Y) ∧ (eF v20.Z) ∧ Tt) ∧ Tt) ∧ CallOK Try.prog 10 [.agg (cs_Turn v4), .agg (cs_Turn v20)] [.one (.flt .f32 v34.bits)]) ∧ ((convBits .f32 v34.bits .f64).isSome = true) ∧ T2 (((((eF v4.W) ∧ (eF v4.X) ∧ (eF v4.Y) ∧ (eF v4.Z) ∧ Tt) ∧ ((eF v6.W) ∧ (eF v6.X) ∧ (eF v6.Y) ∧ (eF v6.Z) ∧ Tt) ∧ Tt) ∧ CallOK Try.prog 10 [.agg (cs_Turn v4), .agg (cs_Turn v6)] [.one (.flt .f32 v36.bits)]) ∧ ((convBits .f32 v36.bits .f64).isSome = true) ∧ Tt ∧ T2 Tt)))))))))) ∧ (Tt)) 35 [.no, .no, .dec false, .no, .no, .call [.agg (cs_Turn v4), .agg (cs_Turn v16)] [.one (.flt .f32 v25.bits)] [[.view]], .no, .no, .no, .dec false, .no, .no, .call [.agg (cs_Turn v6), .agg (cs_Turn v18)] [.one (.flt .f32 v28.bits)] [[.view]], .no, .no, .no, .dec false, .no, .no, .call [.agg (cs_Turn v4), .agg (cs_Turn v22.1)] [.one (.flt .f32 v31.bits)] [[.view]], .no, .no, .no, .dec false, .no, .no, .call [.agg (cs_Turn v4), .agg (cs_Turn v20)] [.one (.flt .f32 v34.bits)] [[.view]], .no, .no, .no, .call [.agg (cs_Turn v4), .agg (cs_Turn v6)] [.one (.flt .f32 v36.bits)] [[.view]]] [5, 6, 7, 8, 87] [1, 2, 3, 4] ⟨⟨tr, tr, ⟨tr, b24⟩, tr, tr, ⟨⟨⟨rfl, rfl, rfl, rfl, tr⟩, ⟨rfl, rfl, rfl, rfl, tr⟩, tr⟩, ok_impl_ApartTurns K v4 v16 v25 e26⟩, cv_wide v25, tr, tr, ⟨tr, b27⟩, tr, tr, ⟨⟨⟨rfl, rfl, rfl, rfl, tr⟩, ⟨rfl, rfl, rfl, rfl, tr⟩, tr⟩, ok_impl_ApartTurns K v6 v18 v28 e29⟩, cv_wide v28, tr, tr, ⟨tr, b30⟩, tr, tr, ⟨⟨⟨rfl, rfl, rfl, rfl, tr⟩, ⟨rfl, rfl, rfl, rfl, tr⟩, tr⟩, ok_impl_ApartTurns K v4 v22.1 v31 e32⟩, cv_wide v31, tr, tr, ⟨tr, b33⟩, tr, tr, ⟨⟨⟨rfl, rfl, rfl, rfl, tr⟩, ⟨rfl, rfl, rfl, rfl, tr⟩, tr⟩, ok_impl_ApartTurns K v4 v20 v34 e35⟩, cv_wide v34, tr, tr, ⟨⟨⟨rfl, rfl, rfl, rfl, tr⟩, ⟨rfl, rfl, rfl, rfl, tr⟩, tr⟩, ok_impl_ApartTurns K v4 v6 v36 e37⟩, cv_wide v36, tr, tr, tr, tr⟩, tr⟩ ⟨rfl, rfl⟩
    refine thenQ_normal ?_
    rcases ite2_cases h with ⟨b40, h⟩ | ⟨b40, h⟩
    · refine AW.cond_t rfl b40 ?_
      refine AW.sA ⟨[(4, (vB false))], []⟩ (Tt ∧ Tt) [] [4] [] ⟨tr, tr⟩ ?_
      refine AW.ret ?_
      refine thenQ_ret ?_
      replace h := some_eq h
      subst h
      exact ⟨.inr rfl, retOK_of [(.one (.c (.bool false)))] (by kernel_rfl) ⟨⟨rfl, tr⟩, tr⟩ (of_decide_eq_true (by kernel_rfl))⟩
    · refine AW.cond_f rfl b40 ?_
      refine AW.skip ?_
      refine thenQ_normal ?_
      refine AW.seq ?_
      obtain ⟨v41, e42, h⟩ := bind_some h
      refine AW.tC (T4 (((((eF v4.W) ∧ (eF v4.X) ∧ (eF v4.Y) ∧ (eF v4.Z) ∧ Tt) ∧ ((eF v6.W) ∧ (eF v6.X) ∧ (eF v6.Y) ∧ (eF v6.Z) ∧ Tt) ∧ ((eF v9.W) ∧ (eF v9.X) ∧ (eF v9.Y) ∧ (eF v9.Z) ∧ Tt) ∧ ((eF v12.W) ∧ (eF v12.X) ∧ (eF v12.Y) ∧ (eF v12.Z) ∧ Tt) ∧ (eF (Fl.mk (k := .f32) 0 (by decide))) ∧ Tt) ∧ CallOK Try.prog 11 [.agg (cs_Turn v4), .agg (cs_Turn v6), .agg (cs_Turn v9), .agg (cs_Turn v12), .one (.flt .f32 (Fl.mk (k := .f32) 0 (by decide)).bits)] [.agg (cs_Turn v41)]) ∧ T2 Tt)) [.no, .no, .no, .no, .call [.agg (cs_Turn v4), .agg (cs_Turn v6), .agg (cs_Turn v9), .agg (cs_Turn v12), .one (.flt .f32 (Fl.mk (k := .f32) 0 (by decide)).bits)] [.agg (cs_Turn v41)] [[.view, .view, .view, .view]], .box 11] [5, 6, 7, 8, 15] [1, 2, 3, 4, 11] ⟨tr, tr, tr, tr, ⟨⟨⟨rfl, rfl, rfl, rfl, tr⟩, ⟨rfl, rfl, rfl, rfl, tr⟩, ⟨rfl, rfl, rfl, rfl, tr⟩, ⟨rfl, rfl, rfl, rfl, tr⟩, rfl, tr⟩, ok_impl_CurveTurn K v4 v6 v9 v12 (Fl.mk (k := .f32) 0 (by decide)) v41 e42⟩, tr, tr, tr⟩ ?_
      refine AW.seq ?_
      obtain ⟨v43, e44, h⟩ := bind_some h
      refine AW.tC (T4 (((((eF v4.W) ∧ (eF v4.X) ∧ (eF v4.Y) ∧ (eF v4.Z) ∧ Tt) ∧ ((eF v6.W) ∧ (eF v6.X) ∧ (eF v6.Y) ∧ (eF v6.Z) ∧ Tt) ∧ ((eF v9.W) ∧ (eF v9.X) ∧ (eF v9.Y) ∧ (eF v9.Z) ∧ Tt) ∧ ((eF v12.W) ∧ (eF v12.X) ∧ (eF v12.Y) ∧ (eF v12.Z) ∧ Tt) ∧ (eF (Fl.mk (k := .f32) 1065353216 (by decide))) ∧ Tt) ∧ CallOK Try.prog 11 [.agg (cs_Turn v4), .agg (cs_Turn v6), .agg (cs_Turn v9), .agg (cs_Turn v12), .one (.flt .f32 (Fl.mk (k := .f32) 1065353216 (by decide)).bits)] [.agg (cs_Turn v43)]) ∧ T2 Tt)) [.no, .no, .no, .no, .call [.agg (cs_Turn v4), .agg (cs_Turn v6), .agg (cs_Turn v9), .agg (cs_Turn v12), .one (.flt .f32 (Fl.mk (k := .f32) 1065353216 (by decide)).bits)] [.agg (cs_Turn v43)] [[.view, .view, .view, .view]], .box 12] [5, 8, 15, 16] [1, 4, 11, 12] ⟨tr, tr, tr, tr, ⟨⟨⟨rfl, rfl, rfl, rfl, tr⟩, ⟨rfl, rfl, rfl, rfl, tr⟩, ⟨rfl, rfl, rfl, rfl, tr⟩, ⟨rfl, rfl, rfl, rfl, tr⟩, rfl, tr⟩, ok_impl_CurveTurn K v4 v6 v9 v12 (Fl.mk (k := .f32) 1065353216 (by decide)) v43 e44⟩, tr, tr, tr⟩ ?_
      refine AW.seq ?_
      obtain ⟨v45, e46, h⟩ := bind_some h
      refine AW.tA ⟨[(5, (vp 1 0)), (8, (vp 4 0)), (15, (vp 11 0)), (16, (vp 12 0)), (18, (vB v45.2))], [(1, (.box [(cF v4.W), (cF v4.X), (cF v4.Y), (cF v4.Z)])), (4, (.box [(cF v12.W), (cF v12.X), (cF v12.Y), (cF v12.Z)])), (11, (.box [(cF v41.W), (cF v41.X), (cF v41.Y), (cF v41.Z)])), (12, (.box [(cF v43.W), (cF v43.X), (cF v43.Y), (cF v43.Z)]))]⟩ ((([] : List Turn).length = 0 ∧ Tt) ∧ (([] : List F32).length = 0 ∧ Tt) ∧ (((Eqc (sl 4 cs_Turn ([] : List Turn))) ∧ (Eqc (sl 1 (csF .f32) ([] : List F32))) ∧ Tt) ∧ CallOK Try.prog 9 [.one (sl 4 cs_Turn ([] : List Turn)), .one (sl 1 (csF .f32) ([] : List F32))] [.agg (cs_Turn v45.1), .one (.bool v45.2)]) ∧ T2 (T4 Tt)) [.obj 13 ([] : List Turn).length (gl cs_Turn ([] : List Turn)), .obj 14 ([] : List F32).length (gl (csF .f32) ([] : List F32)), .call [.one (sl 4 cs_Turn ([] : List Turn)), .one (sl 1 (csF .f32) ([] : List F32))] [.agg (cs_Turn v45.1), .one (.bool v45.2)] [[.view, .view, .view, .view], [.view]], .no, .no, .no, .box 15] [5, 8, 15, 16, 18] [1, 4, 11, 12] ⟨⟨rfl, tr⟩, ⟨rfl, tr⟩, ⟨⟨rfl, rfl, tr⟩, ok_impl_MixTurns K ([] : List Turn) ([] : List F32) v45 e46⟩, tr, tr, tr, tr, tr, tr, tr⟩ ?_
      refine AW.seq ?_
      obtain ⟨j53, e54, h⟩ := bind_some h
      refine AW.join1 (s2 := ⟨[(4, (vB j53))], []⟩) ?_ ?_
      · rcases ite2_cases e54 with ⟨b47, e54⟩ | ⟨b47, e54⟩
        · obtain ⟨v48, e49, e54⟩ := bind_some e54
          rcases ite2_cases e54 with ⟨b50, e54⟩ | ⟨b50, e54⟩
          · obtain ⟨v51, e52, e54⟩ := bind_some e54
            replace e54 := some_eq e54
            subst e54
            exact AW.rA ⟨[(4, (vB ((Fl.cv .f32 .f64 v51).lt' (Fl.mk (k := .f64) 4576918229304087675 (by decide)))))], []⟩ (T2 ((Tt ∧ (!v45.2) = true) ∧ T2 (((((eF v4.W) ∧ (eF v4.X) ∧ (eF v4.Y) ∧ (eF v4.Z) ∧ Tt) ∧ ((eF v41.W) ∧ (eF v41.X) ∧ (eF v41.Y) ∧ (eF v41.Z) ∧ Tt) ∧ Tt) ∧ CallOK Try.prog 10 [.agg (cs_Turn v4), .agg (cs_Turn v41)] [.one (.flt .f32 v48.bits)]) ∧ ((convBits .f32 v48.bits .f64).isSome = true) ∧ T2 ((Tt ∧ ((Fl.cv .f32 .f64 v48).lt' (Fl.mk (k := .f64) 4576918229304087675 (by decide))) = true) ∧ T2 (((((eF v12.W) ∧ (eF v12.X) ∧ (eF v12.Y) ∧ (eF v12.Z) ∧ Tt) ∧ ((eF v43.W) ∧ (eF v43.X) ∧ (eF v43.Y) ∧ (eF v43.Z) ∧ Tt) ∧ Tt) ∧ CallOK Try.prog 10 [.agg (cs_Turn v12), .agg (cs_Turn v43)] [.one (.flt .f32 v51.bits)]) ∧ ((convBits .f32 v51.bits .f64).isSome = true) ∧ Tt ∧ T2 Tt))))) [.no, .no, .dec true, .no, .no, .call [.agg (cs_Turn v4), .agg (cs_Turn v41)] [.one (.flt .f32 v48.bits)] [[.view]], .no, .no, .no, .dec true, .no, .no, .call [.agg (cs_Turn v12), .agg (cs_Turn v43)] [.one (.flt .f32 v51.bits)] [[.view]]] [4] [] ⟨tr, tr, ⟨tr, b47⟩, tr, tr, ⟨⟨⟨rfl, rfl, rfl, rfl, tr⟩, ⟨rfl, rfl, rfl, rfl, tr⟩, tr⟩, ok_impl_ApartTurns K v4 v41 v48 e49⟩, cv_wide v48, tr, tr, ⟨tr, b50⟩, tr, tr, ⟨⟨⟨rfl, rfl, rfl, rfl, tr⟩, ⟨rfl, rfl, rfl, rfl, tr⟩, tr⟩, ok_impl_ApartTurns K v12 v43 v51 e52⟩, cv_wide v51, tr, tr, tr, tr⟩ ⟨rfl, rfl⟩
          · replace e54 := some_eq e54
            subst e54
            exact AW.rA ⟨[(4, (vB false))], []⟩ (T2 ((Tt ∧ (!v45.2) = true) ∧ T2 (((((eF v4.W) ∧ (eF v4.X) ∧ (eF v4.Y) ∧ (eF v4.Z) ∧ Tt) ∧ ((eF v41.W) ∧ (eF v41.X) ∧ (eF v41.Y) ∧ (eF v41.Z) ∧ Tt) ∧ Tt) ∧ CallOK Try.prog 10 [.agg (cs_Turn v4), .agg (cs_Turn v41)] [.one (.flt .f32 v48.bits)]) ∧ ((convBits .f32 v48.bits .f64).isSome = true) ∧ T2 ((Tt ∧ ((Fl.cv .f32 .f64 v48).lt' (Fl.mk (k := .f64) 4576918229304087675 (by decide))) = false) ∧ Tt ∧ T2 (T4 Tt))))) [.no, .no, .dec true, .no, .no, .call [.agg (cs_Turn v4), .agg (cs_Turn v41)] [.one (.flt .f32 v48.bits)] [[.view]], .no, .no, .no, .dec false] [4] [] ⟨tr, tr, ⟨tr, b47⟩, tr, tr, ⟨⟨⟨rfl, rfl, rfl, rfl, tr⟩, ⟨rfl, rfl, rfl, rfl, tr⟩, tr⟩, ok_impl_ApartTurns K v4 v41 v48 e49⟩, cv_wide v48, tr, tr, ⟨tr, b50⟩, tr, tr, tr, tr, tr, tr, tr, tr⟩ ⟨rfl, rfl⟩
        · replace e54 := some_eq e54
          subst e54
          exact AW.rA ⟨[(4, (vB false))], []⟩ (T2 ((Tt ∧ (!v45.2) = false) ∧ T2 (T4 (T4 (T4 Tt))))) [.no, .no, .dec false] [4] [] ⟨tr, tr, ⟨tr, b47⟩, tr, tr, tr, tr, tr, tr, tr, tr, tr, tr, tr, tr, tr, tr, tr⟩ ⟨rfl, rfl⟩
      refine thenQ_normal ?_
      refine AW.ret ?_
      replace h := some_eq h
      subst h
      exact ⟨.inr rfl, retOK_of [(.one (.c (.bool j53)))] (by kernel_rfl) ⟨⟨rfl, tr⟩, tr⟩ (of_decide_eq_true (by kernel_rfl))⟩

end
end Go.Fw
