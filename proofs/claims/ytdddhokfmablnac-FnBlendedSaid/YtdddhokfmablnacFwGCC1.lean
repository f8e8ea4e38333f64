/- Functions of the program: what each computes, and that it computes just that. -/
import Derived.Test.YtdddhokfmablnacFwTy
import Derived.Test.YtdddhokfmablnacFwH
import Derived.Test.YtdddhokfmablnacFwV
import Derived.Test.YtdddhokfmablnacFwMK
import Derived.Test.YtdddhokfmablnacProg
import Derived.KernelRfl
namespace Go.Fw
open Go Go.Proofs
noncomputable section
set_option maxRecDepth 10000

/-! laws.b10Long -/
def laws_b10Long (_K : Nat) (a0 : (List Int)) (a1 : (List Int)) : Option (Bool) :=
  (ite2 ((decide ((a0.length : Int) > (1048576 : Int)))) (some true) (some (decide ((a1.length : Int) > (1048576 : Int))))).bind fun j2 => some j2

theorem ok_laws_b10Long (K : Nat) (a0 : (List Int)) (a1 : (List Int)) (o : (Bool)) (h : laws_b10Long K a0 a1 = some o) : CallOK Try.prog 4 [.one (sl 1 (csI .u8) a0), .one (sl 1 (csI .u8) a1)] [.one (.bool o)] := by
  refine callOK_of_AW Try.func4 rfl (by kernel_rfl) (Nat.le_of_ble_eq_true (by kernel_rfl)) ?_
  intro w0
  unfold laws_b10Long at h
  refine AW.seq (AW.rA ⟨[(0, (vc (sl 1 (csI .u8) a0))), (1, (vc (sl 1 (csI .u8) a1)))], []⟩ (Tt ∧ Tt) [] [0, 1] [] ⟨tr, tr⟩ (thenQ_normal ?_))
  refine AW.seq ?_
  obtain ⟨j2, e3, h⟩ := bind_some h
  refine AW.join1 (s2 := ⟨[(4, (vc (.bool j2)))], []⟩) ?_ ?_
  · rcases ite2_cases e3 with ⟨b1, e3⟩ | ⟨b1, e3⟩
    · replace e3 := some_eq e3
      subst e3
      exact AW.rA ⟨[(4, (vc (.bool true)))], []⟩ (Tt ∧ T2 ((Tt ∧ (decide ((a0.length : Int) > (1048576 : Int))) = true) ∧ Tt ∧ T4 Tt)) [.no, .no, .no, .dec true] [4] [] ⟨tr, tr, tr, ⟨tr, b1⟩, tr, tr, tr, tr, tr, tr⟩ ⟨rfl, rfl⟩
    · replace e3 := some_eq e3
      subst e3
      exact AW.rA ⟨[(4, (vc (.bool (decide ((a1.length : Int) > (1048576 : Int))))))], []⟩ (Tt ∧ T2 ((Tt ∧ (decide ((a0.length : Int) > (1048576 : Int))) = false) ∧ Tt ∧ T4 Tt)) [.no, .no, .no, .dec false] [4] [] ⟨tr, tr, tr, ⟨tr, b1⟩, tr, tr, tr, tr, tr, tr⟩ ⟨rfl, rfl⟩
  refine thenQ_normal ?_
  refine AW.ret ?_
  replace h := some_eq h
  subst h
  exact ⟨.inr rfl, retOK_of [(.one (.c (.bool j2)))] (by kernel_rfl) ⟨⟨rfl, tr⟩, tr⟩ (of_decide_eq_true (by kernel_rfl))⟩

/-! laws.b10At -/
def laws_b10At (_K : Nat) (a0 : (List Int)) (a1 : Int) (a2 : Int) : Option (Int) :=
  ite2 ((decide (a2 ≤ (1 : Int)))) (some (0 : Int)) (ite2 ((decide (a1 < (a0.length : Int)))) (chk (0 ≤ a1 ∧ a1 < (a0.length : Int)) (chk (a2 ≠ 0) (some ((IntKind.i64.wrap (a0.getD a1.toNat default)).tmod a2)))) (chk (a2 ≠ 0) (some ((IntKind.i64.wrap ((IntKind.i64.wrap (a1 * (37 : Int))) + (11 : Int))).tmod a2))))

theorem ok_laws_b10At (K : Nat) (a0 : (List Int)) (a1 : Int) (a2 : Int) (o : (Int)) (h : laws_b10At K a0 a1 a2 = some o) : CallOK Try.prog 5 [.one (sl 1 (csI .u8) a0), .one (.int .i64 a1), .one (.int .i64 a2)] [.one (.int .i64 o)] := by
  refine callOK_of_AW Try.func5 rfl (by kernel_rfl) (Nat.le_of_ble_eq_true (by kernel_rfl)) ?_
  intro w0
  unfold laws_b10At at h
  refine AW.seq (AW.rA ⟨[(0, (vc (sl 1 (csI .u8) a0))), (1, (vc (.int .i64 a1))), (2, (vc (.int .i64 a2)))], []⟩ (Tt ∧ Tt) [] [0, 1, 2] [] ⟨tr, tr⟩ (thenQ_normal ?_))
  refine AW.seq ?_
  refine AW.seq (AW.rA ⟨[(0, (vc (sl 1 (csI .u8) a0))), (1, (vc (.int .i64 a1))), (2, (vc (.int .i64 a2))), (8, (vc (.bool (decide (a2 ≤ (1 : Int))))))], []⟩ (T2 Tt) [] [0, 1, 2, 8] [] ⟨tr, tr, tr⟩ (thenQ_normal ?_))
  rcases ite2_cases h with ⟨b1, h⟩ | ⟨b1, h⟩
  · refine AW.cond_t rfl b1 ?_
    refine AW.seq (AW.rA ⟨[(6, (vc (.int .i64 (0 : Int))))], []⟩ (Tt ∧ Tt) [] [6] [] ⟨tr, tr⟩ (thenQ_normal ?_))
    refine AW.ret ?_
    refine thenQ_ret ?_
    replace h := some_eq h
    subst h
    exact ⟨.inr rfl, retOK_of [(.one (.c (.int .i64 (0 : Int))))] (by kernel_rfl) ⟨⟨rfl, tr⟩, tr⟩ (of_decide_eq_true (by kernel_rfl))⟩
  · refine AW.cond_f rfl b1 ?_
    refine AW.skip ?_
    refine thenQ_normal ?_
    refine AW.seq ?_
    refine AW.seq (AW.rA ⟨[(0, (vc (sl 1 (csI .u8) a0))), (1, (vc (.int .i64 a1))), (2, (vc (.int .i64 a2))), (12, (vc (.bool (decide (a1 < (a0.length : Int))))))], []⟩ (T4 Tt) [] [0, 1, 2, 12] [] ⟨tr, tr, tr, tr, tr⟩ (thenQ_normal ?_))
    rcases ite2_cases h with ⟨b2, h⟩ | ⟨b2, h⟩
    · refine AW.cond_t rfl b2 ?_
      refine AW.seq ?_
      obtain ⟨c3, h⟩ := chk_some h
      obtain ⟨c4, h⟩ := chk_some h
      refine AW.rA ⟨[(6, (vc (.int .i64 ((IntKind.i64.wrap (a0.getD a1.toNat default)).tmod a2))))], []⟩ (T2 ((0 ≤ a1 ∧ a1 < (a0.length : Int)) ∧ Tt ∧ T2 ((a2 ≠ 0) ∧ Tt ∧ Tt))) [] [6] [] ⟨tr, tr, c3, tr, tr, tr, c4, tr, tr⟩ ?_
      refine thenQ_normal ?_
      refine AW.ret ?_
      refine thenQ_ret ?_
      replace h := some_eq h
      subst h
      exact ⟨.inr rfl, retOK_of [(.one (.c (.int .i64 ((IntKind.i64.wrap (a0.getD a1.toNat default)).tmod a2))))] (by kernel_rfl) ⟨⟨rfl, tr⟩, tr⟩ (of_decide_eq_true (by kernel_rfl))⟩
    · refine AW.cond_f rfl b2 ?_
      refine AW.skip ?_
      refine thenQ_normal ?_
      refine AW.seq ?_
      obtain ⟨c5, h⟩ := chk_some h
      refine AW.rA ⟨[(6, (vc (.int .i64 ((IntKind.i64.wrap ((IntKind.i64.wrap (a1 * (37 : Int))) + (11 : Int))).tmod a2))))], []⟩ (T4 ((a2 ≠ 0) ∧ Tt ∧ Tt)) [] [6] [] ⟨tr, tr, tr, tr, c5, tr, tr⟩ ?_
      refine thenQ_normal ?_
      refine AW.ret ?_
      replace h := some_eq h
      subst h
      exact ⟨.inr rfl, retOK_of [(.one (.c (.int .i64 ((IntKind.i64.wrap ((IntKind.i64.wrap (a1 * (37 : Int))) + (11 : Int))).tmod a2))))] (by kernel_rfl) ⟨⟨rfl, tr⟩, tr⟩ (of_decide_eq_true (by kernel_rfl))⟩

/-! spec.l00From -/
theorem mk_spec_l00From : MkOK Try.prog 16 58 [(.i64, 0), (.u64, 0)] := by
  refine mkOK_of Try.func16 rfl (by kernel_rfl) fun w ad n cap => ?_
  refine wp_seq (wp_region_lit (wpList_val (x := (.pointer none)) (w' := w) rfl (by kernel_rfl) (wpList_nil ?_)))
  refine wp_seq (wp_region_lit (wpList_val (x := (.slice ad n cap)) (w' := w) rfl (by kernel_rfl) (wpList_val (x := (.agg #[(.slice ad n cap), .int .i64 0, .int .u64 0])) (w' := w) rfl (by kernel_rfl) (wpList_val (x := (.pointer (some ⟨w.heap.size, 0, none⟩))) (w' := (w.alloc (.cells #[(.slice ad n cap), .int .i64 0, .int .u64 0] 58))) rfl (by kernel_rfl) (wpList_val (x := (.pointer (some ⟨w.heap.size, 0, none⟩))) (w' := (w.alloc (.cells #[(.slice ad n cap), .int .i64 0, .int .u64 0] 58))) rfl (by kernel_rfl) (wpList_nil ?_))))))
  exact wp_ret ⟨rfl, (.pointer (some ⟨w.heap.size, 0, none⟩)), (by kernel_rfl), _, rfl, rfl, rfl⟩



/-! (*spec.l00Src).next -/
def spec_l00Src_next (_K : Nat) (a0 : l00Src) : Option (Int × Int × Int) :=
  ite2 ((decide (a0.at_ < (a0.code.length : Int)))) (chk (0 ≤ a0.at_ ∧ a0.at_ < (a0.code.length : Int)) (ite2 ((decide ((IntKind.i64.wrap (a0.at_ + (1 : Int))) ≤ (a0.code.length : Int)))) (some ((IntKind.i64.wrap (a0.code.getD a0.at_.toNat default)), (IntKind.i64.wrap (a0.at_ + (1 : Int))), (IntKind.u64.wrap ((IntKind.u64.wrap ((IntKind.u64.wrap (a0.seed * (6364136223846793005 : Int))) + (IntKind.u64.wrap (IntKind.i64.wrap (a0.code.getD a0.at_.toNat default))))) + (1442695040888963407 : Int))))) (chk (0 ≤ (40 : Int)) (some ((IntKind.i64.wrap (bits .and .u64 ((IntKind.u64.wrap ((IntKind.u64.wrap ((IntKind.u64.wrap (a0.seed * (6364136223846793005 : Int))) + (IntKind.u64.wrap (IntKind.i64.wrap (a0.code.getD a0.at_.toNat default))))) + (1442695040888963407 : Int))).fdiv (2 ^ (min (40 : Int).toNat (IntKind.bits .u64)))) (255 : Int))), (IntKind.i64.wrap (a0.at_ + (1 : Int))), (IntKind.u64.wrap ((IntKind.u64.wrap ((IntKind.u64.wrap (a0.seed * (6364136223846793005 : Int))) + (IntKind.u64.wrap (IntKind.i64.wrap (a0.code.getD a0.at_.toNat default))))) + (1442695040888963407 : Int)))))))) (ite2 ((decide ((IntKind.i64.wrap (a0.at_ + (1 : Int))) ≤ (a0.code.length : Int)))) (some ((0 : Int), (IntKind.i64.wrap (a0.at_ + (1 : Int))), (IntKind.u64.wrap ((IntKind.u64.wrap ((IntKind.u64.wrap (a0.seed * (6364136223846793005 : Int))) + (IntKind.u64.wrap (0 : Int)))) + (1442695040888963407 : Int))))) (chk (0 ≤ (40 : Int)) (some ((IntKind.i64.wrap (bits .and .u64 ((IntKind.u64.wrap ((IntKind.u64.wrap ((IntKind.u64.wrap (a0.seed * (6364136223846793005 : Int))) + (IntKind.u64.wrap (0 : Int)))) + (1442695040888963407 : Int))).fdiv (2 ^ (min (40 : Int).toNat (IntKind.bits .u64)))) (255 : Int))), (IntKind.i64.wrap (a0.at_ + (1 : Int))), (IntKind.u64.wrap ((IntKind.u64.wrap ((IntKind.u64.wrap (a0.seed * (6364136223846793005 : Int))) + (IntKind.u64.wrap (0 : Int)))) + (1442695040888963407 : Int)))))))

theorem ok_spec_l00Src_next (K : Nat) (a0 : l00Src) (o : (Int × Int × Int)) (h : spec_l00Src_next K a0 = some o) : MutOK Try.prog 33 [(.box 3 (fun j => [true, false, false].getD j true) (fun j => (cs_l00Src a0).getD j .nilptr) (fun j => [.nilptr, (.int .i64 o.2.1), (.int .u64 o.2.2)].getD j .nilptr))] [.one (.int .i64 o.1)] := by
  refine mutOK_of_AW 1 Try.func33 rfl (by kernel_rfl) (Nat.le_of_ble_eq_true (by kernel_rfl)) (by kernel_rfl) (by kernel_rfl) ?_
  intro w0 K0 v0 s0
  unfold spec_l00Src_next at h
  refine AW.weak (s' := ⟨[(0, (vp 0 0))], [(0, (.box [(.fx 0 0 (sl 1 (csI .u8) a0.code)), (.c (.int .i64 a0.at_)), (.c (.int .u64 a0.seed))]))]⟩) (subUnfx 0 [1, 2] (by kernel_rfl)) ?_
  refine AW.seq (AW.rA ⟨[(0, (vp 0 0))], [(0, (.box [(.fx 0 0 (sl 1 (csI .u8) a0.code)), (.c (.int .i64 a0.at_)), (.c (.int .u64 a0.seed))]))]⟩ (Tt ∧ Tt) [] [0] [0] ⟨tr, tr⟩ (thenQ_normal ?_))
  refine AW.seq (AW.rA ⟨[(0, (vp 0 0)), (3, (vc (.int .i64 (0 : Int))))], [(0, (.box [(.fx 0 0 (sl 1 (csI .u8) a0.code)), (.c (.int .i64 a0.at_)), (.c (.int .u64 a0.seed))]))]⟩ (Tt ∧ Tt) [] [0, 3] [0] ⟨tr, tr⟩ (thenQ_normal ?_))
  refine AW.seq ?_
  refine AW.seq (AW.dA ⟨[(0, (vp 0 0)), (3, (vc (.int .i64 (0 : Int)))), (13, (vc (.bool (decide (a0.at_ < (a0.code.length : Int))))))], [(0, (.box [(.fx 0 0 (sl 1 (csI .u8) a0.code)), (.c (.int .i64 a0.at_)), (.c (.int .u64 a0.seed))]))]⟩ ((T2 (T4 (T4 Tt))) ∧ (Tt)) 10 [] [0, 3, 13] [0] ⟨⟨tr, tr, tr, tr, tr, tr, tr, tr, tr, tr, tr⟩, tr⟩ (thenQ_normal ?_))
  rcases ite2_cases h with ⟨b1, h⟩ | ⟨b1, h⟩
  · refine AW.cond_t rfl b1 ?_
    obtain ⟨c2, h⟩ := chk_some h
    refine AW.dA ⟨[(0, (vp 0 0)), (3, (vc (.int .i64 (IntKind.i64.wrap (a0.code.getD a0.at_.toNat default)))))], [(0, (.box [(.fx 0 0 (sl 1 (csI .u8) a0.code)), (.c (.int .i64 a0.at_)), (.c (.int .u64 a0.seed))]))]⟩ ((T4 (T4 ((0 ≤ a0.at_ ∧ a0.at_ < (a0.code.length : Int)) ∧ Tt ∧ T2 Tt))) ∧ (Tt)) 12 [] [0, 3] [0] ⟨⟨tr, tr, tr, tr, tr, tr, tr, tr, c2, tr, tr, tr, tr⟩, tr⟩ ?_
    refine thenQ_normal ?_
    refine AW.seq (AW.rA ⟨[(0, (vp 0 0)), (3, (vc (.int .i64 (IntKind.i64.wrap (a0.code.getD a0.at_.toNat default)))))], [(0, (.box [(.fx 0 0 (sl 1 (csI .u8) a0.code)), (.c (.int .i64 (IntKind.i64.wrap (a0.at_ + (1 : Int))))), (.c (.int .u64 a0.seed))]))]⟩ (T4 (T4 Tt)) [] [0, 3] [0] ⟨tr, tr, tr, tr, tr, tr, tr, tr, tr⟩ (thenQ_normal ?_))
    refine AW.seq (AW.rA ⟨[(0, (vp 0 0)), (3, (vc (.int .i64 (IntKind.i64.wrap (a0.code.getD a0.at_.toNat default)))))], [(0, (.box [(.fx 0 0 (sl 1 (csI .u8) a0.code)), (.c (.int .i64 (IntKind.i64.wrap (a0.at_ + (1 : Int))))), (.c (.int .u64 (IntKind.u64.wrap ((IntKind.u64.wrap ((IntKind.u64.wrap (a0.seed * (6364136223846793005 : Int))) + (IntKind.u64.wrap (IntKind.i64.wrap (a0.code.getD a0.at_.toNat default))))) + (1442695040888963407 : Int)))))]))]⟩ (Tt ∧ T4 (T4 (T4 Tt))) [] [0, 3] [0] ⟨tr, tr, tr, tr, tr, tr, tr, tr, tr, tr, tr, tr, tr, tr⟩ (thenQ_normal ?_))
    refine AW.seq ?_
    refine AW.seq (AW.dA ⟨[(0, (vp 0 0)), (3, (vc (.int .i64 (IntKind.i64.wrap (a0.code.getD a0.at_.toNat default))))), (53, (vc (.bool (decide ((IntKind.i64.wrap (a0.at_ + (1 : Int))) ≤ (a0.code.length : Int))))))], [(0, (.box [(.fx 0 0 (sl 1 (csI .u8) a0.code)), (.c (.int .i64 (IntKind.i64.wrap (a0.at_ + (1 : Int))))), (.c (.int .u64 (IntKind.u64.wrap ((IntKind.u64.wrap ((IntKind.u64.wrap (a0.seed * (6364136223846793005 : Int))) + (IntKind.u64.wrap (IntKind.i64.wrap (a0.code.getD a0.at_.toNat default))))) + (1442695040888963407 : Int)))))]))]⟩ ((T2 (T4 (T4 Tt))) ∧ (Tt)) 10 [] [0, 3, 53] [0] ⟨⟨tr, tr, tr, tr, tr, tr, tr, tr, tr, tr, tr⟩, tr⟩ (thenQ_normal ?_))
    rcases ite2_cases h with ⟨b3, h⟩ | ⟨b3, h⟩
    · refine AW.cond_t rfl b3 ?_
      refine AW.seq (AW.rA ⟨[(0, (vp 0 0)), (2, (vc (.int .i64 (IntKind.i64.wrap (a0.code.getD a0.at_.toNat default)))))], [(0, (.box [(.fx 0 0 (sl 1 (csI .u8) a0.code)), (.c (.int .i64 (IntKind.i64.wrap (a0.at_ + (1 : Int))))), (.c (.int .u64 (IntKind.u64.wrap ((IntKind.u64.wrap ((IntKind.u64.wrap (a0.seed * (6364136223846793005 : Int))) + (IntKind.u64.wrap (IntKind.i64.wrap (a0.code.getD a0.at_.toNat default))))) + (1442695040888963407 : Int)))))]))]⟩ (T2 Tt) [] [0, 2] [0] ⟨tr, tr, tr⟩ (thenQ_normal ?_))
      refine AW.ret ?_
      refine thenQ_ret ?_
      replace h := some_eq h
      subst h
      exact ⟨.inr rfl, retOK_of [(.one (.c (.int .i64 (IntKind.i64.wrap (a0.code.getD a0.at_.toNat default)))))] (by kernel_rfl) ⟨⟨rfl, tr⟩, tr⟩ (of_decide_eq_true (by kernel_rfl)), by kernel_rfl, ⟨⟨rfl, ⟨⟨rfl, rfl⟩, ⟨rfl, rfl⟩, ⟨rfl, rfl⟩, tr⟩⟩, tr⟩⟩
    · refine AW.cond_f rfl b3 ?_
      refine AW.skip ?_
      refine thenQ_normal ?_
      refine AW.seq ?_
      obtain ⟨c4, h⟩ := chk_some h
      refine AW.rA ⟨[(0, (vp 0 0)), (2, (vc (.int .i64 (IntKind.i64.wrap (bits .and .u64 ((IntKind.u64.wrap ((IntKind.u64.wrap ((IntKind.u64.wrap (a0.seed * (6364136223846793005 : Int))) + (IntKind.u64.wrap (IntKind.i64.wrap (a0.code.getD a0.at_.toNat default))))) + (1442695040888963407 : Int))).fdiv (2 ^ (min (40 : Int).toNat (IntKind.bits .u64)))) (255 : Int))))))], [(0, (.box [(.fx 0 0 (sl 1 (csI .u8) a0.code)), (.c (.int .i64 (IntKind.i64.wrap (a0.at_ + (1 : Int))))), (.c (.int .u64 (IntKind.u64.wrap ((IntKind.u64.wrap ((IntKind.u64.wrap (a0.seed * (6364136223846793005 : Int))) + (IntKind.u64.wrap (IntKind.i64.wrap (a0.code.getD a0.at_.toNat default))))) + (1442695040888963407 : Int)))))]))]⟩ (T4 ((0 ≤ (40 : Int)) ∧ Tt ∧ T2 Tt)) [] [0, 2] [0] ⟨tr, tr, tr, tr, c4, tr, tr, tr, tr⟩ ?_
      refine thenQ_normal ?_
      refine AW.ret ?_
      replace h := some_eq h
      subst h
      exact ⟨.inr rfl, retOK_of [(.one (.c (.int .i64 (IntKind.i64.wrap (bits .and .u64 ((IntKind.u64.wrap ((IntKind.u64.wrap ((IntKind.u64.wrap (a0.seed * (6364136223846793005 : Int))) + (IntKind.u64.wrap (IntKind.i64.wrap (a0.code.getD a0.at_.toNat default))))) + (1442695040888963407 : Int))).fdiv (2 ^ (min (40 : Int).toNat (IntKind.bits .u64)))) (255 : Int))))))] (by kernel_rfl) ⟨⟨rfl, tr⟩, tr⟩ (of_decide_eq_true (by kernel_rfl)), by kernel_rfl, ⟨⟨rfl, ⟨⟨rfl, rfl⟩, ⟨rfl, rfl⟩, ⟨rfl, rfl⟩, tr⟩⟩, tr⟩⟩
  · refine AW.cond_f rfl b1 ?_
    refine AW.skip ?_
    refine thenQ_normal ?_
    refine AW.seq (AW.rA ⟨[(0, (vp 0 0)), (3, (vc (.int .i64 (0 : Int))))], [(0, (.box [(.fx 0 0 (sl 1 (csI .u8) a0.code)), (.c (.int .i64 (IntKind.i64.wrap (a0.at_ + (1 : Int))))), (.c (.int .u64 a0.seed))]))]⟩ (T4 (T4 Tt)) [] [0, 3] [0] ⟨tr, tr, tr, tr, tr, tr, tr, tr, tr⟩ (thenQ_normal ?_))
    refine AW.seq (AW.rA ⟨[(0, (vp 0 0)), (3, (vc (.int .i64 (0 : Int))))], [(0, (.box [(.fx 0 0 (sl 1 (csI .u8) a0.code)), (.c (.int .i64 (IntKind.i64.wrap (a0.at_ + (1 : Int))))), (.c (.int .u64 (IntKind.u64.wrap ((IntKind.u64.wrap ((IntKind.u64.wrap (a0.seed * (6364136223846793005 : Int))) + (IntKind.u64.wrap (0 : Int)))) + (1442695040888963407 : Int)))))]))]⟩ (Tt ∧ T4 (T4 (T4 Tt))) [] [0, 3] [0] ⟨tr, tr, tr, tr, tr, tr, tr, tr, tr, tr, tr, tr, tr, tr⟩ (thenQ_normal ?_))
    refine AW.seq ?_
    refine AW.seq (AW.dA ⟨[(0, (vp 0 0)), (3, (vc (.int .i64 (0 : Int)))), (53, (vc (.bool (decide ((IntKind.i64.wrap (a0.at_ + (1 : Int))) ≤ (a0.code.length : Int))))))], [(0, (.box [(.fx 0 0 (sl 1 (csI .u8) a0.code)), (.c (.int .i64 (IntKind.i64.wrap (a0.at_ + (1 : Int))))), (.c (.int .u64 (IntKind.u64.wrap ((IntKind.u64.wrap ((IntKind.u64.wrap (a0.seed * (6364136223846793005 : Int))) + (IntKind.u64.wrap (0 : Int)))) + (1442695040888963407 : Int)))))]))]⟩ ((T2 (T4 (T4 Tt))) ∧ (Tt)) 10 [] [0, 3, 53] [0] ⟨⟨tr, tr, tr, tr, tr, tr, tr, tr, tr, tr, tr⟩, tr⟩ (thenQ_normal ?_))
    rcases ite2_cases h with ⟨b5, h⟩ | ⟨b5, h⟩
    · refine AW.cond_t rfl b5 ?_
      refine AW.seq (AW.rA ⟨[(0, (vp 0 0)), (2, (vc (.int .i64 (0 : Int))))], [(0, (.box [(.fx 0 0 (sl 1 (csI .u8) a0.code)), (.c (.int .i64 (IntKind.i64.wrap (a0.at_ + (1 : Int))))), (.c (.int .u64 (IntKind.u64.wrap ((IntKind.u64.wrap ((IntKind.u64.wrap (a0.seed * (6364136223846793005 : Int))) + (IntKind.u64.wrap (0 : Int)))) + (1442695040888963407 : Int)))))]))]⟩ (T2 Tt) [] [0, 2] [0] ⟨tr, tr, tr⟩ (thenQ_normal ?_))
      refine AW.ret ?_
      refine thenQ_ret ?_
      replace h := some_eq h
      subst h
      exact ⟨.inr rfl, retOK_of [(.one (.c (.int .i64 (0 : Int))))] (by kernel_rfl) ⟨⟨rfl, tr⟩, tr⟩ (of_decide_eq_true (by kernel_rfl)), by kernel_rfl, ⟨⟨rfl, ⟨⟨rfl, rfl⟩, ⟨rfl, rfl⟩, ⟨rfl, rfl⟩, tr⟩⟩, tr⟩⟩
    · refine AW.cond_f rfl b5 ?_
      refine AW.skip ?_
      refine thenQ_normal ?_
      refine AW.seq ?_
      obtain ⟨c6, h⟩ := chk_some h
      refine AW.rA ⟨[(0, (vp 0 0)), (2, (vc (.int .i64 (IntKind.i64.wrap (bits .and .u64 ((IntKind.u64.wrap ((IntKind.u64.wrap ((IntKind.u64.wrap (a0.seed * (6364136223846793005 : Int))) + (IntKind.u64.wrap (0 : Int)))) + (1442695040888963407 : Int))).fdiv (2 ^ (min (40 : Int).toNat (IntKind.bits .u64)))) (255 : Int))))))], [(0, (.box [(.fx 0 0 (sl 1 (csI .u8) a0.code)), (.c (.int .i64 (IntKind.i64.wrap (a0.at_ + (1 : Int))))), (.c (.int .u64 (IntKind.u64.wrap ((IntKind.u64.wrap ((IntKind.u64.wrap (a0.seed * (6364136223846793005 : Int))) + (IntKind.u64.wrap (0 : Int)))) + (1442695040888963407 : Int)))))]))]⟩ (T4 ((0 ≤ (40 : Int)) ∧ Tt ∧ T2 Tt)) [] [0, 2] [0] ⟨tr, tr, tr, tr, c6, tr, tr, tr, tr⟩ ?_
      refine thenQ_normal ?_
      refine AW.ret ?_
      replace h := some_eq h
      subst h
      exact ⟨.inr rfl, retOK_of [(.one (.c (.int .i64 (IntKind.i64.wrap (bits .and .u64 ((IntKind.u64.wrap ((IntKind.u64.wrap ((IntKind.u64.wrap (a0.seed * (6364136223846793005 : Int))) + (IntKind.u64.wrap (0 : Int)))) + (1442695040888963407 : Int))).fdiv (2 ^ (min (40 : Int).toNat (IntKind.bits .u64)))) (255 : Int))))))] (by kernel_rfl) ⟨⟨rfl, tr⟩, tr⟩ (of_decide_eq_true (by kernel_rfl)), by kernel_rfl, ⟨⟨rfl, ⟨⟨rfl, rfl⟩, ⟨rfl, rfl⟩, ⟨rfl, rfl⟩, tr⟩⟩, tr⟩⟩

/-! (*spec.l00Src).pick -/
def spec_l00Src_pick (K : Nat) (a0 : l00Src) (a1 : Int) : Option (Int × Int × Int) :=
  ite2 ((decide (a1 ≤ (1 : Int)))) (some ((0 : Int), a0.at_, a0.seed)) ((spec_l00Src_next K a0).bind fun v2 => ite2 ((decide (a1 > (200 : Int)))) ((spec_l00Src_next K (l00Src.mk a0.code v2.2.1 v2.2.2)).bind fun v5 => chk (a1 ≠ 0) (some (((IntKind.i64.wrap ((IntKind.i64.wrap (v2.1 * (256 : Int))) + v5.1)).tmod a1), v5.2.1, v5.2.2))) (chk (a1 ≠ 0) (some ((v2.1.tmod a1), v2.2.1, v2.2.2))))

theorem ok_spec_l00Src_pick (K : Nat) (a0 : l00Src) (a1 : Int) (o : (Int × Int × Int)) (h : spec_l00Src_pick K a0 a1 = some o) : MutOK Try.prog 17 [(.box 3 (fun j => [true, false, false].getD j true) (fun j => (cs_l00Src a0).getD j .nilptr) (fun j => [.nilptr, (.int .i64 o.2.1), (.int .u64 o.2.2)].getD j .nilptr)), (.one (.ro (.int .i64 a1)))] [.one (.int .i64 o.1)] := by
  refine mutOK_of_AW 1 Try.func17 rfl (by kernel_rfl) (Nat.le_of_ble_eq_true (by kernel_rfl)) (by kernel_rfl) (by kernel_rfl) ?_
  intro w0 K0 v0 s0
  unfold spec_l00Src_pick at h
  refine AW.weak (s' := ⟨[(0, (vp 0 0)), (1, (vc (.int .i64 a1)))], [(0, (.box [(.fx 0 0 (sl 1 (csI .u8) a0.code)), (.c (.int .i64 a0.at_)), (.c (.int .u64 a0.seed))]))]⟩) (subUnfx 0 [1, 2] (by kernel_rfl)) ?_
  refine AW.seq (AW.rA ⟨[(0, (vp 0 0)), (1, (vc (.int .i64 a1)))], [(0, (.box [(.fx 0 0 (sl 1 (csI .u8) a0.code)), (.c (.int .i64 a0.at_)), (.c (.int .u64 a0.seed))]))]⟩ (Tt ∧ Tt) [] [0, 1] [0] ⟨tr, tr⟩ (thenQ_normal ?_))
  refine AW.seq ?_
  refine AW.seq (AW.rA ⟨[(0, (vp 0 0)), (1, (vc (.int .i64 a1))), (7, (vc (.bool (decide (a1 ≤ (1 : Int))))))], [(0, (.box [(.fx 0 0 (sl 1 (csI .u8) a0.code)), (.c (.int .i64 a0.at_)), (.c (.int .u64 a0.seed))]))]⟩ (T2 Tt) [] [0, 1, 7] [0] ⟨tr, tr, tr⟩ (thenQ_normal ?_))
  rcases ite2_cases h with ⟨b1, h⟩ | ⟨b1, h⟩
  · refine AW.cond_t rfl b1 ?_
    refine AW.seq (AW.rA ⟨[(0, (vp 0 0)), (1, (vc (.int .i64 a1))), (4, (vc (.int .i64 (0 : Int))))], [(0, (.box [(.fx 0 0 (sl 1 (csI .u8) a0.code)), (.c (.int .i64 a0.at_)), (.c (.int .u64 a0.seed))]))]⟩ (Tt ∧ Tt) [] [0, 1, 4] [0] ⟨tr, tr⟩ (thenQ_normal ?_))
    refine AW.ret ?_
    refine thenQ_ret ?_
    replace h := some_eq h
    subst h
    exact ⟨.inr rfl, retOK_of [(.one (.c (.int .i64 (0 : Int))))] (by kernel_rfl) ⟨⟨rfl, tr⟩, tr⟩ (of_decide_eq_true (by kernel_rfl)), by kernel_rfl, ⟨⟨rfl, ⟨⟨rfl, rfl⟩, ⟨rfl, rfl⟩, ⟨rfl, rfl⟩, tr⟩⟩, tr, tr⟩⟩
  · refine AW.cond_f rfl b1 ?_
    refine AW.skip ?_
    refine thenQ_normal ?_
    refine AW.seq ?_
    obtain ⟨v2, e3, h⟩ := bind_some h
    refine AW.rA ⟨[(0, (vp 0 0)), (1, (vc (.int .i64 a1))), (5, (vc (.int .i64 v2.1)))], [(0, (.box [(.fx 0 0 (sl 1 (csI .u8) a0.code)), (.c (.int .i64 v2.2.1)), (.c (.int .u64 v2.2.2))]))]⟩ (Tt ∧ ((((Eqc (sl 1 (csI .u8) a0.code)) ∧ (Eqc (.int .i64 a0.at_)) ∧ (Eqc (.int .u64 a0.seed)) ∧ Tt) ∧ Tt) ∧ MutOK Try.prog 33 [(.box 3 (fun j => [true, false, false].getD j true) (fun j => (cs_l00Src a0).getD j .nilptr) (fun j => [.nilptr, (.int .i64 v2.2.1), (.int .u64 v2.2.2)].getD j .nilptr))] [.one (.int .i64 v2.1)]) ∧ Tt ∧ Tt) [.no, .callM [(.box 3 (fun j => [true, false, false].getD j true) (fun j => (cs_l00Src a0).getD j .nilptr) (fun j => [.nilptr, (.int .i64 v2.2.1), (.int .u64 v2.2.2)].getD j .nilptr))] [.one (.int .i64 v2.1)] [[.view]] none] [0, 1, 5] [0] ⟨tr, ⟨⟨⟨rfl, rfl, rfl, tr⟩, tr⟩, ok_spec_l00Src_next K a0 v2 e3⟩, tr, tr⟩ ?_
    refine thenQ_normal ?_
    refine AW.seq ?_
    refine AW.seq (AW.rA ⟨[(0, (vp 0 0)), (1, (vc (.int .i64 a1))), (5, (vc (.int .i64 v2.1))), (11, (vc (.bool (decide (a1 > (200 : Int))))))], [(0, (.box [(.fx 0 0 (sl 1 (csI .u8) a0.code)), (.c (.int .i64 v2.2.1)), (.c (.int .u64 v2.2.2))]))]⟩ (T2 Tt) [] [0, 1, 5, 11] [0] ⟨tr, tr, tr⟩ (thenQ_normal ?_))
    rcases ite2_cases h with ⟨b4, h⟩ | ⟨b4, h⟩
    · refine AW.cond_t rfl b4 ?_
      obtain ⟨v5, e6, h⟩ := bind_some h
      refine AW.rA ⟨[(0, (vp 0 0)), (1, (vc (.int .i64 a1))), (5, (vc (.int .i64 (IntKind.i64.wrap ((IntKind.i64.wrap (v2.1 * (256 : Int))) + v5.1)))))], [(0, (.box [(.fx 0 0 (sl 1 (csI .u8) a0.code)), (.c (.int .i64 v5.2.1)), (.c (.int .u64 v5.2.2))]))]⟩ (Tt ∧ T2 (((((Eqc (sl 1 (csI .u8) a0.code)) ∧ (Eqc (.int .i64 v2.2.1)) ∧ (Eqc (.int .u64 v2.2.2)) ∧ Tt) ∧ Tt) ∧ MutOK Try.prog 33 [(.box 3 (fun j => [true, false, false].getD j true) (fun j => (cs_l00Src (l00Src.mk a0.code v2.2.1 v2.2.2)).getD j .nilptr) (fun j => [.nilptr, (.int .i64 v5.2.1), (.int .u64 v5.2.2)].getD j .nilptr))] [.one (.int .i64 v5.1)]) ∧ T2 Tt)) [.no, .no, .no, .callM [(.box 3 (fun j => [true, false, false].getD j true) (fun j => (cs_l00Src (l00Src.mk a0.code v2.2.1 v2.2.2)).getD j .nilptr) (fun j => [.nilptr, (.int .i64 v5.2.1), (.int .u64 v5.2.2)].getD j .nilptr))] [.one (.int .i64 v5.1)] [[.view]] none] [0, 1, 5] [0] ⟨tr, tr, tr, ⟨⟨⟨rfl, rfl, rfl, tr⟩, tr⟩, ok_spec_l00Src_next K (l00Src.mk a0.code v2.2.1 v2.2.2) v5 e6⟩, tr, tr, tr⟩ ?_
      refine thenQ_normal ?_
      refine AW.seq ?_
      obtain ⟨c7, h⟩ := chk_some h
      refine AW.rA ⟨[(0, (vp 0 0)), (1, (vc (.int .i64 a1))), (4, (vc (.int .i64 ((IntKind.i64.wrap ((IntKind.i64.wrap (v2.1 * (256 : Int))) + v5.1)).tmod a1))))], [(0, (.box [(.fx 0 0 (sl 1 (csI .u8) a0.code)), (.c (.int .i64 v5.2.1)), (.c (.int .u64 v5.2.2))]))]⟩ (T2 ((a1 ≠ 0) ∧ Tt ∧ Tt)) [] [0, 1, 4] [0] ⟨tr, tr, c7, tr, tr⟩ ?_
      refine thenQ_normal ?_
      refine AW.ret ?_
      replace h := some_eq h
      subst h
      exact ⟨.inr rfl, retOK_of [(.one (.c (.int .i64 ((IntKind.i64.wrap ((IntKind.i64.wrap (v2.1 * (256 : Int))) + v5.1)).tmod a1))))] (by kernel_rfl) ⟨⟨rfl, tr⟩, tr⟩ (of_decide_eq_true (by kernel_rfl)), by kernel_rfl, ⟨⟨rfl, ⟨⟨rfl, rfl⟩, ⟨rfl, rfl⟩, ⟨rfl, rfl⟩, tr⟩⟩, tr, tr⟩⟩
    · refine AW.cond_f rfl b4 ?_
      refine AW.skip ?_
      refine thenQ_normal ?_
      refine AW.seq ?_
      obtain ⟨c8, h⟩ := chk_some h
      refine AW.rA ⟨[(0, (vp 0 0)), (1, (vc (.int .i64 a1))), (4, (vc (.int .i64 (v2.1.tmod a1))))], [(0, (.box [(.fx 0 0 (sl 1 (csI .u8) a0.code)), (.c (.int .i64 v2.2.1)), (.c (.int .u64 v2.2.2))]))]⟩ (T2 ((a1 ≠ 0) ∧ Tt ∧ Tt)) [] [0, 1, 4] [0] ⟨tr, tr, c8, tr, tr⟩ ?_
      refine thenQ_normal ?_
      refine AW.ret ?_
      replace h := some_eq h
      subst h
      exact ⟨.inr rfl, retOK_of [(.one (.c (.int .i64 (v2.1.tmod a1))))] (by kernel_rfl) ⟨⟨rfl, tr⟩, tr⟩ (of_decide_eq_true (by kernel_rfl)), by kernel_rfl, ⟨⟨rfl, ⟨⟨rfl, rfl⟩, ⟨rfl, rfl⟩, ⟨rfl, rfl⟩, tr⟩⟩, tr, tr⟩⟩

/-! spec.l02DrawExact -/
def spec_l02DrawExact (K : Nat) (a0 : l00Src) : Option (Turn × Int × Int) :=
  (spec_l00Src_pick K a0 (24 : Int)).bind fun v1 => ite2 ((decide (v1.1 < (8 : Int)))) (ite2 ((decide (v1.1 ≥ (4 : Int)))) (chk ((4 : Int) ≠ 0) (ite2 (((v1.1.tmod (4 : Int)) == (0 : Int))) (some ((Turn.mk (Fl.mk (k := .f32) 3212836864 (by decide)) (default : F32) (default : F32) (default : F32)), v1.2.1, v1.2.2)) (ite2 (((v1.1.tmod (4 : Int)) == (1 : Int))) (some ((Turn.mk (default : F32) (Fl.mk (k := .f32) 3212836864 (by decide)) (default : F32) (default : F32)), v1.2.1, v1.2.2)) (ite2 (((v1.1.tmod (4 : Int)) == (2 : Int))) (some ((Turn.mk (default : F32) (default : F32) (Fl.mk (k := .f32) 3212836864 (by decide)) (default : F32)), v1.2.1, v1.2.2)) (some ((Turn.mk (default : F32) (default : F32) (default : F32) (Fl.mk (k := .f32) 3212836864 (by decide))), v1.2.1, v1.2.2)))))) (chk ((4 : Int) ≠ 0) (ite2 (((v1.1.tmod (4 : Int)) == (0 : Int))) (some ((Turn.mk (Fl.mk (k := .f32) 1065353216 (by decide)) (default : F32) (default : F32) (default : F32)), v1.2.1, v1.2.2)) (ite2 (((v1.1.tmod (4 : Int)) == (1 : Int))) (some ((Turn.mk (default : F32) (Fl.mk (k := .f32) 1065353216 (by decide)) (default : F32) (default : F32)), v1.2.1, v1.2.2)) (ite2 (((v1.1.tmod (4 : Int)) == (2 : Int))) (some ((Turn.mk (default : F32) (default : F32) (Fl.mk (k := .f32) 1065353216 (by decide)) (default : F32)), v1.2.1, v1.2.2)) (some ((Turn.mk (default : F32) (default : F32) (default : F32) (Fl.mk (k := .f32) 1065353216 (by decide))), v1.2.1, v1.2.2))))))) (chk (0 ≤ (1 : Int)) (chk (0 ≤ (2 : Int)) (chk (0 ≤ (3 : Int)) (some ((Turn.mk ((Fl.ofInt .f32 (bits .and .i64 (IntKind.i64.wrap (v1.1 - (8 : Int))) (1 : Int))).sub (Fl.mk (k := .f32) 1056964608 (by decide))) ((Fl.ofInt .f32 (bits .and .i64 ((IntKind.i64.wrap (v1.1 - (8 : Int))).fdiv (2 ^ (min (1 : Int).toNat (IntKind.bits .i64)))) (1 : Int))).sub (Fl.mk (k := .f32) 1056964608 (by decide))) ((Fl.ofInt .f32 (bits .and .i64 ((IntKind.i64.wrap (v1.1 - (8 : Int))).fdiv (2 ^ (min (2 : Int).toNat (IntKind.bits .i64)))) (1 : Int))).sub (Fl.mk (k := .f32) 1056964608 (by decide))) ((Fl.ofInt .f32 (bits .and .i64 ((IntKind.i64.wrap (v1.1 - (8 : Int))).fdiv (2 ^ (min (3 : Int).toNat (IntKind.bits .i64)))) (1 : Int))).sub (Fl.mk (k := .f32) 1056964608 (by decide)))), v1.2.1, v1.2.2)))))

theorem ok_spec_l02DrawExact (K : Nat) (a0 : l00Src) (o : (Turn × Int × Int)) (h : spec_l02DrawExact K a0 = some o) : MutOK Try.prog 18 [(.box 3 (fun j => [true, false, false].getD j true) (fun j => (cs_l00Src a0).getD j .nilptr) (fun j => [.nilptr, (.int .i64 o.2.1), (.int .u64 o.2.2)].getD j .nilptr))] [.agg (cs_Turn o.1)] := by
  refine mutOK_of_AW 1 Try.func18 rfl (by kernel_rfl) (Nat.le_of_ble_eq_true (by kernel_rfl)) (by kernel_rfl) (by kernel_rfl) ?_
  intro w0 K0 v0 s0
  unfold spec_l02DrawExact at h
  refine AW.weak (s' := ⟨[(0, (vp 0 0))], [(0, (.box [(.fx 0 0 (sl 1 (csI .u8) a0.code)), (.c (.int .i64 a0.at_)), (.c (.int .u64 a0.seed))]))]⟩) (subUnfx 0 [1, 2] (by kernel_rfl)) ?_
  refine AW.seq (AW.rA ⟨[(0, (vp 0 0)), (2, (vp 1 0))], [(0, (.box [(.fx 0 0 (sl 1 (csI .u8) a0.code)), (.c (.int .i64 a0.at_)), (.c (.int .u64 a0.seed))])), (1, (.box [(.c (.flt .f32 (default : F32).bits)), (.c (.flt .f32 (default : F32).bits)), (.c (.flt .f32 (default : F32).bits)), (.c (.flt .f32 (default : F32).bits))]))]⟩ (Tt ∧ Tt) [.box 1] [0, 2] [0, 1] ⟨tr, tr⟩ (thenQ_normal ?_))
  refine AW.seq ?_
  obtain ⟨v1, e2, h⟩ := bind_some h
  refine AW.rA ⟨[(0, (vp 0 0)), (2, (vp 1 0)), (3, (vc (.int .i64 v1.1)))], [(0, (.box [(.fx 0 0 (sl 1 (csI .u8) a0.code)), (.c (.int .i64 v1.2.1)), (.c (.int .u64 v1.2.2))])), (1, (.box [(.c (.flt .f32 (default : F32).bits)), (.c (.flt .f32 (default : F32).bits)), (.c (.flt .f32 (default : F32).bits)), (.c (.flt .f32 (default : F32).bits))]))]⟩ (Tt ∧ ((((Eqc (sl 1 (csI .u8) a0.code)) ∧ (Eqc (.int .i64 a0.at_)) ∧ (Eqc (.int .u64 a0.seed)) ∧ Tt) ∧ (Eqc (.int .i64 (24 : Int))) ∧ Tt) ∧ MutOK Try.prog 17 [(.box 3 (fun j => [true, false, false].getD j true) (fun j => (cs_l00Src a0).getD j .nilptr) (fun j => [.nilptr, (.int .i64 v1.2.1), (.int .u64 v1.2.2)].getD j .nilptr)), .one (.ro (.int .i64 (24 : Int)))] [.one (.int .i64 v1.1)]) ∧ Tt ∧ Tt) [.no, .callM [(.box 3 (fun j => [true, false, false].getD j true) (fun j => (cs_l00Src a0).getD j .nilptr) (fun j => [.nilptr, (.int .i64 v1.2.1), (.int .u64 v1.2.2)].getD j .nilptr)), .one (.ro (.int .i64 (24 : Int)))] [.one (.int .i64 v1.1)] [[.view]] none] [0, 2, 3] [0, 1] ⟨tr, ⟨⟨⟨rfl, rfl, rfl, tr⟩, rfl, tr⟩, ok_spec_l00Src_pick K a0 (24 : Int) v1 e2⟩, tr, tr⟩ ?_
  refine thenQ_normal ?_
  refine AW.seq ?_
  refine AW.seq (AW.rA ⟨[(0, (vp 0 0)), (2, (vp 1 0)), (3, (vc (.int .i64 v1.1))), (8, (vc (.bool (decide (v1.1 < (8 : Int))))))], [(0, (.box [(.fx 0 0 (sl 1 (csI .u8) a0.code)), (.c (.int .i64 v1.2.1)), (.c (.int .u64 v1.2.2))])), (1, (.box [(.c (.flt .f32 (default : F32).bits)), (.c (.flt .f32 (default : F32).bits)), (.c (.flt .f32 (default : F32).bits)), (.c (.flt .f32 (default : F32).bits))]))]⟩ (T2 Tt) [] [0, 2, 3, 8] [0, 1] ⟨tr, tr, tr⟩ (thenQ_normal ?_))
  rcases ite2_cases h with ⟨b3, h⟩ | ⟨b3, h⟩
  · refine AW.cond_t rfl b3 ?_
    refine AW.seq (AW.rA ⟨[(0, (vp 0 0)), (2, (vp 1 0)), (3, (vc (.int .i64 v1.1))), (4, (vc (.flt .f32 (Fl.mk (k := .f32) 1065353216 (by decide)).bits)))], [(0, (.box [(.fx 0 0 (sl 1 (csI .u8) a0.code)), (.c (.int .i64 v1.2.1)), (.c (.int .u64 v1.2.2))])), (1, (.box [(.c (.flt .f32 (default : F32).bits)), (.c (.flt .f32 (default : F32).bits)), (.c (.flt .f32 (default : F32).bits)), (.c (.flt .f32 (default : F32).bits))]))]⟩ (Tt ∧ Tt) [] [0, 2, 3, 4] [0, 1] ⟨tr, tr⟩ (thenQ_normal ?_))
    refine AW.seq ?_
    refine AW.seq (AW.rA ⟨[(0, (vp 0 0)), (2, (vp 1 0)), (3, (vc (.int .i64 v1.1))), (4, (vc (.flt .f32 (Fl.mk (k := .f32) 1065353216 (by decide)).bits))), (10, (vc (.bool (decide (v1.1 ≥ (4 : Int))))))], [(0, (.box [(.fx 0 0 (sl 1 (csI .u8) a0.code)), (.c (.int .i64 v1.2.1)), (.c (.int .u64 v1.2.2))])), (1, (.box [(.c (.flt .f32 (default : F32).bits)), (.c (.flt .f32 (default : F32).bits)), (.c (.flt .f32 (default : F32).bits)), (.c (.flt .f32 (default : F32).bits))]))]⟩ (T2 Tt) [] [0, 2, 3, 4, 10] [0, 1] ⟨tr, tr, tr⟩ (thenQ_normal ?_))
    rcases ite2_cases h with ⟨b4, h⟩ | ⟨b4, h⟩
    · refine AW.cond_t rfl b4 ?_
      refine AW.rA ⟨[(0, (vp 0 0)), (2, (vp 1 0)), (3, (vc (.int .i64 v1.1))), (4, (vc (.flt .f32 (Fl.mk (k := .f32) 3212836864 (by decide)).bits)))], [(0, (.box [(.fx 0 0 (sl 1 (csI .u8) a0.code)), (.c (.int .i64 v1.2.1)), (.c (.int .u64 v1.2.2))])), (1, (.box [(.c (.flt .f32 (default : F32).bits)), (.c (.flt .f32 (default : F32).bits)), (.c (.flt .f32 (default : F32).bits)), (.c (.flt .f32 (default : F32).bits))]))]⟩ (Tt ∧ Tt) [] [0, 2, 3, 4] [0, 1] ⟨tr, tr⟩ ?_
      refine thenQ_normal ?_
      refine AW.seq ?_
      refine AW.seq ?_
      obtain ⟨c5, h⟩ := chk_some h
      refine AW.rA ⟨[(0, (vp 0 0)), (2, (vp 1 0)), (4, (vc (.flt .f32 (Fl.mk (k := .f32) 3212836864 (by decide)).bits))), (12, (vc (.int .i64 (v1.1.tmod (4 : Int)))))], [(0, (.box [(.fx 0 0 (sl 1 (csI .u8) a0.code)), (.c (.int .i64 v1.2.1)), (.c (.int .u64 v1.2.2))])), (1, (.box [(.c (.flt .f32 (default : F32).bits)), (.c (.flt .f32 (default : F32).bits)), (.c (.flt .f32 (default : F32).bits)), (.c (.flt .f32 (default : F32).bits))]))]⟩ (Tt ∧ ((4 : Int) ≠ 0) ∧ Tt) [] [0, 2, 4, 12] [0, 1] ⟨tr, c5, tr⟩ ?_
      refine thenQ_normal ?_
      refine AW.block ?_
      refine AW.seq (AW.rA ⟨[(0, (vp 0 0)), (2, (vp 1 0)), (4, (vc (.flt .f32 (Fl.mk (k := .f32) 3212836864 (by decide)).bits))), (12, (vc (.int .i64 (v1.1.tmod (4 : Int))))), (13, (vc (.bool ((v1.1.tmod (4 : Int)) == (0 : Int)))))], [(0, (.box [(.fx 0 0 (sl 1 (csI .u8) a0.code)), (.c (.int .i64 v1.2.1)), (.c (.int .u64 v1.2.2))])), (1, (.box [(.c (.flt .f32 (default : F32).bits)), (.c (.flt .f32 (default : F32).bits)), (.c (.flt .f32 (default : F32).bits)), (.c (.flt .f32 (default : F32).bits))]))]⟩ (T2 Tt) [] [0, 2, 4, 12, 13] [0, 1] ⟨tr, tr, tr⟩ (thenQ_normal ?_))
      rcases ite2_cases h with ⟨b6, h⟩ | ⟨b6, h⟩
      · refine AW.cond_t rfl b6 ?_
        refine AW.seq (AW.rA ⟨[(0, (vp 0 0)), (2, (vp 1 0))], [(0, (.box [(.fx 0 0 (sl 1 (csI .u8) a0.code)), (.c (.int .i64 v1.2.1)), (.c (.int .u64 v1.2.2))])), (1, (.box [(.c (.flt .f32 (Fl.mk (k := .f32) 3212836864 (by decide)).bits)), (.c (.flt .f32 (default : F32).bits)), (.c (.flt .f32 (default : F32).bits)), (.c (.flt .f32 (default : F32).bits))]))]⟩ (Tt ∧ T2 Tt) [] [0, 2] [0, 1] ⟨tr, tr, tr, tr⟩ (thenQ_normal ?_))
        refine AW.ret ?_
        refine blockQ_ret ?_
        refine thenQ_ret ?_
        refine thenQ_ret ?_
        replace h := some_eq h
        subst h
        exact ⟨.inr rfl, retOK_of [(.agg [(.c (.flt .f32 (Fl.mk (k := .f32) 3212836864 (by decide)).bits)), (.c (.flt .f32 (default : F32).bits)), (.c (.flt .f32 (default : F32).bits)), (.c (.flt .f32 (default : F32).bits))])] (by kernel_rfl) ⟨⟨⟨rfl, tr⟩, ⟨rfl, tr⟩, ⟨rfl, tr⟩, ⟨rfl, tr⟩, tr⟩, tr⟩ (of_decide_eq_true (by kernel_rfl)), by kernel_rfl, ⟨⟨rfl, ⟨⟨rfl, rfl⟩, ⟨rfl, rfl⟩, ⟨rfl, rfl⟩, tr⟩⟩, tr⟩⟩
      · refine AW.cond_f rfl b6 ?_
        refine AW.seq (AW.rA ⟨[(0, (vp 0 0)), (2, (vp 1 0)), (4, (vc (.flt .f32 (Fl.mk (k := .f32) 3212836864 (by decide)).bits))), (12, (vc (.int .i64 (v1.1.tmod (4 : Int))))), (17, (vc (.bool ((v1.1.tmod (4 : Int)) == (1 : Int)))))], [(0, (.box [(.fx 0 0 (sl 1 (csI .u8) a0.code)), (.c (.int .i64 v1.2.1)), (.c (.int .u64 v1.2.2))])), (1, (.box [(.c (.flt .f32 (default : F32).bits)), (.c (.flt .f32 (default : F32).bits)), (.c (.flt .f32 (default : F32).bits)), (.c (.flt .f32 (default : F32).bits))]))]⟩ (T2 Tt) [] [0, 2, 4, 12, 17] [0, 1] ⟨tr, tr, tr⟩ (thenQ_normal ?_))
        rcases ite2_cases h with ⟨b7, h⟩ | ⟨b7, h⟩
        · refine AW.cond_t rfl b7 ?_
          refine AW.seq (AW.rA ⟨[(0, (vp 0 0)), (2, (vp 1 0))], [(0, (.box [(.fx 0 0 (sl 1 (csI .u8) a0.code)), (.c (.int .i64 v1.2.1)), (.c (.int .u64 v1.2.2))])), (1, (.box [(.c (.flt .f32 (default : F32).bits)), (.c (.flt .f32 (Fl.mk (k := .f32) 3212836864 (by decide)).bits)), (.c (.flt .f32 (default : F32).bits)), (.c (.flt .f32 (default : F32).bits))]))]⟩ (Tt ∧ T2 Tt) [] [0, 2] [0, 1] ⟨tr, tr, tr, tr⟩ (thenQ_normal ?_))
          refine AW.ret ?_
          refine blockQ_ret ?_
          refine thenQ_ret ?_
          refine thenQ_ret ?_
          replace h := some_eq h
          subst h
          exact ⟨.inr rfl, retOK_of [(.agg [(.c (.flt .f32 (default : F32).bits)), (.c (.flt .f32 (Fl.mk (k := .f32) 3212836864 (by decide)).bits)), (.c (.flt .f32 (default : F32).bits)), (.c (.flt .f32 (default : F32).bits))])] (by kernel_rfl) ⟨⟨⟨rfl, tr⟩, ⟨rfl, tr⟩, ⟨rfl, tr⟩, ⟨rfl, tr⟩, tr⟩, tr⟩ (of_decide_eq_true (by kernel_rfl)), by kernel_rfl, ⟨⟨rfl, ⟨⟨rfl, rfl⟩, ⟨rfl, rfl⟩, ⟨rfl, rfl⟩, tr⟩⟩, tr⟩⟩
        · refine AW.cond_f rfl b7 ?_
          refine AW.seq (AW.rA ⟨[(0, (vp 0 0)), (2, (vp 1 0)), (4, (vc (.flt .f32 (Fl.mk (k := .f32) 3212836864 (by decide)).bits))), (21, (vc (.bool ((v1.1.tmod (4 : Int)) == (2 : Int)))))], [(0, (.box [(.fx 0 0 (sl 1 (csI .u8) a0.code)), (.c (.int .i64 v1.2.1)), (.c (.int .u64 v1.2.2))])), (1, (.box [(.c (.flt .f32 (default : F32).bits)), (.c (.flt .f32 (default : F32).bits)), (.c (.flt .f32 (default : F32).bits)), (.c (.flt .f32 (default : F32).bits))]))]⟩ (T2 Tt) [] [0, 2, 4, 21] [0, 1] ⟨tr, tr, tr⟩ (thenQ_normal ?_))
          rcases ite2_cases h with ⟨b8, h⟩ | ⟨b8, h⟩
          · refine AW.cond_t rfl b8 ?_
            refine AW.seq (AW.rA ⟨[(0, (vp 0 0)), (2, (vp 1 0))], [(0, (.box [(.fx 0 0 (sl 1 (csI .u8) a0.code)), (.c (.int .i64 v1.2.1)), (.c (.int .u64 v1.2.2))])), (1, (.box [(.c (.flt .f32 (default : F32).bits)), (.c (.flt .f32 (default : F32).bits)), (.c (.flt .f32 (Fl.mk (k := .f32) 3212836864 (by decide)).bits)), (.c (.flt .f32 (default : F32).bits))]))]⟩ (Tt ∧ T2 Tt) [] [0, 2] [0, 1] ⟨tr, tr, tr, tr⟩ (thenQ_normal ?_))
            refine AW.ret ?_
            refine blockQ_ret ?_
            refine thenQ_ret ?_
            refine thenQ_ret ?_
            replace h := some_eq h
            subst h
            exact ⟨.inr rfl, retOK_of [(.agg [(.c (.flt .f32 (default : F32).bits)), (.c (.flt .f32 (default : F32).bits)), (.c (.flt .f32 (Fl.mk (k := .f32) 3212836864 (by decide)).bits)), (.c (.flt .f32 (default : F32).bits))])] (by kernel_rfl) ⟨⟨⟨rfl, tr⟩, ⟨rfl, tr⟩, ⟨rfl, tr⟩, ⟨rfl, tr⟩, tr⟩, tr⟩ (of_decide_eq_true (by kernel_rfl)), by kernel_rfl, ⟨⟨rfl, ⟨⟨rfl, rfl⟩, ⟨rfl, rfl⟩, ⟨rfl, rfl⟩, tr⟩⟩, tr⟩⟩
          · refine AW.cond_f rfl b8 ?_
            refine AW.skip ?_
            refine blockQ_normal ?_
            refine thenQ_normal ?_
            refine AW.seq (AW.rA ⟨[(0, (vp 0 0)), (2, (vp 1 0))], [(0, (.box [(.fx 0 0 (sl 1 (csI .u8) a0.code)), (.c (.int .i64 v1.2.1)), (.c (.int .u64 v1.2.2))])), (1, (.box [(.c (.flt .f32 (default : F32).bits)), (.c (.flt .f32 (default : F32).bits)), (.c (.flt .f32 (default : F32).bits)), (.c (.flt .f32 (Fl.mk (k := .f32) 3212836864 (by decide)).bits))]))]⟩ (Tt ∧ T2 Tt) [] [0, 2] [0, 1] ⟨tr, tr, tr, tr⟩ (thenQ_normal ?_))
            refine AW.ret ?_
            refine thenQ_ret ?_
            replace h := some_eq h
            subst h
            exact ⟨.inr rfl, retOK_of [(.agg [(.c (.flt .f32 (default : F32).bits)), (.c (.flt .f32 (default : F32).bits)), (.c (.flt .f32 (default : F32).bits)), (.c (.flt .f32 (Fl.mk (k := .f32) 3212836864 (by decide)).bits))])] (by kernel_rfl) ⟨⟨⟨rfl, tr⟩, ⟨rfl, tr⟩, ⟨rfl, tr⟩, ⟨rfl, tr⟩, tr⟩, tr⟩ (of_decide_eq_true (by kernel_rfl)), by kernel_rfl, ⟨⟨rfl, ⟨⟨rfl, rfl⟩, ⟨rfl, rfl⟩, ⟨rfl, rfl⟩, tr⟩⟩, tr⟩⟩
    · refine AW.cond_f rfl b4 ?_
      refine AW.skip ?_
      refine thenQ_normal ?_
      refine AW.seq ?_
      refine AW.seq ?_
      obtain ⟨c9, h⟩ := chk_some h
      refine AW.rA ⟨[(0, (vp 0 0)), (2, (vp 1 0)), (4, (vc (.flt .f32 (Fl.mk (k := .f32) 1065353216 (by decide)).bits))), (12, (vc (.int .i64 (v1.1.tmod (4 : Int)))))], [(0, (.box [(.fx 0 0 (sl 1 (csI .u8) a0.code)), (.c (.int .i64 v1.2.1)), (.c (.int .u64 v1.2.2))])), (1, (.box [(.c (.flt .f32 (default : F32).bits)), (.c (.flt .f32 (default : F32).bits)), (.c (.flt .f32 (default : F32).bits)), (.c (.flt .f32 (default : F32).bits))]))]⟩ (Tt ∧ ((4 : Int) ≠ 0) ∧ Tt) [] [0, 2, 4, 12] [0, 1] ⟨tr, c9, tr⟩ ?_
      refine thenQ_normal ?_
      refine AW.block ?_
      refine AW.seq (AW.rA ⟨[(0, (vp 0 0)), (2, (vp 1 0)), (4, (vc (.flt .f32 (Fl.mk (k := .f32) 1065353216 (by decide)).bits))), (12, (vc (.int .i64 (v1.1.tmod (4 : Int))))), (13, (vc (.bool ((v1.1.tmod (4 : Int)) == (0 : Int)))))], [(0, (.box [(.fx 0 0 (sl 1 (csI .u8) a0.code)), (.c (.int .i64 v1.2.1)), (.c (.int .u64 v1.2.2))])), (1, (.box [(.c (.flt .f32 (default : F32).bits)), (.c (.flt .f32 (default : F32).bits)), (.c (.flt .f32 (default : F32).bits)), (.c (.flt .f32 (default : F32).bits))]))]⟩ (T2 Tt) [] [0, 2, 4, 12, 13] [0, 1] ⟨tr, tr, tr⟩ (thenQ_normal ?_))
      rcases ite2_cases h with ⟨b10, h⟩ | ⟨b10, h⟩
      · refine AW.cond_t rfl b10 ?_
        refine AW.seq (AW.rA ⟨[(0, (vp 0 0)), (2, (vp 1 0))], [(0, (.box [(.fx 0 0 (sl 1 (csI .u8) a0.code)), (.c (.int .i64 v1.2.1)), (.c (.int .u64 v1.2.2))])), (1, (.box [(.c (.flt .f32 (Fl.mk (k := .f32) 1065353216 (by decide)).bits)), (.c (.flt .f32 (default : F32).bits)), (.c (.flt .f32 (default : F32).bits)), (.c (.flt .f32 (default : F32).bits))]))]⟩ (Tt ∧ T2 Tt) [] [0, 2] [0, 1] ⟨tr, tr, tr, tr⟩ (thenQ_normal ?_))
        refine AW.ret ?_
        refine blockQ_ret ?_
        refine thenQ_ret ?_
        refine thenQ_ret ?_
        replace h := some_eq h
        subst h
        exact ⟨.inr rfl, retOK_of [(.agg [(.c (.flt .f32 (Fl.mk (k := .f32) 1065353216 (by decide)).bits)), (.c (.flt .f32 (default : F32).bits)), (.c (.flt .f32 (default : F32).bits)), (.c (.flt .f32 (default : F32).bits))])] (by kernel_rfl) ⟨⟨⟨rfl, tr⟩, ⟨rfl, tr⟩, ⟨rfl, tr⟩, ⟨rfl, tr⟩, tr⟩, tr⟩ (of_decide_eq_true (by kernel_rfl)), by kernel_rfl, ⟨⟨rfl, ⟨⟨rfl, rfl⟩, ⟨rfl, rfl⟩, ⟨rfl, rfl⟩, tr⟩⟩, tr⟩⟩
      · refine AW.cond_f rfl b10 ?_
        refine AW.seq (AW.rA ⟨[(0, (vp 0 0)), (2, (vp 1 0)), (4, (vc (.flt .f32 (Fl.mk (k := .f32) 1065353216 (by decide)).bits))), (12, (vc (.int .i64 (v1.1.tmod (4 : Int))))), (17, (vc (.bool ((v1.1.tmod (4 : Int)) == (1 : Int)))))], [(0, (.box [(.fx 0 0 (sl 1 (csI .u8) a0.code)), (.c (.int .i64 v1.2.1)), (.c (.int .u64 v1.2.2))])), (1, (.box [(.c (.flt .f32 (default : F32).bits)), (.c (.flt .f32 (default : F32).bits)), (.c (.flt .f32 (default : F32).bits)), (.c (.flt .f32 (default : F32).bits))]))]⟩ (T2 Tt) [] [0, 2, 4, 12, 17] [0, 1] ⟨tr, tr, tr⟩ (thenQ_normal ?_))
        rcases ite2_cases h with ⟨b11, h⟩ | ⟨b11, h⟩
        · refine AW.cond_t rfl b11 ?_
          refine AW.seq (AW.rA ⟨[(0, (vp 0 0)), (2, (vp 1 0))], [(0, (.box [(.fx 0 0 (sl 1 (csI .u8) a0.code)), (.c (.int .i64 v1.2.1)), (.c (.int .u64 v1.2.2))])), (1, (.box [(.c (.flt .f32 (default : F32).bits)), (.c (.flt .f32 (Fl.mk (k := .f32) 1065353216 (by decide)).bits)), (.c (.flt .f32 (default : F32).bits)), (.c (.flt .f32 (default : F32).bits))]))]⟩ (Tt ∧ T2 Tt) [] [0, 2] [0, 1] ⟨tr, tr, tr, tr⟩ (thenQ_normal ?_))
          refine AW.ret ?_
          refine blockQ_ret ?_
          refine thenQ_ret ?_
          refine thenQ_ret ?_
          replace h := some_eq h
          subst h
          exact ⟨.inr rfl, retOK_of [(.agg [(.c (.flt .f32 (default : F32).bits)), (.c (.flt .f32 (Fl.mk (k := .f32) 1065353216 (by decide)).bits)), (.c (.flt .f32 (default : F32).bits)), (.c (.flt .f32 (default : F32).bits))])] (by kernel_rfl) ⟨⟨⟨rfl, tr⟩, ⟨rfl, tr⟩, ⟨rfl, tr⟩, ⟨rfl, tr⟩, tr⟩, tr⟩ (of_decide_eq_true (by kernel_rfl)), by kernel_rfl, ⟨⟨rfl, ⟨⟨rfl, rfl⟩, ⟨rfl, rfl⟩, ⟨rfl, rfl⟩, tr⟩⟩, tr⟩⟩
        · refine AW.cond_f rfl b11 ?_
          refine AW.seq (AW.rA ⟨[(0, (vp 0 0)), (2, (vp 1 0)), (4, (vc (.flt .f32 (Fl.mk (k := .f32) 1065353216 (by decide)).bits))), (21, (vc (.bool ((v1.1.tmod (4 : Int)) == (2 : Int)))))], [(0, (.box [(.fx 0 0 (sl 1 (csI .u8) a0.code)), (.c (.int .i64 v1.2.1)), (.c (.int .u64 v1.2.2))])), (1, (.box [(.c (.flt .f32 (default : F32).bits)), (.c (.flt .f32 (default : F32).bits)), (.c (.flt .f32 (default : F32).bits)), (.c (.flt .f32 (default : F32).bits))]))]⟩ (T2 Tt) [] [0, 2, 4, 21] [0, 1] ⟨tr, tr, tr⟩ (thenQ_normal ?_))
          rcases ite2_cases h with ⟨b12, h⟩ | ⟨b12, h⟩
          · refine AW.cond_t rfl b12 ?_
            refine AW.seq (AW.rA ⟨[(0, (vp 0 0)), (2, (vp 1 0))], [(0, (.box [(.fx 0 0 (sl 1 (csI .u8) a0.code)), (.c (.int .i64 v1.2.1)), (.c (.int .u64 v1.2.2))])), (1, (.box [(.c (.flt .f32 (default : F32).bits)), (.c (.flt .f32 (default : F32).bits)), (.c (.flt .f32 (Fl.mk (k := .f32) 1065353216 (by decide)).bits)), (.c (.flt .f32 (default : F32).bits))]))]⟩ (Tt ∧ T2 Tt) [] [0, 2] [0, 1] ⟨tr, tr, tr, tr⟩ (thenQ_normal ?_))
            refine AW.ret ?_
            refine blockQ_ret ?_
            refine thenQ_ret ?_
            refine thenQ_ret ?_
            replace h := some_eq h
            subst h
            exact ⟨.inr rfl, retOK_of [(.agg [(.c (.flt .f32 (default : F32).bits)), (.c (.flt .f32 (default : F32).bits)), (.c (.flt .f32 (Fl.mk (k := .f32) 1065353216 (by decide)).bits)), (.c (.flt .f32 (default : F32).bits))])] (by kernel_rfl) ⟨⟨⟨rfl, tr⟩, ⟨rfl, tr⟩, ⟨rfl, tr⟩, ⟨rfl, tr⟩, tr⟩, tr⟩ (of_decide_eq_true (by kernel_rfl)), by kernel_rfl, ⟨⟨rfl, ⟨⟨rfl, rfl⟩, ⟨rfl, rfl⟩, ⟨rfl, rfl⟩, tr⟩⟩, tr⟩⟩
          · refine AW.cond_f rfl b12 ?_
            refine AW.skip ?_
            refine blockQ_normal ?_
            refine thenQ_normal ?_
            refine AW.seq (AW.rA ⟨[(0, (vp 0 0)), (2, (vp 1 0))], [(0, (.box [(.fx 0 0 (sl 1 (csI .u8) a0.code)), (.c (.int .i64 v1.2.1)), (.c (.int .u64 v1.2.2))])), (1, (.box [(.c (.flt .f32 (default : F32).bits)), (.c (.flt .f32 (default : F32).bits)), (.c (.flt .f32 (default : F32).bits)), (.c (.flt .f32 (Fl.mk (k := .f32) 1065353216 (by decide)).bits))]))]⟩ (Tt ∧ T2 Tt) [] [0, 2] [0, 1] ⟨tr, tr, tr, tr⟩ (thenQ_normal ?_))
            refine AW.ret ?_
            refine thenQ_ret ?_
            replace h := some_eq h
            subst h
            exact ⟨.inr rfl, retOK_of [(.agg [(.c (.flt .f32 (default : F32).bits)), (.c (.flt .f32 (default : F32).bits)), (.c (.flt .f32 (default : F32).bits)), (.c (.flt .f32 (Fl.mk (k := .f32) 1065353216 (by decide)).bits))])] (by kernel_rfl) ⟨⟨⟨rfl, tr⟩, ⟨rfl, tr⟩, ⟨rfl, tr⟩, ⟨rfl, tr⟩, tr⟩, tr⟩ (of_decide_eq_true (by kernel_rfl)), by kernel_rfl, ⟨⟨rfl, ⟨⟨rfl, rfl⟩, ⟨rfl, rfl⟩, ⟨rfl, rfl⟩, tr⟩⟩, tr⟩⟩
  · refine AW.cond_f rfl b3 ?_
    refine AW.skip ?_
    refine thenQ_normal ?_
    refine AW.seq (AW.rA ⟨[(0, (vp 0 0)), (2, (vp 1 0)), (3, (vc (.int .i64 (IntKind.i64.wrap (v1.1 - (8 : Int))))))], [(0, (.box [(.fx 0 0 (sl 1 (csI .u8) a0.code)), (.c (.int .i64 v1.2.1)), (.c (.int .u64 v1.2.2))])), (1, (.box [(.c (.flt .f32 (default : F32).bits)), (.c (.flt .f32 (default : F32).bits)), (.c (.flt .f32 (default : F32).bits)), (.c (.flt .f32 (default : F32).bits))]))]⟩ (Tt ∧ T2 Tt) [] [0, 2, 3] [0, 1] ⟨tr, tr, tr, tr⟩ (thenQ_normal ?_))
    refine AW.seq ?_
    obtain ⟨c13, h⟩ := chk_some h
    obtain ⟨c14, h⟩ := chk_some h
    obtain ⟨c15, h⟩ := chk_some h
    refine AW.rA ⟨[(0, (vp 0 0)), (2, (vp 1 0))], [(0, (.box [(.fx 0 0 (sl 1 (csI .u8) a0.code)), (.c (.int .i64 v1.2.1)), (.c (.int .u64 v1.2.2))])), (1, (.box [(.c (.flt .f32 ((Fl.ofInt .f32 (bits .and .i64 (IntKind.i64.wrap (v1.1 - (8 : Int))) (1 : Int))).sub (Fl.mk (k := .f32) 1056964608 (by decide))).bits)), (.c (.flt .f32 ((Fl.ofInt .f32 (bits .and .i64 ((IntKind.i64.wrap (v1.1 - (8 : Int))).fdiv (2 ^ (min (1 : Int).toNat (IntKind.bits .i64)))) (1 : Int))).sub (Fl.mk (k := .f32) 1056964608 (by decide))).bits)), (.c (.flt .f32 ((Fl.ofInt .f32 (bits .and .i64 ((IntKind.i64.wrap (v1.1 - (8 : Int))).fdiv (2 ^ (min (2 : Int).toNat (IntKind.bits .i64)))) (1 : Int))).sub (Fl.mk (k := .f32) 1056964608 (by decide))).bits)), (.c (.flt .f32 ((Fl.ofInt .f32 (bits .and .i64 ((IntKind.i64.wrap (v1.1 - (8 : Int))).fdiv (2 ^ (min (3 : Int).toNat (IntKind.bits .i64)))) (1 : Int))).sub (Fl.mk (k := .f32) 1056964608 (by decide))).bits))]))]⟩ (Tt ∧ T4 ((0 ≤ (1 : Int)) ∧ T4 ((0 ≤ (2 : Int)) ∧ T4 ((0 ≤ (3 : Int)) ∧ Tt ∧ T4 Tt)))) [] [0, 2] [0, 1] ⟨tr, tr, tr, tr, tr, c13, tr, tr, tr, tr, c14, tr, tr, tr, tr, c15, tr, tr, tr, tr, tr, tr⟩ ?_
    refine thenQ_normal ?_
    refine AW.ret ?_
    replace h := some_eq h
    subst h
    exact ⟨.inr rfl, retOK_of [(.agg [(.c (.flt .f32 ((Fl.ofInt .f32 (bits .and .i64 (IntKind.i64.wrap (v1.1 - (8 : Int))) (1 : Int))).sub (Fl.mk (k := .f32) 1056964608 (by decide))).bits)), (.c (.flt .f32 ((Fl.ofInt .f32 (bits .and .i64 ((IntKind.i64.wrap (v1.1 - (8 : Int))).fdiv (2 ^ (min (1 : Int).toNat (IntKind.bits .i64)))) (1 : Int))).sub (Fl.mk (k := .f32) 1056964608 (by decide))).bits)), (.c (.flt .f32 ((Fl.ofInt .f32 (bits .and .i64 ((IntKind.i64.wrap (v1.1 - (8 : Int))).fdiv (2 ^ (min (2 : Int).toNat (IntKind.bits .i64)))) (1 : Int))).sub (Fl.mk (k := .f32) 1056964608 (by decide))).bits)), (.c (.flt .f32 ((Fl.ofInt .f32 (bits .and .i64 ((IntKind.i64.wrap (v1.1 - (8 : Int))).fdiv (2 ^ (min (3 : Int).toNat (IntKind.bits .i64)))) (1 : Int))).sub (Fl.mk (k := .f32) 1056964608 (by decide))).bits))])] (by kernel_rfl) ⟨⟨⟨rfl, tr⟩, ⟨rfl, tr⟩, ⟨rfl, tr⟩, ⟨rfl, tr⟩, tr⟩, tr⟩ (of_decide_eq_true (by kernel_rfl)), by kernel_rfl, ⟨⟨rfl, ⟨⟨rfl, rfl⟩, ⟨rfl, rfl⟩, ⟨rfl, rfl⟩, tr⟩⟩, tr⟩⟩

/-! spec.B10Exact -/
def Zt1 (Q0 Q1 Q2 : Prop) : Prop := (Q0 ∧ (Q1 ∧ (Q2 ∧ (Tt ∧ (Tt ∧ Tt)))))
theorem zt1 {Q0 Q1 Q2 : Prop} (q0 : Q0) (q1 : Q1) (q2 : Q2) : Zt1 Q0 Q1 Q2 := ⟨q0, ⟨q1, ⟨q2, ⟨tr, ⟨tr, tr⟩⟩⟩⟩⟩
def Zt2 (QE Q1 Q2 : Prop) : Prop := ((Tt ∧ (Q1 ∧ (Q2 ∧ (Tt ∧ (Tt ∧ Tt))))) ∧ (Q1 ∧ (Tt ∧ (Q2 ∧ (Tt ∧ (Tt ∧ Tt))))) ∧ QE)
theorem zt2 {QE Q1 Q2 : Prop} (qe : QE) (q1 : Q1) (q2 : Q2) : Zt2 QE Q1 Q2 := ⟨⟨tr, ⟨q1, ⟨q2, ⟨tr, ⟨tr, tr⟩⟩⟩⟩⟩, ⟨q1, ⟨tr, ⟨q2, ⟨tr, ⟨tr, tr⟩⟩⟩⟩⟩, qe⟩
def Zt3 (QE Q0 Q1 Q2 : Prop) : Prop := ((Tt ∧ (Zt1 Q0 Q1 Q2)) ∧ (Q0 ∧ (Zt2 QE Q1 Q2)) ∧ QE)
theorem zt3 {QE Q0 Q1 Q2 : Prop} (qe : QE) (q0 : Q0) (q1 : Q1) (q2 : Q2) : Zt3 QE Q0 Q1 Q2 := ⟨⟨tr, (zt1 q0 q1 q2)⟩, ⟨q0, (zt2 qe q1 q2)⟩, qe⟩
def spec_B10Exact_l1 (K : Nat) (a0 : (List Int)) (v1 : (Int × Int × Int)) (v3 : (Int × Int × Int)) : Nat → Int → Int → Int → (List Turn) → Option (Pose)
  | 0, _, _, _, _ => none
  | k + 1, x9, x10, x11, x12 => ite2 ((decide (x9 > (0 : Int)))) ((spec_l02DrawExact K (l00Src.mk a0 x10 x11)).bind fun v14 => chk ((x12.length + ([v14.1]).length) * 16 ≤ 140737488355328) (spec_B10Exact_l1 K a0 v1 v3 k (IntKind.i64.wrap (x9 - (1 : Int))) v14.2.1 v14.2.2 (x12 ++ ([v14.1])))) (some (Pose.mk (Vector.mk (Fl.ofInt .f32 (IntKind.i64.wrap (v1.1 - (4 : Int)))) (Fl.ofInt .f32 (IntKind.i64.wrap (v3.1 - (4 : Int)))) (default : F32)) x12))

def spec_B10Exact (K : Nat) (a0 : (List Int)) (a1 : Int) : Option (Pose) :=
  (spec_l00Src_pick K (l00Src.mk a0 (0 : Int) (0 : Int)) (9 : Int)).bind fun v1 => (spec_l00Src_pick K (l00Src.mk a0 v1.2.1 v1.2.2) (9 : Int)).bind fun v3 => spec_B10Exact_l1 K a0 v1 v3 K a1 v3.2.1 v3.2.2 ([] : List Turn)

theorem ok_spec_B10Exact (K : Nat) (a0 : (List Int)) (a1 : Int) (o : (Pose)) (h : spec_B10Exact K a0 a1 = some o) : CallOK Try.prog 6 [.one (sl 1 (csI .u8) a0), .one (.int .i64 a1)] [.agg (cs_Pose o)] := by
  refine callOK_of_AW Try.func6 rfl (by kernel_rfl) (Nat.le_of_ble_eq_true (by kernel_rfl)) ?_
  intro w0
  unfold spec_B10Exact at h
  refine AW.seq (AW.rA ⟨[(0, (vc (sl 1 (csI .u8) a0))), (1, (vc (.int .i64 a1))), (4, (vp 1 0))], [(1, (.box [(.c (.flt .f32 (default : F32).bits)), (.c (.flt .f32 (default : F32).bits)), (.c (.flt .f32 (default : F32).bits)), .nils]))]⟩ (Tt ∧ Tt) [.box 1] [0, 1, 4] [1] ⟨tr, tr⟩ (thenQ_normal ?_))
  refine AW.seq (AW.mkA 1 2 [(.i64, 0), (.u64, 0)] [.no] [] [1, 4, 5] [1, 2] (s' := ⟨[(1, (vc (.int .i64 a1))), (4, (vp 1 0)), (5, (vp 2 0))], [(1, (.box [(.c (.flt .f32 (default : F32).bits)), (.c (.flt .f32 (default : F32).bits)), (.c (.flt .f32 (default : F32).bits)), .nils])), (2, (.box [(.c (sl 1 (csI .u8) a0)), (.c (.int .i64 (0 : Int))), (.c (.int .u64 (0 : Int)))]))]⟩) (ob := (Tt ∧ Tt) ∧ Tt ∧ (Tt ∧ Tt)) (by kernel_rfl) ⟨⟨tr, tr⟩, tr, ⟨tr, tr⟩⟩ mk_spec_l00From (thenQ_normal ?_))
  refine AW.seq (AW.rA ⟨[(1, (vc (.int .i64 a1))), (4, (vp 1 0)), (5, (vp 2 0)), (6, (vp 4 0))], [(1, (.box [(.c (.flt .f32 (default : F32).bits)), (.c (.flt .f32 (default : F32).bits)), (.c (.flt .f32 (default : F32).bits)), .nils])), (2, (.box [(.c (sl 1 (csI .u8) a0)), (.c (.int .i64 (0 : Int))), (.c (.int .u64 (0 : Int)))])), (3, (.lst ([] : List Turn).length 4 (gl cs_Turn ([] : List Turn)))), (4, (.box [(.c (.flt .f32 (default : F32).bits)), (.c (.flt .f32 (default : F32).bits)), (.c (.flt .f32 (default : F32).bits)), (.lst 3 ([] : List Turn).length 4 (gl cs_Turn ([] : List Turn)))]))]⟩ ((([] : List Turn).length = 0 ∧ Tt) ∧ Tt ∧ T2 Tt) [.obj 3 ([] : List Turn).length (gl cs_Turn ([] : List Turn)), .no, .box 4] [1, 4, 5, 6] [1, 2, 3, 4] ⟨⟨rfl, tr⟩, tr, tr, tr, tr⟩ (thenQ_normal ?_))
  refine AW.seq ?_
  obtain ⟨v1, e2, h⟩ := bind_some h
  refine AW.rA ⟨[(1, (vc (.int .i64 a1))), (4, (vp 1 0)), (5, (vp 2 0)), (6, (vp 4 0))], [(1, (.box [(.c (.flt .f32 (default : F32).bits)), (.c (.flt .f32 (default : F32).bits)), (.c (.flt .f32 (default : F32).bits)), .nils])), (2, (.box [(.c (sl 1 (csI .u8) a0)), (.c (.int .i64 v1.2.1)), (.c (.int .u64 v1.2.2))])), (3, (.lst ([] : List Turn).length 4 (gl cs_Turn ([] : List Turn)))), (4, (.box [(.c (.flt .f32 (Fl.ofInt .f32 (IntKind.i64.wrap (v1.1 - (4 : Int)))).bits)), (.c (.flt .f32 (default : F32).bits)), (.c (.flt .f32 (default : F32).bits)), (.lst 3 ([] : List Turn).length 4 (gl cs_Turn ([] : List Turn)))]))]⟩ (Tt ∧ ((((Eqc (sl 1 (csI .u8) a0)) ∧ (Eqc (.int .i64 (0 : Int))) ∧ (Eqc (.int .u64 (0 : Int))) ∧ Tt) ∧ (Eqc (.int .i64 (9 : Int))) ∧ Tt) ∧ MutOK Try.prog 17 [(.box 3 (fun j => [true, false, false].getD j true) (fun j => (cs_l00Src (l00Src.mk a0 (0 : Int) (0 : Int))).getD j .nilptr) (fun j => [.nilptr, (.int .i64 v1.2.1), (.int .u64 v1.2.2)].getD j .nilptr)), .one (.ro (.int .i64 (9 : Int)))] [.one (.int .i64 v1.1)]) ∧ Tt ∧ T4 Tt) [.no, .callM [(.box 3 (fun j => [true, false, false].getD j true) (fun j => (cs_l00Src (l00Src.mk a0 (0 : Int) (0 : Int))).getD j .nilptr) (fun j => [.nilptr, (.int .i64 v1.2.1), (.int .u64 v1.2.2)].getD j .nilptr)), .one (.ro (.int .i64 (9 : Int)))] [.one (.int .i64 v1.1)] [[.view]] none] [1, 4, 5, 6] [1, 2, 3, 4] ⟨tr, ⟨⟨⟨rfl, rfl, rfl, tr⟩, rfl, tr⟩, ok_spec_l00Src_pick K (l00Src.mk a0 (0 : Int) (0 : Int)) (9 : Int) v1 e2⟩, tr, tr, tr, tr, tr, tr⟩ ?_
  refine thenQ_normal ?_
  refine AW.seq ?_
  obtain ⟨v3, e4, h⟩ := bind_some h
  refine AW.rA ⟨[(1, (vc (.int .i64 a1))), (4, (vp 1 0)), (5, (vp 2 0)), (6, (vp 4 0))], [(1, (.box [(.c (.flt .f32 (default : F32).bits)), (.c (.flt .f32 (default : F32).bits)), (.c (.flt .f32 (default : F32).bits)), .nils])), (2, (.box [(.c (sl 1 (csI .u8) a0)), (.c (.int .i64 v3.2.1)), (.c (.int .u64 v3.2.2))])), (3, (.lst ([] : List Turn).length 4 (gl cs_Turn ([] : List Turn)))), (4, (.box [(.c (.flt .f32 (Fl.ofInt .f32 (IntKind.i64.wrap (v1.1 - (4 : Int)))).bits)), (.c (.flt .f32 (Fl.ofInt .f32 (IntKind.i64.wrap (v3.1 - (4 : Int)))).bits)), (.c (.flt .f32 (default : F32).bits)), (.lst 3 ([] : List Turn).length 4 (gl cs_Turn ([] : List Turn)))]))]⟩ (Tt ∧ ((((Eqc (sl 1 (csI .u8) a0)) ∧ (Eqc (.int .i64 v1.2.1)) ∧ (Eqc (.int .u64 v1.2.2)) ∧ Tt) ∧ (Eqc (.int .i64 (9 : Int))) ∧ Tt) ∧ MutOK Try.prog 17 [(.box 3 (fun j => [true, false, false].getD j true) (fun j => (cs_l00Src (l00Src.mk a0 v1.2.1 v1.2.2)).getD j .nilptr) (fun j => [.nilptr, (.int .i64 v3.2.1), (.int .u64 v3.2.2)].getD j .nilptr)), .one (.ro (.int .i64 (9 : Int)))] [.one (.int .i64 v3.1)]) ∧ Tt ∧ T4 Tt) [.no, .callM [(.box 3 (fun j => [true, false, false].getD j true) (fun j => (cs_l00Src (l00Src.mk a0 v1.2.1 v1.2.2)).getD j .nilptr) (fun j => [.nilptr, (.int .i64 v3.2.1), (.int .u64 v3.2.2)].getD j .nilptr)), .one (.ro (.int .i64 (9 : Int)))] [.one (.int .i64 v3.1)] [[.view]] none] [1, 4, 5, 6] [1, 2, 3, 4] ⟨tr, ⟨⟨⟨rfl, rfl, rfl, tr⟩, rfl, tr⟩, ok_spec_l00Src_pick K (l00Src.mk a0 v1.2.1 v1.2.2) (9 : Int) v3 e4⟩, tr, tr, tr, tr, tr, tr⟩ ?_
  refine thenQ_normal ?_
  refine AW.seq ?_
  refine AW.block ?_
  refine AW.loopQ (σ := Nat × Int × Int × Int × (List Turn)) (fun p => ⟨[(1, (vc (.int .i64 p.2.1))), (4, (vp 1 0)), (5, (vp 2 0)), (6, (vp 4 0))], [(1, (.box [(.c (.flt .f32 (default : F32).bits)), (.c (.flt .f32 (default : F32).bits)), (.c (.flt .f32 (default : F32).bits)), .nils])), (2, (.box [(.c (sl 1 (csI .u8) a0)), (.c (.int .i64 p.2.2.1)), (.c (.int .u64 p.2.2.2.1))])), (3, (.lst p.2.2.2.2.length 4 (gl cs_Turn p.2.2.2.2))), (4, (.box [(.c (.flt .f32 (Fl.ofInt .f32 (IntKind.i64.wrap (v1.1 - (4 : Int)))).bits)), (.c (.flt .f32 (Fl.ofInt .f32 (IntKind.i64.wrap (v3.1 - (4 : Int)))).bits)), (.c (.flt .f32 (default : F32).bits)), (.lst 3 p.2.2.2.2.length 4 (gl cs_Turn p.2.2.2.2))]))]⟩) (fun p => spec_B10Exact_l1 K a0 v1 v3 p.1 p.2.1 p.2.2.1 p.2.2.2.1 p.2.2.2.2 = some o) (fun p => p.1) (K, a1, v3.2.1, v3.2.2, ([] : List Turn)) h ?_
  clear h
  rintro ⟨k, x9, x10, x11, x12⟩ h
  replace h : spec_B10Exact_l1 K a0 v1 v3 k x9 x10 x11 x12 = some o := h
  show AW _ _ (⟨[(1, (vc (.int .i64 x9))), (4, (vp 1 0)), (5, (vp 2 0)), (6, (vp 4 0))], [(1, (.box [(.c (.flt .f32 (default : F32).bits)), (.c (.flt .f32 (default : F32).bits)), (.c (.flt .f32 (default : F32).bits)), .nils])), (2, (.box [(.c (sl 1 (csI .u8) a0)), (.c (.int .i64 x10)), (.c (.int .u64 x11))])), (3, (.lst x12.length 4 (gl cs_Turn x12))), (4, (.box [(.c (.flt .f32 (Fl.ofInt .f32 (IntKind.i64.wrap (v1.1 - (4 : Int)))).bits)), (.c (.flt .f32 (Fl.ofInt .f32 (IntKind.i64.wrap (v3.1 - (4 : Int)))).bits)), (.c (.flt .f32 (default : F32).bits)), (.lst 3 x12.length 4 (gl cs_Turn x12))]))]⟩ : St) _
  obtain _ | k := k
  · rw [spec_B10Exact_l1] at h; cases h
  rw [spec_B10Exact_l1] at h
  refine AW.seq ?_
  refine AW.seq (AW.rA ⟨[(1, (vc (.int .i64 x9))), (4, (vp 1 0)), (5, (vp 2 0)), (6, (vp 4 0)), (24, (vc (.bool (decide (x9 > (0 : Int))))))], [(1, (.box [(.c (.flt .f32 (default : F32).bits)), (.c (.flt .f32 (default : F32).bits)), (.c (.flt .f32 (default : F32).bits)), .nils])), (2, (.box [(.c (sl 1 (csI .u8) a0)), (.c (.int .i64 x10)), (.c (.int .u64 x11))])), (3, (.lst x12.length 4 (gl cs_Turn x12))), (4, (.box [(.c (.flt .f32 (Fl.ofInt .f32 (IntKind.i64.wrap (v1.1 - (4 : Int)))).bits)), (.c (.flt .f32 (Fl.ofInt .f32 (IntKind.i64.wrap (v3.1 - (4 : Int)))).bits)), (.c (.flt .f32 (default : F32).bits)), (.lst 3 x12.length 4 (gl cs_Turn x12))]))]⟩ (T2 Tt) [] [1, 4, 5, 6, 24] [1, 2, 3, 4] ⟨tr, tr, tr⟩ (thenQ_normal ?_))
  rcases ite2_cases h with ⟨b13, h⟩ | ⟨b13, h⟩
  · refine AW.cond_t rfl b13 ?_
    refine AW.skip ?_
    refine thenQ_normal ?_
    refine AW.seq ?_
    refine AW.block ?_
    obtain ⟨v14, e15, h⟩ := bind_some h
    obtain ⟨c16, h⟩ := chk_some h
    refine AW.firstA (by kernel_rfl) [0, 2] [.no, .no, .no, .callM [(.box 3 (fun j => [true, false, false].getD j true) (fun j => (cs_l00Src (l00Src.mk a0 x10 x11)).getD j .nilptr) (fun j => [.nilptr, (.int .i64 v14.2.1), (.int .u64 v14.2.2)].getD j .nilptr))] [.agg (cs_Turn v14.1)] [[.view, .view, .view, .view]] none, .obj 9 ([v14.1]).length (gl cs_Turn ([v14.1])), .objK 10 (x12 ++ ([v14.1])).length (gl cs_Turn (x12 ++ ([v14.1])))] [1, 4, 5, 6] [1, 2, 4, 10] (s' := ⟨[(1, (vc (.int .i64 x9))), (4, (vp 1 0)), (5, (vp 2 0)), (6, (vp 4 0))], [(1, (.box [(.c (.flt .f32 (default : F32).bits)), (.c (.flt .f32 (default : F32).bits)), (.c (.flt .f32 (default : F32).bits)), .nils])), (2, (.box [(.c (sl 1 (csI .u8) a0)), (.c (.int .i64 v14.2.1)), (.c (.int .u64 v14.2.2))])), (4, (.box [(.c (.flt .f32 (Fl.ofInt .f32 (IntKind.i64.wrap (v1.1 - (4 : Int)))).bits)), (.c (.flt .f32 (Fl.ofInt .f32 (IntKind.i64.wrap (v3.1 - (4 : Int)))).bits)), (.c (.flt .f32 (default : F32).bits)), (.lst 10 (x12 ++ ([v14.1])).length 4 (gl cs_Turn (x12 ++ ([v14.1]))))])), (10, (.lst (x12 ++ ([v14.1])).length 4 (gl cs_Turn (x12 ++ ([v14.1])))))]⟩) (ob := (Zt3 ((⟨[(1, (vc (.int .i64 x9))), (4, (vp 1 0)), (5, (vp 2 0)), (6, (vp 4 0))], [(1, (.box [(.c (.flt .f32 (default : F32).bits)), (.c (.flt .f32 (default : F32).bits)), (.c (.flt .f32 (default : F32).bits)), .nils])), (2, (.box [(.c (sl 1 (csI .u8) a0)), (.c (.int .i64 v14.2.1)), (.c (.int .u64 v14.2.2))])), (4, (.box [(.c (.flt .f32 (Fl.ofInt .f32 (IntKind.i64.wrap (v1.1 - (4 : Int)))).bits)), (.c (.flt .f32 (Fl.ofInt .f32 (IntKind.i64.wrap (v3.1 - (4 : Int)))).bits)), (.c (.flt .f32 (default : F32).bits)), (.lst 10 (x12 ++ ([v14.1])).length 4 (gl cs_Turn (x12 ++ ([v14.1]))))])), (10, (.lst (x12 ++ ([v14.1])).length 4 (gl cs_Turn (x12 ++ ([v14.1])))))]⟩ : St) = ⟨[(1, (vc (.int .i64 x9))), (4, (vp 1 0)), (5, (vp 2 0)), (6, (vp 4 0))], [(1, (.box [(.c (.flt .f32 (default : F32).bits)), (.c (.flt .f32 (default : F32).bits)), (.c (.flt .f32 (default : F32).bits)), .nils])), (2, (.box [(.c (sl 1 (csI .u8) a0)), (.c (.int .i64 v14.2.1)), (.c (.int .u64 v14.2.2))])), (4, (.box [(.c (.flt .f32 (Fl.ofInt .f32 (IntKind.i64.wrap (v1.1 - (4 : Int)))).bits)), (.c (.flt .f32 (Fl.ofInt .f32 (IntKind.i64.wrap (v3.1 - (4 : Int)))).bits)), (.c (.flt .f32 (default : F32).bits)), (.lst 10 (x12 ++ ([v14.1])).length 4 (gl cs_Turn (x12 ++ ([v14.1]))))])), (10, (.lst (x12 ++ ([v14.1])).length 4 (gl cs_Turn (x12 ++ ([v14.1])))))]⟩) (((((Eqc (sl 1 (csI .u8) a0)) ∧ (Eqc (.int .i64 x10)) ∧ (Eqc (.int .u64 x11)) ∧ Tt) ∧ Tt) ∧ MutOK Try.prog 18 [(.box 3 (fun j => [true, false, false].getD j true) (fun j => (cs_l00Src (l00Src.mk a0 x10 x11)).getD j .nilptr) (fun j => [.nilptr, (.int .i64 v14.2.1), (.int .u64 v14.2.2)].getD j .nilptr))] [.agg (cs_Turn v14.1)])) ((([v14.1]).length = 1 ∧ (((.flt .f32 v14.1.W.bits) : C) = (.flt .f32 v14.1.W.bits) ∧ Tt) ∧ (((.flt .f32 v14.1.X.bits) : C) = (.flt .f32 v14.1.X.bits) ∧ Tt) ∧ (((.flt .f32 v14.1.Y.bits) : C) = (.flt .f32 v14.1.Y.bits) ∧ Tt) ∧ (((.flt .f32 v14.1.Z.bits) : C) = (.flt .f32 v14.1.Z.bits) ∧ Tt) ∧ Tt)) (((x12 ++ ([v14.1])).length = x12.length + ([v14.1]).length ∧ AppOb (x12.length) (([v14.1]).length) 4 (gl cs_Turn x12) (gl cs_Turn ([v14.1])) (gl cs_Turn (x12 ++ ([v14.1]))) ∧ (∀ i j, i < ([v14.1]).length → j < 4 → scalarC (gl cs_Turn ([v14.1]) i j)) ∧ (x12.length + ([v14.1]).length) * 16 ≤ 140737488355328)))) (by kernel_rfl) (zt3 rfl ⟨⟨⟨rfl, rfl, rfl, tr⟩, tr⟩, ok_spec_l02DrawExact K (l00Src.mk a0 x10 x11) v14 e15⟩ ⟨rfl, ⟨⟨rfl, tr⟩, ⟨rfl, tr⟩, ⟨rfl, tr⟩, ⟨rfl, tr⟩, tr⟩⟩ ⟨List.length_append, gl_append, gl_scalar sc_Turn _, c16⟩) ?_
    refine blockQ_normal ?_
    refine thenQ_normal ?_
    refine AW.rA ⟨[(1, (vc (.int .i64 (IntKind.i64.wrap (x9 - (1 : Int)))))), (4, (vp 1 0)), (5, (vp 2 0)), (6, (vp 4 0))], [(1, (.box [(.c (.flt .f32 (default : F32).bits)), (.c (.flt .f32 (default : F32).bits)), (.c (.flt .f32 (default : F32).bits)), .nils])), (2, (.box [(.c (sl 1 (csI .u8) a0)), (.c (.int .i64 v14.2.1)), (.c (.int .u64 v14.2.2))])), (4, (.box [(.c (.flt .f32 (Fl.ofInt .f32 (IntKind.i64.wrap (v1.1 - (4 : Int)))).bits)), (.c (.flt .f32 (Fl.ofInt .f32 (IntKind.i64.wrap (v3.1 - (4 : Int)))).bits)), (.c (.flt .f32 (default : F32).bits)), (.lst 10 (x12 ++ ([v14.1])).length 4 (gl cs_Turn (x12 ++ ([v14.1]))))])), (10, (.lst (x12 ++ ([v14.1])).length 4 (gl cs_Turn (x12 ++ ([v14.1])))))]⟩ (Tt ∧ T2 Tt) [] [1, 4, 5, 6] [1, 2, 4, 10] ⟨tr, tr, tr, tr⟩ ?_
    exact loopQ_normal (k, (IntKind.i64.wrap (x9 - (1 : Int))), v14.2.1, v14.2.2, (x12 ++ ([v14.1]))) h (Nat.lt_succ_self k) (Sub.trans (Sub.swap 3 10 _ (by kernel_rfl) (by kernel_rfl)) (Sub.keep [1, 4, 5, 6] [1, 2, 3, 4] (by kernel_rfl) (by kernel_rfl)))
  · refine AW.cond_f rfl b13 ?_
    refine AW.exit ?_
    refine thenQ_exit ?_
    refine loopQ_exit ?_
    refine blockQ_exit ?_
    refine thenQ_normal ?_
    refine AW.seq (AW.rA ⟨[(4, (vp 1 0))], [(1, (.box [(.c (.flt .f32 (Fl.ofInt .f32 (IntKind.i64.wrap (v1.1 - (4 : Int)))).bits)), (.c (.flt .f32 (Fl.ofInt .f32 (IntKind.i64.wrap (v3.1 - (4 : Int)))).bits)), (.c (.flt .f32 (default : F32).bits)), (.lst 3 x12.length 4 (gl cs_Turn x12))])), (3, (.lst x12.length 4 (gl cs_Turn x12)))]⟩ (T2 Tt) [] [4] [1, 3] ⟨tr, tr, tr⟩ (thenQ_normal ?_))
    refine AW.ret ?_
    replace h := some_eq h
    subst h
    exact ⟨.inr rfl, retOK_of [(.agg [(.c (.flt .f32 (Fl.ofInt .f32 (IntKind.i64.wrap (v1.1 - (4 : Int)))).bits)), (.c (.flt .f32 (Fl.ofInt .f32 (IntKind.i64.wrap (v3.1 - (4 : Int)))).bits)), (.c (.flt .f32 (default : F32).bits)), (.lst 3 x12.length 4 (gl cs_Turn x12))])] (by kernel_rfl) ⟨⟨⟨rfl, tr⟩, ⟨rfl, tr⟩, ⟨rfl, tr⟩, rfl, tr⟩, tr⟩ (of_decide_eq_true (by kernel_rfl))⟩

/-! impl.isPose -/
def impl_isPose (_K : Nat) (a0 : Pose) : Option (Bool) :=
  (ite2 ((decide ((a0.Turns.length : Int) ≥ (1 : Int)))) (some (decide ((a0.Turns.length : Int) ≤ (12 : Int)))) (some false)).bind fun j2 => some j2

theorem ok_impl_isPose (K : Nat) (a0 : Pose) (o : (Bool)) (h : impl_isPose K a0 = some o) : CallOK Try.prog 27 [.agg (cs_Pose a0)] [.one (.bool o)] := by
  refine callOK_of_AW Try.func27 rfl (by kernel_rfl) (Nat.le_of_ble_eq_true (by kernel_rfl)) ?_
  intro w0
  unfold impl_isPose at h
  refine AW.seq (AW.rA ⟨[(1, (vp 1 0))], [(1, (.box [(.c (.flt .f32 a0.Root.X.bits)), (.c (.flt .f32 a0.Root.Y.bits)), (.c (.flt .f32 a0.Root.Z.bits)), (.c (sl 4 cs_Turn a0.Turns))]))]⟩ (T2 Tt) [.box 1] [1] [1] ⟨tr, tr, tr⟩ (thenQ_normal ?_))
  refine AW.seq ?_
  obtain ⟨j2, e3, h⟩ := bind_some h
  refine AW.join1 (s2 := ⟨[(2, (vc (.bool j2)))], []⟩) ?_ ?_
  · rcases ite2_cases e3 with ⟨b1, e3⟩ | ⟨b1, e3⟩
    · replace e3 := some_eq e3
      subst e3
      exact AW.rA ⟨[(2, (vc (.bool (decide ((a0.Turns.length : Int) ≤ (12 : Int))))))], []⟩ (T4 ((Tt ∧ (decide ((a0.Turns.length : Int) ≥ (1 : Int))) = true) ∧ T2 (T4 Tt))) [.no, .no, .no, .no, .dec true] [2] [] ⟨tr, tr, tr, tr, ⟨tr, b1⟩, tr, tr, tr, tr, tr, tr, tr⟩ ⟨rfl, rfl⟩
    · replace e3 := some_eq e3
      subst e3
      exact AW.rA ⟨[(2, (vc (.bool false)))], []⟩ (T4 ((Tt ∧ (decide ((a0.Turns.length : Int) ≥ (1 : Int))) = false) ∧ T2 (T4 Tt))) [.no, .no, .no, .no, .dec false] [2] [] ⟨tr, tr, tr, tr, ⟨tr, b1⟩, tr, tr, tr, tr, tr, tr, tr⟩ ⟨rfl, rfl⟩
  refine thenQ_normal ?_
  refine AW.ret ?_
  replace h := some_eq h
  subst h
  exact ⟨.inr rfl, retOK_of [(.one (.c (.bool j2)))] (by kernel_rfl) ⟨⟨rfl, tr⟩, tr⟩ (of_decide_eq_true (by kernel_rfl))⟩

/-! impl.arePair -/
def impl_arePair (K : Nat) (a0 : Pose) (a1 : Pose) : Option (Bool) :=
  (impl_isPose K a0).bind fun v1 => (ite2 (v1) (some ((a0.Turns.length : Int) == (a1.Turns.length : Int))) (some false)).bind fun j4 => some j4

theorem ok_impl_arePair (K : Nat) (a0 : Pose) (a1 : Pose) (o : (Bool)) (h : impl_arePair K a0 a1 = some o) : CallOK Try.prog 19 [.agg (cs_Pose a0), .agg (cs_Pose a1)] [.one (.bool o)] := by
  refine callOK_of_AW Try.func19 rfl (by kernel_rfl) (Nat.le_of_ble_eq_true (by kernel_rfl)) ?_
  intro w0
  unfold impl_arePair at h
  refine AW.seq (AW.rA ⟨[(2, (vp 1 0)), (3, (vp 2 0))], [(1, (.box [(.c (.flt .f32 a0.Root.X.bits)), (.c (.flt .f32 a0.Root.Y.bits)), (.c (.flt .f32 a0.Root.Z.bits)), (.c (sl 4 cs_Turn a0.Turns))])), (2, (.box [(.c (.flt .f32 a1.Root.X.bits)), (.c (.flt .f32 a1.Root.Y.bits)), (.c (.flt .f32 a1.Root.Z.bits)), (.c (sl 4 cs_Turn a1.Turns))]))]⟩ (Tt ∧ T2 Tt) [.box 1, .box 2] [2, 3] [1, 2] ⟨tr, tr, tr, tr⟩ (thenQ_normal ?_))
  refine AW.seq ?_
  obtain ⟨v1, e2, h⟩ := bind_some h
  obtain ⟨j4, e5, h⟩ := bind_some h
  refine AW.join1 (s2 := ⟨[(4, (vc (.bool j4)))], []⟩) ?_ ?_
  · rcases ite2_cases e5 with ⟨b3, e5⟩ | ⟨b3, e5⟩
    · replace e5 := some_eq e5
      subst e5
      exact AW.rA ⟨[(4, (vc (.bool ((a0.Turns.length : Int) == (a1.Turns.length : Int)))))], []⟩ (Tt ∧ ((((Eqc (.flt .f32 a0.Root.X.bits)) ∧ (Eqc (.flt .f32 a0.Root.Y.bits)) ∧ (Eqc (.flt .f32 a0.Root.Z.bits)) ∧ (Eqc (sl 4 cs_Turn a0.Turns)) ∧ Tt) ∧ Tt) ∧ CallOK Try.prog 27 [.agg (cs_Pose a0)] [.one (.bool v1)]) ∧ (Tt ∧ v1 = true) ∧ Tt ∧ T4 (T4 Tt)) [.no, .call [.agg (cs_Pose a0)] [.one (.bool v1)] [[.view]], .dec true] [4] [] ⟨tr, ⟨⟨⟨rfl, rfl, rfl, rfl, tr⟩, tr⟩, ok_impl_isPose K a0 v1 e2⟩, ⟨tr, b3⟩, tr, tr, tr, tr, tr, tr, tr, tr, tr, tr⟩ ⟨rfl, rfl⟩
    · replace e5 := some_eq e5
      subst e5
      exact AW.rA ⟨[(4, (vc (.bool false)))], []⟩ (Tt ∧ ((((Eqc (.flt .f32 a0.Root.X.bits)) ∧ (Eqc (.flt .f32 a0.Root.Y.bits)) ∧ (Eqc (.flt .f32 a0.Root.Z.bits)) ∧ (Eqc (sl 4 cs_Turn a0.Turns)) ∧ Tt) ∧ Tt) ∧ CallOK Try.prog 27 [.agg (cs_Pose a0)] [.one (.bool v1)]) ∧ (Tt ∧ v1 = false) ∧ Tt ∧ T4 (T4 Tt)) [.no, .call [.agg (cs_Pose a0)] [.one (.bool v1)] [[.view]], .dec false] [4] [] ⟨tr, ⟨⟨⟨rfl, rfl, rfl, rfl, tr⟩, tr⟩, ok_impl_isPose K a0 v1 e2⟩, ⟨tr, b3⟩, tr, tr, tr, tr, tr, tr, tr, tr, tr, tr⟩ ⟨rfl, rfl⟩
  refine thenQ_normal ?_
  refine AW.ret ?_
  replace h := some_eq h
  subst h
  exact ⟨.inr rfl, retOK_of [(.one (.c (.bool j4)))] (by kernel_rfl) ⟨⟨rfl, tr⟩, tr⟩ (of_decide_eq_true (by kernel_rfl))⟩

/-! slices.Clone[[]impl.Turn,impl.Turn] -/
def slices_Clone_impl_Turn_impl_Turn (_K : Nat) (a0 : (List Turn)) : Option ((List Turn)) :=
  chk ((([] : List Turn).length + a0.length) * 16 ≤ 140737488355328) (some (([] : List Turn) ++ a0))

theorem ok_slices_Clone_impl_Turn_impl_Turn (K : Nat) (a0 : (List Turn)) (o : ((List Turn))) (h : slices_Clone_impl_Turn_impl_Turn K a0 = some o) : CallOK Try.prog 20 [.one (sl 4 cs_Turn a0)] [.one (sl 4 cs_Turn o)] := by
  refine callOK_of_AW Try.func20 rfl (by kernel_rfl) (Nat.le_of_ble_eq_true (by kernel_rfl)) ?_
  intro w0
  unfold slices_Clone_impl_Turn_impl_Turn at h
  refine AW.seq (AW.rA ⟨[(0, (vc (sl 4 cs_Turn a0)))], []⟩ (Tt ∧ Tt) [] [0] [] ⟨tr, tr⟩ (thenQ_normal ?_))
  refine AW.seq ?_
  refine AW.seq ?_
  refine AW.nilA (d := 4) (n := a0.length) 1 [.no] [0] [] (s' := ⟨[(0, (vc (sl 4 cs_Turn a0)))], []⟩) (ob := Tt ∧ Tt) (by kernel_rfl) ⟨tr, tr⟩ ?_
  intro b2 b1
  cases b2
  · refine thenQ_normal ?_
    refine AW.cond_f (b := false) rfl rfl ?_
    refine AW.skip ?_
    refine thenQ_normal ?_
    refine AW.seq ?_
    obtain ⟨c3, h⟩ := chk_some h
    refine AW.rA ⟨[(2, (.v (.one (.lst 2 (([] : List Turn) ++ a0).length 4 (gl cs_Turn (([] : List Turn) ++ a0))))))], [(2, (.lst (([] : List Turn) ++ a0).length 4 (gl cs_Turn (([] : List Turn) ++ a0))))]⟩ ((([] : List Turn).length = 0 ∧ Tt) ∧ Tt ∧ ((([] : List Turn) ++ a0).length = ([] : List Turn).length + a0.length ∧ AppOb (([] : List Turn).length) (a0.length) 4 (gl cs_Turn ([] : List Turn)) (gl cs_Turn a0) (gl cs_Turn (([] : List Turn) ++ a0)) ∧ (∀ i j, i < a0.length → j < 4 → scalarC (gl cs_Turn a0 i j)) ∧ (([] : List Turn).length + a0.length) * 16 ≤ 140737488355328) ∧ Tt ∧ Tt) [.obj 1 ([] : List Turn).length (gl cs_Turn ([] : List Turn)), .no, .obj 2 (([] : List Turn) ++ a0).length (gl cs_Turn (([] : List Turn) ++ a0))] [2] [2] ⟨⟨rfl, tr⟩, tr, ⟨List.length_append, gl_append, gl_scalar sc_Turn _, c3⟩, tr, tr⟩ ?_
    refine thenQ_normal ?_
    refine AW.ret ?_
    replace h := some_eq h
    subst h
    exact ⟨.inr rfl, retOK_of [(.one (.lst 2 (([] : List Turn) ++ a0).length 4 (gl cs_Turn (([] : List Turn) ++ a0))))] (by kernel_rfl) ⟨rfl, tr⟩ (of_decide_eq_true (by kernel_rfl))⟩
  · obtain rfl := List.eq_nil_of_length_eq_zero (b1 rfl)
    replace h : some ([] : (List Turn)) = some o := by simpa [chk] using h
    refine thenQ_normal ?_
    refine AW.cond_t (b := true) rfl rfl ?_
    refine AW.seq (AW.rA ⟨[(2, (.v (.one .nils)))], []⟩ (Tt ∧ Tt) [] [2] [] ⟨tr, tr⟩ (thenQ_normal ?_))
    refine AW.ret ?_
    refine thenQ_ret ?_
    replace h := some_eq h
    subst h
    exact ⟨.inr rfl, retOK_of [(.one .nils)] (by kernel_rfl) ⟨rfl, tr⟩ (of_decide_eq_true (by kernel_rfl))⟩

/-! impl.LessVectors -/
def impl_LessVectors (_K : Nat) (a0 : Vector) (a1 : Vector) : Option (Vector) :=
  some (Vector.mk (a0.X.sub a1.X) (a0.Y.sub a1.Y) (a0.Z.sub a1.Z))

theorem ok_impl_LessVectors (K : Nat) (a0 : Vector) (a1 : Vector) (o : (Vector)) (h : impl_LessVectors K a0 a1 = some o) : CallOK Try.prog 23 [.agg (cs_Vector a0), .agg (cs_Vector a1)] [.agg (cs_Vector o)] := by
  refine callOK_of_AW Try.func23 rfl (by kernel_rfl) (Nat.le_of_ble_eq_true (by kernel_rfl)) ?_
  intro w0
  unfold impl_LessVectors at h
  refine AW.seq (AW.rA ⟨[(2, (vp 1 0)), (3, (vp 2 0)), (4, (vp 3 0))], [(1, (.box [(.c (.flt .f32 a0.X.bits)), (.c (.flt .f32 a0.Y.bits)), (.c (.flt .f32 a0.Z.bits))])), (2, (.box [(.c (.flt .f32 a1.X.bits)), (.c (.flt .f32 a1.Y.bits)), (.c (.flt .f32 a1.Z.bits))])), (3, (.box [(.c (.flt .f32 (default : F32).bits)), (.c (.flt .f32 (default : F32).bits)), (.c (.flt .f32 (default : F32).bits))]))]⟩ (Tt ∧ T2 Tt) [.box 1, .box 2, .box 3] [2, 3, 4] [1, 2, 3] ⟨tr, tr, tr, tr⟩ (thenQ_normal ?_))
  refine AW.seq (AW.rA ⟨[(4, (vp 3 0))], [(3, (.box [(.c (.flt .f32 (a0.X.sub a1.X).bits)), (.c (.flt .f32 (a0.Y.sub a1.Y).bits)), (.c (.flt .f32 (a0.Z.sub a1.Z).bits))]))]⟩ (Tt ∧ T4 (T4 (T4 (T4 Tt)))) [] [4] [3] ⟨tr, tr, tr, tr, tr, tr, tr, tr, tr, tr, tr, tr, tr, tr, tr, tr, tr, tr⟩ (thenQ_normal ?_))
  refine AW.ret ?_
  replace h := some_eq h
  subst h
  exact ⟨.inr rfl, retOK_of [(.agg [(.c (.flt .f32 (a0.X.sub a1.X).bits)), (.c (.flt .f32 (a0.Y.sub a1.Y).bits)), (.c (.flt .f32 (a0.Z.sub a1.Z).bits))])] (by kernel_rfl) ⟨⟨⟨rfl, tr⟩, ⟨rfl, tr⟩, ⟨rfl, tr⟩, tr⟩, tr⟩ (of_decide_eq_true (by kernel_rfl))⟩

/-! impl.ScaleVector -/
def impl_ScaleVector (_K : Nat) (a0 : Vector) (a1 : F32) : Option (Vector) :=
  some (Vector.mk (a0.X.mul a1) (a0.Y.mul a1) (a0.Z.mul a1))

theorem ok_impl_ScaleVector (K : Nat) (a0 : Vector) (a1 : F32) (o : (Vector)) (h : impl_ScaleVector K a0 a1 = some o) : CallOK Try.prog 29 [.agg (cs_Vector a0), .one (.flt .f32 a1.bits)] [.agg (cs_Vector o)] := by
  refine callOK_of_AW Try.func29 rfl (by kernel_rfl) (Nat.le_of_ble_eq_true (by kernel_rfl)) ?_
  intro w0
  unfold impl_ScaleVector at h
  refine AW.seq (AW.rA ⟨[(1, (vc (.flt .f32 a1.bits))), (2, (vp 1 0)), (4, (vp 2 0))], [(1, (.box [(.c (.flt .f32 a0.X.bits)), (.c (.flt .f32 a0.Y.bits)), (.c (.flt .f32 a0.Z.bits))])), (2, (.box [(.c (.flt .f32 (default : F32).bits)), (.c (.flt .f32 (default : F32).bits)), (.c (.flt .f32 (default : F32).bits))]))]⟩ (T2 Tt) [.box 1, .box 2] [1, 2, 4] [1, 2] ⟨tr, tr, tr⟩ (thenQ_normal ?_))
  refine AW.seq (AW.rA ⟨[(4, (vp 2 0))], [(2, (.box [(.c (.flt .f32 (a0.X.mul a1).bits)), (.c (.flt .f32 (a0.Y.mul a1).bits)), (.c (.flt .f32 (a0.Z.mul a1).bits))]))]⟩ (T2 (T4 (T4 (T4 Tt)))) [] [4] [2] ⟨tr, tr, tr, tr, tr, tr, tr, tr, tr, tr, tr, tr, tr, tr, tr⟩ (thenQ_normal ?_))
  refine AW.ret ?_
  replace h := some_eq h
  subst h
  exact ⟨.inr rfl, retOK_of [(.agg [(.c (.flt .f32 (a0.X.mul a1).bits)), (.c (.flt .f32 (a0.Y.mul a1).bits)), (.c (.flt .f32 (a0.Z.mul a1).bits))])] (by kernel_rfl) ⟨⟨⟨rfl, tr⟩, ⟨rfl, tr⟩, ⟨rfl, tr⟩, tr⟩, tr⟩ (of_decide_eq_true (by kernel_rfl))⟩

/-! impl.AddVectors -/
def impl_AddVectors (_K : Nat) (a0 : Vector) (a1 : Vector) : Option (Vector) :=
  some (Vector.mk (a0.X.add a1.X) (a0.Y.add a1.Y) (a0.Z.add a1.Z))

theorem ok_impl_AddVectors (K : Nat) (a0 : Vector) (a1 : Vector) (o : (Vector)) (h : impl_AddVectors K a0 a1 = some o) : CallOK Try.prog 26 [.agg (cs_Vector a0), .agg (cs_Vector a1)] [.agg (cs_Vector o)] := by
  refine callOK_of_AW Try.func26 rfl (by kernel_rfl) (Nat.le_of_ble_eq_true (by kernel_rfl)) ?_
  intro w0
  unfold impl_AddVectors at h
  refine AW.seq (AW.rA ⟨[(2, (vp 1 0)), (3, (vp 2 0)), (4, (vp 3 0))], [(1, (.box [(.c (.flt .f32 a0.X.bits)), (.c (.flt .f32 a0.Y.bits)), (.c (.flt .f32 a0.Z.bits))])), (2, (.box [(.c (.flt .f32 a1.X.bits)), (.c (.flt .f32 a1.Y.bits)), (.c (.flt .f32 a1.Z.bits))])), (3, (.box [(.c (.flt .f32 (default : F32).bits)), (.c (.flt .f32 (default : F32).bits)), (.c (.flt .f32 (default : F32).bits))]))]⟩ (Tt ∧ T2 Tt) [.box 1, .box 2, .box 3] [2, 3, 4] [1, 2, 3] ⟨tr, tr, tr, tr⟩ (thenQ_normal ?_))
  refine AW.seq (AW.rA ⟨[(4, (vp 3 0))], [(3, (.box [(.c (.flt .f32 (a0.X.add a1.X).bits)), (.c (.flt .f32 (a0.Y.add a1.Y).bits)), (.c (.flt .f32 (a0.Z.add a1.Z).bits))]))]⟩ (Tt ∧ T4 (T4 (T4 (T4 Tt)))) [] [4] [3] ⟨tr, tr, tr, tr, tr, tr, tr, tr, tr, tr, tr, tr, tr, tr, tr, tr, tr, tr⟩ (thenQ_normal ?_))
  refine AW.ret ?_
  replace h := some_eq h
  subst h
  exact ⟨.inr rfl, retOK_of [(.agg [(.c (.flt .f32 (a0.X.add a1.X).bits)), (.c (.flt .f32 (a0.Y.add a1.Y).bits)), (.c (.flt .f32 (a0.Z.add a1.Z).bits))])] (by kernel_rfl) ⟨⟨⟨rfl, tr⟩, ⟨rfl, tr⟩, ⟨rfl, tr⟩, tr⟩, tr⟩ (of_decide_eq_true (by kernel_rfl))⟩

/-! impl.BetweenVectors -/
def impl_BetweenVectors (K : Nat) (a0 : Vector) (a1 : Vector) (a2 : F32) : Option (Vector) :=
  (impl_LessVectors K a1 a0).bind fun v1 => (impl_ScaleVector K v1 a2).bind fun v3 => (impl_AddVectors K a0 v3).bind fun v5 => some v5

theorem ok_impl_BetweenVectors (K : Nat) (a0 : Vector) (a1 : Vector) (a2 : F32) (o : (Vector)) (h : impl_BetweenVectors K a0 a1 a2 = some o) : CallOK Try.prog 21 [.agg (cs_Vector a0), .agg (cs_Vector a1), .one (.flt .f32 a2.bits)] [.agg (cs_Vector o)] := by
  refine callOK_of_AW Try.func21 rfl (by kernel_rfl) (Nat.le_of_ble_eq_true (by kernel_rfl)) ?_
  intro w0
  unfold impl_BetweenVectors at h
  refine AW.seq (AW.rA ⟨[(2, (vc (.flt .f32 a2.bits))), (3, (vp 1 0)), (4, (vp 2 0)), (6, (vp 3 0))], [(1, (.box [(.c (.flt .f32 a0.X.bits)), (.c (.flt .f32 a0.Y.bits)), (.c (.flt .f32 a0.Z.bits))])), (2, (.box [(.c (.flt .f32 a1.X.bits)), (.c (.flt .f32 a1.Y.bits)), (.c (.flt .f32 a1.Z.bits))])), (3, (.box [(.c (.flt .f32 (default : F32).bits)), (.c (.flt .f32 (default : F32).bits)), (.c (.flt .f32 (default : F32).bits))]))]⟩ (Tt ∧ T2 Tt) [.box 1, .box 2, .box 3] [2, 3, 4, 6] [1, 2, 3] ⟨tr, tr, tr, tr⟩ (thenQ_normal ?_))
  refine AW.seq ?_
  obtain ⟨v1, e2, h⟩ := bind_some h
  obtain ⟨v3, e4, h⟩ := bind_some h
  obtain ⟨v5, e6, h⟩ := bind_some h
  refine AW.dA ⟨[(6, (vp 3 0))], [(3, (.box [(.c (.flt .f32 v5.X.bits)), (.c (.flt .f32 v5.Y.bits)), (.c (.flt .f32 v5.Z.bits))]))]⟩ ((Tt ∧ T2 (((((Eqc (.flt .f32 a1.X.bits)) ∧ (Eqc (.flt .f32 a1.Y.bits)) ∧ (Eqc (.flt .f32 a1.Z.bits)) ∧ Tt) ∧ ((Eqc (.flt .f32 a0.X.bits)) ∧ (Eqc (.flt .f32 a0.Y.bits)) ∧ (Eqc (.flt .f32 a0.Z.bits)) ∧ Tt) ∧ Tt) ∧ CallOK Try.prog 23 [.agg (cs_Vector a1), .agg (cs_Vector a0)] [.agg (cs_Vector v1)]) ∧ Tt ∧ ((((Eqc (.flt .f32 v1.X.bits)) ∧ (Eqc (.flt .f32 v1.Y.bits)) ∧ (Eqc (.flt .f32 v1.Z.bits)) ∧ Tt) ∧ (Eqc (.flt .f32 a2.bits)) ∧ Tt) ∧ CallOK Try.prog 29 [.agg (cs_Vector v1), .one (.flt .f32 a2.bits)] [.agg (cs_Vector v3)]) ∧ ((((Eqc (.flt .f32 a0.X.bits)) ∧ (Eqc (.flt .f32 a0.Y.bits)) ∧ (Eqc (.flt .f32 a0.Z.bits)) ∧ Tt) ∧ ((Eqc (.flt .f32 v3.X.bits)) ∧ (Eqc (.flt .f32 v3.Y.bits)) ∧ (Eqc (.flt .f32 v3.Z.bits)) ∧ Tt) ∧ Tt) ∧ CallOK Try.prog 26 [.agg (cs_Vector a0), .agg (cs_Vector v3)] [.agg (cs_Vector v5)]) ∧ Tt)) ∧ (Tt ∧ Tt)) 7 [.no, .no, .no, .call [.agg (cs_Vector a1), .agg (cs_Vector a0)] [.agg (cs_Vector v1)] [[.view, .view, .view]], .no, .call [.agg (cs_Vector v1), .one (.flt .f32 a2.bits)] [.agg (cs_Vector v3)] [[.view, .view, .view]], .call [.agg (cs_Vector a0), .agg (cs_Vector v3)] [.agg (cs_Vector v5)] [[.view, .view, .view]]] [6] [3] ⟨⟨tr, tr, tr, ⟨⟨⟨rfl, rfl, rfl, tr⟩, ⟨rfl, rfl, rfl, tr⟩, tr⟩, ok_impl_LessVectors K a1 a0 v1 e2⟩, tr, ⟨⟨⟨rfl, rfl, rfl, tr⟩, rfl, tr⟩, ok_impl_ScaleVector K v1 a2 v3 e4⟩, ⟨⟨⟨rfl, rfl, rfl, tr⟩, ⟨rfl, rfl, rfl, tr⟩, tr⟩, ok_impl_AddVectors K a0 v3 v5 e6⟩, tr⟩, ⟨tr, tr⟩⟩ ?_
  refine thenQ_normal ?_
  refine AW.ret ?_
  replace h := some_eq h
  subst h
  exact ⟨.inr rfl, retOK_of [(.agg [(.c (.flt .f32 v5.X.bits)), (.c (.flt .f32 v5.Y.bits)), (.c (.flt .f32 v5.Z.bits))])] (by kernel_rfl) ⟨⟨⟨rfl, tr⟩, ⟨rfl, tr⟩, ⟨rfl, tr⟩, tr⟩, tr⟩ (of_decide_eq_true (by kernel_rfl))⟩

/-! impl.InnerOfTurns -/
def impl_InnerOfTurns (_K : Nat) (a0 : Turn) (a1 : Turn) : Option (F32) :=
  some ((((a0.W.mul a1.W).add (a0.X.mul a1.X)).add (a0.Y.mul a1.Y)).add (a0.Z.mul a1.Z))

theorem ok_impl_InnerOfTurns (K : Nat) (a0 : Turn) (a1 : Turn) (o : (F32)) (h : impl_InnerOfTurns K a0 a1 = some o) : CallOK Try.prog 34 [.agg (cs_Turn a0), .agg (cs_Turn a1)] [.one (.flt .f32 o.bits)] := by
  refine callOK_of_AW Try.func34 rfl (by kernel_rfl) (Nat.le_of_ble_eq_true (by kernel_rfl)) ?_
  intro w0
  unfold impl_InnerOfTurns at h
  refine AW.seq (AW.rA ⟨[(2, (vp 1 0)), (3, (vp 2 0))], [(1, (.box [(.c (.flt .f32 a0.W.bits)), (.c (.flt .f32 a0.X.bits)), (.c (.flt .f32 a0.Y.bits)), (.c (.flt .f32 a0.Z.bits))])), (2, (.box [(.c (.flt .f32 a1.W.bits)), (.c (.flt .f32 a1.X.bits)), (.c (.flt .f32 a1.Y.bits)), (.c (.flt .f32 a1.Z.bits))]))]⟩ (Tt ∧ T2 Tt) [.box 1, .box 2] [2, 3] [1, 2] ⟨tr, tr, tr, tr⟩ (thenQ_normal ?_))
  refine AW.seq (AW.rA ⟨[(4, (vc (.flt .f32 ((((a0.W.mul a1.W).add (a0.X.mul a1.X)).add (a0.Y.mul a1.Y)).add (a0.Z.mul a1.Z)).bits)))], []⟩ (T4 (T4 (T4 (T4 (T4 (T4 Tt)))))) [] [4] [] ⟨tr, tr, tr, tr, tr, tr, tr, tr, tr, tr, tr, tr, tr, tr, tr, tr, tr, tr, tr, tr, tr, tr, tr, tr, tr⟩ (thenQ_normal ?_))
  refine AW.ret ?_
  replace h := some_eq h
  subst h
  exact ⟨.inr rfl, retOK_of [(.one (.c (.flt .f32 ((((a0.W.mul a1.W).add (a0.X.mul a1.X)).add (a0.Y.mul a1.Y)).add (a0.Z.mul a1.Z)).bits)))] (by kernel_rfl) ⟨⟨rfl, tr⟩, tr⟩ (of_decide_eq_true (by kernel_rfl))⟩

/-! (impl.Turn).opposite -/
def impl_Turn_opposite (_K : Nat) (a0 : Turn) : Option (Turn) :=
  some (Turn.mk (a0.W.neg) (a0.X.neg) (a0.Y.neg) (a0.Z.neg))

theorem ok_impl_Turn_opposite (K : Nat) (a0 : Turn) (o : (Turn)) (h : impl_Turn_opposite K a0 = some o) : CallOK Try.prog 35 [.agg (cs_Turn a0)] [.agg (cs_Turn o)] := by
  refine callOK_of_AW Try.func35 rfl (by kernel_rfl) (Nat.le_of_ble_eq_true (by kernel_rfl)) ?_
  intro w0
  unfold impl_Turn_opposite at h
  refine AW.seq (AW.rA ⟨[(1, (vp 1 0)), (2, (vp 2 0))], [(1, (.box [(.c (.flt .f32 a0.W.bits)), (.c (.flt .f32 a0.X.bits)), (.c (.flt .f32 a0.Y.bits)), (.c (.flt .f32 a0.Z.bits))])), (2, (.box [(.c (.flt .f32 (default : F32).bits)), (.c (.flt .f32 (default : F32).bits)), (.c (.flt .f32 (default : F32).bits)), (.c (.flt .f32 (default : F32).bits))]))]⟩ (T2 Tt) [.box 1, .box 2] [1, 2] [1, 2] ⟨tr, tr, tr⟩ (thenQ_normal ?_))
  refine AW.seq (AW.rA ⟨[(2, (vp 2 0))], [(2, (.box [(.c (.flt .f32 (a0.W.neg).bits)), (.c (.flt .f32 (a0.X.neg).bits)), (.c (.flt .f32 (a0.Y.neg).bits)), (.c (.flt .f32 (a0.Z.neg).bits))]))]⟩ (T2 (T4 (T4 (T4 Tt)))) [] [2] [2] ⟨tr, tr, tr, tr, tr, tr, tr, tr, tr, tr, tr, tr, tr, tr, tr⟩ (thenQ_normal ?_))
  refine AW.ret ?_
  replace h := some_eq h
  subst h
  exact ⟨.inr rfl, retOK_of [(.agg [(.c (.flt .f32 (a0.W.neg).bits)), (.c (.flt .f32 (a0.X.neg).bits)), (.c (.flt .f32 (a0.Y.neg).bits)), (.c (.flt .f32 (a0.Z.neg).bits))])] (by kernel_rfl) ⟨⟨⟨rfl, tr⟩, ⟨rfl, tr⟩, ⟨rfl, tr⟩, ⟨rfl, tr⟩, tr⟩, tr⟩ (of_decide_eq_true (by kernel_rfl))⟩

/-! impl.between -/
def impl_between (_K : Nat) (a0 : F32) (a1 : F32) (a2 : F32) : Option (F32) :=
  some (a0.add (a2.mul (a1.sub a0)))

theorem ok_impl_between (K : Nat) (a0 : F32) (a1 : F32) (a2 : F32) (o : (F32)) (h : impl_between K a0 a1 a2 = some o) : CallOK Try.prog 37 [.one (.flt .f32 a0.bits), .one (.flt .f32 a1.bits), .one (.flt .f32 a2.bits)] [.one (.flt .f32 o.bits)] := by
  refine callOK_of_AW Try.func37 rfl (by kernel_rfl) (Nat.le_of_ble_eq_true (by kernel_rfl)) ?_
  intro w0
  unfold impl_between at h
  refine AW.seq (AW.rA ⟨[(0, (vc (.flt .f32 a0.bits))), (1, (vc (.flt .f32 a1.bits))), (2, (vc (.flt .f32 a2.bits)))], []⟩ (Tt ∧ Tt) [] [0, 1, 2] [] ⟨tr, tr⟩ (thenQ_normal ?_))
  refine AW.seq (AW.rA ⟨[(6, (vc (.flt .f32 (a0.add (a2.mul (a1.sub a0))).bits)))], []⟩ (T4 (T4 Tt)) [] [6] [] ⟨tr, tr, tr, tr, tr, tr, tr, tr, tr⟩ (thenQ_normal ?_))
  refine AW.ret ?_
  replace h := some_eq h
  subst h
  exact ⟨.inr rfl, retOK_of [(.one (.c (.flt .f32 (a0.add (a2.mul (a1.sub a0))).bits)))] (by kernel_rfl) ⟨⟨rfl, tr⟩, tr⟩ (of_decide_eq_true (by kernel_rfl))⟩

/-! math.sqrt -/
def math_sqrt (_K : Nat) (a0 : F64) : Option (F64) :=
  some a0.sqrt

theorem ok_math_sqrt (K : Nat) (a0 : F64) (o : F64) (h : math_sqrt K a0 = some o) : CallOK Try.prog 59 [.one (.flt .f64 a0.bits)] [.one (.flt .f64 o.bits)] :=
  hand_sqrt (e := Extern.MathSqrt.sqrt) Try.func59 (by kernel_rfl) (by kernel_rfl) (by kernel_rfl) (by kernel_rfl) (fun _ => rfl) a0 o h

/-! math.Sqrt -/
def math_Sqrt (K : Nat) (a0 : F64) : Option (F64) :=
  (math_sqrt K a0).bind fun v1 => some v1

theorem ok_math_Sqrt (K : Nat) (a0 : F64) (o : (F64)) (h : math_Sqrt K a0 = some o) : CallOK Try.prog 58 [.one (.flt .f64 a0.bits)] [.one (.flt .f64 o.bits)] := by
  refine callOK_of_AW Try.func58 rfl (by kernel_rfl) (Nat.le_of_ble_eq_true (by kernel_rfl)) ?_
  intro w0
  unfold math_Sqrt at h
  refine AW.seq (AW.rA ⟨[(0, (vc (.flt .f64 a0.bits)))], []⟩ (Tt ∧ Tt) [] [0] [] ⟨tr, tr⟩ (thenQ_normal ?_))
  refine AW.seq ?_
  obtain ⟨v1, e2, h⟩ := bind_some h
  refine AW.rA ⟨[(2, (vc (.flt .f64 v1.bits)))], []⟩ (Tt ∧ (((Eqc (.flt .f64 a0.bits)) ∧ Tt) ∧ CallOK Try.prog 59 [.one (.flt .f64 a0.bits)] [.one (.flt .f64 v1.bits)]) ∧ Tt ∧ Tt) [.no, .call [.one (.flt .f64 a0.bits)] [.one (.flt .f64 v1.bits)] [[.view]]] [2] [] ⟨tr, ⟨⟨rfl, tr⟩, ok_math_sqrt K a0 v1 e2⟩, tr, tr⟩ ?_
  refine thenQ_normal ?_
  refine AW.ret ?_
  replace h := some_eq h
  subst h
  exact ⟨.inr rfl, retOK_of [(.one (.c (.flt .f64 v1.bits)))] (by kernel_rfl) ⟨⟨rfl, tr⟩, tr⟩ (of_decide_eq_true (by kernel_rfl))⟩

/-! impl.RootNumber -/
def impl_RootNumber (K : Nat) (a0 : F32) : Option (F32) :=
  (math_Sqrt K (Fl.cv .f32 .f64 a0)).bind fun v1 => chk ((convBits .f64 v1.bits .f32).isSome = true) (some (Fl.cv .f64 .f32 v1))

theorem ok_impl_RootNumber (K : Nat) (a0 : F32) (o : (F32)) (h : impl_RootNumber K a0 = some o) : CallOK Try.prog 52 [.one (.flt .f32 a0.bits)] [.one (.flt .f32 o.bits)] := by
  refine callOK_of_AW Try.func52 rfl (by kernel_rfl) (Nat.le_of_ble_eq_true (by kernel_rfl)) ?_
  intro w0
  unfold impl_RootNumber at h
  refine AW.seq (AW.rA ⟨[(0, (vc (.flt .f32 a0.bits)))], []⟩ (Tt ∧ Tt) [] [0] [] ⟨tr, tr⟩ (thenQ_normal ?_))
  refine AW.seq ?_
  obtain ⟨v1, e2, h⟩ := bind_some h
  obtain ⟨c3, h⟩ := chk_some h
  refine AW.rA ⟨[(2, (vc (.flt .f32 (Fl.cv .f64 .f32 v1).bits)))], []⟩ (Tt ∧ ((convBits .f32 a0.bits .f64).isSome = true) ∧ (((Eqc (.flt .f64 (Fl.cv .f32 .f64 a0).bits)) ∧ Tt) ∧ CallOK Try.prog 58 [.one (.flt .f64 (Fl.cv .f32 .f64 a0).bits)] [.one (.flt .f64 v1.bits)]) ∧ ((convBits .f64 v1.bits .f32).isSome = true) ∧ Tt ∧ Tt) [.no, .no, .call [.one (.flt .f64 (Fl.cv .f32 .f64 a0).bits)] [.one (.flt .f64 v1.bits)] [[.view]]] [2] [] ⟨tr, cv_wide a0, ⟨⟨rfl, tr⟩, ok_math_Sqrt K (Fl.cv .f32 .f64 a0) v1 e2⟩, c3, tr, tr⟩ ?_
  refine thenQ_normal ?_
  refine AW.ret ?_
  replace h := some_eq h
  subst h
  exact ⟨.inr rfl, retOK_of [(.one (.c (.flt .f32 (Fl.cv .f64 .f32 v1).bits)))] (by kernel_rfl) ⟨⟨rfl, tr⟩, tr⟩ (of_decide_eq_true (by kernel_rfl))⟩

/-! impl.LengthOfTurn -/
def impl_LengthOfTurn (K : Nat) (a0 : Turn) : Option (F32) :=
  (impl_InnerOfTurns K a0 a0).bind fun v1 => (impl_RootNumber K v1).bind fun v3 => some v3

theorem ok_impl_LengthOfTurn (K : Nat) (a0 : Turn) (o : (F32)) (h : impl_LengthOfTurn K a0 = some o) : CallOK Try.prog 45 [.agg (cs_Turn a0)] [.one (.flt .f32 o.bits)] := by
  refine callOK_of_AW Try.func45 rfl (by kernel_rfl) (Nat.le_of_ble_eq_true (by kernel_rfl)) ?_
  intro w0
  unfold impl_LengthOfTurn at h
  refine AW.seq (AW.rA ⟨[(1, (vp 1 0))], [(1, (.box [(.c (.flt .f32 a0.W.bits)), (.c (.flt .f32 a0.X.bits)), (.c (.flt .f32 a0.Y.bits)), (.c (.flt .f32 a0.Z.bits))]))]⟩ (T2 Tt) [.box 1] [1] [1] ⟨tr, tr, tr⟩ (thenQ_normal ?_))
  refine AW.seq ?_
  obtain ⟨v1, e2, h⟩ := bind_some h
  obtain ⟨v3, e4, h⟩ := bind_some h
  refine AW.rA ⟨[(2, (vc (.flt .f32 v3.bits)))], []⟩ (T2 (((((Eqc (.flt .f32 a0.W.bits)) ∧ (Eqc (.flt .f32 a0.X.bits)) ∧ (Eqc (.flt .f32 a0.Y.bits)) ∧ (Eqc (.flt .f32 a0.Z.bits)) ∧ Tt) ∧ ((Eqc (.flt .f32 a0.W.bits)) ∧ (Eqc (.flt .f32 a0.X.bits)) ∧ (Eqc (.flt .f32 a0.Y.bits)) ∧ (Eqc (.flt .f32 a0.Z.bits)) ∧ Tt) ∧ Tt) ∧ CallOK Try.prog 34 [.agg (cs_Turn a0), .agg (cs_Turn a0)] [.one (.flt .f32 v1.bits)]) ∧ (((Eqc (.flt .f32 v1.bits)) ∧ Tt) ∧ CallOK Try.prog 52 [.one (.flt .f32 v1.bits)] [.one (.flt .f32 v3.bits)]) ∧ Tt ∧ Tt)) [.no, .no, .call [.agg (cs_Turn a0), .agg (cs_Turn a0)] [.one (.flt .f32 v1.bits)] [[.view]], .call [.one (.flt .f32 v1.bits)] [.one (.flt .f32 v3.bits)] [[.view]]] [2] [] ⟨tr, tr, ⟨⟨⟨rfl, rfl, rfl, rfl, tr⟩, ⟨rfl, rfl, rfl, rfl, tr⟩, tr⟩, ok_impl_InnerOfTurns K a0 a0 v1 e2⟩, ⟨⟨rfl, tr⟩, ok_impl_RootNumber K v1 v3 e4⟩, tr, tr⟩ ?_
  refine thenQ_normal ?_
  refine AW.ret ?_
  replace h := some_eq h
  subst h
  exact ⟨.inr rfl, retOK_of [(.one (.c (.flt .f32 v3.bits)))] (by kernel_rfl) ⟨⟨rfl, tr⟩, tr⟩ (of_decide_eq_true (by kernel_rfl))⟩

/-! impl.IsFinite -/
def impl_IsFinite (_K : Nat) (a0 : F32) : Option (Bool) :=
  some ((a0.sub a0).eq (Fl.mk (k := .f32) 0 (by decide)))

theorem ok_impl_IsFinite (K : Nat) (a0 : F32) (o : (Bool)) (h : impl_IsFinite K a0 = some o) : CallOK Try.prog 53 [.one (.flt .f32 a0.bits)] [.one (.bool o)] := by
  refine callOK_of_AW Try.func53 rfl (by kernel_rfl) (Nat.le_of_ble_eq_true (by kernel_rfl)) ?_
  intro w0
  unfold impl_IsFinite at h
  refine AW.seq (AW.rA ⟨[(0, (vc (.flt .f32 a0.bits)))], []⟩ (Tt ∧ Tt) [] [0] [] ⟨tr, tr⟩ (thenQ_normal ?_))
  refine AW.seq (AW.rA ⟨[(2, (vc (.bool ((a0.sub a0).eq (Fl.mk (k := .f32) 0 (by decide))))))], []⟩ (Tt ∧ T4 Tt) [] [2] [] ⟨tr, tr, tr, tr, tr, tr⟩ (thenQ_normal ?_))
  refine AW.ret ?_
  replace h := some_eq h
  subst h
  exact ⟨.inr rfl, retOK_of [(.one (.c (.bool ((a0.sub a0).eq (Fl.mk (k := .f32) 0 (by decide))))))] (by kernel_rfl) ⟨⟨rfl, tr⟩, tr⟩ (of_decide_eq_true (by kernel_rfl))⟩

/-! impl.isLength -/
def impl_isLength (K : Nat) (a0 : F32) : Option (Bool) :=
  (impl_IsFinite K a0).bind fun v1 => (ite2 (v1) (some (a0.ne (Fl.mk (k := .f32) 0 (by decide)))) (some false)).bind fun j4 => some j4

theorem ok_impl_isLength (K : Nat) (a0 : F32) (o : (Bool)) (h : impl_isLength K a0 = some o) : CallOK Try.prog 46 [.one (.flt .f32 a0.bits)] [.one (.bool o)] := by
  refine callOK_of_AW Try.func46 rfl (by kernel_rfl) (Nat.le_of_ble_eq_true (by kernel_rfl)) ?_
  intro w0
  unfold impl_isLength at h
  refine AW.seq (AW.rA ⟨[(0, (vc (.flt .f32 a0.bits)))], []⟩ (Tt ∧ Tt) [] [0] [] ⟨tr, tr⟩ (thenQ_normal ?_))
  refine AW.seq ?_
  obtain ⟨v1, e2, h⟩ := bind_some h
  obtain ⟨j4, e5, h⟩ := bind_some h
  refine AW.join1 (s2 := ⟨[(2, (vc (.bool j4)))], []⟩) ?_ ?_
  · rcases ite2_cases e5 with ⟨b3, e5⟩ | ⟨b3, e5⟩
    · replace e5 := some_eq e5
      subst e5
      exact AW.rA ⟨[(2, (vc (.bool (a0.ne (Fl.mk (k := .f32) 0 (by decide))))))], []⟩ (Tt ∧ (((Eqc (.flt .f32 a0.bits)) ∧ Tt) ∧ CallOK Try.prog 53 [.one (.flt .f32 a0.bits)] [.one (.bool v1)]) ∧ (Tt ∧ v1 = true) ∧ T4 Tt) [.no, .call [.one (.flt .f32 a0.bits)] [.one (.bool v1)] [[.view]], .dec true] [2] [] ⟨tr, ⟨⟨rfl, tr⟩, ok_impl_IsFinite K a0 v1 e2⟩, ⟨tr, b3⟩, tr, tr, tr, tr, tr⟩ ⟨rfl, rfl⟩
    · replace e5 := some_eq e5
      subst e5
      exact AW.rA ⟨[(2, (vc (.bool false)))], []⟩ (Tt ∧ (((Eqc (.flt .f32 a0.bits)) ∧ Tt) ∧ CallOK Try.prog 53 [.one (.flt .f32 a0.bits)] [.one (.bool v1)]) ∧ (Tt ∧ v1 = false) ∧ T4 Tt) [.no, .call [.one (.flt .f32 a0.bits)] [.one (.bool v1)] [[.view]], .dec false] [2] [] ⟨tr, ⟨⟨rfl, tr⟩, ok_impl_IsFinite K a0 v1 e2⟩, ⟨tr, b3⟩, tr, tr, tr, tr, tr⟩ ⟨rfl, rfl⟩
  refine thenQ_normal ?_
  refine AW.ret ?_
  replace h := some_eq h
  subst h
  exact ⟨.inr rfl, retOK_of [(.one (.c (.bool j4)))] (by kernel_rfl) ⟨⟨rfl, tr⟩, tr⟩ (of_decide_eq_true (by kernel_rfl))⟩

/-! impl.NoTurn -/
def impl_NoTurn (_K : Nat) : Option (Turn) :=
  some (Turn.mk (Fl.mk (k := .f32) 1065353216 (by decide)) (default : F32) (default : F32) (default : F32))

theorem ok_impl_NoTurn (K : Nat) (o : (Turn)) (h : impl_NoTurn K  = some o) : CallOK Try.prog 39 [] [.agg (cs_Turn o)] := by
  refine callOK_of_AW Try.func39 rfl (by kernel_rfl) (Nat.le_of_ble_eq_true (by kernel_rfl)) ?_
  intro w0
  unfold impl_NoTurn at h
  refine AW.seq (AW.rA ⟨[(0, (vp 1 0))], [(1, (.box [(.c (.flt .f32 (default : F32).bits)), (.c (.flt .f32 (default : F32).bits)), (.c (.flt .f32 (default : F32).bits)), (.c (.flt .f32 (default : F32).bits))]))]⟩ (Tt ∧ Tt) [.box 1] [0] [1] ⟨tr, tr⟩ (thenQ_normal ?_))
  refine AW.seq (AW.rA ⟨[(0, (vp 1 0))], [(1, (.box [(.c (.flt .f32 (Fl.mk (k := .f32) 1065353216 (by decide)).bits)), (.c (.flt .f32 (default : F32).bits)), (.c (.flt .f32 (default : F32).bits)), (.c (.flt .f32 (default : F32).bits))]))]⟩ (T2 Tt) [] [0] [1] ⟨tr, tr, tr⟩ (thenQ_normal ?_))
  refine AW.ret ?_
  replace h := some_eq h
  subst h
  exact ⟨.inr rfl, retOK_of [(.agg [(.c (.flt .f32 (Fl.mk (k := .f32) 1065353216 (by decide)).bits)), (.c (.flt .f32 (default : F32).bits)), (.c (.flt .f32 (default : F32).bits)), (.c (.flt .f32 (default : F32).bits))])] (by kernel_rfl) ⟨⟨⟨rfl, tr⟩, ⟨rfl, tr⟩, ⟨rfl, tr⟩, ⟨rfl, tr⟩, tr⟩, tr⟩ (of_decide_eq_true (by kernel_rfl))⟩

/-! impl.MendTurn -/
def impl_MendTurn (K : Nat) (a0 : Turn) : Option (Turn) :=
  (impl_LengthOfTurn K a0).bind fun v1 => (impl_isLength K v1).bind fun v3 => ite2 ((!v3)) ((impl_NoTurn K ).bind fun v6 => some v6) (some (Turn.mk (a0.W.div v1) (a0.X.div v1) (a0.Y.div v1) (a0.Z.div v1)))

theorem ok_impl_MendTurn (K : Nat) (a0 : Turn) (o : (Turn)) (h : impl_MendTurn K a0 = some o) : CallOK Try.prog 36 [.agg (cs_Turn a0)] [.agg (cs_Turn o)] := by
  refine callOK_of_AW Try.func36 rfl (by kernel_rfl) (Nat.le_of_ble_eq_true (by kernel_rfl)) ?_
  intro w0
  unfold impl_MendTurn at h
  refine AW.seq (AW.rA ⟨[(1, (vp 1 0)), (2, (vp 2 0))], [(1, (.box [(.c (.flt .f32 a0.W.bits)), (.c (.flt .f32 a0.X.bits)), (.c (.flt .f32 a0.Y.bits)), (.c (.flt .f32 a0.Z.bits))])), (2, (.box [(.c (.flt .f32 (default : F32).bits)), (.c (.flt .f32 (default : F32).bits)), (.c (.flt .f32 (default : F32).bits)), (.c (.flt .f32 (default : F32).bits))]))]⟩ (T2 Tt) [.box 1, .box 2] [1, 2] [1, 2] ⟨tr, tr, tr⟩ (thenQ_normal ?_))
  refine AW.seq ?_
  obtain ⟨v1, e2, h⟩ := bind_some h
  refine AW.rA ⟨[(1, (vp 1 0)), (2, (vp 2 0)), (3, (vc (.flt .f32 v1.bits)))], [(1, (.box [(.c (.flt .f32 a0.W.bits)), (.c (.flt .f32 a0.X.bits)), (.c (.flt .f32 a0.Y.bits)), (.c (.flt .f32 a0.Z.bits))])), (2, (.box [(.c (.flt .f32 (default : F32).bits)), (.c (.flt .f32 (default : F32).bits)), (.c (.flt .f32 (default : F32).bits)), (.c (.flt .f32 (default : F32).bits))]))]⟩ (Tt ∧ ((((Eqc (.flt .f32 a0.W.bits)) ∧ (Eqc (.flt .f32 a0.X.bits)) ∧ (Eqc (.flt .f32 a0.Y.bits)) ∧ (Eqc (.flt .f32 a0.Z.bits)) ∧ Tt) ∧ Tt) ∧ CallOK Try.prog 45 [.agg (cs_Turn a0)] [.one (.flt .f32 v1.bits)]) ∧ Tt ∧ Tt) [.no, .call [.agg (cs_Turn a0)] [.one (.flt .f32 v1.bits)] [[.view]]] [1, 2, 3] [1, 2] ⟨tr, ⟨⟨⟨rfl, rfl, rfl, rfl, tr⟩, tr⟩, ok_impl_LengthOfTurn K a0 v1 e2⟩, tr, tr⟩ ?_
  refine thenQ_normal ?_
  refine AW.seq ?_
  refine AW.seq ?_
  obtain ⟨v3, e4, h⟩ := bind_some h
  refine AW.rA ⟨[(1, (vp 1 0)), (2, (vp 2 0)), (3, (vc (.flt .f32 v1.bits))), (8, (vc (.bool (!v3))))], [(1, (.box [(.c (.flt .f32 a0.W.bits)), (.c (.flt .f32 a0.X.bits)), (.c (.flt .f32 a0.Y.bits)), (.c (.flt .f32 a0.Z.bits))])), (2, (.box [(.c (.flt .f32 (default : F32).bits)), (.c (.flt .f32 (default : F32).bits)), (.c (.flt .f32 (default : F32).bits)), (.c (.flt .f32 (default : F32).bits))]))]⟩ (Tt ∧ (((Eqc (.flt .f32 v1.bits)) ∧ Tt) ∧ CallOK Try.prog 46 [.one (.flt .f32 v1.bits)] [.one (.bool v3)]) ∧ Tt ∧ Tt) [.no, .call [.one (.flt .f32 v1.bits)] [.one (.bool v3)] [[.view]]] [1, 2, 3, 8] [1, 2] ⟨tr, ⟨⟨rfl, tr⟩, ok_impl_isLength K v1 v3 e4⟩, tr, tr⟩ ?_
  refine thenQ_normal ?_
  rcases ite2_cases h with ⟨b5, h⟩ | ⟨b5, h⟩
  · refine AW.cond_t rfl b5 ?_
    refine AW.seq ?_
    obtain ⟨v6, e7, h⟩ := bind_some h
    refine AW.rA ⟨[(2, (vp 2 0))], [(2, (.box [(.c (.flt .f32 v6.W.bits)), (.c (.flt .f32 v6.X.bits)), (.c (.flt .f32 v6.Y.bits)), (.c (.flt .f32 v6.Z.bits))]))]⟩ (((Tt) ∧ CallOK Try.prog 39 [] [.agg (cs_Turn v6)]) ∧ Tt ∧ Tt) [.call [] [.agg (cs_Turn v6)] [[.view, .view, .view, .view]]] [2] [2] ⟨⟨tr, ok_impl_NoTurn K v6 e7⟩, tr, tr⟩ ?_
    refine thenQ_normal ?_
    refine AW.ret ?_
    refine thenQ_ret ?_
    replace h := some_eq h
    subst h
    exact ⟨.inr rfl, retOK_of [(.agg [(.c (.flt .f32 v6.W.bits)), (.c (.flt .f32 v6.X.bits)), (.c (.flt .f32 v6.Y.bits)), (.c (.flt .f32 v6.Z.bits))])] (by kernel_rfl) ⟨⟨⟨rfl, tr⟩, ⟨rfl, tr⟩, ⟨rfl, tr⟩, ⟨rfl, tr⟩, tr⟩, tr⟩ (of_decide_eq_true (by kernel_rfl))⟩
  · refine AW.cond_f rfl b5 ?_
    refine AW.skip ?_
    refine thenQ_normal ?_
    refine AW.seq (AW.rA ⟨[(2, (vp 2 0))], [(2, (.box [(.c (.flt .f32 (a0.W.div v1).bits)), (.c (.flt .f32 (a0.X.div v1).bits)), (.c (.flt .f32 (a0.Y.div v1).bits)), (.c (.flt .f32 (a0.Z.div v1).bits))]))]⟩ (T2 (T4 (T4 (T4 (T4 Tt))))) [] [2] [2] ⟨tr, tr, tr, tr, tr, tr, tr, tr, tr, tr, tr, tr, tr, tr, tr, tr, tr, tr, tr⟩ (thenQ_normal ?_))
    refine AW.ret ?_
    replace h := some_eq h
    subst h
    exact ⟨.inr rfl, retOK_of [(.agg [(.c (.flt .f32 (a0.W.div v1).bits)), (.c (.flt .f32 (a0.X.div v1).bits)), (.c (.flt .f32 (a0.Y.div v1).bits)), (.c (.flt .f32 (a0.Z.div v1).bits))])] (by kernel_rfl) ⟨⟨⟨rfl, tr⟩, ⟨rfl, tr⟩, ⟨rfl, tr⟩, ⟨rfl, tr⟩, tr⟩, tr⟩ (of_decide_eq_true (by kernel_rfl))⟩

/-! impl.NearTurn -/
def impl_NearTurn (K : Nat) (a0 : Turn) (a1 : Turn) (a2 : F32) : Option (Turn) :=
  (impl_InnerOfTurns K a0 a1).bind fun v1 => ite2 ((v1.lt' (Fl.mk (k := .f32) 0 (by decide)))) ((impl_Turn_opposite K a1).bind fun v4 => (impl_between K a0.W v4.W a2).bind fun v6 => (impl_between K a0.X v4.X a2).bind fun v8 => (impl_between K a0.Y v4.Y a2).bind fun v10 => (impl_between K a0.Z v4.Z a2).bind fun v12 => (impl_MendTurn K (Turn.mk v6 v8 v10 v12)).bind fun v14 => some v14) ((impl_between K a0.W a1.W a2).bind fun v16 => (impl_between K a0.X a1.X a2).bind fun v18 => (impl_between K a0.Y a1.Y a2).bind fun v20 => (impl_between K a0.Z a1.Z a2).bind fun v22 => (impl_MendTurn K (Turn.mk v16 v18 v20 v22)).bind fun v24 => some v24)

theorem ok_impl_NearTurn (K : Nat) (a0 : Turn) (a1 : Turn) (a2 : F32) (o : (Turn)) (h : impl_NearTurn K a0 a1 a2 = some o) : CallOK Try.prog 22 [.agg (cs_Turn a0), .agg (cs_Turn a1), .one (.flt .f32 a2.bits)] [.agg (cs_Turn o)] := by
  refine callOK_of_AW Try.func22 rfl (by kernel_rfl) (Nat.le_of_ble_eq_true (by kernel_rfl)) ?_
  intro w0
  unfold impl_NearTurn at h
  refine AW.seq (AW.rA ⟨[(2, (vc (.flt .f32 a2.bits))), (3, (vp 1 0)), (4, (vp 2 0)), (6, (vp 3 0))], [(1, (.box [(.c (.flt .f32 a0.W.bits)), (.c (.flt .f32 a0.X.bits)), (.c (.flt .f32 a0.Y.bits)), (.c (.flt .f32 a0.Z.bits))])), (2, (.box [(.c (.flt .f32 a1.W.bits)), (.c (.flt .f32 a1.X.bits)), (.c (.flt .f32 a1.Y.bits)), (.c (.flt .f32 a1.Z.bits))])), (3, (.box [(.c (.flt .f32 (default : F32).bits)), (.c (.flt .f32 (default : F32).bits)), (.c (.flt .f32 (default : F32).bits)), (.c (.flt .f32 (default : F32).bits))]))]⟩ (Tt ∧ T2 Tt) [.box 1, .box 2, .box 3] [2, 3, 4, 6] [1, 2, 3] ⟨tr, tr, tr, tr⟩ (thenQ_normal ?_))
  refine AW.seq ?_
  refine AW.seq ?_
  obtain ⟨v1, e2, h⟩ := bind_some h
  refine AW.rA ⟨[(2, (vc (.flt .f32 a2.bits))), (3, (vp 1 0)), (4, (vp 2 0)), (6, (vp 3 0)), (10, (vc (.bool (v1.lt' (Fl.mk (k := .f32) 0 (by decide))))))], [(1, (.box [(.c (.flt .f32 a0.W.bits)), (.c (.flt .f32 a0.X.bits)), (.c (.flt .f32 a0.Y.bits)), (.c (.flt .f32 a0.Z.bits))])), (2, (.box [(.c (.flt .f32 a1.W.bits)), (.c (.flt .f32 a1.X.bits)), (.c (.flt .f32 a1.Y.bits)), (.c (.flt .f32 a1.Z.bits))])), (3, (.box [(.c (.flt .f32 (default : F32).bits)), (.c (.flt .f32 (default : F32).bits)), (.c (.flt .f32 (default : F32).bits)), (.c (.flt .f32 (default : F32).bits))]))]⟩ (T2 (((((Eqc (.flt .f32 a0.W.bits)) ∧ (Eqc (.flt .f32 a0.X.bits)) ∧ (Eqc (.flt .f32 a0.Y.bits)) ∧ (Eqc (.flt .f32 a0.Z.bits)) ∧ Tt) ∧ ((Eqc (.flt .f32 a1.W.bits)) ∧ (Eqc (.flt .f32 a1.X.bits)) ∧ (Eqc (.flt .f32 a1.Y.bits)) ∧ (Eqc (.flt .f32 a1.Z.bits)) ∧ Tt) ∧ Tt) ∧ CallOK Try.prog 34 [.agg (cs_Turn a0), .agg (cs_Turn a1)] [.one (.flt .f32 v1.bits)]) ∧ Tt ∧ Tt)) [.no, .no, .call [.agg (cs_Turn a0), .agg (cs_Turn a1)] [.one (.flt .f32 v1.bits)] [[.view]]] [2, 3, 4, 6, 10] [1, 2, 3] ⟨tr, tr, ⟨⟨⟨rfl, rfl, rfl, rfl, tr⟩, ⟨rfl, rfl, rfl, rfl, tr⟩, tr⟩, ok_impl_InnerOfTurns K a0 a1 v1 e2⟩, tr, tr⟩ ?_
  refine thenQ_normal ?_
  rcases ite2_cases h with ⟨b3, h⟩ | ⟨b3, h⟩
  · refine AW.cond_t rfl b3 ?_
    obtain ⟨v4, e5, h⟩ := bind_some h
    refine AW.rA ⟨[(2, (vc (.flt .f32 a2.bits))), (3, (vp 1 0)), (4, (vp 2 0)), (6, (vp 3 0))], [(1, (.box [(.c (.flt .f32 a0.W.bits)), (.c (.flt .f32 a0.X.bits)), (.c (.flt .f32 a0.Y.bits)), (.c (.flt .f32 a0.Z.bits))])), (2, (.box [(.c (.flt .f32 v4.W.bits)), (.c (.flt .f32 v4.X.bits)), (.c (.flt .f32 v4.Y.bits)), (.c (.flt .f32 v4.Z.bits))])), (3, (.box [(.c (.flt .f32 (default : F32).bits)), (.c (.flt .f32 (default : F32).bits)), (.c (.flt .f32 (default : F32).bits)), (.c (.flt .f32 (default : F32).bits))]))]⟩ (Tt ∧ ((((Eqc (.flt .f32 a1.W.bits)) ∧ (Eqc (.flt .f32 a1.X.bits)) ∧ (Eqc (.flt .f32 a1.Y.bits)) ∧ (Eqc (.flt .f32 a1.Z.bits)) ∧ Tt) ∧ Tt) ∧ CallOK Try.prog 35 [.agg (cs_Turn a1)] [.agg (cs_Turn v4)]) ∧ Tt ∧ Tt) [.no, .call [.agg (cs_Turn a1)] [.agg (cs_Turn v4)] [[.view, .view, .view, .view]]] [2, 3, 4, 6] [1, 2, 3] ⟨tr, ⟨⟨⟨rfl, rfl, rfl, rfl, tr⟩, tr⟩, ok_impl_Turn_opposite K a1 v4 e5⟩, tr, tr⟩ ?_
    refine thenQ_normal ?_
    refine AW.seq ?_
    obtain ⟨v6, e7, h⟩ := bind_some h
    obtain ⟨v8, e9, h⟩ := bind_some h
    obtain ⟨v10, e11, h⟩ := bind_some h
    obtain ⟨v12, e13, h⟩ := bind_some h
    obtain ⟨v14, e15, h⟩ := bind_some h
    refine AW.dA ⟨[(6, (vp 3 0))], [(3, (.box [(.c (.flt .f32 v14.W.bits)), (.c (.flt .f32 v14.X.bits)), (.c (.flt .f32 v14.Y.bits)), (.c (.flt .f32 v14.Z.bits))]))]⟩ ((Tt ∧ T4 ((((Eqc (.flt .f32 a0.W.bits)) ∧ (Eqc (.flt .f32 v4.W.bits)) ∧ (Eqc (.flt .f32 a2.bits)) ∧ Tt) ∧ CallOK Try.prog 37 [.one (.flt .f32 a0.W.bits), .one (.flt .f32 v4.W.bits), .one (.flt .f32 a2.bits)] [.one (.flt .f32 v6.bits)]) ∧ Tt ∧ T4 ((((Eqc (.flt .f32 a0.X.bits)) ∧ (Eqc (.flt .f32 v4.X.bits)) ∧ (Eqc (.flt .f32 a2.bits)) ∧ Tt) ∧ CallOK Try.prog 37 [.one (.flt .f32 a0.X.bits), .one (.flt .f32 v4.X.bits), .one (.flt .f32 a2.bits)] [.one (.flt .f32 v8.bits)]) ∧ Tt ∧ T4 ((((Eqc (.flt .f32 a0.Y.bits)) ∧ (Eqc (.flt .f32 v4.Y.bits)) ∧ (Eqc (.flt .f32 a2.bits)) ∧ Tt) ∧ CallOK Try.prog 37 [.one (.flt .f32 a0.Y.bits), .one (.flt .f32 v4.Y.bits), .one (.flt .f32 a2.bits)] [.one (.flt .f32 v10.bits)]) ∧ Tt ∧ T4 ((((Eqc (.flt .f32 a0.Z.bits)) ∧ (Eqc (.flt .f32 v4.Z.bits)) ∧ (Eqc (.flt .f32 a2.bits)) ∧ Tt) ∧ CallOK Try.prog 37 [.one (.flt .f32 a0.Z.bits), .one (.flt .f32 v4.Z.bits), .one (.flt .f32 a2.bits)] [.one (.flt .f32 v12.bits)]) ∧ Tt ∧ ((((Eqc (.flt .f32 v6.bits)) ∧ (Eqc (.flt .f32 v8.bits)) ∧ (Eqc (.flt .f32 v10.bits)) ∧ (Eqc (.flt .f32 v12.bits)) ∧ Tt) ∧ Tt) ∧ CallOK Try.prog 36 [.agg (cs_Turn (Turn.mk v6 v8 v10 v12))] [.agg (cs_Turn v14)]) ∧ Tt))))) ∧ (Tt ∧ Tt)) 26 [.no, .no, .no, .no, .no, .call [.one (.flt .f32 a0.W.bits), .one (.flt .f32 v4.W.bits), .one (.flt .f32 a2.bits)] [.one (.flt .f32 v6.bits)] [[.view]], .no, .no, .no, .no, .no, .call [.one (.flt .f32 a0.X.bits), .one (.flt .f32 v4.X.bits), .one (.flt .f32 a2.bits)] [.one (.flt .f32 v8.bits)] [[.view]], .no, .no, .no, .no, .no, .call [.one (.flt .f32 a0.Y.bits), .one (.flt .f32 v4.Y.bits), .one (.flt .f32 a2.bits)] [.one (.flt .f32 v10.bits)] [[.view]], .no, .no, .no, .no, .no, .call [.one (.flt .f32 a0.Z.bits), .one (.flt .f32 v4.Z.bits), .one (.flt .f32 a2.bits)] [.one (.flt .f32 v12.bits)] [[.view]], .no, .call [.agg (cs_Turn (Turn.mk v6 v8 v10 v12))] [.agg (cs_Turn v14)] [[.view, .view, .view, .view]]] [6] [3] ⟨⟨tr, tr, tr, tr, tr, ⟨⟨rfl, rfl, rfl, tr⟩, ok_impl_between K a0.W v4.W a2 v6 e7⟩, tr, tr, tr, tr, tr, ⟨⟨rfl, rfl, rfl, tr⟩, ok_impl_between K a0.X v4.X a2 v8 e9⟩, tr, tr, tr, tr, tr, ⟨⟨rfl, rfl, rfl, tr⟩, ok_impl_between K a0.Y v4.Y a2 v10 e11⟩, tr, tr, tr, tr, tr, ⟨⟨rfl, rfl, rfl, tr⟩, ok_impl_between K a0.Z v4.Z a2 v12 e13⟩, tr, ⟨⟨⟨rfl, rfl, rfl, rfl, tr⟩, tr⟩, ok_impl_MendTurn K (Turn.mk v6 v8 v10 v12) v14 e15⟩, tr⟩, ⟨tr, tr⟩⟩ ?_
    refine thenQ_normal ?_
    refine AW.ret ?_
    replace h := some_eq h
    subst h
    exact ⟨.inr rfl, retOK_of [(.agg [(.c (.flt .f32 v14.W.bits)), (.c (.flt .f32 v14.X.bits)), (.c (.flt .f32 v14.Y.bits)), (.c (.flt .f32 v14.Z.bits))])] (by kernel_rfl) ⟨⟨⟨rfl, tr⟩, ⟨rfl, tr⟩, ⟨rfl, tr⟩, ⟨rfl, tr⟩, tr⟩, tr⟩ (of_decide_eq_true (by kernel_rfl))⟩
  · refine AW.cond_f rfl b3 ?_
    refine AW.skip ?_
    refine thenQ_normal ?_
    refine AW.seq ?_
    obtain ⟨v16, e17, h⟩ := bind_some h
    obtain ⟨v18, e19, h⟩ := bind_some h
    obtain ⟨v20, e21, h⟩ := bind_some h
    obtain ⟨v22, e23, h⟩ := bind_some h
    obtain ⟨v24, e25, h⟩ := bind_some h
    refine AW.dA ⟨[(6, (vp 3 0))], [(3, (.box [(.c (.flt .f32 v24.W.bits)), (.c (.flt .f32 v24.X.bits)), (.c (.flt .f32 v24.Y.bits)), (.c (.flt .f32 v24.Z.bits))]))]⟩ ((Tt ∧ T4 ((((Eqc (.flt .f32 a0.W.bits)) ∧ (Eqc (.flt .f32 a1.W.bits)) ∧ (Eqc (.flt .f32 a2.bits)) ∧ Tt) ∧ CallOK Try.prog 37 [.one (.flt .f32 a0.W.bits), .one (.flt .f32 a1.W.bits), .one (.flt .f32 a2.bits)] [.one (.flt .f32 v16.bits)]) ∧ Tt ∧ T4 ((((Eqc (.flt .f32 a0.X.bits)) ∧ (Eqc (.flt .f32 a1.X.bits)) ∧ (Eqc (.flt .f32 a2.bits)) ∧ Tt) ∧ CallOK Try.prog 37 [.one (.flt .f32 a0.X.bits), .one (.flt .f32 a1.X.bits), .one (.flt .f32 a2.bits)] [.one (.flt .f32 v18.bits)]) ∧ Tt ∧ T4 ((((Eqc (.flt .f32 a0.Y.bits)) ∧ (Eqc (.flt .f32 a1.Y.bits)) ∧ (Eqc (.flt .f32 a2.bits)) ∧ Tt) ∧ CallOK Try.prog 37 [.one (.flt .f32 a0.Y.bits), .one (.flt .f32 a1.Y.bits), .one (.flt .f32 a2.bits)] [.one (.flt .f32 v20.bits)]) ∧ Tt ∧ T4 ((((Eqc (.flt .f32 a0.Z.bits)) ∧ (Eqc (.flt .f32 a1.Z.bits)) ∧ (Eqc (.flt .f32 a2.bits)) ∧ Tt) ∧ CallOK Try.prog 37 [.one (.flt .f32 a0.Z.bits), .one (.flt .f32 a1.Z.bits), .one (.flt .f32 a2.bits)] [.one (.flt .f32 v22.bits)]) ∧ Tt ∧ ((((Eqc (.flt .f32 v16.bits)) ∧ (Eqc (.flt .f32 v18.bits)) ∧ (Eqc (.flt .f32 v20.bits)) ∧ (Eqc (.flt .f32 v22.bits)) ∧ Tt) ∧ Tt) ∧ CallOK Try.prog 36 [.agg (cs_Turn (Turn.mk v16 v18 v20 v22))] [.agg (cs_Turn v24)]) ∧ Tt))))) ∧ (Tt ∧ Tt)) 26 [.no, .no, .no, .no, .no, .call [.one (.flt .f32 a0.W.bits), .one (.flt .f32 a1.W.bits), .one (.flt .f32 a2.bits)] [.one (.flt .f32 v16.bits)] [[.view]], .no, .no, .no, .no, .no, .call [.one (.flt .f32 a0.X.bits), .one (.flt .f32 a1.X.bits), .one (.flt .f32 a2.bits)] [.one (.flt .f32 v18.bits)] [[.view]], .no, .no, .no, .no, .no, .call [.one (.flt .f32 a0.Y.bits), .one (.flt .f32 a1.Y.bits), .one (.flt .f32 a2.bits)] [.one (.flt .f32 v20.bits)] [[.view]], .no, .no, .no, .no, .no, .call [.one (.flt .f32 a0.Z.bits), .one (.flt .f32 a1.Z.bits), .one (.flt .f32 a2.bits)] [.one (.flt .f32 v22.bits)] [[.view]], .no, .call [.agg (cs_Turn (Turn.mk v16 v18 v20 v22))] [.agg (cs_Turn v24)] [[.view, .view, .view, .view]]] [6] [3] ⟨⟨tr, tr, tr, tr, tr, ⟨⟨rfl, rfl, rfl, tr⟩, ok_impl_between K a0.W a1.W a2 v16 e17⟩, tr, tr, tr, tr, tr, ⟨⟨rfl, rfl, rfl, tr⟩, ok_impl_between K a0.X a1.X a2 v18 e19⟩, tr, tr, tr, tr, tr, ⟨⟨rfl, rfl, rfl, tr⟩, ok_impl_between K a0.Y a1.Y a2 v20 e21⟩, tr, tr, tr, tr, tr, ⟨⟨rfl, rfl, rfl, tr⟩, ok_impl_between K a0.Z a1.Z a2 v22 e23⟩, tr, ⟨⟨⟨rfl, rfl, rfl, rfl, tr⟩, tr⟩, ok_impl_MendTurn K (Turn.mk v16 v18 v20 v22) v24 e25⟩, tr⟩, ⟨tr, tr⟩⟩ ?_
    refine thenQ_normal ?_
    refine AW.ret ?_
    replace h := some_eq h
    subst h
    exact ⟨.inr rfl, retOK_of [(.agg [(.c (.flt .f32 v24.W.bits)), (.c (.flt .f32 v24.X.bits)), (.c (.flt .f32 v24.Y.bits)), (.c (.flt .f32 v24.Z.bits))])] (by kernel_rfl) ⟨⟨⟨rfl, tr⟩, ⟨rfl, tr⟩, ⟨rfl, tr⟩, ⟨rfl, tr⟩, tr⟩, tr⟩ (of_decide_eq_true (by kernel_rfl))⟩

/-! impl.BlendPoses -/
def impl_BlendPoses_l1 (K : Nat) (a0 : Pose) (a1 : Pose) (a2 : F32) (a3 : (List Bool)) (v11 : (Vector)) : Nat → Int → (List Turn) → Option (Pose × Bool)
  | 0, _, _ => none
  | k + 1, x15, x16 => ite2 ((decide (x15 < (a3.length : Int)))) (chk (0 ≤ x15 ∧ x15 < (a3.length : Int)) (ite2 ((a3.getD x15.toNat default)) (chk (0 ≤ x15 ∧ x15 < (a0.Turns.length : Int)) (chk (0 ≤ x15 ∧ x15 < (a1.Turns.length : Int)) ((impl_NearTurn K (a0.Turns.getD x15.toNat default) (a1.Turns.getD x15.toNat default) a2).bind fun v22 => chk (0 ≤ x15 ∧ x15 < (x16.length : Int)) (impl_BlendPoses_l1 K a0 a1 a2 a3 v11 k (IntKind.i64.wrap (x15 + (1 : Int))) (x16.set x15.toNat v22))))) (impl_BlendPoses_l1 K a0 a1 a2 a3 v11 k (IntKind.i64.wrap (x15 + (1 : Int))) x16))) (some ((Pose.mk v11 x16), true))

def impl_BlendPoses_l2 (K : Nat) (a0 : Pose) (a1 : Pose) (a2 : F32) (a3 : (List Bool)) : Nat → Int → (List Turn) → Option (Pose × Bool)
  | 0, _, _ => none
  | k + 1, x27, x28 => ite2 ((decide (x27 < (a3.length : Int)))) (chk (0 ≤ x27 ∧ x27 < (a3.length : Int)) (ite2 ((a3.getD x27.toNat default)) (chk (0 ≤ x27 ∧ x27 < (a0.Turns.length : Int)) (chk (0 ≤ x27 ∧ x27 < (a1.Turns.length : Int)) ((impl_NearTurn K (a0.Turns.getD x27.toNat default) (a1.Turns.getD x27.toNat default) a2).bind fun v34 => chk (0 ≤ x27 ∧ x27 < (x28.length : Int)) (impl_BlendPoses_l2 K a0 a1 a2 a3 k (IntKind.i64.wrap (x27 + (1 : Int))) (x28.set x27.toNat v34))))) (impl_BlendPoses_l2 K a0 a1 a2 a3 k (IntKind.i64.wrap (x27 + (1 : Int))) x28))) (some ((Pose.mk a0.Root x28), true))

def impl_BlendPoses (K : Nat) (a0 : Pose) (a1 : Pose) (a2 : F32) (a3 : (List Bool)) : Option (Pose × Bool) :=
  (impl_arePair K a0 a1).bind fun v1 => (ite2 ((!v1)) (some true) (some ((a3.length : Int) != (a0.Turns.length : Int)))).bind fun j4 => ite2 (j4) (some ((Pose.mk (Vector.mk (default : F32) (default : F32) (default : F32)) ([] : (List Turn))), false)) ((slices_Clone_impl_Turn_impl_Turn K a0.Turns).bind fun v7 => chk (0 ≤ (0 : Int) ∧ (0 : Int) < (a3.length : Int)) (ite2 ((a3.getD ((0 : Int).toNat) default)) ((impl_BetweenVectors K a0.Root a1.Root a2).bind fun v11 => impl_BlendPoses_l1 K a0 a1 a2 a3 v11 K (0 : Int) v7) (impl_BlendPoses_l2 K a0 a1 a2 a3 K (0 : Int) v7)))

theorem ok_impl_BlendPoses (K : Nat) (a0 : Pose) (a1 : Pose) (a2 : F32) (a3 : (List Bool)) (o : (Pose × Bool)) (h : impl_BlendPoses K a0 a1 a2 a3 = some o) : CallOK Try.prog 7 [.agg (cs_Pose a0), .agg (cs_Pose a1), .one (.flt .f32 a2.bits), .one (sl 1 csB a3)] [.agg (cs_Pose o.1), .one (.bool o.2)] := by
  refine callOK_of_AW Try.func7 rfl (by kernel_rfl) (Nat.le_of_ble_eq_true (by kernel_rfl)) ?_
  intro w0
  unfold impl_BlendPoses at h
  refine AW.seq (AW.rA ⟨[(2, (vc (.flt .f32 a2.bits))), (3, (vc (sl 1 csB a3))), (4, (vp 1 0)), (5, (vp 2 0)), (8, (vp 3 0))], [(1, (.box [(.c (.flt .f32 a0.Root.X.bits)), (.c (.flt .f32 a0.Root.Y.bits)), (.c (.flt .f32 a0.Root.Z.bits)), (.c (sl 4 cs_Turn a0.Turns))])), (2, (.box [(.c (.flt .f32 a1.Root.X.bits)), (.c (.flt .f32 a1.Root.Y.bits)), (.c (.flt .f32 a1.Root.Z.bits)), (.c (sl 4 cs_Turn a1.Turns))])), (3, (.box [(.c (.flt .f32 (default : F32).bits)), (.c (.flt .f32 (default : F32).bits)), (.c (.flt .f32 (default : F32).bits)), .nils]))]⟩ (T4 Tt) [.box 1, .box 2, .box 3] [2, 3, 4, 5, 8] [1, 2, 3] ⟨tr, tr, tr, tr, tr⟩ (thenQ_normal ?_))
  refine AW.seq ?_
  refine AW.seq ?_
  obtain ⟨v1, e2, h⟩ := bind_some h
  obtain ⟨j4, e5, h⟩ := bind_some h
  refine AW.join1 (s2 := ⟨[(2, (vc (.flt .f32 a2.bits))), (3, (vc (sl 1 csB a3))), (4, (vp 1 0)), (5, (vp 2 0)), (8, (vp 3 0)), (24, (vc (.bool j4)))], [(1, (.box [(.c (.flt .f32 a0.Root.X.bits)), (.c (.flt .f32 a0.Root.Y.bits)), (.c (.flt .f32 a0.Root.Z.bits)), (.c (sl 4 cs_Turn a0.Turns))])), (2, (.box [(.c (.flt .f32 a1.Root.X.bits)), (.c (.flt .f32 a1.Root.Y.bits)), (.c (.flt .f32 a1.Root.Z.bits)), (.c (sl 4 cs_Turn a1.Turns))])), (3, (.box [(.c (.flt .f32 (default : F32).bits)), (.c (.flt .f32 (default : F32).bits)), (.c (.flt .f32 (default : F32).bits)), .nils]))]⟩) ?_ ?_
  · rcases ite2_cases e5 with ⟨b3, e5⟩ | ⟨b3, e5⟩
    · replace e5 := some_eq e5
      subst e5
      exact AW.rA ⟨[(2, (vc (.flt .f32 a2.bits))), (3, (vc (sl 1 csB a3))), (4, (vp 1 0)), (5, (vp 2 0)), (8, (vp 3 0)), (24, (vc (.bool true)))], [(1, (.box [(.c (.flt .f32 a0.Root.X.bits)), (.c (.flt .f32 a0.Root.Y.bits)), (.c (.flt .f32 a0.Root.Z.bits)), (.c (sl 4 cs_Turn a0.Turns))])), (2, (.box [(.c (.flt .f32 a1.Root.X.bits)), (.c (.flt .f32 a1.Root.Y.bits)), (.c (.flt .f32 a1.Root.Z.bits)), (.c (sl 4 cs_Turn a1.Turns))])), (3, (.box [(.c (.flt .f32 (default : F32).bits)), (.c (.flt .f32 (default : F32).bits)), (.c (.flt .f32 (default : F32).bits)), .nils]))]⟩ (T2 (((((Eqc (.flt .f32 a0.Root.X.bits)) ∧ (Eqc (.flt .f32 a0.Root.Y.bits)) ∧ (Eqc (.flt .f32 a0.Root.Z.bits)) ∧ (Eqc (sl 4 cs_Turn a0.Turns)) ∧ Tt) ∧ ((Eqc (.flt .f32 a1.Root.X.bits)) ∧ (Eqc (.flt .f32 a1.Root.Y.bits)) ∧ (Eqc (.flt .f32 a1.Root.Z.bits)) ∧ (Eqc (sl 4 cs_Turn a1.Turns)) ∧ Tt) ∧ Tt) ∧ CallOK Try.prog 19 [.agg (cs_Pose a0), .agg (cs_Pose a1)] [.one (.bool v1)]) ∧ Tt ∧ (Tt ∧ (!v1) = true) ∧ Tt ∧ T2 (T4 Tt))) [.no, .no, .call [.agg (cs_Pose a0), .agg (cs_Pose a1)] [.one (.bool v1)] [[.view]], .no, .dec true] [2, 3, 4, 5, 8, 24] [1, 2, 3] ⟨tr, tr, ⟨⟨⟨rfl, rfl, rfl, rfl, tr⟩, ⟨rfl, rfl, rfl, rfl, tr⟩, tr⟩, ok_impl_arePair K a0 a1 v1 e2⟩, tr, ⟨tr, b3⟩, tr, tr, tr, tr, tr, tr, tr, tr⟩ ⟨rfl, rfl⟩
    · replace e5 := some_eq e5
      subst e5
      exact AW.rA ⟨[(2, (vc (.flt .f32 a2.bits))), (3, (vc (sl 1 csB a3))), (4, (vp 1 0)), (5, (vp 2 0)), (8, (vp 3 0)), (24, (vc (.bool ((a3.length : Int) != (a0.Turns.length : Int)))))], [(1, (.box [(.c (.flt .f32 a0.Root.X.bits)), (.c (.flt .f32 a0.Root.Y.bits)), (.c (.flt .f32 a0.Root.Z.bits)), (.c (sl 4 cs_Turn a0.Turns))])), (2, (.box [(.c (.flt .f32 a1.Root.X.bits)), (.c (.flt .f32 a1.Root.Y.bits)), (.c (.flt .f32 a1.Root.Z.bits)), (.c (sl 4 cs_Turn a1.Turns))])), (3, (.box [(.c (.flt .f32 (default : F32).bits)), (.c (.flt .f32 (default : F32).bits)), (.c (.flt .f32 (default : F32).bits)), .nils]))]⟩ (T2 (((((Eqc (.flt .f32 a0.Root.X.bits)) ∧ (Eqc (.flt .f32 a0.Root.Y.bits)) ∧ (Eqc (.flt .f32 a0.Root.Z.bits)) ∧ (Eqc (sl 4 cs_Turn a0.Turns)) ∧ Tt) ∧ ((Eqc (.flt .f32 a1.Root.X.bits)) ∧ (Eqc (.flt .f32 a1.Root.Y.bits)) ∧ (Eqc (.flt .f32 a1.Root.Z.bits)) ∧ (Eqc (sl 4 cs_Turn a1.Turns)) ∧ Tt) ∧ Tt) ∧ CallOK Try.prog 19 [.agg (cs_Pose a0), .agg (cs_Pose a1)] [.one (.bool v1)]) ∧ Tt ∧ (Tt ∧ (!v1) = false) ∧ Tt ∧ T2 (T4 Tt))) [.no, .no, .call [.agg (cs_Pose a0), .agg (cs_Pose a1)] [.one (.bool v1)] [[.view]], .no, .dec false] [2, 3, 4, 5, 8, 24] [1, 2, 3] ⟨tr, tr, ⟨⟨⟨rfl, rfl, rfl, rfl, tr⟩, ⟨rfl, rfl, rfl, rfl, tr⟩, tr⟩, ok_impl_arePair K a0 a1 v1 e2⟩, tr, ⟨tr, b3⟩, tr, tr, tr, tr, tr, tr, tr, tr⟩ ⟨rfl, rfl⟩
  refine thenQ_normal ?_
  rcases ite2_cases h with ⟨b6, h⟩ | ⟨b6, h⟩
  · refine AW.cond_t rfl b6 ?_
    refine AW.seq (AW.rA ⟨[(8, (vp 3 0)), (9, (vc (.bool false)))], [(3, (.box [(.c (.flt .f32 (default : F32).bits)), (.c (.flt .f32 (default : F32).bits)), (.c (.flt .f32 (default : F32).bits)), .nils]))]⟩ (Tt ∧ T2 Tt) [] [8, 9] [3] ⟨tr, tr, tr, tr⟩ (thenQ_normal ?_))
    refine AW.ret ?_
    refine thenQ_ret ?_
    replace h := some_eq h
    subst h
    exact ⟨.inr rfl, retOK_of [(.agg [(.c (.flt .f32 (default : F32).bits)), (.c (.flt .f32 (default : F32).bits)), (.c (.flt .f32 (default : F32).bits)), .nils]), (.one (.c (.bool false)))] (by kernel_rfl) ⟨⟨⟨rfl, tr⟩, ⟨rfl, tr⟩, ⟨rfl, tr⟩, rfl, tr⟩, ⟨rfl, tr⟩, tr⟩ (of_decide_eq_true (by kernel_rfl))⟩
  · refine AW.cond_f rfl b6 ?_
    refine AW.skip ?_
    refine thenQ_normal ?_
    refine AW.seq ?_
    obtain ⟨v7, e8, h⟩ := bind_some h
    refine AW.dA ⟨[(2, (vc (.flt .f32 a2.bits))), (3, (vc (sl 1 csB a3))), (4, (vp 1 0)), (5, (vp 2 0)), (8, (vp 3 0)), (10, (vp 5 0))], [(1, (.box [(.c (.flt .f32 a0.Root.X.bits)), (.c (.flt .f32 a0.Root.Y.bits)), (.c (.flt .f32 a0.Root.Z.bits)), (.c (sl 4 cs_Turn a0.Turns))])), (2, (.box [(.c (.flt .f32 a1.Root.X.bits)), (.c (.flt .f32 a1.Root.Y.bits)), (.c (.flt .f32 a1.Root.Z.bits)), (.c (sl 4 cs_Turn a1.Turns))])), (3, (.box [(.c (.flt .f32 (default : F32).bits)), (.c (.flt .f32 (default : F32).bits)), (.c (.flt .f32 (default : F32).bits)), .nils])), (4, (.arr true v7.length 4 (gl cs_Turn v7))), (5, (.box [(.c (.flt .f32 a0.Root.X.bits)), (.c (.flt .f32 a0.Root.Y.bits)), (.c (.flt .f32 a0.Root.Z.bits)), (.arr 4)]))]⟩ ((T4 ((((Eqc (sl 4 cs_Turn a0.Turns)) ∧ Tt) ∧ CallOK Try.prog 20 [.one (sl 4 cs_Turn a0.Turns)] [.one (sl 4 cs_Turn v7)]) ∧ T2 Tt)) ∧ (Tt ∧ Tt)) 7 [.no, .no, .no, .no, .call [.one (sl 4 cs_Turn a0.Turns)] [.one (sl 4 cs_Turn v7)] [[.own 4]], .no, .box 5] [2, 3, 4, 5, 8, 10] [1, 2, 3, 4, 5] ⟨⟨tr, tr, tr, tr, ⟨⟨rfl, tr⟩, ok_slices_Clone_impl_Turn_impl_Turn K a0.Turns v7 e8⟩, tr, tr, tr⟩, ⟨tr, tr⟩⟩ ?_
    refine thenQ_normal ?_
    refine AW.seq ?_
    refine AW.seq ?_
    obtain ⟨c9, h⟩ := chk_some h
    refine AW.rA ⟨[(2, (vc (.flt .f32 a2.bits))), (3, (vc (sl 1 csB a3))), (4, (vp 1 0)), (5, (vp 2 0)), (8, (vp 3 0)), (10, (vp 5 0)), (34, (vc (.bool (a3.getD ((0 : Int).toNat) default))))], [(1, (.box [(.c (.flt .f32 a0.Root.X.bits)), (.c (.flt .f32 a0.Root.Y.bits)), (.c (.flt .f32 a0.Root.Z.bits)), (.c (sl 4 cs_Turn a0.Turns))])), (2, (.box [(.c (.flt .f32 a1.Root.X.bits)), (.c (.flt .f32 a1.Root.Y.bits)), (.c (.flt .f32 a1.Root.Z.bits)), (.c (sl 4 cs_Turn a1.Turns))])), (3, (.box [(.c (.flt .f32 (default : F32).bits)), (.c (.flt .f32 (default : F32).bits)), (.c (.flt .f32 (default : F32).bits)), .nils])), (4, (.arr true v7.length 4 (gl cs_Turn v7))), (5, (.box [(.c (.flt .f32 a0.Root.X.bits)), (.c (.flt .f32 a0.Root.Y.bits)), (.c (.flt .f32 a0.Root.Z.bits)), (.arr 4)]))]⟩ (Tt ∧ (0 ≤ (0 : Int) ∧ (0 : Int) < (a3.length : Int)) ∧ Tt ∧ Tt) [] [2, 3, 4, 5, 8, 10, 34] [1, 2, 3, 4, 5] ⟨tr, c9, tr, tr⟩ ?_
    refine thenQ_normal ?_
    rcases ite2_cases h with ⟨b10, h⟩ | ⟨b10, h⟩
    · refine AW.cond_t rfl b10 ?_
      obtain ⟨v11, e12, h⟩ := bind_some h
      refine AW.rA ⟨[(2, (vc (.flt .f32 a2.bits))), (3, (vc (sl 1 csB a3))), (4, (vp 1 0)), (5, (vp 2 0)), (8, (vp 3 0)), (10, (vp 5 0))], [(1, (.box [(.c (.flt .f32 a0.Root.X.bits)), (.c (.flt .f32 a0.Root.Y.bits)), (.c (.flt .f32 a0.Root.Z.bits)), (.c (sl 4 cs_Turn a0.Turns))])), (2, (.box [(.c (.flt .f32 a1.Root.X.bits)), (.c (.flt .f32 a1.Root.Y.bits)), (.c (.flt .f32 a1.Root.Z.bits)), (.c (sl 4 cs_Turn a1.Turns))])), (3, (.box [(.c (.flt .f32 (default : F32).bits)), (.c (.flt .f32 (default : F32).bits)), (.c (.flt .f32 (default : F32).bits)), .nils])), (4, (.arr true v7.length 4 (gl cs_Turn v7))), (5, (.box [(.c (.flt .f32 v11.X.bits)), (.c (.flt .f32 v11.Y.bits)), (.c (.flt .f32 v11.Z.bits)), (.arr 4)]))]⟩ (Tt ∧ T4 (((((Eqc (.flt .f32 a0.Root.X.bits)) ∧ (Eqc (.flt .f32 a0.Root.Y.bits)) ∧ (Eqc (.flt .f32 a0.Root.Z.bits)) ∧ Tt) ∧ ((Eqc (.flt .f32 a1.Root.X.bits)) ∧ (Eqc (.flt .f32 a1.Root.Y.bits)) ∧ (Eqc (.flt .f32 a1.Root.Z.bits)) ∧ Tt) ∧ (Eqc (.flt .f32 a2.bits)) ∧ Tt) ∧ CallOK Try.prog 21 [.agg (cs_Vector a0.Root), .agg (cs_Vector a1.Root), .one (.flt .f32 a2.bits)] [.agg (cs_Vector v11)]) ∧ T2 Tt)) [.no, .no, .no, .no, .no, .call [.agg (cs_Vector a0.Root), .agg (cs_Vector a1.Root), .one (.flt .f32 a2.bits)] [.agg (cs_Vector v11)] [[.view, .view, .view]]] [2, 3, 4, 5, 8, 10] [1, 2, 3, 4, 5] ⟨tr, tr, tr, tr, tr, ⟨⟨⟨rfl, rfl, rfl, tr⟩, ⟨rfl, rfl, rfl, tr⟩, rfl, tr⟩, ok_impl_BetweenVectors K a0.Root a1.Root a2 v11 e12⟩, tr, tr, tr⟩ ?_
      refine thenQ_normal ?_
      refine AW.seq ?_
      refine AW.seq (AW.rA ⟨[(2, (vc (.flt .f32 a2.bits))), (4, (vp 1 0)), (5, (vp 2 0)), (8, (vp 3 0)), (10, (vp 5 0)), (42, (vc (sl 1 csB a3))), (43, (vc (.int .i64 (a3.length : Int)))), (44, (vc (.int .i64 (0 : Int))))], [(1, (.box [(.c (.flt .f32 a0.Root.X.bits)), (.c (.flt .f32 a0.Root.Y.bits)), (.c (.flt .f32 a0.Root.Z.bits)), (.c (sl 4 cs_Turn a0.Turns))])), (2, (.box [(.c (.flt .f32 a1.Root.X.bits)), (.c (.flt .f32 a1.Root.Y.bits)), (.c (.flt .f32 a1.Root.Z.bits)), (.c (sl 4 cs_Turn a1.Turns))])), (3, (.box [(.c (.flt .f32 (default : F32).bits)), (.c (.flt .f32 (default : F32).bits)), (.c (.flt .f32 (default : F32).bits)), .nils])), (4, (.arr true v7.length 4 (gl cs_Turn v7))), (5, (.box [(.c (.flt .f32 v11.X.bits)), (.c (.flt .f32 v11.Y.bits)), (.c (.flt .f32 v11.Z.bits)), (.arr 4)]))]⟩ (Tt ∧ T2 Tt) [] [2, 4, 5, 8, 10, 42, 43, 44] [1, 2, 3, 4, 5] ⟨tr, tr, tr, tr⟩ (thenQ_normal ?_))
      refine AW.block ?_
      refine AW.loopQ (σ := Nat × Int × (List Turn)) (fun p => ⟨[(2, (vc (.flt .f32 a2.bits))), (4, (vp 1 0)), (5, (vp 2 0)), (8, (vp 3 0)), (10, (vp 5 0)), (42, (vc (sl 1 csB a3))), (43, (vc (.int .i64 (a3.length : Int)))), (44, (vc (.int .i64 p.2.1)))], [(1, (.box [(.c (.flt .f32 a0.Root.X.bits)), (.c (.flt .f32 a0.Root.Y.bits)), (.c (.flt .f32 a0.Root.Z.bits)), (.c (sl 4 cs_Turn a0.Turns))])), (2, (.box [(.c (.flt .f32 a1.Root.X.bits)), (.c (.flt .f32 a1.Root.Y.bits)), (.c (.flt .f32 a1.Root.Z.bits)), (.c (sl 4 cs_Turn a1.Turns))])), (3, (.box [(.c (.flt .f32 (default : F32).bits)), (.c (.flt .f32 (default : F32).bits)), (.c (.flt .f32 (default : F32).bits)), .nils])), (4, (.arr true p.2.2.length 4 (gl cs_Turn p.2.2))), (5, (.box [(.c (.flt .f32 v11.X.bits)), (.c (.flt .f32 v11.Y.bits)), (.c (.flt .f32 v11.Z.bits)), (.arr 4)]))]⟩) (fun p => impl_BlendPoses_l1 K a0 a1 a2 a3 v11 p.1 p.2.1 p.2.2 = some o) (fun p => p.1) (K, (0 : Int), v7) h ?_
      clear h
      rintro ⟨k, x15, x16⟩ h
      replace h : impl_BlendPoses_l1 K a0 a1 a2 a3 v11 k x15 x16 = some o := h
      show AW _ _ (⟨[(2, (vc (.flt .f32 a2.bits))), (4, (vp 1 0)), (5, (vp 2 0)), (8, (vp 3 0)), (10, (vp 5 0)), (42, (vc (sl 1 csB a3))), (43, (vc (.int .i64 (a3.length : Int)))), (44, (vc (.int .i64 x15)))], [(1, (.box [(.c (.flt .f32 a0.Root.X.bits)), (.c (.flt .f32 a0.Root.Y.bits)), (.c (.flt .f32 a0.Root.Z.bits)), (.c (sl 4 cs_Turn a0.Turns))])), (2, (.box [(.c (.flt .f32 a1.Root.X.bits)), (.c (.flt .f32 a1.Root.Y.bits)), (.c (.flt .f32 a1.Root.Z.bits)), (.c (sl 4 cs_Turn a1.Turns))])), (3, (.box [(.c (.flt .f32 (default : F32).bits)), (.c (.flt .f32 (default : F32).bits)), (.c (.flt .f32 (default : F32).bits)), .nils])), (4, (.arr true x16.length 4 (gl cs_Turn x16))), (5, (.box [(.c (.flt .f32 v11.X.bits)), (.c (.flt .f32 v11.Y.bits)), (.c (.flt .f32 v11.Z.bits)), (.arr 4)]))]⟩ : St) _
      obtain _ | k := k
      · rw [impl_BlendPoses_l1] at h; cases h
      rw [impl_BlendPoses_l1] at h
      refine AW.seq (AW.rA ⟨[(2, (vc (.flt .f32 a2.bits))), (4, (vp 1 0)), (5, (vp 2 0)), (8, (vp 3 0)), (10, (vp 5 0)), (42, (vc (sl 1 csB a3))), (43, (vc (.int .i64 (a3.length : Int)))), (44, (vc (.int .i64 x15))), (45, (vc (.bool (decide (x15 < (a3.length : Int))))))], [(1, (.box [(.c (.flt .f32 a0.Root.X.bits)), (.c (.flt .f32 a0.Root.Y.bits)), (.c (.flt .f32 a0.Root.Z.bits)), (.c (sl 4 cs_Turn a0.Turns))])), (2, (.box [(.c (.flt .f32 a1.Root.X.bits)), (.c (.flt .f32 a1.Root.Y.bits)), (.c (.flt .f32 a1.Root.Z.bits)), (.c (sl 4 cs_Turn a1.Turns))])), (3, (.box [(.c (.flt .f32 (default : F32).bits)), (.c (.flt .f32 (default : F32).bits)), (.c (.flt .f32 (default : F32).bits)), .nils])), (4, (.arr true x16.length 4 (gl cs_Turn x16))), (5, (.box [(.c (.flt .f32 v11.X.bits)), (.c (.flt .f32 v11.Y.bits)), (.c (.flt .f32 v11.Z.bits)), (.arr 4)]))]⟩ (Tt ∧ Tt) [] [2, 4, 5, 8, 10, 42, 43, 44, 45] [1, 2, 3, 4, 5] ⟨tr, tr⟩ (thenQ_normal ?_))
      refine AW.seq ?_
      rcases ite2_cases h with ⟨b17, h⟩ | ⟨b17, h⟩
      · refine AW.cond_t rfl b17 ?_
        refine AW.skip ?_
        refine thenQ_normal ?_
        refine AW.seq ?_
        refine AW.block ?_
        refine AW.seq ?_
        obtain ⟨c18, h⟩ := chk_some h
        refine AW.rA ⟨[(2, (vc (.flt .f32 a2.bits))), (4, (vp 1 0)), (5, (vp 2 0)), (8, (vp 3 0)), (10, (vp 5 0)), (11, (vc (.int .i64 x15))), (12, (vc (.bool (a3.getD x15.toNat default)))), (42, (vc (sl 1 csB a3))), (43, (vc (.int .i64 (a3.length : Int)))), (44, (vc (.int .i64 x15)))], [(1, (.box [(.c (.flt .f32 a0.Root.X.bits)), (.c (.flt .f32 a0.Root.Y.bits)), (.c (.flt .f32 a0.Root.Z.bits)), (.c (sl 4 cs_Turn a0.Turns))])), (2, (.box [(.c (.flt .f32 a1.Root.X.bits)), (.c (.flt .f32 a1.Root.Y.bits)), (.c (.flt .f32 a1.Root.Z.bits)), (.c (sl 4 cs_Turn a1.Turns))])), (3, (.box [(.c (.flt .f32 (default : F32).bits)), (.c (.flt .f32 (default : F32).bits)), (.c (.flt .f32 (default : F32).bits)), .nils])), (4, (.arr true x16.length 4 (gl cs_Turn x16))), (5, (.box [(.c (.flt .f32 v11.X.bits)), (.c (.flt .f32 v11.Y.bits)), (.c (.flt .f32 v11.Z.bits)), (.arr 4)]))]⟩ (Tt ∧ (0 ≤ x15 ∧ x15 < (a3.length : Int)) ∧ Tt ∧ T2 Tt) [] [2, 4, 5, 8, 10, 11, 12, 42, 43, 44] [1, 2, 3, 4, 5] ⟨tr, c18, tr, tr, tr, tr⟩ ?_
        refine thenQ_normal ?_
        refine AW.seq (AW.rA ⟨[(2, (vc (.flt .f32 a2.bits))), (4, (vp 1 0)), (5, (vp 2 0)), (8, (vp 3 0)), (10, (vp 5 0)), (11, (vc (.int .i64 x15))), (42, (vc (sl 1 csB a3))), (43, (vc (.int .i64 (a3.length : Int)))), (44, (vc (.int .i64 x15))), (49, (vc (.bool (a3.getD x15.toNat default))))], [(1, (.box [(.c (.flt .f32 a0.Root.X.bits)), (.c (.flt .f32 a0.Root.Y.bits)), (.c (.flt .f32 a0.Root.Z.bits)), (.c (sl 4 cs_Turn a0.Turns))])), (2, (.box [(.c (.flt .f32 a1.Root.X.bits)), (.c (.flt .f32 a1.Root.Y.bits)), (.c (.flt .f32 a1.Root.Z.bits)), (.c (sl 4 cs_Turn a1.Turns))])), (3, (.box [(.c (.flt .f32 (default : F32).bits)), (.c (.flt .f32 (default : F32).bits)), (.c (.flt .f32 (default : F32).bits)), .nils])), (4, (.arr true x16.length 4 (gl cs_Turn x16))), (5, (.box [(.c (.flt .f32 v11.X.bits)), (.c (.flt .f32 v11.Y.bits)), (.c (.flt .f32 v11.Z.bits)), (.arr 4)]))]⟩ (Tt ∧ Tt) [] [2, 4, 5, 8, 10, 11, 42, 43, 44, 49] [1, 2, 3, 4, 5] ⟨tr, tr⟩ (thenQ_normal ?_))
        rcases ite2_cases h with ⟨b19, h⟩ | ⟨b19, h⟩
        · refine AW.cond_t rfl b19 ?_
          obtain ⟨c20, h⟩ := chk_some h
          obtain ⟨c21, h⟩ := chk_some h
          obtain ⟨v22, e23, h⟩ := bind_some h
          obtain ⟨c24, h⟩ := chk_some h
          refine AW.dA ⟨[(2, (vc (.flt .f32 a2.bits))), (4, (vp 1 0)), (5, (vp 2 0)), (8, (vp 3 0)), (10, (vp 5 0)), (42, (vc (sl 1 csB a3))), (43, (vc (.int .i64 (a3.length : Int)))), (44, (vc (.int .i64 x15)))], [(1, (.box [(.c (.flt .f32 a0.Root.X.bits)), (.c (.flt .f32 a0.Root.Y.bits)), (.c (.flt .f32 a0.Root.Z.bits)), (.c (sl 4 cs_Turn a0.Turns))])), (2, (.box [(.c (.flt .f32 a1.Root.X.bits)), (.c (.flt .f32 a1.Root.Y.bits)), (.c (.flt .f32 a1.Root.Z.bits)), (.c (sl 4 cs_Turn a1.Turns))])), (3, (.box [(.c (.flt .f32 (default : F32).bits)), (.c (.flt .f32 (default : F32).bits)), (.c (.flt .f32 (default : F32).bits)), .nils])), (4, (.arr true (x16.set x15.toNat v22).length 4 (gl cs_Turn (x16.set x15.toNat v22)))), (5, (.box [(.c (.flt .f32 v11.X.bits)), (.c (.flt .f32 v11.Y.bits)), (.c (.flt .f32 v11.Z.bits)), (.arr 4)]))]⟩ ((T2 (T4 ((0 ≤ x15 ∧ x15 < (a0.Turns.length : Int)) ∧ T4 ((0 ≤ x15 ∧ x15 < (a1.Turns.length : Int)) ∧ T2 (((((Eqc (.flt .f32 ((a0.Turns.getD x15.toNat default).W).bits)) ∧ (Eqc (.flt .f32 ((a0.Turns.getD x15.toNat default).X).bits)) ∧ (Eqc (.flt .f32 ((a0.Turns.getD x15.toNat default).Y).bits)) ∧ (Eqc (.flt .f32 ((a0.Turns.getD x15.toNat default).Z).bits)) ∧ Tt) ∧ ((Eqc (.flt .f32 ((a1.Turns.getD x15.toNat default).W).bits)) ∧ (Eqc (.flt .f32 ((a1.Turns.getD x15.toNat default).X).bits)) ∧ (Eqc (.flt .f32 ((a1.Turns.getD x15.toNat default).Y).bits)) ∧ (Eqc (.flt .f32 ((a1.Turns.getD x15.toNat default).Z).bits)) ∧ Tt) ∧ (Eqc (.flt .f32 a2.bits)) ∧ Tt) ∧ CallOK Try.prog 22 [.agg (cs_Turn (a0.Turns.getD x15.toNat default)), .agg (cs_Turn (a1.Turns.getD x15.toNat default)), .one (.flt .f32 a2.bits)] [.agg (cs_Turn v22)]) ∧ (0 ≤ x15 ∧ x15 < (x16.length : Int)) ∧ Tt))))) ∧ (((x16.set x15.toNat v22).length = x16.length ∧ SetOb x16.length 4 x15.toNat 0 4 (gl cs_Turn x16) (gl cs_Turn (x16.set x15.toNat v22)) ∧ ((List.range 4).map fun j => (cs_Turn v22).getD (0 + j) .nilptr) = ((List.range 4).map fun j => gl cs_Turn (x16.set x15.toNat v22) x15.toNat (0 + j)) ∧ ((((.flt .f32 v22.W.bits) : C) = (.flt .f32 v22.W.bits) ∧ Tt) ∧ (((.flt .f32 v22.X.bits) : C) = (.flt .f32 v22.X.bits) ∧ Tt) ∧ (((.flt .f32 v22.Y.bits) : C) = (.flt .f32 v22.Y.bits) ∧ Tt) ∧ (((.flt .f32 v22.Z.bits) : C) = (.flt .f32 v22.Z.bits) ∧ Tt) ∧ Tt) ∧ (true = true → ∀ j, j < 4 → isSeq (gl cs_Turn x16 x15.toNat (0 + j)) = false ∧ isSeq (gl cs_Turn (x16.set x15.toNat v22) x15.toNat (0 + j)) = false)) ∧ Tt)) 16 [.no, .no, .no, .no, .no, .no, .no, .no, .no, .no, .no, .no, .no, .no, .call [.agg (cs_Turn (a0.Turns.getD x15.toNat default)), .agg (cs_Turn (a1.Turns.getD x15.toNat default)), .one (.flt .f32 a2.bits)] [.agg (cs_Turn v22)] [[.view, .view, .view, .view]], .no, .set (x16.set x15.toNat v22).length (gl cs_Turn (x16.set x15.toNat v22)) ((List.range 4).map fun j => (cs_Turn v22).getD (0 + j) .nilptr)] [2, 4, 5, 8, 10, 42, 43, 44] [1, 2, 3, 4, 5] ⟨⟨tr, tr, tr, tr, tr, tr, c20, tr, tr, tr, tr, c21, tr, tr, ⟨⟨⟨rfl, rfl, rfl, rfl, tr⟩, ⟨rfl, rfl, rfl, rfl, tr⟩, rfl, tr⟩, ok_impl_NearTurn K (a0.Turns.getD x15.toNat default) (a1.Turns.getD x15.toNat default) a2 v22 e23⟩, c24, tr⟩, ⟨⟨List.length_set, gl_set, (gl_atp (lt_of_bound c24)).symm, ⟨⟨rfl, tr⟩, ⟨rfl, tr⟩, ⟨rfl, tr⟩, ⟨rfl, tr⟩, tr⟩, (fun _ j hj => match j, hj with | 0, _ => ⟨rfl, rfl⟩ | 1, _ => ⟨rfl, rfl⟩ | 2, _ => ⟨rfl, rfl⟩ | 3, _ => ⟨rfl, rfl⟩)⟩, tr⟩⟩ ?_
          refine blockQ_normal ?_
          refine thenQ_normal ?_
          refine AW.rA ⟨[(2, (vc (.flt .f32 a2.bits))), (4, (vp 1 0)), (5, (vp 2 0)), (8, (vp 3 0)), (10, (vp 5 0)), (42, (vc (sl 1 csB a3))), (43, (vc (.int .i64 (a3.length : Int)))), (44, (vc (.int .i64 (IntKind.i64.wrap (x15 + (1 : Int))))))], [(1, (.box [(.c (.flt .f32 a0.Root.X.bits)), (.c (.flt .f32 a0.Root.Y.bits)), (.c (.flt .f32 a0.Root.Z.bits)), (.c (sl 4 cs_Turn a0.Turns))])), (2, (.box [(.c (.flt .f32 a1.Root.X.bits)), (.c (.flt .f32 a1.Root.Y.bits)), (.c (.flt .f32 a1.Root.Z.bits)), (.c (sl 4 cs_Turn a1.Turns))])), (3, (.box [(.c (.flt .f32 (default : F32).bits)), (.c (.flt .f32 (default : F32).bits)), (.c (.flt .f32 (default : F32).bits)), .nils])), (4, (.arr true (x16.set x15.toNat v22).length 4 (gl cs_Turn (x16.set x15.toNat v22)))), (5, (.box [(.c (.flt .f32 v11.X.bits)), (.c (.flt .f32 v11.Y.bits)), (.c (.flt .f32 v11.Z.bits)), (.arr 4)]))]⟩ (T2 Tt) [] [2, 4, 5, 8, 10, 42, 43, 44] [1, 2, 3, 4, 5] ⟨tr, tr, tr⟩ ?_
          exact loopQ_normal (k, (IntKind.i64.wrap (x15 + (1 : Int))), (x16.set x15.toNat v22)) h (Nat.lt_succ_self k) (Sub.keep [2, 4, 5, 8, 10, 42, 43, 44] [1, 2, 3, 4, 5] (by kernel_rfl) (by kernel_rfl))
        · refine AW.cond_f rfl b19 ?_
          refine AW.skip ?_
          refine blockQ_normal ?_
          refine thenQ_normal ?_
          refine AW.rA ⟨[(2, (vc (.flt .f32 a2.bits))), (4, (vp 1 0)), (5, (vp 2 0)), (8, (vp 3 0)), (10, (vp 5 0)), (42, (vc (sl 1 csB a3))), (43, (vc (.int .i64 (a3.length : Int)))), (44, (vc (.int .i64 (IntKind.i64.wrap (x15 + (1 : Int))))))], [(1, (.box [(.c (.flt .f32 a0.Root.X.bits)), (.c (.flt .f32 a0.Root.Y.bits)), (.c (.flt .f32 a0.Root.Z.bits)), (.c (sl 4 cs_Turn a0.Turns))])), (2, (.box [(.c (.flt .f32 a1.Root.X.bits)), (.c (.flt .f32 a1.Root.Y.bits)), (.c (.flt .f32 a1.Root.Z.bits)), (.c (sl 4 cs_Turn a1.Turns))])), (3, (.box [(.c (.flt .f32 (default : F32).bits)), (.c (.flt .f32 (default : F32).bits)), (.c (.flt .f32 (default : F32).bits)), .nils])), (4, (.arr true x16.length 4 (gl cs_Turn x16))), (5, (.box [(.c (.flt .f32 v11.X.bits)), (.c (.flt .f32 v11.Y.bits)), (.c (.flt .f32 v11.Z.bits)), (.arr 4)]))]⟩ (T2 Tt) [] [2, 4, 5, 8, 10, 42, 43, 44] [1, 2, 3, 4, 5] ⟨tr, tr, tr⟩ ?_
          exact loopQ_normal (k, (IntKind.i64.wrap (x15 + (1 : Int))), x16) h (Nat.lt_succ_self k) (Sub.keep [2, 4, 5, 8, 10, 42, 43, 44] [1, 2, 3, 4, 5] (by kernel_rfl) (by kernel_rfl))
      · refine AW.cond_f rfl b17 ?_
        refine AW.exit ?_
        refine thenQ_exit ?_
        refine loopQ_exit ?_
        refine blockQ_exit ?_
        refine thenQ_normal ?_
        refine AW.seq (AW.rA ⟨[(8, (vp 3 0)), (9, (vc (.bool true)))], [(3, (.box [(.c (.flt .f32 v11.X.bits)), (.c (.flt .f32 v11.Y.bits)), (.c (.flt .f32 v11.Z.bits)), (.arr 4)])), (4, (.arr true x16.length 4 (gl cs_Turn x16)))]⟩ (Tt ∧ T2 Tt) [] [8, 9] [3, 4] ⟨tr, tr, tr, tr⟩ (thenQ_normal ?_))
        refine AW.ret ?_
        replace h := some_eq h
        subst h
        exact ⟨.inr rfl, retOK_of [(.agg [(.c (.flt .f32 v11.X.bits)), (.c (.flt .f32 v11.Y.bits)), (.c (.flt .f32 v11.Z.bits)), (.arr 4)]), (.one (.c (.bool true)))] (by kernel_rfl) ⟨⟨⟨rfl, tr⟩, ⟨rfl, tr⟩, ⟨rfl, tr⟩, rfl, tr⟩, ⟨rfl, tr⟩, tr⟩ (of_decide_eq_true (by kernel_rfl))⟩
    · refine AW.cond_f rfl b10 ?_
      refine AW.skip ?_
      refine thenQ_normal ?_
      refine AW.seq ?_
      refine AW.seq (AW.rA ⟨[(2, (vc (.flt .f32 a2.bits))), (4, (vp 1 0)), (5, (vp 2 0)), (8, (vp 3 0)), (10, (vp 5 0)), (42, (vc (sl 1 csB a3))), (43, (vc (.int .i64 (a3.length : Int)))), (44, (vc (.int .i64 (0 : Int))))], [(1, (.box [(.c (.flt .f32 a0.Root.X.bits)), (.c (.flt .f32 a0.Root.Y.bits)), (.c (.flt .f32 a0.Root.Z.bits)), (.c (sl 4 cs_Turn a0.Turns))])), (2, (.box [(.c (.flt .f32 a1.Root.X.bits)), (.c (.flt .f32 a1.Root.Y.bits)), (.c (.flt .f32 a1.Root.Z.bits)), (.c (sl 4 cs_Turn a1.Turns))])), (3, (.box [(.c (.flt .f32 (default : F32).bits)), (.c (.flt .f32 (default : F32).bits)), (.c (.flt .f32 (default : F32).bits)), .nils])), (4, (.arr true v7.length 4 (gl cs_Turn v7))), (5, (.box [(.c (.flt .f32 a0.Root.X.bits)), (.c (.flt .f32 a0.Root.Y.bits)), (.c (.flt .f32 a0.Root.Z.bits)), (.arr 4)]))]⟩ (Tt ∧ T2 Tt) [] [2, 4, 5, 8, 10, 42, 43, 44] [1, 2, 3, 4, 5] ⟨tr, tr, tr, tr⟩ (thenQ_normal ?_))
      refine AW.block ?_
      refine AW.loopQ (σ := Nat × Int × (List Turn)) (fun p => ⟨[(2, (vc (.flt .f32 a2.bits))), (4, (vp 1 0)), (5, (vp 2 0)), (8, (vp 3 0)), (10, (vp 5 0)), (42, (vc (sl 1 csB a3))), (43, (vc (.int .i64 (a3.length : Int)))), (44, (vc (.int .i64 p.2.1)))], [(1, (.box [(.c (.flt .f32 a0.Root.X.bits)), (.c (.flt .f32 a0.Root.Y.bits)), (.c (.flt .f32 a0.Root.Z.bits)), (.c (sl 4 cs_Turn a0.Turns))])), (2, (.box [(.c (.flt .f32 a1.Root.X.bits)), (.c (.flt .f32 a1.Root.Y.bits)), (.c (.flt .f32 a1.Root.Z.bits)), (.c (sl 4 cs_Turn a1.Turns))])), (3, (.box [(.c (.flt .f32 (default : F32).bits)), (.c (.flt .f32 (default : F32).bits)), (.c (.flt .f32 (default : F32).bits)), .nils])), (4, (.arr true p.2.2.length 4 (gl cs_Turn p.2.2))), (5, (.box [(.c (.flt .f32 a0.Root.X.bits)), (.c (.flt .f32 a0.Root.Y.bits)), (.c (.flt .f32 a0.Root.Z.bits)), (.arr 4)]))]⟩) (fun p => impl_BlendPoses_l2 K a0 a1 a2 a3 p.1 p.2.1 p.2.2 = some o) (fun p => p.1) (K, (0 : Int), v7) h ?_
      clear h
      rintro ⟨k, x27, x28⟩ h
      replace h : impl_BlendPoses_l2 K a0 a1 a2 a3 k x27 x28 = some o := h
      show AW _ _ (⟨[(2, (vc (.flt .f32 a2.bits))), (4, (vp 1 0)), (5, (vp 2 0)), (8, (vp 3 0)), (10, (vp 5 0)), (42, (vc (sl 1 csB a3))), (43, (vc (.int .i64 (a3.length : Int)))), (44, (vc (.int .i64 x27)))], [(1, (.box [(.c (.flt .f32 a0.Root.X.bits)), (.c (.flt .f32 a0.Root.Y.bits)), (.c (.flt .f32 a0.Root.Z.bits)), (.c (sl 4 cs_Turn a0.Turns))])), (2, (.box [(.c (.flt .f32 a1.Root.X.bits)), (.c (.flt .f32 a1.Root.Y.bits)), (.c (.flt .f32 a1.Root.Z.bits)), (.c (sl 4 cs_Turn a1.Turns))])), (3, (.box [(.c (.flt .f32 (default : F32).bits)), (.c (.flt .f32 (default : F32).bits)), (.c (.flt .f32 (default : F32).bits)), .nils])), (4, (.arr true x28.length 4 (gl cs_Turn x28))), (5, (.box [(.c (.flt .f32 a0.Root.X.bits)), (.c (.flt .f32 a0.Root.Y.bits)), (.c (.flt .f32 a0.Root.Z.bits)), (.arr 4)]))]⟩ : St) _
      obtain _ | k := k
      · rw [impl_BlendPoses_l2] at h; cases h
      rw [impl_BlendPoses_l2] at h
      refine AW.seq (AW.rA ⟨[(2, (vc (.flt .f32 a2.bits))), (4, (vp 1 0)), (5, (vp 2 0)), (8, (vp 3 0)), (10, (vp 5 0)), (42, (vc (sl 1 csB a3))), (43, (vc (.int .i64 (a3.length : Int)))), (44, (vc (.int .i64 x27))), (45, (vc (.bool (decide (x27 < (a3.length : Int))))))], [(1, (.box [(.c (.flt .f32 a0.Root.X.bits)), (.c (.flt .f32 a0.Root.Y.bits)), (.c (.flt .f32 a0.Root.Z.bits)), (.c (sl 4 cs_Turn a0.Turns))])), (2, (.box [(.c (.flt .f32 a1.Root.X.bits)), (.c (.flt .f32 a1.Root.Y.bits)), (.c (.flt .f32 a1.Root.Z.bits)), (.c (sl 4 cs_Turn a1.Turns))])), (3, (.box [(.c (.flt .f32 (default : F32).bits)), (.c (.flt .f32 (default : F32).bits)), (.c (.flt .f32 (default : F32).bits)), .nils])), (4, (.arr true x28.length 4 (gl cs_Turn x28))), (5, (.box [(.c (.flt .f32 a0.Root.X.bits)), (.c (.flt .f32 a0.Root.Y.bits)), (.c (.flt .f32 a0.Root.Z.bits)), (.arr 4)]))]⟩ (Tt ∧ Tt) [] [2, 4, 5, 8, 10, 42, 43, 44, 45] [1, 2, 3, 4, 5] ⟨tr, tr⟩ (thenQ_normal ?_))
      refine AW.seq ?_
      rcases ite2_cases h with ⟨b29, h⟩ | ⟨b29, h⟩
      · refine AW.cond_t rfl b29 ?_
        refine AW.skip ?_
        refine thenQ_normal ?_
        refine AW.seq ?_
        refine AW.block ?_
        refine AW.seq ?_
        obtain ⟨c30, h⟩ := chk_some h
        refine AW.rA ⟨[(2, (vc (.flt .f32 a2.bits))), (4, (vp 1 0)), (5, (vp 2 0)), (8, (vp 3 0)), (10, (vp 5 0)), (11, (vc (.int .i64 x27))), (12, (vc (.bool (a3.getD x27.toNat default)))), (42, (vc (sl 1 csB a3))), (43, (vc (.int .i64 (a3.length : Int)))), (44, (vc (.int .i64 x27)))], [(1, (.box [(.c (.flt .f32 a0.Root.X.bits)), (.c (.flt .f32 a0.Root.Y.bits)), (.c (.flt .f32 a0.Root.Z.bits)), (.c (sl 4 cs_Turn a0.Turns))])), (2, (.box [(.c (.flt .f32 a1.Root.X.bits)), (.c (.flt .f32 a1.Root.Y.bits)), (.c (.flt .f32 a1.Root.Z.bits)), (.c (sl 4 cs_Turn a1.Turns))])), (3, (.box [(.c (.flt .f32 (default : F32).bits)), (.c (.flt .f32 (default : F32).bits)), (.c (.flt .f32 (default : F32).bits)), .nils])), (4, (.arr true x28.length 4 (gl cs_Turn x28))), (5, (.box [(.c (.flt .f32 a0.Root.X.bits)), (.c (.flt .f32 a0.Root.Y.bits)), (.c (.flt .f32 a0.Root.Z.bits)), (.arr 4)]))]⟩ (Tt ∧ (0 ≤ x27 ∧ x27 < (a3.length : Int)) ∧ Tt ∧ T2 Tt) [] [2, 4, 5, 8, 10, 11, 12, 42, 43, 44] [1, 2, 3, 4, 5] ⟨tr, c30, tr, tr, tr, tr⟩ ?_
        refine thenQ_normal ?_
        refine AW.seq (AW.rA ⟨[(2, (vc (.flt .f32 a2.bits))), (4, (vp 1 0)), (5, (vp 2 0)), (8, (vp 3 0)), (10, (vp 5 0)), (11, (vc (.int .i64 x27))), (42, (vc (sl 1 csB a3))), (43, (vc (.int .i64 (a3.length : Int)))), (44, (vc (.int .i64 x27))), (49, (vc (.bool (a3.getD x27.toNat default))))], [(1, (.box [(.c (.flt .f32 a0.Root.X.bits)), (.c (.flt .f32 a0.Root.Y.bits)), (.c (.flt .f32 a0.Root.Z.bits)), (.c (sl 4 cs_Turn a0.Turns))])), (2, (.box [(.c (.flt .f32 a1.Root.X.bits)), (.c (.flt .f32 a1.Root.Y.bits)), (.c (.flt .f32 a1.Root.Z.bits)), (.c (sl 4 cs_Turn a1.Turns))])), (3, (.box [(.c (.flt .f32 (default : F32).bits)), (.c (.flt .f32 (default : F32).bits)), (.c (.flt .f32 (default : F32).bits)), .nils])), (4, (.arr true x28.length 4 (gl cs_Turn x28))), (5, (.box [(.c (.flt .f32 a0.Root.X.bits)), (.c (.flt .f32 a0.Root.Y.bits)), (.c (.flt .f32 a0.Root.Z.bits)), (.arr 4)]))]⟩ (Tt ∧ Tt) [] [2, 4, 5, 8, 10, 11, 42, 43, 44, 49] [1, 2, 3, 4, 5] ⟨tr, tr⟩ (thenQ_normal ?_))
        rcases ite2_cases h with ⟨b31, h⟩ | ⟨b31, h⟩
        · refine AW.cond_t rfl b31 ?_
          obtain ⟨c32, h⟩ := chk_some h
          obtain ⟨c33, h⟩ := chk_some h
          obtain ⟨v34, e35, h⟩ := bind_some h
          obtain ⟨c36, h⟩ := chk_some h
          refine AW.dA ⟨[(2, (vc (.flt .f32 a2.bits))), (4, (vp 1 0)), (5, (vp 2 0)), (8, (vp 3 0)), (10, (vp 5 0)), (42, (vc (sl 1 csB a3))), (43, (vc (.int .i64 (a3.length : Int)))), (44, (vc (.int .i64 x27)))], [(1, (.box [(.c (.flt .f32 a0.Root.X.bits)), (.c (.flt .f32 a0.Root.Y.bits)), (.c (.flt .f32 a0.Root.Z.bits)), (.c (sl 4 cs_Turn a0.Turns))])), (2, (.box [(.c (.flt .f32 a1.Root.X.bits)), (.c (.flt .f32 a1.Root.Y.bits)), (.c (.flt .f32 a1.Root.Z.bits)), (.c (sl 4 cs_Turn a1.Turns))])), (3, (.box [(.c (.flt .f32 (default : F32).bits)), (.c (.flt .f32 (default : F32).bits)), (.c (.flt .f32 (default : F32).bits)), .nils])), (4, (.arr true (x28.set x27.toNat v34).length 4 (gl cs_Turn (x28.set x27.toNat v34)))), (5, (.box [(.c (.flt .f32 a0.Root.X.bits)), (.c (.flt .f32 a0.Root.Y.bits)), (.c (.flt .f32 a0.Root.Z.bits)), (.arr 4)]))]⟩ ((T2 (T4 ((0 ≤ x27 ∧ x27 < (a0.Turns.length : Int)) ∧ T4 ((0 ≤ x27 ∧ x27 < (a1.Turns.length : Int)) ∧ T2 (((((Eqc (.flt .f32 ((a0.Turns.getD x27.toNat default).W).bits)) ∧ (Eqc (.flt .f32 ((a0.Turns.getD x27.toNat default).X).bits)) ∧ (Eqc (.flt .f32 ((a0.Turns.getD x27.toNat default).Y).bits)) ∧ (Eqc (.flt .f32 ((a0.Turns.getD x27.toNat default).Z).bits)) ∧ Tt) ∧ ((Eqc (.flt .f32 ((a1.Turns.getD x27.toNat default).W).bits)) ∧ (Eqc (.flt .f32 ((a1.Turns.getD x27.toNat default).X).bits)) ∧ (Eqc (.flt .f32 ((a1.Turns.getD x27.toNat default).Y).bits)) ∧ (Eqc (.flt .f32 ((a1.Turns.getD x27.toNat default).Z).bits)) ∧ Tt) ∧ (Eqc (.flt .f32 a2.bits)) ∧ Tt) ∧ CallOK Try.prog 22 [.agg (cs_Turn (a0.Turns.getD x27.toNat default)), .agg (cs_Turn (a1.Turns.getD x27.toNat default)), .one (.flt .f32 a2.bits)] [.agg (cs_Turn v34)]) ∧ (0 ≤ x27 ∧ x27 < (x28.length : Int)) ∧ Tt))))) ∧ (((x28.set x27.toNat v34).length = x28.length ∧ SetOb x28.length 4 x27.toNat 0 4 (gl cs_Turn x28) (gl cs_Turn (x28.set x27.toNat v34)) ∧ ((List.range 4).map fun j => (cs_Turn v34).getD (0 + j) .nilptr) = ((List.range 4).map fun j => gl cs_Turn (x28.set x27.toNat v34) x27.toNat (0 + j)) ∧ ((((.flt .f32 v34.W.bits) : C) = (.flt .f32 v34.W.bits) ∧ Tt) ∧ (((.flt .f32 v34.X.bits) : C) = (.flt .f32 v34.X.bits) ∧ Tt) ∧ (((.flt .f32 v34.Y.bits) : C) = (.flt .f32 v34.Y.bits) ∧ Tt) ∧ (((.flt .f32 v34.Z.bits) : C) = (.flt .f32 v34.Z.bits) ∧ Tt) ∧ Tt) ∧ (true = true → ∀ j, j < 4 → isSeq (gl cs_Turn x28 x27.toNat (0 + j)) = false ∧ isSeq (gl cs_Turn (x28.set x27.toNat v34) x27.toNat (0 + j)) = false)) ∧ Tt)) 16 [.no, .no, .no, .no, .no, .no, .no, .no, .no, .no, .no, .no, .no, .no, .call [.agg (cs_Turn (a0.Turns.getD x27.toNat default)), .agg (cs_Turn (a1.Turns.getD x27.toNat default)), .one (.flt .f32 a2.bits)] [.agg (cs_Turn v34)] [[.view, .view, .view, .view]], .no, .set (x28.set x27.toNat v34).length (gl cs_Turn (x28.set x27.toNat v34)) ((List.range 4).map fun j => (cs_Turn v34).getD (0 + j) .nilptr)] [2, 4, 5, 8, 10, 42, 43, 44] [1, 2, 3, 4, 5] ⟨⟨tr, tr, tr, tr, tr, tr, c32, tr, tr, tr, tr, c33, tr, tr, ⟨⟨⟨rfl, rfl, rfl, rfl, tr⟩, ⟨rfl, rfl, rfl, rfl, tr⟩, rfl, tr⟩, ok_impl_NearTurn K (a0.Turns.getD x27.toNat default) (a1.Turns.getD x27.toNat default) a2 v34 e35⟩, c36, tr⟩, ⟨⟨List.length_set, gl_set, (gl_atp (lt_of_bound c36)).symm, ⟨⟨rfl, tr⟩, ⟨rfl, tr⟩, ⟨rfl, tr⟩, ⟨rfl, tr⟩, tr⟩, (fun _ j hj => match j, hj with | 0, _ => ⟨rfl, rfl⟩ | 1, _ => ⟨rfl, rfl⟩ | 2, _ => ⟨rfl, rfl⟩ | 3, _ => ⟨rfl, rfl⟩)⟩, tr⟩⟩ ?_
          refine blockQ_normal ?_
          refine thenQ_normal ?_
          refine AW.rA ⟨[(2, (vc (.flt .f32 a2.bits))), (4, (vp 1 0)), (5, (vp 2 0)), (8, (vp 3 0)), (10, (vp 5 0)), (42, (vc (sl 1 csB a3))), (43, (vc (.int .i64 (a3.length : Int)))), (44, (vc (.int .i64 (IntKind.i64.wrap (x27 + (1 : Int))))))], [(1, (.box [(.c (.flt .f32 a0.Root.X.bits)), (.c (.flt .f32 a0.Root.Y.bits)), (.c (.flt .f32 a0.Root.Z.bits)), (.c (sl 4 cs_Turn a0.Turns))])), (2, (.box [(.c (.flt .f32 a1.Root.X.bits)), (.c (.flt .f32 a1.Root.Y.bits)), (.c (.flt .f32 a1.Root.Z.bits)), (.c (sl 4 cs_Turn a1.Turns))])), (3, (.box [(.c (.flt .f32 (default : F32).bits)), (.c (.flt .f32 (default : F32).bits)), (.c (.flt .f32 (default : F32).bits)), .nils])), (4, (.arr true (x28.set x27.toNat v34).length 4 (gl cs_Turn (x28.set x27.toNat v34)))), (5, (.box [(.c (.flt .f32 a0.Root.X.bits)), (.c (.flt .f32 a0.Root.Y.bits)), (.c (.flt .f32 a0.Root.Z.bits)), (.arr 4)]))]⟩ (T2 Tt) [] [2, 4, 5, 8, 10, 42, 43, 44] [1, 2, 3, 4, 5] ⟨tr, tr, tr⟩ ?_
          exact loopQ_normal (k, (IntKind.i64.wrap (x27 + (1 : Int))), (x28.set x27.toNat v34)) h (Nat.lt_succ_self k) (Sub.keep [2, 4, 5, 8, 10, 42, 43, 44] [1, 2, 3, 4, 5] (by kernel_rfl) (by kernel_rfl))
        · refine AW.cond_f rfl b31 ?_
          refine AW.skip ?_
          refine blockQ_normal ?_
          refine thenQ_normal ?_
          refine AW.rA ⟨[(2, (vc (.flt .f32 a2.bits))), (4, (vp 1 0)), (5, (vp 2 0)), (8, (vp 3 0)), (10, (vp 5 0)), (42, (vc (sl 1 csB a3))), (43, (vc (.int .i64 (a3.length : Int)))), (44, (vc (.int .i64 (IntKind.i64.wrap (x27 + (1 : Int))))))], [(1, (.box [(.c (.flt .f32 a0.Root.X.bits)), (.c (.flt .f32 a0.Root.Y.bits)), (.c (.flt .f32 a0.Root.Z.bits)), (.c (sl 4 cs_Turn a0.Turns))])), (2, (.box [(.c (.flt .f32 a1.Root.X.bits)), (.c (.flt .f32 a1.Root.Y.bits)), (.c (.flt .f32 a1.Root.Z.bits)), (.c (sl 4 cs_Turn a1.Turns))])), (3, (.box [(.c (.flt .f32 (default : F32).bits)), (.c (.flt .f32 (default : F32).bits)), (.c (.flt .f32 (default : F32).bits)), .nils])), (4, (.arr true x28.length 4 (gl cs_Turn x28))), (5, (.box [(.c (.flt .f32 a0.Root.X.bits)), (.c (.flt .f32 a0.Root.Y.bits)), (.c (.flt .f32 a0.Root.Z.bits)), (.arr 4)]))]⟩ (T2 Tt) [] [2, 4, 5, 8, 10, 42, 43, 44] [1, 2, 3, 4, 5] ⟨tr, tr, tr⟩ ?_
          exact loopQ_normal (k, (IntKind.i64.wrap (x27 + (1 : Int))), x28) h (Nat.lt_succ_self k) (Sub.keep [2, 4, 5, 8, 10, 42, 43, 44] [1, 2, 3, 4, 5] (by kernel_rfl) (by kernel_rfl))
      · refine AW.cond_f rfl b29 ?_
        refine AW.exit ?_
        refine thenQ_exit ?_
        refine loopQ_exit ?_
        refine blockQ_exit ?_
        refine thenQ_normal ?_
        refine AW.seq (AW.rA ⟨[(8, (vp 3 0)), (9, (vc (.bool true)))], [(3, (.box [(.c (.flt .f32 a0.Root.X.bits)), (.c (.flt .f32 a0.Root.Y.bits)), (.c (.flt .f32 a0.Root.Z.bits)), (.arr 4)])), (4, (.arr true x28.length 4 (gl cs_Turn x28)))]⟩ (Tt ∧ T2 Tt) [] [8, 9] [3, 4] ⟨tr, tr, tr, tr⟩ (thenQ_normal ?_))
        refine AW.ret ?_
        replace h := some_eq h
        subst h
        exact ⟨.inr rfl, retOK_of [(.agg [(.c (.flt .f32 a0.Root.X.bits)), (.c (.flt .f32 a0.Root.Y.bits)), (.c (.flt .f32 a0.Root.Z.bits)), (.arr 4)]), (.one (.c (.bool true)))] (by kernel_rfl) ⟨⟨⟨rfl, tr⟩, ⟨rfl, tr⟩, ⟨rfl, tr⟩, rfl, tr⟩, ⟨rfl, tr⟩, tr⟩ (of_decide_eq_true (by kernel_rfl))⟩

/-! impl.InverseOf -/
def impl_InverseOf (_K : Nat) (a0 : Turn) : Option (Turn) :=
  some (Turn.mk a0.W (a0.X.neg) (a0.Y.neg) (a0.Z.neg))

theorem ok_impl_InverseOf (K : Nat) (a0 : Turn) (o : (Turn)) (h : impl_InverseOf K a0 = some o) : CallOK Try.prog 25 [.agg (cs_Turn a0)] [.agg (cs_Turn o)] := by
  refine callOK_of_AW Try.func25 rfl (by kernel_rfl) (Nat.le_of_ble_eq_true (by kernel_rfl)) ?_
  intro w0
  unfold impl_InverseOf at h
  refine AW.seq (AW.rA ⟨[(1, (vp 1 0)), (2, (vp 2 0))], [(1, (.box [(.c (.flt .f32 a0.W.bits)), (.c (.flt .f32 a0.X.bits)), (.c (.flt .f32 a0.Y.bits)), (.c (.flt .f32 a0.Z.bits))])), (2, (.box [(.c (.flt .f32 (default : F32).bits)), (.c (.flt .f32 (default : F32).bits)), (.c (.flt .f32 (default : F32).bits)), (.c (.flt .f32 (default : F32).bits))]))]⟩ (T2 Tt) [.box 1, .box 2] [1, 2] [1, 2] ⟨tr, tr, tr⟩ (thenQ_normal ?_))
  refine AW.seq (AW.rA ⟨[(2, (vp 2 0))], [(2, (.box [(.c (.flt .f32 a0.W.bits)), (.c (.flt .f32 (a0.X.neg).bits)), (.c (.flt .f32 (a0.Y.neg).bits)), (.c (.flt .f32 (a0.Z.neg).bits))]))]⟩ (Tt ∧ T4 (T4 (T4 Tt))) [] [2] [2] ⟨tr, tr, tr, tr, tr, tr, tr, tr, tr, tr, tr, tr, tr, tr⟩ (thenQ_normal ?_))
  refine AW.ret ?_
  replace h := some_eq h
  subst h
  exact ⟨.inr rfl, retOK_of [(.agg [(.c (.flt .f32 a0.W.bits)), (.c (.flt .f32 (a0.X.neg).bits)), (.c (.flt .f32 (a0.Y.neg).bits)), (.c (.flt .f32 (a0.Z.neg).bits))])] (by kernel_rfl) ⟨⟨⟨rfl, tr⟩, ⟨rfl, tr⟩, ⟨rfl, tr⟩, ⟨rfl, tr⟩, tr⟩, tr⟩ (of_decide_eq_true (by kernel_rfl))⟩

/-! impl.MulTurns -/
def impl_MulTurns (_K : Nat) (a0 : Turn) (a1 : Turn) : Option (Turn) :=
  some (Turn.mk ((((a0.W.mul a1.W).sub (a0.X.mul a1.X)).sub (a0.Y.mul a1.Y)).sub (a0.Z.mul a1.Z)) ((((a0.W.mul a1.X).add (a0.X.mul a1.W)).add (a0.Y.mul a1.Z)).sub (a0.Z.mul a1.Y)) ((((a0.W.mul a1.Y).sub (a0.X.mul a1.Z)).add (a0.Y.mul a1.W)).add (a0.Z.mul a1.X)) ((((a0.W.mul a1.Z).add (a0.X.mul a1.Y)).sub (a0.Y.mul a1.X)).add (a0.Z.mul a1.W)))

theorem ok_impl_MulTurns (K : Nat) (a0 : Turn) (a1 : Turn) (o : (Turn)) (h : impl_MulTurns K a0 a1 = some o) : CallOK Try.prog 24 [.agg (cs_Turn a0), .agg (cs_Turn a1)] [.agg (cs_Turn o)] := by
  refine callOK_of_AW Try.func24 rfl (by kernel_rfl) (Nat.le_of_ble_eq_true (by kernel_rfl)) ?_
  intro w0
  unfold impl_MulTurns at h
  refine AW.seq (AW.rA ⟨[(2, (vp 1 0)), (3, (vp 2 0)), (4, (vp 3 0))], [(1, (.box [(.c (.flt .f32 a0.W.bits)), (.c (.flt .f32 a0.X.bits)), (.c (.flt .f32 a0.Y.bits)), (.c (.flt .f32 a0.Z.bits))])), (2, (.box [(.c (.flt .f32 a1.W.bits)), (.c (.flt .f32 a1.X.bits)), (.c (.flt .f32 a1.Y.bits)), (.c (.flt .f32 a1.Z.bits))])), (3, (.box [(.c (.flt .f32 (default : F32).bits)), (.c (.flt .f32 (default : F32).bits)), (.c (.flt .f32 (default : F32).bits)), (.c (.flt .f32 (default : F32).bits))]))]⟩ (Tt ∧ T2 Tt) [.box 1, .box 2, .box 3] [2, 3, 4] [1, 2, 3] ⟨tr, tr, tr, tr⟩ (thenQ_normal ?_))
  refine AW.seq (AW.rA ⟨[(4, (vp 3 0))], [(3, (.box [(.c (.flt .f32 ((((a0.W.mul a1.W).sub (a0.X.mul a1.X)).sub (a0.Y.mul a1.Y)).sub (a0.Z.mul a1.Z)).bits)), (.c (.flt .f32 ((((a0.W.mul a1.X).add (a0.X.mul a1.W)).add (a0.Y.mul a1.Z)).sub (a0.Z.mul a1.Y)).bits)), (.c (.flt .f32 ((((a0.W.mul a1.Y).sub (a0.X.mul a1.Z)).add (a0.Y.mul a1.W)).add (a0.Z.mul a1.X)).bits)), (.c (.flt .f32 ((((a0.W.mul a1.Z).add (a0.X.mul a1.Y)).sub (a0.Y.mul a1.X)).add (a0.Z.mul a1.W)).bits))]))]⟩ (T2 (T4 (T4 (T4 (T4 (T4 (T4 (T4 (T4 (T4 (T4 (T4 (T4 (T4 (T4 (T4 (T4 (T4 (T4 (T4 (T4 (T4 (T4 (T4 Tt)))))))))))))))))))))))) [] [4] [3] ⟨tr, tr, tr, tr, tr, tr, tr, tr, tr, tr, tr, tr, tr, tr, tr, tr, tr, tr, tr, tr, tr, tr, tr, tr, tr, tr, tr, tr, tr, tr, tr, tr, tr, tr, tr, tr, tr, tr, tr, tr, tr, tr, tr, tr, tr, tr, tr, tr, tr, tr, tr, tr, tr, tr, tr, tr, tr, tr, tr, tr, tr, tr, tr, tr, tr, tr, tr, tr, tr, tr, tr, tr, tr, tr, tr, tr, tr, tr, tr, tr, tr, tr, tr, tr, tr, tr, tr, tr, tr, tr, tr, tr, tr, tr, tr⟩ (thenQ_normal ?_))
  refine AW.ret ?_
  replace h := some_eq h
  subst h
  exact ⟨.inr rfl, retOK_of [(.agg [(.c (.flt .f32 ((((a0.W.mul a1.W).sub (a0.X.mul a1.X)).sub (a0.Y.mul a1.Y)).sub (a0.Z.mul a1.Z)).bits)), (.c (.flt .f32 ((((a0.W.mul a1.X).add (a0.X.mul a1.W)).add (a0.Y.mul a1.Z)).sub (a0.Z.mul a1.Y)).bits)), (.c (.flt .f32 ((((a0.W.mul a1.Y).sub (a0.X.mul a1.Z)).add (a0.Y.mul a1.W)).add (a0.Z.mul a1.X)).bits)), (.c (.flt .f32 ((((a0.W.mul a1.Z).add (a0.X.mul a1.Y)).sub (a0.Y.mul a1.X)).add (a0.Z.mul a1.W)).bits))])] (by kernel_rfl) ⟨⟨⟨rfl, tr⟩, ⟨rfl, tr⟩, ⟨rfl, tr⟩, ⟨rfl, tr⟩, tr⟩, tr⟩ (of_decide_eq_true (by kernel_rfl))⟩

/-! impl.DifferenceOf -/
def impl_DifferenceOf_l1 (K : Nat) (a0 : Pose) (a1 : Pose) (v4 : (Vector)) : Nat → Int → (List Turn) → Option (Pose × Bool)
  | 0, _, _ => none
  | k + 1, x9, x10 => ite2 ((decide (x9 < (a1.Turns.length : Int)))) (chk (0 ≤ x9 ∧ x9 < (a1.Turns.length : Int)) (chk (0 ≤ x9 ∧ x9 < (a0.Turns.length : Int)) ((impl_InverseOf K (a0.Turns.getD x9.toNat default)).bind fun v14 => (impl_MulTurns K v14 (a1.Turns.getD x9.toNat default)).bind fun v16 => chk (0 ≤ x9 ∧ x9 < (x10.length : Int)) (impl_DifferenceOf_l1 K a0 a1 v4 k (IntKind.i64.wrap (x9 + (1 : Int))) (x10.set x9.toNat v16))))) (some ((Pose.mk v4 x10), true))

def impl_DifferenceOf (K : Nat) (a0 : Pose) (a1 : Pose) : Option (Pose × Bool) :=
  (impl_arePair K a0 a1).bind fun v1 => ite2 ((!v1)) (some ((Pose.mk (Vector.mk (default : F32) (default : F32) (default : F32)) ([] : (List Turn))), false)) ((impl_LessVectors K a1.Root a0.Root).bind fun v4 => chk (0 ≤ (a1.Turns.length : Int) ∧ (a1.Turns.length : Int).toNat * 16 ≤ 140737488355328) (impl_DifferenceOf_l1 K a0 a1 v4 K (0 : Int) (List.replicate (a1.Turns.length : Int).toNat (default : Turn))))

theorem ok_impl_DifferenceOf (K : Nat) (a0 : Pose) (a1 : Pose) (o : (Pose × Bool)) (h : impl_DifferenceOf K a0 a1 = some o) : CallOK Try.prog 8 [.agg (cs_Pose a0), .agg (cs_Pose a1)] [.agg (cs_Pose o.1), .one (.bool o.2)] := by
  refine callOK_of_AW Try.func8 rfl (by kernel_rfl) (Nat.le_of_ble_eq_true (by kernel_rfl)) ?_
  intro w0
  unfold impl_DifferenceOf at h
  refine AW.seq (AW.rA ⟨[(2, (vp 1 0)), (3, (vp 2 0)), (4, (vp 3 0))], [(1, (.box [(.c (.flt .f32 a0.Root.X.bits)), (.c (.flt .f32 a0.Root.Y.bits)), (.c (.flt .f32 a0.Root.Z.bits)), (.c (sl 4 cs_Turn a0.Turns))])), (2, (.box [(.c (.flt .f32 a1.Root.X.bits)), (.c (.flt .f32 a1.Root.Y.bits)), (.c (.flt .f32 a1.Root.Z.bits)), (.c (sl 4 cs_Turn a1.Turns))])), (3, (.box [(.c (.flt .f32 (default : F32).bits)), (.c (.flt .f32 (default : F32).bits)), (.c (.flt .f32 (default : F32).bits)), .nils]))]⟩ (T4 Tt) [.box 1, .box 2, .box 3] [2, 3, 4] [1, 2, 3] ⟨tr, tr, tr, tr, tr⟩ (thenQ_normal ?_))
  refine AW.seq ?_
  refine AW.seq ?_
  obtain ⟨v1, e2, h⟩ := bind_some h
  refine AW.rA ⟨[(2, (vp 1 0)), (3, (vp 2 0)), (4, (vp 3 0)), (12, (vc (.bool (!v1))))], [(1, (.box [(.c (.flt .f32 a0.Root.X.bits)), (.c (.flt .f32 a0.Root.Y.bits)), (.c (.flt .f32 a0.Root.Z.bits)), (.c (sl 4 cs_Turn a0.Turns))])), (2, (.box [(.c (.flt .f32 a1.Root.X.bits)), (.c (.flt .f32 a1.Root.Y.bits)), (.c (.flt .f32 a1.Root.Z.bits)), (.c (sl 4 cs_Turn a1.Turns))])), (3, (.box [(.c (.flt .f32 (default : F32).bits)), (.c (.flt .f32 (default : F32).bits)), (.c (.flt .f32 (default : F32).bits)), .nils]))]⟩ (T2 (((((Eqc (.flt .f32 a0.Root.X.bits)) ∧ (Eqc (.flt .f32 a0.Root.Y.bits)) ∧ (Eqc (.flt .f32 a0.Root.Z.bits)) ∧ (Eqc (sl 4 cs_Turn a0.Turns)) ∧ Tt) ∧ ((Eqc (.flt .f32 a1.Root.X.bits)) ∧ (Eqc (.flt .f32 a1.Root.Y.bits)) ∧ (Eqc (.flt .f32 a1.Root.Z.bits)) ∧ (Eqc (sl 4 cs_Turn a1.Turns)) ∧ Tt) ∧ Tt) ∧ CallOK Try.prog 19 [.agg (cs_Pose a0), .agg (cs_Pose a1)] [.one (.bool v1)]) ∧ Tt ∧ Tt)) [.no, .no, .call [.agg (cs_Pose a0), .agg (cs_Pose a1)] [.one (.bool v1)] [[.view]]] [2, 3, 4, 12] [1, 2, 3] ⟨tr, tr, ⟨⟨⟨rfl, rfl, rfl, rfl, tr⟩, ⟨rfl, rfl, rfl, rfl, tr⟩, tr⟩, ok_impl_arePair K a0 a1 v1 e2⟩, tr, tr⟩ ?_
  refine thenQ_normal ?_
  rcases ite2_cases h with ⟨b3, h⟩ | ⟨b3, h⟩
  · refine AW.cond_t rfl b3 ?_
    refine AW.seq (AW.rA ⟨[(4, (vp 3 0)), (5, (vc (.bool false)))], [(3, (.box [(.c (.flt .f32 (default : F32).bits)), (.c (.flt .f32 (default : F32).bits)), (.c (.flt .f32 (default : F32).bits)), .nils]))]⟩ (Tt ∧ T2 Tt) [] [4, 5] [3] ⟨tr, tr, tr, tr⟩ (thenQ_normal ?_))
    refine AW.ret ?_
    refine thenQ_ret ?_
    replace h := some_eq h
    subst h
    exact ⟨.inr rfl, retOK_of [(.agg [(.c (.flt .f32 (default : F32).bits)), (.c (.flt .f32 (default : F32).bits)), (.c (.flt .f32 (default : F32).bits)), .nils]), (.one (.c (.bool false)))] (by kernel_rfl) ⟨⟨⟨rfl, tr⟩, ⟨rfl, tr⟩, ⟨rfl, tr⟩, rfl, tr⟩, ⟨rfl, tr⟩, tr⟩ (of_decide_eq_true (by kernel_rfl))⟩
  · refine AW.cond_f rfl b3 ?_
    refine AW.skip ?_
    refine thenQ_normal ?_
    refine AW.seq ?_
    obtain ⟨v4, e5, h⟩ := bind_some h
    obtain ⟨c6, h⟩ := chk_some h
    refine AW.dA ⟨[(2, (vp 1 0)), (3, (vp 2 0)), (4, (vp 3 0)), (6, (vp 5 0))], [(1, (.box [(.c (.flt .f32 a0.Root.X.bits)), (.c (.flt .f32 a0.Root.Y.bits)), (.c (.flt .f32 a0.Root.Z.bits)), (.c (sl 4 cs_Turn a0.Turns))])), (2, (.box [(.c (.flt .f32 a1.Root.X.bits)), (.c (.flt .f32 a1.Root.Y.bits)), (.c (.flt .f32 a1.Root.Z.bits)), (.c (sl 4 cs_Turn a1.Turns))])), (3, (.box [(.c (.flt .f32 (default : F32).bits)), (.c (.flt .f32 (default : F32).bits)), (.c (.flt .f32 (default : F32).bits)), .nils])), (4, (.arr false (List.replicate (a1.Turns.length : Int).toNat (default : Turn)).length 4 (gl cs_Turn (List.replicate (a1.Turns.length : Int).toNat (default : Turn))))), (5, (.box [(.c (.flt .f32 v4.X.bits)), (.c (.flt .f32 v4.Y.bits)), (.c (.flt .f32 v4.Z.bits)), (.arr 4)]))]⟩ ((T4 (((((Eqc (.flt .f32 a1.Root.X.bits)) ∧ (Eqc (.flt .f32 a1.Root.Y.bits)) ∧ (Eqc (.flt .f32 a1.Root.Z.bits)) ∧ Tt) ∧ ((Eqc (.flt .f32 a0.Root.X.bits)) ∧ (Eqc (.flt .f32 a0.Root.Y.bits)) ∧ (Eqc (.flt .f32 a0.Root.Z.bits)) ∧ Tt) ∧ Tt) ∧ CallOK Try.prog 23 [.agg (cs_Vector a1.Root), .agg (cs_Vector a0.Root)] [.agg (cs_Vector v4)]) ∧ Tt ∧ T2 ((0 ≤ (a1.Turns.length : Int) ∧ (a1.Turns.length : Int) = (a1.Turns.length : Int) ∧ (((List.replicate (a1.Turns.length : Int).toNat (default : Turn)).length : Nat) : Int) = (a1.Turns.length : Int) ∧ (List.replicate (a1.Turns.length : Int).toNat (default : Turn)).length * 16 ≤ 140737488355328 ∧ ∀ i, i < (List.replicate (a1.Turns.length : Int).toNat (default : Turn)).length → zeroRow (fun _ => none) [(.c (.flt .f32 (default : F32).bits)), (.c (.flt .f32 (default : F32).bits)), (.c (.flt .f32 (default : F32).bits)), (.c (.flt .f32 (default : F32).bits))] (gl cs_Turn (List.replicate (a1.Turns.length : Int).toNat (default : Turn)) i)) ∧ T2 Tt))) ∧ (Tt ∧ Tt)) 11 [.no, .no, .no, .no, .call [.agg (cs_Vector a1.Root), .agg (cs_Vector a0.Root)] [.agg (cs_Vector v4)] [[.view, .view, .view]], .no, .no, .no, .objA 4 (List.replicate (a1.Turns.length : Int).toNat (default : Turn)).length (gl cs_Turn (List.replicate (a1.Turns.length : Int).toNat (default : Turn))), .no, .box 5] [2, 3, 4, 6] [1, 2, 3, 4, 5] ⟨⟨tr, tr, tr, tr, ⟨⟨⟨rfl, rfl, rfl, tr⟩, ⟨rfl, rfl, rfl, tr⟩, tr⟩, ok_impl_LessVectors K a1.Root a0.Root v4 e5⟩, tr, tr, tr, ⟨c6.1, rfl, len_rep c6.1, rep_bytes c6.2, fun i hi => gl_zero (cs := cs_Turn) (zs := [(.c (.flt .f32 (default : F32).bits)), (.c (.flt .f32 (default : F32).bits)), (.c (.flt .f32 (default : F32).bits)), (.c (.flt .f32 (default : F32).bits))]) (n := (a1.Turns.length : Int).toNat) ⟨⟨rfl, tr⟩, ⟨rfl, tr⟩, ⟨rfl, tr⟩, ⟨rfl, tr⟩, tr⟩ i (rep_lt hi)⟩, tr, tr, tr⟩, ⟨tr, tr⟩⟩ ?_
    refine thenQ_normal ?_
    refine AW.seq ?_
    refine AW.seq (AW.rA ⟨[(2, (vp 1 0)), (4, (vp 3 0)), (6, (vp 5 0)), (25, (vc (sl 4 cs_Turn a1.Turns))), (26, (vc (.int .i64 (a1.Turns.length : Int)))), (27, (vc (.int .i64 (0 : Int))))], [(1, (.box [(.c (.flt .f32 a0.Root.X.bits)), (.c (.flt .f32 a0.Root.Y.bits)), (.c (.flt .f32 a0.Root.Z.bits)), (.c (sl 4 cs_Turn a0.Turns))])), (3, (.box [(.c (.flt .f32 (default : F32).bits)), (.c (.flt .f32 (default : F32).bits)), (.c (.flt .f32 (default : F32).bits)), .nils])), (4, (.arr false (List.replicate (a1.Turns.length : Int).toNat (default : Turn)).length 4 (gl cs_Turn (List.replicate (a1.Turns.length : Int).toNat (default : Turn))))), (5, (.box [(.c (.flt .f32 v4.X.bits)), (.c (.flt .f32 v4.Y.bits)), (.c (.flt .f32 v4.Z.bits)), (.arr 4)]))]⟩ (T4 Tt) [] [2, 4, 6, 25, 26, 27] [1, 3, 4, 5] ⟨tr, tr, tr, tr, tr⟩ (thenQ_normal ?_))
    refine AW.block ?_
    refine AW.loopQ (σ := Nat × Int × (List Turn)) (fun p => ⟨[(2, (vp 1 0)), (4, (vp 3 0)), (6, (vp 5 0)), (25, (vc (sl 4 cs_Turn a1.Turns))), (26, (vc (.int .i64 (a1.Turns.length : Int)))), (27, (vc (.int .i64 p.2.1)))], [(1, (.box [(.c (.flt .f32 a0.Root.X.bits)), (.c (.flt .f32 a0.Root.Y.bits)), (.c (.flt .f32 a0.Root.Z.bits)), (.c (sl 4 cs_Turn a0.Turns))])), (3, (.box [(.c (.flt .f32 (default : F32).bits)), (.c (.flt .f32 (default : F32).bits)), (.c (.flt .f32 (default : F32).bits)), .nils])), (4, (.arr false p.2.2.length 4 (gl cs_Turn p.2.2))), (5, (.box [(.c (.flt .f32 v4.X.bits)), (.c (.flt .f32 v4.Y.bits)), (.c (.flt .f32 v4.Z.bits)), (.arr 4)]))]⟩) (fun p => impl_DifferenceOf_l1 K a0 a1 v4 p.1 p.2.1 p.2.2 = some o) (fun p => p.1) (K, (0 : Int), (List.replicate (a1.Turns.length : Int).toNat (default : Turn))) h ?_
    clear h
    rintro ⟨k, x9, x10⟩ h
    replace h : impl_DifferenceOf_l1 K a0 a1 v4 k x9 x10 = some o := h
    show AW _ _ (⟨[(2, (vp 1 0)), (4, (vp 3 0)), (6, (vp 5 0)), (25, (vc (sl 4 cs_Turn a1.Turns))), (26, (vc (.int .i64 (a1.Turns.length : Int)))), (27, (vc (.int .i64 x9)))], [(1, (.box [(.c (.flt .f32 a0.Root.X.bits)), (.c (.flt .f32 a0.Root.Y.bits)), (.c (.flt .f32 a0.Root.Z.bits)), (.c (sl 4 cs_Turn a0.Turns))])), (3, (.box [(.c (.flt .f32 (default : F32).bits)), (.c (.flt .f32 (default : F32).bits)), (.c (.flt .f32 (default : F32).bits)), .nils])), (4, (.arr false x10.length 4 (gl cs_Turn x10))), (5, (.box [(.c (.flt .f32 v4.X.bits)), (.c (.flt .f32 v4.Y.bits)), (.c (.flt .f32 v4.Z.bits)), (.arr 4)]))]⟩ : St) _
    obtain _ | k := k
    · rw [impl_DifferenceOf_l1] at h; cases h
    rw [impl_DifferenceOf_l1] at h
    refine AW.seq (AW.rA ⟨[(2, (vp 1 0)), (4, (vp 3 0)), (6, (vp 5 0)), (25, (vc (sl 4 cs_Turn a1.Turns))), (26, (vc (.int .i64 (a1.Turns.length : Int)))), (27, (vc (.int .i64 x9))), (28, (vc (.bool (decide (x9 < (a1.Turns.length : Int))))))], [(1, (.box [(.c (.flt .f32 a0.Root.X.bits)), (.c (.flt .f32 a0.Root.Y.bits)), (.c (.flt .f32 a0.Root.Z.bits)), (.c (sl 4 cs_Turn a0.Turns))])), (3, (.box [(.c (.flt .f32 (default : F32).bits)), (.c (.flt .f32 (default : F32).bits)), (.c (.flt .f32 (default : F32).bits)), .nils])), (4, (.arr false x10.length 4 (gl cs_Turn x10))), (5, (.box [(.c (.flt .f32 v4.X.bits)), (.c (.flt .f32 v4.Y.bits)), (.c (.flt .f32 v4.Z.bits)), (.arr 4)]))]⟩ (Tt ∧ Tt) [] [2, 4, 6, 25, 26, 27, 28] [1, 3, 4, 5] ⟨tr, tr⟩ (thenQ_normal ?_))
    refine AW.seq ?_
    rcases ite2_cases h with ⟨b11, h⟩ | ⟨b11, h⟩
    · refine AW.cond_t rfl b11 ?_
      refine AW.skip ?_
      refine thenQ_normal ?_
      refine AW.seq ?_
      refine AW.block ?_
      refine AW.seq ?_
      obtain ⟨c12, h⟩ := chk_some h
      refine AW.rA ⟨[(2, (vp 1 0)), (4, (vp 3 0)), (6, (vp 5 0)), (7, (vc (.int .i64 x9))), (8, (vp 8 0)), (25, (vc (sl 4 cs_Turn a1.Turns))), (26, (vc (.int .i64 (a1.Turns.length : Int)))), (27, (vc (.int .i64 x9)))], [(1, (.box [(.c (.flt .f32 a0.Root.X.bits)), (.c (.flt .f32 a0.Root.Y.bits)), (.c (.flt .f32 a0.Root.Z.bits)), (.c (sl 4 cs_Turn a0.Turns))])), (3, (.box [(.c (.flt .f32 (default : F32).bits)), (.c (.flt .f32 (default : F32).bits)), (.c (.flt .f32 (default : F32).bits)), .nils])), (4, (.arr false x10.length 4 (gl cs_Turn x10))), (5, (.box [(.c (.flt .f32 v4.X.bits)), (.c (.flt .f32 v4.Y.bits)), (.c (.flt .f32 v4.Z.bits)), (.arr 4)])), (8, (.box [(.c (.flt .f32 ((a1.Turns.getD x9.toNat default).W).bits)), (.c (.flt .f32 ((a1.Turns.getD x9.toNat default).X).bits)), (.c (.flt .f32 ((a1.Turns.getD x9.toNat default).Y).bits)), (.c (.flt .f32 ((a1.Turns.getD x9.toNat default).Z).bits))]))]⟩ (Tt ∧ (0 ≤ x9 ∧ x9 < (a1.Turns.length : Int)) ∧ T4 Tt) [.no, .no, .no, .box 8] [2, 4, 6, 7, 8, 25, 26, 27] [1, 3, 4, 5, 8] ⟨tr, c12, tr, tr, tr, tr, tr⟩ ?_
      refine thenQ_normal ?_
      obtain ⟨c13, h⟩ := chk_some h
      obtain ⟨v14, e15, h⟩ := bind_some h
      obtain ⟨v16, e17, h⟩ := bind_some h
      obtain ⟨c18, h⟩ := chk_some h
      refine AW.dA ⟨[(2, (vp 1 0)), (4, (vp 3 0)), (6, (vp 5 0)), (25, (vc (sl 4 cs_Turn a1.Turns))), (26, (vc (.int .i64 (a1.Turns.length : Int)))), (27, (vc (.int .i64 x9)))], [(1, (.box [(.c (.flt .f32 a0.Root.X.bits)), (.c (.flt .f32 a0.Root.Y.bits)), (.c (.flt .f32 a0.Root.Z.bits)), (.c (sl 4 cs_Turn a0.Turns))])), (3, (.box [(.c (.flt .f32 (default : F32).bits)), (.c (.flt .f32 (default : F32).bits)), (.c (.flt .f32 (default : F32).bits)), .nils])), (4, (.arr false (x10.set x9.toNat v16).length 4 (gl cs_Turn (x10.set x9.toNat v16)))), (5, (.box [(.c (.flt .f32 v4.X.bits)), (.c (.flt .f32 v4.Y.bits)), (.c (.flt .f32 v4.Z.bits)), (.arr 4)]))]⟩ ((T2 (T4 ((0 ≤ x9 ∧ x9 < (a0.Turns.length : Int)) ∧ Tt ∧ ((((Eqc (.flt .f32 ((a0.Turns.getD x9.toNat default).W).bits)) ∧ (Eqc (.flt .f32 ((a0.Turns.getD x9.toNat default).X).bits)) ∧ (Eqc (.flt .f32 ((a0.Turns.getD x9.toNat default).Y).bits)) ∧ (Eqc (.flt .f32 ((a0.Turns.getD x9.toNat default).Z).bits)) ∧ Tt) ∧ Tt) ∧ CallOK Try.prog 25 [.agg (cs_Turn (a0.Turns.getD x9.toNat default))] [.agg (cs_Turn v14)]) ∧ Tt ∧ ((((Eqc (.flt .f32 v14.W.bits)) ∧ (Eqc (.flt .f32 v14.X.bits)) ∧ (Eqc (.flt .f32 v14.Y.bits)) ∧ (Eqc (.flt .f32 v14.Z.bits)) ∧ Tt) ∧ ((Eqc (.flt .f32 ((a1.Turns.getD x9.toNat default).W).bits)) ∧ (Eqc (.flt .f32 ((a1.Turns.getD x9.toNat default).X).bits)) ∧ (Eqc (.flt .f32 ((a1.Turns.getD x9.toNat default).Y).bits)) ∧ (Eqc (.flt .f32 ((a1.Turns.getD x9.toNat default).Z).bits)) ∧ Tt) ∧ Tt) ∧ CallOK Try.prog 24 [.agg (cs_Turn v14), .agg (cs_Turn (a1.Turns.getD x9.toNat default))] [.agg (cs_Turn v16)]) ∧ (0 ≤ x9 ∧ x9 < (x10.length : Int)) ∧ Tt))) ∧ (((x10.set x9.toNat v16).length = x10.length ∧ SetOb x10.length 4 x9.toNat 0 4 (gl cs_Turn x10) (gl cs_Turn (x10.set x9.toNat v16)) ∧ ((List.range 4).map fun j => (cs_Turn v16).getD (0 + j) .nilptr) = ((List.range 4).map fun j => gl cs_Turn (x10.set x9.toNat v16) x9.toNat (0 + j)) ∧ ((((.flt .f32 v16.W.bits) : C) = (.flt .f32 v16.W.bits) ∧ Tt) ∧ (((.flt .f32 v16.X.bits) : C) = (.flt .f32 v16.X.bits) ∧ Tt) ∧ (((.flt .f32 v16.Y.bits) : C) = (.flt .f32 v16.Y.bits) ∧ Tt) ∧ (((.flt .f32 v16.Z.bits) : C) = (.flt .f32 v16.Z.bits) ∧ Tt) ∧ Tt) ∧ (false = true → ∀ j, j < 4 → isSeq (gl cs_Turn x10 x9.toNat (0 + j)) = false ∧ isSeq (gl cs_Turn (x10.set x9.toNat v16) x9.toNat (0 + j)) = false)) ∧ Tt)) 12 [.no, .no, .no, .no, .no, .no, .no, .no, .call [.agg (cs_Turn (a0.Turns.getD x9.toNat default))] [.agg (cs_Turn v14)] [[.view, .view, .view, .view]], .no, .call [.agg (cs_Turn v14), .agg (cs_Turn (a1.Turns.getD x9.toNat default))] [.agg (cs_Turn v16)] [[.view, .view, .view, .view]], .no, .set (x10.set x9.toNat v16).length (gl cs_Turn (x10.set x9.toNat v16)) ((List.range 4).map fun j => (cs_Turn v16).getD (0 + j) .nilptr)] [2, 4, 6, 25, 26, 27] [1, 3, 4, 5] ⟨⟨tr, tr, tr, tr, tr, tr, c13, tr, ⟨⟨⟨rfl, rfl, rfl, rfl, tr⟩, tr⟩, ok_impl_InverseOf K (a0.Turns.getD x9.toNat default) v14 e15⟩, tr, ⟨⟨⟨rfl, rfl, rfl, rfl, tr⟩, ⟨rfl, rfl, rfl, rfl, tr⟩, tr⟩, ok_impl_MulTurns K v14 (a1.Turns.getD x9.toNat default) v16 e17⟩, c18, tr⟩, ⟨⟨List.length_set, gl_set, (gl_atp (lt_of_bound c18)).symm, ⟨⟨rfl, tr⟩, ⟨rfl, tr⟩, ⟨rfl, tr⟩, ⟨rfl, tr⟩, tr⟩, (fun h => nomatch h)⟩, tr⟩⟩ ?_
      refine blockQ_normal ?_
      refine thenQ_normal ?_
      refine AW.rA ⟨[(2, (vp 1 0)), (4, (vp 3 0)), (6, (vp 5 0)), (25, (vc (sl 4 cs_Turn a1.Turns))), (26, (vc (.int .i64 (a1.Turns.length : Int)))), (27, (vc (.int .i64 (IntKind.i64.wrap (x9 + (1 : Int))))))], [(1, (.box [(.c (.flt .f32 a0.Root.X.bits)), (.c (.flt .f32 a0.Root.Y.bits)), (.c (.flt .f32 a0.Root.Z.bits)), (.c (sl 4 cs_Turn a0.Turns))])), (3, (.box [(.c (.flt .f32 (default : F32).bits)), (.c (.flt .f32 (default : F32).bits)), (.c (.flt .f32 (default : F32).bits)), .nils])), (4, (.arr false (x10.set x9.toNat v16).length 4 (gl cs_Turn (x10.set x9.toNat v16)))), (5, (.box [(.c (.flt .f32 v4.X.bits)), (.c (.flt .f32 v4.Y.bits)), (.c (.flt .f32 v4.Z.bits)), (.arr 4)]))]⟩ (T2 Tt) [] [2, 4, 6, 25, 26, 27] [1, 3, 4, 5] ⟨tr, tr, tr⟩ ?_
      exact loopQ_normal (k, (IntKind.i64.wrap (x9 + (1 : Int))), (x10.set x9.toNat v16)) h (Nat.lt_succ_self k) (Sub.keep [2, 4, 6, 25, 26, 27] [1, 3, 4, 5] (by kernel_rfl) (by kernel_rfl))
    · refine AW.cond_f rfl b11 ?_
      refine AW.exit ?_
      refine thenQ_exit ?_
      refine loopQ_exit ?_
      refine blockQ_exit ?_
      refine thenQ_normal ?_
      refine AW.seq (AW.rA ⟨[(4, (vp 3 0)), (5, (vc (.bool true)))], [(3, (.box [(.c (.flt .f32 v4.X.bits)), (.c (.flt .f32 v4.Y.bits)), (.c (.flt .f32 v4.Z.bits)), (.arr 4)])), (4, (.arr false x10.length 4 (gl cs_Turn x10)))]⟩ (Tt ∧ T2 Tt) [] [4, 5] [3, 4] ⟨tr, tr, tr, tr⟩ (thenQ_normal ?_))
      refine AW.ret ?_
      replace h := some_eq h
      subst h
      exact ⟨.inr rfl, retOK_of [(.agg [(.c (.flt .f32 v4.X.bits)), (.c (.flt .f32 v4.Y.bits)), (.c (.flt .f32 v4.Z.bits)), (.arr 4)]), (.one (.c (.bool true)))] (by kernel_rfl) ⟨⟨⟨rfl, tr⟩, ⟨rfl, tr⟩, ⟨rfl, tr⟩, rfl, tr⟩, ⟨rfl, tr⟩, tr⟩ (of_decide_eq_true (by kernel_rfl))⟩

/-! impl.AddDifference -/
def impl_AddDifference_l1 (K : Nat) (a0 : Pose) (a1 : Pose) (v4 : (Vector)) : Nat → Int → (List Turn) → Option (Pose × Bool)
  | 0, _, _ => none
  | k + 1, x9, x10 => ite2 ((decide (x9 < (a1.Turns.length : Int)))) (chk (0 ≤ x9 ∧ x9 < (a1.Turns.length : Int)) (chk (0 ≤ x9 ∧ x9 < (a0.Turns.length : Int)) ((impl_MulTurns K (a0.Turns.getD x9.toNat default) (a1.Turns.getD x9.toNat default)).bind fun v14 => chk (0 ≤ x9 ∧ x9 < (x10.length : Int)) (impl_AddDifference_l1 K a0 a1 v4 k (IntKind.i64.wrap (x9 + (1 : Int))) (x10.set x9.toNat v14))))) (some ((Pose.mk v4 x10), true))

def impl_AddDifference (K : Nat) (a0 : Pose) (a1 : Pose) : Option (Pose × Bool) :=
  (impl_arePair K a0 a1).bind fun v1 => ite2 ((!v1)) (some ((Pose.mk (Vector.mk (default : F32) (default : F32) (default : F32)) ([] : (List Turn))), false)) ((impl_AddVectors K a0.Root a1.Root).bind fun v4 => chk (0 ≤ (a1.Turns.length : Int) ∧ (a1.Turns.length : Int).toNat * 16 ≤ 140737488355328) (impl_AddDifference_l1 K a0 a1 v4 K (0 : Int) (List.replicate (a1.Turns.length : Int).toNat (default : Turn))))

theorem ok_impl_AddDifference (K : Nat) (a0 : Pose) (a1 : Pose) (o : (Pose × Bool)) (h : impl_AddDifference K a0 a1 = some o) : CallOK Try.prog 9 [.agg (cs_Pose a0), .agg (cs_Pose a1)] [.agg (cs_Pose o.1), .one (.bool o.2)] := by
  refine callOK_of_AW Try.func9 rfl (by kernel_rfl) (Nat.le_of_ble_eq_true (by kernel_rfl)) ?_
  intro w0
  unfold impl_AddDifference at h
  refine AW.seq (AW.rA ⟨[(2, (vp 1 0)), (3, (vp 2 0)), (4, (vp 3 0))], [(1, (.box [(.c (.flt .f32 a0.Root.X.bits)), (.c (.flt .f32 a0.Root.Y.bits)), (.c (.flt .f32 a0.Root.Z.bits)), (.c (sl 4 cs_Turn a0.Turns))])), (2, (.box [(.c (.flt .f32 a1.Root.X.bits)), (.c (.flt .f32 a1.Root.Y.bits)), (.c (.flt .f32 a1.Root.Z.bits)), (.c (sl 4 cs_Turn a1.Turns))])), (3, (.box [(.c (.flt .f32 (default : F32).bits)), (.c (.flt .f32 (default : F32).bits)), (.c (.flt .f32 (default : F32).bits)), .nils]))]⟩ (T4 Tt) [.box 1, .box 2, .box 3] [2, 3, 4] [1, 2, 3] ⟨tr, tr, tr, tr, tr⟩ (thenQ_normal ?_))
  refine AW.seq ?_
  refine AW.seq ?_
  obtain ⟨v1, e2, h⟩ := bind_some h
  refine AW.rA ⟨[(2, (vp 1 0)), (3, (vp 2 0)), (4, (vp 3 0)), (12, (vc (.bool (!v1))))], [(1, (.box [(.c (.flt .f32 a0.Root.X.bits)), (.c (.flt .f32 a0.Root.Y.bits)), (.c (.flt .f32 a0.Root.Z.bits)), (.c (sl 4 cs_Turn a0.Turns))])), (2, (.box [(.c (.flt .f32 a1.Root.X.bits)), (.c (.flt .f32 a1.Root.Y.bits)), (.c (.flt .f32 a1.Root.Z.bits)), (.c (sl 4 cs_Turn a1.Turns))])), (3, (.box [(.c (.flt .f32 (default : F32).bits)), (.c (.flt .f32 (default : F32).bits)), (.c (.flt .f32 (default : F32).bits)), .nils]))]⟩ (T2 (((((Eqc (.flt .f32 a0.Root.X.bits)) ∧ (Eqc (.flt .f32 a0.Root.Y.bits)) ∧ (Eqc (.flt .f32 a0.Root.Z.bits)) ∧ (Eqc (sl 4 cs_Turn a0.Turns)) ∧ Tt) ∧ ((Eqc (.flt .f32 a1.Root.X.bits)) ∧ (Eqc (.flt .f32 a1.Root.Y.bits)) ∧ (Eqc (.flt .f32 a1.Root.Z.bits)) ∧ (Eqc (sl 4 cs_Turn a1.Turns)) ∧ Tt) ∧ Tt) ∧ CallOK Try.prog 19 [.agg (cs_Pose a0), .agg (cs_Pose a1)] [.one (.bool v1)]) ∧ Tt ∧ Tt)) [.no, .no, .call [.agg (cs_Pose a0), .agg (cs_Pose a1)] [.one (.bool v1)] [[.view]]] [2, 3, 4, 12] [1, 2, 3] ⟨tr, tr, ⟨⟨⟨rfl, rfl, rfl, rfl, tr⟩, ⟨rfl, rfl, rfl, rfl, tr⟩, tr⟩, ok_impl_arePair K a0 a1 v1 e2⟩, tr, tr⟩ ?_
  refine thenQ_normal ?_
  rcases ite2_cases h with ⟨b3, h⟩ | ⟨b3, h⟩
  · refine AW.cond_t rfl b3 ?_
    refine AW.seq (AW.rA ⟨[(4, (vp 3 0)), (5, (vc (.bool false)))], [(3, (.box [(.c (.flt .f32 (default : F32).bits)), (.c (.flt .f32 (default : F32).bits)), (.c (.flt .f32 (default : F32).bits)), .nils]))]⟩ (Tt ∧ T2 Tt) [] [4, 5] [3] ⟨tr, tr, tr, tr⟩ (thenQ_normal ?_))
    refine AW.ret ?_
    refine thenQ_ret ?_
    replace h := some_eq h
    subst h
    exact ⟨.inr rfl, retOK_of [(.agg [(.c (.flt .f32 (default : F32).bits)), (.c (.flt .f32 (default : F32).bits)), (.c (.flt .f32 (default : F32).bits)), .nils]), (.one (.c (.bool false)))] (by kernel_rfl) ⟨⟨⟨rfl, tr⟩, ⟨rfl, tr⟩, ⟨rfl, tr⟩, rfl, tr⟩, ⟨rfl, tr⟩, tr⟩ (of_decide_eq_true (by kernel_rfl))⟩
  · refine AW.cond_f rfl b3 ?_
    refine AW.skip ?_
    refine thenQ_normal ?_
    refine AW.seq ?_
    obtain ⟨v4, e5, h⟩ := bind_some h
    obtain ⟨c6, h⟩ := chk_some h
    refine AW.dA ⟨[(2, (vp 1 0)), (3, (vp 2 0)), (4, (vp 3 0)), (6, (vp 5 0))], [(1, (.box [(.c (.flt .f32 a0.Root.X.bits)), (.c (.flt .f32 a0.Root.Y.bits)), (.c (.flt .f32 a0.Root.Z.bits)), (.c (sl 4 cs_Turn a0.Turns))])), (2, (.box [(.c (.flt .f32 a1.Root.X.bits)), (.c (.flt .f32 a1.Root.Y.bits)), (.c (.flt .f32 a1.Root.Z.bits)), (.c (sl 4 cs_Turn a1.Turns))])), (3, (.box [(.c (.flt .f32 (default : F32).bits)), (.c (.flt .f32 (default : F32).bits)), (.c (.flt .f32 (default : F32).bits)), .nils])), (4, (.arr false (List.replicate (a1.Turns.length : Int).toNat (default : Turn)).length 4 (gl cs_Turn (List.replicate (a1.Turns.length : Int).toNat (default : Turn))))), (5, (.box [(.c (.flt .f32 v4.X.bits)), (.c (.flt .f32 v4.Y.bits)), (.c (.flt .f32 v4.Z.bits)), (.arr 4)]))]⟩ ((T4 (((((Eqc (.flt .f32 a0.Root.X.bits)) ∧ (Eqc (.flt .f32 a0.Root.Y.bits)) ∧ (Eqc (.flt .f32 a0.Root.Z.bits)) ∧ Tt) ∧ ((Eqc (.flt .f32 a1.Root.X.bits)) ∧ (Eqc (.flt .f32 a1.Root.Y.bits)) ∧ (Eqc (.flt .f32 a1.Root.Z.bits)) ∧ Tt) ∧ Tt) ∧ CallOK Try.prog 26 [.agg (cs_Vector a0.Root), .agg (cs_Vector a1.Root)] [.agg (cs_Vector v4)]) ∧ Tt ∧ T2 ((0 ≤ (a1.Turns.length : Int) ∧ (a1.Turns.length : Int) = (a1.Turns.length : Int) ∧ (((List.replicate (a1.Turns.length : Int).toNat (default : Turn)).length : Nat) : Int) = (a1.Turns.length : Int) ∧ (List.replicate (a1.Turns.length : Int).toNat (default : Turn)).length * 16 ≤ 140737488355328 ∧ ∀ i, i < (List.replicate (a1.Turns.length : Int).toNat (default : Turn)).length → zeroRow (fun _ => none) [(.c (.flt .f32 (default : F32).bits)), (.c (.flt .f32 (default : F32).bits)), (.c (.flt .f32 (default : F32).bits)), (.c (.flt .f32 (default : F32).bits))] (gl cs_Turn (List.replicate (a1.Turns.length : Int).toNat (default : Turn)) i)) ∧ T2 Tt))) ∧ (Tt ∧ Tt)) 11 [.no, .no, .no, .no, .call [.agg (cs_Vector a0.Root), .agg (cs_Vector a1.Root)] [.agg (cs_Vector v4)] [[.view, .view, .view]], .no, .no, .no, .objA 4 (List.replicate (a1.Turns.length : Int).toNat (default : Turn)).length (gl cs_Turn (List.replicate (a1.Turns.length : Int).toNat (default : Turn))), .no, .box 5] [2, 3, 4, 6] [1, 2, 3, 4, 5] ⟨⟨tr, tr, tr, tr, ⟨⟨⟨rfl, rfl, rfl, tr⟩, ⟨rfl, rfl, rfl, tr⟩, tr⟩, ok_impl_AddVectors K a0.Root a1.Root v4 e5⟩, tr, tr, tr, ⟨c6.1, rfl, len_rep c6.1, rep_bytes c6.2, fun i hi => gl_zero (cs := cs_Turn) (zs := [(.c (.flt .f32 (default : F32).bits)), (.c (.flt .f32 (default : F32).bits)), (.c (.flt .f32 (default : F32).bits)), (.c (.flt .f32 (default : F32).bits))]) (n := (a1.Turns.length : Int).toNat) ⟨⟨rfl, tr⟩, ⟨rfl, tr⟩, ⟨rfl, tr⟩, ⟨rfl, tr⟩, tr⟩ i (rep_lt hi)⟩, tr, tr, tr⟩, ⟨tr, tr⟩⟩ ?_
    refine thenQ_normal ?_
    refine AW.seq ?_
    refine AW.seq (AW.rA ⟨[(2, (vp 1 0)), (4, (vp 3 0)), (6, (vp 5 0)), (25, (vc (sl 4 cs_Turn a1.Turns))), (26, (vc (.int .i64 (a1.Turns.length : Int)))), (27, (vc (.int .i64 (0 : Int))))], [(1, (.box [(.c (.flt .f32 a0.Root.X.bits)), (.c (.flt .f32 a0.Root.Y.bits)), (.c (.flt .f32 a0.Root.Z.bits)), (.c (sl 4 cs_Turn a0.Turns))])), (3, (.box [(.c (.flt .f32 (default : F32).bits)), (.c (.flt .f32 (default : F32).bits)), (.c (.flt .f32 (default : F32).bits)), .nils])), (4, (.arr false (List.replicate (a1.Turns.length : Int).toNat (default : Turn)).length 4 (gl cs_Turn (List.replicate (a1.Turns.length : Int).toNat (default : Turn))))), (5, (.box [(.c (.flt .f32 v4.X.bits)), (.c (.flt .f32 v4.Y.bits)), (.c (.flt .f32 v4.Z.bits)), (.arr 4)]))]⟩ (T4 Tt) [] [2, 4, 6, 25, 26, 27] [1, 3, 4, 5] ⟨tr, tr, tr, tr, tr⟩ (thenQ_normal ?_))
    refine AW.block ?_
    refine AW.loopQ (σ := Nat × Int × (List Turn)) (fun p => ⟨[(2, (vp 1 0)), (4, (vp 3 0)), (6, (vp 5 0)), (25, (vc (sl 4 cs_Turn a1.Turns))), (26, (vc (.int .i64 (a1.Turns.length : Int)))), (27, (vc (.int .i64 p.2.1)))], [(1, (.box [(.c (.flt .f32 a0.Root.X.bits)), (.c (.flt .f32 a0.Root.Y.bits)), (.c (.flt .f32 a0.Root.Z.bits)), (.c (sl 4 cs_Turn a0.Turns))])), (3, (.box [(.c (.flt .f32 (default : F32).bits)), (.c (.flt .f32 (default : F32).bits)), (.c (.flt .f32 (default : F32).bits)), .nils])), (4, (.arr false p.2.2.length 4 (gl cs_Turn p.2.2))), (5, (.box [(.c (.flt .f32 v4.X.bits)), (.c (.flt .f32 v4.Y.bits)), (.c (.flt .f32 v4.Z.bits)), (.arr 4)]))]⟩) (fun p => impl_AddDifference_l1 K a0 a1 v4 p.1 p.2.1 p.2.2 = some o) (fun p => p.1) (K, (0 : Int), (List.replicate (a1.Turns.length : Int).toNat (default : Turn))) h ?_
    clear h
    rintro ⟨k, x9, x10⟩ h
    replace h : impl_AddDifference_l1 K a0 a1 v4 k x9 x10 = some o := h
    show AW _ _ (⟨[(2, (vp 1 0)), (4, (vp 3 0)), (6, (vp 5 0)), (25, (vc (sl 4 cs_Turn a1.Turns))), (26, (vc (.int .i64 (a1.Turns.length : Int)))), (27, (vc (.int .i64 x9)))], [(1, (.box [(.c (.flt .f32 a0.Root.X.bits)), (.c (.flt .f32 a0.Root.Y.bits)), (.c (.flt .f32 a0.Root.Z.bits)), (.c (sl 4 cs_Turn a0.Turns))])), (3, (.box [(.c (.flt .f32 (default : F32).bits)), (.c (.flt .f32 (default : F32).bits)), (.c (.flt .f32 (default : F32).bits)), .nils])), (4, (.arr false x10.length 4 (gl cs_Turn x10))), (5, (.box [(.c (.flt .f32 v4.X.bits)), (.c (.flt .f32 v4.Y.bits)), (.c (.flt .f32 v4.Z.bits)), (.arr 4)]))]⟩ : St) _
    obtain _ | k := k
    · rw [impl_AddDifference_l1] at h; cases h
    rw [impl_AddDifference_l1] at h
    refine AW.seq (AW.rA ⟨[(2, (vp 1 0)), (4, (vp 3 0)), (6, (vp 5 0)), (25, (vc (sl 4 cs_Turn a1.Turns))), (26, (vc (.int .i64 (a1.Turns.length : Int)))), (27, (vc (.int .i64 x9))), (28, (vc (.bool (decide (x9 < (a1.Turns.length : Int))))))], [(1, (.box [(.c (.flt .f32 a0.Root.X.bits)), (.c (.flt .f32 a0.Root.Y.bits)), (.c (.flt .f32 a0.Root.Z.bits)), (.c (sl 4 cs_Turn a0.Turns))])), (3, (.box [(.c (.flt .f32 (default : F32).bits)), (.c (.flt .f32 (default : F32).bits)), (.c (.flt .f32 (default : F32).bits)), .nils])), (4, (.arr false x10.length 4 (gl cs_Turn x10))), (5, (.box [(.c (.flt .f32 v4.X.bits)), (.c (.flt .f32 v4.Y.bits)), (.c (.flt .f32 v4.Z.bits)), (.arr 4)]))]⟩ (Tt ∧ Tt) [] [2, 4, 6, 25, 26, 27, 28] [1, 3, 4, 5] ⟨tr, tr⟩ (thenQ_normal ?_))
    refine AW.seq ?_
    rcases ite2_cases h with ⟨b11, h⟩ | ⟨b11, h⟩
    · refine AW.cond_t rfl b11 ?_
      refine AW.skip ?_
      refine thenQ_normal ?_
      refine AW.seq ?_
      refine AW.block ?_
      refine AW.seq ?_
      obtain ⟨c12, h⟩ := chk_some h
      refine AW.rA ⟨[(2, (vp 1 0)), (4, (vp 3 0)), (6, (vp 5 0)), (7, (vc (.int .i64 x9))), (8, (vp 8 0)), (25, (vc (sl 4 cs_Turn a1.Turns))), (26, (vc (.int .i64 (a1.Turns.length : Int)))), (27, (vc (.int .i64 x9)))], [(1, (.box [(.c (.flt .f32 a0.Root.X.bits)), (.c (.flt .f32 a0.Root.Y.bits)), (.c (.flt .f32 a0.Root.Z.bits)), (.c (sl 4 cs_Turn a0.Turns))])), (3, (.box [(.c (.flt .f32 (default : F32).bits)), (.c (.flt .f32 (default : F32).bits)), (.c (.flt .f32 (default : F32).bits)), .nils])), (4, (.arr false x10.length 4 (gl cs_Turn x10))), (5, (.box [(.c (.flt .f32 v4.X.bits)), (.c (.flt .f32 v4.Y.bits)), (.c (.flt .f32 v4.Z.bits)), (.arr 4)])), (8, (.box [(.c (.flt .f32 ((a1.Turns.getD x9.toNat default).W).bits)), (.c (.flt .f32 ((a1.Turns.getD x9.toNat default).X).bits)), (.c (.flt .f32 ((a1.Turns.getD x9.toNat default).Y).bits)), (.c (.flt .f32 ((a1.Turns.getD x9.toNat default).Z).bits))]))]⟩ (Tt ∧ (0 ≤ x9 ∧ x9 < (a1.Turns.length : Int)) ∧ T4 Tt) [.no, .no, .no, .box 8] [2, 4, 6, 7, 8, 25, 26, 27] [1, 3, 4, 5, 8] ⟨tr, c12, tr, tr, tr, tr, tr⟩ ?_
      refine thenQ_normal ?_
      obtain ⟨c13, h⟩ := chk_some h
      obtain ⟨v14, e15, h⟩ := bind_some h
      obtain ⟨c16, h⟩ := chk_some h
      refine AW.dA ⟨[(2, (vp 1 0)), (4, (vp 3 0)), (6, (vp 5 0)), (25, (vc (sl 4 cs_Turn a1.Turns))), (26, (vc (.int .i64 (a1.Turns.length : Int)))), (27, (vc (.int .i64 x9)))], [(1, (.box [(.c (.flt .f32 a0.Root.X.bits)), (.c (.flt .f32 a0.Root.Y.bits)), (.c (.flt .f32 a0.Root.Z.bits)), (.c (sl 4 cs_Turn a0.Turns))])), (3, (.box [(.c (.flt .f32 (default : F32).bits)), (.c (.flt .f32 (default : F32).bits)), (.c (.flt .f32 (default : F32).bits)), .nils])), (4, (.arr false (x10.set x9.toNat v14).length 4 (gl cs_Turn (x10.set x9.toNat v14)))), (5, (.box [(.c (.flt .f32 v4.X.bits)), (.c (.flt .f32 v4.Y.bits)), (.c (.flt .f32 v4.Z.bits)), (.arr 4)]))]⟩ ((T2 (T4 ((0 ≤ x9 ∧ x9 < (a0.Turns.length : Int)) ∧ T2 (((((Eqc (.flt .f32 ((a0.Turns.getD x9.toNat default).W).bits)) ∧ (Eqc (.flt .f32 ((a0.Turns.getD x9.toNat default).X).bits)) ∧ (Eqc (.flt .f32 ((a0.Turns.getD x9.toNat default).Y).bits)) ∧ (Eqc (.flt .f32 ((a0.Turns.getD x9.toNat default).Z).bits)) ∧ Tt) ∧ ((Eqc (.flt .f32 ((a1.Turns.getD x9.toNat default).W).bits)) ∧ (Eqc (.flt .f32 ((a1.Turns.getD x9.toNat default).X).bits)) ∧ (Eqc (.flt .f32 ((a1.Turns.getD x9.toNat default).Y).bits)) ∧ (Eqc (.flt .f32 ((a1.Turns.getD x9.toNat default).Z).bits)) ∧ Tt) ∧ Tt) ∧ CallOK Try.prog 24 [.agg (cs_Turn (a0.Turns.getD x9.toNat default)), .agg (cs_Turn (a1.Turns.getD x9.toNat default))] [.agg (cs_Turn v14)]) ∧ (0 ≤ x9 ∧ x9 < (x10.length : Int)) ∧ Tt)))) ∧ (((x10.set x9.toNat v14).length = x10.length ∧ SetOb x10.length 4 x9.toNat 0 4 (gl cs_Turn x10) (gl cs_Turn (x10.set x9.toNat v14)) ∧ ((List.range 4).map fun j => (cs_Turn v14).getD (0 + j) .nilptr) = ((List.range 4).map fun j => gl cs_Turn (x10.set x9.toNat v14) x9.toNat (0 + j)) ∧ ((((.flt .f32 v14.W.bits) : C) = (.flt .f32 v14.W.bits) ∧ Tt) ∧ (((.flt .f32 v14.X.bits) : C) = (.flt .f32 v14.X.bits) ∧ Tt) ∧ (((.flt .f32 v14.Y.bits) : C) = (.flt .f32 v14.Y.bits) ∧ Tt) ∧ (((.flt .f32 v14.Z.bits) : C) = (.flt .f32 v14.Z.bits) ∧ Tt) ∧ Tt) ∧ (false = true → ∀ j, j < 4 → isSeq (gl cs_Turn x10 x9.toNat (0 + j)) = false ∧ isSeq (gl cs_Turn (x10.set x9.toNat v14) x9.toNat (0 + j)) = false)) ∧ Tt)) 11 [.no, .no, .no, .no, .no, .no, .no, .no, .no, .call [.agg (cs_Turn (a0.Turns.getD x9.toNat default)), .agg (cs_Turn (a1.Turns.getD x9.toNat default))] [.agg (cs_Turn v14)] [[.view, .view, .view, .view]], .no, .set (x10.set x9.toNat v14).length (gl cs_Turn (x10.set x9.toNat v14)) ((List.range 4).map fun j => (cs_Turn v14).getD (0 + j) .nilptr)] [2, 4, 6, 25, 26, 27] [1, 3, 4, 5] ⟨⟨tr, tr, tr, tr, tr, tr, c13, tr, tr, ⟨⟨⟨rfl, rfl, rfl, rfl, tr⟩, ⟨rfl, rfl, rfl, rfl, tr⟩, tr⟩, ok_impl_MulTurns K (a0.Turns.getD x9.toNat default) (a1.Turns.getD x9.toNat default) v14 e15⟩, c16, tr⟩, ⟨⟨List.length_set, gl_set, (gl_atp (lt_of_bound c16)).symm, ⟨⟨rfl, tr⟩, ⟨rfl, tr⟩, ⟨rfl, tr⟩, ⟨rfl, tr⟩, tr⟩, (fun h => nomatch h)⟩, tr⟩⟩ ?_
      refine blockQ_normal ?_
      refine thenQ_normal ?_
      refine AW.rA ⟨[(2, (vp 1 0)), (4, (vp 3 0)), (6, (vp 5 0)), (25, (vc (sl 4 cs_Turn a1.Turns))), (26, (vc (.int .i64 (a1.Turns.length : Int)))), (27, (vc (.int .i64 (IntKind.i64.wrap (x9 + (1 : Int))))))], [(1, (.box [(.c (.flt .f32 a0.Root.X.bits)), (.c (.flt .f32 a0.Root.Y.bits)), (.c (.flt .f32 a0.Root.Z.bits)), (.c (sl 4 cs_Turn a0.Turns))])), (3, (.box [(.c (.flt .f32 (default : F32).bits)), (.c (.flt .f32 (default : F32).bits)), (.c (.flt .f32 (default : F32).bits)), .nils])), (4, (.arr false (x10.set x9.toNat v14).length 4 (gl cs_Turn (x10.set x9.toNat v14)))), (5, (.box [(.c (.flt .f32 v4.X.bits)), (.c (.flt .f32 v4.Y.bits)), (.c (.flt .f32 v4.Z.bits)), (.arr 4)]))]⟩ (T2 Tt) [] [2, 4, 6, 25, 26, 27] [1, 3, 4, 5] ⟨tr, tr, tr⟩ ?_
      exact loopQ_normal (k, (IntKind.i64.wrap (x9 + (1 : Int))), (x10.set x9.toNat v14)) h (Nat.lt_succ_self k) (Sub.keep [2, 4, 6, 25, 26, 27] [1, 3, 4, 5] (by kernel_rfl) (by kernel_rfl))
    · refine AW.cond_f rfl b11 ?_
      refine AW.exit ?_
      refine thenQ_exit ?_
      refine loopQ_exit ?_
      refine blockQ_exit ?_
      refine thenQ_normal ?_
      refine AW.seq (AW.rA ⟨[(4, (vp 3 0)), (5, (vc (.bool true)))], [(3, (.box [(.c (.flt .f32 v4.X.bits)), (.c (.flt .f32 v4.Y.bits)), (.c (.flt .f32 v4.Z.bits)), (.arr 4)])), (4, (.arr false x10.length 4 (gl cs_Turn x10)))]⟩ (Tt ∧ T2 Tt) [] [4, 5] [3, 4] ⟨tr, tr, tr, tr⟩ (thenQ_normal ?_))
      refine AW.ret ?_
      replace h := some_eq h
      subst h
      exact ⟨.inr rfl, retOK_of [(.agg [(.c (.flt .f32 v4.X.bits)), (.c (.flt .f32 v4.Y.bits)), (.c (.flt .f32 v4.Z.bits)), (.arr 4)]), (.one (.c (.bool true)))] (by kernel_rfl) ⟨⟨⟨rfl, tr⟩, ⟨rfl, tr⟩, ⟨rfl, tr⟩, rfl, tr⟩, ⟨rfl, tr⟩, tr⟩ (of_decide_eq_true (by kernel_rfl))⟩

/-! math/bits.Mul64 -/
def bits_Mul64 (_K : Nat) (a0 : Int) (a1 : Int) : Option (Int × Int) :=
  chk (0 ≤ (32 : Int)) (some ((IntKind.u64.wrap ((IntKind.u64.wrap ((IntKind.u64.wrap ((a0.fdiv (2 ^ (min (32 : Int).toNat (IntKind.bits .u64)))) * (a1.fdiv (2 ^ (min (32 : Int).toNat (IntKind.bits .u64)))))) + ((IntKind.u64.wrap ((IntKind.u64.wrap ((a0.fdiv (2 ^ (min (32 : Int).toNat (IntKind.bits .u64)))) * (bits .and .u64 a1 (4294967295 : Int)))) + ((IntKind.u64.wrap ((bits .and .u64 a0 (4294967295 : Int)) * (bits .and .u64 a1 (4294967295 : Int)))).fdiv (2 ^ (min (32 : Int).toNat (IntKind.bits .u64)))))).fdiv (2 ^ (min (32 : Int).toNat (IntKind.bits .u64)))))) + ((IntKind.u64.wrap ((bits .and .u64 (IntKind.u64.wrap ((IntKind.u64.wrap ((a0.fdiv (2 ^ (min (32 : Int).toNat (IntKind.bits .u64)))) * (bits .and .u64 a1 (4294967295 : Int)))) + ((IntKind.u64.wrap ((bits .and .u64 a0 (4294967295 : Int)) * (bits .and .u64 a1 (4294967295 : Int)))).fdiv (2 ^ (min (32 : Int).toNat (IntKind.bits .u64)))))) (4294967295 : Int)) + (IntKind.u64.wrap ((bits .and .u64 a0 (4294967295 : Int)) * (a1.fdiv (2 ^ (min (32 : Int).toNat (IntKind.bits .u64)))))))).fdiv (2 ^ (min (32 : Int).toNat (IntKind.bits .u64)))))), (IntKind.u64.wrap (a0 * a1))))

theorem ok_bits_Mul64 (K : Nat) (a0 : Int) (a1 : Int) (o : (Int × Int)) (h : bits_Mul64 K a0 a1 = some o) : CallOK Try.prog 55 [.one (.int .u64 a0), .one (.int .u64 a1)] [.one (.int .u64 o.1), .one (.int .u64 o.2)] := by
  refine callOK_of_AW Try.func55 rfl (by kernel_rfl) (Nat.le_of_ble_eq_true (by kernel_rfl)) ?_
  intro w0
  unfold bits_Mul64 at h
  refine AW.seq (AW.rA ⟨[(0, (vc (.int .u64 a0))), (1, (vc (.int .u64 a1)))], []⟩ (T2 Tt) [] [0, 1] [] ⟨tr, tr, tr⟩ (thenQ_normal ?_))
  refine AW.seq (AW.rA ⟨[(0, (vc (.int .u64 a0))), (1, (vc (.int .u64 a1))), (6, (vc (.int .u64 (bits .and .u64 a0 (4294967295 : Int)))))], []⟩ (Tt ∧ T2 Tt) [] [0, 1, 6] [] ⟨tr, tr, tr, tr⟩ (thenQ_normal ?_))
  refine AW.seq ?_
  obtain ⟨c1, h⟩ := chk_some h
  refine AW.rA ⟨[(0, (vc (.int .u64 a0))), (1, (vc (.int .u64 a1))), (6, (vc (.int .u64 (bits .and .u64 a0 (4294967295 : Int))))), (7, (vc (.int .u64 (a0.fdiv (2 ^ (min (32 : Int).toNat (IntKind.bits .u64)))))))], []⟩ (Tt ∧ (0 ≤ (32 : Int)) ∧ Tt ∧ Tt) [] [0, 1, 6, 7] [] ⟨tr, c1, tr, tr⟩ ?_
  refine thenQ_normal ?_
  refine AW.seq (AW.rA ⟨[(0, (vc (.int .u64 a0))), (1, (vc (.int .u64 a1))), (6, (vc (.int .u64 (bits .and .u64 a0 (4294967295 : Int))))), (7, (vc (.int .u64 (a0.fdiv (2 ^ (min (32 : Int).toNat (IntKind.bits .u64))))))), (8, (vc (.int .u64 (bits .and .u64 a1 (4294967295 : Int)))))], []⟩ (Tt ∧ T2 Tt) [] [0, 1, 6, 7, 8] [] ⟨tr, tr, tr, tr⟩ (thenQ_normal ?_))
  refine AW.seq (AW.rA ⟨[(0, (vc (.int .u64 a0))), (1, (vc (.int .u64 a1))), (6, (vc (.int .u64 (bits .and .u64 a0 (4294967295 : Int))))), (7, (vc (.int .u64 (a0.fdiv (2 ^ (min (32 : Int).toNat (IntKind.bits .u64))))))), (8, (vc (.int .u64 (bits .and .u64 a1 (4294967295 : Int))))), (9, (vc (.int .u64 (a1.fdiv (2 ^ (min (32 : Int).toNat (IntKind.bits .u64)))))))], []⟩ (Tt ∧ (0 ≤ (32 : Int)) ∧ Tt ∧ Tt) [] [0, 1, 6, 7, 8, 9] [] ⟨tr, c1, tr, tr⟩ (thenQ_normal ?_))
  refine AW.seq (AW.rA ⟨[(0, (vc (.int .u64 a0))), (1, (vc (.int .u64 a1))), (6, (vc (.int .u64 (bits .and .u64 a0 (4294967295 : Int))))), (7, (vc (.int .u64 (a0.fdiv (2 ^ (min (32 : Int).toNat (IntKind.bits .u64))))))), (8, (vc (.int .u64 (bits .and .u64 a1 (4294967295 : Int))))), (9, (vc (.int .u64 (a1.fdiv (2 ^ (min (32 : Int).toNat (IntKind.bits .u64))))))), (10, (vc (.int .u64 (IntKind.u64.wrap ((bits .and .u64 a0 (4294967295 : Int)) * (bits .and .u64 a1 (4294967295 : Int)))))))], []⟩ (T4 Tt) [] [0, 1, 6, 7, 8, 9, 10] [] ⟨tr, tr, tr, tr, tr⟩ (thenQ_normal ?_))
  refine AW.seq (AW.rA ⟨[(0, (vc (.int .u64 a0))), (1, (vc (.int .u64 a1))), (6, (vc (.int .u64 (bits .and .u64 a0 (4294967295 : Int))))), (7, (vc (.int .u64 (a0.fdiv (2 ^ (min (32 : Int).toNat (IntKind.bits .u64))))))), (9, (vc (.int .u64 (a1.fdiv (2 ^ (min (32 : Int).toNat (IntKind.bits .u64))))))), (11, (vc (.int .u64 (IntKind.u64.wrap ((IntKind.u64.wrap ((a0.fdiv (2 ^ (min (32 : Int).toNat (IntKind.bits .u64)))) * (bits .and .u64 a1 (4294967295 : Int)))) + ((IntKind.u64.wrap ((bits .and .u64 a0 (4294967295 : Int)) * (bits .and .u64 a1 (4294967295 : Int)))).fdiv (2 ^ (min (32 : Int).toNat (IntKind.bits .u64)))))))))], []⟩ (T4 ((0 ≤ (32 : Int)) ∧ T2 Tt)) [] [0, 1, 6, 7, 9, 11] [] ⟨tr, tr, tr, tr, c1, tr, tr, tr⟩ (thenQ_normal ?_))
  refine AW.seq (AW.rA ⟨[(0, (vc (.int .u64 a0))), (1, (vc (.int .u64 a1))), (6, (vc (.int .u64 (bits .and .u64 a0 (4294967295 : Int))))), (7, (vc (.int .u64 (a0.fdiv (2 ^ (min (32 : Int).toNat (IntKind.bits .u64))))))), (9, (vc (.int .u64 (a1.fdiv (2 ^ (min (32 : Int).toNat (IntKind.bits .u64))))))), (11, (vc (.int .u64 (IntKind.u64.wrap ((IntKind.u64.wrap ((a0.fdiv (2 ^ (min (32 : Int).toNat (IntKind.bits .u64)))) * (bits .and .u64 a1 (4294967295 : Int)))) + ((IntKind.u64.wrap ((bits .and .u64 a0 (4294967295 : Int)) * (bits .and .u64 a1 (4294967295 : Int)))).fdiv (2 ^ (min (32 : Int).toNat (IntKind.bits .u64))))))))), (12, (vc (.int .u64 (bits .and .u64 (IntKind.u64.wrap ((IntKind.u64.wrap ((a0.fdiv (2 ^ (min (32 : Int).toNat (IntKind.bits .u64)))) * (bits .and .u64 a1 (4294967295 : Int)))) + ((IntKind.u64.wrap ((bits .and .u64 a0 (4294967295 : Int)) * (bits .and .u64 a1 (4294967295 : Int)))).fdiv (2 ^ (min (32 : Int).toNat (IntKind.bits .u64)))))) (4294967295 : Int)))))], []⟩ (Tt ∧ T2 Tt) [] [0, 1, 6, 7, 9, 11, 12] [] ⟨tr, tr, tr, tr⟩ (thenQ_normal ?_))
  refine AW.seq (AW.rA ⟨[(0, (vc (.int .u64 a0))), (1, (vc (.int .u64 a1))), (6, (vc (.int .u64 (bits .and .u64 a0 (4294967295 : Int))))), (7, (vc (.int .u64 (a0.fdiv (2 ^ (min (32 : Int).toNat (IntKind.bits .u64))))))), (9, (vc (.int .u64 (a1.fdiv (2 ^ (min (32 : Int).toNat (IntKind.bits .u64))))))), (12, (vc (.int .u64 (bits .and .u64 (IntKind.u64.wrap ((IntKind.u64.wrap ((a0.fdiv (2 ^ (min (32 : Int).toNat (IntKind.bits .u64)))) * (bits .and .u64 a1 (4294967295 : Int)))) + ((IntKind.u64.wrap ((bits .and .u64 a0 (4294967295 : Int)) * (bits .and .u64 a1 (4294967295 : Int)))).fdiv (2 ^ (min (32 : Int).toNat (IntKind.bits .u64)))))) (4294967295 : Int))))), (13, (vc (.int .u64 ((IntKind.u64.wrap ((IntKind.u64.wrap ((a0.fdiv (2 ^ (min (32 : Int).toNat (IntKind.bits .u64)))) * (bits .and .u64 a1 (4294967295 : Int)))) + ((IntKind.u64.wrap ((bits .and .u64 a0 (4294967295 : Int)) * (bits .and .u64 a1 (4294967295 : Int)))).fdiv (2 ^ (min (32 : Int).toNat (IntKind.bits .u64)))))).fdiv (2 ^ (min (32 : Int).toNat (IntKind.bits .u64)))))))], []⟩ (Tt ∧ (0 ≤ (32 : Int)) ∧ Tt ∧ Tt) [] [0, 1, 6, 7, 9, 12, 13] [] ⟨tr, c1, tr, tr⟩ (thenQ_normal ?_))
  refine AW.seq (AW.rA ⟨[(0, (vc (.int .u64 a0))), (1, (vc (.int .u64 a1))), (7, (vc (.int .u64 (a0.fdiv (2 ^ (min (32 : Int).toNat (IntKind.bits .u64))))))), (9, (vc (.int .u64 (a1.fdiv (2 ^ (min (32 : Int).toNat (IntKind.bits .u64))))))), (12, (vc (.int .u64 (IntKind.u64.wrap ((bits .and .u64 (IntKind.u64.wrap ((IntKind.u64.wrap ((a0.fdiv (2 ^ (min (32 : Int).toNat (IntKind.bits .u64)))) * (bits .and .u64 a1 (4294967295 : Int)))) + ((IntKind.u64.wrap ((bits .and .u64 a0 (4294967295 : Int)) * (bits .and .u64 a1 (4294967295 : Int)))).fdiv (2 ^ (min (32 : Int).toNat (IntKind.bits .u64)))))) (4294967295 : Int)) + (IntKind.u64.wrap ((bits .and .u64 a0 (4294967295 : Int)) * (a1.fdiv (2 ^ (min (32 : Int).toNat (IntKind.bits .u64))))))))))), (13, (vc (.int .u64 ((IntKind.u64.wrap ((IntKind.u64.wrap ((a0.fdiv (2 ^ (min (32 : Int).toNat (IntKind.bits .u64)))) * (bits .and .u64 a1 (4294967295 : Int)))) + ((IntKind.u64.wrap ((bits .and .u64 a0 (4294967295 : Int)) * (bits .and .u64 a1 (4294967295 : Int)))).fdiv (2 ^ (min (32 : Int).toNat (IntKind.bits .u64)))))).fdiv (2 ^ (min (32 : Int).toNat (IntKind.bits .u64)))))))], []⟩ (T2 (T4 Tt)) [] [0, 1, 7, 9, 12, 13] [] ⟨tr, tr, tr, tr, tr, tr, tr⟩ (thenQ_normal ?_))
  refine AW.seq (AW.rA ⟨[(0, (vc (.int .u64 a0))), (1, (vc (.int .u64 a1))), (4, (vc (.int .u64 (IntKind.u64.wrap ((IntKind.u64.wrap ((IntKind.u64.wrap ((a0.fdiv (2 ^ (min (32 : Int).toNat (IntKind.bits .u64)))) * (a1.fdiv (2 ^ (min (32 : Int).toNat (IntKind.bits .u64)))))) + ((IntKind.u64.wrap ((IntKind.u64.wrap ((a0.fdiv (2 ^ (min (32 : Int).toNat (IntKind.bits .u64)))) * (bits .and .u64 a1 (4294967295 : Int)))) + ((IntKind.u64.wrap ((bits .and .u64 a0 (4294967295 : Int)) * (bits .and .u64 a1 (4294967295 : Int)))).fdiv (2 ^ (min (32 : Int).toNat (IntKind.bits .u64)))))).fdiv (2 ^ (min (32 : Int).toNat (IntKind.bits .u64)))))) + ((IntKind.u64.wrap ((bits .and .u64 (IntKind.u64.wrap ((IntKind.u64.wrap ((a0.fdiv (2 ^ (min (32 : Int).toNat (IntKind.bits .u64)))) * (bits .and .u64 a1 (4294967295 : Int)))) + ((IntKind.u64.wrap ((bits .and .u64 a0 (4294967295 : Int)) * (bits .and .u64 a1 (4294967295 : Int)))).fdiv (2 ^ (min (32 : Int).toNat (IntKind.bits .u64)))))) (4294967295 : Int)) + (IntKind.u64.wrap ((bits .and .u64 a0 (4294967295 : Int)) * (a1.fdiv (2 ^ (min (32 : Int).toNat (IntKind.bits .u64)))))))).fdiv (2 ^ (min (32 : Int).toNat (IntKind.bits .u64)))))))))], []⟩ (T2 (T4 ((0 ≤ (32 : Int)) ∧ T2 Tt))) [] [0, 1, 4] [] ⟨tr, tr, tr, tr, tr, tr, c1, tr, tr, tr⟩ (thenQ_normal ?_))
  refine AW.seq (AW.rA ⟨[(4, (vc (.int .u64 (IntKind.u64.wrap ((IntKind.u64.wrap ((IntKind.u64.wrap ((a0.fdiv (2 ^ (min (32 : Int).toNat (IntKind.bits .u64)))) * (a1.fdiv (2 ^ (min (32 : Int).toNat (IntKind.bits .u64)))))) + ((IntKind.u64.wrap ((IntKind.u64.wrap ((a0.fdiv (2 ^ (min (32 : Int).toNat (IntKind.bits .u64)))) * (bits .and .u64 a1 (4294967295 : Int)))) + ((IntKind.u64.wrap ((bits .and .u64 a0 (4294967295 : Int)) * (bits .and .u64 a1 (4294967295 : Int)))).fdiv (2 ^ (min (32 : Int).toNat (IntKind.bits .u64)))))).fdiv (2 ^ (min (32 : Int).toNat (IntKind.bits .u64)))))) + ((IntKind.u64.wrap ((bits .and .u64 (IntKind.u64.wrap ((IntKind.u64.wrap ((a0.fdiv (2 ^ (min (32 : Int).toNat (IntKind.bits .u64)))) * (bits .and .u64 a1 (4294967295 : Int)))) + ((IntKind.u64.wrap ((bits .and .u64 a0 (4294967295 : Int)) * (bits .and .u64 a1 (4294967295 : Int)))).fdiv (2 ^ (min (32 : Int).toNat (IntKind.bits .u64)))))) (4294967295 : Int)) + (IntKind.u64.wrap ((bits .and .u64 a0 (4294967295 : Int)) * (a1.fdiv (2 ^ (min (32 : Int).toNat (IntKind.bits .u64)))))))).fdiv (2 ^ (min (32 : Int).toNat (IntKind.bits .u64))))))))), (5, (vc (.int .u64 (IntKind.u64.wrap (a0 * a1)))))], []⟩ (T4 Tt) [] [4, 5] [] ⟨tr, tr, tr, tr, tr⟩ (thenQ_normal ?_))
  refine AW.ret ?_
  replace h := some_eq h
  subst h
  exact ⟨.inr rfl, retOK_of [(.one (.c (.int .u64 (IntKind.u64.wrap ((IntKind.u64.wrap ((IntKind.u64.wrap ((a0.fdiv (2 ^ (min (32 : Int).toNat (IntKind.bits .u64)))) * (a1.fdiv (2 ^ (min (32 : Int).toNat (IntKind.bits .u64)))))) + ((IntKind.u64.wrap ((IntKind.u64.wrap ((a0.fdiv (2 ^ (min (32 : Int).toNat (IntKind.bits .u64)))) * (bits .and .u64 a1 (4294967295 : Int)))) + ((IntKind.u64.wrap ((bits .and .u64 a0 (4294967295 : Int)) * (bits .and .u64 a1 (4294967295 : Int)))).fdiv (2 ^ (min (32 : Int).toNat (IntKind.bits .u64)))))).fdiv (2 ^ (min (32 : Int).toNat (IntKind.bits .u64)))))) + ((IntKind.u64.wrap ((bits .and .u64 (IntKind.u64.wrap ((IntKind.u64.wrap ((a0.fdiv (2 ^ (min (32 : Int).toNat (IntKind.bits .u64)))) * (bits .and .u64 a1 (4294967295 : Int)))) + ((IntKind.u64.wrap ((bits .and .u64 a0 (4294967295 : Int)) * (bits .and .u64 a1 (4294967295 : Int)))).fdiv (2 ^ (min (32 : Int).toNat (IntKind.bits .u64)))))) (4294967295 : Int)) + (IntKind.u64.wrap ((bits .and .u64 a0 (4294967295 : Int)) * (a1.fdiv (2 ^ (min (32 : Int).toNat (IntKind.bits .u64)))))))).fdiv (2 ^ (min (32 : Int).toNat (IntKind.bits .u64))))))))), (.one (.c (.int .u64 (IntKind.u64.wrap (a0 * a1)))))] (by kernel_rfl) ⟨⟨rfl, tr⟩, ⟨rfl, tr⟩, tr⟩ (of_decide_eq_true (by kernel_rfl))⟩

/-! math/bits.Mul -/
def bits_Mul (K : Nat) (a0 : Int) (a1 : Int) : Option (Int × Int) :=
  (bits_Mul64 K a0 a1).bind fun v1 => some (v1.1, v1.2)

theorem ok_bits_Mul (K : Nat) (a0 : Int) (a1 : Int) (o : (Int × Int)) (h : bits_Mul K a0 a1 = some o) : CallOK Try.prog 47 [.one (.int .u64 a0), .one (.int .u64 a1)] [.one (.int .u64 o.1), .one (.int .u64 o.2)] := by
  refine callOK_of_AW Try.func47 rfl (by kernel_rfl) (Nat.le_of_ble_eq_true (by kernel_rfl)) ?_
  intro w0
  unfold bits_Mul at h
  refine AW.seq (AW.rA ⟨[(0, (vc (.int .u64 a0))), (1, (vc (.int .u64 a1)))], []⟩ (T2 Tt) [] [0, 1] [] ⟨tr, tr, tr⟩ (thenQ_normal ?_))
  refine AW.seq ?_
  refine AW.condk ?_
  refine AW.skip ?_
  refine thenQ_normal ?_
  refine AW.seq ?_
  obtain ⟨v1, e2, h⟩ := bind_some h
  refine AW.rA ⟨[(8, (vc (.int .u64 v1.1))), (9, (vc (.int .u64 v1.2)))], []⟩ (T2 ((((Eqc (.int .u64 a0)) ∧ (Eqc (.int .u64 a1)) ∧ Tt) ∧ CallOK Try.prog 55 [.one (.int .u64 a0), .one (.int .u64 a1)] [.one (.int .u64 v1.1), .one (.int .u64 v1.2)]) ∧ Tt ∧ T4 Tt)) [.no, .no, .call [.one (.int .u64 a0), .one (.int .u64 a1)] [.one (.int .u64 v1.1), .one (.int .u64 v1.2)] [[.view], [.view]]] [8, 9] [] ⟨tr, tr, ⟨⟨rfl, rfl, tr⟩, ok_bits_Mul64 K a0 a1 v1 e2⟩, tr, tr, tr, tr, tr, tr⟩ ?_
  refine thenQ_normal ?_
  refine AW.seq (AW.rA ⟨[(4, (vc (.int .u64 v1.1))), (5, (vc (.int .u64 v1.2)))], []⟩ (T4 Tt) [] [4, 5] [] ⟨tr, tr, tr, tr, tr⟩ (thenQ_normal ?_))
  refine AW.ret ?_
  replace h := some_eq h
  subst h
  exact ⟨.inr rfl, retOK_of [(.one (.c (.int .u64 v1.1))), (.one (.c (.int .u64 v1.2)))] (by kernel_rfl) ⟨⟨rfl, tr⟩, ⟨rfl, tr⟩, tr⟩ (of_decide_eq_true (by kernel_rfl))⟩

/-! slices.Repeat[[]impl.Turn,impl.Turn] -/
def slices_Repeat_impl_Turn_impl_Turn_l1 (K : Nat) : Nat → Int → (List Turn) → Option ((List Turn))
  | 0, _, _ => none
  | k + 1, x12, x13 => ite2 ((decide (x12 < (x13.length : Int)))) (chk (0 ≤ x12 ∧ x12 < (x13.length : Int) ∧ x12 ≤ (x13.length : Int) ∧ (x13.length : Int) ≤ (x13.length : Int)) (chk (0 ≤ (0 : Int) ∧ (0 : Int) < (x13.length : Int) ∧ (0 : Int) ≤ x12 ∧ x12 ≤ (x13.length : Int)) (chk (0 < Nat.min (x12.toNat - (0 : Int).toNat) ((x13.length : Int).toNat - x12.toNat)) (slices_Repeat_impl_Turn_impl_Turn_l1 K k (IntKind.i64.wrap (x12 + ((Nat.min (x12.toNat - (0 : Int).toNat) ((x13.length : Int).toNat - x12.toNat) : Nat) : Int))) (cpL x13 x12.toNat ((x13.drop (0 : Int).toNat).take (Nat.min (x12.toNat - (0 : Int).toNat) ((x13.length : Int).toNat - x12.toNat)))))))) (some x13)

def slices_Repeat_impl_Turn_impl_Turn (K : Nat) (a0 : (List Turn)) (a1 : Int) : Option ((List Turn)) :=
  ite2 ((decide (a1 < (0 : Int)))) (none) ((bits_Mul K (IntKind.u64.wrap (a0.length : Int)) (IntKind.u64.wrap a1)).bind fun v2 => (ite2 ((decide (v2.1 > (0 : Int)))) (some true) (some (decide (v2.2 > (9223372036854775807 : Int))))).bind fun j5 => ite2 (j5) (none) (chk (0 ≤ (IntKind.i64.wrap v2.2) ∧ (IntKind.i64.wrap v2.2).toNat * 16 ≤ 140737488355328) (chk (0 < Nat.min a0.length (List.replicate (IntKind.i64.wrap v2.2).toNat (default : Turn)).length) (slices_Repeat_impl_Turn_impl_Turn_l1 K K ((Nat.min a0.length (List.replicate (IntKind.i64.wrap v2.2).toNat (default : Turn)).length : Nat) : Int) (cpL (List.replicate (IntKind.i64.wrap v2.2).toNat (default : Turn)) 0 (a0.take (Nat.min a0.length (List.replicate (IntKind.i64.wrap v2.2).toNat (default : Turn)).length)))))))

theorem ok_slices_Repeat_impl_Turn_impl_Turn (K : Nat) (a0 : (List Turn)) (a1 : Int) (o : ((List Turn))) (h : slices_Repeat_impl_Turn_impl_Turn K a0 a1 = some o) : CallOK Try.prog 38 [.one (sl 4 cs_Turn a0), .one (.int .i64 a1)] [.one (sl 4 cs_Turn o)] := by
  refine callOK_of_AW Try.func38 rfl (by kernel_rfl) (Nat.le_of_ble_eq_true (by kernel_rfl)) ?_
  intro w0
  unfold slices_Repeat_impl_Turn_impl_Turn at h
  refine AW.seq (AW.rA ⟨[(0, (vc (sl 4 cs_Turn a0))), (1, (vc (.int .i64 a1)))], []⟩ (Tt ∧ Tt) [] [0, 1] [] ⟨tr, tr⟩ (thenQ_normal ?_))
  refine AW.seq ?_
  refine AW.seq (AW.rA ⟨[(0, (vc (sl 4 cs_Turn a0))), (1, (vc (.int .i64 a1))), (10, (vc (.bool (decide (a1 < (0 : Int))))))], []⟩ (T2 Tt) [] [0, 1, 10] [] ⟨tr, tr, tr⟩ (thenQ_normal ?_))
  rcases ite2_cases h with ⟨b1, h⟩ | ⟨b1, h⟩
  · refine AW.cond_t rfl b1 ?_
    cases h
  · refine AW.cond_f rfl b1 ?_
    refine AW.skip ?_
    refine thenQ_normal ?_
    refine AW.seq ?_
    obtain ⟨v2, e3, h⟩ := bind_some h
    refine AW.rA ⟨[(0, (vc (sl 4 cs_Turn a0))), (5, (vc (.int .u64 v2.1))), (6, (vc (.int .u64 v2.2)))], []⟩ (Tt ∧ T4 ((((Eqc (.int .u64 (IntKind.u64.wrap (a0.length : Int)))) ∧ (Eqc (.int .u64 (IntKind.u64.wrap a1))) ∧ Tt) ∧ CallOK Try.prog 47 [.one (.int .u64 (IntKind.u64.wrap (a0.length : Int))), .one (.int .u64 (IntKind.u64.wrap a1))] [.one (.int .u64 v2.1), .one (.int .u64 v2.2)]) ∧ Tt ∧ T4 Tt)) [.no, .no, .no, .no, .no, .call [.one (.int .u64 (IntKind.u64.wrap (a0.length : Int))), .one (.int .u64 (IntKind.u64.wrap a1))] [.one (.int .u64 v2.1), .one (.int .u64 v2.2)] [[.view], [.view]]] [0, 5, 6] [] ⟨tr, tr, tr, tr, tr, ⟨⟨rfl, rfl, tr⟩, ok_bits_Mul K (IntKind.u64.wrap (a0.length : Int)) (IntKind.u64.wrap a1) v2 e3⟩, tr, tr, tr, tr, tr, tr⟩ ?_
    refine thenQ_normal ?_
    refine AW.seq ?_
    refine AW.seq ?_
    obtain ⟨j5, e6, h⟩ := bind_some h
    refine AW.join1 (s2 := ⟨[(0, (vc (sl 4 cs_Turn a0))), (6, (vc (.int .u64 v2.2))), (26, (vc (.bool j5)))], []⟩) ?_ ?_
    · rcases ite2_cases e6 with ⟨b4, e6⟩ | ⟨b4, e6⟩
      · replace e6 := some_eq e6
        subst e6
        exact AW.rA ⟨[(0, (vc (sl 4 cs_Turn a0))), (6, (vc (.int .u64 v2.2))), (26, (vc (.bool true)))], []⟩ (T2 ((Tt ∧ (decide (v2.1 > (0 : Int))) = true) ∧ Tt ∧ T2 Tt)) [.no, .no, .dec true] [0, 6, 26] [] ⟨tr, tr, ⟨tr, b4⟩, tr, tr, tr, tr⟩ ⟨rfl, rfl⟩
      · replace e6 := some_eq e6
        subst e6
        exact AW.rA ⟨[(0, (vc (sl 4 cs_Turn a0))), (6, (vc (.int .u64 v2.2))), (26, (vc (.bool (decide (v2.2 > (9223372036854775807 : Int))))))], []⟩ (T2 ((Tt ∧ (decide (v2.1 > (0 : Int))) = false) ∧ Tt ∧ T2 Tt)) [.no, .no, .dec false] [0, 6, 26] [] ⟨tr, tr, ⟨tr, b4⟩, tr, tr, tr, tr⟩ ⟨rfl, rfl⟩
    refine thenQ_normal ?_
    rcases ite2_cases h with ⟨b7, h⟩ | ⟨b7, h⟩
    · refine AW.cond_t rfl b7 ?_
      cases h
    · refine AW.cond_f rfl b7 ?_
      refine AW.skip ?_
      refine thenQ_normal ?_
      refine AW.seq ?_
      obtain ⟨c8, h⟩ := chk_some h
      refine AW.rA ⟨[(0, (vc (sl 4 cs_Turn a0))), (7, (.v (.one (.arr 1))))], [(1, (.arr false (List.replicate (IntKind.i64.wrap v2.2).toNat (default : Turn)).length 4 (gl cs_Turn (List.replicate (IntKind.i64.wrap v2.2).toNat (default : Turn)))))]⟩ (T2 ((0 ≤ (IntKind.i64.wrap v2.2) ∧ (IntKind.i64.wrap v2.2) = (IntKind.i64.wrap v2.2) ∧ (((List.replicate (IntKind.i64.wrap v2.2).toNat (default : Turn)).length : Nat) : Int) = (IntKind.i64.wrap v2.2) ∧ (List.replicate (IntKind.i64.wrap v2.2).toNat (default : Turn)).length * 16 ≤ 140737488355328 ∧ ∀ i, i < (List.replicate (IntKind.i64.wrap v2.2).toNat (default : Turn)).length → zeroRow (fun _ => none) [(.c (.flt .f32 (default : F32).bits)), (.c (.flt .f32 (default : F32).bits)), (.c (.flt .f32 (default : F32).bits)), (.c (.flt .f32 (default : F32).bits))] (gl cs_Turn (List.replicate (IntKind.i64.wrap v2.2).toNat (default : Turn)) i)) ∧ Tt ∧ Tt)) [.no, .no, .objA 1 (List.replicate (IntKind.i64.wrap v2.2).toNat (default : Turn)).length (gl cs_Turn (List.replicate (IntKind.i64.wrap v2.2).toNat (default : Turn)))] [0, 7] [1] ⟨tr, tr, ⟨c8.1, rfl, len_rep c8.1, rep_bytes c8.2, fun i hi => gl_zero (cs := cs_Turn) (zs := [(.c (.flt .f32 (default : F32).bits)), (.c (.flt .f32 (default : F32).bits)), (.c (.flt .f32 (default : F32).bits)), (.c (.flt .f32 (default : F32).bits))]) (n := (IntKind.i64.wrap v2.2).toNat) ⟨⟨rfl, tr⟩, ⟨rfl, tr⟩, ⟨rfl, tr⟩, ⟨rfl, tr⟩, tr⟩ i (rep_lt hi)⟩, tr, tr⟩ ?_
      refine thenQ_normal ?_
      refine AW.seq ?_
      obtain ⟨c9, h⟩ := chk_some h
      refine AW.rA ⟨[(7, (.v (.one (.arr 1)))), (8, (vc (.int .i64 ((Nat.min a0.length (List.replicate (IntKind.i64.wrap v2.2).toNat (default : Turn)).length : Nat) : Int))))], [(1, (.arr false (cpL (List.replicate (IntKind.i64.wrap v2.2).toNat (default : Turn)) 0 (a0.take (Nat.min a0.length (List.replicate (IntKind.i64.wrap v2.2).toNat (default : Turn)).length))).length 4 (gl cs_Turn (cpL (List.replicate (IntKind.i64.wrap v2.2).toNat (default : Turn)) 0 (a0.take (Nat.min a0.length (List.replicate (IntKind.i64.wrap v2.2).toNat (default : Turn)).length))))))]⟩ (T2 (((cpL (List.replicate (IntKind.i64.wrap v2.2).toNat (default : Turn)) 0 (a0.take (Nat.min a0.length (List.replicate (IntKind.i64.wrap v2.2).toNat (default : Turn)).length))).length = (List.replicate (IntKind.i64.wrap v2.2).toNat (default : Turn)).length ∧ 0 < Nat.min a0.length (List.replicate (IntKind.i64.wrap v2.2).toNat (default : Turn)).length ∧ (∀ i j, i < (List.replicate (IntKind.i64.wrap v2.2).toNat (default : Turn)).length → j < 4 → gl cs_Turn (cpL (List.replicate (IntKind.i64.wrap v2.2).toNat (default : Turn)) 0 (a0.take (Nat.min a0.length (List.replicate (IntKind.i64.wrap v2.2).toNat (default : Turn)).length))) i j = if 0 ≤ i ∧ i < 0 + Nat.min a0.length (List.replicate (IntKind.i64.wrap v2.2).toNat (default : Turn)).length then gl cs_Turn a0 (i - 0) j else gl cs_Turn (List.replicate (IntKind.i64.wrap v2.2).toNat (default : Turn)) i j) ∧ ∀ i j, i < Nat.min a0.length (List.replicate (IntKind.i64.wrap v2.2).toNat (default : Turn)).length → j < 4 → scalarC (gl cs_Turn a0 i j)) ∧ Tt ∧ Tt)) [.no, .no, .seq (cpL (List.replicate (IntKind.i64.wrap v2.2).toNat (default : Turn)) 0 (a0.take (Nat.min a0.length (List.replicate (IntKind.i64.wrap v2.2).toNat (default : Turn)).length))).length (gl cs_Turn (cpL (List.replicate (IntKind.i64.wrap v2.2).toNat (default : Turn)) 0 (a0.take (Nat.min a0.length (List.replicate (IntKind.i64.wrap v2.2).toNat (default : Turn)).length))))] [7, 8] [1] ⟨tr, tr, cp_view sc_Turn c9, tr, tr⟩ ?_
      refine thenQ_normal ?_
      refine AW.seq ?_
      refine AW.block ?_
      refine AW.loopQ (σ := Nat × Int × (List Turn)) (fun p => ⟨[(7, (.v (.one (.arr 1)))), (8, (vc (.int .i64 p.2.1)))], [(1, (.arr false p.2.2.length 4 (gl cs_Turn p.2.2)))]⟩) (fun p => slices_Repeat_impl_Turn_impl_Turn_l1 K p.1 p.2.1 p.2.2 = some o) (fun p => p.1) (K, ((Nat.min a0.length (List.replicate (IntKind.i64.wrap v2.2).toNat (default : Turn)).length : Nat) : Int), (cpL (List.replicate (IntKind.i64.wrap v2.2).toNat (default : Turn)) 0 (a0.take (Nat.min a0.length (List.replicate (IntKind.i64.wrap v2.2).toNat (default : Turn)).length)))) h ?_
      clear h
      rintro ⟨k, x12, x13⟩ h
      replace h : slices_Repeat_impl_Turn_impl_Turn_l1 K k x12 x13 = some o := h
      show AW _ _ (⟨[(7, (.v (.one (.arr 1)))), (8, (vc (.int .i64 x12)))], [(1, (.arr false x13.length 4 (gl cs_Turn x13)))]⟩ : St) _
      obtain _ | k := k
      · rw [slices_Repeat_impl_Turn_impl_Turn_l1] at h; cases h
      rw [slices_Repeat_impl_Turn_impl_Turn_l1] at h
      refine AW.seq ?_
      refine AW.seq (AW.rA ⟨[(7, (.v (.one (.arr 1)))), (8, (vc (.int .i64 x12))), (37, (vc (.bool (decide (x12 < (x13.length : Int))))))], [(1, (.arr false x13.length 4 (gl cs_Turn x13)))]⟩ (T4 Tt) [] [7, 8, 37] [1] ⟨tr, tr, tr, tr, tr⟩ (thenQ_normal ?_))
      rcases ite2_cases h with ⟨b14, h⟩ | ⟨b14, h⟩
      · refine AW.cond_t rfl b14 ?_
        refine AW.skip ?_
        refine thenQ_normal ?_
        refine AW.block ?_
        obtain ⟨c15, h⟩ := chk_some h
        obtain ⟨c16, h⟩ := chk_some h
        obtain ⟨c17, h⟩ := chk_some h
        refine AW.lateA (by kernel_rfl) 7 0 [.no, .no, .no, .no, .no, .no, .no, .seq (cpL x13 x12.toNat ((x13.drop (0 : Int).toNat).take (Nat.min (x12.toNat - (0 : Int).toNat) ((x13.length : Int).toNat - x12.toNat)))).length (gl cs_Turn (cpL x13 x12.toNat ((x13.drop (0 : Int).toNat).take (Nat.min (x12.toNat - (0 : Int).toNat) ((x13.length : Int).toNat - x12.toNat)))))] [7, 8] [1] (s' := ⟨[(7, (.v (.one (.arr 1)))), (8, (vc (.int .i64 (IntKind.i64.wrap (x12 + ((Nat.min (x12.toNat - (0 : Int).toNat) ((x13.length : Int).toNat - x12.toNat) : Nat) : Int))))))], [(1, (.arr false (cpL x13 x12.toNat ((x13.drop (0 : Int).toNat).take (Nat.min (x12.toNat - (0 : Int).toNat) ((x13.length : Int).toNat - x12.toNat)))).length 4 (gl cs_Turn (cpL x13 x12.toNat ((x13.drop (0 : Int).toNat).take (Nat.min (x12.toNat - (0 : Int).toNat) ((x13.length : Int).toNat - x12.toNat)))))))]⟩) (ob := (Tt ∧ T2 ((0 ≤ x12 ∧ x12 < (x13.length : Int) ∧ x12 ≤ (x13.length : Int) ∧ (x13.length : Int) ≤ (x13.length : Int)) ∧ T2 ((0 ≤ (0 : Int) ∧ (0 : Int) < (x13.length : Int) ∧ (0 : Int) ≤ x12 ∧ x12 ≤ (x13.length : Int)) ∧ Tt))) ∧ (((cpL x13 x12.toNat ((x13.drop (0 : Int).toNat).take (Nat.min (x12.toNat - (0 : Int).toNat) ((x13.length : Int).toNat - x12.toNat)))).length = x13.length ∧ 0 < Nat.min (x12.toNat - (0 : Int).toNat) ((x13.length : Int).toNat - x12.toNat) ∧ (∀ i j, i < x13.length → j < 4 → gl cs_Turn (cpL x13 x12.toNat ((x13.drop (0 : Int).toNat).take (Nat.min (x12.toNat - (0 : Int).toNat) ((x13.length : Int).toNat - x12.toNat)))) i j = if x12.toNat ≤ i ∧ i < x12.toNat + Nat.min (x12.toNat - (0 : Int).toNat) ((x13.length : Int).toNat - x12.toNat) then gl cs_Turn x13 ((0 : Int).toNat + (i - x12.toNat)) j else gl cs_Turn x13 i j) ∧ ∀ i j, i < Nat.min (x12.toNat - (0 : Int).toNat) ((x13.length : Int).toNat - x12.toNat) → j < 4 → scalarC (gl cs_Turn x13 ((0 : Int).toNat + i) j)) ∧ T2 Tt) ∧ (((cpL x13 x12.toNat ((x13.drop (0 : Int).toNat).take (Nat.min (x12.toNat - (0 : Int).toNat) ((x13.length : Int).toNat - x12.toNat)))).length = x13.length ∧ 0 < Nat.min (x12.toNat - (0 : Int).toNat) ((x13.length : Int).toNat - x12.toNat) ∧ (∀ i j, i < x13.length → j < 4 → gl cs_Turn (cpL x13 x12.toNat ((x13.drop (0 : Int).toNat).take (Nat.min (x12.toNat - (0 : Int).toNat) ((x13.length : Int).toNat - x12.toNat)))) i j = if x12.toNat ≤ i ∧ i < x12.toNat + Nat.min (x12.toNat - (0 : Int).toNat) ((x13.length : Int).toNat - x12.toNat) then gl cs_Turn x13 ((0 : Int).toNat + (i - x12.toNat)) j else gl cs_Turn x13 i j) ∧ ∀ i j, i < Nat.min (x12.toNat - (0 : Int).toNat) ((x13.length : Int).toNat - x12.toNat) → j < 4 → scalarC (gl cs_Turn x13 ((0 : Int).toNat + i) j)) ∧ Tt ∧ T2 Tt) ∧ ((⟨[(7, (.v (.one (.arr 1)))), (8, (vc (.int .i64 (IntKind.i64.wrap (x12 + ((Nat.min (x12.toNat - (0 : Int).toNat) ((x13.length : Int).toNat - x12.toNat) : Nat) : Int))))))], [(1, (.arr false (cpL x13 x12.toNat ((x13.drop (0 : Int).toNat).take (Nat.min (x12.toNat - (0 : Int).toNat) ((x13.length : Int).toNat - x12.toNat)))).length 4 (gl cs_Turn (cpL x13 x12.toNat ((x13.drop (0 : Int).toNat).take (Nat.min (x12.toNat - (0 : Int).toNat) ((x13.length : Int).toNat - x12.toNat)))))))]⟩ : St) = ⟨[(7, (.v (.one (.arr 1)))), (8, (vc (.int .i64 (IntKind.i64.wrap (x12 + ((Nat.min (x12.toNat - (0 : Int).toNat) ((x13.length : Int).toNat - x12.toNat) : Nat) : Int))))))], [(1, (.arr false (cpL x13 x12.toNat ((x13.drop (0 : Int).toNat).take (Nat.min (x12.toNat - (0 : Int).toNat) ((x13.length : Int).toNat - x12.toNat)))).length 4 (gl cs_Turn (cpL x13 x12.toNat ((x13.drop (0 : Int).toNat).take (Nat.min (x12.toNat - (0 : Int).toNat) ((x13.length : Int).toNat - x12.toNat)))))))]⟩)) (by kernel_rfl) ⟨⟨tr, tr, tr, c15, tr, tr, c16, tr⟩, ⟨cp_self (r1 := (x13.length : Int)) (r2 := x12) sc_Turn c15 c16 c17, tr, tr, tr⟩, ⟨cp_self (r1 := (x13.length : Int)) (r2 := x12) sc_Turn c15 c16 c17, tr, tr, tr, tr⟩, rfl⟩ ?_
        refine blockQ_normal ?_
        exact loopQ_normal (k, (IntKind.i64.wrap (x12 + ((Nat.min (x12.toNat - (0 : Int).toNat) ((x13.length : Int).toNat - x12.toNat) : Nat) : Int))), (cpL x13 x12.toNat ((x13.drop (0 : Int).toNat).take (Nat.min (x12.toNat - (0 : Int).toNat) ((x13.length : Int).toNat - x12.toNat))))) h (Nat.lt_succ_self k) (Sub.keep [7, 8] [1] (by kernel_rfl) (by kernel_rfl))
      · refine AW.cond_f rfl b14 ?_
        refine AW.exit ?_
        refine thenQ_exit ?_
        refine loopQ_exit ?_
        refine blockQ_exit ?_
        refine thenQ_normal ?_
        refine AW.seq (AW.rA ⟨[(4, (.v (.one (.arr 1))))], [(1, (.arr false x13.length 4 (gl cs_Turn x13)))]⟩ (T2 Tt) [] [4] [1] ⟨tr, tr, tr⟩ (thenQ_normal ?_))
        refine AW.ret ?_
        replace h := some_eq h
        subst h
        exact ⟨.inr rfl, retOK_of [(.one (.arr 1))] (by kernel_rfl) ⟨rfl, tr⟩ (of_decide_eq_true (by kernel_rfl))⟩

/-! impl.restOf -/
def impl_restOf (K : Nat) (a0 : Int) : Option (Pose) :=
  (impl_NoTurn K ).bind fun v1 => (slices_Repeat_impl_Turn_impl_Turn K ([v1]) a0).bind fun v3 => some (Pose.mk (Vector.mk (default : F32) (default : F32) (default : F32)) v3)

theorem ok_impl_restOf (K : Nat) (a0 : Int) (o : (Pose)) (h : impl_restOf K a0 = some o) : CallOK Try.prog 28 [.one (.int .i64 a0)] [.agg (cs_Pose o)] := by
  refine callOK_of_AW Try.func28 rfl (by kernel_rfl) (Nat.le_of_ble_eq_true (by kernel_rfl)) ?_
  intro w0
  unfold impl_restOf at h
  refine AW.seq (AW.rA ⟨[(0, (vc (.int .i64 a0))), (2, (vp 1 0))], [(1, (.box [(.c (.flt .f32 (default : F32).bits)), (.c (.flt .f32 (default : F32).bits)), (.c (.flt .f32 (default : F32).bits)), .nils]))]⟩ (Tt ∧ Tt) [.box 1] [0, 2] [1] ⟨tr, tr⟩ (thenQ_normal ?_))
  refine AW.seq ?_
  obtain ⟨v1, e2, h⟩ := bind_some h
  obtain ⟨v3, e4, h⟩ := bind_some h
  refine AW.rA ⟨[(2, (vp 1 0))], [(1, (.box [(.c (.flt .f32 (default : F32).bits)), (.c (.flt .f32 (default : F32).bits)), (.c (.flt .f32 (default : F32).bits)), (.lst 3 v3.length 4 (gl cs_Turn v3))])), (3, (.lst v3.length 4 (gl cs_Turn v3)))]⟩ (((Tt) ∧ CallOK Try.prog 39 [] [.agg (cs_Turn v1)]) ∧ (([v1]).length = 1 ∧ (((.flt .f32 v1.W.bits) : C) = (.flt .f32 v1.W.bits) ∧ Tt) ∧ (((.flt .f32 v1.X.bits) : C) = (.flt .f32 v1.X.bits) ∧ Tt) ∧ (((.flt .f32 v1.Y.bits) : C) = (.flt .f32 v1.Y.bits) ∧ Tt) ∧ (((.flt .f32 v1.Z.bits) : C) = (.flt .f32 v1.Z.bits) ∧ Tt) ∧ Tt) ∧ Tt ∧ (((Eqc (sl 4 cs_Turn ([v1]))) ∧ (Eqc (.int .i64 a0)) ∧ Tt) ∧ CallOK Try.prog 38 [.one (sl 4 cs_Turn ([v1])), .one (.int .i64 a0)] [.one (sl 4 cs_Turn v3)]) ∧ T2 Tt) [.call [] [.agg (cs_Turn v1)] [[.view, .view, .view, .view]], .obj 2 ([v1]).length (gl cs_Turn ([v1])), .no, .call [.one (sl 4 cs_Turn ([v1])), .one (.int .i64 a0)] [.one (sl 4 cs_Turn v3)] [[.lst 3]]] [2] [1, 3] ⟨⟨tr, ok_impl_NoTurn K v1 e2⟩, ⟨rfl, ⟨⟨rfl, tr⟩, ⟨rfl, tr⟩, ⟨rfl, tr⟩, ⟨rfl, tr⟩, tr⟩⟩, tr, ⟨⟨rfl, rfl, tr⟩, ok_slices_Repeat_impl_Turn_impl_Turn K ([v1]) a0 v3 e4⟩, tr, tr, tr⟩ ?_
  refine thenQ_normal ?_
  refine AW.ret ?_
  replace h := some_eq h
  subst h
  exact ⟨.inr rfl, retOK_of [(.agg [(.c (.flt .f32 (default : F32).bits)), (.c (.flt .f32 (default : F32).bits)), (.c (.flt .f32 (default : F32).bits)), (.lst 3 v3.length 4 (gl cs_Turn v3))])] (by kernel_rfl) ⟨⟨⟨rfl, tr⟩, ⟨rfl, tr⟩, ⟨rfl, tr⟩, rfl, tr⟩, tr⟩ (of_decide_eq_true (by kernel_rfl))⟩

end
end Go.Fw
