/- Functions of the program: what each computes, and that it computes just that. -/
import Derived.Test.YtdddhokfmablnabFwTy
import Derived.Test.YtdddhokfmablnabFwH
import Derived.Test.YtdddhokfmablnabFwV
import Derived.Test.YtdddhokfmablnabFwHF
import Derived.Test.YtdddhokfmablnabFwMK
import Derived.Test.YtdddhokfmablnabFwU
import Derived.Test.YtdddhokfmablnabProg
import Derived.KernelRfl
namespace Go.Fw
open Go Go.Proofs
noncomputable section
set_option maxRecDepth 10000

/-! laws.b10Long -/
def laws_b10Long (_K : Nat) (a0 : (List Int)) (a1 : (List Int)) : Option (Bool) :=
  (ite2 ((decide ((a0.length : Int) > (1048576 : Int)))) (some true) (some (decide ((a1.length : Int) > (1048576 : Int))))).bind fun j2 => some j2

theorem ok_laws_b10Long (K : Nat) (a0 : (List Int)) (a1 : (List Int)) (o : (Bool)) (h : laws_b10Long K a0 a1 = some o) : CallOK Try.prog 4 [.one (sl 1 (csI .u8) a0), .one (sl 1 (csI .u8) a1)] [.one (.bool o)] := by
  refine callOK_of_AW Try.func4 rfl (by kernel_rfl) (Nat.le_of_ble_eq_true (by kernel_rfl)) ?_
  intro w0
  unfold laws_b10Long at h
  refine AW.seq (AW.rA ⟨[(0, (vc (sl 1 (csI .u8) a0))), (1, (vc (sl 1 (csI .u8) a1)))], []⟩ (Tt ∧ Tt) [] [0, 1] [] ⟨tr, tr⟩ (thenQ_normal ?_))
  refine AW.seq ?_
  obtain ⟨j2, e3, h⟩ := bind_some h
  refine AW.join1 (s2 := ⟨[(4, (vc (.bool j2)))], []⟩) ?_ ?_
  · rcases ite2_cases e3 with ⟨b1, e3⟩ | ⟨b1, e3⟩
    · replace e3 := some_eq e3
      subst e3
      exact AW.rA ⟨[(4, (vc (.bool true)))], []⟩ (Tt ∧ T2 ((Tt ∧ (decide ((a0.length : Int) > (1048576 : Int))) = true) ∧ Tt ∧ T4 Tt)) [.no, .no, .no, .dec true] [4] [] ⟨tr, tr, tr, ⟨tr, b1⟩, tr, tr, tr, tr, tr, tr⟩ ⟨rfl, rfl⟩
    · replace e3 := some_eq e3
      subst e3
      exact AW.rA ⟨[(4, (vc (.bool (decide ((a1.length : Int) > (1048576 : Int))))))], []⟩ (Tt ∧ T2 ((Tt ∧ (decide ((a0.length : Int) > (1048576 : Int))) = false) ∧ Tt ∧ T4 Tt)) [.no, .no, .no, .dec false] [4] [] ⟨tr, tr, tr, ⟨tr, b1⟩, tr, tr, tr, tr, tr, tr⟩ ⟨rfl, rfl⟩
  refine thenQ_normal ?_
  refine AW.ret ?_
  replace h := some_eq h
  subst h
  exact ⟨.inr rfl, retOK_of [(.one (.c (.bool j2)))] (by kernel_rfl) ⟨⟨rfl, tr⟩, tr⟩ (of_decide_eq_true (by kernel_rfl))⟩

/-! spec.l00From -/
theorem mk_spec_l00From : MkOK Try.prog 15 61 [(.i64, 0), (.u64, 0)] := by
  refine mkOK_of Try.func15 rfl (by kernel_rfl) fun w ad n cap => ?_
  refine wp_seq (wp_region_lit (wpList_val (x := (.pointer none)) (w' := w) rfl (by kernel_rfl) (wpList_nil ?_)))
  refine wp_seq (wp_region_lit (wpList_val (x := (.slice ad n cap)) (w' := w) rfl (by kernel_rfl) (wpList_val (x := (.agg #[(.slice ad n cap), .int .i64 0, .int .u64 0])) (w' := w) rfl (by kernel_rfl) (wpList_val (x := (.pointer (some ⟨w.heap.size, 0, none⟩))) (w' := (w.alloc (.cells #[(.slice ad n cap), .int .i64 0, .int .u64 0] 61))) rfl (by kernel_rfl) (wpList_val (x := (.pointer (some ⟨w.heap.size, 0, none⟩))) (w' := (w.alloc (.cells #[(.slice ad n cap), .int .i64 0, .int .u64 0] 61))) rfl (by kernel_rfl) (wpList_nil ?_))))))
  exact wp_ret ⟨rfl, (.pointer (some ⟨w.heap.size, 0, none⟩)), (by kernel_rfl), _, rfl, rfl, rfl⟩



/-! (*spec.l00Src).next -/
def spec_l00Src_next (_K : Nat) (a0 : l00Src) : Option (Int × Int × Int) :=
  ite2 ((decide (a0.at_ < (a0.code.length : Int)))) (chk (0 ≤ a0.at_ ∧ a0.at_ < (a0.code.length : Int)) (ite2 ((decide ((IntKind.i64.wrap (a0.at_ + (1 : Int))) ≤ (a0.code.length : Int)))) (some ((IntKind.i64.wrap (a0.code.getD a0.at_.toNat default)), (IntKind.i64.wrap (a0.at_ + (1 : Int))), (IntKind.u64.wrap ((IntKind.u64.wrap ((IntKind.u64.wrap (a0.seed * (6364136223846793005 : Int))) + (IntKind.u64.wrap (IntKind.i64.wrap (a0.code.getD a0.at_.toNat default))))) + (1442695040888963407 : Int))))) (chk (0 ≤ (40 : Int)) (some ((IntKind.i64.wrap (bits .and .u64 ((IntKind.u64.wrap ((IntKind.u64.wrap ((IntKind.u64.wrap (a0.seed * (6364136223846793005 : Int))) + (IntKind.u64.wrap (IntKind.i64.wrap (a0.code.getD a0.at_.toNat default))))) + (1442695040888963407 : Int))).fdiv (2 ^ (min (40 : Int).toNat (IntKind.bits .u64)))) (255 : Int))), (IntKind.i64.wrap (a0.at_ + (1 : Int))), (IntKind.u64.wrap ((IntKind.u64.wrap ((IntKind.u64.wrap (a0.seed * (6364136223846793005 : Int))) + (IntKind.u64.wrap (IntKind.i64.wrap (a0.code.getD a0.at_.toNat default))))) + (1442695040888963407 : Int)))))))) (ite2 ((decide ((IntKind.i64.wrap (a0.at_ + (1 : Int))) ≤ (a0.code.length : Int)))) (some ((0 : Int), (IntKind.i64.wrap (a0.at_ + (1 : Int))), (IntKind.u64.wrap ((IntKind.u64.wrap ((IntKind.u64.wrap (a0.seed * (6364136223846793005 : Int))) + (IntKind.u64.wrap (0 : Int)))) + (1442695040888963407 : Int))))) (chk (0 ≤ (40 : Int)) (some ((IntKind.i64.wrap (bits .and .u64 ((IntKind.u64.wrap ((IntKind.u64.wrap ((IntKind.u64.wrap (a0.seed * (6364136223846793005 : Int))) + (IntKind.u64.wrap (0 : Int)))) + (1442695040888963407 : Int))).fdiv (2 ^ (min (40 : Int).toNat (IntKind.bits .u64)))) (255 : Int))), (IntKind.i64.wrap (a0.at_ + (1 : Int))), (IntKind.u64.wrap ((IntKind.u64.wrap ((IntKind.u64.wrap (a0.seed * (6364136223846793005 : Int))) + (IntKind.u64.wrap (0 : Int)))) + (1442695040888963407 : Int)))))))

theorem ok_spec_l00Src_next (K : Nat) (a0 : l00Src) (o : (Int × Int × Int)) (h : spec_l00Src_next K a0 = some o) : MutOK Try.prog 27 [(.box 3 (fun j => [true, false, false].getD j true) (fun j => (cs_l00Src a0).getD j .nilptr) (fun j => [.nilptr, (.int .i64 o.2.1), (.int .u64 o.2.2)].getD j .nilptr))] [.one (.int .i64 o.1)] := by
  refine mutOK_of_AW 1 Try.func27 rfl (by kernel_rfl) (Nat.le_of_ble_eq_true (by kernel_rfl)) (by kernel_rfl) (by kernel_rfl) ?_
  intro w0 K0 v0 s0
  unfold spec_l00Src_next at h
  refine AW.weak (s' := ⟨[(0, (vp 0 0))], [(0, (.box [(.fx 0 0 (sl 1 (csI .u8) a0.code)), (.c (.int .i64 a0.at_)), (.c (.int .u64 a0.seed))]))]⟩) (subUnfx 0 [1, 2] (by kernel_rfl)) ?_
  refine AW.seq (AW.rA ⟨[(0, (vp 0 0))], [(0, (.box [(.fx 0 0 (sl 1 (csI .u8) a0.code)), (.c (.int .i64 a0.at_)), (.c (.int .u64 a0.seed))]))]⟩ (Tt ∧ Tt) [] [0] [0] ⟨tr, tr⟩ (thenQ_normal ?_))
  refine AW.seq (AW.rA ⟨[(0, (vp 0 0)), (3, (vc (.int .i64 (0 : Int))))], [(0, (.box [(.fx 0 0 (sl 1 (csI .u8) a0.code)), (.c (.int .i64 a0.at_)), (.c (.int .u64 a0.seed))]))]⟩ (Tt ∧ Tt) [] [0, 3] [0] ⟨tr, tr⟩ (thenQ_normal ?_))
  refine AW.seq ?_
  refine AW.seq (AW.dA ⟨[(0, (vp 0 0)), (3, (vc (.int .i64 (0 : Int)))), (13, (vc (.bool (decide (a0.at_ < (a0.code.length : Int))))))], [(0, (.box [(.fx 0 0 (sl 1 (csI .u8) a0.code)), (.c (.int .i64 a0.at_)), (.c (.int .u64 a0.seed))]))]⟩ ((T2 (T4 (T4 Tt))) ∧ (Tt)) 10 [] [0, 3, 13] [0] ⟨⟨tr, tr, tr, tr, tr, tr, tr, tr, tr, tr, tr⟩, tr⟩ (thenQ_normal ?_))
  rcases ite2_cases h with ⟨b1, h⟩ | ⟨b1, h⟩
  · refine AW.cond_t rfl b1 ?_
    obtain ⟨c2, h⟩ := chk_some h
    refine AW.dA ⟨[(0, (vp 0 0)), (3, (vc (.int .i64 (IntKind.i64.wrap (a0.code.getD a0.at_.toNat default)))))], [(0, (.box [(.fx 0 0 (sl 1 (csI .u8) a0.code)), (.c (.int .i64 a0.at_)), (.c (.int .u64 a0.seed))]))]⟩ ((T4 (T4 ((0 ≤ a0.at_ ∧ a0.at_ < (a0.code.length : Int)) ∧ Tt ∧ T2 Tt))) ∧ (Tt)) 12 [] [0, 3] [0] ⟨⟨tr, tr, tr, tr, tr, tr, tr, tr, c2, tr, tr, tr, tr⟩, tr⟩ ?_
    refine thenQ_normal ?_
    refine AW.seq (AW.rA ⟨[(0, (vp 0 0)), (3, (vc (.int .i64 (IntKind.i64.wrap (a0.code.getD a0.at_.toNat default)))))], [(0, (.box [(.fx 0 0 (sl 1 (csI .u8) a0.code)), (.c (.int .i64 (IntKind.i64.wrap (a0.at_ + (1 : Int))))), (.c (.int .u64 a0.seed))]))]⟩ (T4 (T4 Tt)) [] [0, 3] [0] ⟨tr, tr, tr, tr, tr, tr, tr, tr, tr⟩ (thenQ_normal ?_))
    refine AW.seq (AW.rA ⟨[(0, (vp 0 0)), (3, (vc (.int .i64 (IntKind.i64.wrap (a0.code.getD a0.at_.toNat default)))))], [(0, (.box [(.fx 0 0 (sl 1 (csI .u8) a0.code)), (.c (.int .i64 (IntKind.i64.wrap (a0.at_ + (1 : Int))))), (.c (.int .u64 (IntKind.u64.wrap ((IntKind.u64.wrap ((IntKind.u64.wrap (a0.seed * (6364136223846793005 : Int))) + (IntKind.u64.wrap (IntKind.i64.wrap (a0.code.getD a0.at_.toNat default))))) + (1442695040888963407 : Int)))))]))]⟩ (Tt ∧ T4 (T4 (T4 Tt))) [] [0, 3] [0] ⟨tr, tr, tr, tr, tr, tr, tr, tr, tr, tr, tr, tr, tr, tr⟩ (thenQ_normal ?_))
    refine AW.seq ?_
    refine AW.seq (AW.dA ⟨[(0, (vp 0 0)), (3, (vc (.int .i64 (IntKind.i64.wrap (a0.code.getD a0.at_.toNat default))))), (53, (vc (.bool (decide ((IntKind.i64.wrap (a0.at_ + (1 : Int))) ≤ (a0.code.length : Int))))))], [(0, (.box [(.fx 0 0 (sl 1 (csI .u8) a0.code)), (.c (.int .i64 (IntKind.i64.wrap (a0.at_ + (1 : Int))))), (.c (.int .u64 (IntKind.u64.wrap ((IntKind.u64.wrap ((IntKind.u64.wrap (a0.seed * (6364136223846793005 : Int))) + (IntKind.u64.wrap (IntKind.i64.wrap (a0.code.getD a0.at_.toNat default))))) + (1442695040888963407 : Int)))))]))]⟩ ((T2 (T4 (T4 Tt))) ∧ (Tt)) 10 [] [0, 3, 53] [0] ⟨⟨tr, tr, tr, tr, tr, tr, tr, tr, tr, tr, tr⟩, tr⟩ (thenQ_normal ?_))
    rcases ite2_cases h with ⟨b3, h⟩ | ⟨b3, h⟩
    · refine AW.cond_t rfl b3 ?_
      refine AW.seq (AW.rA ⟨[(0, (vp 0 0)), (2, (vc (.int .i64 (IntKind.i64.wrap (a0.code.getD a0.at_.toNat default)))))], [(0, (.box [(.fx 0 0 (sl 1 (csI .u8) a0.code)), (.c (.int .i64 (IntKind.i64.wrap (a0.at_ + (1 : Int))))), (.c (.int .u64 (IntKind.u64.wrap ((IntKind.u64.wrap ((IntKind.u64.wrap (a0.seed * (6364136223846793005 : Int))) + (IntKind.u64.wrap (IntKind.i64.wrap (a0.code.getD a0.at_.toNat default))))) + (1442695040888963407 : Int)))))]))]⟩ (T2 Tt) [] [0, 2] [0] ⟨tr, tr, tr⟩ (thenQ_normal ?_))
      refine AW.ret ?_
      refine thenQ_ret ?_
      replace h := some_eq h
      subst h
      exact ⟨.inr rfl, retOK_of [(.one (.c (.int .i64 (IntKind.i64.wrap (a0.code.getD a0.at_.toNat default)))))] (by kernel_rfl) ⟨⟨rfl, tr⟩, tr⟩ (of_decide_eq_true (by kernel_rfl)), by kernel_rfl, ⟨⟨rfl, ⟨⟨rfl, rfl⟩, ⟨rfl, rfl⟩, ⟨rfl, rfl⟩, tr⟩⟩, tr⟩⟩
    · refine AW.cond_f rfl b3 ?_
      refine AW.skip ?_
      refine thenQ_normal ?_
      refine AW.seq ?_
      obtain ⟨c4, h⟩ := chk_some h
      refine AW.rA ⟨[(0, (vp 0 0)), (2, (vc (.int .i64 (IntKind.i64.wrap (bits .and .u64 ((IntKind.u64.wrap ((IntKind.u64.wrap ((IntKind.u64.wrap (a0.seed * (6364136223846793005 : Int))) + (IntKind.u64.wrap (IntKind.i64.wrap (a0.code.getD a0.at_.toNat default))))) + (1442695040888963407 : Int))).fdiv (2 ^ (min (40 : Int).toNat (IntKind.bits .u64)))) (255 : Int))))))], [(0, (.box [(.fx 0 0 (sl 1 (csI .u8) a0.code)), (.c (.int .i64 (IntKind.i64.wrap (a0.at_ + (1 : Int))))), (.c (.int .u64 (IntKind.u64.wrap ((IntKind.u64.wrap ((IntKind.u64.wrap (a0.seed * (6364136223846793005 : Int))) + (IntKind.u64.wrap (IntKind.i64.wrap (a0.code.getD a0.at_.toNat default))))) + (1442695040888963407 : Int)))))]))]⟩ (T4 ((0 ≤ (40 : Int)) ∧ Tt ∧ T2 Tt)) [] [0, 2] [0] ⟨tr, tr, tr, tr, c4, tr, tr, tr, tr⟩ ?_
      refine thenQ_normal ?_
      refine AW.ret ?_
      replace h := some_eq h
      subst h
      exact ⟨.inr rfl, retOK_of [(.one (.c (.int .i64 (IntKind.i64.wrap (bits .and .u64 ((IntKind.u64.wrap ((IntKind.u64.wrap ((IntKind.u64.wrap (a0.seed * (6364136223846793005 : Int))) + (IntKind.u64.wrap (IntKind.i64.wrap (a0.code.getD a0.at_.toNat default))))) + (1442695040888963407 : Int))).fdiv (2 ^ (min (40 : Int).toNat (IntKind.bits .u64)))) (255 : Int))))))] (by kernel_rfl) ⟨⟨rfl, tr⟩, tr⟩ (of_decide_eq_true (by kernel_rfl)), by kernel_rfl, ⟨⟨rfl, ⟨⟨rfl, rfl⟩, ⟨rfl, rfl⟩, ⟨rfl, rfl⟩, tr⟩⟩, tr⟩⟩
  · refine AW.cond_f rfl b1 ?_
    refine AW.skip ?_
    refine thenQ_normal ?_
    refine AW.seq (AW.rA ⟨[(0, (vp 0 0)), (3, (vc (.int .i64 (0 : Int))))], [(0, (.box [(.fx 0 0 (sl 1 (csI .u8) a0.code)), (.c (.int .i64 (IntKind.i64.wrap (a0.at_ + (1 : Int))))), (.c (.int .u64 a0.seed))]))]⟩ (T4 (T4 Tt)) [] [0, 3] [0] ⟨tr, tr, tr, tr, tr, tr, tr, tr, tr⟩ (thenQ_normal ?_))
    refine AW.seq (AW.rA ⟨[(0, (vp 0 0)), (3, (vc (.int .i64 (0 : Int))))], [(0, (.box [(.fx 0 0 (sl 1 (csI .u8) a0.code)), (.c (.int .i64 (IntKind.i64.wrap (a0.at_ + (1 : Int))))), (.c (.int .u64 (IntKind.u64.wrap ((IntKind.u64.wrap ((IntKind.u64.wrap (a0.seed * (6364136223846793005 : Int))) + (IntKind.u64.wrap (0 : Int)))) + (1442695040888963407 : Int)))))]))]⟩ (Tt ∧ T4 (T4 (T4 Tt))) [] [0, 3] [0] ⟨tr, tr, tr, tr, tr, tr, tr, tr, tr, tr, tr, tr, tr, tr⟩ (thenQ_normal ?_))
    refine AW.seq ?_
    refine AW.seq (AW.dA ⟨[(0, (vp 0 0)), (3, (vc (.int .i64 (0 : Int)))), (53, (vc (.bool (decide ((IntKind.i64.wrap (a0.at_ + (1 : Int))) ≤ (a0.code.length : Int))))))], [(0, (.box [(.fx 0 0 (sl 1 (csI .u8) a0.code)), (.c (.int .i64 (IntKind.i64.wrap (a0.at_ + (1 : Int))))), (.c (.int .u64 (IntKind.u64.wrap ((IntKind.u64.wrap ((IntKind.u64.wrap (a0.seed * (6364136223846793005 : Int))) + (IntKind.u64.wrap (0 : Int)))) + (1442695040888963407 : Int)))))]))]⟩ ((T2 (T4 (T4 Tt))) ∧ (Tt)) 10 [] [0, 3, 53] [0] ⟨⟨tr, tr, tr, tr, tr, tr, tr, tr, tr, tr, tr⟩, tr⟩ (thenQ_normal ?_))
    rcases ite2_cases h with ⟨b5, h⟩ | ⟨b5, h⟩
    · refine AW.cond_t rfl b5 ?_
      refine AW.seq (AW.rA ⟨[(0, (vp 0 0)), (2, (vc (.int .i64 (0 : Int))))], [(0, (.box [(.fx 0 0 (sl 1 (csI .u8) a0.code)), (.c (.int .i64 (IntKind.i64.wrap (a0.at_ + (1 : Int))))), (.c (.int .u64 (IntKind.u64.wrap ((IntKind.u64.wrap ((IntKind.u64.wrap (a0.seed * (6364136223846793005 : Int))) + (IntKind.u64.wrap (0 : Int)))) + (1442695040888963407 : Int)))))]))]⟩ (T2 Tt) [] [0, 2] [0] ⟨tr, tr, tr⟩ (thenQ_normal ?_))
      refine AW.ret ?_
      refine thenQ_ret ?_
      replace h := some_eq h
      subst h
      exact ⟨.inr rfl, retOK_of [(.one (.c (.int .i64 (0 : Int))))] (by kernel_rfl) ⟨⟨rfl, tr⟩, tr⟩ (of_decide_eq_true (by kernel_rfl)), by kernel_rfl, ⟨⟨rfl, ⟨⟨rfl, rfl⟩, ⟨rfl, rfl⟩, ⟨rfl, rfl⟩, tr⟩⟩, tr⟩⟩
    · refine AW.cond_f rfl b5 ?_
      refine AW.skip ?_
      refine thenQ_normal ?_
      refine AW.seq ?_
      obtain ⟨c6, h⟩ := chk_some h
      refine AW.rA ⟨[(0, (vp 0 0)), (2, (vc (.int .i64 (IntKind.i64.wrap (bits .and .u64 ((IntKind.u64.wrap ((IntKind.u64.wrap ((IntKind.u64.wrap (a0.seed * (6364136223846793005 : Int))) + (IntKind.u64.wrap (0 : Int)))) + (1442695040888963407 : Int))).fdiv (2 ^ (min (40 : Int).toNat (IntKind.bits .u64)))) (255 : Int))))))], [(0, (.box [(.fx 0 0 (sl 1 (csI .u8) a0.code)), (.c (.int .i64 (IntKind.i64.wrap (a0.at_ + (1 : Int))))), (.c (.int .u64 (IntKind.u64.wrap ((IntKind.u64.wrap ((IntKind.u64.wrap (a0.seed * (6364136223846793005 : Int))) + (IntKind.u64.wrap (0 : Int)))) + (1442695040888963407 : Int)))))]))]⟩ (T4 ((0 ≤ (40 : Int)) ∧ Tt ∧ T2 Tt)) [] [0, 2] [0] ⟨tr, tr, tr, tr, c6, tr, tr, tr, tr⟩ ?_
      refine thenQ_normal ?_
      refine AW.ret ?_
      replace h := some_eq h
      subst h
      exact ⟨.inr rfl, retOK_of [(.one (.c (.int .i64 (IntKind.i64.wrap (bits .and .u64 ((IntKind.u64.wrap ((IntKind.u64.wrap ((IntKind.u64.wrap (a0.seed * (6364136223846793005 : Int))) + (IntKind.u64.wrap (0 : Int)))) + (1442695040888963407 : Int))).fdiv (2 ^ (min (40 : Int).toNat (IntKind.bits .u64)))) (255 : Int))))))] (by kernel_rfl) ⟨⟨rfl, tr⟩, tr⟩ (of_decide_eq_true (by kernel_rfl)), by kernel_rfl, ⟨⟨rfl, ⟨⟨rfl, rfl⟩, ⟨rfl, rfl⟩, ⟨rfl, rfl⟩, tr⟩⟩, tr⟩⟩

/-! (*spec.l00Src).pick -/
def spec_l00Src_pick (K : Nat) (a0 : l00Src) (a1 : Int) : Option (Int × Int × Int) :=
  ite2 ((decide (a1 ≤ (1 : Int)))) (some ((0 : Int), a0.at_, a0.seed)) ((spec_l00Src_next K a0).bind fun v2 => ite2 ((decide (a1 > (200 : Int)))) ((spec_l00Src_next K (l00Src.mk a0.code v2.2.1 v2.2.2)).bind fun v5 => chk (a1 ≠ 0) (some (((IntKind.i64.wrap ((IntKind.i64.wrap (v2.1 * (256 : Int))) + v5.1)).tmod a1), v5.2.1, v5.2.2))) (chk (a1 ≠ 0) (some ((v2.1.tmod a1), v2.2.1, v2.2.2))))

theorem ok_spec_l00Src_pick (K : Nat) (a0 : l00Src) (a1 : Int) (o : (Int × Int × Int)) (h : spec_l00Src_pick K a0 a1 = some o) : MutOK Try.prog 17 [(.box 3 (fun j => [true, false, false].getD j true) (fun j => (cs_l00Src a0).getD j .nilptr) (fun j => [.nilptr, (.int .i64 o.2.1), (.int .u64 o.2.2)].getD j .nilptr)), (.one (.ro (.int .i64 a1)))] [.one (.int .i64 o.1)] := by
  refine mutOK_of_AW 1 Try.func17 rfl (by kernel_rfl) (Nat.le_of_ble_eq_true (by kernel_rfl)) (by kernel_rfl) (by kernel_rfl) ?_
  intro w0 K0 v0 s0
  unfold spec_l00Src_pick at h
  refine AW.weak (s' := ⟨[(0, (vp 0 0)), (1, (vc (.int .i64 a1)))], [(0, (.box [(.fx 0 0 (sl 1 (csI .u8) a0.code)), (.c (.int .i64 a0.at_)), (.c (.int .u64 a0.seed))]))]⟩) (subUnfx 0 [1, 2] (by kernel_rfl)) ?_
  refine AW.seq (AW.rA ⟨[(0, (vp 0 0)), (1, (vc (.int .i64 a1)))], [(0, (.box [(.fx 0 0 (sl 1 (csI .u8) a0.code)), (.c (.int .i64 a0.at_)), (.c (.int .u64 a0.seed))]))]⟩ (Tt ∧ Tt) [] [0, 1] [0] ⟨tr, tr⟩ (thenQ_normal ?_))
  refine AW.seq ?_
  refine AW.seq (AW.rA ⟨[(0, (vp 0 0)), (1, (vc (.int .i64 a1))), (7, (vc (.bool (decide (a1 ≤ (1 : Int))))))], [(0, (.box [(.fx 0 0 (sl 1 (csI .u8) a0.code)), (.c (.int .i64 a0.at_)), (.c (.int .u64 a0.seed))]))]⟩ (T2 Tt) [] [0, 1, 7] [0] ⟨tr, tr, tr⟩ (thenQ_normal ?_))
  rcases ite2_cases h with ⟨b1, h⟩ | ⟨b1, h⟩
  · refine AW.cond_t rfl b1 ?_
    refine AW.seq (AW.rA ⟨[(0, (vp 0 0)), (1, (vc (.int .i64 a1))), (4, (vc (.int .i64 (0 : Int))))], [(0, (.box [(.fx 0 0 (sl 1 (csI .u8) a0.code)), (.c (.int .i64 a0.at_)), (.c (.int .u64 a0.seed))]))]⟩ (Tt ∧ Tt) [] [0, 1, 4] [0] ⟨tr, tr⟩ (thenQ_normal ?_))
    refine AW.ret ?_
    refine thenQ_ret ?_
    replace h := some_eq h
    subst h
    exact ⟨.inr rfl, retOK_of [(.one (.c (.int .i64 (0 : Int))))] (by kernel_rfl) ⟨⟨rfl, tr⟩, tr⟩ (of_decide_eq_true (by kernel_rfl)), by kernel_rfl, ⟨⟨rfl, ⟨⟨rfl, rfl⟩, ⟨rfl, rfl⟩, ⟨rfl, rfl⟩, tr⟩⟩, tr, tr⟩⟩
  · refine AW.cond_f rfl b1 ?_
    refine AW.skip ?_
    refine thenQ_normal ?_
    refine AW.seq ?_
    obtain ⟨v2, e3, h⟩ := bind_some h
    refine AW.rA ⟨[(0, (vp 0 0)), (1, (vc (.int .i64 a1))), (5, (vc (.int .i64 v2.1)))], [(0, (.box [(.fx 0 0 (sl 1 (csI .u8) a0.code)), (.c (.int .i64 v2.2.1)), (.c (.int .u64 v2.2.2))]))]⟩ (Tt ∧ ((((Eqc (sl 1 (csI .u8) a0.code)) ∧ (Eqc (.int .i64 a0.at_)) ∧ (Eqc (.int .u64 a0.seed)) ∧ Tt) ∧ Tt) ∧ MutOK Try.prog 27 [(.box 3 (fun j => [true, false, false].getD j true) (fun j => (cs_l00Src a0).getD j .nilptr) (fun j => [.nilptr, (.int .i64 v2.2.1), (.int .u64 v2.2.2)].getD j .nilptr))] [.one (.int .i64 v2.1)]) ∧ Tt ∧ Tt) [.no, .callM [(.box 3 (fun j => [true, false, false].getD j true) (fun j => (cs_l00Src a0).getD j .nilptr) (fun j => [.nilptr, (.int .i64 v2.2.1), (.int .u64 v2.2.2)].getD j .nilptr))] [.one (.int .i64 v2.1)] [[.view]] none] [0, 1, 5] [0] ⟨tr, ⟨⟨⟨rfl, rfl, rfl, tr⟩, tr⟩, ok_spec_l00Src_next K a0 v2 e3⟩, tr, tr⟩ ?_
    refine thenQ_normal ?_
    refine AW.seq ?_
    refine AW.seq (AW.rA ⟨[(0, (vp 0 0)), (1, (vc (.int .i64 a1))), (5, (vc (.int .i64 v2.1))), (11, (vc (.bool (decide (a1 > (200 : Int))))))], [(0, (.box [(.fx 0 0 (sl 1 (csI .u8) a0.code)), (.c (.int .i64 v2.2.1)), (.c (.int .u64 v2.2.2))]))]⟩ (T2 Tt) [] [0, 1, 5, 11] [0] ⟨tr, tr, tr⟩ (thenQ_normal ?_))
    rcases ite2_cases h with ⟨b4, h⟩ | ⟨b4, h⟩
    · refine AW.cond_t rfl b4 ?_
      obtain ⟨v5, e6, h⟩ := bind_some h
      refine AW.rA ⟨[(0, (vp 0 0)), (1, (vc (.int .i64 a1))), (5, (vc (.int .i64 (IntKind.i64.wrap ((IntKind.i64.wrap (v2.1 * (256 : Int))) + v5.1)))))], [(0, (.box [(.fx 0 0 (sl 1 (csI .u8) a0.code)), (.c (.int .i64 v5.2.1)), (.c (.int .u64 v5.2.2))]))]⟩ (Tt ∧ T2 (((((Eqc (sl 1 (csI .u8) a0.code)) ∧ (Eqc (.int .i64 v2.2.1)) ∧ (Eqc (.int .u64 v2.2.2)) ∧ Tt) ∧ Tt) ∧ MutOK Try.prog 27 [(.box 3 (fun j => [true, false, false].getD j true) (fun j => (cs_l00Src (l00Src.mk a0.code v2.2.1 v2.2.2)).getD j .nilptr) (fun j => [.nilptr, (.int .i64 v5.2.1), (.int .u64 v5.2.2)].getD j .nilptr))] [.one (.int .i64 v5.1)]) ∧ T2 Tt)) [.no, .no, .no, .callM [(.box 3 (fun j => [true, false, false].getD j true) (fun j => (cs_l00Src (l00Src.mk a0.code v2.2.1 v2.2.2)).getD j .nilptr) (fun j => [.nilptr, (.int .i64 v5.2.1), (.int .u64 v5.2.2)].getD j .nilptr))] [.one (.int .i64 v5.1)] [[.view]] none] [0, 1, 5] [0] ⟨tr, tr, tr, ⟨⟨⟨rfl, rfl, rfl, tr⟩, tr⟩, ok_spec_l00Src_next K (l00Src.mk a0.code v2.2.1 v2.2.2) v5 e6⟩, tr, tr, tr⟩ ?_
      refine thenQ_normal ?_
      refine AW.seq ?_
      obtain ⟨c7, h⟩ := chk_some h
      refine AW.rA ⟨[(0, (vp 0 0)), (1, (vc (.int .i64 a1))), (4, (vc (.int .i64 ((IntKind.i64.wrap ((IntKind.i64.wrap (v2.1 * (256 : Int))) + v5.1)).tmod a1))))], [(0, (.box [(.fx 0 0 (sl 1 (csI .u8) a0.code)), (.c (.int .i64 v5.2.1)), (.c (.int .u64 v5.2.2))]))]⟩ (T2 ((a1 ≠ 0) ∧ Tt ∧ Tt)) [] [0, 1, 4] [0] ⟨tr, tr, c7, tr, tr⟩ ?_
      refine thenQ_normal ?_
      refine AW.ret ?_
      replace h := some_eq h
      subst h
      exact ⟨.inr rfl, retOK_of [(.one (.c (.int .i64 ((IntKind.i64.wrap ((IntKind.i64.wrap (v2.1 * (256 : Int))) + v5.1)).tmod a1))))] (by kernel_rfl) ⟨⟨rfl, tr⟩, tr⟩ (of_decide_eq_true (by kernel_rfl)), by kernel_rfl, ⟨⟨rfl, ⟨⟨rfl, rfl⟩, ⟨rfl, rfl⟩, ⟨rfl, rfl⟩, tr⟩⟩, tr, tr⟩⟩
    · refine AW.cond_f rfl b4 ?_
      refine AW.skip ?_
      refine thenQ_normal ?_
      refine AW.seq ?_
      obtain ⟨c8, h⟩ := chk_some h
      refine AW.rA ⟨[(0, (vp 0 0)), (1, (vc (.int .i64 a1))), (4, (vc (.int .i64 (v2.1.tmod a1))))], [(0, (.box [(.fx 0 0 (sl 1 (csI .u8) a0.code)), (.c (.int .i64 v2.2.1)), (.c (.int .u64 v2.2.2))]))]⟩ (T2 ((a1 ≠ 0) ∧ Tt ∧ Tt)) [] [0, 1, 4] [0] ⟨tr, tr, c8, tr, tr⟩ ?_
      refine thenQ_normal ?_
      refine AW.ret ?_
      replace h := some_eq h
      subst h
      exact ⟨.inr rfl, retOK_of [(.one (.c (.int .i64 (v2.1.tmod a1))))] (by kernel_rfl) ⟨⟨rfl, tr⟩, tr⟩ (of_decide_eq_true (by kernel_rfl)), by kernel_rfl, ⟨⟨rfl, ⟨⟨rfl, rfl⟩, ⟨rfl, rfl⟩, ⟨rfl, rfl⟩, tr⟩⟩, tr, tr⟩⟩

/-! (*spec.l00Src).one -/
def spec_l00Src_one (K : Nat) (a0 : l00Src) (a1 : Int) : Option (Bool × Int × Int) :=
  (spec_l00Src_pick K a0 a1).bind fun v1 => some ((v1.1 == (0 : Int)), v1.2.1, v1.2.2)

theorem ok_spec_l00Src_one (K : Nat) (a0 : l00Src) (a1 : Int) (o : (Bool × Int × Int)) (h : spec_l00Src_one K a0 a1 = some o) : MutOK Try.prog 25 [(.box 3 (fun j => [true, false, false].getD j true) (fun j => (cs_l00Src a0).getD j .nilptr) (fun j => [.nilptr, (.int .i64 o.2.1), (.int .u64 o.2.2)].getD j .nilptr)), (.one (.ro (.int .i64 a1)))] [.one (.bool o.1)] := by
  refine mutOK_of_AW 1 Try.func25 rfl (by kernel_rfl) (Nat.le_of_ble_eq_true (by kernel_rfl)) (by kernel_rfl) (by kernel_rfl) ?_
  intro w0 K0 v0 s0
  unfold spec_l00Src_one at h
  refine AW.weak (s' := ⟨[(0, (vp 0 0)), (1, (vc (.int .i64 a1)))], [(0, (.box [(.fx 0 0 (sl 1 (csI .u8) a0.code)), (.c (.int .i64 a0.at_)), (.c (.int .u64 a0.seed))]))]⟩) (subUnfx 0 [1, 2] (by kernel_rfl)) ?_
  refine AW.seq (AW.rA ⟨[(0, (vp 0 0)), (1, (vc (.int .i64 a1)))], [(0, (.box [(.fx 0 0 (sl 1 (csI .u8) a0.code)), (.c (.int .i64 a0.at_)), (.c (.int .u64 a0.seed))]))]⟩ (Tt ∧ Tt) [] [0, 1] [0] ⟨tr, tr⟩ (thenQ_normal ?_))
  refine AW.seq ?_
  obtain ⟨v1, e2, h⟩ := bind_some h
  refine AW.rA ⟨[(0, (vp 0 0)), (1, (vc (.int .i64 a1))), (4, (vc (.bool (v1.1 == (0 : Int)))))], [(0, (.box [(.fx 0 0 (sl 1 (csI .u8) a0.code)), (.c (.int .i64 v1.2.1)), (.c (.int .u64 v1.2.2))]))]⟩ (T2 (((((Eqc (sl 1 (csI .u8) a0.code)) ∧ (Eqc (.int .i64 a0.at_)) ∧ (Eqc (.int .u64 a0.seed)) ∧ Tt) ∧ (Eqc (.int .i64 a1)) ∧ Tt) ∧ MutOK Try.prog 17 [(.box 3 (fun j => [true, false, false].getD j true) (fun j => (cs_l00Src a0).getD j .nilptr) (fun j => [.nilptr, (.int .i64 v1.2.1), (.int .u64 v1.2.2)].getD j .nilptr)), .one (.ro (.int .i64 a1))] [.one (.int .i64 v1.1)]) ∧ T2 Tt)) [.no, .no, .callM [(.box 3 (fun j => [true, false, false].getD j true) (fun j => (cs_l00Src a0).getD j .nilptr) (fun j => [.nilptr, (.int .i64 v1.2.1), (.int .u64 v1.2.2)].getD j .nilptr)), .one (.ro (.int .i64 a1))] [.one (.int .i64 v1.1)] [[.view]] none] [0, 1, 4] [0] ⟨tr, tr, ⟨⟨⟨rfl, rfl, rfl, tr⟩, rfl, tr⟩, ok_spec_l00Src_pick K a0 a1 v1 e2⟩, tr, tr, tr⟩ ?_
  refine thenQ_normal ?_
  refine AW.ret ?_
  replace h := some_eq h
  subst h
  exact ⟨.inr rfl, retOK_of [(.one (.c (.bool (v1.1 == (0 : Int)))))] (by kernel_rfl) ⟨⟨rfl, tr⟩, tr⟩ (of_decide_eq_true (by kernel_rfl)), by kernel_rfl, ⟨⟨rfl, ⟨⟨rfl, rfl⟩, ⟨rfl, rfl⟩, ⟨rfl, rfl⟩, tr⟩⟩, tr, tr⟩⟩

/-! spec.l01DrawSmall -/
def spec_l01DrawSmall (K : Nat) (a0 : l00Src) : Option (F32 × Int × Int) :=
  (spec_l00Src_pick K a0 (33 : Int)).bind fun v1 => some (((Fl.ofInt .f32 (IntKind.i64.wrap (v1.1 - (16 : Int)))).div (Fl.mk (k := .f32) 1082130432 (by decide))), v1.2.1, v1.2.2)

theorem ok_spec_l01DrawSmall (K : Nat) (a0 : l00Src) (o : (F32 × Int × Int)) (h : spec_l01DrawSmall K a0 = some o) : MutOK Try.prog 37 [(.box 3 (fun j => [true, false, false].getD j true) (fun j => (cs_l00Src a0).getD j .nilptr) (fun j => [.nilptr, (.int .i64 o.2.1), (.int .u64 o.2.2)].getD j .nilptr))] [.one (.flt .f32 o.1.bits)] := by
  refine mutOK_of_AW 1 Try.func37 rfl (by kernel_rfl) (Nat.le_of_ble_eq_true (by kernel_rfl)) (by kernel_rfl) (by kernel_rfl) ?_
  intro w0 K0 v0 s0
  unfold spec_l01DrawSmall at h
  refine AW.weak (s' := ⟨[(0, (vp 0 0))], [(0, (.box [(.fx 0 0 (sl 1 (csI .u8) a0.code)), (.c (.int .i64 a0.at_)), (.c (.int .u64 a0.seed))]))]⟩) (subUnfx 0 [1, 2] (by kernel_rfl)) ?_
  refine AW.seq (AW.rA ⟨[(0, (vp 0 0))], [(0, (.box [(.fx 0 0 (sl 1 (csI .u8) a0.code)), (.c (.int .i64 a0.at_)), (.c (.int .u64 a0.seed))]))]⟩ (Tt ∧ Tt) [] [0] [0] ⟨tr, tr⟩ (thenQ_normal ?_))
  refine AW.seq ?_
  obtain ⟨v1, e2, h⟩ := bind_some h
  refine AW.rA ⟨[(0, (vp 0 0)), (2, (vc (.flt .f32 ((Fl.ofInt .f32 (IntKind.i64.wrap (v1.1 - (16 : Int)))).div (Fl.mk (k := .f32) 1082130432 (by decide))).bits)))], [(0, (.box [(.fx 0 0 (sl 1 (csI .u8) a0.code)), (.c (.int .i64 v1.2.1)), (.c (.int .u64 v1.2.2))]))]⟩ (Tt ∧ ((((Eqc (sl 1 (csI .u8) a0.code)) ∧ (Eqc (.int .i64 a0.at_)) ∧ (Eqc (.int .u64 a0.seed)) ∧ Tt) ∧ (Eqc (.int .i64 (33 : Int))) ∧ Tt) ∧ MutOK Try.prog 17 [(.box 3 (fun j => [true, false, false].getD j true) (fun j => (cs_l00Src a0).getD j .nilptr) (fun j => [.nilptr, (.int .i64 v1.2.1), (.int .u64 v1.2.2)].getD j .nilptr)), .one (.ro (.int .i64 (33 : Int)))] [.one (.int .i64 v1.1)]) ∧ T4 Tt) [.no, .callM [(.box 3 (fun j => [true, false, false].getD j true) (fun j => (cs_l00Src a0).getD j .nilptr) (fun j => [.nilptr, (.int .i64 v1.2.1), (.int .u64 v1.2.2)].getD j .nilptr)), .one (.ro (.int .i64 (33 : Int)))] [.one (.int .i64 v1.1)] [[.view]] none] [0, 2] [0] ⟨tr, ⟨⟨⟨rfl, rfl, rfl, tr⟩, rfl, tr⟩, ok_spec_l00Src_pick K a0 (33 : Int) v1 e2⟩, tr, tr, tr, tr, tr⟩ ?_
  refine thenQ_normal ?_
  refine AW.ret ?_
  replace h := some_eq h
  subst h
  exact ⟨.inr rfl, retOK_of [(.one (.c (.flt .f32 ((Fl.ofInt .f32 (IntKind.i64.wrap (v1.1 - (16 : Int)))).div (Fl.mk (k := .f32) 1082130432 (by decide))).bits)))] (by kernel_rfl) ⟨⟨rfl, tr⟩, tr⟩ (of_decide_eq_true (by kernel_rfl)), by kernel_rfl, ⟨⟨rfl, ⟨⟨rfl, rfl⟩, ⟨rfl, rfl⟩, ⟨rfl, rfl⟩, tr⟩⟩, tr⟩⟩

/-! spec.l01DrawPlain -/
def spec_l01DrawPlain (K : Nat) (a0 : l00Src) : Option (F32 × Int × Int) :=
  (spec_l00Src_pick K a0 (129 : Int)).bind fun v1 => (spec_l00Src_one K (l00Src.mk a0.code v1.2.1 v1.2.2) (4 : Int)).bind fun v3 => ite2 (v3.1) (some (((Fl.ofInt .f32 (IntKind.i64.wrap (v1.1 - (64 : Int)))).div (Fl.mk (k := .f32) 1088421888 (by decide))), v3.2.1, v3.2.2)) (some (((Fl.ofInt .f32 (IntKind.i64.wrap (v1.1 - (64 : Int)))).div (Fl.mk (k := .f32) 1098907648 (by decide))), v3.2.1, v3.2.2))

theorem ok_spec_l01DrawPlain (K : Nat) (a0 : l00Src) (o : (F32 × Int × Int)) (h : spec_l01DrawPlain K a0 = some o) : MutOK Try.prog 43 [(.box 3 (fun j => [true, false, false].getD j true) (fun j => (cs_l00Src a0).getD j .nilptr) (fun j => [.nilptr, (.int .i64 o.2.1), (.int .u64 o.2.2)].getD j .nilptr))] [.one (.flt .f32 o.1.bits)] := by
  refine mutOK_of_AW 1 Try.func43 rfl (by kernel_rfl) (Nat.le_of_ble_eq_true (by kernel_rfl)) (by kernel_rfl) (by kernel_rfl) ?_
  intro w0 K0 v0 s0
  unfold spec_l01DrawPlain at h
  refine AW.weak (s' := ⟨[(0, (vp 0 0))], [(0, (.box [(.fx 0 0 (sl 1 (csI .u8) a0.code)), (.c (.int .i64 a0.at_)), (.c (.int .u64 a0.seed))]))]⟩) (subUnfx 0 [1, 2] (by kernel_rfl)) ?_
  refine AW.seq (AW.rA ⟨[(0, (vp 0 0))], [(0, (.box [(.fx 0 0 (sl 1 (csI .u8) a0.code)), (.c (.int .i64 a0.at_)), (.c (.int .u64 a0.seed))]))]⟩ (Tt ∧ Tt) [] [0] [0] ⟨tr, tr⟩ (thenQ_normal ?_))
  refine AW.seq ?_
  obtain ⟨v1, e2, h⟩ := bind_some h
  refine AW.rA ⟨[(0, (vp 0 0)), (3, (vc (.int .i64 (IntKind.i64.wrap (v1.1 - (64 : Int))))))], [(0, (.box [(.fx 0 0 (sl 1 (csI .u8) a0.code)), (.c (.int .i64 v1.2.1)), (.c (.int .u64 v1.2.2))]))]⟩ (Tt ∧ ((((Eqc (sl 1 (csI .u8) a0.code)) ∧ (Eqc (.int .i64 a0.at_)) ∧ (Eqc (.int .u64 a0.seed)) ∧ Tt) ∧ (Eqc (.int .i64 (129 : Int))) ∧ Tt) ∧ MutOK Try.prog 17 [(.box 3 (fun j => [true, false, false].getD j true) (fun j => (cs_l00Src a0).getD j .nilptr) (fun j => [.nilptr, (.int .i64 v1.2.1), (.int .u64 v1.2.2)].getD j .nilptr)), .one (.ro (.int .i64 (129 : Int)))] [.one (.int .i64 v1.1)]) ∧ T2 Tt) [.no, .callM [(.box 3 (fun j => [true, false, false].getD j true) (fun j => (cs_l00Src a0).getD j .nilptr) (fun j => [.nilptr, (.int .i64 v1.2.1), (.int .u64 v1.2.2)].getD j .nilptr)), .one (.ro (.int .i64 (129 : Int)))] [.one (.int .i64 v1.1)] [[.view]] none] [0, 3] [0] ⟨tr, ⟨⟨⟨rfl, rfl, rfl, tr⟩, rfl, tr⟩, ok_spec_l00Src_pick K a0 (129 : Int) v1 e2⟩, tr, tr, tr⟩ ?_
  refine thenQ_normal ?_
  refine AW.seq ?_
  refine AW.seq ?_
  obtain ⟨v3, e4, h⟩ := bind_some h
  refine AW.rA ⟨[(0, (vp 0 0)), (3, (vc (.int .i64 (IntKind.i64.wrap (v1.1 - (64 : Int)))))), (8, (vc (.bool v3.1)))], [(0, (.box [(.fx 0 0 (sl 1 (csI .u8) a0.code)), (.c (.int .i64 v3.2.1)), (.c (.int .u64 v3.2.2))]))]⟩ (Tt ∧ ((((Eqc (sl 1 (csI .u8) a0.code)) ∧ (Eqc (.int .i64 v1.2.1)) ∧ (Eqc (.int .u64 v1.2.2)) ∧ Tt) ∧ (Eqc (.int .i64 (4 : Int))) ∧ Tt) ∧ MutOK Try.prog 25 [(.box 3 (fun j => [true, false, false].getD j true) (fun j => (cs_l00Src (l00Src.mk a0.code v1.2.1 v1.2.2)).getD j .nilptr) (fun j => [.nilptr, (.int .i64 v3.2.1), (.int .u64 v3.2.2)].getD j .nilptr)), .one (.ro (.int .i64 (4 : Int)))] [.one (.bool v3.1)]) ∧ Tt) [.no, .callM [(.box 3 (fun j => [true, false, false].getD j true) (fun j => (cs_l00Src (l00Src.mk a0.code v1.2.1 v1.2.2)).getD j .nilptr) (fun j => [.nilptr, (.int .i64 v3.2.1), (.int .u64 v3.2.2)].getD j .nilptr)), .one (.ro (.int .i64 (4 : Int)))] [.one (.bool v3.1)] [[.view]] none] [0, 3, 8] [0] ⟨tr, ⟨⟨⟨rfl, rfl, rfl, tr⟩, rfl, tr⟩, ok_spec_l00Src_one K (l00Src.mk a0.code v1.2.1 v1.2.2) (4 : Int) v3 e4⟩, tr⟩ ?_
  refine thenQ_normal ?_
  rcases ite2_cases h with ⟨b5, h⟩ | ⟨b5, h⟩
  · refine AW.cond_t rfl b5 ?_
    refine AW.seq (AW.rA ⟨[(0, (vp 0 0)), (2, (vc (.flt .f32 ((Fl.ofInt .f32 (IntKind.i64.wrap (v1.1 - (64 : Int)))).div (Fl.mk (k := .f32) 1088421888 (by decide))).bits)))], [(0, (.box [(.fx 0 0 (sl 1 (csI .u8) a0.code)), (.c (.int .i64 v3.2.1)), (.c (.int .u64 v3.2.2))]))]⟩ (T4 Tt) [] [0, 2] [0] ⟨tr, tr, tr, tr, tr⟩ (thenQ_normal ?_))
    refine AW.ret ?_
    refine thenQ_ret ?_
    replace h := some_eq h
    subst h
    exact ⟨.inr rfl, retOK_of [(.one (.c (.flt .f32 ((Fl.ofInt .f32 (IntKind.i64.wrap (v1.1 - (64 : Int)))).div (Fl.mk (k := .f32) 1088421888 (by decide))).bits)))] (by kernel_rfl) ⟨⟨rfl, tr⟩, tr⟩ (of_decide_eq_true (by kernel_rfl)), by kernel_rfl, ⟨⟨rfl, ⟨⟨rfl, rfl⟩, ⟨rfl, rfl⟩, ⟨rfl, rfl⟩, tr⟩⟩, tr⟩⟩
  · refine AW.cond_f rfl b5 ?_
    refine AW.skip ?_
    refine thenQ_normal ?_
    refine AW.seq (AW.rA ⟨[(0, (vp 0 0)), (2, (vc (.flt .f32 ((Fl.ofInt .f32 (IntKind.i64.wrap (v1.1 - (64 : Int)))).div (Fl.mk (k := .f32) 1098907648 (by decide))).bits)))], [(0, (.box [(.fx 0 0 (sl 1 (csI .u8) a0.code)), (.c (.int .i64 v3.2.1)), (.c (.int .u64 v3.2.2))]))]⟩ (T4 Tt) [] [0, 2] [0] ⟨tr, tr, tr, tr, tr⟩ (thenQ_normal ?_))
    refine AW.ret ?_
    replace h := some_eq h
    subst h
    exact ⟨.inr rfl, retOK_of [(.one (.c (.flt .f32 ((Fl.ofInt .f32 (IntKind.i64.wrap (v1.1 - (64 : Int)))).div (Fl.mk (k := .f32) 1098907648 (by decide))).bits)))] (by kernel_rfl) ⟨⟨rfl, tr⟩, tr⟩ (of_decide_eq_true (by kernel_rfl)), by kernel_rfl, ⟨⟨rfl, ⟨⟨rfl, rfl⟩, ⟨rfl, rfl⟩, ⟨rfl, rfl⟩, tr⟩⟩, tr⟩⟩

/-! (*spec.l00Src).among -/
def spec_l00Src_among (K : Nat) (a0 : l00Src) (a1 : (List Int)) : Option (Int × Int × Int) :=
  (spec_l00Src_pick K a0 (a1.length : Int)).bind fun v1 => chk (0 ≤ v1.1 ∧ v1.1 < (a1.length : Int)) (some ((a1.getD v1.1.toNat default), v1.2.1, v1.2.2))

theorem ok_spec_l00Src_among (K : Nat) (a0 : l00Src) (a1 : (List Int)) (o : (Int × Int × Int)) (h : spec_l00Src_among K a0 a1 = some o) : MutOK Try.prog 45 [(.box 3 (fun j => [true, false, false].getD j true) (fun j => (cs_l00Src a0).getD j .nilptr) (fun j => [.nilptr, (.int .i64 o.2.1), (.int .u64 o.2.2)].getD j .nilptr)), (.one (.ro (sl 1 (csI .i64) a1)))] [.one (.int .i64 o.1)] := by
  refine mutOK_of_AW 1 Try.func45 rfl (by kernel_rfl) (Nat.le_of_ble_eq_true (by kernel_rfl)) (by kernel_rfl) (by kernel_rfl) ?_
  intro w0 K0 v0 s0
  unfold spec_l00Src_among at h
  refine AW.weak (s' := ⟨[(0, (vp 0 0)), (1, (vc (sl 1 (csI .i64) a1)))], [(0, (.box [(.fx 0 0 (sl 1 (csI .u8) a0.code)), (.c (.int .i64 a0.at_)), (.c (.int .u64 a0.seed))]))]⟩) (subUnfx 0 [1, 2] (by kernel_rfl)) ?_
  refine AW.seq (AW.rA ⟨[(0, (vp 0 0)), (1, (vc (sl 1 (csI .i64) a1)))], [(0, (.box [(.fx 0 0 (sl 1 (csI .u8) a0.code)), (.c (.int .i64 a0.at_)), (.c (.int .u64 a0.seed))]))]⟩ (Tt ∧ Tt) [] [0, 1] [0] ⟨tr, tr⟩ (thenQ_normal ?_))
  refine AW.seq ?_
  obtain ⟨v1, e2, h⟩ := bind_some h
  obtain ⟨c3, h⟩ := chk_some h
  refine AW.rA ⟨[(0, (vp 0 0)), (1, (vc (sl 1 (csI .i64) a1))), (4, (vc (.int .i64 (a1.getD v1.1.toNat default))))], [(0, (.box [(.fx 0 0 (sl 1 (csI .u8) a0.code)), (.c (.int .i64 v1.2.1)), (.c (.int .u64 v1.2.2))]))]⟩ (T4 (((((Eqc (sl 1 (csI .u8) a0.code)) ∧ (Eqc (.int .i64 a0.at_)) ∧ (Eqc (.int .u64 a0.seed)) ∧ Tt) ∧ (Eqc (.int .i64 (a1.length : Int))) ∧ Tt) ∧ MutOK Try.prog 17 [(.box 3 (fun j => [true, false, false].getD j true) (fun j => (cs_l00Src a0).getD j .nilptr) (fun j => [.nilptr, (.int .i64 v1.2.1), (.int .u64 v1.2.2)].getD j .nilptr)), .one (.ro (.int .i64 (a1.length : Int)))] [.one (.int .i64 v1.1)]) ∧ (0 ≤ v1.1 ∧ v1.1 < (a1.length : Int)) ∧ T2 Tt)) [.no, .no, .no, .no, .callM [(.box 3 (fun j => [true, false, false].getD j true) (fun j => (cs_l00Src a0).getD j .nilptr) (fun j => [.nilptr, (.int .i64 v1.2.1), (.int .u64 v1.2.2)].getD j .nilptr)), .one (.ro (.int .i64 (a1.length : Int)))] [.one (.int .i64 v1.1)] [[.view]] none] [0, 1, 4] [0] ⟨tr, tr, tr, tr, ⟨⟨⟨rfl, rfl, rfl, tr⟩, rfl, tr⟩, ok_spec_l00Src_pick K a0 (a1.length : Int) v1 e2⟩, c3, tr, tr, tr⟩ ?_
  refine thenQ_normal ?_
  refine AW.ret ?_
  replace h := some_eq h
  subst h
  exact ⟨.inr rfl, retOK_of [(.one (.c (.int .i64 (a1.getD v1.1.toNat default))))] (by kernel_rfl) ⟨⟨rfl, tr⟩, tr⟩ (of_decide_eq_true (by kernel_rfl)), by kernel_rfl, ⟨⟨rfl, ⟨⟨rfl, rfl⟩, ⟨rfl, rfl⟩, ⟨rfl, rfl⟩, tr⟩⟩, tr, tr⟩⟩

/-! math.Float32frombits -/
def math_Float32frombits (_K : Nat) (a0 : Int) : Option (F32) :=
  Fl.ofBits .f32 a0

theorem ok_math_Float32frombits (K : Nat) (a0 : Int) (o : F32) (h : math_Float32frombits K a0 = some o) : CallOK Try.prog 49 [.one (.int .u32 a0)] [.one (.flt .f32 o.bits)] :=
  hand_ofBits (e := Extern.MathFloatBits.float32frombits) Try.func49 (by kernel_rfl) (by kernel_rfl) (by kernel_rfl) (by kernel_rfl) (fun _ _ => rfl) a0 o h

/-! spec.l01From -/
def spec_l01From (K : Nat) (a0 : Int) : Option (F32) :=
  (math_Float32frombits K (IntKind.u32.wrap a0)).bind fun v1 => some v1

theorem ok_spec_l01From (K : Nat) (a0 : Int) (o : (F32)) (h : spec_l01From K a0 = some o) : CallOK Try.prog 44 [.one (.int .i64 a0)] [.one (.flt .f32 o.bits)] := by
  refine callOK_of_AW Try.func44 rfl (by kernel_rfl) (Nat.le_of_ble_eq_true (by kernel_rfl)) ?_
  intro w0
  unfold spec_l01From at h
  refine AW.seq (AW.rA ⟨[(0, (vc (.int .i64 a0)))], []⟩ (Tt ∧ Tt) [] [0] [] ⟨tr, tr⟩ (thenQ_normal ?_))
  refine AW.seq ?_
  obtain ⟨v1, e2, h⟩ := bind_some h
  refine AW.rA ⟨[(2, (vc (.flt .f32 v1.bits)))], []⟩ (T2 ((((Eqc (.int .u32 (IntKind.u32.wrap a0))) ∧ Tt) ∧ CallOK Try.prog 49 [.one (.int .u32 (IntKind.u32.wrap a0))] [.one (.flt .f32 v1.bits)]) ∧ Tt ∧ Tt)) [.no, .no, .call [.one (.int .u32 (IntKind.u32.wrap a0))] [.one (.flt .f32 v1.bits)] [[.view]]] [2] [] ⟨tr, tr, ⟨⟨rfl, tr⟩, ok_math_Float32frombits K (IntKind.u32.wrap a0) v1 e2⟩, tr, tr⟩ ?_
  refine thenQ_normal ?_
  refine AW.ret ?_
  replace h := some_eq h
  subst h
  exact ⟨.inr rfl, retOK_of [(.one (.c (.flt .f32 v1.bits)))] (by kernel_rfl) ⟨⟨rfl, tr⟩, tr⟩ (of_decide_eq_true (by kernel_rfl))⟩

/-! spec.l01DrawFloat -/
def spec_l01DrawFloat (K : Nat) (a0 : l00Src) : Option (F32 × Int × Int) :=
  (spec_l00Src_one K a0 (12 : Int)).bind fun v1 => ite2 ((!v1.1)) ((spec_l01DrawPlain K (l00Src.mk a0.code v1.2.1 v1.2.2)).bind fun v4 => some (v4.1, v4.2.1, v4.2.2)) ((spec_l00Src_pick K (l00Src.mk a0.code v1.2.1 v1.2.2) (4 : Int)).bind fun v6 => ite2 ((v6.1 == (0 : Int))) ((spec_l00Src_among K (l00Src.mk a0.code v6.2.1 v6.2.2) ([(0 : Int), (2147483648 : Int), (2139095040 : Int), (4286578688 : Int), (2143289344 : Int), (1 : Int), (2139095039 : Int), (8388608 : Int), (8388607 : Int), (2147483649 : Int)])).bind fun v9 => (spec_l01From K v9.1).bind fun v11 => some (v11, v9.2.1, v9.2.2)) (ite2 ((v6.1 == (1 : Int))) ((spec_l00Src_pick K (l00Src.mk a0.code v6.2.1 v6.2.2) (65536 : Int)).bind fun v14 => (spec_l00Src_pick K (l00Src.mk a0.code v14.2.1 v14.2.2) (65536 : Int)).bind fun v16 => (spec_l01From K (IntKind.i64.wrap ((IntKind.i64.wrap (v14.1 * (65536 : Int))) + v16.1))).bind fun v18 => some (v18, v16.2.1, v16.2.2)) (ite2 ((v6.1 == (2 : Int))) ((spec_l00Src_pick K (l00Src.mk a0.code v6.2.1 v6.2.2) (65536 : Int)).bind fun v21 => (spec_l01From K (IntKind.i64.wrap (v21.1 * (65536 : Int)))).bind fun v23 => some (v23, v21.2.1, v21.2.2)) ((spec_l01DrawPlain K (l00Src.mk a0.code v6.2.1 v6.2.2)).bind fun v25 => (spec_l00Src_among K (l00Src.mk a0.code v25.2.1 v25.2.2) ([(8388608 : Int), (2130706432 : Int), (1610612736 : Int), (536870912 : Int)])).bind fun v27 => (spec_l01From K v27.1).bind fun v29 => some ((v25.1.mul v29), v27.2.1, v27.2.2)))))

theorem ok_spec_l01DrawFloat (K : Nat) (a0 : l00Src) (o : (F32 × Int × Int)) (h : spec_l01DrawFloat K a0 = some o) : MutOK Try.prog 38 [(.box 3 (fun j => [true, false, false].getD j true) (fun j => (cs_l00Src a0).getD j .nilptr) (fun j => [.nilptr, (.int .i64 o.2.1), (.int .u64 o.2.2)].getD j .nilptr))] [.one (.flt .f32 o.1.bits)] := by
  refine mutOK_of_AW 1 Try.func38 rfl (by kernel_rfl) (Nat.le_of_ble_eq_true (by kernel_rfl)) (by kernel_rfl) (by kernel_rfl) ?_
  intro w0 K0 v0 s0
  unfold spec_l01DrawFloat at h
  refine AW.weak (s' := ⟨[(0, (vp 0 0))], [(0, (.box [(.fx 0 0 (sl 1 (csI .u8) a0.code)), (.c (.int .i64 a0.at_)), (.c (.int .u64 a0.seed))]))]⟩) (subUnfx 0 [1, 2] (by kernel_rfl)) ?_
  refine AW.seq (AW.rA ⟨[(0, (vp 0 0))], [(0, (.box [(.fx 0 0 (sl 1 (csI .u8) a0.code)), (.c (.int .i64 a0.at_)), (.c (.int .u64 a0.seed))]))]⟩ (Tt ∧ Tt) [] [0] [0] ⟨tr, tr⟩ (thenQ_normal ?_))
  refine AW.seq ?_
  refine AW.seq ?_
  obtain ⟨v1, e2, h⟩ := bind_some h
  refine AW.rA ⟨[(0, (vp 0 0)), (6, (vc (.bool (!v1.1))))], [(0, (.box [(.fx 0 0 (sl 1 (csI .u8) a0.code)), (.c (.int .i64 v1.2.1)), (.c (.int .u64 v1.2.2))]))]⟩ (Tt ∧ ((((Eqc (sl 1 (csI .u8) a0.code)) ∧ (Eqc (.int .i64 a0.at_)) ∧ (Eqc (.int .u64 a0.seed)) ∧ Tt) ∧ (Eqc (.int .i64 (12 : Int))) ∧ Tt) ∧ MutOK Try.prog 25 [(.box 3 (fun j => [true, false, false].getD j true) (fun j => (cs_l00Src a0).getD j .nilptr) (fun j => [.nilptr, (.int .i64 v1.2.1), (.int .u64 v1.2.2)].getD j .nilptr)), .one (.ro (.int .i64 (12 : Int)))] [.one (.bool v1.1)]) ∧ Tt ∧ Tt) [.no, .callM [(.box 3 (fun j => [true, false, false].getD j true) (fun j => (cs_l00Src a0).getD j .nilptr) (fun j => [.nilptr, (.int .i64 v1.2.1), (.int .u64 v1.2.2)].getD j .nilptr)), .one (.ro (.int .i64 (12 : Int)))] [.one (.bool v1.1)] [[.view]] none] [0, 6] [0] ⟨tr, ⟨⟨⟨rfl, rfl, rfl, tr⟩, rfl, tr⟩, ok_spec_l00Src_one K a0 (12 : Int) v1 e2⟩, tr, tr⟩ ?_
  refine thenQ_normal ?_
  rcases ite2_cases h with ⟨b3, h⟩ | ⟨b3, h⟩
  · refine AW.cond_t rfl b3 ?_
    refine AW.seq ?_
    obtain ⟨v4, e5, h⟩ := bind_some h
    refine AW.rA ⟨[(0, (vp 0 0)), (2, (vc (.flt .f32 v4.1.bits)))], [(0, (.box [(.fx 0 0 (sl 1 (csI .u8) a0.code)), (.c (.int .i64 v4.2.1)), (.c (.int .u64 v4.2.2))]))]⟩ (Tt ∧ ((((Eqc (sl 1 (csI .u8) a0.code)) ∧ (Eqc (.int .i64 v1.2.1)) ∧ (Eqc (.int .u64 v1.2.2)) ∧ Tt) ∧ Tt) ∧ MutOK Try.prog 43 [(.box 3 (fun j => [true, false, false].getD j true) (fun j => (cs_l00Src (l00Src.mk a0.code v1.2.1 v1.2.2)).getD j .nilptr) (fun j => [.nilptr, (.int .i64 v4.2.1), (.int .u64 v4.2.2)].getD j .nilptr))] [.one (.flt .f32 v4.1.bits)]) ∧ Tt ∧ Tt) [.no, .callM [(.box 3 (fun j => [true, false, false].getD j true) (fun j => (cs_l00Src (l00Src.mk a0.code v1.2.1 v1.2.2)).getD j .nilptr) (fun j => [.nilptr, (.int .i64 v4.2.1), (.int .u64 v4.2.2)].getD j .nilptr))] [.one (.flt .f32 v4.1.bits)] [[.view]] none] [0, 2] [0] ⟨tr, ⟨⟨⟨rfl, rfl, rfl, tr⟩, tr⟩, ok_spec_l01DrawPlain K (l00Src.mk a0.code v1.2.1 v1.2.2) v4 e5⟩, tr, tr⟩ ?_
    refine thenQ_normal ?_
    refine AW.ret ?_
    refine thenQ_ret ?_
    replace h := some_eq h
    subst h
    exact ⟨.inr rfl, retOK_of [(.one (.c (.flt .f32 v4.1.bits)))] (by kernel_rfl) ⟨⟨rfl, tr⟩, tr⟩ (of_decide_eq_true (by kernel_rfl)), by kernel_rfl, ⟨⟨rfl, ⟨⟨rfl, rfl⟩, ⟨rfl, rfl⟩, ⟨rfl, rfl⟩, tr⟩⟩, tr⟩⟩
  · refine AW.cond_f rfl b3 ?_
    refine AW.skip ?_
    refine thenQ_normal ?_
    refine AW.seq ?_
    refine AW.seq ?_
    obtain ⟨v6, e7, h⟩ := bind_some h
    refine AW.rA ⟨[(0, (vp 0 0)), (10, (vc (.int .i64 v6.1)))], [(0, (.box [(.fx 0 0 (sl 1 (csI .u8) a0.code)), (.c (.int .i64 v6.2.1)), (.c (.int .u64 v6.2.2))]))]⟩ (Tt ∧ ((((Eqc (sl 1 (csI .u8) a0.code)) ∧ (Eqc (.int .i64 v1.2.1)) ∧ (Eqc (.int .u64 v1.2.2)) ∧ Tt) ∧ (Eqc (.int .i64 (4 : Int))) ∧ Tt) ∧ MutOK Try.prog 17 [(.box 3 (fun j => [true, false, false].getD j true) (fun j => (cs_l00Src (l00Src.mk a0.code v1.2.1 v1.2.2)).getD j .nilptr) (fun j => [.nilptr, (.int .i64 v6.2.1), (.int .u64 v6.2.2)].getD j .nilptr)), .one (.ro (.int .i64 (4 : Int)))] [.one (.int .i64 v6.1)]) ∧ Tt) [.no, .callM [(.box 3 (fun j => [true, false, false].getD j true) (fun j => (cs_l00Src (l00Src.mk a0.code v1.2.1 v1.2.2)).getD j .nilptr) (fun j => [.nilptr, (.int .i64 v6.2.1), (.int .u64 v6.2.2)].getD j .nilptr)), .one (.ro (.int .i64 (4 : Int)))] [.one (.int .i64 v6.1)] [[.view]] none] [0, 10] [0] ⟨tr, ⟨⟨⟨rfl, rfl, rfl, tr⟩, rfl, tr⟩, ok_spec_l00Src_pick K (l00Src.mk a0.code v1.2.1 v1.2.2) (4 : Int) v6 e7⟩, tr⟩ ?_
    refine thenQ_normal ?_
    refine AW.block ?_
    refine AW.seq (AW.rA ⟨[(0, (vp 0 0)), (10, (vc (.int .i64 v6.1))), (11, (vc (.bool (v6.1 == (0 : Int)))))], [(0, (.box [(.fx 0 0 (sl 1 (csI .u8) a0.code)), (.c (.int .i64 v6.2.1)), (.c (.int .u64 v6.2.2))]))]⟩ (T2 Tt) [] [0, 10, 11] [0] ⟨tr, tr, tr⟩ (thenQ_normal ?_))
    rcases ite2_cases h with ⟨b8, h⟩ | ⟨b8, h⟩
    · refine AW.cond_t rfl b8 ?_
      refine AW.seq ?_
      obtain ⟨v9, e10, h⟩ := bind_some h
      obtain ⟨v11, e12, h⟩ := bind_some h
      refine AW.rA ⟨[(0, (vp 0 0)), (2, (vc (.flt .f32 v11.bits)))], [(0, (.box [(.fx 0 0 (sl 1 (csI .u8) a0.code)), (.c (.int .i64 v9.2.1)), (.c (.int .u64 v9.2.2))]))]⟩ (Tt ∧ (([(0 : Int), (2147483648 : Int), (2139095040 : Int), (4286578688 : Int), (2143289344 : Int), (1 : Int), (2139095039 : Int), (8388608 : Int), (8388607 : Int), (2147483649 : Int)]).length = 10 ∧ (((.int .i64 (0 : Int)) : C) = (.int .i64 (0 : Int)) ∧ Tt) ∧ (((.int .i64 (2147483648 : Int)) : C) = (.int .i64 (2147483648 : Int)) ∧ Tt) ∧ (((.int .i64 (2139095040 : Int)) : C) = (.int .i64 (2139095040 : Int)) ∧ Tt) ∧ (((.int .i64 (4286578688 : Int)) : C) = (.int .i64 (4286578688 : Int)) ∧ Tt) ∧ (((.int .i64 (2143289344 : Int)) : C) = (.int .i64 (2143289344 : Int)) ∧ Tt) ∧ (((.int .i64 (1 : Int)) : C) = (.int .i64 (1 : Int)) ∧ Tt) ∧ (((.int .i64 (2139095039 : Int)) : C) = (.int .i64 (2139095039 : Int)) ∧ Tt) ∧ (((.int .i64 (8388608 : Int)) : C) = (.int .i64 (8388608 : Int)) ∧ Tt) ∧ (((.int .i64 (8388607 : Int)) : C) = (.int .i64 (8388607 : Int)) ∧ Tt) ∧ (((.int .i64 (2147483649 : Int)) : C) = (.int .i64 (2147483649 : Int)) ∧ Tt) ∧ Tt) ∧ ((((Eqc (sl 1 (csI .u8) a0.code)) ∧ (Eqc (.int .i64 v6.2.1)) ∧ (Eqc (.int .u64 v6.2.2)) ∧ Tt) ∧ (Eqc (sl 1 (csI .i64) ([(0 : Int), (2147483648 : Int), (2139095040 : Int), (4286578688 : Int), (2143289344 : Int), (1 : Int), (2139095039 : Int), (8388608 : Int), (8388607 : Int), (2147483649 : Int)]))) ∧ Tt) ∧ MutOK Try.prog 45 [(.box 3 (fun j => [true, false, false].getD j true) (fun j => (cs_l00Src (l00Src.mk a0.code v6.2.1 v6.2.2)).getD j .nilptr) (fun j => [.nilptr, (.int .i64 v9.2.1), (.int .u64 v9.2.2)].getD j .nilptr)), .one (.ro (sl 1 (csI .i64) ([(0 : Int), (2147483648 : Int), (2139095040 : Int), (4286578688 : Int), (2143289344 : Int), (1 : Int), (2139095039 : Int), (8388608 : Int), (8388607 : Int), (2147483649 : Int)])))] [.one (.int .i64 v9.1)]) ∧ (((Eqc (.int .i64 v9.1)) ∧ Tt) ∧ CallOK Try.prog 44 [.one (.int .i64 v9.1)] [.one (.flt .f32 v11.bits)]) ∧ Tt ∧ Tt) [.no, .obj 1 ([(0 : Int), (2147483648 : Int), (2139095040 : Int), (4286578688 : Int), (2143289344 : Int), (1 : Int), (2139095039 : Int), (8388608 : Int), (8388607 : Int), (2147483649 : Int)]).length (gl (csI .i64) ([(0 : Int), (2147483648 : Int), (2139095040 : Int), (4286578688 : Int), (2143289344 : Int), (1 : Int), (2139095039 : Int), (8388608 : Int), (8388607 : Int), (2147483649 : Int)])), .callM [(.box 3 (fun j => [true, false, false].getD j true) (fun j => (cs_l00Src (l00Src.mk a0.code v6.2.1 v6.2.2)).getD j .nilptr) (fun j => [.nilptr, (.int .i64 v9.2.1), (.int .u64 v9.2.2)].getD j .nilptr)), .one (.ro (sl 1 (csI .i64) ([(0 : Int), (2147483648 : Int), (2139095040 : Int), (4286578688 : Int), (2143289344 : Int), (1 : Int), (2139095039 : Int), (8388608 : Int), (8388607 : Int), (2147483649 : Int)])))] [.one (.int .i64 v9.1)] [[.view]] none, .call [.one (.int .i64 v9.1)] [.one (.flt .f32 v11.bits)] [[.view]]] [0, 2] [0] ⟨tr, ⟨rfl, ⟨⟨rfl, tr⟩, ⟨rfl, tr⟩, ⟨rfl, tr⟩, ⟨rfl, tr⟩, ⟨rfl, tr⟩, ⟨rfl, tr⟩, ⟨rfl, tr⟩, ⟨rfl, tr⟩, ⟨rfl, tr⟩, ⟨rfl, tr⟩, tr⟩⟩, ⟨⟨⟨rfl, rfl, rfl, tr⟩, rfl, tr⟩, ok_spec_l00Src_among K (l00Src.mk a0.code v6.2.1 v6.2.2) ([(0 : Int), (2147483648 : Int), (2139095040 : Int), (4286578688 : Int), (2143289344 : Int), (1 : Int), (2139095039 : Int), (8388608 : Int), (8388607 : Int), (2147483649 : Int)]) v9 e10⟩, ⟨⟨rfl, tr⟩, ok_spec_l01From K v9.1 v11 e12⟩, tr, tr⟩ ?_
      refine thenQ_normal ?_
      refine AW.ret ?_
      refine blockQ_ret ?_
      refine thenQ_ret ?_
      replace h := some_eq h
      subst h
      exact ⟨.inr rfl, retOK_of [(.one (.c (.flt .f32 v11.bits)))] (by kernel_rfl) ⟨⟨rfl, tr⟩, tr⟩ (of_decide_eq_true (by kernel_rfl)), by kernel_rfl, ⟨⟨rfl, ⟨⟨rfl, rfl⟩, ⟨rfl, rfl⟩, ⟨rfl, rfl⟩, tr⟩⟩, tr⟩⟩
    · refine AW.cond_f rfl b8 ?_
      refine AW.seq (AW.rA ⟨[(0, (vp 0 0)), (10, (vc (.int .i64 v6.1))), (17, (vc (.bool (v6.1 == (1 : Int)))))], [(0, (.box [(.fx 0 0 (sl 1 (csI .u8) a0.code)), (.c (.int .i64 v6.2.1)), (.c (.int .u64 v6.2.2))]))]⟩ (T2 Tt) [] [0, 10, 17] [0] ⟨tr, tr, tr⟩ (thenQ_normal ?_))
      rcases ite2_cases h with ⟨b13, h⟩ | ⟨b13, h⟩
      · refine AW.cond_t rfl b13 ?_
        refine AW.seq ?_
        obtain ⟨v14, e15, h⟩ := bind_some h
        refine AW.rA ⟨[(0, (vp 0 0)), (3, (vc (.int .i64 (IntKind.i64.wrap (v14.1 * (65536 : Int))))))], [(0, (.box [(.fx 0 0 (sl 1 (csI .u8) a0.code)), (.c (.int .i64 v14.2.1)), (.c (.int .u64 v14.2.2))]))]⟩ (Tt ∧ ((((Eqc (sl 1 (csI .u8) a0.code)) ∧ (Eqc (.int .i64 v6.2.1)) ∧ (Eqc (.int .u64 v6.2.2)) ∧ Tt) ∧ (Eqc (.int .i64 (65536 : Int))) ∧ Tt) ∧ MutOK Try.prog 17 [(.box 3 (fun j => [true, false, false].getD j true) (fun j => (cs_l00Src (l00Src.mk a0.code v6.2.1 v6.2.2)).getD j .nilptr) (fun j => [.nilptr, (.int .i64 v14.2.1), (.int .u64 v14.2.2)].getD j .nilptr)), .one (.ro (.int .i64 (65536 : Int)))] [.one (.int .i64 v14.1)]) ∧ T2 Tt) [.no, .callM [(.box 3 (fun j => [true, false, false].getD j true) (fun j => (cs_l00Src (l00Src.mk a0.code v6.2.1 v6.2.2)).getD j .nilptr) (fun j => [.nilptr, (.int .i64 v14.2.1), (.int .u64 v14.2.2)].getD j .nilptr)), .one (.ro (.int .i64 (65536 : Int)))] [.one (.int .i64 v14.1)] [[.view]] none] [0, 3] [0] ⟨tr, ⟨⟨⟨rfl, rfl, rfl, tr⟩, rfl, tr⟩, ok_spec_l00Src_pick K (l00Src.mk a0.code v6.2.1 v6.2.2) (65536 : Int) v14 e15⟩, tr, tr, tr⟩ ?_
        refine thenQ_normal ?_
        refine AW.seq ?_
        obtain ⟨v16, e17, h⟩ := bind_some h
        obtain ⟨v18, e19, h⟩ := bind_some h
        refine AW.rA ⟨[(0, (vp 0 0)), (2, (vc (.flt .f32 v18.bits)))], [(0, (.box [(.fx 0 0 (sl 1 (csI .u8) a0.code)), (.c (.int .i64 v16.2.1)), (.c (.int .u64 v16.2.2))]))]⟩ (T2 (((((Eqc (sl 1 (csI .u8) a0.code)) ∧ (Eqc (.int .i64 v14.2.1)) ∧ (Eqc (.int .u64 v14.2.2)) ∧ Tt) ∧ (Eqc (.int .i64 (65536 : Int))) ∧ Tt) ∧ MutOK Try.prog 17 [(.box 3 (fun j => [true, false, false].getD j true) (fun j => (cs_l00Src (l00Src.mk a0.code v14.2.1 v14.2.2)).getD j .nilptr) (fun j => [.nilptr, (.int .i64 v16.2.1), (.int .u64 v16.2.2)].getD j .nilptr)), .one (.ro (.int .i64 (65536 : Int)))] [.one (.int .i64 v16.1)]) ∧ Tt ∧ (((((.int .i64 (IntKind.i64.wrap ((IntKind.i64.wrap (v14.1 * (65536 : Int))) + v16.1))) : C) = (.int .i64 (IntKind.i64.wrap ((IntKind.i64.wrap (v14.1 * (65536 : Int))) + v16.1)))) ∧ Tt) ∧ CallOK Try.prog 44 [.one (.int .i64 (IntKind.i64.wrap ((IntKind.i64.wrap (v14.1 * (65536 : Int))) + v16.1)))] [.one (.flt .f32 v18.bits)]) ∧ Tt ∧ Tt)) [.no, .no, .callM [(.box 3 (fun j => [true, false, false].getD j true) (fun j => (cs_l00Src (l00Src.mk a0.code v14.2.1 v14.2.2)).getD j .nilptr) (fun j => [.nilptr, (.int .i64 v16.2.1), (.int .u64 v16.2.2)].getD j .nilptr)), .one (.ro (.int .i64 (65536 : Int)))] [.one (.int .i64 v16.1)] [[.view]] none, .no, .call [.one (.int .i64 (IntKind.i64.wrap ((IntKind.i64.wrap (v14.1 * (65536 : Int))) + v16.1)))] [.one (.flt .f32 v18.bits)] [[.view]]] [0, 2] [0] ⟨tr, tr, ⟨⟨⟨rfl, rfl, rfl, tr⟩, rfl, tr⟩, ok_spec_l00Src_pick K (l00Src.mk a0.code v14.2.1 v14.2.2) (65536 : Int) v16 e17⟩, tr, ⟨⟨rfl, tr⟩, ok_spec_l01From K (IntKind.i64.wrap ((IntKind.i64.wrap (v14.1 * (65536 : Int))) + v16.1)) v18 e19⟩, tr, tr⟩ ?_
        refine thenQ_normal ?_
        refine AW.ret ?_
        refine blockQ_ret ?_
        refine thenQ_ret ?_
        replace h := some_eq h
        subst h
        exact ⟨.inr rfl, retOK_of [(.one (.c (.flt .f32 v18.bits)))] (by kernel_rfl) ⟨⟨rfl, tr⟩, tr⟩ (of_decide_eq_true (by kernel_rfl)), by kernel_rfl, ⟨⟨rfl, ⟨⟨rfl, rfl⟩, ⟨rfl, rfl⟩, ⟨rfl, rfl⟩, tr⟩⟩, tr⟩⟩
      · refine AW.cond_f rfl b13 ?_
        refine AW.seq (AW.rA ⟨[(0, (vp 0 0)), (27, (vc (.bool (v6.1 == (2 : Int)))))], [(0, (.box [(.fx 0 0 (sl 1 (csI .u8) a0.code)), (.c (.int .i64 v6.2.1)), (.c (.int .u64 v6.2.2))]))]⟩ (T2 Tt) [] [0, 27] [0] ⟨tr, tr, tr⟩ (thenQ_normal ?_))
        rcases ite2_cases h with ⟨b20, h⟩ | ⟨b20, h⟩
        · refine AW.cond_t rfl b20 ?_
          refine AW.seq ?_
          obtain ⟨v21, e22, h⟩ := bind_some h
          obtain ⟨v23, e24, h⟩ := bind_some h
          refine AW.rA ⟨[(0, (vp 0 0)), (2, (vc (.flt .f32 v23.bits)))], [(0, (.box [(.fx 0 0 (sl 1 (csI .u8) a0.code)), (.c (.int .i64 v21.2.1)), (.c (.int .u64 v21.2.2))]))]⟩ (Tt ∧ ((((Eqc (sl 1 (csI .u8) a0.code)) ∧ (Eqc (.int .i64 v6.2.1)) ∧ (Eqc (.int .u64 v6.2.2)) ∧ Tt) ∧ (Eqc (.int .i64 (65536 : Int))) ∧ Tt) ∧ MutOK Try.prog 17 [(.box 3 (fun j => [true, false, false].getD j true) (fun j => (cs_l00Src (l00Src.mk a0.code v6.2.1 v6.2.2)).getD j .nilptr) (fun j => [.nilptr, (.int .i64 v21.2.1), (.int .u64 v21.2.2)].getD j .nilptr)), .one (.ro (.int .i64 (65536 : Int)))] [.one (.int .i64 v21.1)]) ∧ Tt ∧ (((Eqc (.int .i64 (IntKind.i64.wrap (v21.1 * (65536 : Int))))) ∧ Tt) ∧ CallOK Try.prog 44 [.one (.int .i64 (IntKind.i64.wrap (v21.1 * (65536 : Int))))] [.one (.flt .f32 v23.bits)]) ∧ Tt ∧ Tt) [.no, .callM [(.box 3 (fun j => [true, false, false].getD j true) (fun j => (cs_l00Src (l00Src.mk a0.code v6.2.1 v6.2.2)).getD j .nilptr) (fun j => [.nilptr, (.int .i64 v21.2.1), (.int .u64 v21.2.2)].getD j .nilptr)), .one (.ro (.int .i64 (65536 : Int)))] [.one (.int .i64 v21.1)] [[.view]] none, .no, .call [.one (.int .i64 (IntKind.i64.wrap (v21.1 * (65536 : Int))))] [.one (.flt .f32 v23.bits)] [[.view]]] [0, 2] [0] ⟨tr, ⟨⟨⟨rfl, rfl, rfl, tr⟩, rfl, tr⟩, ok_spec_l00Src_pick K (l00Src.mk a0.code v6.2.1 v6.2.2) (65536 : Int) v21 e22⟩, tr, ⟨⟨rfl, tr⟩, ok_spec_l01From K (IntKind.i64.wrap (v21.1 * (65536 : Int))) v23 e24⟩, tr, tr⟩ ?_
          refine thenQ_normal ?_
          refine AW.ret ?_
          refine blockQ_ret ?_
          refine thenQ_ret ?_
          replace h := some_eq h
          subst h
          exact ⟨.inr rfl, retOK_of [(.one (.c (.flt .f32 v23.bits)))] (by kernel_rfl) ⟨⟨rfl, tr⟩, tr⟩ (of_decide_eq_true (by kernel_rfl)), by kernel_rfl, ⟨⟨rfl, ⟨⟨rfl, rfl⟩, ⟨rfl, rfl⟩, ⟨rfl, rfl⟩, tr⟩⟩, tr⟩⟩
        · refine AW.cond_f rfl b20 ?_
          refine AW.skip ?_
          refine blockQ_normal ?_
          refine thenQ_normal ?_
          refine AW.seq ?_
          obtain ⟨v25, e26, h⟩ := bind_some h
          obtain ⟨v27, e28, h⟩ := bind_some h
          obtain ⟨v29, e30, h⟩ := bind_some h
          refine AW.rA ⟨[(0, (vp 0 0)), (2, (vc (.flt .f32 (v25.1.mul v29).bits)))], [(0, (.box [(.fx 0 0 (sl 1 (csI .u8) a0.code)), (.c (.int .i64 v27.2.1)), (.c (.int .u64 v27.2.2))]))]⟩ (Tt ∧ ((((Eqc (sl 1 (csI .u8) a0.code)) ∧ (Eqc (.int .i64 v6.2.1)) ∧ (Eqc (.int .u64 v6.2.2)) ∧ Tt) ∧ Tt) ∧ MutOK Try.prog 43 [(.box 3 (fun j => [true, false, false].getD j true) (fun j => (cs_l00Src (l00Src.mk a0.code v6.2.1 v6.2.2)).getD j .nilptr) (fun j => [.nilptr, (.int .i64 v25.2.1), (.int .u64 v25.2.2)].getD j .nilptr))] [.one (.flt .f32 v25.1.bits)]) ∧ Tt ∧ (([(8388608 : Int), (2130706432 : Int), (1610612736 : Int), (536870912 : Int)]).length = 4 ∧ (((.int .i64 (8388608 : Int)) : C) = (.int .i64 (8388608 : Int)) ∧ Tt) ∧ (((.int .i64 (2130706432 : Int)) : C) = (.int .i64 (2130706432 : Int)) ∧ Tt) ∧ (((.int .i64 (1610612736 : Int)) : C) = (.int .i64 (1610612736 : Int)) ∧ Tt) ∧ (((.int .i64 (536870912 : Int)) : C) = (.int .i64 (536870912 : Int)) ∧ Tt) ∧ Tt) ∧ ((((Eqc (sl 1 (csI .u8) a0.code)) ∧ (Eqc (.int .i64 v25.2.1)) ∧ (Eqc (.int .u64 v25.2.2)) ∧ Tt) ∧ (Eqc (sl 1 (csI .i64) ([(8388608 : Int), (2130706432 : Int), (1610612736 : Int), (536870912 : Int)]))) ∧ Tt) ∧ MutOK Try.prog 45 [(.box 3 (fun j => [true, false, false].getD j true) (fun j => (cs_l00Src (l00Src.mk a0.code v25.2.1 v25.2.2)).getD j .nilptr) (fun j => [.nilptr, (.int .i64 v27.2.1), (.int .u64 v27.2.2)].getD j .nilptr)), .one (.ro (sl 1 (csI .i64) ([(8388608 : Int), (2130706432 : Int), (1610612736 : Int), (536870912 : Int)])))] [.one (.int .i64 v27.1)]) ∧ (((Eqc (.int .i64 v27.1)) ∧ Tt) ∧ CallOK Try.prog 44 [.one (.int .i64 v27.1)] [.one (.flt .f32 v29.bits)]) ∧ T2 Tt) [.no, .callM [(.box 3 (fun j => [true, false, false].getD j true) (fun j => (cs_l00Src (l00Src.mk a0.code v6.2.1 v6.2.2)).getD j .nilptr) (fun j => [.nilptr, (.int .i64 v25.2.1), (.int .u64 v25.2.2)].getD j .nilptr))] [.one (.flt .f32 v25.1.bits)] [[.view]] none, .no, .obj 2 ([(8388608 : Int), (2130706432 : Int), (1610612736 : Int), (536870912 : Int)]).length (gl (csI .i64) ([(8388608 : Int), (2130706432 : Int), (1610612736 : Int), (536870912 : Int)])), .callM [(.box 3 (fun j => [true, false, false].getD j true) (fun j => (cs_l00Src (l00Src.mk a0.code v25.2.1 v25.2.2)).getD j .nilptr) (fun j => [.nilptr, (.int .i64 v27.2.1), (.int .u64 v27.2.2)].getD j .nilptr)), .one (.ro (sl 1 (csI .i64) ([(8388608 : Int), (2130706432 : Int), (1610612736 : Int), (536870912 : Int)])))] [.one (.int .i64 v27.1)] [[.view]] none, .call [.one (.int .i64 v27.1)] [.one (.flt .f32 v29.bits)] [[.view]]] [0, 2] [0] ⟨tr, ⟨⟨⟨rfl, rfl, rfl, tr⟩, tr⟩, ok_spec_l01DrawPlain K (l00Src.mk a0.code v6.2.1 v6.2.2) v25 e26⟩, tr, ⟨rfl, ⟨⟨rfl, tr⟩, ⟨rfl, tr⟩, ⟨rfl, tr⟩, ⟨rfl, tr⟩, tr⟩⟩, ⟨⟨⟨rfl, rfl, rfl, tr⟩, rfl, tr⟩, ok_spec_l00Src_among K (l00Src.mk a0.code v25.2.1 v25.2.2) ([(8388608 : Int), (2130706432 : Int), (1610612736 : Int), (536870912 : Int)]) v27 e28⟩, ⟨⟨rfl, tr⟩, ok_spec_l01From K v27.1 v29 e30⟩, tr, tr, tr⟩ ?_
          refine thenQ_normal ?_
          refine AW.ret ?_
          replace h := some_eq h
          subst h
          exact ⟨.inr rfl, retOK_of [(.one (.c (.flt .f32 (v25.1.mul v29).bits)))] (by kernel_rfl) ⟨⟨rfl, tr⟩, tr⟩ (of_decide_eq_true (by kernel_rfl)), by kernel_rfl, ⟨⟨rfl, ⟨⟨rfl, rfl⟩, ⟨rfl, rfl⟩, ⟨rfl, rfl⟩, tr⟩⟩, tr⟩⟩

/-! spec.l01DrawVector -/
def spec_l01DrawVector (K : Nat) (a0 : l00Src) : Option (Vector × Int × Int) :=
  (spec_l00Src_one K a0 (10 : Int)).bind fun v1 => (spec_l01DrawSmall K (l00Src.mk a0.code v1.2.1 v1.2.2)).bind fun v3 => (spec_l01DrawSmall K (l00Src.mk a0.code v3.2.1 v3.2.2)).bind fun v5 => (spec_l01DrawSmall K (l00Src.mk a0.code v5.2.1 v5.2.2)).bind fun v7 => ite2 (v1.1) ((spec_l01DrawFloat K (l00Src.mk a0.code v7.2.1 v7.2.2)).bind fun v10 => some ((Vector.mk v3.1 v10.1 v7.1), v10.2.1, v10.2.2)) (some ((Vector.mk v3.1 v5.1 v7.1), v7.2.1, v7.2.2))

theorem ok_spec_l01DrawVector (K : Nat) (a0 : l00Src) (o : (Vector × Int × Int)) (h : spec_l01DrawVector K a0 = some o) : MutOK Try.prog 26 [(.box 3 (fun j => [true, false, false].getD j true) (fun j => (cs_l00Src a0).getD j .nilptr) (fun j => [.nilptr, (.int .i64 o.2.1), (.int .u64 o.2.2)].getD j .nilptr))] [.agg (cs_Vector o.1)] := by
  refine mutOK_of_AW 1 Try.func26 rfl (by kernel_rfl) (Nat.le_of_ble_eq_true (by kernel_rfl)) (by kernel_rfl) (by kernel_rfl) ?_
  intro w0 K0 v0 s0
  unfold spec_l01DrawVector at h
  refine AW.weak (s' := ⟨[(0, (vp 0 0))], [(0, (.box [(.fx 0 0 (sl 1 (csI .u8) a0.code)), (.c (.int .i64 a0.at_)), (.c (.int .u64 a0.seed))]))]⟩) (subUnfx 0 [1, 2] (by kernel_rfl)) ?_
  refine AW.seq (AW.rA ⟨[(0, (vp 0 0)), (2, (vp 1 0))], [(0, (.box [(.fx 0 0 (sl 1 (csI .u8) a0.code)), (.c (.int .i64 a0.at_)), (.c (.int .u64 a0.seed))])), (1, (.box [(.c (.flt .f32 (default : F32).bits)), (.c (.flt .f32 (default : F32).bits)), (.c (.flt .f32 (default : F32).bits))]))]⟩ (Tt ∧ Tt) [.box 1] [0, 2] [0, 1] ⟨tr, tr⟩ (thenQ_normal ?_))
  refine AW.seq ?_
  obtain ⟨v1, e2, h⟩ := bind_some h
  refine AW.rA ⟨[(0, (vp 0 0)), (2, (vp 1 0)), (3, (vc (.bool v1.1)))], [(0, (.box [(.fx 0 0 (sl 1 (csI .u8) a0.code)), (.c (.int .i64 v1.2.1)), (.c (.int .u64 v1.2.2))])), (1, (.box [(.c (.flt .f32 (default : F32).bits)), (.c (.flt .f32 (default : F32).bits)), (.c (.flt .f32 (default : F32).bits))]))]⟩ (Tt ∧ ((((Eqc (sl 1 (csI .u8) a0.code)) ∧ (Eqc (.int .i64 a0.at_)) ∧ (Eqc (.int .u64 a0.seed)) ∧ Tt) ∧ (Eqc (.int .i64 (10 : Int))) ∧ Tt) ∧ MutOK Try.prog 25 [(.box 3 (fun j => [true, false, false].getD j true) (fun j => (cs_l00Src a0).getD j .nilptr) (fun j => [.nilptr, (.int .i64 v1.2.1), (.int .u64 v1.2.2)].getD j .nilptr)), .one (.ro (.int .i64 (10 : Int)))] [.one (.bool v1.1)]) ∧ Tt ∧ Tt) [.no, .callM [(.box 3 (fun j => [true, false, false].getD j true) (fun j => (cs_l00Src a0).getD j .nilptr) (fun j => [.nilptr, (.int .i64 v1.2.1), (.int .u64 v1.2.2)].getD j .nilptr)), .one (.ro (.int .i64 (10 : Int)))] [.one (.bool v1.1)] [[.view]] none] [0, 2, 3] [0, 1] ⟨tr, ⟨⟨⟨rfl, rfl, rfl, tr⟩, rfl, tr⟩, ok_spec_l00Src_one K a0 (10 : Int) v1 e2⟩, tr, tr⟩ ?_
  refine thenQ_normal ?_
  refine AW.seq ?_
  obtain ⟨v3, e4, h⟩ := bind_some h
  refine AW.rA ⟨[(0, (vp 0 0)), (2, (vp 1 0)), (3, (vc (.bool v1.1))), (4, (vp 2 0))], [(0, (.box [(.fx 0 0 (sl 1 (csI .u8) a0.code)), (.c (.int .i64 v3.2.1)), (.c (.int .u64 v3.2.2))])), (1, (.box [(.c (.flt .f32 (default : F32).bits)), (.c (.flt .f32 (default : F32).bits)), (.c (.flt .f32 (default : F32).bits))])), (2, (.box [(.c (.flt .f32 v3.1.bits)), (.c (.flt .f32 (default : F32).bits)), (.c (.flt .f32 (default : F32).bits))]))]⟩ (Tt ∧ ((((Eqc (sl 1 (csI .u8) a0.code)) ∧ (Eqc (.int .i64 v1.2.1)) ∧ (Eqc (.int .u64 v1.2.2)) ∧ Tt) ∧ Tt) ∧ MutOK Try.prog 37 [(.box 3 (fun j => [true, false, false].getD j true) (fun j => (cs_l00Src (l00Src.mk a0.code v1.2.1 v1.2.2)).getD j .nilptr) (fun j => [.nilptr, (.int .i64 v3.2.1), (.int .u64 v3.2.2)].getD j .nilptr))] [.one (.flt .f32 v3.1.bits)]) ∧ Tt ∧ T2 Tt) [.no, .callM [(.box 3 (fun j => [true, false, false].getD j true) (fun j => (cs_l00Src (l00Src.mk a0.code v1.2.1 v1.2.2)).getD j .nilptr) (fun j => [.nilptr, (.int .i64 v3.2.1), (.int .u64 v3.2.2)].getD j .nilptr))] [.one (.flt .f32 v3.1.bits)] [[.view]] none, .no, .box 2] [0, 2, 3, 4] [0, 1, 2] ⟨tr, ⟨⟨⟨rfl, rfl, rfl, tr⟩, tr⟩, ok_spec_l01DrawSmall K (l00Src.mk a0.code v1.2.1 v1.2.2) v3 e4⟩, tr, tr, tr, tr⟩ ?_
  refine thenQ_normal ?_
  refine AW.seq ?_
  obtain ⟨v5, e6, h⟩ := bind_some h
  refine AW.rA ⟨[(0, (vp 0 0)), (2, (vp 1 0)), (3, (vc (.bool v1.1))), (4, (vp 2 0))], [(0, (.box [(.fx 0 0 (sl 1 (csI .u8) a0.code)), (.c (.int .i64 v5.2.1)), (.c (.int .u64 v5.2.2))])), (1, (.box [(.c (.flt .f32 (default : F32).bits)), (.c (.flt .f32 (default : F32).bits)), (.c (.flt .f32 (default : F32).bits))])), (2, (.box [(.c (.flt .f32 v3.1.bits)), (.c (.flt .f32 v5.1.bits)), (.c (.flt .f32 (default : F32).bits))]))]⟩ (Tt ∧ ((((Eqc (sl 1 (csI .u8) a0.code)) ∧ (Eqc (.int .i64 v3.2.1)) ∧ (Eqc (.int .u64 v3.2.2)) ∧ Tt) ∧ Tt) ∧ MutOK Try.prog 37 [(.box 3 (fun j => [true, false, false].getD j true) (fun j => (cs_l00Src (l00Src.mk a0.code v3.2.1 v3.2.2)).getD j .nilptr) (fun j => [.nilptr, (.int .i64 v5.2.1), (.int .u64 v5.2.2)].getD j .nilptr))] [.one (.flt .f32 v5.1.bits)]) ∧ T2 Tt) [.no, .callM [(.box 3 (fun j => [true, false, false].getD j true) (fun j => (cs_l00Src (l00Src.mk a0.code v3.2.1 v3.2.2)).getD j .nilptr) (fun j => [.nilptr, (.int .i64 v5.2.1), (.int .u64 v5.2.2)].getD j .nilptr))] [.one (.flt .f32 v5.1.bits)] [[.view]] none] [0, 2, 3, 4] [0, 1, 2] ⟨tr, ⟨⟨⟨rfl, rfl, rfl, tr⟩, tr⟩, ok_spec_l01DrawSmall K (l00Src.mk a0.code v3.2.1 v3.2.2) v5 e6⟩, tr, tr, tr⟩ ?_
  refine thenQ_normal ?_
  refine AW.seq ?_
  obtain ⟨v7, e8, h⟩ := bind_some h
  refine AW.rA ⟨[(0, (vp 0 0)), (2, (vp 1 0)), (3, (vc (.bool v1.1))), (4, (vp 2 0))], [(0, (.box [(.fx 0 0 (sl 1 (csI .u8) a0.code)), (.c (.int .i64 v7.2.1)), (.c (.int .u64 v7.2.2))])), (1, (.box [(.c (.flt .f32 (default : F32).bits)), (.c (.flt .f32 (default : F32).bits)), (.c (.flt .f32 (default : F32).bits))])), (2, (.box [(.c (.flt .f32 v3.1.bits)), (.c (.flt .f32 v5.1.bits)), (.c (.flt .f32 v7.1.bits))]))]⟩ (Tt ∧ ((((Eqc (sl 1 (csI .u8) a0.code)) ∧ (Eqc (.int .i64 v5.2.1)) ∧ (Eqc (.int .u64 v5.2.2)) ∧ Tt) ∧ Tt) ∧ MutOK Try.prog 37 [(.box 3 (fun j => [true, false, false].getD j true) (fun j => (cs_l00Src (l00Src.mk a0.code v5.2.1 v5.2.2)).getD j .nilptr) (fun j => [.nilptr, (.int .i64 v7.2.1), (.int .u64 v7.2.2)].getD j .nilptr))] [.one (.flt .f32 v7.1.bits)]) ∧ T2 Tt) [.no, .callM [(.box 3 (fun j => [true, false, false].getD j true) (fun j => (cs_l00Src (l00Src.mk a0.code v5.2.1 v5.2.2)).getD j .nilptr) (fun j => [.nilptr, (.int .i64 v7.2.1), (.int .u64 v7.2.2)].getD j .nilptr))] [.one (.flt .f32 v7.1.bits)] [[.view]] none] [0, 2, 3, 4] [0, 1, 2] ⟨tr, ⟨⟨⟨rfl, rfl, rfl, tr⟩, tr⟩, ok_spec_l01DrawSmall K (l00Src.mk a0.code v5.2.1 v5.2.2) v7 e8⟩, tr, tr, tr⟩ ?_
  refine thenQ_normal ?_
  refine AW.seq ?_
  refine AW.seq (AW.rA ⟨[(0, (vp 0 0)), (2, (vp 1 0)), (4, (vp 2 0)), (16, (vc (.bool v1.1)))], [(0, (.box [(.fx 0 0 (sl 1 (csI .u8) a0.code)), (.c (.int .i64 v7.2.1)), (.c (.int .u64 v7.2.2))])), (1, (.box [(.c (.flt .f32 (default : F32).bits)), (.c (.flt .f32 (default : F32).bits)), (.c (.flt .f32 (default : F32).bits))])), (2, (.box [(.c (.flt .f32 v3.1.bits)), (.c (.flt .f32 v5.1.bits)), (.c (.flt .f32 v7.1.bits))]))]⟩ (Tt ∧ Tt) [] [0, 2, 4, 16] [0, 1, 2] ⟨tr, tr⟩ (thenQ_normal ?_))
  rcases ite2_cases h with ⟨b9, h⟩ | ⟨b9, h⟩
  · refine AW.cond_t rfl b9 ?_
    obtain ⟨v10, e11, h⟩ := bind_some h
    refine AW.rA ⟨[(0, (vp 0 0)), (2, (vp 1 0)), (4, (vp 2 0))], [(0, (.box [(.fx 0 0 (sl 1 (csI .u8) a0.code)), (.c (.int .i64 v10.2.1)), (.c (.int .u64 v10.2.2))])), (1, (.box [(.c (.flt .f32 (default : F32).bits)), (.c (.flt .f32 (default : F32).bits)), (.c (.flt .f32 (default : F32).bits))])), (2, (.box [(.c (.flt .f32 v3.1.bits)), (.c (.flt .f32 v10.1.bits)), (.c (.flt .f32 v7.1.bits))]))]⟩ (Tt ∧ ((((Eqc (sl 1 (csI .u8) a0.code)) ∧ (Eqc (.int .i64 v7.2.1)) ∧ (Eqc (.int .u64 v7.2.2)) ∧ Tt) ∧ Tt) ∧ MutOK Try.prog 38 [(.box 3 (fun j => [true, false, false].getD j true) (fun j => (cs_l00Src (l00Src.mk a0.code v7.2.1 v7.2.2)).getD j .nilptr) (fun j => [.nilptr, (.int .i64 v10.2.1), (.int .u64 v10.2.2)].getD j .nilptr))] [.one (.flt .f32 v10.1.bits)]) ∧ T2 Tt) [.no, .callM [(.box 3 (fun j => [true, false, false].getD j true) (fun j => (cs_l00Src (l00Src.mk a0.code v7.2.1 v7.2.2)).getD j .nilptr) (fun j => [.nilptr, (.int .i64 v10.2.1), (.int .u64 v10.2.2)].getD j .nilptr))] [.one (.flt .f32 v10.1.bits)] [[.view]] none] [0, 2, 4] [0, 1, 2] ⟨tr, ⟨⟨⟨rfl, rfl, rfl, tr⟩, tr⟩, ok_spec_l01DrawFloat K (l00Src.mk a0.code v7.2.1 v7.2.2) v10 e11⟩, tr, tr, tr⟩ ?_
    refine thenQ_normal ?_
    refine AW.seq (AW.rA ⟨[(0, (vp 0 0)), (2, (vp 1 0))], [(0, (.box [(.fx 0 0 (sl 1 (csI .u8) a0.code)), (.c (.int .i64 v10.2.1)), (.c (.int .u64 v10.2.2))])), (1, (.box [(.c (.flt .f32 v3.1.bits)), (.c (.flt .f32 v10.1.bits)), (.c (.flt .f32 v7.1.bits))]))]⟩ (T2 Tt) [] [0, 2] [0, 1] ⟨tr, tr, tr⟩ (thenQ_normal ?_))
    refine AW.ret ?_
    replace h := some_eq h
    subst h
    exact ⟨.inr rfl, retOK_of [(.agg [(.c (.flt .f32 v3.1.bits)), (.c (.flt .f32 v10.1.bits)), (.c (.flt .f32 v7.1.bits))])] (by kernel_rfl) ⟨⟨⟨rfl, tr⟩, ⟨rfl, tr⟩, ⟨rfl, tr⟩, tr⟩, tr⟩ (of_decide_eq_true (by kernel_rfl)), by kernel_rfl, ⟨⟨rfl, ⟨⟨rfl, rfl⟩, ⟨rfl, rfl⟩, ⟨rfl, rfl⟩, tr⟩⟩, tr⟩⟩
  · refine AW.cond_f rfl b9 ?_
    refine AW.skip ?_
    refine thenQ_normal ?_
    refine AW.seq (AW.rA ⟨[(0, (vp 0 0)), (2, (vp 1 0))], [(0, (.box [(.fx 0 0 (sl 1 (csI .u8) a0.code)), (.c (.int .i64 v7.2.1)), (.c (.int .u64 v7.2.2))])), (1, (.box [(.c (.flt .f32 v3.1.bits)), (.c (.flt .f32 v5.1.bits)), (.c (.flt .f32 v7.1.bits))]))]⟩ (T2 Tt) [] [0, 2] [0, 1] ⟨tr, tr, tr⟩ (thenQ_normal ?_))
    refine AW.ret ?_
    replace h := some_eq h
    subst h
    exact ⟨.inr rfl, retOK_of [(.agg [(.c (.flt .f32 v3.1.bits)), (.c (.flt .f32 v5.1.bits)), (.c (.flt .f32 v7.1.bits))])] (by kernel_rfl) ⟨⟨⟨rfl, tr⟩, ⟨rfl, tr⟩, ⟨rfl, tr⟩, tr⟩, tr⟩ (of_decide_eq_true (by kernel_rfl)), by kernel_rfl, ⟨⟨rfl, ⟨⟨rfl, rfl⟩, ⟨rfl, rfl⟩, ⟨rfl, rfl⟩, tr⟩⟩, tr⟩⟩

/-! spec.l03DrawSized -/
def spec_l03DrawSized_l1 (K : Nat) (a0 : l00Src) (a1 : Int) : Nat → Int → Int → Int → (List Bone) → Option (Skeleton × Int × Int)
  | 0, _, _, _, _ => none
  | k + 1, x5, x6, x7, x8 => ite2 ((decide (x5 < a1))) (ite2 ((decide (x5 > (0 : Int)))) ((spec_l00Src_pick K (l00Src.mk a0.code x6 x7) x5).bind fun v11 => (spec_l00Src_one K (l00Src.mk a0.code v11.2.1 v11.2.2) (2 : Int)).bind fun v13 => ite2 (v13.1) ((spec_l01DrawVector K (l00Src.mk a0.code v13.2.1 v13.2.2)).bind fun v16 => chk ((x8.length + ([(Bone.mk (IntKind.i64.wrap (x5 - (1 : Int))) v16.1)]).length) * 24 ≤ 140737488355328) (spec_l03DrawSized_l1 K a0 a1 k (IntKind.i64.wrap (x5 + (1 : Int))) v16.2.1 v16.2.2 (x8 ++ ([(Bone.mk (IntKind.i64.wrap (x5 - (1 : Int))) v16.1)])))) ((spec_l01DrawVector K (l00Src.mk a0.code v13.2.1 v13.2.2)).bind fun v19 => chk ((x8.length + ([(Bone.mk v11.1 v19.1)]).length) * 24 ≤ 140737488355328) (spec_l03DrawSized_l1 K a0 a1 k (IntKind.i64.wrap (x5 + (1 : Int))) v19.2.1 v19.2.2 (x8 ++ ([(Bone.mk v11.1 v19.1)]))))) ((spec_l01DrawVector K (l00Src.mk a0.code x6 x7)).bind fun v22 => chk ((x8.length + ([(Bone.mk ((-1) : Int) v22.1)]).length) * 24 ≤ 140737488355328) (spec_l03DrawSized_l1 K a0 a1 k (IntKind.i64.wrap (x5 + (1 : Int))) v22.2.1 v22.2.2 (x8 ++ ([(Bone.mk ((-1) : Int) v22.1)]))))) (some ((Skeleton.mk x8), x6, x7))

def spec_l03DrawSized (K : Nat) (a0 : l00Src) (a1 : Int) : Option (Skeleton × Int × Int) :=
  spec_l03DrawSized_l1 K a0 a1 K (0 : Int) a0.at_ a0.seed ([] : (List Bone))

theorem ok_spec_l03DrawSized (K : Nat) (a0 : l00Src) (a1 : Int) (o : (Skeleton × Int × Int)) (h : spec_l03DrawSized K a0 a1 = some o) : MutOK Try.prog 16 [(.box 3 (fun j => [true, false, false].getD j true) (fun j => (cs_l00Src a0).getD j .nilptr) (fun j => [.nilptr, (.int .i64 o.2.1), (.int .u64 o.2.2)].getD j .nilptr)), (.one (.ro (.int .i64 a1)))] [.agg (cs_Skeleton o.1)] := by
  refine mutOK_of_AW 1 Try.func16 rfl (by kernel_rfl) (Nat.le_of_ble_eq_true (by kernel_rfl)) (by kernel_rfl) (by kernel_rfl) ?_
  intro w0 K0 v0 s0
  unfold spec_l03DrawSized at h
  refine AW.weak (s' := ⟨[(0, (vp 0 0)), (1, (vc (.int .i64 a1)))], [(0, (.box [(.fx 0 0 (sl 1 (csI .u8) a0.code)), (.c (.int .i64 a0.at_)), (.c (.int .u64 a0.seed))]))]⟩) (subUnfx 0 [1, 2] (by kernel_rfl)) ?_
  refine AW.seq (AW.rA ⟨[(0, (vp 0 0)), (1, (vc (.int .i64 a1))), (4, (vp 1 0))], [(0, (.box [(.fx 0 0 (sl 1 (csI .u8) a0.code)), (.c (.int .i64 a0.at_)), (.c (.int .u64 a0.seed))])), (1, (.box [.nils]))]⟩ (Tt ∧ Tt) [.box 1] [0, 1, 4] [0, 1] ⟨tr, tr⟩ (thenQ_normal ?_))
  refine AW.seq (AW.rA ⟨[(0, (vp 0 0)), (1, (vc (.int .i64 a1))), (4, (vp 1 0)), (5, (vp 2 0))], [(0, (.box [(.fx 0 0 (sl 1 (csI .u8) a0.code)), (.c (.int .i64 a0.at_)), (.c (.int .u64 a0.seed))])), (1, (.box [.nils])), (2, (.box [.nils]))]⟩ (Tt ∧ T2 Tt) [.no, .box 2] [0, 1, 4, 5] [0, 1, 2] ⟨tr, tr, tr, tr⟩ (thenQ_normal ?_))
  refine AW.seq ?_
  refine AW.seq (AW.rA ⟨[(0, (vp 0 0)), (1, (vc (.int .i64 a1))), (4, (vp 1 0)), (5, (vp 2 0)), (6, (vc (.int .i64 (0 : Int))))], [(0, (.box [(.fx 0 0 (sl 1 (csI .u8) a0.code)), (.c (.int .i64 a0.at_)), (.c (.int .u64 a0.seed))])), (1, (.box [.nils])), (2, (.box [.nils]))]⟩ (Tt ∧ Tt) [] [0, 1, 4, 5, 6] [0, 1, 2] ⟨tr, tr⟩ (thenQ_normal ?_))
  refine AW.block ?_
  refine AW.weak (s' := ⟨[(0, (vp 0 0)), (1, (vc (.int .i64 a1))), (4, (vp 1 0)), (5, (vp 2 0)), (6, (vc (.int .i64 (0 : Int))))], [(0, (.box [(.fx 0 0 (sl 1 (csI .u8) a0.code)), (.c (.int .i64 a0.at_)), (.c (.int .u64 a0.seed))])), (1, (.box [.nils])), (2, (.box [(.lst 10 ([] : (List Bone)).length 4 (gl cs_Bone ([] : (List Bone))))])), (10, (.lst ([] : (List Bone)).length 4 (gl cs_Bone ([] : (List Bone)))))]⟩) (Sub.trans (Sub.unnil 10 4 (gl cs_Bone ([] : (List Bone))) [] [(2, 0)] _ (by kernel_rfl) (by kernel_rfl)) (Sub.keep [0, 1, 4, 5, 6] [0, 1, 2, 10] (by kernel_rfl) (by kernel_rfl))) ?_
  refine AW.loopQ (σ := Nat × Int × Int × Int × (List Bone)) (fun p => ⟨[(0, (vp 0 0)), (1, (vc (.int .i64 a1))), (4, (vp 1 0)), (5, (vp 2 0)), (6, (vc (.int .i64 p.2.1)))], [(0, (.box [(.fx 0 0 (sl 1 (csI .u8) a0.code)), (.c (.int .i64 p.2.2.1)), (.c (.int .u64 p.2.2.2.1))])), (1, (.box [.nils])), (2, (.box [(.lst 10 p.2.2.2.2.length 4 (gl cs_Bone p.2.2.2.2))])), (10, (.lst p.2.2.2.2.length 4 (gl cs_Bone p.2.2.2.2)))]⟩) (fun p => spec_l03DrawSized_l1 K a0 a1 p.1 p.2.1 p.2.2.1 p.2.2.2.1 p.2.2.2.2 = some o) (fun p => p.1) (K, (0 : Int), a0.at_, a0.seed, ([] : (List Bone))) h ?_
  clear h
  rintro ⟨k, x5, x6, x7, x8⟩ h
  replace h : spec_l03DrawSized_l1 K a0 a1 k x5 x6 x7 x8 = some o := h
  show AW _ _ (⟨[(0, (vp 0 0)), (1, (vc (.int .i64 a1))), (4, (vp 1 0)), (5, (vp 2 0)), (6, (vc (.int .i64 x5)))], [(0, (.box [(.fx 0 0 (sl 1 (csI .u8) a0.code)), (.c (.int .i64 x6)), (.c (.int .u64 x7))])), (1, (.box [.nils])), (2, (.box [(.lst 10 x8.length 4 (gl cs_Bone x8))])), (10, (.lst x8.length 4 (gl cs_Bone x8)))]⟩ : St) _
  obtain _ | k := k
  · rw [spec_l03DrawSized_l1] at h; cases h
  rw [spec_l03DrawSized_l1] at h
  refine AW.seq ?_
  refine AW.seq (AW.rA ⟨[(0, (vp 0 0)), (1, (vc (.int .i64 a1))), (4, (vp 1 0)), (5, (vp 2 0)), (6, (vc (.int .i64 x5))), (11, (vc (.bool (decide (x5 < a1)))))], [(0, (.box [(.fx 0 0 (sl 1 (csI .u8) a0.code)), (.c (.int .i64 x6)), (.c (.int .u64 x7))])), (1, (.box [.nils])), (2, (.box [(.lst 10 x8.length 4 (gl cs_Bone x8))])), (10, (.lst x8.length 4 (gl cs_Bone x8)))]⟩ (Tt ∧ T2 Tt) [] [0, 1, 4, 5, 6, 11] [0, 1, 2, 10] ⟨tr, tr, tr, tr⟩ (thenQ_normal ?_))
  rcases ite2_cases h with ⟨b9, h⟩ | ⟨b9, h⟩
  · refine AW.cond_t rfl b9 ?_
    refine AW.skip ?_
    refine thenQ_normal ?_
    refine AW.seq ?_
    refine AW.block ?_
    refine AW.seq (AW.rA ⟨[(0, (vp 0 0)), (1, (vc (.int .i64 a1))), (4, (vp 1 0)), (5, (vp 2 0)), (6, (vc (.int .i64 x5))), (7, (vp 25 0))], [(0, (.box [(.fx 0 0 (sl 1 (csI .u8) a0.code)), (.c (.int .i64 x6)), (.c (.int .u64 x7))])), (1, (.box [.nils])), (2, (.box [(.lst 10 x8.length 4 (gl cs_Bone x8))])), (10, (.lst x8.length 4 (gl cs_Bone x8))), (25, (.box [(.c (.int .i64 ((-1) : Int))), (.c (.flt .f32 (default : F32).bits)), (.c (.flt .f32 (default : F32).bits)), (.c (.flt .f32 (default : F32).bits))]))]⟩ (Tt ∧ T2 Tt) [.no, .box 25] [0, 1, 4, 5, 6, 7] [0, 1, 2, 10, 25] ⟨tr, tr, tr, tr⟩ (thenQ_normal ?_))
    refine AW.seq ?_
    refine AW.seq (AW.rA ⟨[(0, (vp 0 0)), (1, (vc (.int .i64 a1))), (4, (vp 1 0)), (5, (vp 2 0)), (6, (vc (.int .i64 x5))), (7, (vp 25 0)), (16, (vc (.bool (decide (x5 > (0 : Int))))))], [(0, (.box [(.fx 0 0 (sl 1 (csI .u8) a0.code)), (.c (.int .i64 x6)), (.c (.int .u64 x7))])), (1, (.box [.nils])), (2, (.box [(.lst 10 x8.length 4 (gl cs_Bone x8))])), (10, (.lst x8.length 4 (gl cs_Bone x8))), (25, (.box [(.c (.int .i64 ((-1) : Int))), (.c (.flt .f32 (default : F32).bits)), (.c (.flt .f32 (default : F32).bits)), (.c (.flt .f32 (default : F32).bits))]))]⟩ (T2 Tt) [] [0, 1, 4, 5, 6, 7, 16] [0, 1, 2, 10, 25] ⟨tr, tr, tr⟩ (thenQ_normal ?_))
    rcases ite2_cases h with ⟨b10, h⟩ | ⟨b10, h⟩
    · refine AW.cond_t rfl b10 ?_
      refine AW.seq ?_
      obtain ⟨v11, e12, h⟩ := bind_some h
      refine AW.rA ⟨[(0, (vp 0 0)), (1, (vc (.int .i64 a1))), (4, (vp 1 0)), (5, (vp 2 0)), (6, (vc (.int .i64 x5))), (7, (vp 25 0))], [(0, (.box [(.fx 0 0 (sl 1 (csI .u8) a0.code)), (.c (.int .i64 v11.2.1)), (.c (.int .u64 v11.2.2))])), (1, (.box [.nils])), (2, (.box [(.lst 10 x8.length 4 (gl cs_Bone x8))])), (10, (.lst x8.length 4 (gl cs_Bone x8))), (25, (.box [(.c (.int .i64 v11.1)), (.c (.flt .f32 (default : F32).bits)), (.c (.flt .f32 (default : F32).bits)), (.c (.flt .f32 (default : F32).bits))]))]⟩ (T2 (((((Eqc (sl 1 (csI .u8) a0.code)) ∧ (Eqc (.int .i64 x6)) ∧ (Eqc (.int .u64 x7)) ∧ Tt) ∧ (Eqc (.int .i64 x5)) ∧ Tt) ∧ MutOK Try.prog 17 [(.box 3 (fun j => [true, false, false].getD j true) (fun j => (cs_l00Src (l00Src.mk a0.code x6 x7)).getD j .nilptr) (fun j => [.nilptr, (.int .i64 v11.2.1), (.int .u64 v11.2.2)].getD j .nilptr)), .one (.ro (.int .i64 x5))] [.one (.int .i64 v11.1)]) ∧ T2 Tt)) [.no, .no, .callM [(.box 3 (fun j => [true, false, false].getD j true) (fun j => (cs_l00Src (l00Src.mk a0.code x6 x7)).getD j .nilptr) (fun j => [.nilptr, (.int .i64 v11.2.1), (.int .u64 v11.2.2)].getD j .nilptr)), .one (.ro (.int .i64 x5))] [.one (.int .i64 v11.1)] [[.view]] none] [0, 1, 4, 5, 6, 7] [0, 1, 2, 10, 25] ⟨tr, tr, ⟨⟨⟨rfl, rfl, rfl, tr⟩, rfl, tr⟩, ok_spec_l00Src_pick K (l00Src.mk a0.code x6 x7) x5 v11 e12⟩, tr, tr, tr⟩ ?_
      refine thenQ_normal ?_
      refine AW.seq ?_
      obtain ⟨v13, e14, h⟩ := bind_some h
      refine AW.rA ⟨[(0, (vp 0 0)), (1, (vc (.int .i64 a1))), (4, (vp 1 0)), (5, (vp 2 0)), (6, (vc (.int .i64 x5))), (7, (vp 25 0)), (22, (vc (.bool v13.1)))], [(0, (.box [(.fx 0 0 (sl 1 (csI .u8) a0.code)), (.c (.int .i64 v13.2.1)), (.c (.int .u64 v13.2.2))])), (1, (.box [.nils])), (2, (.box [(.lst 10 x8.length 4 (gl cs_Bone x8))])), (10, (.lst x8.length 4 (gl cs_Bone x8))), (25, (.box [(.c (.int .i64 v11.1)), (.c (.flt .f32 (default : F32).bits)), (.c (.flt .f32 (default : F32).bits)), (.c (.flt .f32 (default : F32).bits))]))]⟩ (Tt ∧ ((((Eqc (sl 1 (csI .u8) a0.code)) ∧ (Eqc (.int .i64 v11.2.1)) ∧ (Eqc (.int .u64 v11.2.2)) ∧ Tt) ∧ (Eqc (.int .i64 (2 : Int))) ∧ Tt) ∧ MutOK Try.prog 25 [(.box 3 (fun j => [true, false, false].getD j true) (fun j => (cs_l00Src (l00Src.mk a0.code v11.2.1 v11.2.2)).getD j .nilptr) (fun j => [.nilptr, (.int .i64 v13.2.1), (.int .u64 v13.2.2)].getD j .nilptr)), .one (.ro (.int .i64 (2 : Int)))] [.one (.bool v13.1)]) ∧ Tt) [.no, .callM [(.box 3 (fun j => [true, false, false].getD j true) (fun j => (cs_l00Src (l00Src.mk a0.code v11.2.1 v11.2.2)).getD j .nilptr) (fun j => [.nilptr, (.int .i64 v13.2.1), (.int .u64 v13.2.2)].getD j .nilptr)), .one (.ro (.int .i64 (2 : Int)))] [.one (.bool v13.1)] [[.view]] none] [0, 1, 4, 5, 6, 7, 22] [0, 1, 2, 10, 25] ⟨tr, ⟨⟨⟨rfl, rfl, rfl, tr⟩, rfl, tr⟩, ok_spec_l00Src_one K (l00Src.mk a0.code v11.2.1 v11.2.2) (2 : Int) v13 e14⟩, tr⟩ ?_
      refine thenQ_normal ?_
      rcases ite2_cases h with ⟨b15, h⟩ | ⟨b15, h⟩
      · refine AW.cond_t rfl b15 ?_
        refine AW.rA ⟨[(0, (vp 0 0)), (1, (vc (.int .i64 a1))), (4, (vp 1 0)), (5, (vp 2 0)), (6, (vc (.int .i64 x5))), (7, (vp 25 0))], [(0, (.box [(.fx 0 0 (sl 1 (csI .u8) a0.code)), (.c (.int .i64 v13.2.1)), (.c (.int .u64 v13.2.2))])), (1, (.box [.nils])), (2, (.box [(.lst 10 x8.length 4 (gl cs_Bone x8))])), (10, (.lst x8.length 4 (gl cs_Bone x8))), (25, (.box [(.c (.int .i64 (IntKind.i64.wrap (x5 - (1 : Int))))), (.c (.flt .f32 (default : F32).bits)), (.c (.flt .f32 (default : F32).bits)), (.c (.flt .f32 (default : F32).bits))]))]⟩ (T4 Tt) [] [0, 1, 4, 5, 6, 7] [0, 1, 2, 10, 25] ⟨tr, tr, tr, tr, tr⟩ ?_
        refine thenQ_normal ?_
        refine AW.seq ?_
        obtain ⟨v16, e17, h⟩ := bind_some h
        refine AW.rA ⟨[(0, (vp 0 0)), (1, (vc (.int .i64 a1))), (4, (vp 1 0)), (5, (vp 2 0)), (6, (vc (.int .i64 x5))), (7, (vp 25 0))], [(0, (.box [(.fx 0 0 (sl 1 (csI .u8) a0.code)), (.c (.int .i64 v16.2.1)), (.c (.int .u64 v16.2.2))])), (1, (.box [.nils])), (2, (.box [(.lst 10 x8.length 4 (gl cs_Bone x8))])), (10, (.lst x8.length 4 (gl cs_Bone x8))), (25, (.box [(.c (.int .i64 (IntKind.i64.wrap (x5 - (1 : Int))))), (.c (.flt .f32 v16.1.X.bits)), (.c (.flt .f32 v16.1.Y.bits)), (.c (.flt .f32 v16.1.Z.bits))]))]⟩ (Tt ∧ ((((Eqc (sl 1 (csI .u8) a0.code)) ∧ (Eqc (.int .i64 v13.2.1)) ∧ (Eqc (.int .u64 v13.2.2)) ∧ Tt) ∧ Tt) ∧ MutOK Try.prog 26 [(.box 3 (fun j => [true, false, false].getD j true) (fun j => (cs_l00Src (l00Src.mk a0.code v13.2.1 v13.2.2)).getD j .nilptr) (fun j => [.nilptr, (.int .i64 v16.2.1), (.int .u64 v16.2.2)].getD j .nilptr))] [.agg (cs_Vector v16.1)]) ∧ T2 Tt) [.no, .callM [(.box 3 (fun j => [true, false, false].getD j true) (fun j => (cs_l00Src (l00Src.mk a0.code v13.2.1 v13.2.2)).getD j .nilptr) (fun j => [.nilptr, (.int .i64 v16.2.1), (.int .u64 v16.2.2)].getD j .nilptr))] [.agg (cs_Vector v16.1)] [[.view, .view, .view]] none] [0, 1, 4, 5, 6, 7] [0, 1, 2, 10, 25] ⟨tr, ⟨⟨⟨rfl, rfl, rfl, tr⟩, tr⟩, ok_spec_l01DrawVector K (l00Src.mk a0.code v13.2.1 v13.2.2) v16 e17⟩, tr, tr, tr⟩ ?_
        refine thenQ_normal ?_
        obtain ⟨c18, h⟩ := chk_some h
        refine AW.rA ⟨[(0, (vp 0 0)), (1, (vc (.int .i64 a1))), (4, (vp 1 0)), (5, (vp 2 0)), (6, (vc (.int .i64 x5)))], [(0, (.box [(.fx 0 0 (sl 1 (csI .u8) a0.code)), (.c (.int .i64 v16.2.1)), (.c (.int .u64 v16.2.2))])), (1, (.box [.nils])), (2, (.box [(.lst 27 (x8 ++ ([(Bone.mk (IntKind.i64.wrap (x5 - (1 : Int))) v16.1)])).length 4 (gl cs_Bone (x8 ++ ([(Bone.mk (IntKind.i64.wrap (x5 - (1 : Int))) v16.1)]))))])), (27, (.lst (x8 ++ ([(Bone.mk (IntKind.i64.wrap (x5 - (1 : Int))) v16.1)])).length 4 (gl cs_Bone (x8 ++ ([(Bone.mk (IntKind.i64.wrap (x5 - (1 : Int))) v16.1)])))))]⟩ (Tt ∧ T2 ((([(Bone.mk (IntKind.i64.wrap (x5 - (1 : Int))) v16.1)]).length = 1 ∧ (((.int .i64 (IntKind.i64.wrap (x5 - (1 : Int)))) : C) = (.int .i64 (IntKind.i64.wrap (x5 - (1 : Int)))) ∧ Tt) ∧ (((.flt .f32 v16.1.X.bits) : C) = (.flt .f32 v16.1.X.bits) ∧ Tt) ∧ (((.flt .f32 v16.1.Y.bits) : C) = (.flt .f32 v16.1.Y.bits) ∧ Tt) ∧ (((.flt .f32 v16.1.Z.bits) : C) = (.flt .f32 v16.1.Z.bits) ∧ Tt) ∧ Tt) ∧ ((x8 ++ ([(Bone.mk (IntKind.i64.wrap (x5 - (1 : Int))) v16.1)])).length = x8.length + ([(Bone.mk (IntKind.i64.wrap (x5 - (1 : Int))) v16.1)]).length ∧ AppOb (x8.length) (([(Bone.mk (IntKind.i64.wrap (x5 - (1 : Int))) v16.1)]).length) 4 (gl cs_Bone x8) (gl cs_Bone ([(Bone.mk (IntKind.i64.wrap (x5 - (1 : Int))) v16.1)])) (gl cs_Bone (x8 ++ ([(Bone.mk (IntKind.i64.wrap (x5 - (1 : Int))) v16.1)]))) ∧ (∀ i j, i < ([(Bone.mk (IntKind.i64.wrap (x5 - (1 : Int))) v16.1)]).length → j < 4 → scalarC (gl cs_Bone ([(Bone.mk (IntKind.i64.wrap (x5 - (1 : Int))) v16.1)]) i j)) ∧ (x8.length + ([(Bone.mk (IntKind.i64.wrap (x5 - (1 : Int))) v16.1)]).length) * 24 ≤ 140737488355328) ∧ T2 Tt)) [.no, .no, .no, .obj 26 ([(Bone.mk (IntKind.i64.wrap (x5 - (1 : Int))) v16.1)]).length (gl cs_Bone ([(Bone.mk (IntKind.i64.wrap (x5 - (1 : Int))) v16.1)])), .objK 27 (x8 ++ ([(Bone.mk (IntKind.i64.wrap (x5 - (1 : Int))) v16.1)])).length (gl cs_Bone (x8 ++ ([(Bone.mk (IntKind.i64.wrap (x5 - (1 : Int))) v16.1)])))] [0, 1, 4, 5, 6] [0, 1, 2, 27] ⟨tr, tr, tr, ⟨rfl, ⟨⟨rfl, tr⟩, ⟨rfl, tr⟩, ⟨rfl, tr⟩, ⟨rfl, tr⟩, tr⟩⟩, ⟨List.length_append, gl_append, gl_scalar sc_Bone _, c18⟩, tr, tr, tr⟩ ?_
        refine blockQ_normal ?_
        refine thenQ_normal ?_
        refine AW.rA ⟨[(0, (vp 0 0)), (1, (vc (.int .i64 a1))), (4, (vp 1 0)), (5, (vp 2 0)), (6, (vc (.int .i64 (IntKind.i64.wrap (x5 + (1 : Int))))))], [(0, (.box [(.fx 0 0 (sl 1 (csI .u8) a0.code)), (.c (.int .i64 v16.2.1)), (.c (.int .u64 v16.2.2))])), (1, (.box [.nils])), (2, (.box [(.lst 27 (x8 ++ ([(Bone.mk (IntKind.i64.wrap (x5 - (1 : Int))) v16.1)])).length 4 (gl cs_Bone (x8 ++ ([(Bone.mk (IntKind.i64.wrap (x5 - (1 : Int))) v16.1)]))))])), (27, (.lst (x8 ++ ([(Bone.mk (IntKind.i64.wrap (x5 - (1 : Int))) v16.1)])).length 4 (gl cs_Bone (x8 ++ ([(Bone.mk (IntKind.i64.wrap (x5 - (1 : Int))) v16.1)])))))]⟩ (Tt ∧ T2 Tt) [] [0, 1, 4, 5, 6] [0, 1, 2, 27] ⟨tr, tr, tr, tr⟩ ?_
        exact loopQ_normal (k, (IntKind.i64.wrap (x5 + (1 : Int))), v16.2.1, v16.2.2, (x8 ++ ([(Bone.mk (IntKind.i64.wrap (x5 - (1 : Int))) v16.1)]))) h (Nat.lt_succ_self k) (Sub.trans (Sub.swap 10 27 _ (by kernel_rfl) (by kernel_rfl)) (Sub.keep [0, 1, 4, 5, 6] [0, 1, 2, 10] (by kernel_rfl) (by kernel_rfl)))
      · refine AW.cond_f rfl b15 ?_
        refine AW.skip ?_
        refine thenQ_normal ?_
        refine AW.seq ?_
        obtain ⟨v19, e20, h⟩ := bind_some h
        refine AW.rA ⟨[(0, (vp 0 0)), (1, (vc (.int .i64 a1))), (4, (vp 1 0)), (5, (vp 2 0)), (6, (vc (.int .i64 x5))), (7, (vp 25 0))], [(0, (.box [(.fx 0 0 (sl 1 (csI .u8) a0.code)), (.c (.int .i64 v19.2.1)), (.c (.int .u64 v19.2.2))])), (1, (.box [.nils])), (2, (.box [(.lst 10 x8.length 4 (gl cs_Bone x8))])), (10, (.lst x8.length 4 (gl cs_Bone x8))), (25, (.box [(.c (.int .i64 v11.1)), (.c (.flt .f32 v19.1.X.bits)), (.c (.flt .f32 v19.1.Y.bits)), (.c (.flt .f32 v19.1.Z.bits))]))]⟩ (Tt ∧ ((((Eqc (sl 1 (csI .u8) a0.code)) ∧ (Eqc (.int .i64 v13.2.1)) ∧ (Eqc (.int .u64 v13.2.2)) ∧ Tt) ∧ Tt) ∧ MutOK Try.prog 26 [(.box 3 (fun j => [true, false, false].getD j true) (fun j => (cs_l00Src (l00Src.mk a0.code v13.2.1 v13.2.2)).getD j .nilptr) (fun j => [.nilptr, (.int .i64 v19.2.1), (.int .u64 v19.2.2)].getD j .nilptr))] [.agg (cs_Vector v19.1)]) ∧ T2 Tt) [.no, .callM [(.box 3 (fun j => [true, false, false].getD j true) (fun j => (cs_l00Src (l00Src.mk a0.code v13.2.1 v13.2.2)).getD j .nilptr) (fun j => [.nilptr, (.int .i64 v19.2.1), (.int .u64 v19.2.2)].getD j .nilptr))] [.agg (cs_Vector v19.1)] [[.view, .view, .view]] none] [0, 1, 4, 5, 6, 7] [0, 1, 2, 10, 25] ⟨tr, ⟨⟨⟨rfl, rfl, rfl, tr⟩, tr⟩, ok_spec_l01DrawVector K (l00Src.mk a0.code v13.2.1 v13.2.2) v19 e20⟩, tr, tr, tr⟩ ?_
        refine thenQ_normal ?_
        obtain ⟨c21, h⟩ := chk_some h
        refine AW.rA ⟨[(0, (vp 0 0)), (1, (vc (.int .i64 a1))), (4, (vp 1 0)), (5, (vp 2 0)), (6, (vc (.int .i64 x5)))], [(0, (.box [(.fx 0 0 (sl 1 (csI .u8) a0.code)), (.c (.int .i64 v19.2.1)), (.c (.int .u64 v19.2.2))])), (1, (.box [.nils])), (2, (.box [(.lst 29 (x8 ++ ([(Bone.mk v11.1 v19.1)])).length 4 (gl cs_Bone (x8 ++ ([(Bone.mk v11.1 v19.1)]))))])), (29, (.lst (x8 ++ ([(Bone.mk v11.1 v19.1)])).length 4 (gl cs_Bone (x8 ++ ([(Bone.mk v11.1 v19.1)])))))]⟩ (Tt ∧ T2 ((([(Bone.mk v11.1 v19.1)]).length = 1 ∧ (((.int .i64 v11.1) : C) = (.int .i64 v11.1) ∧ Tt) ∧ (((.flt .f32 v19.1.X.bits) : C) = (.flt .f32 v19.1.X.bits) ∧ Tt) ∧ (((.flt .f32 v19.1.Y.bits) : C) = (.flt .f32 v19.1.Y.bits) ∧ Tt) ∧ (((.flt .f32 v19.1.Z.bits) : C) = (.flt .f32 v19.1.Z.bits) ∧ Tt) ∧ Tt) ∧ ((x8 ++ ([(Bone.mk v11.1 v19.1)])).length = x8.length + ([(Bone.mk v11.1 v19.1)]).length ∧ AppOb (x8.length) (([(Bone.mk v11.1 v19.1)]).length) 4 (gl cs_Bone x8) (gl cs_Bone ([(Bone.mk v11.1 v19.1)])) (gl cs_Bone (x8 ++ ([(Bone.mk v11.1 v19.1)]))) ∧ (∀ i j, i < ([(Bone.mk v11.1 v19.1)]).length → j < 4 → scalarC (gl cs_Bone ([(Bone.mk v11.1 v19.1)]) i j)) ∧ (x8.length + ([(Bone.mk v11.1 v19.1)]).length) * 24 ≤ 140737488355328) ∧ T2 Tt)) [.no, .no, .no, .obj 28 ([(Bone.mk v11.1 v19.1)]).length (gl cs_Bone ([(Bone.mk v11.1 v19.1)])), .objK 29 (x8 ++ ([(Bone.mk v11.1 v19.1)])).length (gl cs_Bone (x8 ++ ([(Bone.mk v11.1 v19.1)])))] [0, 1, 4, 5, 6] [0, 1, 2, 29] ⟨tr, tr, tr, ⟨rfl, ⟨⟨rfl, tr⟩, ⟨rfl, tr⟩, ⟨rfl, tr⟩, ⟨rfl, tr⟩, tr⟩⟩, ⟨List.length_append, gl_append, gl_scalar sc_Bone _, c21⟩, tr, tr, tr⟩ ?_
        refine blockQ_normal ?_
        refine thenQ_normal ?_
        refine AW.rA ⟨[(0, (vp 0 0)), (1, (vc (.int .i64 a1))), (4, (vp 1 0)), (5, (vp 2 0)), (6, (vc (.int .i64 (IntKind.i64.wrap (x5 + (1 : Int))))))], [(0, (.box [(.fx 0 0 (sl 1 (csI .u8) a0.code)), (.c (.int .i64 v19.2.1)), (.c (.int .u64 v19.2.2))])), (1, (.box [.nils])), (2, (.box [(.lst 29 (x8 ++ ([(Bone.mk v11.1 v19.1)])).length 4 (gl cs_Bone (x8 ++ ([(Bone.mk v11.1 v19.1)]))))])), (29, (.lst (x8 ++ ([(Bone.mk v11.1 v19.1)])).length 4 (gl cs_Bone (x8 ++ ([(Bone.mk v11.1 v19.1)])))))]⟩ (Tt ∧ T2 Tt) [] [0, 1, 4, 5, 6] [0, 1, 2, 29] ⟨tr, tr, tr, tr⟩ ?_
        exact loopQ_normal (k, (IntKind.i64.wrap (x5 + (1 : Int))), v19.2.1, v19.2.2, (x8 ++ ([(Bone.mk v11.1 v19.1)]))) h (Nat.lt_succ_self k) (Sub.trans (Sub.swap 10 29 _ (by kernel_rfl) (by kernel_rfl)) (Sub.keep [0, 1, 4, 5, 6] [0, 1, 2, 10] (by kernel_rfl) (by kernel_rfl)))
    · refine AW.cond_f rfl b10 ?_
      refine AW.skip ?_
      refine thenQ_normal ?_
      refine AW.seq ?_
      obtain ⟨v22, e23, h⟩ := bind_some h
      refine AW.rA ⟨[(0, (vp 0 0)), (1, (vc (.int .i64 a1))), (4, (vp 1 0)), (5, (vp 2 0)), (6, (vc (.int .i64 x5))), (7, (vp 25 0))], [(0, (.box [(.fx 0 0 (sl 1 (csI .u8) a0.code)), (.c (.int .i64 v22.2.1)), (.c (.int .u64 v22.2.2))])), (1, (.box [.nils])), (2, (.box [(.lst 10 x8.length 4 (gl cs_Bone x8))])), (10, (.lst x8.length 4 (gl cs_Bone x8))), (25, (.box [(.c (.int .i64 ((-1) : Int))), (.c (.flt .f32 v22.1.X.bits)), (.c (.flt .f32 v22.1.Y.bits)), (.c (.flt .f32 v22.1.Z.bits))]))]⟩ (Tt ∧ ((((Eqc (sl 1 (csI .u8) a0.code)) ∧ (Eqc (.int .i64 x6)) ∧ (Eqc (.int .u64 x7)) ∧ Tt) ∧ Tt) ∧ MutOK Try.prog 26 [(.box 3 (fun j => [true, false, false].getD j true) (fun j => (cs_l00Src (l00Src.mk a0.code x6 x7)).getD j .nilptr) (fun j => [.nilptr, (.int .i64 v22.2.1), (.int .u64 v22.2.2)].getD j .nilptr))] [.agg (cs_Vector v22.1)]) ∧ T2 Tt) [.no, .callM [(.box 3 (fun j => [true, false, false].getD j true) (fun j => (cs_l00Src (l00Src.mk a0.code x6 x7)).getD j .nilptr) (fun j => [.nilptr, (.int .i64 v22.2.1), (.int .u64 v22.2.2)].getD j .nilptr))] [.agg (cs_Vector v22.1)] [[.view, .view, .view]] none] [0, 1, 4, 5, 6, 7] [0, 1, 2, 10, 25] ⟨tr, ⟨⟨⟨rfl, rfl, rfl, tr⟩, tr⟩, ok_spec_l01DrawVector K (l00Src.mk a0.code x6 x7) v22 e23⟩, tr, tr, tr⟩ ?_
      refine thenQ_normal ?_
      obtain ⟨c24, h⟩ := chk_some h
      refine AW.rA ⟨[(0, (vp 0 0)), (1, (vc (.int .i64 a1))), (4, (vp 1 0)), (5, (vp 2 0)), (6, (vc (.int .i64 x5)))], [(0, (.box [(.fx 0 0 (sl 1 (csI .u8) a0.code)), (.c (.int .i64 v22.2.1)), (.c (.int .u64 v22.2.2))])), (1, (.box [.nils])), (2, (.box [(.lst 31 (x8 ++ ([(Bone.mk ((-1) : Int) v22.1)])).length 4 (gl cs_Bone (x8 ++ ([(Bone.mk ((-1) : Int) v22.1)]))))])), (31, (.lst (x8 ++ ([(Bone.mk ((-1) : Int) v22.1)])).length 4 (gl cs_Bone (x8 ++ ([(Bone.mk ((-1) : Int) v22.1)])))))]⟩ (Tt ∧ T2 ((([(Bone.mk ((-1) : Int) v22.1)]).length = 1 ∧ (((.int .i64 ((-1) : Int)) : C) = (.int .i64 ((-1) : Int)) ∧ Tt) ∧ (((.flt .f32 v22.1.X.bits) : C) = (.flt .f32 v22.1.X.bits) ∧ Tt) ∧ (((.flt .f32 v22.1.Y.bits) : C) = (.flt .f32 v22.1.Y.bits) ∧ Tt) ∧ (((.flt .f32 v22.1.Z.bits) : C) = (.flt .f32 v22.1.Z.bits) ∧ Tt) ∧ Tt) ∧ ((x8 ++ ([(Bone.mk ((-1) : Int) v22.1)])).length = x8.length + ([(Bone.mk ((-1) : Int) v22.1)]).length ∧ AppOb (x8.length) (([(Bone.mk ((-1) : Int) v22.1)]).length) 4 (gl cs_Bone x8) (gl cs_Bone ([(Bone.mk ((-1) : Int) v22.1)])) (gl cs_Bone (x8 ++ ([(Bone.mk ((-1) : Int) v22.1)]))) ∧ (∀ i j, i < ([(Bone.mk ((-1) : Int) v22.1)]).length → j < 4 → scalarC (gl cs_Bone ([(Bone.mk ((-1) : Int) v22.1)]) i j)) ∧ (x8.length + ([(Bone.mk ((-1) : Int) v22.1)]).length) * 24 ≤ 140737488355328) ∧ T2 Tt)) [.no, .no, .no, .obj 30 ([(Bone.mk ((-1) : Int) v22.1)]).length (gl cs_Bone ([(Bone.mk ((-1) : Int) v22.1)])), .objK 31 (x8 ++ ([(Bone.mk ((-1) : Int) v22.1)])).length (gl cs_Bone (x8 ++ ([(Bone.mk ((-1) : Int) v22.1)])))] [0, 1, 4, 5, 6] [0, 1, 2, 31] ⟨tr, tr, tr, ⟨rfl, ⟨⟨rfl, tr⟩, ⟨rfl, tr⟩, ⟨rfl, tr⟩, ⟨rfl, tr⟩, tr⟩⟩, ⟨List.length_append, gl_append, gl_scalar sc_Bone _, c24⟩, tr, tr, tr⟩ ?_
      refine blockQ_normal ?_
      refine thenQ_normal ?_
      refine AW.rA ⟨[(0, (vp 0 0)), (1, (vc (.int .i64 a1))), (4, (vp 1 0)), (5, (vp 2 0)), (6, (vc (.int .i64 (IntKind.i64.wrap (x5 + (1 : Int))))))], [(0, (.box [(.fx 0 0 (sl 1 (csI .u8) a0.code)), (.c (.int .i64 v22.2.1)), (.c (.int .u64 v22.2.2))])), (1, (.box [.nils])), (2, (.box [(.lst 31 (x8 ++ ([(Bone.mk ((-1) : Int) v22.1)])).length 4 (gl cs_Bone (x8 ++ ([(Bone.mk ((-1) : Int) v22.1)]))))])), (31, (.lst (x8 ++ ([(Bone.mk ((-1) : Int) v22.1)])).length 4 (gl cs_Bone (x8 ++ ([(Bone.mk ((-1) : Int) v22.1)])))))]⟩ (Tt ∧ T2 Tt) [] [0, 1, 4, 5, 6] [0, 1, 2, 31] ⟨tr, tr, tr, tr⟩ ?_
      exact loopQ_normal (k, (IntKind.i64.wrap (x5 + (1 : Int))), v22.2.1, v22.2.2, (x8 ++ ([(Bone.mk ((-1) : Int) v22.1)]))) h (Nat.lt_succ_self k) (Sub.trans (Sub.swap 10 31 _ (by kernel_rfl) (by kernel_rfl)) (Sub.keep [0, 1, 4, 5, 6] [0, 1, 2, 10] (by kernel_rfl) (by kernel_rfl)))
  · refine AW.cond_f rfl b9 ?_
    refine AW.exit ?_
    refine thenQ_exit ?_
    refine loopQ_exit ?_
    refine blockQ_exit ?_
    refine thenQ_normal ?_
    refine AW.seq (AW.rA ⟨[(0, (vp 0 0)), (1, (vc (.int .i64 a1))), (4, (vp 1 0))], [(0, (.box [(.fx 0 0 (sl 1 (csI .u8) a0.code)), (.c (.int .i64 x6)), (.c (.int .u64 x7))])), (1, (.box [(.lst 10 x8.length 4 (gl cs_Bone x8))])), (10, (.lst x8.length 4 (gl cs_Bone x8)))]⟩ (T2 Tt) [] [0, 1, 4] [0, 1, 10] ⟨tr, tr, tr⟩ (thenQ_normal ?_))
    refine AW.ret ?_
    replace h := some_eq h
    subst h
    exact ⟨.inr rfl, retOK_of [(.agg [(.lst 10 x8.length 4 (gl cs_Bone x8))])] (by kernel_rfl) ⟨⟨rfl, tr⟩, tr⟩ (of_decide_eq_true (by kernel_rfl)), by kernel_rfl, ⟨⟨rfl, ⟨⟨rfl, rfl⟩, ⟨rfl, rfl⟩, ⟨rfl, rfl⟩, tr⟩⟩, tr, tr⟩⟩

/-! spec.B10Skeleton -/
def Zt1 (Q1 Q2 : Prop) : Prop := (Tt ∧ (Q1 ∧ (Tt ∧ (Tt ∧ (Q2 ∧ Tt)))))
theorem zt1 {Q1 Q2 : Prop} (q1 : Q1) (q2 : Q2) : Zt1 Q1 Q2 := ⟨tr, ⟨q1, ⟨tr, ⟨tr, ⟨q2, tr⟩⟩⟩⟩⟩
def Zt2 (QE Q1 Q2 : Prop) : Prop := ((Tt ∧ (Zt1 Q1 Q2)) ∧ (Tt ∧ (Zt1 Q1 Q2)) ∧ QE)
theorem zt2 {QE Q1 Q2 : Prop} (qe : QE) (q1 : Q1) (q2 : Q2) : Zt2 QE Q1 Q2 := ⟨⟨tr, (zt1 q1 q2)⟩, ⟨tr, (zt1 q1 q2)⟩, qe⟩
def Zt3 (QE Q1 Q2 : Prop) : Prop := ((Tt ∧ (Tt ∧ (Zt1 Q1 Q2))) ∧ (Tt ∧ (Zt2 QE Q1 Q2)) ∧ QE)
theorem zt3 {QE Q1 Q2 : Prop} (qe : QE) (q1 : Q1) (q2 : Q2) : Zt3 QE Q1 Q2 := ⟨⟨tr, ⟨tr, (zt1 q1 q2)⟩⟩, ⟨tr, (zt2 qe q1 q2)⟩, qe⟩
def Zt4 (QE Q0 Q1 Q2 : Prop) : Prop := ((Tt ∧ (Q0 ∧ (Tt ∧ (Zt1 Q1 Q2)))) ∧ (Q0 ∧ (Zt3 QE Q1 Q2)) ∧ QE)
theorem zt4 {QE Q0 Q1 Q2 : Prop} (qe : QE) (q0 : Q0) (q1 : Q1) (q2 : Q2) : Zt4 QE Q0 Q1 Q2 := ⟨⟨tr, ⟨q0, ⟨tr, (zt1 q1 q2)⟩⟩⟩, ⟨q0, (zt3 qe q1 q2)⟩, qe⟩
def spec_B10Skeleton_l1 (K : Nat) (a0 : (List Int)) (v3 : (Skeleton × Int × Int)) : Nat → Int → Int → Int → (List Bone) → Option (Skeleton)
  | 0, _, _, _, _ => none
  | k + 1, x9, x10, x11, x12 => ite2 ((decide (x9 < (v3.1.Bones.length : Int)))) ((spec_l00Src_pick K (l00Src.mk a0 x10 x11) (9 : Int)).bind fun v19 => chk (0 ≤ x9 ∧ x9 < (x12.length : Int)) ((some (x12.set x9.toNat (Bone.mk ((x12.getD x9.toNat default).Parent) (Vector.mk (Fl.ofInt .f32 (IntKind.i64.wrap (v19.1 - (4 : Int)))) (((x12.getD x9.toNat default).Offset).Y) (((x12.getD x9.toNat default).Offset).Z))))).bind fun y22 => (spec_l00Src_pick K (l00Src.mk a0 v19.2.1 v19.2.2) (9 : Int)).bind fun v29 => chk (0 ≤ x9 ∧ x9 < (y22.length : Int)) ((some (y22.set x9.toNat (Bone.mk ((y22.getD x9.toNat default).Parent) (Vector.mk (((y22.getD x9.toNat default).Offset).X) (Fl.ofInt .f32 (IntKind.i64.wrap (v29.1 - (4 : Int)))) (((y22.getD x9.toNat default).Offset).Z))))).bind fun y32 => (spec_l00Src_pick K (l00Src.mk a0 v29.2.1 v29.2.2) (9 : Int)).bind fun v39 => chk (0 ≤ x9 ∧ x9 < (y32.length : Int)) ((some (y32.set x9.toNat (Bone.mk ((y32.getD x9.toNat default).Parent) (Vector.mk (((y32.getD x9.toNat default).Offset).X) (((y32.getD x9.toNat default).Offset).Y) (Fl.ofInt .f32 (IntKind.i64.wrap (v39.1 - (4 : Int)))))))).bind fun y42 => spec_B10Skeleton_l1 K a0 v3 k (IntKind.i64.wrap (x9 + (1 : Int))) v39.2.1 v39.2.2 y42)))) (some (Skeleton.mk x12))

def spec_B10Skeleton (K : Nat) (a0 : (List Int)) : Option (Skeleton) :=
  (spec_l00Src_pick K (l00Src.mk a0 (0 : Int) (0 : Int)) (6 : Int)).bind fun v1 => (spec_l03DrawSized K (l00Src.mk a0 v1.2.1 v1.2.2) (IntKind.i64.wrap ((1 : Int) + v1.1))).bind fun v3 => spec_B10Skeleton_l1 K a0 v3 K (0 : Int) v3.2.1 v3.2.2 v3.1.Bones

theorem ok_spec_B10Skeleton (K : Nat) (a0 : (List Int)) (o : (Skeleton)) (h : spec_B10Skeleton K a0 = some o) : CallOK Try.prog 5 [.one (sl 1 (csI .u8) a0)] [.agg (cs_Skeleton o)] := by
  refine callOK_of_AW Try.func5 rfl (by kernel_rfl) (Nat.le_of_ble_eq_true (by kernel_rfl)) ?_
  intro w0
  unfold spec_B10Skeleton at h
  refine AW.seq (AW.rA ⟨[(0, (vc (sl 1 (csI .u8) a0))), (2, (vp 1 0))], [(1, (.box [.nils]))]⟩ (Tt ∧ Tt) [.box 1] [0, 2] [1] ⟨tr, tr⟩ (thenQ_normal ?_))
  refine AW.seq (AW.mkA 1 2 [(.i64, 0), (.u64, 0)] [.no] [] [2, 3] [1, 2] (s' := ⟨[(2, (vp 1 0)), (3, (vp 2 0))], [(1, (.box [.nils])), (2, (.box [(.c (sl 1 (csI .u8) a0)), (.c (.int .i64 (0 : Int))), (.c (.int .u64 (0 : Int)))]))]⟩) (ob := (Tt ∧ Tt) ∧ Tt ∧ (Tt ∧ Tt)) (by kernel_rfl) ⟨⟨tr, tr⟩, tr, ⟨tr, tr⟩⟩ mk_spec_l00From (thenQ_normal ?_))
  refine AW.seq ?_
  obtain ⟨v1, e2, h⟩ := bind_some h
  obtain ⟨v3, e4, h⟩ := bind_some h
  refine AW.rA ⟨[(2, (vp 1 0)), (3, (vp 2 0)), (4, (vp 4 0))], [(1, (.box [.nils])), (2, (.box [(.c (sl 1 (csI .u8) a0)), (.c (.int .i64 v3.2.1)), (.c (.int .u64 v3.2.2))])), (3, (.arr true v3.1.Bones.length 4 (gl cs_Bone v3.1.Bones))), (4, (.box [(.arr 3)]))]⟩ (T2 (((((Eqc (sl 1 (csI .u8) a0)) ∧ (Eqc (.int .i64 (0 : Int))) ∧ (Eqc (.int .u64 (0 : Int))) ∧ Tt) ∧ (Eqc (.int .i64 (6 : Int))) ∧ Tt) ∧ MutOK Try.prog 17 [(.box 3 (fun j => [true, false, false].getD j true) (fun j => (cs_l00Src (l00Src.mk a0 (0 : Int) (0 : Int))).getD j .nilptr) (fun j => [.nilptr, (.int .i64 v1.2.1), (.int .u64 v1.2.2)].getD j .nilptr)), .one (.ro (.int .i64 (6 : Int)))] [.one (.int .i64 v1.1)]) ∧ Tt ∧ ((((Eqc (sl 1 (csI .u8) a0)) ∧ (Eqc (.int .i64 v1.2.1)) ∧ (Eqc (.int .u64 v1.2.2)) ∧ Tt) ∧ (Eqc (.int .i64 (IntKind.i64.wrap ((1 : Int) + v1.1)))) ∧ Tt) ∧ MutOK Try.prog 16 [(.box 3 (fun j => [true, false, false].getD j true) (fun j => (cs_l00Src (l00Src.mk a0 v1.2.1 v1.2.2)).getD j .nilptr) (fun j => [.nilptr, (.int .i64 v3.2.1), (.int .u64 v3.2.2)].getD j .nilptr)), .one (.ro (.int .i64 (IntKind.i64.wrap ((1 : Int) + v1.1))))] [.agg (cs_Skeleton v3.1)]) ∧ T2 Tt)) [.no, .no, .callM [(.box 3 (fun j => [true, false, false].getD j true) (fun j => (cs_l00Src (l00Src.mk a0 (0 : Int) (0 : Int))).getD j .nilptr) (fun j => [.nilptr, (.int .i64 v1.2.1), (.int .u64 v1.2.2)].getD j .nilptr)), .one (.ro (.int .i64 (6 : Int)))] [.one (.int .i64 v1.1)] [[.view]] none, .no, .callM [(.box 3 (fun j => [true, false, false].getD j true) (fun j => (cs_l00Src (l00Src.mk a0 v1.2.1 v1.2.2)).getD j .nilptr) (fun j => [.nilptr, (.int .i64 v3.2.1), (.int .u64 v3.2.2)].getD j .nilptr)), .one (.ro (.int .i64 (IntKind.i64.wrap ((1 : Int) + v1.1))))] [.agg (cs_Skeleton v3.1)] [[.own 3]] none, .box 4] [2, 3, 4] [1, 2, 3, 4] ⟨tr, tr, ⟨⟨⟨rfl, rfl, rfl, tr⟩, rfl, tr⟩, ok_spec_l00Src_pick K (l00Src.mk a0 (0 : Int) (0 : Int)) (6 : Int) v1 e2⟩, tr, ⟨⟨⟨rfl, rfl, rfl, tr⟩, rfl, tr⟩, ok_spec_l03DrawSized K (l00Src.mk a0 v1.2.1 v1.2.2) (IntKind.i64.wrap ((1 : Int) + v1.1)) v3 e4⟩, tr, tr, tr⟩ ?_
  refine thenQ_normal ?_
  refine AW.seq ?_
  refine AW.seq (AW.rA ⟨[(2, (vp 1 0)), (3, (vp 2 0)), (4, (vp 4 0)), (15, (vc (.int .i64 (v3.1.Bones.length : Int)))), (16, (vc (.int .i64 (0 : Int))))], [(1, (.box [.nils])), (2, (.box [(.c (sl 1 (csI .u8) a0)), (.c (.int .i64 v3.2.1)), (.c (.int .u64 v3.2.2))])), (3, (.arr true v3.1.Bones.length 4 (gl cs_Bone v3.1.Bones))), (4, (.box [(.arr 3)]))]⟩ (T4 Tt) [] [2, 3, 4, 15, 16] [1, 2, 3, 4] ⟨tr, tr, tr, tr, tr⟩ (thenQ_normal ?_))
  refine AW.block ?_
  refine AW.loopQ (σ := Nat × Int × Int × Int × (List Bone)) (fun p => ⟨[(2, (vp 1 0)), (3, (vp 2 0)), (4, (vp 4 0)), (15, (vc (.int .i64 (v3.1.Bones.length : Int)))), (16, (vc (.int .i64 p.2.1)))], [(1, (.box [.nils])), (2, (.box [(.c (sl 1 (csI .u8) a0)), (.c (.int .i64 p.2.2.1)), (.c (.int .u64 p.2.2.2.1))])), (3, (.arr true p.2.2.2.2.length 4 (gl cs_Bone p.2.2.2.2))), (4, (.box [(.arr 3)]))]⟩) (fun p => spec_B10Skeleton_l1 K a0 v3 p.1 p.2.1 p.2.2.1 p.2.2.2.1 p.2.2.2.2 = some o) (fun p => p.1) (K, (0 : Int), v3.2.1, v3.2.2, v3.1.Bones) h ?_
  clear h
  rintro ⟨k, x9, x10, x11, x12⟩ h
  replace h : spec_B10Skeleton_l1 K a0 v3 k x9 x10 x11 x12 = some o := h
  show AW _ _ (⟨[(2, (vp 1 0)), (3, (vp 2 0)), (4, (vp 4 0)), (15, (vc (.int .i64 (v3.1.Bones.length : Int)))), (16, (vc (.int .i64 x9)))], [(1, (.box [.nils])), (2, (.box [(.c (sl 1 (csI .u8) a0)), (.c (.int .i64 x10)), (.c (.int .u64 x11))])), (3, (.arr true x12.length 4 (gl cs_Bone x12))), (4, (.box [(.arr 3)]))]⟩ : St) _
  obtain _ | k := k
  · rw [spec_B10Skeleton_l1] at h; cases h
  rw [spec_B10Skeleton_l1] at h
  refine AW.seq (AW.rA ⟨[(2, (vp 1 0)), (3, (vp 2 0)), (4, (vp 4 0)), (15, (vc (.int .i64 (v3.1.Bones.length : Int)))), (16, (vc (.int .i64 x9))), (17, (vc (.bool (decide (x9 < (v3.1.Bones.length : Int))))))], [(1, (.box [.nils])), (2, (.box [(.c (sl 1 (csI .u8) a0)), (.c (.int .i64 x10)), (.c (.int .u64 x11))])), (3, (.arr true x12.length 4 (gl cs_Bone x12))), (4, (.box [(.arr 3)]))]⟩ (Tt ∧ Tt) [] [2, 3, 4, 15, 16, 17] [1, 2, 3, 4] ⟨tr, tr⟩ (thenQ_normal ?_))
  refine AW.seq ?_
  rcases ite2_cases h with ⟨b13, h⟩ | ⟨b13, h⟩
  · refine AW.cond_t rfl b13 ?_
    refine AW.skip ?_
    refine thenQ_normal ?_
    refine AW.seq ?_
    refine AW.block ?_
    refine AW.seq (AW.rA ⟨[(2, (vp 1 0)), (3, (vp 2 0)), (4, (vp 4 0)), (5, (vc (.int .i64 x9))), (15, (vc (.int .i64 (v3.1.Bones.length : Int)))), (16, (vc (.int .i64 x9)))], [(1, (.box [.nils])), (2, (.box [(.c (sl 1 (csI .u8) a0)), (.c (.int .i64 x10)), (.c (.int .u64 x11))])), (3, (.arr true x12.length 4 (gl cs_Bone x12))), (4, (.box [(.arr 3)]))]⟩ (T2 Tt) [] [2, 3, 4, 5, 15, 16] [1, 2, 3, 4] ⟨tr, tr, tr⟩ (thenQ_normal ?_))
    refine AW.seq ?_
    obtain ⟨v19, e20, h⟩ := bind_some h
    obtain ⟨c21, h⟩ := chk_some h
    obtain ⟨y22, e23, h⟩ := bind_some h
    refine AW.firstA (by kernel_rfl) [0, 2, 3] [.no, .no, .no, .no, .callM [(.box 3 (fun j => [true, false, false].getD j true) (fun j => (cs_l00Src (l00Src.mk a0 x10 x11)).getD j .nilptr) (fun j => [.nilptr, (.int .i64 v19.2.1), (.int .u64 v19.2.2)].getD j .nilptr)), .one (.ro (.int .i64 (9 : Int)))] [.one (.int .i64 v19.1)] [[.view]] none, .no, .no, .no, .no, .no, .set y22.length (gl cs_Bone y22) ((List.range 1).map fun j => (cs_Bone (Bone.mk ((x12.getD x9.toNat default).Parent) (Vector.mk (Fl.ofInt .f32 (IntKind.i64.wrap (v19.1 - (4 : Int)))) (((x12.getD x9.toNat default).Offset).Y) (((x12.getD x9.toNat default).Offset).Z)))).getD (1 + j) .nilptr)] [2, 3, 4, 5, 15, 16] [1, 2, 3, 4] (s' := ⟨[(2, (vp 1 0)), (3, (vp 2 0)), (4, (vp 4 0)), (5, (vc (.int .i64 x9))), (15, (vc (.int .i64 (v3.1.Bones.length : Int)))), (16, (vc (.int .i64 x9)))], [(1, (.box [.nils])), (2, (.box [(.c (sl 1 (csI .u8) a0)), (.c (.int .i64 v19.2.1)), (.c (.int .u64 v19.2.2))])), (3, (.arr true y22.length 4 (gl cs_Bone y22))), (4, (.box [(.arr 3)]))]⟩) (ob := (Zt4 ((⟨[(2, (vp 1 0)), (3, (vp 2 0)), (4, (vp 4 0)), (5, (vc (.int .i64 x9))), (15, (vc (.int .i64 (v3.1.Bones.length : Int)))), (16, (vc (.int .i64 x9)))], [(1, (.box [.nils])), (2, (.box [(.c (sl 1 (csI .u8) a0)), (.c (.int .i64 v19.2.1)), (.c (.int .u64 v19.2.2))])), (3, (.arr true y22.length 4 (gl cs_Bone y22))), (4, (.box [(.arr 3)]))]⟩ : St) = ⟨[(2, (vp 1 0)), (3, (vp 2 0)), (4, (vp 4 0)), (5, (vc (.int .i64 x9))), (15, (vc (.int .i64 (v3.1.Bones.length : Int)))), (16, (vc (.int .i64 x9)))], [(1, (.box [.nils])), (2, (.box [(.c (sl 1 (csI .u8) a0)), (.c (.int .i64 v19.2.1)), (.c (.int .u64 v19.2.2))])), (3, (.arr true y22.length 4 (gl cs_Bone y22))), (4, (.box [(.arr 3)]))]⟩) (((((Eqc (sl 1 (csI .u8) a0)) ∧ (Eqc (.int .i64 x10)) ∧ (Eqc (.int .u64 x11)) ∧ Tt) ∧ (Eqc (.int .i64 (9 : Int))) ∧ Tt) ∧ MutOK Try.prog 17 [(.box 3 (fun j => [true, false, false].getD j true) (fun j => (cs_l00Src (l00Src.mk a0 x10 x11)).getD j .nilptr) (fun j => [.nilptr, (.int .i64 v19.2.1), (.int .u64 v19.2.2)].getD j .nilptr)), .one (.ro (.int .i64 (9 : Int)))] [.one (.int .i64 v19.1)])) ((0 ≤ x9 ∧ x9 < (x12.length : Int))) ((y22.length = x12.length ∧ SetOb x12.length 4 x9.toNat 1 1 (gl cs_Bone x12) (gl cs_Bone y22) ∧ ((List.range 1).map fun j => (cs_Bone (Bone.mk ((x12.getD x9.toNat default).Parent) (Vector.mk (Fl.ofInt .f32 (IntKind.i64.wrap (v19.1 - (4 : Int)))) (((x12.getD x9.toNat default).Offset).Y) (((x12.getD x9.toNat default).Offset).Z)))).getD (1 + j) .nilptr) = ((List.range 1).map fun j => gl cs_Bone y22 x9.toNat (1 + j)) ∧ ((((.flt .f32 (Fl.ofInt .f32 (IntKind.i64.wrap (v19.1 - (4 : Int)))).bits) : C) = (.flt .f32 (Fl.ofInt .f32 (IntKind.i64.wrap (v19.1 - (4 : Int)))).bits) ∧ Tt) ∧ Tt) ∧ (true = true → ∀ j, j < 1 → isSeq (gl cs_Bone x12 x9.toNat (1 + j)) = false ∧ isSeq (gl cs_Bone y22 x9.toNat (1 + j)) = false))))) (by kernel_rfl) (zt4 rfl ⟨⟨⟨rfl, rfl, rfl, tr⟩, rfl, tr⟩, ok_spec_l00Src_pick K (l00Src.mk a0 x10 x11) (9 : Int) v19 e20⟩ (c21) ((letP (some_eq e23) (fun z => (z.length = x12.length ∧ SetOb x12.length 4 x9.toNat 1 1 (gl cs_Bone x12) (gl cs_Bone z) ∧ ((List.range 1).map fun j => (cs_Bone (Bone.mk ((x12.getD x9.toNat default).Parent) (Vector.mk (Fl.ofInt .f32 (IntKind.i64.wrap (v19.1 - (4 : Int)))) (((x12.getD x9.toNat default).Offset).Y) (((x12.getD x9.toNat default).Offset).Z)))).getD (1 + j) .nilptr) = ((List.range 1).map fun j => gl cs_Bone z x9.toNat (1 + j)) ∧ ((((.flt .f32 (Fl.ofInt .f32 (IntKind.i64.wrap (v19.1 - (4 : Int)))).bits) : C) = (.flt .f32 (Fl.ofInt .f32 (IntKind.i64.wrap (v19.1 - (4 : Int)))).bits) ∧ Tt) ∧ Tt) ∧ (true = true → ∀ j, j < 1 → isSeq (gl cs_Bone x12 x9.toNat (1 + j)) = false ∧ isSeq (gl cs_Bone z x9.toNat (1 + j)) = false))) ⟨List.length_set, gl_setp (fun j hj hn => match j, hj, hn with | 0, _, _ => rfl | 1, _, hn => absurd ⟨by decide, by decide⟩ hn | 2, _, _ => rfl | 3, _, _ => rfl) (lt_of_bound c21), (gl_atp (lt_of_bound c21)).symm, ⟨⟨rfl, tr⟩, tr⟩, (fun _ j hj => match j, hj with | 0, _ => ⟨rfl, rfl⟩)⟩))) ?_
    refine thenQ_normal ?_
    refine AW.seq ?_
    obtain ⟨v29, e30, h⟩ := bind_some h
    obtain ⟨c31, h⟩ := chk_some h
    obtain ⟨y32, e33, h⟩ := bind_some h
    refine AW.firstA (by kernel_rfl) [0, 2, 3] [.no, .no, .no, .no, .callM [(.box 3 (fun j => [true, false, false].getD j true) (fun j => (cs_l00Src (l00Src.mk a0 v19.2.1 v19.2.2)).getD j .nilptr) (fun j => [.nilptr, (.int .i64 v29.2.1), (.int .u64 v29.2.2)].getD j .nilptr)), .one (.ro (.int .i64 (9 : Int)))] [.one (.int .i64 v29.1)] [[.view]] none, .no, .no, .no, .no, .no, .set y32.length (gl cs_Bone y32) ((List.range 1).map fun j => (cs_Bone (Bone.mk ((y22.getD x9.toNat default).Parent) (Vector.mk (((y22.getD x9.toNat default).Offset).X) (Fl.ofInt .f32 (IntKind.i64.wrap (v29.1 - (4 : Int)))) (((y22.getD x9.toNat default).Offset).Z)))).getD (2 + j) .nilptr)] [2, 3, 4, 5, 15, 16] [1, 2, 3, 4] (s' := ⟨[(2, (vp 1 0)), (3, (vp 2 0)), (4, (vp 4 0)), (5, (vc (.int .i64 x9))), (15, (vc (.int .i64 (v3.1.Bones.length : Int)))), (16, (vc (.int .i64 x9)))], [(1, (.box [.nils])), (2, (.box [(.c (sl 1 (csI .u8) a0)), (.c (.int .i64 v29.2.1)), (.c (.int .u64 v29.2.2))])), (3, (.arr true y32.length 4 (gl cs_Bone y32))), (4, (.box [(.arr 3)]))]⟩) (ob := (Zt4 ((⟨[(2, (vp 1 0)), (3, (vp 2 0)), (4, (vp 4 0)), (5, (vc (.int .i64 x9))), (15, (vc (.int .i64 (v3.1.Bones.length : Int)))), (16, (vc (.int .i64 x9)))], [(1, (.box [.nils])), (2, (.box [(.c (sl 1 (csI .u8) a0)), (.c (.int .i64 v29.2.1)), (.c (.int .u64 v29.2.2))])), (3, (.arr true y32.length 4 (gl cs_Bone y32))), (4, (.box [(.arr 3)]))]⟩ : St) = ⟨[(2, (vp 1 0)), (3, (vp 2 0)), (4, (vp 4 0)), (5, (vc (.int .i64 x9))), (15, (vc (.int .i64 (v3.1.Bones.length : Int)))), (16, (vc (.int .i64 x9)))], [(1, (.box [.nils])), (2, (.box [(.c (sl 1 (csI .u8) a0)), (.c (.int .i64 v29.2.1)), (.c (.int .u64 v29.2.2))])), (3, (.arr true y32.length 4 (gl cs_Bone y32))), (4, (.box [(.arr 3)]))]⟩) (((((Eqc (sl 1 (csI .u8) a0)) ∧ (Eqc (.int .i64 v19.2.1)) ∧ (Eqc (.int .u64 v19.2.2)) ∧ Tt) ∧ (Eqc (.int .i64 (9 : Int))) ∧ Tt) ∧ MutOK Try.prog 17 [(.box 3 (fun j => [true, false, false].getD j true) (fun j => (cs_l00Src (l00Src.mk a0 v19.2.1 v19.2.2)).getD j .nilptr) (fun j => [.nilptr, (.int .i64 v29.2.1), (.int .u64 v29.2.2)].getD j .nilptr)), .one (.ro (.int .i64 (9 : Int)))] [.one (.int .i64 v29.1)])) ((0 ≤ x9 ∧ x9 < (y22.length : Int))) ((y32.length = y22.length ∧ SetOb y22.length 4 x9.toNat 2 1 (gl cs_Bone y22) (gl cs_Bone y32) ∧ ((List.range 1).map fun j => (cs_Bone (Bone.mk ((y22.getD x9.toNat default).Parent) (Vector.mk (((y22.getD x9.toNat default).Offset).X) (Fl.ofInt .f32 (IntKind.i64.wrap (v29.1 - (4 : Int)))) (((y22.getD x9.toNat default).Offset).Z)))).getD (2 + j) .nilptr) = ((List.range 1).map fun j => gl cs_Bone y32 x9.toNat (2 + j)) ∧ ((((.flt .f32 (Fl.ofInt .f32 (IntKind.i64.wrap (v29.1 - (4 : Int)))).bits) : C) = (.flt .f32 (Fl.ofInt .f32 (IntKind.i64.wrap (v29.1 - (4 : Int)))).bits) ∧ Tt) ∧ Tt) ∧ (true = true → ∀ j, j < 1 → isSeq (gl cs_Bone y22 x9.toNat (2 + j)) = false ∧ isSeq (gl cs_Bone y32 x9.toNat (2 + j)) = false))))) (by kernel_rfl) (zt4 rfl ⟨⟨⟨rfl, rfl, rfl, tr⟩, rfl, tr⟩, ok_spec_l00Src_pick K (l00Src.mk a0 v19.2.1 v19.2.2) (9 : Int) v29 e30⟩ (c31) ((letP (some_eq e33) (fun z => (z.length = y22.length ∧ SetOb y22.length 4 x9.toNat 2 1 (gl cs_Bone y22) (gl cs_Bone z) ∧ ((List.range 1).map fun j => (cs_Bone (Bone.mk ((y22.getD x9.toNat default).Parent) (Vector.mk (((y22.getD x9.toNat default).Offset).X) (Fl.ofInt .f32 (IntKind.i64.wrap (v29.1 - (4 : Int)))) (((y22.getD x9.toNat default).Offset).Z)))).getD (2 + j) .nilptr) = ((List.range 1).map fun j => gl cs_Bone z x9.toNat (2 + j)) ∧ ((((.flt .f32 (Fl.ofInt .f32 (IntKind.i64.wrap (v29.1 - (4 : Int)))).bits) : C) = (.flt .f32 (Fl.ofInt .f32 (IntKind.i64.wrap (v29.1 - (4 : Int)))).bits) ∧ Tt) ∧ Tt) ∧ (true = true → ∀ j, j < 1 → isSeq (gl cs_Bone y22 x9.toNat (2 + j)) = false ∧ isSeq (gl cs_Bone z x9.toNat (2 + j)) = false))) ⟨List.length_set, gl_setp (fun j hj hn => match j, hj, hn with | 0, _, _ => rfl | 1, _, _ => rfl | 2, _, hn => absurd ⟨by decide, by decide⟩ hn | 3, _, _ => rfl) (lt_of_bound c31), (gl_atp (lt_of_bound c31)).symm, ⟨⟨rfl, tr⟩, tr⟩, (fun _ j hj => match j, hj with | 0, _ => ⟨rfl, rfl⟩)⟩))) ?_
    refine thenQ_normal ?_
    obtain ⟨v39, e40, h⟩ := bind_some h
    obtain ⟨c41, h⟩ := chk_some h
    obtain ⟨y42, e43, h⟩ := bind_some h
    refine AW.firstA (by kernel_rfl) [0, 2, 3] [.no, .no, .no, .no, .callM [(.box 3 (fun j => [true, false, false].getD j true) (fun j => (cs_l00Src (l00Src.mk a0 v29.2.1 v29.2.2)).getD j .nilptr) (fun j => [.nilptr, (.int .i64 v39.2.1), (.int .u64 v39.2.2)].getD j .nilptr)), .one (.ro (.int .i64 (9 : Int)))] [.one (.int .i64 v39.1)] [[.view]] none, .no, .no, .no, .no, .no, .set y42.length (gl cs_Bone y42) ((List.range 1).map fun j => (cs_Bone (Bone.mk ((y32.getD x9.toNat default).Parent) (Vector.mk (((y32.getD x9.toNat default).Offset).X) (((y32.getD x9.toNat default).Offset).Y) (Fl.ofInt .f32 (IntKind.i64.wrap (v39.1 - (4 : Int))))))).getD (3 + j) .nilptr)] [2, 3, 4, 15, 16] [1, 2, 3, 4] (s' := ⟨[(2, (vp 1 0)), (3, (vp 2 0)), (4, (vp 4 0)), (15, (vc (.int .i64 (v3.1.Bones.length : Int)))), (16, (vc (.int .i64 x9)))], [(1, (.box [.nils])), (2, (.box [(.c (sl 1 (csI .u8) a0)), (.c (.int .i64 v39.2.1)), (.c (.int .u64 v39.2.2))])), (3, (.arr true y42.length 4 (gl cs_Bone y42))), (4, (.box [(.arr 3)]))]⟩) (ob := (Zt4 ((⟨[(2, (vp 1 0)), (3, (vp 2 0)), (4, (vp 4 0)), (15, (vc (.int .i64 (v3.1.Bones.length : Int)))), (16, (vc (.int .i64 x9)))], [(1, (.box [.nils])), (2, (.box [(.c (sl 1 (csI .u8) a0)), (.c (.int .i64 v39.2.1)), (.c (.int .u64 v39.2.2))])), (3, (.arr true y42.length 4 (gl cs_Bone y42))), (4, (.box [(.arr 3)]))]⟩ : St) = ⟨[(2, (vp 1 0)), (3, (vp 2 0)), (4, (vp 4 0)), (15, (vc (.int .i64 (v3.1.Bones.length : Int)))), (16, (vc (.int .i64 x9)))], [(1, (.box [.nils])), (2, (.box [(.c (sl 1 (csI .u8) a0)), (.c (.int .i64 v39.2.1)), (.c (.int .u64 v39.2.2))])), (3, (.arr true y42.length 4 (gl cs_Bone y42))), (4, (.box [(.arr 3)]))]⟩) (((((Eqc (sl 1 (csI .u8) a0)) ∧ (Eqc (.int .i64 v29.2.1)) ∧ (Eqc (.int .u64 v29.2.2)) ∧ Tt) ∧ (Eqc (.int .i64 (9 : Int))) ∧ Tt) ∧ MutOK Try.prog 17 [(.box 3 (fun j => [true, false, false].getD j true) (fun j => (cs_l00Src (l00Src.mk a0 v29.2.1 v29.2.2)).getD j .nilptr) (fun j => [.nilptr, (.int .i64 v39.2.1), (.int .u64 v39.2.2)].getD j .nilptr)), .one (.ro (.int .i64 (9 : Int)))] [.one (.int .i64 v39.1)])) ((0 ≤ x9 ∧ x9 < (y32.length : Int))) ((y42.length = y32.length ∧ SetOb y32.length 4 x9.toNat 3 1 (gl cs_Bone y32) (gl cs_Bone y42) ∧ ((List.range 1).map fun j => (cs_Bone (Bone.mk ((y32.getD x9.toNat default).Parent) (Vector.mk (((y32.getD x9.toNat default).Offset).X) (((y32.getD x9.toNat default).Offset).Y) (Fl.ofInt .f32 (IntKind.i64.wrap (v39.1 - (4 : Int))))))).getD (3 + j) .nilptr) = ((List.range 1).map fun j => gl cs_Bone y42 x9.toNat (3 + j)) ∧ ((((.flt .f32 (Fl.ofInt .f32 (IntKind.i64.wrap (v39.1 - (4 : Int)))).bits) : C) = (.flt .f32 (Fl.ofInt .f32 (IntKind.i64.wrap (v39.1 - (4 : Int)))).bits) ∧ Tt) ∧ Tt) ∧ (true = true → ∀ j, j < 1 → isSeq (gl cs_Bone y32 x9.toNat (3 + j)) = false ∧ isSeq (gl cs_Bone y42 x9.toNat (3 + j)) = false))))) (by kernel_rfl) (zt4 rfl ⟨⟨⟨rfl, rfl, rfl, tr⟩, rfl, tr⟩, ok_spec_l00Src_pick K (l00Src.mk a0 v29.2.1 v29.2.2) (9 : Int) v39 e40⟩ (c41) ((letP (some_eq e43) (fun z => (z.length = y32.length ∧ SetOb y32.length 4 x9.toNat 3 1 (gl cs_Bone y32) (gl cs_Bone z) ∧ ((List.range 1).map fun j => (cs_Bone (Bone.mk ((y32.getD x9.toNat default).Parent) (Vector.mk (((y32.getD x9.toNat default).Offset).X) (((y32.getD x9.toNat default).Offset).Y) (Fl.ofInt .f32 (IntKind.i64.wrap (v39.1 - (4 : Int))))))).getD (3 + j) .nilptr) = ((List.range 1).map fun j => gl cs_Bone z x9.toNat (3 + j)) ∧ ((((.flt .f32 (Fl.ofInt .f32 (IntKind.i64.wrap (v39.1 - (4 : Int)))).bits) : C) = (.flt .f32 (Fl.ofInt .f32 (IntKind.i64.wrap (v39.1 - (4 : Int)))).bits) ∧ Tt) ∧ Tt) ∧ (true = true → ∀ j, j < 1 → isSeq (gl cs_Bone y32 x9.toNat (3 + j)) = false ∧ isSeq (gl cs_Bone z x9.toNat (3 + j)) = false))) ⟨List.length_set, gl_setp (fun j hj hn => match j, hj, hn with | 0, _, _ => rfl | 1, _, _ => rfl | 2, _, _ => rfl | 3, _, hn => absurd ⟨by decide, by decide⟩ hn) (lt_of_bound c41), (gl_atp (lt_of_bound c41)).symm, ⟨⟨rfl, tr⟩, tr⟩, (fun _ j hj => match j, hj with | 0, _ => ⟨rfl, rfl⟩)⟩))) ?_
    refine blockQ_normal ?_
    refine thenQ_normal ?_
    refine AW.rA ⟨[(2, (vp 1 0)), (3, (vp 2 0)), (4, (vp 4 0)), (15, (vc (.int .i64 (v3.1.Bones.length : Int)))), (16, (vc (.int .i64 (IntKind.i64.wrap (x9 + (1 : Int))))))], [(1, (.box [.nils])), (2, (.box [(.c (sl 1 (csI .u8) a0)), (.c (.int .i64 v39.2.1)), (.c (.int .u64 v39.2.2))])), (3, (.arr true y42.length 4 (gl cs_Bone y42))), (4, (.box [(.arr 3)]))]⟩ (T2 Tt) [] [2, 3, 4, 15, 16] [1, 2, 3, 4] ⟨tr, tr, tr⟩ ?_
    exact loopQ_normal (k, (IntKind.i64.wrap (x9 + (1 : Int))), v39.2.1, v39.2.2, y42) h (Nat.lt_succ_self k) (Sub.keep [2, 3, 4, 15, 16] [1, 2, 3, 4] (by kernel_rfl) (by kernel_rfl))
  · refine AW.cond_f rfl b13 ?_
    refine AW.exit ?_
    refine thenQ_exit ?_
    refine loopQ_exit ?_
    refine blockQ_exit ?_
    refine thenQ_normal ?_
    refine AW.seq (AW.rA ⟨[(2, (vp 1 0))], [(1, (.box [(.arr 3)])), (3, (.arr true x12.length 4 (gl cs_Bone x12)))]⟩ (T2 Tt) [] [2] [1, 3] ⟨tr, tr, tr⟩ (thenQ_normal ?_))
    refine AW.ret ?_
    replace h := some_eq h
    subst h
    exact ⟨.inr rfl, retOK_of [(.agg [(.arr 3)])] (by kernel_rfl) ⟨⟨rfl, tr⟩, tr⟩ (of_decide_eq_true (by kernel_rfl))⟩

/-! impl.ValidSkeleton -/
def impl_ValidSkeleton_l1 (K : Nat) (a0 : Skeleton) : Nat → Int → Option (Bool)
  | 0, _ => none
  | k + 1, x9 => ite2 ((decide (x9 < (((a0.Bones.drop (1 : Int).toNat).take ((a0.Bones.length : Int).toNat - (1 : Int).toNat)).length : Int)))) (chk (0 ≤ x9 ∧ x9 < (((a0.Bones.drop (1 : Int).toNat).take ((a0.Bones.length : Int).toNat - (1 : Int).toNat)).length : Int)) ((ite2 ((decide (((((a0.Bones.drop (1 : Int).toNat).take ((a0.Bones.length : Int).toNat - (1 : Int).toNat)).getD x9.toNat default).Parent) < (0 : Int)))) (some true) (some (decide (((((a0.Bones.drop (1 : Int).toNat).take ((a0.Bones.length : Int).toNat - (1 : Int).toNat)).getD x9.toNat default).Parent) > x9)))).bind fun j13 => ite2 (j13) (some false) (impl_ValidSkeleton_l1 K a0 k (IntKind.i64.wrap (x9 + (1 : Int)))))) (some true)

def impl_ValidSkeleton (K : Nat) (a0 : Skeleton) : Option (Bool) :=
  (ite2 ((decide ((a0.Bones.length : Int) < (1 : Int)))) (some true) (ite2 ((decide ((a0.Bones.length : Int) > (12 : Int)))) (some true) (chk (0 ≤ (0 : Int) ∧ (0 : Int) < (a0.Bones.length : Int)) (some (((a0.Bones.getD ((0 : Int).toNat) default).Parent) != ((-1) : Int)))))).bind fun j4 => ite2 (j4) (some false) (chk (0 ≤ (1 : Int) ∧ (1 : Int) ≤ (a0.Bones.length : Int) ∧ (a0.Bones.length : Int) ≤ (a0.Bones.length : Int)) (impl_ValidSkeleton_l1 K a0 K (0 : Int)))

theorem ok_impl_ValidSkeleton (K : Nat) (a0 : Skeleton) (o : (Bool)) (h : impl_ValidSkeleton K a0 = some o) : CallOK Try.prog 8 [.agg (cs_Skeleton a0)] [.one (.bool o)] := by
  refine callOK_of_AW Try.func8 rfl (by kernel_rfl) (Nat.le_of_ble_eq_true (by kernel_rfl)) ?_
  intro w0
  unfold impl_ValidSkeleton at h
  refine AW.seq (AW.rA ⟨[(1, (vp 1 0))], [(1, (.box [(.c (sl 4 cs_Bone a0.Bones))]))]⟩ (T2 Tt) [.box 1] [1] [1] ⟨tr, tr, tr⟩ (thenQ_normal ?_))
  refine AW.seq ?_
  refine AW.seq ?_
  obtain ⟨j4, e5, h⟩ := bind_some h
  refine AW.join1 (s2 := ⟨[(1, (vp 1 0)), (22, (vc (.bool j4)))], [(1, (.box [(.c (sl 4 cs_Bone a0.Bones))]))]⟩) ?_ ?_
  · rcases ite2_cases e5 with ⟨b1, e5⟩ | ⟨b1, e5⟩
    · replace e5 := some_eq e5
      subst e5
      exact AW.rA ⟨[(1, (vp 1 0)), (22, (vc (.bool true)))], [(1, (.box [(.c (sl 4 cs_Bone a0.Bones))]))]⟩ (T4 ((Tt ∧ (decide ((a0.Bones.length : Int) < (1 : Int))) = true) ∧ Tt ∧ T4 (T4 (T4 Tt)))) [.no, .no, .no, .no, .dec true] [1, 22] [1] ⟨tr, tr, tr, tr, ⟨tr, b1⟩, tr, tr, tr, tr, tr, tr, tr, tr, tr, tr, tr, tr, tr, tr⟩ ⟨rfl, rfl⟩
    · rcases ite2_cases e5 with ⟨b2, e5⟩ | ⟨b2, e5⟩
      · replace e5 := some_eq e5
        subst e5
        exact AW.rA ⟨[(1, (vp 1 0)), (22, (vc (.bool true)))], [(1, (.box [(.c (sl 4 cs_Bone a0.Bones))]))]⟩ (T4 ((Tt ∧ (decide ((a0.Bones.length : Int) < (1 : Int))) = false) ∧ Tt ∧ T4 ((Tt ∧ (decide ((a0.Bones.length : Int) > (12 : Int))) = true) ∧ Tt ∧ T2 (T4 Tt)))) [.no, .no, .no, .no, .dec false, .no, .no, .no, .no, .no, .dec true] [1, 22] [1] ⟨tr, tr, tr, tr, ⟨tr, b1⟩, tr, tr, tr, tr, tr, ⟨tr, b2⟩, tr, tr, tr, tr, tr, tr, tr, tr⟩ ⟨rfl, rfl⟩
      · obtain ⟨c3, e5⟩ := chk_some e5
        replace e5 := some_eq e5
        subst e5
        exact AW.rA ⟨[(1, (vp 1 0)), (22, (vc (.bool (((a0.Bones.getD ((0 : Int).toNat) default).Parent) != ((-1) : Int)))))], [(1, (.box [(.c (sl 4 cs_Bone a0.Bones))]))]⟩ (T4 ((Tt ∧ (decide ((a0.Bones.length : Int) < (1 : Int))) = false) ∧ Tt ∧ T4 ((Tt ∧ (decide ((a0.Bones.length : Int) > (12 : Int))) = false) ∧ T2 ((0 ≤ (0 : Int) ∧ (0 : Int) < (a0.Bones.length : Int)) ∧ T4 Tt)))) [.no, .no, .no, .no, .dec false, .no, .no, .no, .no, .no, .dec false] [1, 22] [1] ⟨tr, tr, tr, tr, ⟨tr, b1⟩, tr, tr, tr, tr, tr, ⟨tr, b2⟩, tr, tr, c3, tr, tr, tr, tr, tr⟩ ⟨rfl, rfl⟩
  refine thenQ_normal ?_
  rcases ite2_cases h with ⟨b6, h⟩ | ⟨b6, h⟩
  · refine AW.cond_t rfl b6 ?_
    refine AW.seq (AW.rA ⟨[(2, (vc (.bool false)))], []⟩ (Tt ∧ Tt) [] [2] [] ⟨tr, tr⟩ (thenQ_normal ?_))
    refine AW.ret ?_
    refine thenQ_ret ?_
    replace h := some_eq h
    subst h
    exact ⟨.inr rfl, retOK_of [(.one (.c (.bool false)))] (by kernel_rfl) ⟨⟨rfl, tr⟩, tr⟩ (of_decide_eq_true (by kernel_rfl))⟩
  · refine AW.cond_f rfl b6 ?_
    refine AW.skip ?_
    refine thenQ_normal ?_
    refine AW.seq ?_
    refine AW.seq ?_
    obtain ⟨c7, h⟩ := chk_some h
    refine AW.rA ⟨[(25, (vc (sl 4 cs_Bone ((a0.Bones.drop (1 : Int).toNat).take ((a0.Bones.length : Int).toNat - (1 : Int).toNat))))), (26, (vc (.int .i64 (((a0.Bones.drop (1 : Int).toNat).take ((a0.Bones.length : Int).toNat - (1 : Int).toNat)).length : Int)))), (27, (vc (.int .i64 (0 : Int))))], []⟩ (T2 ((0 ≤ (1 : Int) ∧ (1 : Int) ≤ (a0.Bones.length : Int) ∧ (a0.Bones.length : Int) ≤ (a0.Bones.length : Int) ∧ ((((a0.Bones.drop (1 : Int).toNat).take ((a0.Bones.length : Int).toNat - (1 : Int).toNat)).length : Nat) : Int) = (a0.Bones.length : Int) - (1 : Int) ∧ ∀ i j, i < ((a0.Bones.drop (1 : Int).toNat).take ((a0.Bones.length : Int).toNat - (1 : Int).toNat)).length → j < 4 → gl cs_Bone ((a0.Bones.drop (1 : Int).toNat).take ((a0.Bones.length : Int).toNat - (1 : Int).toNat)) i j = gl cs_Bone a0.Bones ((1 : Int).toNat + i) j) ∧ T2 Tt)) [.no, .no, .seq ((a0.Bones.drop (1 : Int).toNat).take ((a0.Bones.length : Int).toNat - (1 : Int).toNat)).length (gl cs_Bone ((a0.Bones.drop (1 : Int).toNat).take ((a0.Bones.length : Int).toNat - (1 : Int).toNat)))] [25, 26, 27] [] ⟨tr, tr, ⟨c7.1, c7.2.1, c7.2.2, (gl_drop (sz := 4) (cs := cs_Bone) c7.1 c7.2.1 c7.2.2).1, (gl_drop c7.1 c7.2.1 c7.2.2).2⟩, tr, tr, tr⟩ ?_
    refine thenQ_normal ?_
    refine AW.block ?_
    refine AW.loopQ (σ := Nat × Int) (fun p => ⟨[(25, (vc (sl 4 cs_Bone ((a0.Bones.drop (1 : Int).toNat).take ((a0.Bones.length : Int).toNat - (1 : Int).toNat))))), (26, (vc (.int .i64 (((a0.Bones.drop (1 : Int).toNat).take ((a0.Bones.length : Int).toNat - (1 : Int).toNat)).length : Int)))), (27, (vc (.int .i64 p.2)))], []⟩) (fun p => impl_ValidSkeleton_l1 K a0 p.1 p.2 = some o) (fun p => p.1) (K, (0 : Int)) h ?_
    clear h
    rintro ⟨k, x9⟩ h
    replace h : impl_ValidSkeleton_l1 K a0 k x9 = some o := h
    show AW _ _ (⟨[(25, (vc (sl 4 cs_Bone ((a0.Bones.drop (1 : Int).toNat).take ((a0.Bones.length : Int).toNat - (1 : Int).toNat))))), (26, (vc (.int .i64 (((a0.Bones.drop (1 : Int).toNat).take ((a0.Bones.length : Int).toNat - (1 : Int).toNat)).length : Int)))), (27, (vc (.int .i64 x9)))], []⟩ : St) _
    obtain _ | k := k
    · rw [impl_ValidSkeleton_l1] at h; cases h
    rw [impl_ValidSkeleton_l1] at h
    refine AW.seq (AW.rA ⟨[(25, (vc (sl 4 cs_Bone ((a0.Bones.drop (1 : Int).toNat).take ((a0.Bones.length : Int).toNat - (1 : Int).toNat))))), (26, (vc (.int .i64 (((a0.Bones.drop (1 : Int).toNat).take ((a0.Bones.length : Int).toNat - (1 : Int).toNat)).length : Int)))), (27, (vc (.int .i64 x9))), (28, (vc (.bool (decide (x9 < (((a0.Bones.drop (1 : Int).toNat).take ((a0.Bones.length : Int).toNat - (1 : Int).toNat)).length : Int))))))], []⟩ (Tt ∧ Tt) [] [25, 26, 27, 28] [] ⟨tr, tr⟩ (thenQ_normal ?_))
    refine AW.seq ?_
    rcases ite2_cases h with ⟨b10, h⟩ | ⟨b10, h⟩
    · refine AW.cond_t rfl b10 ?_
      refine AW.skip ?_
      refine thenQ_normal ?_
      refine AW.seq ?_
      refine AW.block ?_
      refine AW.seq ?_
      obtain ⟨c11, h⟩ := chk_some h
      refine AW.rA ⟨[(3, (vc (.int .i64 x9))), (4, (vp 4 0)), (25, (vc (sl 4 cs_Bone ((a0.Bones.drop (1 : Int).toNat).take ((a0.Bones.length : Int).toNat - (1 : Int).toNat))))), (26, (vc (.int .i64 (((a0.Bones.drop (1 : Int).toNat).take ((a0.Bones.length : Int).toNat - (1 : Int).toNat)).length : Int)))), (27, (vc (.int .i64 x9)))], [(4, (.box [(.c (.int .i64 ((((a0.Bones.drop (1 : Int).toNat).take ((a0.Bones.length : Int).toNat - (1 : Int).toNat)).getD x9.toNat default).Parent))), (.c (.flt .f32 (((((a0.Bones.drop (1 : Int).toNat).take ((a0.Bones.length : Int).toNat - (1 : Int).toNat)).getD x9.toNat default).Offset).X).bits)), (.c (.flt .f32 (((((a0.Bones.drop (1 : Int).toNat).take ((a0.Bones.length : Int).toNat - (1 : Int).toNat)).getD x9.toNat default).Offset).Y).bits)), (.c (.flt .f32 (((((a0.Bones.drop (1 : Int).toNat).take ((a0.Bones.length : Int).toNat - (1 : Int).toNat)).getD x9.toNat default).Offset).Z).bits))]))]⟩ (Tt ∧ (0 ≤ x9 ∧ x9 < (((a0.Bones.drop (1 : Int).toNat).take ((a0.Bones.length : Int).toNat - (1 : Int).toNat)).length : Int)) ∧ T4 Tt) [.no, .no, .no, .box 4] [3, 4, 25, 26, 27] [4] ⟨tr, c11, tr, tr, tr, tr, tr⟩ ?_
      refine thenQ_normal ?_
      refine AW.seq ?_
      obtain ⟨j13, e14, h⟩ := bind_some h
      refine AW.join1 (s2 := ⟨[(25, (vc (sl 4 cs_Bone ((a0.Bones.drop (1 : Int).toNat).take ((a0.Bones.length : Int).toNat - (1 : Int).toNat))))), (26, (vc (.int .i64 (((a0.Bones.drop (1 : Int).toNat).take ((a0.Bones.length : Int).toNat - (1 : Int).toNat)).length : Int)))), (27, (vc (.int .i64 x9))), (40, (vc (.bool j13)))], []⟩) ?_ ?_
      · rcases ite2_cases e14 with ⟨b12, e14⟩ | ⟨b12, e14⟩
        · replace e14 := some_eq e14
          subst e14
          exact AW.rA ⟨[(25, (vc (sl 4 cs_Bone ((a0.Bones.drop (1 : Int).toNat).take ((a0.Bones.length : Int).toNat - (1 : Int).toNat))))), (26, (vc (.int .i64 (((a0.Bones.drop (1 : Int).toNat).take ((a0.Bones.length : Int).toNat - (1 : Int).toNat)).length : Int)))), (27, (vc (.int .i64 x9))), (40, (vc (.bool true)))], []⟩ (Tt ∧ T2 ((Tt ∧ (decide (((((a0.Bones.drop (1 : Int).toNat).take ((a0.Bones.length : Int).toNat - (1 : Int).toNat)).getD x9.toNat default).Parent) < (0 : Int))) = true) ∧ Tt ∧ T4 Tt)) [.no, .no, .no, .dec true] [25, 26, 27, 40] [] ⟨tr, tr, tr, ⟨tr, b12⟩, tr, tr, tr, tr, tr, tr⟩ ⟨rfl, rfl⟩
        · replace e14 := some_eq e14
          subst e14
          exact AW.rA ⟨[(25, (vc (sl 4 cs_Bone ((a0.Bones.drop (1 : Int).toNat).take ((a0.Bones.length : Int).toNat - (1 : Int).toNat))))), (26, (vc (.int .i64 (((a0.Bones.drop (1 : Int).toNat).take ((a0.Bones.length : Int).toNat - (1 : Int).toNat)).length : Int)))), (27, (vc (.int .i64 x9))), (40, (vc (.bool (decide (((((a0.Bones.drop (1 : Int).toNat).take ((a0.Bones.length : Int).toNat - (1 : Int).toNat)).getD x9.toNat default).Parent) > x9)))))], []⟩ (Tt ∧ T2 ((Tt ∧ (decide (((((a0.Bones.drop (1 : Int).toNat).take ((a0.Bones.length : Int).toNat - (1 : Int).toNat)).getD x9.toNat default).Parent) < (0 : Int))) = false) ∧ Tt ∧ T4 Tt)) [.no, .no, .no, .dec false] [25, 26, 27, 40] [] ⟨tr, tr, tr, ⟨tr, b12⟩, tr, tr, tr, tr, tr, tr⟩ ⟨rfl, rfl⟩
      refine thenQ_normal ?_
      rcases ite2_cases h with ⟨b15, h⟩ | ⟨b15, h⟩
      · refine AW.cond_t rfl b15 ?_
        refine AW.seq (AW.rA ⟨[(2, (vc (.bool false)))], []⟩ (Tt ∧ Tt) [] [2] [] ⟨tr, tr⟩ (thenQ_normal ?_))
        refine AW.ret ?_
        refine blockQ_ret ?_
        refine thenQ_ret ?_
        refine loopQ_ret ?_
        refine blockQ_ret ?_
        refine thenQ_ret ?_
        replace h := some_eq h
        subst h
        exact ⟨.inr rfl, retOK_of [(.one (.c (.bool false)))] (by kernel_rfl) ⟨⟨rfl, tr⟩, tr⟩ (of_decide_eq_true (by kernel_rfl))⟩
      · refine AW.cond_f rfl b15 ?_
        refine AW.skip ?_
        refine blockQ_normal ?_
        refine thenQ_normal ?_
        refine AW.rA ⟨[(25, (vc (sl 4 cs_Bone ((a0.Bones.drop (1 : Int).toNat).take ((a0.Bones.length : Int).toNat - (1 : Int).toNat))))), (26, (vc (.int .i64 (((a0.Bones.drop (1 : Int).toNat).take ((a0.Bones.length : Int).toNat - (1 : Int).toNat)).length : Int)))), (27, (vc (.int .i64 (IntKind.i64.wrap (x9 + (1 : Int))))))], []⟩ (T2 Tt) [] [25, 26, 27] [] ⟨tr, tr, tr⟩ ?_
        exact loopQ_normal (k, (IntKind.i64.wrap (x9 + (1 : Int)))) h (Nat.lt_succ_self k) (Sub.keep [25, 26, 27] [] (by kernel_rfl) (by kernel_rfl))
    · refine AW.cond_f rfl b10 ?_
      refine AW.exit ?_
      refine thenQ_exit ?_
      refine loopQ_exit ?_
      refine blockQ_exit ?_
      refine thenQ_normal ?_
      refine AW.seq (AW.rA ⟨[(2, (vc (.bool true)))], []⟩ (Tt ∧ Tt) [] [2] [] ⟨tr, tr⟩ (thenQ_normal ?_))
      refine AW.ret ?_
      replace h := some_eq h
      subst h
      exact ⟨.inr rfl, retOK_of [(.one (.c (.bool true)))] (by kernel_rfl) ⟨⟨rfl, tr⟩, tr⟩ (of_decide_eq_true (by kernel_rfl))⟩

/-! impl.InnerOf -/
def impl_InnerOf (_K : Nat) (a0 : Vector) (a1 : Vector) : Option (F32) :=
  some (((a0.X.mul a1.X).add (a0.Y.mul a1.Y)).add (a0.Z.mul a1.Z))

theorem ok_impl_InnerOf (K : Nat) (a0 : Vector) (a1 : Vector) (o : (F32)) (h : impl_InnerOf K a0 a1 = some o) : CallOK Try.prog 29 [.agg (cs_Vector a0), .agg (cs_Vector a1)] [.one (.flt .f32 o.bits)] := by
  refine callOK_of_AW Try.func29 rfl (by kernel_rfl) (Nat.le_of_ble_eq_true (by kernel_rfl)) ?_
  intro w0
  unfold impl_InnerOf at h
  refine AW.seq (AW.rA ⟨[(2, (vp 1 0)), (3, (vp 2 0))], [(1, (.box [(.c (.flt .f32 a0.X.bits)), (.c (.flt .f32 a0.Y.bits)), (.c (.flt .f32 a0.Z.bits))])), (2, (.box [(.c (.flt .f32 a1.X.bits)), (.c (.flt .f32 a1.Y.bits)), (.c (.flt .f32 a1.Z.bits))]))]⟩ (Tt ∧ T2 Tt) [.box 1, .box 2] [2, 3] [1, 2] ⟨tr, tr, tr, tr⟩ (thenQ_normal ?_))
  refine AW.seq (AW.rA ⟨[(4, (vc (.flt .f32 (((a0.X.mul a1.X).add (a0.Y.mul a1.Y)).add (a0.Z.mul a1.Z)).bits)))], []⟩ (T2 (T4 (T4 (T4 (T4 Tt))))) [] [4] [] ⟨tr, tr, tr, tr, tr, tr, tr, tr, tr, tr, tr, tr, tr, tr, tr, tr, tr, tr, tr⟩ (thenQ_normal ?_))
  refine AW.ret ?_
  replace h := some_eq h
  subst h
  exact ⟨.inr rfl, retOK_of [(.one (.c (.flt .f32 (((a0.X.mul a1.X).add (a0.Y.mul a1.Y)).add (a0.Z.mul a1.Z)).bits)))] (by kernel_rfl) ⟨⟨rfl, tr⟩, tr⟩ (of_decide_eq_true (by kernel_rfl))⟩

/-! math.sqrt -/
def math_sqrt (_K : Nat) (a0 : F64) : Option (F64) :=
  some a0.sqrt

theorem ok_math_sqrt (K : Nat) (a0 : F64) (o : F64) (h : math_sqrt K a0 = some o) : CallOK Try.prog 46 [.one (.flt .f64 a0.bits)] [.one (.flt .f64 o.bits)] :=
  hand_sqrt (e := Extern.MathSqrt.sqrt) Try.func46 (by kernel_rfl) (by kernel_rfl) (by kernel_rfl) (by kernel_rfl) (fun _ => rfl) a0 o h

/-! math.Sqrt -/
def math_Sqrt (K : Nat) (a0 : F64) : Option (F64) :=
  (math_sqrt K a0).bind fun v1 => some v1

theorem ok_math_Sqrt (K : Nat) (a0 : F64) (o : (F64)) (h : math_Sqrt K a0 = some o) : CallOK Try.prog 39 [.one (.flt .f64 a0.bits)] [.one (.flt .f64 o.bits)] := by
  refine callOK_of_AW Try.func39 rfl (by kernel_rfl) (Nat.le_of_ble_eq_true (by kernel_rfl)) ?_
  intro w0
  unfold math_Sqrt at h
  refine AW.seq (AW.rA ⟨[(0, (vc (.flt .f64 a0.bits)))], []⟩ (Tt ∧ Tt) [] [0] [] ⟨tr, tr⟩ (thenQ_normal ?_))
  refine AW.seq ?_
  obtain ⟨v1, e2, h⟩ := bind_some h
  refine AW.rA ⟨[(2, (vc (.flt .f64 v1.bits)))], []⟩ (Tt ∧ (((Eqc (.flt .f64 a0.bits)) ∧ Tt) ∧ CallOK Try.prog 46 [.one (.flt .f64 a0.bits)] [.one (.flt .f64 v1.bits)]) ∧ Tt ∧ Tt) [.no, .call [.one (.flt .f64 a0.bits)] [.one (.flt .f64 v1.bits)] [[.view]]] [2] [] ⟨tr, ⟨⟨rfl, tr⟩, ok_math_sqrt K a0 v1 e2⟩, tr, tr⟩ ?_
  refine thenQ_normal ?_
  refine AW.ret ?_
  replace h := some_eq h
  subst h
  exact ⟨.inr rfl, retOK_of [(.one (.c (.flt .f64 v1.bits)))] (by kernel_rfl) ⟨⟨rfl, tr⟩, tr⟩ (of_decide_eq_true (by kernel_rfl))⟩

/-! impl.RootNumber -/
def impl_RootNumber (K : Nat) (a0 : F32) : Option (F32) :=
  (math_Sqrt K (Fl.cv .f32 .f64 a0)).bind fun v1 => chk ((convBits .f64 v1.bits .f32).isSome = true) (some (Fl.cv .f64 .f32 v1))

theorem ok_impl_RootNumber (K : Nat) (a0 : F32) (o : (F32)) (h : impl_RootNumber K a0 = some o) : CallOK Try.prog 28 [.one (.flt .f32 a0.bits)] [.one (.flt .f32 o.bits)] := by
  refine callOK_of_AW Try.func28 rfl (by kernel_rfl) (Nat.le_of_ble_eq_true (by kernel_rfl)) ?_
  intro w0
  unfold impl_RootNumber at h
  refine AW.seq (AW.rA ⟨[(0, (vc (.flt .f32 a0.bits)))], []⟩ (Tt ∧ Tt) [] [0] [] ⟨tr, tr⟩ (thenQ_normal ?_))
  refine AW.seq ?_
  obtain ⟨v1, e2, h⟩ := bind_some h
  obtain ⟨c3, h⟩ := chk_some h
  refine AW.rA ⟨[(2, (vc (.flt .f32 (Fl.cv .f64 .f32 v1).bits)))], []⟩ (Tt ∧ ((convBits .f32 a0.bits .f64).isSome = true) ∧ (((Eqc (.flt .f64 (Fl.cv .f32 .f64 a0).bits)) ∧ Tt) ∧ CallOK Try.prog 39 [.one (.flt .f64 (Fl.cv .f32 .f64 a0).bits)] [.one (.flt .f64 v1.bits)]) ∧ ((convBits .f64 v1.bits .f32).isSome = true) ∧ Tt ∧ Tt) [.no, .no, .call [.one (.flt .f64 (Fl.cv .f32 .f64 a0).bits)] [.one (.flt .f64 v1.bits)] [[.view]]] [2] [] ⟨tr, cv_wide a0, ⟨⟨rfl, tr⟩, ok_math_Sqrt K (Fl.cv .f32 .f64 a0) v1 e2⟩, c3, tr, tr⟩ ?_
  refine thenQ_normal ?_
  refine AW.ret ?_
  replace h := some_eq h
  subst h
  exact ⟨.inr rfl, retOK_of [(.one (.c (.flt .f32 (Fl.cv .f64 .f32 v1).bits)))] (by kernel_rfl) ⟨⟨rfl, tr⟩, tr⟩ (of_decide_eq_true (by kernel_rfl))⟩

/-! impl.LongOf -/
def impl_LongOf (K : Nat) (a0 : Vector) : Option (F32) :=
  (impl_InnerOf K a0 a0).bind fun v1 => (impl_RootNumber K v1).bind fun v3 => some v3

theorem ok_impl_LongOf (K : Nat) (a0 : Vector) (o : (F32)) (h : impl_LongOf K a0 = some o) : CallOK Try.prog 18 [.agg (cs_Vector a0)] [.one (.flt .f32 o.bits)] := by
  refine callOK_of_AW Try.func18 rfl (by kernel_rfl) (Nat.le_of_ble_eq_true (by kernel_rfl)) ?_
  intro w0
  unfold impl_LongOf at h
  refine AW.seq (AW.rA ⟨[(1, (vp 1 0))], [(1, (.box [(.c (.flt .f32 a0.X.bits)), (.c (.flt .f32 a0.Y.bits)), (.c (.flt .f32 a0.Z.bits))]))]⟩ (T2 Tt) [.box 1] [1] [1] ⟨tr, tr, tr⟩ (thenQ_normal ?_))
  refine AW.seq ?_
  obtain ⟨v1, e2, h⟩ := bind_some h
  obtain ⟨v3, e4, h⟩ := bind_some h
  refine AW.rA ⟨[(2, (vc (.flt .f32 v3.bits)))], []⟩ (T2 (((((Eqc (.flt .f32 a0.X.bits)) ∧ (Eqc (.flt .f32 a0.Y.bits)) ∧ (Eqc (.flt .f32 a0.Z.bits)) ∧ Tt) ∧ ((Eqc (.flt .f32 a0.X.bits)) ∧ (Eqc (.flt .f32 a0.Y.bits)) ∧ (Eqc (.flt .f32 a0.Z.bits)) ∧ Tt) ∧ Tt) ∧ CallOK Try.prog 29 [.agg (cs_Vector a0), .agg (cs_Vector a0)] [.one (.flt .f32 v1.bits)]) ∧ (((Eqc (.flt .f32 v1.bits)) ∧ Tt) ∧ CallOK Try.prog 28 [.one (.flt .f32 v1.bits)] [.one (.flt .f32 v3.bits)]) ∧ Tt ∧ Tt)) [.no, .no, .call [.agg (cs_Vector a0), .agg (cs_Vector a0)] [.one (.flt .f32 v1.bits)] [[.view]], .call [.one (.flt .f32 v1.bits)] [.one (.flt .f32 v3.bits)] [[.view]]] [2] [] ⟨tr, tr, ⟨⟨⟨rfl, rfl, rfl, tr⟩, ⟨rfl, rfl, rfl, tr⟩, tr⟩, ok_impl_InnerOf K a0 a0 v1 e2⟩, ⟨⟨rfl, tr⟩, ok_impl_RootNumber K v1 v3 e4⟩, tr, tr⟩ ?_
  refine thenQ_normal ?_
  refine AW.ret ?_
  replace h := some_eq h
  subst h
  exact ⟨.inr rfl, retOK_of [(.one (.c (.flt .f32 v3.bits)))] (by kernel_rfl) ⟨⟨rfl, tr⟩, tr⟩ (of_decide_eq_true (by kernel_rfl))⟩

/-! impl.BoneLengths -/
def impl_BoneLengths_l1 (K : Nat) (a0 : Skeleton) : Nat → Int → (List F32) → Option ((List F32) × Bool)
  | 0, _, _ => none
  | k + 1, x7, x8 => ite2 ((decide (x7 < (a0.Bones.length : Int)))) (chk (0 ≤ x7 ∧ x7 < (a0.Bones.length : Int)) ((impl_LongOf K ((a0.Bones.getD x7.toNat default).Offset)).bind fun v11 => chk (0 ≤ x7 ∧ x7 < (x8.length : Int)) (impl_BoneLengths_l1 K a0 k (IntKind.i64.wrap (x7 + (1 : Int))) (x8.set x7.toNat v11)))) (some (x8, true))

def impl_BoneLengths (K : Nat) (a0 : Skeleton) : Option ((List F32) × Bool) :=
  (impl_ValidSkeleton K a0).bind fun v1 => ite2 ((!v1)) (some (([] : (List F32)), false)) (chk (0 ≤ (a0.Bones.length : Int) ∧ (a0.Bones.length : Int).toNat * 4 ≤ 140737488355328) (impl_BoneLengths_l1 K a0 K (0 : Int) (List.replicate (a0.Bones.length : Int).toNat (default : F32))))

theorem ok_impl_BoneLengths (K : Nat) (a0 : Skeleton) (o : ((List F32) × Bool)) (h : impl_BoneLengths K a0 = some o) : CallOK Try.prog 6 [.agg (cs_Skeleton a0)] [.one (sl 1 (csF .f32) o.1), .one (.bool o.2)] := by
  refine callOK_of_AW Try.func6 rfl (by kernel_rfl) (Nat.le_of_ble_eq_true (by kernel_rfl)) ?_
  intro w0
  unfold impl_BoneLengths at h
  refine AW.seq (AW.rA ⟨[(1, (vp 1 0))], [(1, (.box [(.c (sl 4 cs_Bone a0.Bones))]))]⟩ (Tt ∧ T2 Tt) [.box 1] [1] [1] ⟨tr, tr, tr, tr⟩ (thenQ_normal ?_))
  refine AW.seq ?_
  refine AW.seq ?_
  obtain ⟨v1, e2, h⟩ := bind_some h
  refine AW.rA ⟨[(1, (vp 1 0)), (9, (vc (.bool (!v1))))], [(1, (.box [(.c (sl 4 cs_Bone a0.Bones))]))]⟩ (Tt ∧ ((((Eqc (sl 4 cs_Bone a0.Bones)) ∧ Tt) ∧ Tt) ∧ CallOK Try.prog 8 [.agg (cs_Skeleton a0)] [.one (.bool v1)]) ∧ Tt ∧ Tt) [.no, .call [.agg (cs_Skeleton a0)] [.one (.bool v1)] [[.view]]] [1, 9] [1] ⟨tr, ⟨⟨⟨rfl, tr⟩, tr⟩, ok_impl_ValidSkeleton K a0 v1 e2⟩, tr, tr⟩ ?_
  refine thenQ_normal ?_
  rcases ite2_cases h with ⟨b3, h⟩ | ⟨b3, h⟩
  · refine AW.cond_t rfl b3 ?_
    refine AW.seq (AW.rA ⟨[(2, (.v (.one .nils))), (3, (vc (.bool false)))], []⟩ (T2 Tt) [] [2, 3] [] ⟨tr, tr, tr⟩ (thenQ_normal ?_))
    refine AW.ret ?_
    refine thenQ_ret ?_
    replace h := some_eq h
    subst h
    exact ⟨.inr rfl, retOK_of [(.one .nils), (.one (.c (.bool false)))] (by kernel_rfl) ⟨rfl, ⟨rfl, tr⟩, tr⟩ (of_decide_eq_true (by kernel_rfl))⟩
  · refine AW.cond_f rfl b3 ?_
    refine AW.skip ?_
    refine thenQ_normal ?_
    refine AW.seq ?_
    obtain ⟨c4, h⟩ := chk_some h
    refine AW.rA ⟨[(1, (vp 1 0)), (4, (.v (.one (.arr 2))))], [(1, (.box [(.c (sl 4 cs_Bone a0.Bones))])), (2, (.arr false (List.replicate (a0.Bones.length : Int).toNat (default : F32)).length 1 (gl (csF .f32) (List.replicate (a0.Bones.length : Int).toNat (default : F32)))))]⟩ (Tt ∧ T2 ((0 ≤ (a0.Bones.length : Int) ∧ (a0.Bones.length : Int) = (a0.Bones.length : Int) ∧ (((List.replicate (a0.Bones.length : Int).toNat (default : F32)).length : Nat) : Int) = (a0.Bones.length : Int) ∧ (List.replicate (a0.Bones.length : Int).toNat (default : F32)).length * 4 ≤ 140737488355328 ∧ ∀ i, i < (List.replicate (a0.Bones.length : Int).toNat (default : F32)).length → zeroRow (fun _ => none) [(.c (.flt .f32 (default : F32).bits))] (gl (csF .f32) (List.replicate (a0.Bones.length : Int).toNat (default : F32)) i)) ∧ Tt ∧ Tt)) [.no, .no, .no, .objA 2 (List.replicate (a0.Bones.length : Int).toNat (default : F32)).length (gl (csF .f32) (List.replicate (a0.Bones.length : Int).toNat (default : F32)))] [1, 4] [1, 2] ⟨tr, tr, tr, ⟨c4.1, rfl, len_rep c4.1, rep_bytes c4.2, fun i hi => gl_zero (cs := (csF .f32)) (zs := [(.c (.flt .f32 (default : F32).bits))]) (n := (a0.Bones.length : Int).toNat) ⟨⟨rfl, tr⟩, tr⟩ i (rep_lt hi)⟩, tr, tr⟩ ?_
    refine thenQ_normal ?_
    refine AW.seq ?_
    refine AW.seq (AW.rA ⟨[(4, (.v (.one (.arr 2)))), (15, (vc (sl 4 cs_Bone a0.Bones))), (16, (vc (.int .i64 (a0.Bones.length : Int)))), (17, (vc (.int .i64 (0 : Int))))], [(2, (.arr false (List.replicate (a0.Bones.length : Int).toNat (default : F32)).length 1 (gl (csF .f32) (List.replicate (a0.Bones.length : Int).toNat (default : F32)))))]⟩ (T4 Tt) [] [4, 15, 16, 17] [2] ⟨tr, tr, tr, tr, tr⟩ (thenQ_normal ?_))
    refine AW.block ?_
    refine AW.loopQ (σ := Nat × Int × (List F32)) (fun p => ⟨[(4, (.v (.one (.arr 2)))), (15, (vc (sl 4 cs_Bone a0.Bones))), (16, (vc (.int .i64 (a0.Bones.length : Int)))), (17, (vc (.int .i64 p.2.1)))], [(2, (.arr false p.2.2.length 1 (gl (csF .f32) p.2.2)))]⟩) (fun p => impl_BoneLengths_l1 K a0 p.1 p.2.1 p.2.2 = some o) (fun p => p.1) (K, (0 : Int), (List.replicate (a0.Bones.length : Int).toNat (default : F32))) h ?_
    clear h
    rintro ⟨k, x7, x8⟩ h
    replace h : impl_BoneLengths_l1 K a0 k x7 x8 = some o := h
    show AW _ _ (⟨[(4, (.v (.one (.arr 2)))), (15, (vc (sl 4 cs_Bone a0.Bones))), (16, (vc (.int .i64 (a0.Bones.length : Int)))), (17, (vc (.int .i64 x7)))], [(2, (.arr false x8.length 1 (gl (csF .f32) x8)))]⟩ : St) _
    obtain _ | k := k
    · rw [impl_BoneLengths_l1] at h; cases h
    rw [impl_BoneLengths_l1] at h
    refine AW.seq (AW.rA ⟨[(4, (.v (.one (.arr 2)))), (15, (vc (sl 4 cs_Bone a0.Bones))), (16, (vc (.int .i64 (a0.Bones.length : Int)))), (17, (vc (.int .i64 x7))), (18, (vc (.bool (decide (x7 < (a0.Bones.length : Int))))))], [(2, (.arr false x8.length 1 (gl (csF .f32) x8)))]⟩ (Tt ∧ Tt) [] [4, 15, 16, 17, 18] [2] ⟨tr, tr⟩ (thenQ_normal ?_))
    refine AW.seq ?_
    rcases ite2_cases h with ⟨b9, h⟩ | ⟨b9, h⟩
    · refine AW.cond_t rfl b9 ?_
      refine AW.skip ?_
      refine thenQ_normal ?_
      refine AW.seq ?_
      refine AW.block ?_
      refine AW.seq ?_
      obtain ⟨c10, h⟩ := chk_some h
      refine AW.rA ⟨[(4, (.v (.one (.arr 2)))), (5, (vc (.int .i64 x7))), (6, (vp 5 0)), (15, (vc (sl 4 cs_Bone a0.Bones))), (16, (vc (.int .i64 (a0.Bones.length : Int)))), (17, (vc (.int .i64 x7)))], [(2, (.arr false x8.length 1 (gl (csF .f32) x8))), (5, (.box [(.c (.int .i64 ((a0.Bones.getD x7.toNat default).Parent))), (.c (.flt .f32 (((a0.Bones.getD x7.toNat default).Offset).X).bits)), (.c (.flt .f32 (((a0.Bones.getD x7.toNat default).Offset).Y).bits)), (.c (.flt .f32 (((a0.Bones.getD x7.toNat default).Offset).Z).bits))]))]⟩ (Tt ∧ (0 ≤ x7 ∧ x7 < (a0.Bones.length : Int)) ∧ T4 Tt) [.no, .no, .no, .box 5] [4, 5, 6, 15, 16, 17] [2, 5] ⟨tr, c10, tr, tr, tr, tr, tr⟩ ?_
      refine thenQ_normal ?_
      obtain ⟨v11, e12, h⟩ := bind_some h
      obtain ⟨c13, h⟩ := chk_some h
      refine AW.rA ⟨[(4, (.v (.one (.arr 2)))), (15, (vc (sl 4 cs_Bone a0.Bones))), (16, (vc (.int .i64 (a0.Bones.length : Int)))), (17, (vc (.int .i64 x7)))], [(2, (.arr false (x8.set x7.toNat v11).length 1 (gl (csF .f32) (x8.set x7.toNat v11))))]⟩ (T4 (((((Eqc (.flt .f32 (((a0.Bones.getD x7.toNat default).Offset).X).bits)) ∧ (Eqc (.flt .f32 (((a0.Bones.getD x7.toNat default).Offset).Y).bits)) ∧ (Eqc (.flt .f32 (((a0.Bones.getD x7.toNat default).Offset).Z).bits)) ∧ Tt) ∧ Tt) ∧ CallOK Try.prog 18 [.agg (cs_Vector ((a0.Bones.getD x7.toNat default).Offset))] [.one (.flt .f32 v11.bits)]) ∧ (0 ≤ x7 ∧ x7 < (x8.length : Int)) ∧ ((x8.set x7.toNat v11).length = x8.length ∧ SetOb x8.length 1 x7.toNat 0 1 (gl (csF .f32) x8) (gl (csF .f32) (x8.set x7.toNat v11)) ∧ ((List.range 1).map fun j => ((csF .f32) v11).getD (0 + j) .nilptr) = ((List.range 1).map fun j => gl (csF .f32) (x8.set x7.toNat v11) x7.toNat (0 + j)) ∧ ((((.flt .f32 v11.bits) : C) = (.flt .f32 v11.bits) ∧ Tt) ∧ Tt) ∧ (false = true → ∀ j, j < 1 → isSeq (gl (csF .f32) x8 x7.toNat (0 + j)) = false ∧ isSeq (gl (csF .f32) (x8.set x7.toNat v11) x7.toNat (0 + j)) = false)) ∧ Tt)) [.no, .no, .no, .no, .call [.agg (cs_Vector ((a0.Bones.getD x7.toNat default).Offset))] [.one (.flt .f32 v11.bits)] [[.view]], .no, .set (x8.set x7.toNat v11).length (gl (csF .f32) (x8.set x7.toNat v11)) ((List.range 1).map fun j => ((csF .f32) v11).getD (0 + j) .nilptr)] [4, 15, 16, 17] [2] ⟨tr, tr, tr, tr, ⟨⟨⟨rfl, rfl, rfl, tr⟩, tr⟩, ok_impl_LongOf K ((a0.Bones.getD x7.toNat default).Offset) v11 e12⟩, c13, ⟨List.length_set, gl_set, (gl_atp (lt_of_bound c13)).symm, ⟨⟨rfl, tr⟩, tr⟩, (fun h => nomatch h)⟩, tr⟩ ?_
      refine blockQ_normal ?_
      refine thenQ_normal ?_
      refine AW.rA ⟨[(4, (.v (.one (.arr 2)))), (15, (vc (sl 4 cs_Bone a0.Bones))), (16, (vc (.int .i64 (a0.Bones.length : Int)))), (17, (vc (.int .i64 (IntKind.i64.wrap (x7 + (1 : Int))))))], [(2, (.arr false (x8.set x7.toNat v11).length 1 (gl (csF .f32) (x8.set x7.toNat v11))))]⟩ (T2 Tt) [] [4, 15, 16, 17] [2] ⟨tr, tr, tr⟩ ?_
      exact loopQ_normal (k, (IntKind.i64.wrap (x7 + (1 : Int))), (x8.set x7.toNat v11)) h (Nat.lt_succ_self k) (Sub.keep [4, 15, 16, 17] [2] (by kernel_rfl) (by kernel_rfl))
    · refine AW.cond_f rfl b9 ?_
      refine AW.exit ?_
      refine thenQ_exit ?_
      refine loopQ_exit ?_
      refine blockQ_exit ?_
      refine thenQ_normal ?_
      refine AW.seq (AW.rA ⟨[(2, (.v (.one (.arr 2)))), (3, (vc (.bool true)))], [(2, (.arr false x8.length 1 (gl (csF .f32) x8)))]⟩ (Tt ∧ T2 Tt) [] [2, 3] [2] ⟨tr, tr, tr, tr⟩ (thenQ_normal ?_))
      refine AW.ret ?_
      replace h := some_eq h
      subst h
      exact ⟨.inr rfl, retOK_of [(.one (.arr 2)), (.one (.c (.bool true)))] (by kernel_rfl) ⟨rfl, ⟨rfl, tr⟩, tr⟩ (of_decide_eq_true (by kernel_rfl))⟩

/-! impl.NoTurn -/
def impl_NoTurn (_K : Nat) : Option (Turn) :=
  some (Turn.mk (Fl.mk (k := .f32) 1065353216 (by decide)) (default : F32) (default : F32) (default : F32))

theorem ok_impl_NoTurn (K : Nat) (o : (Turn)) (h : impl_NoTurn K  = some o) : CallOK Try.prog 31 [] [.agg (cs_Turn o)] := by
  refine callOK_of_AW Try.func31 rfl (by kernel_rfl) (Nat.le_of_ble_eq_true (by kernel_rfl)) ?_
  intro w0
  unfold impl_NoTurn at h
  refine AW.seq (AW.rA ⟨[(0, (vp 1 0))], [(1, (.box [(.c (.flt .f32 (default : F32).bits)), (.c (.flt .f32 (default : F32).bits)), (.c (.flt .f32 (default : F32).bits)), (.c (.flt .f32 (default : F32).bits))]))]⟩ (Tt ∧ Tt) [.box 1] [0] [1] ⟨tr, tr⟩ (thenQ_normal ?_))
  refine AW.seq (AW.rA ⟨[(0, (vp 1 0))], [(1, (.box [(.c (.flt .f32 (Fl.mk (k := .f32) 1065353216 (by decide)).bits)), (.c (.flt .f32 (default : F32).bits)), (.c (.flt .f32 (default : F32).bits)), (.c (.flt .f32 (default : F32).bits))]))]⟩ (T2 Tt) [] [0] [1] ⟨tr, tr, tr⟩ (thenQ_normal ?_))
  refine AW.ret ?_
  replace h := some_eq h
  subst h
  exact ⟨.inr rfl, retOK_of [(.agg [(.c (.flt .f32 (Fl.mk (k := .f32) 1065353216 (by decide)).bits)), (.c (.flt .f32 (default : F32).bits)), (.c (.flt .f32 (default : F32).bits)), (.c (.flt .f32 (default : F32).bits))])] (by kernel_rfl) ⟨⟨⟨rfl, tr⟩, ⟨rfl, tr⟩, ⟨rfl, tr⟩, ⟨rfl, tr⟩, tr⟩, tr⟩ (of_decide_eq_true (by kernel_rfl))⟩

/-! math/bits.Mul64 -/
def bits_Mul64 (_K : Nat) (a0 : Int) (a1 : Int) : Option (Int × Int) :=
  chk (0 ≤ (32 : Int)) (some ((IntKind.u64.wrap ((IntKind.u64.wrap ((IntKind.u64.wrap ((a0.fdiv (2 ^ (min (32 : Int).toNat (IntKind.bits .u64)))) * (a1.fdiv (2 ^ (min (32 : Int).toNat (IntKind.bits .u64)))))) + ((IntKind.u64.wrap ((IntKind.u64.wrap ((a0.fdiv (2 ^ (min (32 : Int).toNat (IntKind.bits .u64)))) * (bits .and .u64 a1 (4294967295 : Int)))) + ((IntKind.u64.wrap ((bits .and .u64 a0 (4294967295 : Int)) * (bits .and .u64 a1 (4294967295 : Int)))).fdiv (2 ^ (min (32 : Int).toNat (IntKind.bits .u64)))))).fdiv (2 ^ (min (32 : Int).toNat (IntKind.bits .u64)))))) + ((IntKind.u64.wrap ((bits .and .u64 (IntKind.u64.wrap ((IntKind.u64.wrap ((a0.fdiv (2 ^ (min (32 : Int).toNat (IntKind.bits .u64)))) * (bits .and .u64 a1 (4294967295 : Int)))) + ((IntKind.u64.wrap ((bits .and .u64 a0 (4294967295 : Int)) * (bits .and .u64 a1 (4294967295 : Int)))).fdiv (2 ^ (min (32 : Int).toNat (IntKind.bits .u64)))))) (4294967295 : Int)) + (IntKind.u64.wrap ((bits .and .u64 a0 (4294967295 : Int)) * (a1.fdiv (2 ^ (min (32 : Int).toNat (IntKind.bits .u64)))))))).fdiv (2 ^ (min (32 : Int).toNat (IntKind.bits .u64)))))), (IntKind.u64.wrap (a0 * a1))))

theorem ok_bits_Mul64 (K : Nat) (a0 : Int) (a1 : Int) (o : (Int × Int)) (h : bits_Mul64 K a0 a1 = some o) : CallOK Try.prog 48 [.one (.int .u64 a0), .one (.int .u64 a1)] [.one (.int .u64 o.1), .one (.int .u64 o.2)] := by
  refine callOK_of_AW Try.func48 rfl (by kernel_rfl) (Nat.le_of_ble_eq_true (by kernel_rfl)) ?_
  intro w0
  unfold bits_Mul64 at h
  refine AW.seq (AW.rA ⟨[(0, (vc (.int .u64 a0))), (1, (vc (.int .u64 a1)))], []⟩ (T2 Tt) [] [0, 1] [] ⟨tr, tr, tr⟩ (thenQ_normal ?_))
  refine AW.seq (AW.rA ⟨[(0, (vc (.int .u64 a0))), (1, (vc (.int .u64 a1))), (6, (vc (.int .u64 (bits .and .u64 a0 (4294967295 : Int)))))], []⟩ (Tt ∧ T2 Tt) [] [0, 1, 6] [] ⟨tr, tr, tr, tr⟩ (thenQ_normal ?_))
  refine AW.seq ?_
  obtain ⟨c1, h⟩ := chk_some h
  refine AW.rA ⟨[(0, (vc (.int .u64 a0))), (1, (vc (.int .u64 a1))), (6, (vc (.int .u64 (bits .and .u64 a0 (4294967295 : Int))))), (7, (vc (.int .u64 (a0.fdiv (2 ^ (min (32 : Int).toNat (IntKind.bits .u64)))))))], []⟩ (Tt ∧ (0 ≤ (32 : Int)) ∧ Tt ∧ Tt) [] [0, 1, 6, 7] [] ⟨tr, c1, tr, tr⟩ ?_
  refine thenQ_normal ?_
  refine AW.seq (AW.rA ⟨[(0, (vc (.int .u64 a0))), (1, (vc (.int .u64 a1))), (6, (vc (.int .u64 (bits .and .u64 a0 (4294967295 : Int))))), (7, (vc (.int .u64 (a0.fdiv (2 ^ (min (32 : Int).toNat (IntKind.bits .u64))))))), (8, (vc (.int .u64 (bits .and .u64 a1 (4294967295 : Int)))))], []⟩ (Tt ∧ T2 Tt) [] [0, 1, 6, 7, 8] [] ⟨tr, tr, tr, tr⟩ (thenQ_normal ?_))
  refine AW.seq (AW.rA ⟨[(0, (vc (.int .u64 a0))), (1, (vc (.int .u64 a1))), (6, (vc (.int .u64 (bits .and .u64 a0 (4294967295 : Int))))), (7, (vc (.int .u64 (a0.fdiv (2 ^ (min (32 : Int).toNat (IntKind.bits .u64))))))), (8, (vc (.int .u64 (bits .and .u64 a1 (4294967295 : Int))))), (9, (vc (.int .u64 (a1.fdiv (2 ^ (min (32 : Int).toNat (IntKind.bits .u64)))))))], []⟩ (Tt ∧ (0 ≤ (32 : Int)) ∧ Tt ∧ Tt) [] [0, 1, 6, 7, 8, 9] [] ⟨tr, c1, tr, tr⟩ (thenQ_normal ?_))
  refine AW.seq (AW.rA ⟨[(0, (vc (.int .u64 a0))), (1, (vc (.int .u64 a1))), (6, (vc (.int .u64 (bits .and .u64 a0 (4294967295 : Int))))), (7, (vc (.int .u64 (a0.fdiv (2 ^ (min (32 : Int).toNat (IntKind.bits .u64))))))), (8, (vc (.int .u64 (bits .and .u64 a1 (4294967295 : Int))))), (9, (vc (.int .u64 (a1.fdiv (2 ^ (min (32 : Int).toNat (IntKind.bits .u64))))))), (10, (vc (.int .u64 (IntKind.u64.wrap ((bits .and .u64 a0 (4294967295 : Int)) * (bits .and .u64 a1 (4294967295 : Int)))))))], []⟩ (T4 Tt) [] [0, 1, 6, 7, 8, 9, 10] [] ⟨tr, tr, tr, tr, tr⟩ (thenQ_normal ?_))
  refine AW.seq (AW.rA ⟨[(0, (vc (.int .u64 a0))), (1, (vc (.int .u64 a1))), (6, (vc (.int .u64 (bits .and .u64 a0 (4294967295 : Int))))), (7, (vc (.int .u64 (a0.fdiv (2 ^ (min (32 : Int).toNat (IntKind.bits .u64))))))), (9, (vc (.int .u64 (a1.fdiv (2 ^ (min (32 : Int).toNat (IntKind.bits .u64))))))), (11, (vc (.int .u64 (IntKind.u64.wrap ((IntKind.u64.wrap ((a0.fdiv (2 ^ (min (32 : Int).toNat (IntKind.bits .u64)))) * (bits .and .u64 a1 (4294967295 : Int)))) + ((IntKind.u64.wrap ((bits .and .u64 a0 (4294967295 : Int)) * (bits .and .u64 a1 (4294967295 : Int)))).fdiv (2 ^ (min (32 : Int).toNat (IntKind.bits .u64)))))))))], []⟩ (T4 ((0 ≤ (32 : Int)) ∧ T2 Tt)) [] [0, 1, 6, 7, 9, 11] [] ⟨tr, tr, tr, tr, c1, tr, tr, tr⟩ (thenQ_normal ?_))
  refine AW.seq (AW.rA ⟨[(0, (vc (.int .u64 a0))), (1, (vc (.int .u64 a1))), (6, (vc (.int .u64 (bits .and .u64 a0 (4294967295 : Int))))), (7, (vc (.int .u64 (a0.fdiv (2 ^ (min (32 : Int).toNat (IntKind.bits .u64))))))), (9, (vc (.int .u64 (a1.fdiv (2 ^ (min (32 : Int).toNat (IntKind.bits .u64))))))), (11, (vc (.int .u64 (IntKind.u64.wrap ((IntKind.u64.wrap ((a0.fdiv (2 ^ (min (32 : Int).toNat (IntKind.bits .u64)))) * (bits .and .u64 a1 (4294967295 : Int)))) + ((IntKind.u64.wrap ((bits .and .u64 a0 (4294967295 : Int)) * (bits .and .u64 a1 (4294967295 : Int)))).fdiv (2 ^ (min (32 : Int).toNat (IntKind.bits .u64))))))))), (12, (vc (.int .u64 (bits .and .u64 (IntKind.u64.wrap ((IntKind.u64.wrap ((a0.fdiv (2 ^ (min (32 : Int).toNat (IntKind.bits .u64)))) * (bits .and .u64 a1 (4294967295 : Int)))) + ((IntKind.u64.wrap ((bits .and .u64 a0 (4294967295 : Int)) * (bits .and .u64 a1 (4294967295 : Int)))).fdiv (2 ^ (min (32 : Int).toNat (IntKind.bits .u64)))))) (4294967295 : Int)))))], []⟩ (Tt ∧ T2 Tt) [] [0, 1, 6, 7, 9, 11, 12] [] ⟨tr, tr, tr, tr⟩ (thenQ_normal ?_))
  refine AW.seq (AW.rA ⟨[(0, (vc (.int .u64 a0))), (1, (vc (.int .u64 a1))), (6, (vc (.int .u64 (bits .and .u64 a0 (4294967295 : Int))))), (7, (vc (.int .u64 (a0.fdiv (2 ^ (min (32 : Int).toNat (IntKind.bits .u64))))))), (9, (vc (.int .u64 (a1.fdiv (2 ^ (min (32 : Int).toNat (IntKind.bits .u64))))))), (12, (vc (.int .u64 (bits .and .u64 (IntKind.u64.wrap ((IntKind.u64.wrap ((a0.fdiv (2 ^ (min (32 : Int).toNat (IntKind.bits .u64)))) * (bits .and .u64 a1 (4294967295 : Int)))) + ((IntKind.u64.wrap ((bits .and .u64 a0 (4294967295 : Int)) * (bits .and .u64 a1 (4294967295 : Int)))).fdiv (2 ^ (min (32 : Int).toNat (IntKind.bits .u64)))))) (4294967295 : Int))))), (13, (vc (.int .u64 ((IntKind.u64.wrap ((IntKind.u64.wrap ((a0.fdiv (2 ^ (min (32 : Int).toNat (IntKind.bits .u64)))) * (bits .and .u64 a1 (4294967295 : Int)))) + ((IntKind.u64.wrap ((bits .and .u64 a0 (4294967295 : Int)) * (bits .and .u64 a1 (4294967295 : Int)))).fdiv (2 ^ (min (32 : Int).toNat (IntKind.bits .u64)))))).fdiv (2 ^ (min (32 : Int).toNat (IntKind.bits .u64)))))))], []⟩ (Tt ∧ (0 ≤ (32 : Int)) ∧ Tt ∧ Tt) [] [0, 1, 6, 7, 9, 12, 13] [] ⟨tr, c1, tr, tr⟩ (thenQ_normal ?_))
  refine AW.seq (AW.rA ⟨[(0, (vc (.int .u64 a0))), (1, (vc (.int .u64 a1))), (7, (vc (.int .u64 (a0.fdiv (2 ^ (min (32 : Int).toNat (IntKind.bits .u64))))))), (9, (vc (.int .u64 (a1.fdiv (2 ^ (min (32 : Int).toNat (IntKind.bits .u64))))))), (12, (vc (.int .u64 (IntKind.u64.wrap ((bits .and .u64 (IntKind.u64.wrap ((IntKind.u64.wrap ((a0.fdiv (2 ^ (min (32 : Int).toNat (IntKind.bits .u64)))) * (bits .and .u64 a1 (4294967295 : Int)))) + ((IntKind.u64.wrap ((bits .and .u64 a0 (4294967295 : Int)) * (bits .and .u64 a1 (4294967295 : Int)))).fdiv (2 ^ (min (32 : Int).toNat (IntKind.bits .u64)))))) (4294967295 : Int)) + (IntKind.u64.wrap ((bits .and .u64 a0 (4294967295 : Int)) * (a1.fdiv (2 ^ (min (32 : Int).toNat (IntKind.bits .u64))))))))))), (13, (vc (.int .u64 ((IntKind.u64.wrap ((IntKind.u64.wrap ((a0.fdiv (2 ^ (min (32 : Int).toNat (IntKind.bits .u64)))) * (bits .and .u64 a1 (4294967295 : Int)))) + ((IntKind.u64.wrap ((bits .and .u64 a0 (4294967295 : Int)) * (bits .and .u64 a1 (4294967295 : Int)))).fdiv (2 ^ (min (32 : Int).toNat (IntKind.bits .u64)))))).fdiv (2 ^ (min (32 : Int).toNat (IntKind.bits .u64)))))))], []⟩ (T2 (T4 Tt)) [] [0, 1, 7, 9, 12, 13] [] ⟨tr, tr, tr, tr, tr, tr, tr⟩ (thenQ_normal ?_))
  refine AW.seq (AW.rA ⟨[(0, (vc (.int .u64 a0))), (1, (vc (.int .u64 a1))), (4, (vc (.int .u64 (IntKind.u64.wrap ((IntKind.u64.wrap ((IntKind.u64.wrap ((a0.fdiv (2 ^ (min (32 : Int).toNat (IntKind.bits .u64)))) * (a1.fdiv (2 ^ (min (32 : Int).toNat (IntKind.bits .u64)))))) + ((IntKind.u64.wrap ((IntKind.u64.wrap ((a0.fdiv (2 ^ (min (32 : Int).toNat (IntKind.bits .u64)))) * (bits .and .u64 a1 (4294967295 : Int)))) + ((IntKind.u64.wrap ((bits .and .u64 a0 (4294967295 : Int)) * (bits .and .u64 a1 (4294967295 : Int)))).fdiv (2 ^ (min (32 : Int).toNat (IntKind.bits .u64)))))).fdiv (2 ^ (min (32 : Int).toNat (IntKind.bits .u64)))))) + ((IntKind.u64.wrap ((bits .and .u64 (IntKind.u64.wrap ((IntKind.u64.wrap ((a0.fdiv (2 ^ (min (32 : Int).toNat (IntKind.bits .u64)))) * (bits .and .u64 a1 (4294967295 : Int)))) + ((IntKind.u64.wrap ((bits .and .u64 a0 (4294967295 : Int)) * (bits .and .u64 a1 (4294967295 : Int)))).fdiv (2 ^ (min (32 : Int).toNat (IntKind.bits .u64)))))) (4294967295 : Int)) + (IntKind.u64.wrap ((bits .and .u64 a0 (4294967295 : Int)) * (a1.fdiv (2 ^ (min (32 : Int).toNat (IntKind.bits .u64)))))))).fdiv (2 ^ (min (32 : Int).toNat (IntKind.bits .u64)))))))))], []⟩ (T2 (T4 ((0 ≤ (32 : Int)) ∧ T2 Tt))) [] [0, 1, 4] [] ⟨tr, tr, tr, tr, tr, tr, c1, tr, tr, tr⟩ (thenQ_normal ?_))
  refine AW.seq (AW.rA ⟨[(4, (vc (.int .u64 (IntKind.u64.wrap ((IntKind.u64.wrap ((IntKind.u64.wrap ((a0.fdiv (2 ^ (min (32 : Int).toNat (IntKind.bits .u64)))) * (a1.fdiv (2 ^ (min (32 : Int).toNat (IntKind.bits .u64)))))) + ((IntKind.u64.wrap ((IntKind.u64.wrap ((a0.fdiv (2 ^ (min (32 : Int).toNat (IntKind.bits .u64)))) * (bits .and .u64 a1 (4294967295 : Int)))) + ((IntKind.u64.wrap ((bits .and .u64 a0 (4294967295 : Int)) * (bits .and .u64 a1 (4294967295 : Int)))).fdiv (2 ^ (min (32 : Int).toNat (IntKind.bits .u64)))))).fdiv (2 ^ (min (32 : Int).toNat (IntKind.bits .u64)))))) + ((IntKind.u64.wrap ((bits .and .u64 (IntKind.u64.wrap ((IntKind.u64.wrap ((a0.fdiv (2 ^ (min (32 : Int).toNat (IntKind.bits .u64)))) * (bits .and .u64 a1 (4294967295 : Int)))) + ((IntKind.u64.wrap ((bits .and .u64 a0 (4294967295 : Int)) * (bits .and .u64 a1 (4294967295 : Int)))).fdiv (2 ^ (min (32 : Int).toNat (IntKind.bits .u64)))))) (4294967295 : Int)) + (IntKind.u64.wrap ((bits .and .u64 a0 (4294967295 : Int)) * (a1.fdiv (2 ^ (min (32 : Int).toNat (IntKind.bits .u64)))))))).fdiv (2 ^ (min (32 : Int).toNat (IntKind.bits .u64))))))))), (5, (vc (.int .u64 (IntKind.u64.wrap (a0 * a1)))))], []⟩ (T4 Tt) [] [4, 5] [] ⟨tr, tr, tr, tr, tr⟩ (thenQ_normal ?_))
  refine AW.ret ?_
  replace h := some_eq h
  subst h
  exact ⟨.inr rfl, retOK_of [(.one (.c (.int .u64 (IntKind.u64.wrap ((IntKind.u64.wrap ((IntKind.u64.wrap ((a0.fdiv (2 ^ (min (32 : Int).toNat (IntKind.bits .u64)))) * (a1.fdiv (2 ^ (min (32 : Int).toNat (IntKind.bits .u64)))))) + ((IntKind.u64.wrap ((IntKind.u64.wrap ((a0.fdiv (2 ^ (min (32 : Int).toNat (IntKind.bits .u64)))) * (bits .and .u64 a1 (4294967295 : Int)))) + ((IntKind.u64.wrap ((bits .and .u64 a0 (4294967295 : Int)) * (bits .and .u64 a1 (4294967295 : Int)))).fdiv (2 ^ (min (32 : Int).toNat (IntKind.bits .u64)))))).fdiv (2 ^ (min (32 : Int).toNat (IntKind.bits .u64)))))) + ((IntKind.u64.wrap ((bits .and .u64 (IntKind.u64.wrap ((IntKind.u64.wrap ((a0.fdiv (2 ^ (min (32 : Int).toNat (IntKind.bits .u64)))) * (bits .and .u64 a1 (4294967295 : Int)))) + ((IntKind.u64.wrap ((bits .and .u64 a0 (4294967295 : Int)) * (bits .and .u64 a1 (4294967295 : Int)))).fdiv (2 ^ (min (32 : Int).toNat (IntKind.bits .u64)))))) (4294967295 : Int)) + (IntKind.u64.wrap ((bits .and .u64 a0 (4294967295 : Int)) * (a1.fdiv (2 ^ (min (32 : Int).toNat (IntKind.bits .u64)))))))).fdiv (2 ^ (min (32 : Int).toNat (IntKind.bits .u64))))))))), (.one (.c (.int .u64 (IntKind.u64.wrap (a0 * a1)))))] (by kernel_rfl) ⟨⟨rfl, tr⟩, ⟨rfl, tr⟩, tr⟩ (of_decide_eq_true (by kernel_rfl))⟩

/-! math/bits.Mul -/
def bits_Mul (K : Nat) (a0 : Int) (a1 : Int) : Option (Int × Int) :=
  (bits_Mul64 K a0 a1).bind fun v1 => some (v1.1, v1.2)

theorem ok_bits_Mul (K : Nat) (a0 : Int) (a1 : Int) (o : (Int × Int)) (h : bits_Mul K a0 a1 = some o) : CallOK Try.prog 40 [.one (.int .u64 a0), .one (.int .u64 a1)] [.one (.int .u64 o.1), .one (.int .u64 o.2)] := by
  refine callOK_of_AW Try.func40 rfl (by kernel_rfl) (Nat.le_of_ble_eq_true (by kernel_rfl)) ?_
  intro w0
  unfold bits_Mul at h
  refine AW.seq (AW.rA ⟨[(0, (vc (.int .u64 a0))), (1, (vc (.int .u64 a1)))], []⟩ (T2 Tt) [] [0, 1] [] ⟨tr, tr, tr⟩ (thenQ_normal ?_))
  refine AW.seq ?_
  refine AW.condk ?_
  refine AW.skip ?_
  refine thenQ_normal ?_
  refine AW.seq ?_
  obtain ⟨v1, e2, h⟩ := bind_some h
  refine AW.rA ⟨[(8, (vc (.int .u64 v1.1))), (9, (vc (.int .u64 v1.2)))], []⟩ (T2 ((((Eqc (.int .u64 a0)) ∧ (Eqc (.int .u64 a1)) ∧ Tt) ∧ CallOK Try.prog 48 [.one (.int .u64 a0), .one (.int .u64 a1)] [.one (.int .u64 v1.1), .one (.int .u64 v1.2)]) ∧ Tt ∧ T4 Tt)) [.no, .no, .call [.one (.int .u64 a0), .one (.int .u64 a1)] [.one (.int .u64 v1.1), .one (.int .u64 v1.2)] [[.view], [.view]]] [8, 9] [] ⟨tr, tr, ⟨⟨rfl, rfl, tr⟩, ok_bits_Mul64 K a0 a1 v1 e2⟩, tr, tr, tr, tr, tr, tr⟩ ?_
  refine thenQ_normal ?_
  refine AW.seq (AW.rA ⟨[(4, (vc (.int .u64 v1.1))), (5, (vc (.int .u64 v1.2)))], []⟩ (T4 Tt) [] [4, 5] [] ⟨tr, tr, tr, tr, tr⟩ (thenQ_normal ?_))
  refine AW.ret ?_
  replace h := some_eq h
  subst h
  exact ⟨.inr rfl, retOK_of [(.one (.c (.int .u64 v1.1))), (.one (.c (.int .u64 v1.2)))] (by kernel_rfl) ⟨⟨rfl, tr⟩, ⟨rfl, tr⟩, tr⟩ (of_decide_eq_true (by kernel_rfl))⟩

/-! slices.Repeat[[]impl.Turn,impl.Turn] -/
def slices_Repeat_impl_Turn_impl_Turn_l1 (K : Nat) : Nat → Int → (List Turn) → Option ((List Turn))
  | 0, _, _ => none
  | k + 1, x12, x13 => ite2 ((decide (x12 < (x13.length : Int)))) (chk (0 ≤ x12 ∧ x12 < (x13.length : Int) ∧ x12 ≤ (x13.length : Int) ∧ (x13.length : Int) ≤ (x13.length : Int)) (chk (0 ≤ (0 : Int) ∧ (0 : Int) < (x13.length : Int) ∧ (0 : Int) ≤ x12 ∧ x12 ≤ (x13.length : Int)) (chk (0 < Nat.min (x12.toNat - (0 : Int).toNat) ((x13.length : Int).toNat - x12.toNat)) (slices_Repeat_impl_Turn_impl_Turn_l1 K k (IntKind.i64.wrap (x12 + ((Nat.min (x12.toNat - (0 : Int).toNat) ((x13.length : Int).toNat - x12.toNat) : Nat) : Int))) (cpL x13 x12.toNat ((x13.drop (0 : Int).toNat).take (Nat.min (x12.toNat - (0 : Int).toNat) ((x13.length : Int).toNat - x12.toNat)))))))) (some x13)

def slices_Repeat_impl_Turn_impl_Turn (K : Nat) (a0 : (List Turn)) (a1 : Int) : Option ((List Turn)) :=
  ite2 ((decide (a1 < (0 : Int)))) (none) ((bits_Mul K (IntKind.u64.wrap (a0.length : Int)) (IntKind.u64.wrap a1)).bind fun v2 => (ite2 ((decide (v2.1 > (0 : Int)))) (some true) (some (decide (v2.2 > (9223372036854775807 : Int))))).bind fun j5 => ite2 (j5) (none) (chk (0 ≤ (IntKind.i64.wrap v2.2) ∧ (IntKind.i64.wrap v2.2).toNat * 16 ≤ 140737488355328) (chk (0 < Nat.min a0.length (List.replicate (IntKind.i64.wrap v2.2).toNat (default : Turn)).length) (slices_Repeat_impl_Turn_impl_Turn_l1 K K ((Nat.min a0.length (List.replicate (IntKind.i64.wrap v2.2).toNat (default : Turn)).length : Nat) : Int) (cpL (List.replicate (IntKind.i64.wrap v2.2).toNat (default : Turn)) 0 (a0.take (Nat.min a0.length (List.replicate (IntKind.i64.wrap v2.2).toNat (default : Turn)).length)))))))

theorem ok_slices_Repeat_impl_Turn_impl_Turn (K : Nat) (a0 : (List Turn)) (a1 : Int) (o : ((List Turn))) (h : slices_Repeat_impl_Turn_impl_Turn K a0 a1 = some o) : CallOK Try.prog 30 [.one (sl 4 cs_Turn a0), .one (.int .i64 a1)] [.one (sl 4 cs_Turn o)] := by
  refine callOK_of_AW Try.func30 rfl (by kernel_rfl) (Nat.le_of_ble_eq_true (by kernel_rfl)) ?_
  intro w0
  unfold slices_Repeat_impl_Turn_impl_Turn at h
  refine AW.seq (AW.rA ⟨[(0, (vc (sl 4 cs_Turn a0))), (1, (vc (.int .i64 a1)))], []⟩ (Tt ∧ Tt) [] [0, 1] [] ⟨tr, tr⟩ (thenQ_normal ?_))
  refine AW.seq ?_
  refine AW.seq (AW.rA ⟨[(0, (vc (sl 4 cs_Turn a0))), (1, (vc (.int .i64 a1))), (10, (vc (.bool (decide (a1 < (0 : Int))))))], []⟩ (T2 Tt) [] [0, 1, 10] [] ⟨tr, tr, tr⟩ (thenQ_normal ?_))
  rcases ite2_cases h with ⟨b1, h⟩ | ⟨b1, h⟩
  · refine AW.cond_t rfl b1 ?_
    cases h
  · refine AW.cond_f rfl b1 ?_
    refine AW.skip ?_
    refine thenQ_normal ?_
    refine AW.seq ?_
    obtain ⟨v2, e3, h⟩ := bind_some h
    refine AW.rA ⟨[(0, (vc (sl 4 cs_Turn a0))), (5, (vc (.int .u64 v2.1))), (6, (vc (.int .u64 v2.2)))], []⟩ (Tt ∧ T4 ((((Eqc (.int .u64 (IntKind.u64.wrap (a0.length : Int)))) ∧ (Eqc (.int .u64 (IntKind.u64.wrap a1))) ∧ Tt) ∧ CallOK Try.prog 40 [.one (.int .u64 (IntKind.u64.wrap (a0.length : Int))), .one (.int .u64 (IntKind.u64.wrap a1))] [.one (.int .u64 v2.1), .one (.int .u64 v2.2)]) ∧ Tt ∧ T4 Tt)) [.no, .no, .no, .no, .no, .call [.one (.int .u64 (IntKind.u64.wrap (a0.length : Int))), .one (.int .u64 (IntKind.u64.wrap a1))] [.one (.int .u64 v2.1), .one (.int .u64 v2.2)] [[.view], [.view]]] [0, 5, 6] [] ⟨tr, tr, tr, tr, tr, ⟨⟨rfl, rfl, tr⟩, ok_bits_Mul K (IntKind.u64.wrap (a0.length : Int)) (IntKind.u64.wrap a1) v2 e3⟩, tr, tr, tr, tr, tr, tr⟩ ?_
    refine thenQ_normal ?_
    refine AW.seq ?_
    refine AW.seq ?_
    obtain ⟨j5, e6, h⟩ := bind_some h
    refine AW.join1 (s2 := ⟨[(0, (vc (sl 4 cs_Turn a0))), (6, (vc (.int .u64 v2.2))), (26, (vc (.bool j5)))], []⟩) ?_ ?_
    · rcases ite2_cases e6 with ⟨b4, e6⟩ | ⟨b4, e6⟩
      · replace e6 := some_eq e6
        subst e6
        exact AW.rA ⟨[(0, (vc (sl 4 cs_Turn a0))), (6, (vc (.int .u64 v2.2))), (26, (vc (.bool true)))], []⟩ (T2 ((Tt ∧ (decide (v2.1 > (0 : Int))) = true) ∧ Tt ∧ T2 Tt)) [.no, .no, .dec true] [0, 6, 26] [] ⟨tr, tr, ⟨tr, b4⟩, tr, tr, tr, tr⟩ ⟨rfl, rfl⟩
      · replace e6 := some_eq e6
        subst e6
        exact AW.rA ⟨[(0, (vc (sl 4 cs_Turn a0))), (6, (vc (.int .u64 v2.2))), (26, (vc (.bool (decide (v2.2 > (9223372036854775807 : Int))))))], []⟩ (T2 ((Tt ∧ (decide (v2.1 > (0 : Int))) = false) ∧ Tt ∧ T2 Tt)) [.no, .no, .dec false] [0, 6, 26] [] ⟨tr, tr, ⟨tr, b4⟩, tr, tr, tr, tr⟩ ⟨rfl, rfl⟩
    refine thenQ_normal ?_
    rcases ite2_cases h with ⟨b7, h⟩ | ⟨b7, h⟩
    · refine AW.cond_t rfl b7 ?_
      cases h
    · refine AW.cond_f rfl b7 ?_
      refine AW.skip ?_
      refine thenQ_normal ?_
      refine AW.seq ?_
      obtain ⟨c8, h⟩ := chk_some h
      refine AW.rA ⟨[(0, (vc (sl 4 cs_Turn a0))), (7, (.v (.one (.arr 1))))], [(1, (.arr false (List.replicate (IntKind.i64.wrap v2.2).toNat (default : Turn)).length 4 (gl cs_Turn (List.replicate (IntKind.i64.wrap v2.2).toNat (default : Turn)))))]⟩ (T2 ((0 ≤ (IntKind.i64.wrap v2.2) ∧ (IntKind.i64.wrap v2.2) = (IntKind.i64.wrap v2.2) ∧ (((List.replicate (IntKind.i64.wrap v2.2).toNat (default : Turn)).length : Nat) : Int) = (IntKind.i64.wrap v2.2) ∧ (List.replicate (IntKind.i64.wrap v2.2).toNat (default : Turn)).length * 16 ≤ 140737488355328 ∧ ∀ i, i < (List.replicate (IntKind.i64.wrap v2.2).toNat (default : Turn)).length → zeroRow (fun _ => none) [(.c (.flt .f32 (default : F32).bits)), (.c (.flt .f32 (default : F32).bits)), (.c (.flt .f32 (default : F32).bits)), (.c (.flt .f32 (default : F32).bits))] (gl cs_Turn (List.replicate (IntKind.i64.wrap v2.2).toNat (default : Turn)) i)) ∧ Tt ∧ Tt)) [.no, .no, .objA 1 (List.replicate (IntKind.i64.wrap v2.2).toNat (default : Turn)).length (gl cs_Turn (List.replicate (IntKind.i64.wrap v2.2).toNat (default : Turn)))] [0, 7] [1] ⟨tr, tr, ⟨c8.1, rfl, len_rep c8.1, rep_bytes c8.2, fun i hi => gl_zero (cs := cs_Turn) (zs := [(.c (.flt .f32 (default : F32).bits)), (.c (.flt .f32 (default : F32).bits)), (.c (.flt .f32 (default : F32).bits)), (.c (.flt .f32 (default : F32).bits))]) (n := (IntKind.i64.wrap v2.2).toNat) ⟨⟨rfl, tr⟩, ⟨rfl, tr⟩, ⟨rfl, tr⟩, ⟨rfl, tr⟩, tr⟩ i (rep_lt hi)⟩, tr, tr⟩ ?_
      refine thenQ_normal ?_
      refine AW.seq ?_
      obtain ⟨c9, h⟩ := chk_some h
      refine AW.rA ⟨[(7, (.v (.one (.arr 1)))), (8, (vc (.int .i64 ((Nat.min a0.length (List.replicate (IntKind.i64.wrap v2.2).toNat (default : Turn)).length : Nat) : Int))))], [(1, (.arr false (cpL (List.replicate (IntKind.i64.wrap v2.2).toNat (default : Turn)) 0 (a0.take (Nat.min a0.length (List.replicate (IntKind.i64.wrap v2.2).toNat (default : Turn)).length))).length 4 (gl cs_Turn (cpL (List.replicate (IntKind.i64.wrap v2.2).toNat (default : Turn)) 0 (a0.take (Nat.min a0.length (List.replicate (IntKind.i64.wrap v2.2).toNat (default : Turn)).length))))))]⟩ (T2 (((cpL (List.replicate (IntKind.i64.wrap v2.2).toNat (default : Turn)) 0 (a0.take (Nat.min a0.length (List.replicate (IntKind.i64.wrap v2.2).toNat (default : Turn)).length))).length = (List.replicate (IntKind.i64.wrap v2.2).toNat (default : Turn)).length ∧ 0 < Nat.min a0.length (List.replicate (IntKind.i64.wrap v2.2).toNat (default : Turn)).length ∧ (∀ i j, i < (List.replicate (IntKind.i64.wrap v2.2).toNat (default : Turn)).length → j < 4 → gl cs_Turn (cpL (List.replicate (IntKind.i64.wrap v2.2).toNat (default : Turn)) 0 (a0.take (Nat.min a0.length (List.replicate (IntKind.i64.wrap v2.2).toNat (default : Turn)).length))) i j = if 0 ≤ i ∧ i < 0 + Nat.min a0.length (List.replicate (IntKind.i64.wrap v2.2).toNat (default : Turn)).length then gl cs_Turn a0 (i - 0) j else gl cs_Turn (List.replicate (IntKind.i64.wrap v2.2).toNat (default : Turn)) i j) ∧ ∀ i j, i < Nat.min a0.length (List.replicate (IntKind.i64.wrap v2.2).toNat (default : Turn)).length → j < 4 → scalarC (gl cs_Turn a0 i j)) ∧ Tt ∧ Tt)) [.no, .no, .seq (cpL (List.replicate (IntKind.i64.wrap v2.2).toNat (default : Turn)) 0 (a0.take (Nat.min a0.length (List.replicate (IntKind.i64.wrap v2.2).toNat (default : Turn)).length))).length (gl cs_Turn (cpL (List.replicate (IntKind.i64.wrap v2.2).toNat (default : Turn)) 0 (a0.take (Nat.min a0.length (List.replicate (IntKind.i64.wrap v2.2).toNat (default : Turn)).length))))] [7, 8] [1] ⟨tr, tr, cp_view sc_Turn c9, tr, tr⟩ ?_
      refine thenQ_normal ?_
      refine AW.seq ?_
      refine AW.block ?_
      refine AW.loopQ (σ := Nat × Int × (List Turn)) (fun p => ⟨[(7, (.v (.one (.arr 1)))), (8, (vc (.int .i64 p.2.1)))], [(1, (.arr false p.2.2.length 4 (gl cs_Turn p.2.2)))]⟩) (fun p => slices_Repeat_impl_Turn_impl_Turn_l1 K p.1 p.2.1 p.2.2 = some o) (fun p => p.1) (K, ((Nat.min a0.length (List.replicate (IntKind.i64.wrap v2.2).toNat (default : Turn)).length : Nat) : Int), (cpL (List.replicate (IntKind.i64.wrap v2.2).toNat (default : Turn)) 0 (a0.take (Nat.min a0.length (List.replicate (IntKind.i64.wrap v2.2).toNat (default : Turn)).length)))) h ?_
      clear h
      rintro ⟨k, x12, x13⟩ h
      replace h : slices_Repeat_impl_Turn_impl_Turn_l1 K k x12 x13 = some o := h
      show AW _ _ (⟨[(7, (.v (.one (.arr 1)))), (8, (vc (.int .i64 x12)))], [(1, (.arr false x13.length 4 (gl cs_Turn x13)))]⟩ : St) _
      obtain _ | k := k
      · rw [slices_Repeat_impl_Turn_impl_Turn_l1] at h; cases h
      rw [slices_Repeat_impl_Turn_impl_Turn_l1] at h
      refine AW.seq ?_
      refine AW.seq (AW.rA ⟨[(7, (.v (.one (.arr 1)))), (8, (vc (.int .i64 x12))), (37, (vc (.bool (decide (x12 < (x13.length : Int))))))], [(1, (.arr false x13.length 4 (gl cs_Turn x13)))]⟩ (T4 Tt) [] [7, 8, 37] [1] ⟨tr, tr, tr, tr, tr⟩ (thenQ_normal ?_))
      rcases ite2_cases h with ⟨b14, h⟩ | ⟨b14, h⟩
      · refine AW.cond_t rfl b14 ?_
        refine AW.skip ?_
        refine thenQ_normal ?_
        refine AW.block ?_
        obtain ⟨c15, h⟩ := chk_some h
        obtain ⟨c16, h⟩ := chk_some h
        obtain ⟨c17, h⟩ := chk_some h
        refine AW.lateA (by kernel_rfl) 7 0 [.no, .no, .no, .no, .no, .no, .no, .seq (cpL x13 x12.toNat ((x13.drop (0 : Int).toNat).take (Nat.min (x12.toNat - (0 : Int).toNat) ((x13.length : Int).toNat - x12.toNat)))).length (gl cs_Turn (cpL x13 x12.toNat ((x13.drop (0 : Int).toNat).take (Nat.min (x12.toNat - (0 : Int).toNat) ((x13.length : Int).toNat - x12.toNat)))))] [7, 8] [1] (s' := ⟨[(7, (.v (.one (.arr 1)))), (8, (vc (.int .i64 (IntKind.i64.wrap (x12 + ((Nat.min (x12.toNat - (0 : Int).toNat) ((x13.length : Int).toNat - x12.toNat) : Nat) : Int))))))], [(1, (.arr false (cpL x13 x12.toNat ((x13.drop (0 : Int).toNat).take (Nat.min (x12.toNat - (0 : Int).toNat) ((x13.length : Int).toNat - x12.toNat)))).length 4 (gl cs_Turn (cpL x13 x12.toNat ((x13.drop (0 : Int).toNat).take (Nat.min (x12.toNat - (0 : Int).toNat) ((x13.length : Int).toNat - x12.toNat)))))))]⟩) (ob := (Tt ∧ T2 ((0 ≤ x12 ∧ x12 < (x13.length : Int) ∧ x12 ≤ (x13.length : Int) ∧ (x13.length : Int) ≤ (x13.length : Int)) ∧ T2 ((0 ≤ (0 : Int) ∧ (0 : Int) < (x13.length : Int) ∧ (0 : Int) ≤ x12 ∧ x12 ≤ (x13.length : Int)) ∧ Tt))) ∧ (((cpL x13 x12.toNat ((x13.drop (0 : Int).toNat).take (Nat.min (x12.toNat - (0 : Int).toNat) ((x13.length : Int).toNat - x12.toNat)))).length = x13.length ∧ 0 < Nat.min (x12.toNat - (0 : Int).toNat) ((x13.length : Int).toNat - x12.toNat) ∧ (∀ i j, i < x13.length → j < 4 → gl cs_Turn (cpL x13 x12.toNat ((x13.drop (0 : Int).toNat).take (Nat.min (x12.toNat - (0 : Int).toNat) ((x13.length : Int).toNat - x12.toNat)))) i j = if x12.toNat ≤ i ∧ i < x12.toNat + Nat.min (x12.toNat - (0 : Int).toNat) ((x13.length : Int).toNat - x12.toNat) then gl cs_Turn x13 ((0 : Int).toNat + (i - x12.toNat)) j else gl cs_Turn x13 i j) ∧ ∀ i j, i < Nat.min (x12.toNat - (0 : Int).toNat) ((x13.length : Int).toNat - x12.toNat) → j < 4 → scalarC (gl cs_Turn x13 ((0 : Int).toNat + i) j)) ∧ T2 Tt) ∧ (((cpL x13 x12.toNat ((x13.drop (0 : Int).toNat).take (Nat.min (x12.toNat - (0 : Int).toNat) ((x13.length : Int).toNat - x12.toNat)))).length = x13.length ∧ 0 < Nat.min (x12.toNat - (0 : Int).toNat) ((x13.length : Int).toNat - x12.toNat) ∧ (∀ i j, i < x13.length → j < 4 → gl cs_Turn (cpL x13 x12.toNat ((x13.drop (0 : Int).toNat).take (Nat.min (x12.toNat - (0 : Int).toNat) ((x13.length : Int).toNat - x12.toNat)))) i j = if x12.toNat ≤ i ∧ i < x12.toNat + Nat.min (x12.toNat - (0 : Int).toNat) ((x13.length : Int).toNat - x12.toNat) then gl cs_Turn x13 ((0 : Int).toNat + (i - x12.toNat)) j else gl cs_Turn x13 i j) ∧ ∀ i j, i < Nat.min (x12.toNat - (0 : Int).toNat) ((x13.length : Int).toNat - x12.toNat) → j < 4 → scalarC (gl cs_Turn x13 ((0 : Int).toNat + i) j)) ∧ Tt ∧ T2 Tt) ∧ ((⟨[(7, (.v (.one (.arr 1)))), (8, (vc (.int .i64 (IntKind.i64.wrap (x12 + ((Nat.min (x12.toNat - (0 : Int).toNat) ((x13.length : Int).toNat - x12.toNat) : Nat) : Int))))))], [(1, (.arr false (cpL x13 x12.toNat ((x13.drop (0 : Int).toNat).take (Nat.min (x12.toNat - (0 : Int).toNat) ((x13.length : Int).toNat - x12.toNat)))).length 4 (gl cs_Turn (cpL x13 x12.toNat ((x13.drop (0 : Int).toNat).take (Nat.min (x12.toNat - (0 : Int).toNat) ((x13.length : Int).toNat - x12.toNat)))))))]⟩ : St) = ⟨[(7, (.v (.one (.arr 1)))), (8, (vc (.int .i64 (IntKind.i64.wrap (x12 + ((Nat.min (x12.toNat - (0 : Int).toNat) ((x13.length : Int).toNat - x12.toNat) : Nat) : Int))))))], [(1, (.arr false (cpL x13 x12.toNat ((x13.drop (0 : Int).toNat).take (Nat.min (x12.toNat - (0 : Int).toNat) ((x13.length : Int).toNat - x12.toNat)))).length 4 (gl cs_Turn (cpL x13 x12.toNat ((x13.drop (0 : Int).toNat).take (Nat.min (x12.toNat - (0 : Int).toNat) ((x13.length : Int).toNat - x12.toNat)))))))]⟩)) (by kernel_rfl) ⟨⟨tr, tr, tr, c15, tr, tr, c16, tr⟩, ⟨cp_self (r1 := (x13.length : Int)) (r2 := x12) sc_Turn c15 c16 c17, tr, tr, tr⟩, ⟨cp_self (r1 := (x13.length : Int)) (r2 := x12) sc_Turn c15 c16 c17, tr, tr, tr, tr⟩, rfl⟩ ?_
        refine blockQ_normal ?_
        exact loopQ_normal (k, (IntKind.i64.wrap (x12 + ((Nat.min (x12.toNat - (0 : Int).toNat) ((x13.length : Int).toNat - x12.toNat) : Nat) : Int))), (cpL x13 x12.toNat ((x13.drop (0 : Int).toNat).take (Nat.min (x12.toNat - (0 : Int).toNat) ((x13.length : Int).toNat - x12.toNat))))) h (Nat.lt_succ_self k) (Sub.keep [7, 8] [1] (by kernel_rfl) (by kernel_rfl))
      · refine AW.cond_f rfl b14 ?_
        refine AW.exit ?_
        refine thenQ_exit ?_
        refine loopQ_exit ?_
        refine blockQ_exit ?_
        refine thenQ_normal ?_
        refine AW.seq (AW.rA ⟨[(4, (.v (.one (.arr 1))))], [(1, (.arr false x13.length 4 (gl cs_Turn x13)))]⟩ (T2 Tt) [] [4] [1] ⟨tr, tr, tr⟩ (thenQ_normal ?_))
        refine AW.ret ?_
        replace h := some_eq h
        subst h
        exact ⟨.inr rfl, retOK_of [(.one (.arr 1))] (by kernel_rfl) ⟨rfl, tr⟩ (of_decide_eq_true (by kernel_rfl))⟩

/-! impl.restOf -/
def impl_restOf (K : Nat) (a0 : Int) : Option (Pose) :=
  (impl_NoTurn K ).bind fun v1 => (slices_Repeat_impl_Turn_impl_Turn K ([v1]) a0).bind fun v3 => some (Pose.mk (Vector.mk (default : F32) (default : F32) (default : F32)) v3)

theorem ok_impl_restOf (K : Nat) (a0 : Int) (o : (Pose)) (h : impl_restOf K a0 = some o) : CallOK Try.prog 19 [.one (.int .i64 a0)] [.agg (cs_Pose o)] := by
  refine callOK_of_AW Try.func19 rfl (by kernel_rfl) (Nat.le_of_ble_eq_true (by kernel_rfl)) ?_
  intro w0
  unfold impl_restOf at h
  refine AW.seq (AW.rA ⟨[(0, (vc (.int .i64 a0))), (2, (vp 1 0))], [(1, (.box [(.c (.flt .f32 (default : F32).bits)), (.c (.flt .f32 (default : F32).bits)), (.c (.flt .f32 (default : F32).bits)), .nils]))]⟩ (Tt ∧ Tt) [.box 1] [0, 2] [1] ⟨tr, tr⟩ (thenQ_normal ?_))
  refine AW.seq ?_
  obtain ⟨v1, e2, h⟩ := bind_some h
  obtain ⟨v3, e4, h⟩ := bind_some h
  refine AW.rA ⟨[(2, (vp 1 0))], [(1, (.box [(.c (.flt .f32 (default : F32).bits)), (.c (.flt .f32 (default : F32).bits)), (.c (.flt .f32 (default : F32).bits)), (.lst 3 v3.length 4 (gl cs_Turn v3))])), (3, (.lst v3.length 4 (gl cs_Turn v3)))]⟩ (((Tt) ∧ CallOK Try.prog 31 [] [.agg (cs_Turn v1)]) ∧ (([v1]).length = 1 ∧ (((.flt .f32 v1.W.bits) : C) = (.flt .f32 v1.W.bits) ∧ Tt) ∧ (((.flt .f32 v1.X.bits) : C) = (.flt .f32 v1.X.bits) ∧ Tt) ∧ (((.flt .f32 v1.Y.bits) : C) = (.flt .f32 v1.Y.bits) ∧ Tt) ∧ (((.flt .f32 v1.Z.bits) : C) = (.flt .f32 v1.Z.bits) ∧ Tt) ∧ Tt) ∧ Tt ∧ (((Eqc (sl 4 cs_Turn ([v1]))) ∧ (Eqc (.int .i64 a0)) ∧ Tt) ∧ CallOK Try.prog 30 [.one (sl 4 cs_Turn ([v1])), .one (.int .i64 a0)] [.one (sl 4 cs_Turn v3)]) ∧ T2 Tt) [.call [] [.agg (cs_Turn v1)] [[.view, .view, .view, .view]], .obj 2 ([v1]).length (gl cs_Turn ([v1])), .no, .call [.one (sl 4 cs_Turn ([v1])), .one (.int .i64 a0)] [.one (sl 4 cs_Turn v3)] [[.lst 3]]] [2] [1, 3] ⟨⟨tr, ok_impl_NoTurn K v1 e2⟩, ⟨rfl, ⟨⟨rfl, tr⟩, ⟨rfl, tr⟩, ⟨rfl, tr⟩, ⟨rfl, tr⟩, tr⟩⟩, tr, ⟨⟨rfl, rfl, tr⟩, ok_slices_Repeat_impl_Turn_impl_Turn K ([v1]) a0 v3 e4⟩, tr, tr, tr⟩ ?_
  refine thenQ_normal ?_
  refine AW.ret ?_
  replace h := some_eq h
  subst h
  exact ⟨.inr rfl, retOK_of [(.agg [(.c (.flt .f32 (default : F32).bits)), (.c (.flt .f32 (default : F32).bits)), (.c (.flt .f32 (default : F32).bits)), (.lst 3 v3.length 4 (gl cs_Turn v3))])] (by kernel_rfl) ⟨⟨⟨rfl, tr⟩, ⟨rfl, tr⟩, ⟨rfl, tr⟩, rfl, tr⟩, tr⟩ (of_decide_eq_true (by kernel_rfl))⟩

/-! impl.RestPose -/
def impl_RestPose (K : Nat) (a0 : Skeleton) : Option (Pose × Bool) :=
  (impl_ValidSkeleton K a0).bind fun v1 => ite2 ((!v1)) (some ((Pose.mk (Vector.mk (default : F32) (default : F32) (default : F32)) ([] : (List Turn))), false)) ((impl_restOf K (a0.Bones.length : Int)).bind fun v4 => some (v4, true))

theorem ok_impl_RestPose (K : Nat) (a0 : Skeleton) (o : (Pose × Bool)) (h : impl_RestPose K a0 = some o) : CallOK Try.prog 7 [.agg (cs_Skeleton a0)] [.agg (cs_Pose o.1), .one (.bool o.2)] := by
  refine callOK_of_AW Try.func7 rfl (by kernel_rfl) (Nat.le_of_ble_eq_true (by kernel_rfl)) ?_
  intro w0
  unfold impl_RestPose at h
  refine AW.seq (AW.rA ⟨[(1, (vp 1 0)), (2, (vp 2 0))], [(1, (.box [(.c (sl 4 cs_Bone a0.Bones))])), (2, (.box [(.c (.flt .f32 (default : F32).bits)), (.c (.flt .f32 (default : F32).bits)), (.c (.flt .f32 (default : F32).bits)), .nils]))]⟩ (Tt ∧ T2 Tt) [.box 1, .box 2] [1, 2] [1, 2] ⟨tr, tr, tr, tr⟩ (thenQ_normal ?_))
  refine AW.seq ?_
  refine AW.seq ?_
  obtain ⟨v1, e2, h⟩ := bind_some h
  refine AW.rA ⟨[(1, (vp 1 0)), (2, (vp 2 0)), (6, (vc (.bool (!v1))))], [(1, (.box [(.c (sl 4 cs_Bone a0.Bones))])), (2, (.box [(.c (.flt .f32 (default : F32).bits)), (.c (.flt .f32 (default : F32).bits)), (.c (.flt .f32 (default : F32).bits)), .nils]))]⟩ (Tt ∧ ((((Eqc (sl 4 cs_Bone a0.Bones)) ∧ Tt) ∧ Tt) ∧ CallOK Try.prog 8 [.agg (cs_Skeleton a0)] [.one (.bool v1)]) ∧ Tt ∧ Tt) [.no, .call [.agg (cs_Skeleton a0)] [.one (.bool v1)] [[.view]]] [1, 2, 6] [1, 2] ⟨tr, ⟨⟨⟨rfl, tr⟩, tr⟩, ok_impl_ValidSkeleton K a0 v1 e2⟩, tr, tr⟩ ?_
  refine thenQ_normal ?_
  rcases ite2_cases h with ⟨b3, h⟩ | ⟨b3, h⟩
  · refine AW.cond_t rfl b3 ?_
    refine AW.seq (AW.rA ⟨[(2, (vp 2 0)), (3, (vc (.bool false)))], [(2, (.box [(.c (.flt .f32 (default : F32).bits)), (.c (.flt .f32 (default : F32).bits)), (.c (.flt .f32 (default : F32).bits)), .nils]))]⟩ (Tt ∧ T2 Tt) [] [2, 3] [2] ⟨tr, tr, tr, tr⟩ (thenQ_normal ?_))
    refine AW.ret ?_
    refine thenQ_ret ?_
    replace h := some_eq h
    subst h
    exact ⟨.inr rfl, retOK_of [(.agg [(.c (.flt .f32 (default : F32).bits)), (.c (.flt .f32 (default : F32).bits)), (.c (.flt .f32 (default : F32).bits)), .nils]), (.one (.c (.bool false)))] (by kernel_rfl) ⟨⟨⟨rfl, tr⟩, ⟨rfl, tr⟩, ⟨rfl, tr⟩, rfl, tr⟩, ⟨rfl, tr⟩, tr⟩ (of_decide_eq_true (by kernel_rfl))⟩
  · refine AW.cond_f rfl b3 ?_
    refine AW.skip ?_
    refine thenQ_normal ?_
    refine AW.seq ?_
    obtain ⟨v4, e5, h⟩ := bind_some h
    refine AW.rA ⟨[(2, (vp 2 0)), (3, (vc (.bool true)))], [(2, (.box [(.c (.flt .f32 v4.Root.X.bits)), (.c (.flt .f32 v4.Root.Y.bits)), (.c (.flt .f32 v4.Root.Z.bits)), (.lst 3 v4.Turns.length 4 (gl cs_Turn v4.Turns))])), (3, (.lst v4.Turns.length 4 (gl cs_Turn v4.Turns)))]⟩ (Tt ∧ T2 ((((Eqc (.int .i64 (a0.Bones.length : Int))) ∧ Tt) ∧ CallOK Try.prog 19 [.one (.int .i64 (a0.Bones.length : Int))] [.agg (cs_Pose v4)]) ∧ T2 Tt)) [.no, .no, .no, .call [.one (.int .i64 (a0.Bones.length : Int))] [.agg (cs_Pose v4)] [[.view, .view, .view, .lst 3]]] [2, 3] [2, 3] ⟨tr, tr, tr, ⟨⟨rfl, tr⟩, ok_impl_restOf K (a0.Bones.length : Int) v4 e5⟩, tr, tr, tr⟩ ?_
    refine thenQ_normal ?_
    refine AW.ret ?_
    replace h := some_eq h
    subst h
    exact ⟨.inr rfl, retOK_of [(.agg [(.c (.flt .f32 v4.Root.X.bits)), (.c (.flt .f32 v4.Root.Y.bits)), (.c (.flt .f32 v4.Root.Z.bits)), (.lst 3 v4.Turns.length 4 (gl cs_Turn v4.Turns))]), (.one (.c (.bool true)))] (by kernel_rfl) ⟨⟨⟨rfl, tr⟩, ⟨rfl, tr⟩, ⟨rfl, tr⟩, rfl, tr⟩, ⟨rfl, tr⟩, tr⟩ (of_decide_eq_true (by kernel_rfl))⟩

/-! impl.IsPose -/
def impl_IsPose (K : Nat) (a0 : Skeleton) (a1 : Pose) : Option (Bool) :=
  (impl_ValidSkeleton K a0).bind fun v1 => (ite2 (v1) (some ((a1.Turns.length : Int) == (a0.Bones.length : Int))) (some false)).bind fun j4 => some j4

theorem ok_impl_IsPose (K : Nat) (a0 : Skeleton) (a1 : Pose) (o : (Bool)) (h : impl_IsPose K a0 a1 = some o) : CallOK Try.prog 9 [.agg (cs_Skeleton a0), .agg (cs_Pose a1)] [.one (.bool o)] := by
  refine callOK_of_AW Try.func9 rfl (by kernel_rfl) (Nat.le_of_ble_eq_true (by kernel_rfl)) ?_
  intro w0
  unfold impl_IsPose at h
  refine AW.seq (AW.rA ⟨[(2, (vp 1 0)), (3, (vp 2 0))], [(1, (.box [(.c (sl 4 cs_Bone a0.Bones))])), (2, (.box [(.c (.flt .f32 a1.Root.X.bits)), (.c (.flt .f32 a1.Root.Y.bits)), (.c (.flt .f32 a1.Root.Z.bits)), (.c (sl 4 cs_Turn a1.Turns))]))]⟩ (Tt ∧ T2 Tt) [.box 1, .box 2] [2, 3] [1, 2] ⟨tr, tr, tr, tr⟩ (thenQ_normal ?_))
  refine AW.seq ?_
  obtain ⟨v1, e2, h⟩ := bind_some h
  obtain ⟨j4, e5, h⟩ := bind_some h
  refine AW.join1 (s2 := ⟨[(4, (vc (.bool j4)))], []⟩) ?_ ?_
  · rcases ite2_cases e5 with ⟨b3, e5⟩ | ⟨b3, e5⟩
    · replace e5 := some_eq e5
      subst e5
      exact AW.rA ⟨[(4, (vc (.bool ((a1.Turns.length : Int) == (a0.Bones.length : Int)))))], []⟩ (Tt ∧ ((((Eqc (sl 4 cs_Bone a0.Bones)) ∧ Tt) ∧ Tt) ∧ CallOK Try.prog 8 [.agg (cs_Skeleton a0)] [.one (.bool v1)]) ∧ (Tt ∧ v1 = true) ∧ Tt ∧ T4 (T4 Tt)) [.no, .call [.agg (cs_Skeleton a0)] [.one (.bool v1)] [[.view]], .dec true] [4] [] ⟨tr, ⟨⟨⟨rfl, tr⟩, tr⟩, ok_impl_ValidSkeleton K a0 v1 e2⟩, ⟨tr, b3⟩, tr, tr, tr, tr, tr, tr, tr, tr, tr, tr⟩ ⟨rfl, rfl⟩
    · replace e5 := some_eq e5
      subst e5
      exact AW.rA ⟨[(4, (vc (.bool false)))], []⟩ (Tt ∧ ((((Eqc (sl 4 cs_Bone a0.Bones)) ∧ Tt) ∧ Tt) ∧ CallOK Try.prog 8 [.agg (cs_Skeleton a0)] [.one (.bool v1)]) ∧ (Tt ∧ v1 = false) ∧ Tt ∧ T4 (T4 Tt)) [.no, .call [.agg (cs_Skeleton a0)] [.one (.bool v1)] [[.view]], .dec false] [4] [] ⟨tr, ⟨⟨⟨rfl, tr⟩, tr⟩, ok_impl_ValidSkeleton K a0 v1 e2⟩, ⟨tr, b3⟩, tr, tr, tr, tr, tr, tr, tr, tr, tr, tr⟩ ⟨rfl, rfl⟩
  refine thenQ_normal ?_
  refine AW.ret ?_
  replace h := some_eq h
  subst h
  exact ⟨.inr rfl, retOK_of [(.one (.c (.bool j4)))] (by kernel_rfl) ⟨⟨rfl, tr⟩, tr⟩ (of_decide_eq_true (by kernel_rfl))⟩

/-! impl.hasBone -/
def impl_hasBone (K : Nat) (a0 : Skeleton) (a1 : Int) : Option (Bool) :=
  (impl_ValidSkeleton K a0).bind fun v1 => (ite2 (v1) (ite2 ((decide (a1 ≥ (0 : Int)))) (some (decide (a1 < (a0.Bones.length : Int)))) (some false)) (some false)).bind fun j5 => some j5

theorem ok_impl_hasBone (K : Nat) (a0 : Skeleton) (a1 : Int) (o : (Bool)) (h : impl_hasBone K a0 a1 = some o) : CallOK Try.prog 20 [.agg (cs_Skeleton a0), .one (.int .i64 a1)] [.one (.bool o)] := by
  refine callOK_of_AW Try.func20 rfl (by kernel_rfl) (Nat.le_of_ble_eq_true (by kernel_rfl)) ?_
  intro w0
  unfold impl_hasBone at h
  refine AW.seq (AW.rA ⟨[(1, (vc (.int .i64 a1))), (2, (vp 1 0))], [(1, (.box [(.c (sl 4 cs_Bone a0.Bones))]))]⟩ (T2 Tt) [.box 1] [1, 2] [1] ⟨tr, tr, tr⟩ (thenQ_normal ?_))
  refine AW.seq ?_
  obtain ⟨v1, e2, h⟩ := bind_some h
  obtain ⟨j5, e6, h⟩ := bind_some h
  refine AW.join1 (s2 := ⟨[(4, (vc (.bool j5)))], []⟩) ?_ ?_
  · rcases ite2_cases e6 with ⟨b3, e6⟩ | ⟨b3, e6⟩
    · rcases ite2_cases e6 with ⟨b4, e6⟩ | ⟨b4, e6⟩
      · replace e6 := some_eq e6
        subst e6
        exact AW.rA ⟨[(4, (vc (.bool (decide (a1 < (a0.Bones.length : Int))))))], []⟩ (Tt ∧ ((((Eqc (sl 4 cs_Bone a0.Bones)) ∧ Tt) ∧ Tt) ∧ CallOK Try.prog 8 [.agg (cs_Skeleton a0)] [.one (.bool v1)]) ∧ (Tt ∧ v1 = true) ∧ Tt ∧ T2 ((Tt ∧ (decide (a1 ≥ (0 : Int))) = true) ∧ Tt ∧ T2 (T4 Tt))) [.no, .call [.agg (cs_Skeleton a0)] [.one (.bool v1)] [[.view]], .dec true, .no, .no, .no, .dec true] [4] [] ⟨tr, ⟨⟨⟨rfl, tr⟩, tr⟩, ok_impl_ValidSkeleton K a0 v1 e2⟩, ⟨tr, b3⟩, tr, tr, tr, ⟨tr, b4⟩, tr, tr, tr, tr, tr, tr, tr, tr⟩ ⟨rfl, rfl⟩
      · replace e6 := some_eq e6
        subst e6
        exact AW.rA ⟨[(4, (vc (.bool false)))], []⟩ (Tt ∧ ((((Eqc (sl 4 cs_Bone a0.Bones)) ∧ Tt) ∧ Tt) ∧ CallOK Try.prog 8 [.agg (cs_Skeleton a0)] [.one (.bool v1)]) ∧ (Tt ∧ v1 = true) ∧ Tt ∧ T2 ((Tt ∧ (decide (a1 ≥ (0 : Int))) = false) ∧ Tt ∧ T2 (T4 Tt))) [.no, .call [.agg (cs_Skeleton a0)] [.one (.bool v1)] [[.view]], .dec true, .no, .no, .no, .dec false] [4] [] ⟨tr, ⟨⟨⟨rfl, tr⟩, tr⟩, ok_impl_ValidSkeleton K a0 v1 e2⟩, ⟨tr, b3⟩, tr, tr, tr, ⟨tr, b4⟩, tr, tr, tr, tr, tr, tr, tr, tr⟩ ⟨rfl, rfl⟩
    · replace e6 := some_eq e6
      subst e6
      exact AW.rA ⟨[(4, (vc (.bool false)))], []⟩ (Tt ∧ ((((Eqc (sl 4 cs_Bone a0.Bones)) ∧ Tt) ∧ Tt) ∧ CallOK Try.prog 8 [.agg (cs_Skeleton a0)] [.one (.bool v1)]) ∧ (Tt ∧ v1 = false) ∧ Tt ∧ T2 (T4 (T4 Tt))) [.no, .call [.agg (cs_Skeleton a0)] [.one (.bool v1)] [[.view]], .dec false] [4] [] ⟨tr, ⟨⟨⟨rfl, tr⟩, tr⟩, ok_impl_ValidSkeleton K a0 v1 e2⟩, ⟨tr, b3⟩, tr, tr, tr, tr, tr, tr, tr, tr, tr, tr, tr, tr⟩ ⟨rfl, rfl⟩
  refine thenQ_normal ?_
  refine AW.ret ?_
  replace h := some_eq h
  subst h
  exact ⟨.inr rfl, retOK_of [(.one (.c (.bool j5)))] (by kernel_rfl) ⟨⟨rfl, tr⟩, tr⟩ (of_decide_eq_true (by kernel_rfl))⟩

/-! slices.Reverse[[]int64,int64] -/
def Zt5 (Q0 Q1 Q2 Q3 : Prop) : Prop := (Tt ∧ (Q0 ∧ (Q1 ∧ (Q2 ∧ (Q3 ∧ Tt)))))
theorem zt5 {Q0 Q1 Q2 Q3 : Prop} (q0 : Q0) (q1 : Q1) (q2 : Q2) (q3 : Q3) : Zt5 Q0 Q1 Q2 Q3 := ⟨tr, ⟨q0, ⟨q1, ⟨q2, ⟨q3, tr⟩⟩⟩⟩⟩
def Zt6 (QE Q0 Q1 Q2 Q3 : Prop) : Prop := ((Tt ∧ (Zt5 Q0 Q1 Q2 Q3)) ∧ (Tt ∧ (Zt5 Q0 Q1 Q2 Q3)) ∧ QE)
theorem zt6 {QE Q0 Q1 Q2 Q3 : Prop} (qe : QE) (q0 : Q0) (q1 : Q1) (q2 : Q2) (q3 : Q3) : Zt6 QE Q0 Q1 Q2 Q3 := ⟨⟨tr, (zt5 q0 q1 q2 q3)⟩, ⟨tr, (zt5 q0 q1 q2 q3)⟩, qe⟩
def slices_Reverse_int64_int64_l1 (K : Nat) (a0 : (List Int)) : Nat → Int → Int → (List Int) → Option ((List Int))
  | 0, _, _, _ => none
  | k + 1, x4, x5, x6 => ite2 ((decide (x4 < x5))) (chk (0 ≤ x5 ∧ x5 < (x6.length : Int)) (chk (0 ≤ x4 ∧ x4 < (x6.length : Int)) (slices_Reverse_int64_int64_l1 K a0 k (IntKind.i64.wrap (x4 + (1 : Int))) (IntKind.i64.wrap (x5 - (1 : Int))) ((x6.set x4.toNat (x6.getD x5.toNat default)).set x5.toNat (x6.getD x4.toNat default))))) (chk (x6.length = a0.length) (some x6))

def slices_Reverse_int64_int64 (K : Nat) (a0 : (List Int)) : Option ((List Int)) :=
  slices_Reverse_int64_int64_l1 K a0 K (0 : Int) (IntKind.i64.wrap ((a0.length : Int) - (1 : Int))) a0

theorem ok_slices_Reverse_int64_int64 (K : Nat) (a0 : (List Int)) (o : ((List Int))) (h : slices_Reverse_int64_int64 K a0 = some o) : MutOK Try.prog 32 [(.one (.mu (sl 1 (csI .i64) a0) (sl 1 (csI .i64) o)))] [] := by
  refine mutOK_of_AW 1 Try.func32 rfl (by kernel_rfl) (Nat.le_of_ble_eq_true (by kernel_rfl)) (by kernel_rfl) (by kernel_rfl) ?_
  intro w0 K0 v0 s0
  unfold slices_Reverse_int64_int64 at h
  refine AW.seq (AW.rA ⟨[(0, (.v (.one (.arr 0)))), (2, (vc (.int .i64 (0 : Int)))), (3, (vc (.int .i64 (IntKind.i64.wrap ((a0.length : Int) - (1 : Int))))))], [(0, (.arr true a0.length 1 (gl (csI .i64) a0)))]⟩ (Tt ∧ T4 Tt) [] [0, 2, 3] [0] ⟨tr, tr, tr, tr, tr, tr⟩ (thenQ_normal ?_))
  refine AW.block ?_
  refine AW.loopQ (σ := Nat × Int × Int × (List Int)) (fun p => ⟨[(0, (.v (.one (.arr 0)))), (2, (vc (.int .i64 p.2.1))), (3, (vc (.int .i64 p.2.2.1)))], [(0, (.arr true p.2.2.2.length 1 (gl (csI .i64) p.2.2.2)))]⟩) (fun p => slices_Reverse_int64_int64_l1 K a0 p.1 p.2.1 p.2.2.1 p.2.2.2 = some o) (fun p => p.1) (K, (0 : Int), (IntKind.i64.wrap ((a0.length : Int) - (1 : Int))), a0) h ?_
  clear h
  rintro ⟨k, x4, x5, x6⟩ h
  replace h : slices_Reverse_int64_int64_l1 K a0 k x4 x5 x6 = some o := h
  show AW _ _ (⟨[(0, (.v (.one (.arr 0)))), (2, (vc (.int .i64 x4))), (3, (vc (.int .i64 x5)))], [(0, (.arr true x6.length 1 (gl (csI .i64) x6)))]⟩ : St) _
  obtain _ | k := k
  · rw [slices_Reverse_int64_int64_l1] at h; cases h
  rw [slices_Reverse_int64_int64_l1] at h
  refine AW.seq ?_
  refine AW.seq (AW.rA ⟨[(0, (.v (.one (.arr 0)))), (2, (vc (.int .i64 x4))), (3, (vc (.int .i64 x5))), (9, (vc (.bool (decide (x4 < x5)))))], [(0, (.arr true x6.length 1 (gl (csI .i64) x6)))]⟩ (Tt ∧ T2 Tt) [] [0, 2, 3, 9] [0] ⟨tr, tr, tr, tr⟩ (thenQ_normal ?_))
  rcases ite2_cases h with ⟨b7, h⟩ | ⟨b7, h⟩
  · refine AW.cond_t rfl b7 ?_
    refine AW.skip ?_
    refine thenQ_normal ?_
    refine AW.seq ?_
    refine AW.block ?_
    obtain ⟨c8, h⟩ := chk_some h
    obtain ⟨c9, h⟩ := chk_some h
    refine AW.post ?_
    refine AW.heldA (by kernel_rfl) [0, 1, 2, 3, 4, 5, 6, 8, 9, 10] [0] 1 [14, 15, 16, 17, 20, 24] [.no, .no, .no, .no, .no, .no, .no, .no, .no, .no, .no, .no, .no, .set x6.length (gl (csI .i64) (x6.set x4.toNat (x6.getD x5.toNat default))) ((List.range 1).map fun j => ((csI .i64) (x6.getD x5.toNat default)).getD (0 + j) .nilptr), .no, .set x6.length (gl (csI .i64) ((x6.set x4.toNat (x6.getD x5.toNat default)).set x5.toNat (x6.getD x4.toNat default))) ((List.range 1).map fun j => ((csI .i64) (x6.getD x4.toNat default)).getD (0 + j) .nilptr)] [] [0] [0, 2, 3] [0] (s' := ⟨[(0, (.v (.one (.arr 0)))), (2, (vc (.int .i64 x4))), (3, (vc (.int .i64 x5)))], [(0, (.arr true x6.length 1 (gl (csI .i64) ((x6.set x4.toNat (x6.getD x5.toNat default)).set x5.toNat (x6.getD x4.toNat default)))))]⟩) (ob := (T2 (T4 ((0 ≤ x5 ∧ x5 < (x6.length : Int)) ∧ T2 ((0 ≤ x4 ∧ x4 < (x6.length : Int)) ∧ Tt)))) ∧ (Zt6 ((⟨[], [(0, (.arr true x6.length 1 (gl (csI .i64) ((x6.set x4.toNat (x6.getD x5.toNat default)).set x5.toNat (x6.getD x4.toNat default)))))]⟩ : St) = ⟨[], [(0, (.arr true x6.length 1 (gl (csI .i64) ((x6.set x4.toNat (x6.getD x5.toNat default)).set x5.toNat (x6.getD x4.toNat default)))))]⟩) ((0 ≤ x4 ∧ x4 < (x6.length : Int))) ((x6.length = x6.length ∧ SetOb x6.length 1 x4.toNat 0 1 (gl (csI .i64) x6) (gl (csI .i64) (x6.set x4.toNat (x6.getD x5.toNat default))) ∧ ((List.range 1).map fun j => ((csI .i64) (x6.getD x5.toNat default)).getD (0 + j) .nilptr) = ((List.range 1).map fun j => gl (csI .i64) (x6.set x4.toNat (x6.getD x5.toNat default)) x4.toNat (0 + j)) ∧ ((((.int .i64 (x6.getD x5.toNat default)) : C) = (.int .i64 (x6.getD x5.toNat default)) ∧ Tt) ∧ Tt) ∧ (true = true → ∀ j, j < 1 → isSeq (gl (csI .i64) x6 x4.toNat (0 + j)) = false ∧ isSeq (gl (csI .i64) (x6.set x4.toNat (x6.getD x5.toNat default)) x4.toNat (0 + j)) = false))) ((0 ≤ x5 ∧ x5 < (x6.length : Int))) ((x6.length = x6.length ∧ SetOb x6.length 1 x5.toNat 0 1 (gl (csI .i64) (x6.set x4.toNat (x6.getD x5.toNat default))) (gl (csI .i64) ((x6.set x4.toNat (x6.getD x5.toNat default)).set x5.toNat (x6.getD x4.toNat default))) ∧ ((List.range 1).map fun j => ((csI .i64) (x6.getD x4.toNat default)).getD (0 + j) .nilptr) = ((List.range 1).map fun j => gl (csI .i64) ((x6.set x4.toNat (x6.getD x5.toNat default)).set x5.toNat (x6.getD x4.toNat default)) x5.toNat (0 + j)) ∧ ((((.int .i64 (x6.getD x4.toNat default)) : C) = (.int .i64 (x6.getD x4.toNat default)) ∧ Tt) ∧ Tt) ∧ (true = true → ∀ j, j < 1 → isSeq (gl (csI .i64) (x6.set x4.toNat (x6.getD x5.toNat default)) x5.toNat (0 + j)) = false ∧ isSeq (gl (csI .i64) ((x6.set x4.toNat (x6.getD x5.toNat default)).set x5.toNat (x6.getD x4.toNat default)) x5.toNat (0 + j)) = false)))) ∧ ((x6.length = x6.length ∧ 1 = 1 ∧ ∀ i j, i < x6.length → j < 1 → isSeq (gl (csI .i64) ((x6.set x4.toNat (x6.getD x5.toNat default)).set x5.toNat (x6.getD x4.toNat default)) i j) = isSeq (gl (csI .i64) x6 i j)) ∧ Tt)) (by kernel_rfl) ⟨⟨tr, tr, tr, tr, tr, tr, c8, tr, tr, c9, tr⟩, (zt6 rfl (c9) ⟨rfl, setN rfl gl_set, (gl_atp (ltN rfl c9)).symm, ⟨⟨rfl, tr⟩, tr⟩, (fun _ j hj => match j, hj with | 0, _ => ⟨rfl, rfl⟩)⟩ (c8) ⟨rfl, setN (by simp only [List.length_set]) gl_set, (gl_atp (ltN (by simp only [List.length_set]) c8)).symm, ⟨⟨rfl, tr⟩, tr⟩, (fun _ j hj => match j, hj with | 0, _ => ⟨rfl, rfl⟩)⟩), ⟨⟨rfl, rfl, gl_seq sqI⟩, tr⟩⟩ ?_
    refine ⟨⟨[(0, (.v (.one (.arr 0)))), (2, (vc (.int .i64 x4))), (3, (vc (.int .i64 x5)))], [(0, (.arr true ((x6.set x4.toNat (x6.getD x5.toNat default)).set x5.toNat (x6.getD x4.toNat default)).length 1 (gl (csI .i64) ((x6.set x4.toNat (x6.getD x5.toNat default)).set x5.toNat (x6.getD x4.toNat default)))))]⟩, subEq (by simp only [List.length_set]), ?_⟩
    refine blockQ_normal ?_
    refine thenQ_normal ?_
    refine AW.rA ⟨[(0, (.v (.one (.arr 0)))), (2, (vc (.int .i64 (IntKind.i64.wrap (x4 + (1 : Int)))))), (3, (vc (.int .i64 (IntKind.i64.wrap (x5 - (1 : Int))))))], [(0, (.arr true ((x6.set x4.toNat (x6.getD x5.toNat default)).set x5.toNat (x6.getD x4.toNat default)).length 1 (gl (csI .i64) ((x6.set x4.toNat (x6.getD x5.toNat default)).set x5.toNat (x6.getD x4.toNat default)))))]⟩ (T2 (T4 Tt)) [] [0, 2, 3] [0] ⟨tr, tr, tr, tr, tr, tr, tr⟩ ?_
    exact loopQ_normal (k, (IntKind.i64.wrap (x4 + (1 : Int))), (IntKind.i64.wrap (x5 - (1 : Int))), ((x6.set x4.toNat (x6.getD x5.toNat default)).set x5.toNat (x6.getD x4.toNat default))) h (Nat.lt_succ_self k) (Sub.keep [0, 2, 3] [0] (by kernel_rfl) (by kernel_rfl))
  · refine AW.cond_f rfl b7 ?_
    refine AW.exit ?_
    refine thenQ_exit ?_
    refine loopQ_exit ?_
    refine blockQ_exit ?_
    obtain ⟨c10, h⟩ := chk_some h
    replace h := some_eq h
    subst h
    exact ⟨.inl rfl, retOK_of [] (by kernel_rfl) tr (of_decide_eq_true (by kernel_rfl)), by kernel_rfl, ⟨⟨c10, rfl, rfl⟩, tr⟩⟩

/-! (*impl.Skeleton).chain -/
def impl_Skeleton_chain_l1 (K : Nat) (a0 : Skeleton) : Nat → Int → (List Int) → Option ((List Int))
  | 0, _, _ => none
  | k + 1, x3, x4 => ite2 ((decide (x3 ≥ (0 : Int)))) (chk ((x4.length + ([x3]).length) * 8 ≤ 140737488355328) (chk (0 ≤ x3 ∧ x3 < (a0.Bones.length : Int)) (impl_Skeleton_chain_l1 K a0 k ((a0.Bones.getD x3.toNat default).Parent) (x4 ++ ([x3]))))) ((slices_Reverse_int64_int64 K x4).bind fun v8 => chk (v8.length = x4.length) (some v8))

def impl_Skeleton_chain (K : Nat) (a0 : Skeleton) (a1 : Int) : Option ((List Int)) :=
  impl_Skeleton_chain_l1 K a0 K a1 ([] : (List Int))

theorem ok_impl_Skeleton_chain (K : Nat) (a0 : Skeleton) (a1 : Int) (o : ((List Int))) (h : impl_Skeleton_chain K a0 a1 = some o) : CallOK Try.prog 21 [.one (pl 1 cs_Skeleton a0), .one (.int .i64 a1)] [.one (sl 1 (csI .i64) o)] := by
  refine callOK_of_AW Try.func21 rfl (by kernel_rfl) (Nat.le_of_ble_eq_true (by kernel_rfl)) ?_
  intro w0
  unfold impl_Skeleton_chain at h
  refine AW.seq (AW.rA ⟨[(0, (vc (pl 1 cs_Skeleton a0))), (1, (vc (.int .i64 a1)))], []⟩ (Tt ∧ Tt) [] [0, 1] [] ⟨tr, tr⟩ (thenQ_normal ?_))
  refine AW.seq (AW.rA ⟨[(0, (vc (pl 1 cs_Skeleton a0))), (1, (vc (.int .i64 a1))), (5, (.v (.one .nils)))], []⟩ (Tt ∧ Tt) [] [0, 1, 5] [] ⟨tr, tr⟩ (thenQ_normal ?_))
  refine AW.seq ?_
  refine AW.seq (AW.rA ⟨[(0, (vc (pl 1 cs_Skeleton a0))), (5, (.v (.one .nils))), (6, (vc (.int .i64 a1)))], []⟩ (T2 Tt) [] [0, 5, 6] [] ⟨tr, tr, tr⟩ (thenQ_normal ?_))
  refine AW.block ?_
  refine AW.weak (s' := ⟨[(0, (vc (pl 1 cs_Skeleton a0))), (5, (.v (.one (.arr 3)))), (6, (vc (.int .i64 a1)))], [(3, (.arr true ([] : (List Int)).length 1 (gl (csI .i64) ([] : (List Int)))))]⟩) (Sub.trans (Sub.unnilA true 3 1 (gl (csI .i64) ([] : (List Int))) [5] [] _ (by kernel_rfl) (by kernel_rfl)) (Sub.keep [0, 5, 6] [3] (by kernel_rfl) (by kernel_rfl))) ?_
  refine AW.loopQ (σ := Nat × Int × (List Int)) (fun p => ⟨[(0, (vc (pl 1 cs_Skeleton a0))), (5, (.v (.one (.arr 3)))), (6, (vc (.int .i64 p.2.1)))], [(3, (.arr true p.2.2.length 1 (gl (csI .i64) p.2.2)))]⟩) (fun p => impl_Skeleton_chain_l1 K a0 p.1 p.2.1 p.2.2 = some o) (fun p => p.1) (K, a1, ([] : (List Int))) h ?_
  clear h
  rintro ⟨k, x3, x4⟩ h
  replace h : impl_Skeleton_chain_l1 K a0 k x3 x4 = some o := h
  show AW _ _ (⟨[(0, (vc (pl 1 cs_Skeleton a0))), (5, (.v (.one (.arr 3)))), (6, (vc (.int .i64 x3)))], [(3, (.arr true x4.length 1 (gl (csI .i64) x4)))]⟩ : St) _
  obtain _ | k := k
  · rw [impl_Skeleton_chain_l1] at h; cases h
  rw [impl_Skeleton_chain_l1] at h
  refine AW.seq ?_
  refine AW.seq (AW.rA ⟨[(0, (vc (pl 1 cs_Skeleton a0))), (5, (.v (.one (.arr 3)))), (6, (vc (.int .i64 x3))), (9, (vc (.bool (decide (x3 ≥ (0 : Int))))))], [(3, (.arr true x4.length 1 (gl (csI .i64) x4)))]⟩ (T2 Tt) [] [0, 5, 6, 9] [3] ⟨tr, tr, tr⟩ (thenQ_normal ?_))
  rcases ite2_cases h with ⟨b5, h⟩ | ⟨b5, h⟩
  · refine AW.cond_t rfl b5 ?_
    refine AW.skip ?_
    refine thenQ_normal ?_
    refine AW.seq ?_
    refine AW.block ?_
    obtain ⟨c6, h⟩ := chk_some h
    refine AW.rA ⟨[(0, (vc (pl 1 cs_Skeleton a0))), (5, (.v (.one (.arr 9)))), (6, (vc (.int .i64 x3)))], [(9, (.arr true (x4 ++ ([x3])).length 1 (gl (csI .i64) (x4 ++ ([x3])))))]⟩ (T2 ((([x3]).length = 1 ∧ (((.int .i64 x3) : C) = (.int .i64 x3) ∧ Tt) ∧ Tt) ∧ ((x4 ++ ([x3])).length = x4.length + ([x3]).length ∧ AppOb (x4.length) (([x3]).length) 1 (gl (csI .i64) x4) (gl (csI .i64) ([x3])) (gl (csI .i64) (x4 ++ ([x3]))) ∧ Tt ∧ (x4.length + ([x3]).length) * 8 ≤ 140737488355328) ∧ Tt ∧ Tt)) [.no, .no, .objD 8 ([x3]).length (gl (csI .i64) ([x3])), .objD 9 (x4 ++ ([x3])).length (gl (csI .i64) (x4 ++ ([x3])))] [0, 5, 6] [9] ⟨tr, tr, ⟨rfl, ⟨⟨rfl, tr⟩, tr⟩⟩, ⟨List.length_append, gl_append, tr, c6⟩, tr, tr⟩ ?_
    refine blockQ_normal ?_
    refine thenQ_normal ?_
    obtain ⟨c7, h⟩ := chk_some h
    refine AW.rA ⟨[(0, (vc (pl 1 cs_Skeleton a0))), (5, (.v (.one (.arr 9)))), (6, (vc (.int .i64 ((a0.Bones.getD x3.toNat default).Parent))))], [(9, (.arr true (x4 ++ ([x3])).length 1 (gl (csI .i64) (x4 ++ ([x3])))))]⟩ (Tt ∧ T4 ((0 ≤ x3 ∧ x3 < (a0.Bones.length : Int)) ∧ Tt ∧ T2 Tt)) [] [0, 5, 6] [9] ⟨tr, tr, tr, tr, tr, c7, tr, tr, tr, tr⟩ ?_
    exact loopQ_normal (k, (a0.Bones.getD x3.toNat default).Parent, (x4 ++ ([x3]))) h (Nat.lt_succ_self k) (Sub.trans (Sub.swap 3 9 _ (by kernel_rfl) (by kernel_rfl)) (Sub.keep [0, 5, 6] [3] (by kernel_rfl) (by kernel_rfl)))
  · refine AW.cond_f rfl b5 ?_
    refine AW.exit ?_
    refine thenQ_exit ?_
    refine loopQ_exit ?_
    refine blockQ_exit ?_
    refine thenQ_normal ?_
    refine AW.seq ?_
    obtain ⟨v8, e9, h⟩ := bind_some h
    obtain ⟨c10, h⟩ := chk_some h
    refine AW.rA ⟨[(5, (.v (.one (.arr 3))))], [(3, (.arr true v8.length 1 (gl (csI .i64) v8)))]⟩ (Tt ∧ (((((sl 1 (csI .i64) x4) : C) = (sl 1 (csI .i64) x4) ∧ v8.length = x4.length ∧ 1 = 1 ∧ ∀ i j, i < x4.length → j < 1 → isSeq (gl (csI .i64) v8 i j) = isSeq (gl (csI .i64) x4 i j)) ∧ Tt) ∧ MutOK Try.prog 32 [(.one (.mu (sl 1 (csI .i64) x4) (sl 1 (csI .i64) v8)))] []) ∧ Tt) [.no, .callM [(.one (.mu (sl 1 (csI .i64) x4) (sl 1 (csI .i64) v8)))] [] [] none] [5] [3] ⟨tr, ⟨⟨⟨rfl, c10, rfl, gl_seq sqI⟩, tr⟩, ok_slices_Reverse_int64_int64 K x4 v8 e9⟩, tr⟩ ?_
    refine thenQ_normal ?_
    refine AW.seq (AW.rA ⟨[(4, (.v (.one (.arr 3))))], [(3, (.arr true v8.length 1 (gl (csI .i64) v8)))]⟩ (T2 Tt) [] [4] [3] ⟨tr, tr, tr⟩ (thenQ_normal ?_))
    refine AW.ret ?_
    replace h := some_eq h
    subst h
    exact ⟨.inr rfl, retOK_of [(.one (.arr 3))] (by kernel_rfl) ⟨rfl, tr⟩ (of_decide_eq_true (by kernel_rfl))⟩

/-! impl.ChainOf -/
def impl_ChainOf (K : Nat) (a0 : Skeleton) (a1 : Int) : Option ((List Int) × Bool) :=
  (impl_hasBone K a0 a1).bind fun v1 => ite2 ((!v1)) (some (([] : (List Int)), false)) ((impl_Skeleton_chain K a0 a1).bind fun v4 => some (v4, true))

theorem ok_impl_ChainOf (K : Nat) (a0 : Skeleton) (a1 : Int) (o : ((List Int) × Bool)) (h : impl_ChainOf K a0 a1 = some o) : CallOK Try.prog 10 [.agg (cs_Skeleton a0), .one (.int .i64 a1)] [.one (sl 1 (csI .i64) o.1), .one (.bool o.2)] := by
  refine callOK_of_AW Try.func10 rfl (by kernel_rfl) (Nat.le_of_ble_eq_true (by kernel_rfl)) ?_
  intro w0
  unfold impl_ChainOf at h
  refine AW.seq (AW.rA ⟨[(1, (vc (.int .i64 a1))), (2, (vp 1 0))], [(1, (.box [(.c (sl 4 cs_Bone a0.Bones))]))]⟩ (Tt ∧ T2 Tt) [.box 1] [1, 2] [1] ⟨tr, tr, tr, tr⟩ (thenQ_normal ?_))
  refine AW.seq ?_
  refine AW.seq ?_
  obtain ⟨v1, e2, h⟩ := bind_some h
  refine AW.rA ⟨[(1, (vc (.int .i64 a1))), (2, (vp 1 0)), (9, (vc (.bool (!v1))))], [(1, (.box [(.c (sl 4 cs_Bone a0.Bones))]))]⟩ (T2 (((((Eqc (sl 4 cs_Bone a0.Bones)) ∧ Tt) ∧ (Eqc (.int .i64 a1)) ∧ Tt) ∧ CallOK Try.prog 20 [.agg (cs_Skeleton a0), .one (.int .i64 a1)] [.one (.bool v1)]) ∧ Tt ∧ Tt)) [.no, .no, .call [.agg (cs_Skeleton a0), .one (.int .i64 a1)] [.one (.bool v1)] [[.view]]] [1, 2, 9] [1] ⟨tr, tr, ⟨⟨⟨rfl, tr⟩, rfl, tr⟩, ok_impl_hasBone K a0 a1 v1 e2⟩, tr, tr⟩ ?_
  refine thenQ_normal ?_
  rcases ite2_cases h with ⟨b3, h⟩ | ⟨b3, h⟩
  · refine AW.cond_t rfl b3 ?_
    refine AW.seq (AW.rA ⟨[(4, (.v (.one .nils))), (5, (vc (.bool false)))], []⟩ (T2 Tt) [] [4, 5] [] ⟨tr, tr, tr⟩ (thenQ_normal ?_))
    refine AW.ret ?_
    refine thenQ_ret ?_
    replace h := some_eq h
    subst h
    exact ⟨.inr rfl, retOK_of [(.one .nils), (.one (.c (.bool false)))] (by kernel_rfl) ⟨rfl, ⟨rfl, tr⟩, tr⟩ (of_decide_eq_true (by kernel_rfl))⟩
  · refine AW.cond_f rfl b3 ?_
    refine AW.skip ?_
    refine thenQ_normal ?_
    refine AW.seq ?_
    obtain ⟨v4, e5, h⟩ := bind_some h
    refine AW.rA ⟨[(4, (.v (.one (.lst 2 v4.length 1 (gl (csI .i64) v4))))), (5, (vc (.bool true)))], [(2, (.lst v4.length 1 (gl (csI .i64) v4)))]⟩ (Tt ∧ (((0 = 0 ∧ (Eqc (sl 4 cs_Bone a0.Bones)) ∧ Tt) ∧ (Eqc (.int .i64 a1)) ∧ Tt) ∧ CallOK Try.prog 21 [.one (pl 1 cs_Skeleton a0), .one (.int .i64 a1)] [.one (sl 1 (csI .i64) v4)]) ∧ T2 Tt) [.no, .call [.one (pl 1 cs_Skeleton a0), .one (.int .i64 a1)] [.one (sl 1 (csI .i64) v4)] [[.lst 2]]] [4, 5] [2] ⟨tr, ⟨⟨⟨rfl, rfl, tr⟩, rfl, tr⟩, ok_impl_Skeleton_chain K a0 a1 v4 e5⟩, tr, tr, tr⟩ ?_
    refine thenQ_normal ?_
    refine AW.ret ?_
    replace h := some_eq h
    subst h
    exact ⟨.inr rfl, retOK_of [(.one (.lst 2 v4.length 1 (gl (csI .i64) v4))), (.one (.c (.bool true)))] (by kernel_rfl) ⟨rfl, ⟨rfl, tr⟩, tr⟩ (of_decide_eq_true (by kernel_rfl))⟩

/-! laws.b10TEqual -/
def laws_b10TEqual (_K : Nat) (a0 : Turn) (a1 : Turn) : Option (Bool) :=
  (ite2 ((a0.W.eq a1.W)) (ite2 ((a0.X.eq a1.X)) (ite2 ((a0.Y.eq a1.Y)) (some (a0.Z.eq a1.Z)) (some false)) (some false)) (some false)).bind fun j4 => some j4

theorem ok_laws_b10TEqual (K : Nat) (a0 : Turn) (a1 : Turn) (o : (Bool)) (h : laws_b10TEqual K a0 a1 = some o) : CallOK Try.prog 11 [.agg (cs_Turn a0), .agg (cs_Turn a1)] [.one (.bool o)] := by
  refine callOK_of_AW Try.func11 rfl (by kernel_rfl) (Nat.le_of_ble_eq_true (by kernel_rfl)) ?_
  intro w0
  unfold laws_b10TEqual at h
  refine AW.seq (AW.rA ⟨[(2, (vp 1 0)), (3, (vp 2 0))], [(1, (.box [(.c (.flt .f32 a0.W.bits)), (.c (.flt .f32 a0.X.bits)), (.c (.flt .f32 a0.Y.bits)), (.c (.flt .f32 a0.Z.bits))])), (2, (.box [(.c (.flt .f32 a1.W.bits)), (.c (.flt .f32 a1.X.bits)), (.c (.flt .f32 a1.Y.bits)), (.c (.flt .f32 a1.Z.bits))]))]⟩ (Tt ∧ T2 Tt) [.box 1, .box 2] [2, 3] [1, 2] ⟨tr, tr, tr, tr⟩ (thenQ_normal ?_))
  refine AW.seq ?_
  obtain ⟨j4, e5, h⟩ := bind_some h
  refine AW.join1 (s2 := ⟨[(4, (vc (.bool j4)))], []⟩) ?_ ?_
  · rcases ite2_cases e5 with ⟨b1, e5⟩ | ⟨b1, e5⟩
    · rcases ite2_cases e5 with ⟨b2, e5⟩ | ⟨b2, e5⟩
      · rcases ite2_cases e5 with ⟨b3, e5⟩ | ⟨b3, e5⟩
        · replace e5 := some_eq e5
          subst e5
          exact AW.rA ⟨[(4, (vc (.bool (a0.Z.eq a1.Z))))], []⟩ (Tt ∧ T4 ((Tt ∧ (a0.W.eq a1.W) = true) ∧ T2 (T4 ((Tt ∧ (a0.X.eq a1.X) = true) ∧ T2 (T4 ((Tt ∧ (a0.Y.eq a1.Y) = true) ∧ Tt ∧ T2 (T4 Tt))))))) [.no, .no, .no, .no, .no, .dec true, .no, .no, .no, .no, .no, .no, .dec true, .no, .no, .no, .no, .no, .no, .dec true] [4] [] ⟨tr, tr, tr, tr, tr, ⟨tr, b1⟩, tr, tr, tr, tr, tr, tr, ⟨tr, b2⟩, tr, tr, tr, tr, tr, tr, ⟨tr, b3⟩, tr, tr, tr, tr, tr, tr, tr, tr⟩ ⟨rfl, rfl⟩
        · replace e5 := some_eq e5
          subst e5
          exact AW.rA ⟨[(4, (vc (.bool false)))], []⟩ (Tt ∧ T4 ((Tt ∧ (a0.W.eq a1.W) = true) ∧ T2 (T4 ((Tt ∧ (a0.X.eq a1.X) = true) ∧ T2 (T4 ((Tt ∧ (a0.Y.eq a1.Y) = false) ∧ Tt ∧ T2 (T4 Tt))))))) [.no, .no, .no, .no, .no, .dec true, .no, .no, .no, .no, .no, .no, .dec true, .no, .no, .no, .no, .no, .no, .dec false] [4] [] ⟨tr, tr, tr, tr, tr, ⟨tr, b1⟩, tr, tr, tr, tr, tr, tr, ⟨tr, b2⟩, tr, tr, tr, tr, tr, tr, ⟨tr, b3⟩, tr, tr, tr, tr, tr, tr, tr, tr⟩ ⟨rfl, rfl⟩
      · replace e5 := some_eq e5
        subst e5
        exact AW.rA ⟨[(4, (vc (.bool false)))], []⟩ (Tt ∧ T4 ((Tt ∧ (a0.W.eq a1.W) = true) ∧ T2 (T4 ((Tt ∧ (a0.X.eq a1.X) = false) ∧ T2 (T4 (T4 (T4 Tt))))))) [.no, .no, .no, .no, .no, .dec true, .no, .no, .no, .no, .no, .no, .dec false] [4] [] ⟨tr, tr, tr, tr, tr, ⟨tr, b1⟩, tr, tr, tr, tr, tr, tr, ⟨tr, b2⟩, tr, tr, tr, tr, tr, tr, tr, tr, tr, tr, tr, tr, tr, tr, tr⟩ ⟨rfl, rfl⟩
    · replace e5 := some_eq e5
      subst e5
      exact AW.rA ⟨[(4, (vc (.bool false)))], []⟩ (Tt ∧ T4 ((Tt ∧ (a0.W.eq a1.W) = false) ∧ Tt ∧ T4 (T4 (T4 (T4 (T4 Tt)))))) [.no, .no, .no, .no, .no, .dec false] [4] [] ⟨tr, tr, tr, tr, tr, ⟨tr, b1⟩, tr, tr, tr, tr, tr, tr, tr, tr, tr, tr, tr, tr, tr, tr, tr, tr, tr, tr, tr, tr, tr, tr⟩ ⟨rfl, rfl⟩
  refine thenQ_normal ?_
  refine AW.ret ?_
  replace h := some_eq h
  subst h
  exact ⟨.inr rfl, retOK_of [(.one (.c (.bool j4)))] (by kernel_rfl) ⟨⟨rfl, tr⟩, tr⟩ (of_decide_eq_true (by kernel_rfl))⟩

/-! spec.l01Inner -/
def spec_l01Inner (_K : Nat) (a0 : Vector) (a1 : Vector) : Option (F32) :=
  some (((a0.X.mul a1.X).add (a0.Y.mul a1.Y)).add (a0.Z.mul a1.Z))

theorem ok_spec_l01Inner (K : Nat) (a0 : Vector) (a1 : Vector) (o : (F32)) (h : spec_l01Inner K a0 a1 = some o) : CallOK Try.prog 35 [.agg (cs_Vector a0), .agg (cs_Vector a1)] [.one (.flt .f32 o.bits)] := by
  refine callOK_of_AW Try.func35 rfl (by kernel_rfl) (Nat.le_of_ble_eq_true (by kernel_rfl)) ?_
  intro w0
  unfold spec_l01Inner at h
  refine AW.seq (AW.rA ⟨[(2, (vp 1 0)), (3, (vp 2 0))], [(1, (.box [(.c (.flt .f32 a0.X.bits)), (.c (.flt .f32 a0.Y.bits)), (.c (.flt .f32 a0.Z.bits))])), (2, (.box [(.c (.flt .f32 a1.X.bits)), (.c (.flt .f32 a1.Y.bits)), (.c (.flt .f32 a1.Z.bits))]))]⟩ (Tt ∧ T2 Tt) [.box 1, .box 2] [2, 3] [1, 2] ⟨tr, tr, tr, tr⟩ (thenQ_normal ?_))
  refine AW.seq (AW.rA ⟨[(4, (vc (.flt .f32 (((a0.X.mul a1.X).add (a0.Y.mul a1.Y)).add (a0.Z.mul a1.Z)).bits)))], []⟩ (T2 (T4 (T4 (T4 (T4 Tt))))) [] [4] [] ⟨tr, tr, tr, tr, tr, tr, tr, tr, tr, tr, tr, tr, tr, tr, tr, tr, tr, tr, tr⟩ (thenQ_normal ?_))
  refine AW.ret ?_
  replace h := some_eq h
  subst h
  exact ⟨.inr rfl, retOK_of [(.one (.c (.flt .f32 (((a0.X.mul a1.X).add (a0.Y.mul a1.Y)).add (a0.Z.mul a1.Z)).bits)))] (by kernel_rfl) ⟨⟨rfl, tr⟩, tr⟩ (of_decide_eq_true (by kernel_rfl))⟩

/-! spec.l01Narrow -/
def spec_l01Narrow (_K : Nat) (a0 : F64) : Option (F32) :=
  chk ((convBits .f64 a0.bits .f32).isSome = true) (some (Fl.cv .f64 .f32 a0))

theorem ok_spec_l01Narrow (K : Nat) (a0 : F64) (o : (F32)) (h : spec_l01Narrow K a0 = some o) : CallOK Try.prog 42 [.one (.flt .f64 a0.bits)] [.one (.flt .f32 o.bits)] := by
  refine callOK_of_AW Try.func42 rfl (by kernel_rfl) (Nat.le_of_ble_eq_true (by kernel_rfl)) ?_
  intro w0
  unfold spec_l01Narrow at h
  refine AW.seq (AW.rA ⟨[(0, (vc (.flt .f64 a0.bits)))], []⟩ (Tt ∧ Tt) [] [0] [] ⟨tr, tr⟩ (thenQ_normal ?_))
  refine AW.seq ?_
  obtain ⟨c1, h⟩ := chk_some h
  refine AW.rA ⟨[(2, (vc (.flt .f32 (Fl.cv .f64 .f32 a0).bits)))], []⟩ (Tt ∧ ((convBits .f64 a0.bits .f32).isSome = true) ∧ Tt ∧ Tt) [] [2] [] ⟨tr, c1, tr, tr⟩ ?_
  refine thenQ_normal ?_
  refine AW.ret ?_
  replace h := some_eq h
  subst h
  exact ⟨.inr rfl, retOK_of [(.one (.c (.flt .f32 (Fl.cv .f64 .f32 a0).bits)))] (by kernel_rfl) ⟨⟨rfl, tr⟩, tr⟩ (of_decide_eq_true (by kernel_rfl))⟩

/-! spec.l01Sqrt -/
def spec_l01Sqrt (K : Nat) (a0 : F32) : Option (F32) :=
  (math_Sqrt K (Fl.cv .f32 .f64 a0)).bind fun v1 => (spec_l01Narrow K v1).bind fun v3 => some v3

theorem ok_spec_l01Sqrt (K : Nat) (a0 : F32) (o : (F32)) (h : spec_l01Sqrt K a0 = some o) : CallOK Try.prog 34 [.one (.flt .f32 a0.bits)] [.one (.flt .f32 o.bits)] := by
  refine callOK_of_AW Try.func34 rfl (by kernel_rfl) (Nat.le_of_ble_eq_true (by kernel_rfl)) ?_
  intro w0
  unfold spec_l01Sqrt at h
  refine AW.seq (AW.rA ⟨[(0, (vc (.flt .f32 a0.bits)))], []⟩ (Tt ∧ Tt) [] [0] [] ⟨tr, tr⟩ (thenQ_normal ?_))
  refine AW.seq ?_
  obtain ⟨v1, e2, h⟩ := bind_some h
  obtain ⟨v3, e4, h⟩ := bind_some h
  refine AW.rA ⟨[(2, (vc (.flt .f32 v3.bits)))], []⟩ (Tt ∧ ((convBits .f32 a0.bits .f64).isSome = true) ∧ (((Eqc (.flt .f64 (Fl.cv .f32 .f64 a0).bits)) ∧ Tt) ∧ CallOK Try.prog 39 [.one (.flt .f64 (Fl.cv .f32 .f64 a0).bits)] [.one (.flt .f64 v1.bits)]) ∧ (((Eqc (.flt .f64 v1.bits)) ∧ Tt) ∧ CallOK Try.prog 42 [.one (.flt .f64 v1.bits)] [.one (.flt .f32 v3.bits)]) ∧ Tt ∧ Tt) [.no, .no, .call [.one (.flt .f64 (Fl.cv .f32 .f64 a0).bits)] [.one (.flt .f64 v1.bits)] [[.view]], .call [.one (.flt .f64 v1.bits)] [.one (.flt .f32 v3.bits)] [[.view]]] [2] [] ⟨tr, cv_wide a0, ⟨⟨rfl, tr⟩, ok_math_Sqrt K (Fl.cv .f32 .f64 a0) v1 e2⟩, ⟨⟨rfl, tr⟩, ok_spec_l01Narrow K v1 v3 e4⟩, tr, tr⟩ ?_
  refine thenQ_normal ?_
  refine AW.ret ?_
  replace h := some_eq h
  subst h
  exact ⟨.inr rfl, retOK_of [(.one (.c (.flt .f32 v3.bits)))] (by kernel_rfl) ⟨⟨rfl, tr⟩, tr⟩ (of_decide_eq_true (by kernel_rfl))⟩

/-! spec.l01Long -/
def spec_l01Long (K : Nat) (a0 : Vector) : Option (F32) :=
  (spec_l01Inner K a0 a0).bind fun v1 => (spec_l01Sqrt K v1).bind fun v3 => some v3

theorem ok_spec_l01Long (K : Nat) (a0 : Vector) (o : (F32)) (h : spec_l01Long K a0 = some o) : CallOK Try.prog 23 [.agg (cs_Vector a0)] [.one (.flt .f32 o.bits)] := by
  refine callOK_of_AW Try.func23 rfl (by kernel_rfl) (Nat.le_of_ble_eq_true (by kernel_rfl)) ?_
  intro w0
  unfold spec_l01Long at h
  refine AW.seq (AW.rA ⟨[(1, (vp 1 0))], [(1, (.box [(.c (.flt .f32 a0.X.bits)), (.c (.flt .f32 a0.Y.bits)), (.c (.flt .f32 a0.Z.bits))]))]⟩ (T2 Tt) [.box 1] [1] [1] ⟨tr, tr, tr⟩ (thenQ_normal ?_))
  refine AW.seq ?_
  obtain ⟨v1, e2, h⟩ := bind_some h
  obtain ⟨v3, e4, h⟩ := bind_some h
  refine AW.rA ⟨[(2, (vc (.flt .f32 v3.bits)))], []⟩ (T2 (((((Eqc (.flt .f32 a0.X.bits)) ∧ (Eqc (.flt .f32 a0.Y.bits)) ∧ (Eqc (.flt .f32 a0.Z.bits)) ∧ Tt) ∧ ((Eqc (.flt .f32 a0.X.bits)) ∧ (Eqc (.flt .f32 a0.Y.bits)) ∧ (Eqc (.flt .f32 a0.Z.bits)) ∧ Tt) ∧ Tt) ∧ CallOK Try.prog 35 [.agg (cs_Vector a0), .agg (cs_Vector a0)] [.one (.flt .f32 v1.bits)]) ∧ (((Eqc (.flt .f32 v1.bits)) ∧ Tt) ∧ CallOK Try.prog 34 [.one (.flt .f32 v1.bits)] [.one (.flt .f32 v3.bits)]) ∧ Tt ∧ Tt)) [.no, .no, .call [.agg (cs_Vector a0), .agg (cs_Vector a0)] [.one (.flt .f32 v1.bits)] [[.view]], .call [.one (.flt .f32 v1.bits)] [.one (.flt .f32 v3.bits)] [[.view]]] [2] [] ⟨tr, tr, ⟨⟨⟨rfl, rfl, rfl, tr⟩, ⟨rfl, rfl, rfl, tr⟩, tr⟩, ok_spec_l01Inner K a0 a0 v1 e2⟩, ⟨⟨rfl, tr⟩, ok_spec_l01Sqrt K v1 v3 e4⟩, tr, tr⟩ ?_
  refine thenQ_normal ?_
  refine AW.ret ?_
  replace h := some_eq h
  subst h
  exact ⟨.inr rfl, retOK_of [(.one (.c (.flt .f32 v3.bits)))] (by kernel_rfl) ⟨⟨rfl, tr⟩, tr⟩ (of_decide_eq_true (by kernel_rfl))⟩

/-! spec.LongOf -/
def spec_LongOf (K : Nat) (a0 : Vector) : Option (F32) :=
  (spec_l01Long K a0).bind fun v1 => some v1

theorem ok_spec_LongOf (K : Nat) (a0 : Vector) (o : (F32)) (h : spec_LongOf K a0 = some o) : CallOK Try.prog 13 [.agg (cs_Vector a0)] [.one (.flt .f32 o.bits)] := by
  refine callOK_of_AW Try.func13 rfl (by kernel_rfl) (Nat.le_of_ble_eq_true (by kernel_rfl)) ?_
  intro w0
  unfold spec_LongOf at h
  refine AW.seq (AW.rA ⟨[(1, (vp 1 0))], [(1, (.box [(.c (.flt .f32 a0.X.bits)), (.c (.flt .f32 a0.Y.bits)), (.c (.flt .f32 a0.Z.bits))]))]⟩ (T2 Tt) [.box 1] [1] [1] ⟨tr, tr, tr⟩ (thenQ_normal ?_))
  refine AW.seq ?_
  obtain ⟨v1, e2, h⟩ := bind_some h
  refine AW.rA ⟨[(2, (vc (.flt .f32 v1.bits)))], []⟩ (Tt ∧ ((((Eqc (.flt .f32 a0.X.bits)) ∧ (Eqc (.flt .f32 a0.Y.bits)) ∧ (Eqc (.flt .f32 a0.Z.bits)) ∧ Tt) ∧ Tt) ∧ CallOK Try.prog 23 [.agg (cs_Vector a0)] [.one (.flt .f32 v1.bits)]) ∧ Tt ∧ Tt) [.no, .call [.agg (cs_Vector a0)] [.one (.flt .f32 v1.bits)] [[.view]]] [2] [] ⟨tr, ⟨⟨⟨rfl, rfl, rfl, tr⟩, tr⟩, ok_spec_l01Long K a0 v1 e2⟩, tr, tr⟩ ?_
  refine thenQ_normal ?_
  refine AW.ret ?_
  replace h := some_eq h
  subst h
  exact ⟨.inr rfl, retOK_of [(.one (.c (.flt .f32 v1.bits)))] (by kernel_rfl) ⟨⟨rfl, tr⟩, tr⟩ (of_decide_eq_true (by kernel_rfl))⟩

/-! math.Float32bits -/
def math_Float32bits (_K : Nat) (a0 : F32) : Option (Int) :=
  a0.toBits

theorem ok_math_Float32bits (K : Nat) (a0 : F32) (o : Int) (h : math_Float32bits K a0 = some o) : CallOK Try.prog 41 [.one (.flt .f32 a0.bits)] [.one (.int .u32 o)] :=
  hand_toBits (e := Extern.MathFloatBits.float32bits) Try.func41 (by kernel_rfl) (by kernel_rfl) (by kernel_rfl) (by kernel_rfl) (fun _ _ => rfl) a0 o h

/-! spec.l01Bits -/
def spec_l01Bits (K : Nat) (a0 : F32) : Option (Int) :=
  ite2 ((a0.ne a0)) (some (2143289344 : Int)) ((math_Float32bits K a0).bind fun v2 => some (IntKind.i64.wrap v2))

theorem ok_spec_l01Bits (K : Nat) (a0 : F32) (o : (Int)) (h : spec_l01Bits K a0 = some o) : CallOK Try.prog 33 [.one (.flt .f32 a0.bits)] [.one (.int .i64 o)] := by
  refine callOK_of_AW Try.func33 rfl (by kernel_rfl) (Nat.le_of_ble_eq_true (by kernel_rfl)) ?_
  intro w0
  unfold spec_l01Bits at h
  refine AW.seq (AW.rA ⟨[(0, (vc (.flt .f32 a0.bits)))], []⟩ (Tt ∧ Tt) [] [0] [] ⟨tr, tr⟩ (thenQ_normal ?_))
  refine AW.seq ?_
  refine AW.seq (AW.rA ⟨[(0, (vc (.flt .f32 a0.bits))), (5, (vc (.bool (a0.ne a0))))], []⟩ (Tt ∧ T2 Tt) [] [0, 5] [] ⟨tr, tr, tr, tr⟩ (thenQ_normal ?_))
  rcases ite2_cases h with ⟨b1, h⟩ | ⟨b1, h⟩
  · refine AW.cond_t rfl b1 ?_
    refine AW.seq (AW.rA ⟨[(2, (vc (.int .i64 (2143289344 : Int))))], []⟩ (Tt ∧ Tt) [] [2] [] ⟨tr, tr⟩ (thenQ_normal ?_))
    refine AW.ret ?_
    refine thenQ_ret ?_
    replace h := some_eq h
    subst h
    exact ⟨.inr rfl, retOK_of [(.one (.c (.int .i64 (2143289344 : Int))))] (by kernel_rfl) ⟨⟨rfl, tr⟩, tr⟩ (of_decide_eq_true (by kernel_rfl))⟩
  · refine AW.cond_f rfl b1 ?_
    refine AW.skip ?_
    refine thenQ_normal ?_
    refine AW.seq ?_
    obtain ⟨v2, e3, h⟩ := bind_some h
    refine AW.rA ⟨[(2, (vc (.int .i64 (IntKind.i64.wrap v2))))], []⟩ (Tt ∧ (((Eqc (.flt .f32 a0.bits)) ∧ Tt) ∧ CallOK Try.prog 41 [.one (.flt .f32 a0.bits)] [.one (.int .u32 v2)]) ∧ T2 Tt) [.no, .call [.one (.flt .f32 a0.bits)] [.one (.int .u32 v2)] [[.view]]] [2] [] ⟨tr, ⟨⟨rfl, tr⟩, ok_math_Float32bits K a0 v2 e3⟩, tr, tr, tr⟩ ?_
    refine thenQ_normal ?_
    refine AW.ret ?_
    replace h := some_eq h
    subst h
    exact ⟨.inr rfl, retOK_of [(.one (.c (.int .i64 (IntKind.i64.wrap v2))))] (by kernel_rfl) ⟨⟨rfl, tr⟩, tr⟩ (of_decide_eq_true (by kernel_rfl))⟩

/-! spec.l01Same -/
def spec_l01Same (K : Nat) (a0 : F32) (a1 : F32) : Option (Bool) :=
  (spec_l01Bits K a0).bind fun v1 => (spec_l01Bits K a1).bind fun v3 => some (v1 == v3)

theorem ok_spec_l01Same (K : Nat) (a0 : F32) (a1 : F32) (o : (Bool)) (h : spec_l01Same K a0 a1 = some o) : CallOK Try.prog 22 [.one (.flt .f32 a0.bits), .one (.flt .f32 a1.bits)] [.one (.bool o)] := by
  refine callOK_of_AW Try.func22 rfl (by kernel_rfl) (Nat.le_of_ble_eq_true (by kernel_rfl)) ?_
  intro w0
  unfold spec_l01Same at h
  refine AW.seq (AW.rA ⟨[(0, (vc (.flt .f32 a0.bits))), (1, (vc (.flt .f32 a1.bits)))], []⟩ (Tt ∧ Tt) [] [0, 1] [] ⟨tr, tr⟩ (thenQ_normal ?_))
  refine AW.seq ?_
  obtain ⟨v1, e2, h⟩ := bind_some h
  obtain ⟨v3, e4, h⟩ := bind_some h
  refine AW.rA ⟨[(4, (vc (.bool (v1 == v3))))], []⟩ (Tt ∧ (((Eqc (.flt .f32 a0.bits)) ∧ Tt) ∧ CallOK Try.prog 33 [.one (.flt .f32 a0.bits)] [.one (.int .i64 v1)]) ∧ Tt ∧ (((Eqc (.flt .f32 a1.bits)) ∧ Tt) ∧ CallOK Try.prog 33 [.one (.flt .f32 a1.bits)] [.one (.int .i64 v3)]) ∧ T2 Tt) [.no, .call [.one (.flt .f32 a0.bits)] [.one (.int .i64 v1)] [[.view]], .no, .call [.one (.flt .f32 a1.bits)] [.one (.int .i64 v3)] [[.view]]] [4] [] ⟨tr, ⟨⟨rfl, tr⟩, ok_spec_l01Bits K a0 v1 e2⟩, tr, ⟨⟨rfl, tr⟩, ok_spec_l01Bits K a1 v3 e4⟩, tr, tr, tr⟩ ?_
  refine thenQ_normal ?_
  refine AW.ret ?_
  replace h := some_eq h
  subst h
  exact ⟨.inr rfl, retOK_of [(.one (.c (.bool (v1 == v3))))] (by kernel_rfl) ⟨⟨rfl, tr⟩, tr⟩ (of_decide_eq_true (by kernel_rfl))⟩

/-! spec.SameNumber -/
def spec_SameNumber (K : Nat) (a0 : F32) (a1 : F32) : Option (Bool) :=
  (spec_l01Same K a0 a1).bind fun v1 => some v1

theorem ok_spec_SameNumber (K : Nat) (a0 : F32) (a1 : F32) (o : (Bool)) (h : spec_SameNumber K a0 a1 = some o) : CallOK Try.prog 12 [.one (.flt .f32 a0.bits), .one (.flt .f32 a1.bits)] [.one (.bool o)] := by
  refine callOK_of_AW Try.func12 rfl (by kernel_rfl) (Nat.le_of_ble_eq_true (by kernel_rfl)) ?_
  intro w0
  unfold spec_SameNumber at h
  refine AW.seq (AW.rA ⟨[(0, (vc (.flt .f32 a0.bits))), (1, (vc (.flt .f32 a1.bits)))], []⟩ (Tt ∧ Tt) [] [0, 1] [] ⟨tr, tr⟩ (thenQ_normal ?_))
  refine AW.seq ?_
  obtain ⟨v1, e2, h⟩ := bind_some h
  refine AW.rA ⟨[(4, (vc (.bool v1)))], []⟩ (T2 ((((Eqc (.flt .f32 a0.bits)) ∧ (Eqc (.flt .f32 a1.bits)) ∧ Tt) ∧ CallOK Try.prog 22 [.one (.flt .f32 a0.bits), .one (.flt .f32 a1.bits)] [.one (.bool v1)]) ∧ Tt ∧ Tt)) [.no, .no, .call [.one (.flt .f32 a0.bits), .one (.flt .f32 a1.bits)] [.one (.bool v1)] [[.view]]] [4] [] ⟨tr, tr, ⟨⟨rfl, rfl, tr⟩, ok_spec_l01Same K a0 a1 v1 e2⟩, tr, tr⟩ ?_
  refine thenQ_normal ?_
  refine AW.ret ?_
  replace h := some_eq h
  subst h
  exact ⟨.inr rfl, retOK_of [(.one (.c (.bool v1)))] (by kernel_rfl) ⟨⟨rfl, tr⟩, tr⟩ (of_decide_eq_true (by kernel_rfl))⟩

/-! slices.Index[[]int64,int64] -/
def slices_Index_int64_int64_l1 (K : Nat) (a0 : (List Int)) (a1 : Int) : Nat → Int → Option (Int)
  | 0, _ => none
  | k + 1, x2 => ite2 ((decide (x2 < (a0.length : Int)))) (chk (0 ≤ x2 ∧ x2 < (a0.length : Int)) (ite2 ((a1 == (a0.getD x2.toNat default))) (some x2) (slices_Index_int64_int64_l1 K a0 a1 k (IntKind.i64.wrap (x2 + (1 : Int)))))) (some ((-1) : Int))

def slices_Index_int64_int64 (K : Nat) (a0 : (List Int)) (a1 : Int) : Option (Int) :=
  slices_Index_int64_int64_l1 K a0 a1 K (0 : Int)

theorem ok_slices_Index_int64_int64 (K : Nat) (a0 : (List Int)) (a1 : Int) (o : (Int)) (h : slices_Index_int64_int64 K a0 a1 = some o) : CallOK Try.prog 36 [.one (sl 1 (csI .i64) a0), .one (.int .i64 a1)] [.one (.int .i64 o)] := by
  refine callOK_of_AW Try.func36 rfl (by kernel_rfl) (Nat.le_of_ble_eq_true (by kernel_rfl)) ?_
  intro w0
  unfold slices_Index_int64_int64 at h
  refine AW.seq (AW.rA ⟨[(0, (vc (sl 1 (csI .i64) a0))), (1, (vc (.int .i64 a1)))], []⟩ (Tt ∧ Tt) [] [0, 1] [] ⟨tr, tr⟩ (thenQ_normal ?_))
  refine AW.seq ?_
  refine AW.seq (AW.rA ⟨[(0, (vc (sl 1 (csI .i64) a0))), (1, (vc (.int .i64 a1))), (7, (vc (.int .i64 (a0.length : Int)))), (8, (vc (.int .i64 (0 : Int))))], []⟩ (Tt ∧ T2 Tt) [] [0, 1, 7, 8] [] ⟨tr, tr, tr, tr⟩ (thenQ_normal ?_))
  refine AW.block ?_
  refine AW.loopQ (σ := Nat × Int) (fun p => ⟨[(0, (vc (sl 1 (csI .i64) a0))), (1, (vc (.int .i64 a1))), (7, (vc (.int .i64 (a0.length : Int)))), (8, (vc (.int .i64 p.2)))], []⟩) (fun p => slices_Index_int64_int64_l1 K a0 a1 p.1 p.2 = some o) (fun p => p.1) (K, (0 : Int)) h ?_
  clear h
  rintro ⟨k, x2⟩ h
  replace h : slices_Index_int64_int64_l1 K a0 a1 k x2 = some o := h
  show AW _ _ (⟨[(0, (vc (sl 1 (csI .i64) a0))), (1, (vc (.int .i64 a1))), (7, (vc (.int .i64 (a0.length : Int)))), (8, (vc (.int .i64 x2)))], []⟩ : St) _
  obtain _ | k := k
  · rw [slices_Index_int64_int64_l1] at h; cases h
  rw [slices_Index_int64_int64_l1] at h
  refine AW.seq (AW.rA ⟨[(0, (vc (sl 1 (csI .i64) a0))), (1, (vc (.int .i64 a1))), (7, (vc (.int .i64 (a0.length : Int)))), (8, (vc (.int .i64 x2))), (9, (vc (.bool (decide (x2 < (a0.length : Int))))))], []⟩ (Tt ∧ Tt) [] [0, 1, 7, 8, 9] [] ⟨tr, tr⟩ (thenQ_normal ?_))
  refine AW.seq ?_
  rcases ite2_cases h with ⟨b3, h⟩ | ⟨b3, h⟩
  · refine AW.cond_t rfl b3 ?_
    refine AW.skip ?_
    refine thenQ_normal ?_
    refine AW.seq ?_
    refine AW.block ?_
    refine AW.seq (AW.rA ⟨[(0, (vc (sl 1 (csI .i64) a0))), (1, (vc (.int .i64 a1))), (5, (vc (.int .i64 x2))), (7, (vc (.int .i64 (a0.length : Int)))), (8, (vc (.int .i64 x2)))], []⟩ (T2 Tt) [] [0, 1, 5, 7, 8] [] ⟨tr, tr, tr⟩ (thenQ_normal ?_))
    refine AW.seq ?_
    obtain ⟨c4, h⟩ := chk_some h
    refine AW.rA ⟨[(0, (vc (sl 1 (csI .i64) a0))), (1, (vc (.int .i64 a1))), (5, (vc (.int .i64 x2))), (7, (vc (.int .i64 (a0.length : Int)))), (8, (vc (.int .i64 x2))), (16, (vc (.bool (a1 == (a0.getD x2.toNat default)))))], []⟩ (Tt ∧ T2 ((0 ≤ x2 ∧ x2 < (a0.length : Int)) ∧ T2 Tt)) [] [0, 1, 5, 7, 8, 16] [] ⟨tr, tr, tr, c4, tr, tr, tr⟩ ?_
    refine thenQ_normal ?_
    rcases ite2_cases h with ⟨b5, h⟩ | ⟨b5, h⟩
    · refine AW.cond_t rfl b5 ?_
      refine AW.seq (AW.rA ⟨[(4, (vc (.int .i64 x2)))], []⟩ (T2 Tt) [] [4] [] ⟨tr, tr, tr⟩ (thenQ_normal ?_))
      refine AW.ret ?_
      refine blockQ_ret ?_
      refine thenQ_ret ?_
      refine loopQ_ret ?_
      refine blockQ_ret ?_
      refine thenQ_ret ?_
      replace h := some_eq h
      subst h
      exact ⟨.inr rfl, retOK_of [(.one (.c (.int .i64 x2)))] (by kernel_rfl) ⟨⟨rfl, tr⟩, tr⟩ (of_decide_eq_true (by kernel_rfl))⟩
    · refine AW.cond_f rfl b5 ?_
      refine AW.skip ?_
      refine blockQ_normal ?_
      refine thenQ_normal ?_
      refine AW.rA ⟨[(0, (vc (sl 1 (csI .i64) a0))), (1, (vc (.int .i64 a1))), (7, (vc (.int .i64 (a0.length : Int)))), (8, (vc (.int .i64 (IntKind.i64.wrap (x2 + (1 : Int))))))], []⟩ (T2 Tt) [] [0, 1, 7, 8] [] ⟨tr, tr, tr⟩ ?_
      exact loopQ_normal (k, (IntKind.i64.wrap (x2 + (1 : Int)))) h (Nat.lt_succ_self k) (Sub.keep [0, 1, 7, 8] [] (by kernel_rfl) (by kernel_rfl))
  · refine AW.cond_f rfl b3 ?_
    refine AW.exit ?_
    refine thenQ_exit ?_
    refine loopQ_exit ?_
    refine blockQ_exit ?_
    refine thenQ_normal ?_
    refine AW.seq (AW.rA ⟨[(4, (vc (.int .i64 ((-1) : Int))))], []⟩ (Tt ∧ Tt) [] [4] [] ⟨tr, tr⟩ (thenQ_normal ?_))
    refine AW.ret ?_
    replace h := some_eq h
    subst h
    exact ⟨.inr rfl, retOK_of [(.one (.c (.int .i64 ((-1) : Int))))] (by kernel_rfl) ⟨⟨rfl, tr⟩, tr⟩ (of_decide_eq_true (by kernel_rfl))⟩

/-! slices.Contains[[]int64,int64] -/
def slices_Contains_int64_int64 (K : Nat) (a0 : (List Int)) (a1 : Int) : Option (Bool) :=
  (slices_Index_int64_int64 K a0 a1).bind fun v1 => some (decide (v1 ≥ (0 : Int)))

theorem ok_slices_Contains_int64_int64 (K : Nat) (a0 : (List Int)) (a1 : Int) (o : (Bool)) (h : slices_Contains_int64_int64 K a0 a1 = some o) : CallOK Try.prog 24 [.one (sl 1 (csI .i64) a0), .one (.int .i64 a1)] [.one (.bool o)] := by
  refine callOK_of_AW Try.func24 rfl (by kernel_rfl) (Nat.le_of_ble_eq_true (by kernel_rfl)) ?_
  intro w0
  unfold slices_Contains_int64_int64 at h
  refine AW.seq (AW.rA ⟨[(0, (vc (sl 1 (csI .i64) a0))), (1, (vc (.int .i64 a1)))], []⟩ (Tt ∧ Tt) [] [0, 1] [] ⟨tr, tr⟩ (thenQ_normal ?_))
  refine AW.seq ?_
  obtain ⟨v1, e2, h⟩ := bind_some h
  refine AW.rA ⟨[(4, (vc (.bool (decide (v1 ≥ (0 : Int))))))], []⟩ (T2 ((((Eqc (sl 1 (csI .i64) a0)) ∧ (Eqc (.int .i64 a1)) ∧ Tt) ∧ CallOK Try.prog 36 [.one (sl 1 (csI .i64) a0), .one (.int .i64 a1)] [.one (.int .i64 v1)]) ∧ T2 Tt)) [.no, .no, .call [.one (sl 1 (csI .i64) a0), .one (.int .i64 a1)] [.one (.int .i64 v1)] [[.view]]] [4] [] ⟨tr, tr, ⟨⟨rfl, rfl, tr⟩, ok_slices_Index_int64_int64 K a0 a1 v1 e2⟩, tr, tr, tr⟩ ?_
  refine thenQ_normal ?_
  refine AW.ret ?_
  replace h := some_eq h
  subst h
  exact ⟨.inr rfl, retOK_of [(.one (.c (.bool (decide (v1 ≥ (0 : Int))))))] (by kernel_rfl) ⟨⟨rfl, tr⟩, tr⟩ (of_decide_eq_true (by kernel_rfl))⟩

/-! impl.BelowOf -/
def impl_BelowOf_l1 (K : Nat) (a0 : Skeleton) (a1 : Int) : Nat → Int → (List Int) → Option ((List Int) × Bool)
  | 0, _, _ => none
  | k + 1, x6, x7 => ite2 ((decide (x6 < (a0.Bones.length : Int)))) ((impl_Skeleton_chain K a0 x6).bind fun v9 => (slices_Contains_int64_int64 K v9 a1).bind fun v11 => ite2 (v11) (chk ((x7.length + ([x6]).length) * 8 ≤ 140737488355328) (impl_BelowOf_l1 K a0 a1 k (IntKind.i64.wrap (x6 + (1 : Int))) (x7 ++ ([x6])))) (impl_BelowOf_l1 K a0 a1 k (IntKind.i64.wrap (x6 + (1 : Int))) x7)) (some (x7, true))

def impl_BelowOf (K : Nat) (a0 : Skeleton) (a1 : Int) : Option ((List Int) × Bool) :=
  (impl_hasBone K a0 a1).bind fun v1 => ite2 ((!v1)) (some (([] : (List Int)), false)) (impl_BelowOf_l1 K a0 a1 K (0 : Int) ([] : (List Int)))

theorem ok_impl_BelowOf (K : Nat) (a0 : Skeleton) (a1 : Int) (o : ((List Int) × Bool)) (h : impl_BelowOf K a0 a1 = some o) : CallOK Try.prog 14 [.agg (cs_Skeleton a0), .one (.int .i64 a1)] [.one (sl 1 (csI .i64) o.1), .one (.bool o.2)] := by
  refine callOK_of_AW Try.func14 rfl (by kernel_rfl) (Nat.le_of_ble_eq_true (by kernel_rfl)) ?_
  intro w0
  unfold impl_BelowOf at h
  refine AW.seq (AW.rA ⟨[(1, (vc (.int .i64 a1))), (2, (vp 1 0))], [(1, (.box [(.c (sl 4 cs_Bone a0.Bones))]))]⟩ (Tt ∧ T2 Tt) [.box 1] [1, 2] [1] ⟨tr, tr, tr, tr⟩ (thenQ_normal ?_))
  refine AW.seq ?_
  refine AW.seq ?_
  obtain ⟨v1, e2, h⟩ := bind_some h
  refine AW.rA ⟨[(1, (vc (.int .i64 a1))), (2, (vp 1 0)), (11, (vc (.bool (!v1))))], [(1, (.box [(.c (sl 4 cs_Bone a0.Bones))]))]⟩ (T2 (((((Eqc (sl 4 cs_Bone a0.Bones)) ∧ Tt) ∧ (Eqc (.int .i64 a1)) ∧ Tt) ∧ CallOK Try.prog 20 [.agg (cs_Skeleton a0), .one (.int .i64 a1)] [.one (.bool v1)]) ∧ Tt ∧ Tt)) [.no, .no, .call [.agg (cs_Skeleton a0), .one (.int .i64 a1)] [.one (.bool v1)] [[.view]]] [1, 2, 11] [1] ⟨tr, tr, ⟨⟨⟨rfl, tr⟩, rfl, tr⟩, ok_impl_hasBone K a0 a1 v1 e2⟩, tr, tr⟩ ?_
  refine thenQ_normal ?_
  rcases ite2_cases h with ⟨b3, h⟩ | ⟨b3, h⟩
  · refine AW.cond_t rfl b3 ?_
    refine AW.seq (AW.rA ⟨[(4, (.v (.one .nils))), (5, (vc (.bool false)))], []⟩ (T2 Tt) [] [4, 5] [] ⟨tr, tr, tr⟩ (thenQ_normal ?_))
    refine AW.ret ?_
    refine thenQ_ret ?_
    replace h := some_eq h
    subst h
    exact ⟨.inr rfl, retOK_of [(.one .nils), (.one (.c (.bool false)))] (by kernel_rfl) ⟨rfl, ⟨rfl, tr⟩, tr⟩ (of_decide_eq_true (by kernel_rfl))⟩
  · refine AW.cond_f rfl b3 ?_
    refine AW.skip ?_
    refine thenQ_normal ?_
    refine AW.seq (AW.rA ⟨[(1, (vc (.int .i64 a1))), (2, (vp 1 0)), (6, (.v (.one .nils)))], [(1, (.box [(.c (sl 4 cs_Bone a0.Bones))]))]⟩ (Tt ∧ Tt) [] [1, 2, 6] [1] ⟨tr, tr⟩ (thenQ_normal ?_))
    refine AW.seq ?_
    refine AW.seq (AW.rA ⟨[(1, (vc (.int .i64 a1))), (2, (vp 1 0)), (6, (.v (.one .nils))), (14, (vc (.int .i64 (a0.Bones.length : Int)))), (15, (vc (.int .i64 (0 : Int))))], [(1, (.box [(.c (sl 4 cs_Bone a0.Bones))]))]⟩ (T4 Tt) [] [1, 2, 6, 14, 15] [1] ⟨tr, tr, tr, tr, tr⟩ (thenQ_normal ?_))
    refine AW.block ?_
    refine AW.weak (s' := ⟨[(1, (vc (.int .i64 a1))), (2, (vp 1 0)), (6, (.v (.one (.lst 5 ([] : (List Int)).length 1 (gl (csI .i64) ([] : (List Int))))))), (14, (vc (.int .i64 (a0.Bones.length : Int)))), (15, (vc (.int .i64 (0 : Int))))], [(1, (.box [(.c (sl 4 cs_Bone a0.Bones))])), (5, (.lst ([] : (List Int)).length 1 (gl (csI .i64) ([] : (List Int)))))]⟩) (Sub.trans (Sub.unnil 5 1 (gl (csI .i64) ([] : (List Int))) [6] [] _ (by kernel_rfl) (by kernel_rfl)) (Sub.keep [1, 2, 6, 14, 15] [1, 5] (by kernel_rfl) (by kernel_rfl))) ?_
    refine AW.loopQ (σ := Nat × Int × (List Int)) (fun p => ⟨[(1, (vc (.int .i64 a1))), (2, (vp 1 0)), (6, (.v (.one (.lst 5 p.2.2.length 1 (gl (csI .i64) p.2.2))))), (14, (vc (.int .i64 (a0.Bones.length : Int)))), (15, (vc (.int .i64 p.2.1)))], [(1, (.box [(.c (sl 4 cs_Bone a0.Bones))])), (5, (.lst p.2.2.length 1 (gl (csI .i64) p.2.2)))]⟩) (fun p => impl_BelowOf_l1 K a0 a1 p.1 p.2.1 p.2.2 = some o) (fun p => p.1) (K, (0 : Int), ([] : (List Int))) h ?_
    clear h
    rintro ⟨k, x6, x7⟩ h
    replace h : impl_BelowOf_l1 K a0 a1 k x6 x7 = some o := h
    show AW _ _ (⟨[(1, (vc (.int .i64 a1))), (2, (vp 1 0)), (6, (.v (.one (.lst 5 x7.length 1 (gl (csI .i64) x7))))), (14, (vc (.int .i64 (a0.Bones.length : Int)))), (15, (vc (.int .i64 x6)))], [(1, (.box [(.c (sl 4 cs_Bone a0.Bones))])), (5, (.lst x7.length 1 (gl (csI .i64) x7)))]⟩ : St) _
    obtain _ | k := k
    · rw [impl_BelowOf_l1] at h; cases h
    rw [impl_BelowOf_l1] at h
    refine AW.seq (AW.rA ⟨[(1, (vc (.int .i64 a1))), (2, (vp 1 0)), (6, (.v (.one (.lst 5 x7.length 1 (gl (csI .i64) x7))))), (14, (vc (.int .i64 (a0.Bones.length : Int)))), (15, (vc (.int .i64 x6))), (16, (vc (.bool (decide (x6 < (a0.Bones.length : Int))))))], [(1, (.box [(.c (sl 4 cs_Bone a0.Bones))])), (5, (.lst x7.length 1 (gl (csI .i64) x7)))]⟩ (Tt ∧ Tt) [] [1, 2, 6, 14, 15, 16] [1, 5] ⟨tr, tr⟩ (thenQ_normal ?_))
    refine AW.seq ?_
    rcases ite2_cases h with ⟨b8, h⟩ | ⟨b8, h⟩
    · refine AW.cond_t rfl b8 ?_
      refine AW.skip ?_
      refine thenQ_normal ?_
      refine AW.seq ?_
      refine AW.block ?_
      refine AW.seq (AW.rA ⟨[(1, (vc (.int .i64 a1))), (2, (vp 1 0)), (6, (.v (.one (.lst 5 x7.length 1 (gl (csI .i64) x7))))), (7, (vc (.int .i64 x6))), (14, (vc (.int .i64 (a0.Bones.length : Int)))), (15, (vc (.int .i64 x6)))], [(1, (.box [(.c (sl 4 cs_Bone a0.Bones))])), (5, (.lst x7.length 1 (gl (csI .i64) x7)))]⟩ (T2 Tt) [] [1, 2, 6, 7, 14, 15] [1, 5] ⟨tr, tr, tr⟩ (thenQ_normal ?_))
      refine AW.seq ?_
      obtain ⟨v9, e10, h⟩ := bind_some h
      obtain ⟨v11, e12, h⟩ := bind_some h
      refine AW.rA ⟨[(1, (vc (.int .i64 a1))), (2, (vp 1 0)), (6, (.v (.one (.lst 5 x7.length 1 (gl (csI .i64) x7))))), (7, (vc (.int .i64 x6))), (14, (vc (.int .i64 (a0.Bones.length : Int)))), (15, (vc (.int .i64 x6))), (21, (vc (.bool v11)))], [(1, (.box [(.c (sl 4 cs_Bone a0.Bones))])), (5, (.lst x7.length 1 (gl (csI .i64) x7)))]⟩ (Tt ∧ (((0 = 0 ∧ (Eqc (sl 4 cs_Bone a0.Bones)) ∧ Tt) ∧ (Eqc (.int .i64 x6)) ∧ Tt) ∧ CallOK Try.prog 21 [.one (pl 1 cs_Skeleton a0), .one (.int .i64 x6)] [.one (sl 1 (csI .i64) v9)]) ∧ Tt ∧ (((Eqc (sl 1 (csI .i64) v9)) ∧ (Eqc (.int .i64 a1)) ∧ Tt) ∧ CallOK Try.prog 24 [.one (sl 1 (csI .i64) v9), .one (.int .i64 a1)] [.one (.bool v11)]) ∧ Tt) [.no, .call [.one (pl 1 cs_Skeleton a0), .one (.int .i64 x6)] [.one (sl 1 (csI .i64) v9)] [[.lst 12]], .no, .call [.one (sl 1 (csI .i64) v9), .one (.int .i64 a1)] [.one (.bool v11)] [[.view]]] [1, 2, 6, 7, 14, 15, 21] [1, 5] ⟨tr, ⟨⟨⟨rfl, rfl, tr⟩, rfl, tr⟩, ok_impl_Skeleton_chain K a0 x6 v9 e10⟩, tr, ⟨⟨rfl, rfl, tr⟩, ok_slices_Contains_int64_int64 K v9 a1 v11 e12⟩, tr⟩ ?_
      refine thenQ_normal ?_
      rcases ite2_cases h with ⟨b13, h⟩ | ⟨b13, h⟩
      · refine AW.cond_t rfl b13 ?_
        obtain ⟨c14, h⟩ := chk_some h
        refine AW.rA ⟨[(1, (vc (.int .i64 a1))), (2, (vp 1 0)), (6, (.v (.one (.lst 14 (x7 ++ ([x6])).length 1 (gl (csI .i64) (x7 ++ ([x6]))))))), (14, (vc (.int .i64 (a0.Bones.length : Int)))), (15, (vc (.int .i64 x6)))], [(1, (.box [(.c (sl 4 cs_Bone a0.Bones))])), (14, (.lst (x7 ++ ([x6])).length 1 (gl (csI .i64) (x7 ++ ([x6])))))]⟩ (T2 ((([x6]).length = 1 ∧ (((.int .i64 x6) : C) = (.int .i64 x6) ∧ Tt) ∧ Tt) ∧ ((x7 ++ ([x6])).length = x7.length + ([x6]).length ∧ AppOb (x7.length) (([x6]).length) 1 (gl (csI .i64) x7) (gl (csI .i64) ([x6])) (gl (csI .i64) (x7 ++ ([x6]))) ∧ (∀ i j, i < ([x6]).length → j < 1 → scalarC (gl (csI .i64) ([x6]) i j)) ∧ (x7.length + ([x6]).length) * 8 ≤ 140737488355328) ∧ Tt ∧ Tt)) [.no, .no, .obj 13 ([x6]).length (gl (csI .i64) ([x6])), .objK 14 (x7 ++ ([x6])).length (gl (csI .i64) (x7 ++ ([x6])))] [1, 2, 6, 14, 15] [1, 14] ⟨tr, tr, ⟨rfl, ⟨⟨rfl, tr⟩, tr⟩⟩, ⟨List.length_append, gl_append, gl_scalar scI _, c14⟩, tr, tr⟩ ?_
        refine blockQ_normal ?_
        refine thenQ_normal ?_
        refine AW.rA ⟨[(1, (vc (.int .i64 a1))), (2, (vp 1 0)), (6, (.v (.one (.lst 14 (x7 ++ ([x6])).length 1 (gl (csI .i64) (x7 ++ ([x6]))))))), (14, (vc (.int .i64 (a0.Bones.length : Int)))), (15, (vc (.int .i64 (IntKind.i64.wrap (x6 + (1 : Int))))))], [(1, (.box [(.c (sl 4 cs_Bone a0.Bones))])), (14, (.lst (x7 ++ ([x6])).length 1 (gl (csI .i64) (x7 ++ ([x6])))))]⟩ (T2 Tt) [] [1, 2, 6, 14, 15] [1, 14] ⟨tr, tr, tr⟩ ?_
        exact loopQ_normal (k, (IntKind.i64.wrap (x6 + (1 : Int))), (x7 ++ ([x6]))) h (Nat.lt_succ_self k) (Sub.trans (Sub.swap 5 14 _ (by kernel_rfl) (by kernel_rfl)) (Sub.keep [1, 2, 6, 14, 15] [1, 5] (by kernel_rfl) (by kernel_rfl)))
      · refine AW.cond_f rfl b13 ?_
        refine AW.skip ?_
        refine blockQ_normal ?_
        refine thenQ_normal ?_
        refine AW.rA ⟨[(1, (vc (.int .i64 a1))), (2, (vp 1 0)), (6, (.v (.one (.lst 5 x7.length 1 (gl (csI .i64) x7))))), (14, (vc (.int .i64 (a0.Bones.length : Int)))), (15, (vc (.int .i64 (IntKind.i64.wrap (x6 + (1 : Int))))))], [(1, (.box [(.c (sl 4 cs_Bone a0.Bones))])), (5, (.lst x7.length 1 (gl (csI .i64) x7)))]⟩ (T2 Tt) [] [1, 2, 6, 14, 15] [1, 5] ⟨tr, tr, tr⟩ ?_
        exact loopQ_normal (k, (IntKind.i64.wrap (x6 + (1 : Int))), x7) h (Nat.lt_succ_self k) (Sub.keep [1, 2, 6, 14, 15] [1, 5] (by kernel_rfl) (by kernel_rfl))
    · refine AW.cond_f rfl b8 ?_
      refine AW.exit ?_
      refine thenQ_exit ?_
      refine loopQ_exit ?_
      refine blockQ_exit ?_
      refine thenQ_normal ?_
      refine AW.seq (AW.rA ⟨[(4, (.v (.one (.lst 5 x7.length 1 (gl (csI .i64) x7))))), (5, (vc (.bool true)))], [(5, (.lst x7.length 1 (gl (csI .i64) x7)))]⟩ (Tt ∧ T2 Tt) [] [4, 5] [5] ⟨tr, tr, tr, tr⟩ (thenQ_normal ?_))
      refine AW.ret ?_
      replace h := some_eq h
      subst h
      exact ⟨.inr rfl, retOK_of [(.one (.lst 5 x7.length 1 (gl (csI .i64) x7))), (.one (.c (.bool true)))] (by kernel_rfl) ⟨rfl, ⟨rfl, tr⟩, tr⟩ (of_decide_eq_true (by kernel_rfl))⟩

end
end Go.Fw
