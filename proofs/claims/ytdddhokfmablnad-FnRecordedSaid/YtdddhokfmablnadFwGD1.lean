/- Functions of the program: what each computes, and that it computes just that. -/
import Derived.Test.YtdddhokfmablnadFwTy
import Derived.Test.YtdddhokfmablnadFwH
import Derived.Test.YtdddhokfmablnadFwV
import Derived.Test.YtdddhokfmablnadFwMK
import Derived.Test.YtdddhokfmablnadProg
import Derived.KernelRfl
namespace Go.Fw
open Go Go.Proofs
noncomputable section
set_option maxRecDepth 10000

/-! laws.r8Long -/
def laws_r8Long (_K : Nat) (a0 : (List Int)) (a1 : (List Int)) : Option (Bool) :=
  (ite2 ((decide ((a0.length : Int) > (48 : Int)))) (some true) (some (decide ((a1.length : Int) > (48 : Int))))).bind fun j2 => some j2

theorem ok_laws_r8Long (K : Nat) (a0 : (List Int)) (a1 : (List Int)) (o : (Bool)) (h : laws_r8Long K a0 a1 = some o) : CallOK Try.prog 4 [.one (sl 1 (csI .u8) a0), .one (sl 1 (csI .u8) a1)] [.one (.bool o)] := by
  refine callOK_of_AW Try.func4 rfl (by kernel_rfl) (Nat.le_of_ble_eq_true (by kernel_rfl)) ?_
  intro w0
  unfold laws_r8Long at h
  refine AW.seq (AW.rA ⟨[(0, (vc (sl 1 (csI .u8) a0))), (1, (vc (sl 1 (csI .u8) a1)))], []⟩ (Tt ∧ Tt) [] [0, 1] [] ⟨tr, tr⟩ (thenQ_normal ?_))
  refine AW.seq ?_
  obtain ⟨j2, e3, h⟩ := bind_some h
  refine AW.join1 (s2 := ⟨[(4, (vc (.bool j2)))], []⟩) ?_ ?_
  · rcases ite2_cases e3 with ⟨b1, e3⟩ | ⟨b1, e3⟩
    · replace e3 := some_eq e3
      subst e3
      exact AW.rA ⟨[(4, (vc (.bool true)))], []⟩ (Tt ∧ T2 ((Tt ∧ (decide ((a0.length : Int) > (48 : Int))) = true) ∧ Tt ∧ T4 Tt)) [.no, .no, .no, .dec true] [4] [] ⟨tr, tr, tr, ⟨tr, b1⟩, tr, tr, tr, tr, tr, tr⟩ ⟨rfl, rfl⟩
    · replace e3 := some_eq e3
      subst e3
      exact AW.rA ⟨[(4, (vc (.bool (decide ((a1.length : Int) > (48 : Int))))))], []⟩ (Tt ∧ T2 ((Tt ∧ (decide ((a0.length : Int) > (48 : Int))) = false) ∧ Tt ∧ T4 Tt)) [.no, .no, .no, .dec false] [4] [] ⟨tr, tr, tr, ⟨tr, b1⟩, tr, tr, tr, tr, tr, tr⟩ ⟨rfl, rfl⟩
  refine thenQ_normal ?_
  refine AW.ret ?_
  replace h := some_eq h
  subst h
  exact ⟨.inr rfl, retOK_of [(.one (.c (.bool j2)))] (by kernel_rfl) ⟨⟨rfl, tr⟩, tr⟩ (of_decide_eq_true (by kernel_rfl))⟩

/-! spec.l00From -/
theorem mk_spec_l00From : MkOK Try.prog 14 66 [(.i64, 0), (.u64, 0)] := by
  refine mkOK_of Try.func14 rfl (by kernel_rfl) fun w ad n cap => ?_
  refine wp_seq (wp_region_lit (wpList_val (x := (.pointer none)) (w' := w) rfl (by kernel_rfl) (wpList_nil ?_)))
  refine wp_seq (wp_region_lit (wpList_val (x := (.slice ad n cap)) (w' := w) rfl (by kernel_rfl) (wpList_val (x := (.agg #[(.slice ad n cap), .int .i64 0, .int .u64 0])) (w' := w) rfl (by kernel_rfl) (wpList_val (x := (.pointer (some ⟨w.heap.size, 0, none⟩))) (w' := (w.alloc (.cells #[(.slice ad n cap), .int .i64 0, .int .u64 0] 66))) rfl (by kernel_rfl) (wpList_val (x := (.pointer (some ⟨w.heap.size, 0, none⟩))) (w' := (w.alloc (.cells #[(.slice ad n cap), .int .i64 0, .int .u64 0] 66))) rfl (by kernel_rfl) (wpList_nil ?_))))))
  exact wp_ret ⟨rfl, (.pointer (some ⟨w.heap.size, 0, none⟩)), (by kernel_rfl), _, rfl, rfl, rfl⟩



/-! (*spec.l00Src).next -/
def spec_l00Src_next (_K : Nat) (a0 : l00Src) : Option (Int × Int × Int) :=
  ite2 ((decide (a0.at_ < (a0.code.length : Int)))) (chk (0 ≤ a0.at_ ∧ a0.at_ < (a0.code.length : Int)) (ite2 ((decide ((IntKind.i64.wrap (a0.at_ + (1 : Int))) ≤ (a0.code.length : Int)))) (some ((IntKind.i64.wrap (a0.code.getD a0.at_.toNat default)), (IntKind.i64.wrap (a0.at_ + (1 : Int))), (IntKind.u64.wrap ((IntKind.u64.wrap ((IntKind.u64.wrap (a0.seed * (6364136223846793005 : Int))) + (IntKind.u64.wrap (IntKind.i64.wrap (a0.code.getD a0.at_.toNat default))))) + (1442695040888963407 : Int))))) (chk (0 ≤ (40 : Int)) (some ((IntKind.i64.wrap (bits .and .u64 ((IntKind.u64.wrap ((IntKind.u64.wrap ((IntKind.u64.wrap (a0.seed * (6364136223846793005 : Int))) + (IntKind.u64.wrap (IntKind.i64.wrap (a0.code.getD a0.at_.toNat default))))) + (1442695040888963407 : Int))).fdiv (2 ^ (min (40 : Int).toNat (IntKind.bits .u64)))) (255 : Int))), (IntKind.i64.wrap (a0.at_ + (1 : Int))), (IntKind.u64.wrap ((IntKind.u64.wrap ((IntKind.u64.wrap (a0.seed * (6364136223846793005 : Int))) + (IntKind.u64.wrap (IntKind.i64.wrap (a0.code.getD a0.at_.toNat default))))) + (1442695040888963407 : Int)))))))) (ite2 ((decide ((IntKind.i64.wrap (a0.at_ + (1 : Int))) ≤ (a0.code.length : Int)))) (some ((0 : Int), (IntKind.i64.wrap (a0.at_ + (1 : Int))), (IntKind.u64.wrap ((IntKind.u64.wrap ((IntKind.u64.wrap (a0.seed * (6364136223846793005 : Int))) + (IntKind.u64.wrap (0 : Int)))) + (1442695040888963407 : Int))))) (chk (0 ≤ (40 : Int)) (some ((IntKind.i64.wrap (bits .and .u64 ((IntKind.u64.wrap ((IntKind.u64.wrap ((IntKind.u64.wrap (a0.seed * (6364136223846793005 : Int))) + (IntKind.u64.wrap (0 : Int)))) + (1442695040888963407 : Int))).fdiv (2 ^ (min (40 : Int).toNat (IntKind.bits .u64)))) (255 : Int))), (IntKind.i64.wrap (a0.at_ + (1 : Int))), (IntKind.u64.wrap ((IntKind.u64.wrap ((IntKind.u64.wrap (a0.seed * (6364136223846793005 : Int))) + (IntKind.u64.wrap (0 : Int)))) + (1442695040888963407 : Int)))))))

theorem ok_spec_l00Src_next (K : Nat) (a0 : l00Src) (o : (Int × Int × Int)) (h : spec_l00Src_next K a0 = some o) : MutOK Try.prog 45 [(.box 3 (fun j => [true, false, false].getD j true) (fun j => (cs_l00Src a0).getD j .nilptr) (fun j => [.nilptr, (.int .i64 o.2.1), (.int .u64 o.2.2)].getD j .nilptr))] [.one (.int .i64 o.1)] := by
  refine mutOK_of_AW 1 Try.func45 rfl (by kernel_rfl) (Nat.le_of_ble_eq_true (by kernel_rfl)) (by kernel_rfl) (by kernel_rfl) ?_
  intro w0 K0 v0 s0
  unfold spec_l00Src_next at h
  refine AW.weak (s' := ⟨[(0, (vp 0 0))], [(0, (.box [(.fx 0 0 (sl 1 (csI .u8) a0.code)), (.c (.int .i64 a0.at_)), (.c (.int .u64 a0.seed))]))]⟩) (subUnfx 0 [1, 2] (by kernel_rfl)) ?_
  refine AW.seq (AW.rA ⟨[(0, (vp 0 0))], [(0, (.box [(.fx 0 0 (sl 1 (csI .u8) a0.code)), (.c (.int .i64 a0.at_)), (.c (.int .u64 a0.seed))]))]⟩ (Tt ∧ Tt) [] [0] [0] ⟨tr, tr⟩ (thenQ_normal ?_))
  refine AW.seq (AW.rA ⟨[(0, (vp 0 0)), (3, (vc (.int .i64 (0 : Int))))], [(0, (.box [(.fx 0 0 (sl 1 (csI .u8) a0.code)), (.c (.int .i64 a0.at_)), (.c (.int .u64 a0.seed))]))]⟩ (Tt ∧ Tt) [] [0, 3] [0] ⟨tr, tr⟩ (thenQ_normal ?_))
  refine AW.seq ?_
  refine AW.seq (AW.dA ⟨[(0, (vp 0 0)), (3, (vc (.int .i64 (0 : Int)))), (13, (vc (.bool (decide (a0.at_ < (a0.code.length : Int))))))], [(0, (.box [(.fx 0 0 (sl 1 (csI .u8) a0.code)), (.c (.int .i64 a0.at_)), (.c (.int .u64 a0.seed))]))]⟩ ((T2 (T4 (T4 Tt))) ∧ (Tt)) 10 [] [0, 3, 13] [0] ⟨⟨tr, tr, tr, tr, tr, tr, tr, tr, tr, tr, tr⟩, tr⟩ (thenQ_normal ?_))
  rcases ite2_cases h with ⟨b1, h⟩ | ⟨b1, h⟩
  · refine AW.cond_t rfl b1 ?_
    obtain ⟨c2, h⟩ := chk_some h
    refine AW.dA ⟨[(0, (vp 0 0)), (3, (vc (.int .i64 (IntKind.i64.wrap (a0.code.getD a0.at_.toNat default)))))], [(0, (.box [(.fx 0 0 (sl 1 (csI .u8) a0.code)), (.c (.int .i64 a0.at_)), (.c (.int .u64 a0.seed))]))]⟩ ((T4 (T4 ((0 ≤ a0.at_ ∧ a0.at_ < (a0.code.length : Int)) ∧ Tt ∧ T2 Tt))) ∧ (Tt)) 12 [] [0, 3] [0] ⟨⟨tr, tr, tr, tr, tr, tr, tr, tr, c2, tr, tr, tr, tr⟩, tr⟩ ?_
    refine thenQ_normal ?_
    refine AW.seq (AW.rA ⟨[(0, (vp 0 0)), (3, (vc (.int .i64 (IntKind.i64.wrap (a0.code.getD a0.at_.toNat default)))))], [(0, (.box [(.fx 0 0 (sl 1 (csI .u8) a0.code)), (.c (.int .i64 (IntKind.i64.wrap (a0.at_ + (1 : Int))))), (.c (.int .u64 a0.seed))]))]⟩ (T4 (T4 Tt)) [] [0, 3] [0] ⟨tr, tr, tr, tr, tr, tr, tr, tr, tr⟩ (thenQ_normal ?_))
    refine AW.seq (AW.rA ⟨[(0, (vp 0 0)), (3, (vc (.int .i64 (IntKind.i64.wrap (a0.code.getD a0.at_.toNat default)))))], [(0, (.box [(.fx 0 0 (sl 1 (csI .u8) a0.code)), (.c (.int .i64 (IntKind.i64.wrap (a0.at_ + (1 : Int))))), (.c (.int .u64 (IntKind.u64.wrap ((IntKind.u64.wrap ((IntKind.u64.wrap (a0.seed * (6364136223846793005 : Int))) + (IntKind.u64.wrap (IntKind.i64.wrap (a0.code.getD a0.at_.toNat default))))) + (1442695040888963407 : Int)))))]))]⟩ (Tt ∧ T4 (T4 (T4 Tt))) [] [0, 3] [0] ⟨tr, tr, tr, tr, tr, tr, tr, tr, tr, tr, tr, tr, tr, tr⟩ (thenQ_normal ?_))
    refine AW.seq ?_
    refine AW.seq (AW.dA ⟨[(0, (vp 0 0)), (3, (vc (.int .i64 (IntKind.i64.wrap (a0.code.getD a0.at_.toNat default))))), (53, (vc (.bool (decide ((IntKind.i64.wrap (a0.at_ + (1 : Int))) ≤ (a0.code.length : Int))))))], [(0, (.box [(.fx 0 0 (sl 1 (csI .u8) a0.code)), (.c (.int .i64 (IntKind.i64.wrap (a0.at_ + (1 : Int))))), (.c (.int .u64 (IntKind.u64.wrap ((IntKind.u64.wrap ((IntKind.u64.wrap (a0.seed * (6364136223846793005 : Int))) + (IntKind.u64.wrap (IntKind.i64.wrap (a0.code.getD a0.at_.toNat default))))) + (1442695040888963407 : Int)))))]))]⟩ ((T2 (T4 (T4 Tt))) ∧ (Tt)) 10 [] [0, 3, 53] [0] ⟨⟨tr, tr, tr, tr, tr, tr, tr, tr, tr, tr, tr⟩, tr⟩ (thenQ_normal ?_))
    rcases ite2_cases h with ⟨b3, h⟩ | ⟨b3, h⟩
    · refine AW.cond_t rfl b3 ?_
      refine AW.seq (AW.rA ⟨[(0, (vp 0 0)), (2, (vc (.int .i64 (IntKind.i64.wrap (a0.code.getD a0.at_.toNat default)))))], [(0, (.box [(.fx 0 0 (sl 1 (csI .u8) a0.code)), (.c (.int .i64 (IntKind.i64.wrap (a0.at_ + (1 : Int))))), (.c (.int .u64 (IntKind.u64.wrap ((IntKind.u64.wrap ((IntKind.u64.wrap (a0.seed * (6364136223846793005 : Int))) + (IntKind.u64.wrap (IntKind.i64.wrap (a0.code.getD a0.at_.toNat default))))) + (1442695040888963407 : Int)))))]))]⟩ (T2 Tt) [] [0, 2] [0] ⟨tr, tr, tr⟩ (thenQ_normal ?_))
      refine AW.ret ?_
      refine thenQ_ret ?_
      replace h := some_eq h
      subst h
      exact ⟨.inr rfl, retOK_of [(.one (.c (.int .i64 (IntKind.i64.wrap (a0.code.getD a0.at_.toNat default)))))] (by kernel_rfl) ⟨⟨rfl, tr⟩, tr⟩ (of_decide_eq_true (by kernel_rfl)), by kernel_rfl, ⟨⟨rfl, ⟨⟨rfl, rfl⟩, ⟨rfl, rfl⟩, ⟨rfl, rfl⟩, tr⟩⟩, tr⟩⟩
    · refine AW.cond_f rfl b3 ?_
      refine AW.skip ?_
      refine thenQ_normal ?_
      refine AW.seq ?_
      obtain ⟨c4, h⟩ := chk_some h
      refine AW.rA ⟨[(0, (vp 0 0)), (2, (vc (.int .i64 (IntKind.i64.wrap (bits .and .u64 ((IntKind.u64.wrap ((IntKind.u64.wrap ((IntKind.u64.wrap (a0.seed * (6364136223846793005 : Int))) + (IntKind.u64.wrap (IntKind.i64.wrap (a0.code.getD a0.at_.toNat default))))) + (1442695040888963407 : Int))).fdiv (2 ^ (min (40 : Int).toNat (IntKind.bits .u64)))) (255 : Int))))))], [(0, (.box [(.fx 0 0 (sl 1 (csI .u8) a0.code)), (.c (.int .i64 (IntKind.i64.wrap (a0.at_ + (1 : Int))))), (.c (.int .u64 (IntKind.u64.wrap ((IntKind.u64.wrap ((IntKind.u64.wrap (a0.seed * (6364136223846793005 : Int))) + (IntKind.u64.wrap (IntKind.i64.wrap (a0.code.getD a0.at_.toNat default))))) + (1442695040888963407 : Int)))))]))]⟩ (T4 ((0 ≤ (40 : Int)) ∧ Tt ∧ T2 Tt)) [] [0, 2] [0] ⟨tr, tr, tr, tr, c4, tr, tr, tr, tr⟩ ?_
      refine thenQ_normal ?_
      refine AW.ret ?_
      replace h := some_eq h
      subst h
      exact ⟨.inr rfl, retOK_of [(.one (.c (.int .i64 (IntKind.i64.wrap (bits .and .u64 ((IntKind.u64.wrap ((IntKind.u64.wrap ((IntKind.u64.wrap (a0.seed * (6364136223846793005 : Int))) + (IntKind.u64.wrap (IntKind.i64.wrap (a0.code.getD a0.at_.toNat default))))) + (1442695040888963407 : Int))).fdiv (2 ^ (min (40 : Int).toNat (IntKind.bits .u64)))) (255 : Int))))))] (by kernel_rfl) ⟨⟨rfl, tr⟩, tr⟩ (of_decide_eq_true (by kernel_rfl)), by kernel_rfl, ⟨⟨rfl, ⟨⟨rfl, rfl⟩, ⟨rfl, rfl⟩, ⟨rfl, rfl⟩, tr⟩⟩, tr⟩⟩
  · refine AW.cond_f rfl b1 ?_
    refine AW.skip ?_
    refine thenQ_normal ?_
    refine AW.seq (AW.rA ⟨[(0, (vp 0 0)), (3, (vc (.int .i64 (0 : Int))))], [(0, (.box [(.fx 0 0 (sl 1 (csI .u8) a0.code)), (.c (.int .i64 (IntKind.i64.wrap (a0.at_ + (1 : Int))))), (.c (.int .u64 a0.seed))]))]⟩ (T4 (T4 Tt)) [] [0, 3] [0] ⟨tr, tr, tr, tr, tr, tr, tr, tr, tr⟩ (thenQ_normal ?_))
    refine AW.seq (AW.rA ⟨[(0, (vp 0 0)), (3, (vc (.int .i64 (0 : Int))))], [(0, (.box [(.fx 0 0 (sl 1 (csI .u8) a0.code)), (.c (.int .i64 (IntKind.i64.wrap (a0.at_ + (1 : Int))))), (.c (.int .u64 (IntKind.u64.wrap ((IntKind.u64.wrap ((IntKind.u64.wrap (a0.seed * (6364136223846793005 : Int))) + (IntKind.u64.wrap (0 : Int)))) + (1442695040888963407 : Int)))))]))]⟩ (Tt ∧ T4 (T4 (T4 Tt))) [] [0, 3] [0] ⟨tr, tr, tr, tr, tr, tr, tr, tr, tr, tr, tr, tr, tr, tr⟩ (thenQ_normal ?_))
    refine AW.seq ?_
    refine AW.seq (AW.dA ⟨[(0, (vp 0 0)), (3, (vc (.int .i64 (0 : Int)))), (53, (vc (.bool (decide ((IntKind.i64.wrap (a0.at_ + (1 : Int))) ≤ (a0.code.length : Int))))))], [(0, (.box [(.fx 0 0 (sl 1 (csI .u8) a0.code)), (.c (.int .i64 (IntKind.i64.wrap (a0.at_ + (1 : Int))))), (.c (.int .u64 (IntKind.u64.wrap ((IntKind.u64.wrap ((IntKind.u64.wrap (a0.seed * (6364136223846793005 : Int))) + (IntKind.u64.wrap (0 : Int)))) + (1442695040888963407 : Int)))))]))]⟩ ((T2 (T4 (T4 Tt))) ∧ (Tt)) 10 [] [0, 3, 53] [0] ⟨⟨tr, tr, tr, tr, tr, tr, tr, tr, tr, tr, tr⟩, tr⟩ (thenQ_normal ?_))
    rcases ite2_cases h with ⟨b5, h⟩ | ⟨b5, h⟩
    · refine AW.cond_t rfl b5 ?_
      refine AW.seq (AW.rA ⟨[(0, (vp 0 0)), (2, (vc (.int .i64 (0 : Int))))], [(0, (.box [(.fx 0 0 (sl 1 (csI .u8) a0.code)), (.c (.int .i64 (IntKind.i64.wrap (a0.at_ + (1 : Int))))), (.c (.int .u64 (IntKind.u64.wrap ((IntKind.u64.wrap ((IntKind.u64.wrap (a0.seed * (6364136223846793005 : Int))) + (IntKind.u64.wrap (0 : Int)))) + (1442695040888963407 : Int)))))]))]⟩ (T2 Tt) [] [0, 2] [0] ⟨tr, tr, tr⟩ (thenQ_normal ?_))
      refine AW.ret ?_
      refine thenQ_ret ?_
      replace h := some_eq h
      subst h
      exact ⟨.inr rfl, retOK_of [(.one (.c (.int .i64 (0 : Int))))] (by kernel_rfl) ⟨⟨rfl, tr⟩, tr⟩ (of_decide_eq_true (by kernel_rfl)), by kernel_rfl, ⟨⟨rfl, ⟨⟨rfl, rfl⟩, ⟨rfl, rfl⟩, ⟨rfl, rfl⟩, tr⟩⟩, tr⟩⟩
    · refine AW.cond_f rfl b5 ?_
      refine AW.skip ?_
      refine thenQ_normal ?_
      refine AW.seq ?_
      obtain ⟨c6, h⟩ := chk_some h
      refine AW.rA ⟨[(0, (vp 0 0)), (2, (vc (.int .i64 (IntKind.i64.wrap (bits .and .u64 ((IntKind.u64.wrap ((IntKind.u64.wrap ((IntKind.u64.wrap (a0.seed * (6364136223846793005 : Int))) + (IntKind.u64.wrap (0 : Int)))) + (1442695040888963407 : Int))).fdiv (2 ^ (min (40 : Int).toNat (IntKind.bits .u64)))) (255 : Int))))))], [(0, (.box [(.fx 0 0 (sl 1 (csI .u8) a0.code)), (.c (.int .i64 (IntKind.i64.wrap (a0.at_ + (1 : Int))))), (.c (.int .u64 (IntKind.u64.wrap ((IntKind.u64.wrap ((IntKind.u64.wrap (a0.seed * (6364136223846793005 : Int))) + (IntKind.u64.wrap (0 : Int)))) + (1442695040888963407 : Int)))))]))]⟩ (T4 ((0 ≤ (40 : Int)) ∧ Tt ∧ T2 Tt)) [] [0, 2] [0] ⟨tr, tr, tr, tr, c6, tr, tr, tr, tr⟩ ?_
      refine thenQ_normal ?_
      refine AW.ret ?_
      replace h := some_eq h
      subst h
      exact ⟨.inr rfl, retOK_of [(.one (.c (.int .i64 (IntKind.i64.wrap (bits .and .u64 ((IntKind.u64.wrap ((IntKind.u64.wrap ((IntKind.u64.wrap (a0.seed * (6364136223846793005 : Int))) + (IntKind.u64.wrap (0 : Int)))) + (1442695040888963407 : Int))).fdiv (2 ^ (min (40 : Int).toNat (IntKind.bits .u64)))) (255 : Int))))))] (by kernel_rfl) ⟨⟨rfl, tr⟩, tr⟩ (of_decide_eq_true (by kernel_rfl)), by kernel_rfl, ⟨⟨rfl, ⟨⟨rfl, rfl⟩, ⟨rfl, rfl⟩, ⟨rfl, rfl⟩, tr⟩⟩, tr⟩⟩

/-! (*spec.l00Src).pick -/
def spec_l00Src_pick (K : Nat) (a0 : l00Src) (a1 : Int) : Option (Int × Int × Int) :=
  ite2 ((decide (a1 ≤ (1 : Int)))) (some ((0 : Int), a0.at_, a0.seed)) ((spec_l00Src_next K a0).bind fun v2 => ite2 ((decide (a1 > (200 : Int)))) ((spec_l00Src_next K (l00Src.mk a0.code v2.2.1 v2.2.2)).bind fun v5 => chk (a1 ≠ 0) (some (((IntKind.i64.wrap ((IntKind.i64.wrap (v2.1 * (256 : Int))) + v5.1)).tmod a1), v5.2.1, v5.2.2))) (chk (a1 ≠ 0) (some ((v2.1.tmod a1), v2.2.1, v2.2.2))))

theorem ok_spec_l00Src_pick (K : Nat) (a0 : l00Src) (a1 : Int) (o : (Int × Int × Int)) (h : spec_l00Src_pick K a0 a1 = some o) : MutOK Try.prog 28 [(.box 3 (fun j => [true, false, false].getD j true) (fun j => (cs_l00Src a0).getD j .nilptr) (fun j => [.nilptr, (.int .i64 o.2.1), (.int .u64 o.2.2)].getD j .nilptr)), (.one (.ro (.int .i64 a1)))] [.one (.int .i64 o.1)] := by
  refine mutOK_of_AW 1 Try.func28 rfl (by kernel_rfl) (Nat.le_of_ble_eq_true (by kernel_rfl)) (by kernel_rfl) (by kernel_rfl) ?_
  intro w0 K0 v0 s0
  unfold spec_l00Src_pick at h
  refine AW.weak (s' := ⟨[(0, (vp 0 0)), (1, (vc (.int .i64 a1)))], [(0, (.box [(.fx 0 0 (sl 1 (csI .u8) a0.code)), (.c (.int .i64 a0.at_)), (.c (.int .u64 a0.seed))]))]⟩) (subUnfx 0 [1, 2] (by kernel_rfl)) ?_
  refine AW.seq (AW.rA ⟨[(0, (vp 0 0)), (1, (vc (.int .i64 a1)))], [(0, (.box [(.fx 0 0 (sl 1 (csI .u8) a0.code)), (.c (.int .i64 a0.at_)), (.c (.int .u64 a0.seed))]))]⟩ (Tt ∧ Tt) [] [0, 1] [0] ⟨tr, tr⟩ (thenQ_normal ?_))
  refine AW.seq ?_
  refine AW.seq (AW.rA ⟨[(0, (vp 0 0)), (1, (vc (.int .i64 a1))), (7, (vc (.bool (decide (a1 ≤ (1 : Int))))))], [(0, (.box [(.fx 0 0 (sl 1 (csI .u8) a0.code)), (.c (.int .i64 a0.at_)), (.c (.int .u64 a0.seed))]))]⟩ (T2 Tt) [] [0, 1, 7] [0] ⟨tr, tr, tr⟩ (thenQ_normal ?_))
  rcases ite2_cases h with ⟨b1, h⟩ | ⟨b1, h⟩
  · refine AW.cond_t rfl b1 ?_
    refine AW.seq (AW.rA ⟨[(0, (vp 0 0)), (1, (vc (.int .i64 a1))), (4, (vc (.int .i64 (0 : Int))))], [(0, (.box [(.fx 0 0 (sl 1 (csI .u8) a0.code)), (.c (.int .i64 a0.at_)), (.c (.int .u64 a0.seed))]))]⟩ (Tt ∧ Tt) [] [0, 1, 4] [0] ⟨tr, tr⟩ (thenQ_normal ?_))
    refine AW.ret ?_
    refine thenQ_ret ?_
    replace h := some_eq h
    subst h
    exact ⟨.inr rfl, retOK_of [(.one (.c (.int .i64 (0 : Int))))] (by kernel_rfl) ⟨⟨rfl, tr⟩, tr⟩ (of_decide_eq_true (by kernel_rfl)), by kernel_rfl, ⟨⟨rfl, ⟨⟨rfl, rfl⟩, ⟨rfl, rfl⟩, ⟨rfl, rfl⟩, tr⟩⟩, tr, tr⟩⟩
  · refine AW.cond_f rfl b1 ?_
    refine AW.skip ?_
    refine thenQ_normal ?_
    refine AW.seq ?_
    obtain ⟨v2, e3, h⟩ := bind_some h
    refine AW.rA ⟨[(0, (vp 0 0)), (1, (vc (.int .i64 a1))), (5, (vc (.int .i64 v2.1)))], [(0, (.box [(.fx 0 0 (sl 1 (csI .u8) a0.code)), (.c (.int .i64 v2.2.1)), (.c (.int .u64 v2.2.2))]))]⟩ (Tt ∧ ((((Eqc (sl 1 (csI .u8) a0.code)) ∧ (Eqc (.int .i64 a0.at_)) ∧ (Eqc (.int .u64 a0.seed)) ∧ Tt) ∧ Tt) ∧ MutOK Try.prog 45 [(.box 3 (fun j => [true, false, false].getD j true) (fun j => (cs_l00Src a0).getD j .nilptr) (fun j => [.nilptr, (.int .i64 v2.2.1), (.int .u64 v2.2.2)].getD j .nilptr))] [.one (.int .i64 v2.1)]) ∧ Tt ∧ Tt) [.no, .callM [(.box 3 (fun j => [true, false, false].getD j true) (fun j => (cs_l00Src a0).getD j .nilptr) (fun j => [.nilptr, (.int .i64 v2.2.1), (.int .u64 v2.2.2)].getD j .nilptr))] [.one (.int .i64 v2.1)] [[.view]] none] [0, 1, 5] [0] ⟨tr, ⟨⟨⟨rfl, rfl, rfl, tr⟩, tr⟩, ok_spec_l00Src_next K a0 v2 e3⟩, tr, tr⟩ ?_
    refine thenQ_normal ?_
    refine AW.seq ?_
    refine AW.seq (AW.rA ⟨[(0, (vp 0 0)), (1, (vc (.int .i64 a1))), (5, (vc (.int .i64 v2.1))), (11, (vc (.bool (decide (a1 > (200 : Int))))))], [(0, (.box [(.fx 0 0 (sl 1 (csI .u8) a0.code)), (.c (.int .i64 v2.2.1)), (.c (.int .u64 v2.2.2))]))]⟩ (T2 Tt) [] [0, 1, 5, 11] [0] ⟨tr, tr, tr⟩ (thenQ_normal ?_))
    rcases ite2_cases h with ⟨b4, h⟩ | ⟨b4, h⟩
    · refine AW.cond_t rfl b4 ?_
      obtain ⟨v5, e6, h⟩ := bind_some h
      refine AW.rA ⟨[(0, (vp 0 0)), (1, (vc (.int .i64 a1))), (5, (vc (.int .i64 (IntKind.i64.wrap ((IntKind.i64.wrap (v2.1 * (256 : Int))) + v5.1)))))], [(0, (.box [(.fx 0 0 (sl 1 (csI .u8) a0.code)), (.c (.int .i64 v5.2.1)), (.c (.int .u64 v5.2.2))]))]⟩ (Tt ∧ T2 (((((Eqc (sl 1 (csI .u8) a0.code)) ∧ (Eqc (.int .i64 v2.2.1)) ∧ (Eqc (.int .u64 v2.2.2)) ∧ Tt) ∧ Tt) ∧ MutOK Try.prog 45 [(.box 3 (fun j => [true, false, false].getD j true) (fun j => (cs_l00Src (l00Src.mk a0.code v2.2.1 v2.2.2)).getD j .nilptr) (fun j => [.nilptr, (.int .i64 v5.2.1), (.int .u64 v5.2.2)].getD j .nilptr))] [.one (.int .i64 v5.1)]) ∧ T2 Tt)) [.no, .no, .no, .callM [(.box 3 (fun j => [true, false, false].getD j true) (fun j => (cs_l00Src (l00Src.mk a0.code v2.2.1 v2.2.2)).getD j .nilptr) (fun j => [.nilptr, (.int .i64 v5.2.1), (.int .u64 v5.2.2)].getD j .nilptr))] [.one (.int .i64 v5.1)] [[.view]] none] [0, 1, 5] [0] ⟨tr, tr, tr, ⟨⟨⟨rfl, rfl, rfl, tr⟩, tr⟩, ok_spec_l00Src_next K (l00Src.mk a0.code v2.2.1 v2.2.2) v5 e6⟩, tr, tr, tr⟩ ?_
      refine thenQ_normal ?_
      refine AW.seq ?_
      obtain ⟨c7, h⟩ := chk_some h
      refine AW.rA ⟨[(0, (vp 0 0)), (1, (vc (.int .i64 a1))), (4, (vc (.int .i64 ((IntKind.i64.wrap ((IntKind.i64.wrap (v2.1 * (256 : Int))) + v5.1)).tmod a1))))], [(0, (.box [(.fx 0 0 (sl 1 (csI .u8) a0.code)), (.c (.int .i64 v5.2.1)), (.c (.int .u64 v5.2.2))]))]⟩ (T2 ((a1 ≠ 0) ∧ Tt ∧ Tt)) [] [0, 1, 4] [0] ⟨tr, tr, c7, tr, tr⟩ ?_
      refine thenQ_normal ?_
      refine AW.ret ?_
      replace h := some_eq h
      subst h
      exact ⟨.inr rfl, retOK_of [(.one (.c (.int .i64 ((IntKind.i64.wrap ((IntKind.i64.wrap (v2.1 * (256 : Int))) + v5.1)).tmod a1))))] (by kernel_rfl) ⟨⟨rfl, tr⟩, tr⟩ (of_decide_eq_true (by kernel_rfl)), by kernel_rfl, ⟨⟨rfl, ⟨⟨rfl, rfl⟩, ⟨rfl, rfl⟩, ⟨rfl, rfl⟩, tr⟩⟩, tr, tr⟩⟩
    · refine AW.cond_f rfl b4 ?_
      refine AW.skip ?_
      refine thenQ_normal ?_
      refine AW.seq ?_
      obtain ⟨c8, h⟩ := chk_some h
      refine AW.rA ⟨[(0, (vp 0 0)), (1, (vc (.int .i64 a1))), (4, (vc (.int .i64 (v2.1.tmod a1))))], [(0, (.box [(.fx 0 0 (sl 1 (csI .u8) a0.code)), (.c (.int .i64 v2.2.1)), (.c (.int .u64 v2.2.2))]))]⟩ (T2 ((a1 ≠ 0) ∧ Tt ∧ Tt)) [] [0, 1, 4] [0] ⟨tr, tr, c8, tr, tr⟩ ?_
      refine thenQ_normal ?_
      refine AW.ret ?_
      replace h := some_eq h
      subst h
      exact ⟨.inr rfl, retOK_of [(.one (.c (.int .i64 (v2.1.tmod a1))))] (by kernel_rfl) ⟨⟨rfl, tr⟩, tr⟩ (of_decide_eq_true (by kernel_rfl)), by kernel_rfl, ⟨⟨rfl, ⟨⟨rfl, rfl⟩, ⟨rfl, rfl⟩, ⟨rfl, rfl⟩, tr⟩⟩, tr, tr⟩⟩

/-! (*spec.l00Src).one -/
def spec_l00Src_one (K : Nat) (a0 : l00Src) (a1 : Int) : Option (Bool × Int × Int) :=
  (spec_l00Src_pick K a0 a1).bind fun v1 => some ((v1.1 == (0 : Int)), v1.2.1, v1.2.2)

theorem ok_spec_l00Src_one (K : Nat) (a0 : l00Src) (a1 : Int) (o : (Bool × Int × Int)) (h : spec_l00Src_one K a0 a1 = some o) : MutOK Try.prog 31 [(.box 3 (fun j => [true, false, false].getD j true) (fun j => (cs_l00Src a0).getD j .nilptr) (fun j => [.nilptr, (.int .i64 o.2.1), (.int .u64 o.2.2)].getD j .nilptr)), (.one (.ro (.int .i64 a1)))] [.one (.bool o.1)] := by
  refine mutOK_of_AW 1 Try.func31 rfl (by kernel_rfl) (Nat.le_of_ble_eq_true (by kernel_rfl)) (by kernel_rfl) (by kernel_rfl) ?_
  intro w0 K0 v0 s0
  unfold spec_l00Src_one at h
  refine AW.weak (s' := ⟨[(0, (vp 0 0)), (1, (vc (.int .i64 a1)))], [(0, (.box [(.fx 0 0 (sl 1 (csI .u8) a0.code)), (.c (.int .i64 a0.at_)), (.c (.int .u64 a0.seed))]))]⟩) (subUnfx 0 [1, 2] (by kernel_rfl)) ?_
  refine AW.seq (AW.rA ⟨[(0, (vp 0 0)), (1, (vc (.int .i64 a1)))], [(0, (.box [(.fx 0 0 (sl 1 (csI .u8) a0.code)), (.c (.int .i64 a0.at_)), (.c (.int .u64 a0.seed))]))]⟩ (Tt ∧ Tt) [] [0, 1] [0] ⟨tr, tr⟩ (thenQ_normal ?_))
  refine AW.seq ?_
  obtain ⟨v1, e2, h⟩ := bind_some h
  refine AW.rA ⟨[(0, (vp 0 0)), (1, (vc (.int .i64 a1))), (4, (vc (.bool (v1.1 == (0 : Int)))))], [(0, (.box [(.fx 0 0 (sl 1 (csI .u8) a0.code)), (.c (.int .i64 v1.2.1)), (.c (.int .u64 v1.2.2))]))]⟩ (T2 (((((Eqc (sl 1 (csI .u8) a0.code)) ∧ (Eqc (.int .i64 a0.at_)) ∧ (Eqc (.int .u64 a0.seed)) ∧ Tt) ∧ (Eqc (.int .i64 a1)) ∧ Tt) ∧ MutOK Try.prog 28 [(.box 3 (fun j => [true, false, false].getD j true) (fun j => (cs_l00Src a0).getD j .nilptr) (fun j => [.nilptr, (.int .i64 v1.2.1), (.int .u64 v1.2.2)].getD j .nilptr)), .one (.ro (.int .i64 a1))] [.one (.int .i64 v1.1)]) ∧ T2 Tt)) [.no, .no, .callM [(.box 3 (fun j => [true, false, false].getD j true) (fun j => (cs_l00Src a0).getD j .nilptr) (fun j => [.nilptr, (.int .i64 v1.2.1), (.int .u64 v1.2.2)].getD j .nilptr)), .one (.ro (.int .i64 a1))] [.one (.int .i64 v1.1)] [[.view]] none] [0, 1, 4] [0] ⟨tr, tr, ⟨⟨⟨rfl, rfl, rfl, tr⟩, rfl, tr⟩, ok_spec_l00Src_pick K a0 a1 v1 e2⟩, tr, tr, tr⟩ ?_
  refine thenQ_normal ?_
  refine AW.ret ?_
  replace h := some_eq h
  subst h
  exact ⟨.inr rfl, retOK_of [(.one (.c (.bool (v1.1 == (0 : Int)))))] (by kernel_rfl) ⟨⟨rfl, tr⟩, tr⟩ (of_decide_eq_true (by kernel_rfl)), by kernel_rfl, ⟨⟨rfl, ⟨⟨rfl, rfl⟩, ⟨rfl, rfl⟩, ⟨rfl, rfl⟩, tr⟩⟩, tr, tr⟩⟩

/-! spec.l01DrawSmall -/
def spec_l01DrawSmall (K : Nat) (a0 : l00Src) : Option (F32 × Int × Int) :=
  (spec_l00Src_pick K a0 (33 : Int)).bind fun v1 => some (((Fl.ofInt .f32 (IntKind.i64.wrap (v1.1 - (16 : Int)))).div (Fl.mk (k := .f32) 1082130432 (by decide))), v1.2.1, v1.2.2)

theorem ok_spec_l01DrawSmall (K : Nat) (a0 : l00Src) (o : (F32 × Int × Int)) (h : spec_l01DrawSmall K a0 = some o) : MutOK Try.prog 54 [(.box 3 (fun j => [true, false, false].getD j true) (fun j => (cs_l00Src a0).getD j .nilptr) (fun j => [.nilptr, (.int .i64 o.2.1), (.int .u64 o.2.2)].getD j .nilptr))] [.one (.flt .f32 o.1.bits)] := by
  refine mutOK_of_AW 1 Try.func54 rfl (by kernel_rfl) (Nat.le_of_ble_eq_true (by kernel_rfl)) (by kernel_rfl) (by kernel_rfl) ?_
  intro w0 K0 v0 s0
  unfold spec_l01DrawSmall at h
  refine AW.weak (s' := ⟨[(0, (vp 0 0))], [(0, (.box [(.fx 0 0 (sl 1 (csI .u8) a0.code)), (.c (.int .i64 a0.at_)), (.c (.int .u64 a0.seed))]))]⟩) (subUnfx 0 [1, 2] (by kernel_rfl)) ?_
  refine AW.seq (AW.rA ⟨[(0, (vp 0 0))], [(0, (.box [(.fx 0 0 (sl 1 (csI .u8) a0.code)), (.c (.int .i64 a0.at_)), (.c (.int .u64 a0.seed))]))]⟩ (Tt ∧ Tt) [] [0] [0] ⟨tr, tr⟩ (thenQ_normal ?_))
  refine AW.seq ?_
  obtain ⟨v1, e2, h⟩ := bind_some h
  refine AW.rA ⟨[(0, (vp 0 0)), (2, (vc (.flt .f32 ((Fl.ofInt .f32 (IntKind.i64.wrap (v1.1 - (16 : Int)))).div (Fl.mk (k := .f32) 1082130432 (by decide))).bits)))], [(0, (.box [(.fx 0 0 (sl 1 (csI .u8) a0.code)), (.c (.int .i64 v1.2.1)), (.c (.int .u64 v1.2.2))]))]⟩ (Tt ∧ ((((Eqc (sl 1 (csI .u8) a0.code)) ∧ (Eqc (.int .i64 a0.at_)) ∧ (Eqc (.int .u64 a0.seed)) ∧ Tt) ∧ (Eqc (.int .i64 (33 : Int))) ∧ Tt) ∧ MutOK Try.prog 28 [(.box 3 (fun j => [true, false, false].getD j true) (fun j => (cs_l00Src a0).getD j .nilptr) (fun j => [.nilptr, (.int .i64 v1.2.1), (.int .u64 v1.2.2)].getD j .nilptr)), .one (.ro (.int .i64 (33 : Int)))] [.one (.int .i64 v1.1)]) ∧ T4 Tt) [.no, .callM [(.box 3 (fun j => [true, false, false].getD j true) (fun j => (cs_l00Src a0).getD j .nilptr) (fun j => [.nilptr, (.int .i64 v1.2.1), (.int .u64 v1.2.2)].getD j .nilptr)), .one (.ro (.int .i64 (33 : Int)))] [.one (.int .i64 v1.1)] [[.view]] none] [0, 2] [0] ⟨tr, ⟨⟨⟨rfl, rfl, rfl, tr⟩, rfl, tr⟩, ok_spec_l00Src_pick K a0 (33 : Int) v1 e2⟩, tr, tr, tr, tr, tr⟩ ?_
  refine thenQ_normal ?_
  refine AW.ret ?_
  replace h := some_eq h
  subst h
  exact ⟨.inr rfl, retOK_of [(.one (.c (.flt .f32 ((Fl.ofInt .f32 (IntKind.i64.wrap (v1.1 - (16 : Int)))).div (Fl.mk (k := .f32) 1082130432 (by decide))).bits)))] (by kernel_rfl) ⟨⟨rfl, tr⟩, tr⟩ (of_decide_eq_true (by kernel_rfl)), by kernel_rfl, ⟨⟨rfl, ⟨⟨rfl, rfl⟩, ⟨rfl, rfl⟩, ⟨rfl, rfl⟩, tr⟩⟩, tr⟩⟩

/-! spec.l01DrawPlain -/
def spec_l01DrawPlain (K : Nat) (a0 : l00Src) : Option (F32 × Int × Int) :=
  (spec_l00Src_pick K a0 (129 : Int)).bind fun v1 => (spec_l00Src_one K (l00Src.mk a0.code v1.2.1 v1.2.2) (4 : Int)).bind fun v3 => ite2 (v3.1) (some (((Fl.ofInt .f32 (IntKind.i64.wrap (v1.1 - (64 : Int)))).div (Fl.mk (k := .f32) 1088421888 (by decide))), v3.2.1, v3.2.2)) (some (((Fl.ofInt .f32 (IntKind.i64.wrap (v1.1 - (64 : Int)))).div (Fl.mk (k := .f32) 1098907648 (by decide))), v3.2.1, v3.2.2))

theorem ok_spec_l01DrawPlain (K : Nat) (a0 : l00Src) (o : (F32 × Int × Int)) (h : spec_l01DrawPlain K a0 = some o) : MutOK Try.prog 49 [(.box 3 (fun j => [true, false, false].getD j true) (fun j => (cs_l00Src a0).getD j .nilptr) (fun j => [.nilptr, (.int .i64 o.2.1), (.int .u64 o.2.2)].getD j .nilptr))] [.one (.flt .f32 o.1.bits)] := by
  refine mutOK_of_AW 1 Try.func49 rfl (by kernel_rfl) (Nat.le_of_ble_eq_true (by kernel_rfl)) (by kernel_rfl) (by kernel_rfl) ?_
  intro w0 K0 v0 s0
  unfold spec_l01DrawPlain at h
  refine AW.weak (s' := ⟨[(0, (vp 0 0))], [(0, (.box [(.fx 0 0 (sl 1 (csI .u8) a0.code)), (.c (.int .i64 a0.at_)), (.c (.int .u64 a0.seed))]))]⟩) (subUnfx 0 [1, 2] (by kernel_rfl)) ?_
  refine AW.seq (AW.rA ⟨[(0, (vp 0 0))], [(0, (.box [(.fx 0 0 (sl 1 (csI .u8) a0.code)), (.c (.int .i64 a0.at_)), (.c (.int .u64 a0.seed))]))]⟩ (Tt ∧ Tt) [] [0] [0] ⟨tr, tr⟩ (thenQ_normal ?_))
  refine AW.seq ?_
  obtain ⟨v1, e2, h⟩ := bind_some h
  refine AW.rA ⟨[(0, (vp 0 0)), (3, (vc (.int .i64 (IntKind.i64.wrap (v1.1 - (64 : Int))))))], [(0, (.box [(.fx 0 0 (sl 1 (csI .u8) a0.code)), (.c (.int .i64 v1.2.1)), (.c (.int .u64 v1.2.2))]))]⟩ (Tt ∧ ((((Eqc (sl 1 (csI .u8) a0.code)) ∧ (Eqc (.int .i64 a0.at_)) ∧ (Eqc (.int .u64 a0.seed)) ∧ Tt) ∧ (Eqc (.int .i64 (129 : Int))) ∧ Tt) ∧ MutOK Try.prog 28 [(.box 3 (fun j => [true, false, false].getD j true) (fun j => (cs_l00Src a0).getD j .nilptr) (fun j => [.nilptr, (.int .i64 v1.2.1), (.int .u64 v1.2.2)].getD j .nilptr)), .one (.ro (.int .i64 (129 : Int)))] [.one (.int .i64 v1.1)]) ∧ T2 Tt) [.no, .callM [(.box 3 (fun j => [true, false, false].getD j true) (fun j => (cs_l00Src a0).getD j .nilptr) (fun j => [.nilptr, (.int .i64 v1.2.1), (.int .u64 v1.2.2)].getD j .nilptr)), .one (.ro (.int .i64 (129 : Int)))] [.one (.int .i64 v1.1)] [[.view]] none] [0, 3] [0] ⟨tr, ⟨⟨⟨rfl, rfl, rfl, tr⟩, rfl, tr⟩, ok_spec_l00Src_pick K a0 (129 : Int) v1 e2⟩, tr, tr, tr⟩ ?_
  refine thenQ_normal ?_
  refine AW.seq ?_
  refine AW.seq ?_
  obtain ⟨v3, e4, h⟩ := bind_some h
  refine AW.rA ⟨[(0, (vp 0 0)), (3, (vc (.int .i64 (IntKind.i64.wrap (v1.1 - (64 : Int)))))), (8, (vc (.bool v3.1)))], [(0, (.box [(.fx 0 0 (sl 1 (csI .u8) a0.code)), (.c (.int .i64 v3.2.1)), (.c (.int .u64 v3.2.2))]))]⟩ (Tt ∧ ((((Eqc (sl 1 (csI .u8) a0.code)) ∧ (Eqc (.int .i64 v1.2.1)) ∧ (Eqc (.int .u64 v1.2.2)) ∧ Tt) ∧ (Eqc (.int .i64 (4 : Int))) ∧ Tt) ∧ MutOK Try.prog 31 [(.box 3 (fun j => [true, false, false].getD j true) (fun j => (cs_l00Src (l00Src.mk a0.code v1.2.1 v1.2.2)).getD j .nilptr) (fun j => [.nilptr, (.int .i64 v3.2.1), (.int .u64 v3.2.2)].getD j .nilptr)), .one (.ro (.int .i64 (4 : Int)))] [.one (.bool v3.1)]) ∧ Tt) [.no, .callM [(.box 3 (fun j => [true, false, false].getD j true) (fun j => (cs_l00Src (l00Src.mk a0.code v1.2.1 v1.2.2)).getD j .nilptr) (fun j => [.nilptr, (.int .i64 v3.2.1), (.int .u64 v3.2.2)].getD j .nilptr)), .one (.ro (.int .i64 (4 : Int)))] [.one (.bool v3.1)] [[.view]] none] [0, 3, 8] [0] ⟨tr, ⟨⟨⟨rfl, rfl, rfl, tr⟩, rfl, tr⟩, ok_spec_l00Src_one K (l00Src.mk a0.code v1.2.1 v1.2.2) (4 : Int) v3 e4⟩, tr⟩ ?_
  refine thenQ_normal ?_
  rcases ite2_cases h with ⟨b5, h⟩ | ⟨b5, h⟩
  · refine AW.cond_t rfl b5 ?_
    refine AW.seq (AW.rA ⟨[(0, (vp 0 0)), (2, (vc (.flt .f32 ((Fl.ofInt .f32 (IntKind.i64.wrap (v1.1 - (64 : Int)))).div (Fl.mk (k := .f32) 1088421888 (by decide))).bits)))], [(0, (.box [(.fx 0 0 (sl 1 (csI .u8) a0.code)), (.c (.int .i64 v3.2.1)), (.c (.int .u64 v3.2.2))]))]⟩ (T4 Tt) [] [0, 2] [0] ⟨tr, tr, tr, tr, tr⟩ (thenQ_normal ?_))
    refine AW.ret ?_
    refine thenQ_ret ?_
    replace h := some_eq h
    subst h
    exact ⟨.inr rfl, retOK_of [(.one (.c (.flt .f32 ((Fl.ofInt .f32 (IntKind.i64.wrap (v1.1 - (64 : Int)))).div (Fl.mk (k := .f32) 1088421888 (by decide))).bits)))] (by kernel_rfl) ⟨⟨rfl, tr⟩, tr⟩ (of_decide_eq_true (by kernel_rfl)), by kernel_rfl, ⟨⟨rfl, ⟨⟨rfl, rfl⟩, ⟨rfl, rfl⟩, ⟨rfl, rfl⟩, tr⟩⟩, tr⟩⟩
  · refine AW.cond_f rfl b5 ?_
    refine AW.skip ?_
    refine thenQ_normal ?_
    refine AW.seq (AW.rA ⟨[(0, (vp 0 0)), (2, (vc (.flt .f32 ((Fl.ofInt .f32 (IntKind.i64.wrap (v1.1 - (64 : Int)))).div (Fl.mk (k := .f32) 1098907648 (by decide))).bits)))], [(0, (.box [(.fx 0 0 (sl 1 (csI .u8) a0.code)), (.c (.int .i64 v3.2.1)), (.c (.int .u64 v3.2.2))]))]⟩ (T4 Tt) [] [0, 2] [0] ⟨tr, tr, tr, tr, tr⟩ (thenQ_normal ?_))
    refine AW.ret ?_
    replace h := some_eq h
    subst h
    exact ⟨.inr rfl, retOK_of [(.one (.c (.flt .f32 ((Fl.ofInt .f32 (IntKind.i64.wrap (v1.1 - (64 : Int)))).div (Fl.mk (k := .f32) 1098907648 (by decide))).bits)))] (by kernel_rfl) ⟨⟨rfl, tr⟩, tr⟩ (of_decide_eq_true (by kernel_rfl)), by kernel_rfl, ⟨⟨rfl, ⟨⟨rfl, rfl⟩, ⟨rfl, rfl⟩, ⟨rfl, rfl⟩, tr⟩⟩, tr⟩⟩

/-! (*spec.l00Src).among -/
def spec_l00Src_among (K : Nat) (a0 : l00Src) (a1 : (List Int)) : Option (Int × Int × Int) :=
  (spec_l00Src_pick K a0 (a1.length : Int)).bind fun v1 => chk (0 ≤ v1.1 ∧ v1.1 < (a1.length : Int)) (some ((a1.getD v1.1.toNat default), v1.2.1, v1.2.2))

theorem ok_spec_l00Src_among (K : Nat) (a0 : l00Src) (a1 : (List Int)) (o : (Int × Int × Int)) (h : spec_l00Src_among K a0 a1 = some o) : MutOK Try.prog 51 [(.box 3 (fun j => [true, false, false].getD j true) (fun j => (cs_l00Src a0).getD j .nilptr) (fun j => [.nilptr, (.int .i64 o.2.1), (.int .u64 o.2.2)].getD j .nilptr)), (.one (.ro (sl 1 (csI .i64) a1)))] [.one (.int .i64 o.1)] := by
  refine mutOK_of_AW 1 Try.func51 rfl (by kernel_rfl) (Nat.le_of_ble_eq_true (by kernel_rfl)) (by kernel_rfl) (by kernel_rfl) ?_
  intro w0 K0 v0 s0
  unfold spec_l00Src_among at h
  refine AW.weak (s' := ⟨[(0, (vp 0 0)), (1, (vc (sl 1 (csI .i64) a1)))], [(0, (.box [(.fx 0 0 (sl 1 (csI .u8) a0.code)), (.c (.int .i64 a0.at_)), (.c (.int .u64 a0.seed))]))]⟩) (subUnfx 0 [1, 2] (by kernel_rfl)) ?_
  refine AW.seq (AW.rA ⟨[(0, (vp 0 0)), (1, (vc (sl 1 (csI .i64) a1)))], [(0, (.box [(.fx 0 0 (sl 1 (csI .u8) a0.code)), (.c (.int .i64 a0.at_)), (.c (.int .u64 a0.seed))]))]⟩ (Tt ∧ Tt) [] [0, 1] [0] ⟨tr, tr⟩ (thenQ_normal ?_))
  refine AW.seq ?_
  obtain ⟨v1, e2, h⟩ := bind_some h
  obtain ⟨c3, h⟩ := chk_some h
  refine AW.rA ⟨[(0, (vp 0 0)), (1, (vc (sl 1 (csI .i64) a1))), (4, (vc (.int .i64 (a1.getD v1.1.toNat default))))], [(0, (.box [(.fx 0 0 (sl 1 (csI .u8) a0.code)), (.c (.int .i64 v1.2.1)), (.c (.int .u64 v1.2.2))]))]⟩ (T4 (((((Eqc (sl 1 (csI .u8) a0.code)) ∧ (Eqc (.int .i64 a0.at_)) ∧ (Eqc (.int .u64 a0.seed)) ∧ Tt) ∧ (Eqc (.int .i64 (a1.length : Int))) ∧ Tt) ∧ MutOK Try.prog 28 [(.box 3 (fun j => [true, false, false].getD j true) (fun j => (cs_l00Src a0).getD j .nilptr) (fun j => [.nilptr, (.int .i64 v1.2.1), (.int .u64 v1.2.2)].getD j .nilptr)), .one (.ro (.int .i64 (a1.length : Int)))] [.one (.int .i64 v1.1)]) ∧ (0 ≤ v1.1 ∧ v1.1 < (a1.length : Int)) ∧ T2 Tt)) [.no, .no, .no, .no, .callM [(.box 3 (fun j => [true, false, false].getD j true) (fun j => (cs_l00Src a0).getD j .nilptr) (fun j => [.nilptr, (.int .i64 v1.2.1), (.int .u64 v1.2.2)].getD j .nilptr)), .one (.ro (.int .i64 (a1.length : Int)))] [.one (.int .i64 v1.1)] [[.view]] none] [0, 1, 4] [0] ⟨tr, tr, tr, tr, ⟨⟨⟨rfl, rfl, rfl, tr⟩, rfl, tr⟩, ok_spec_l00Src_pick K a0 (a1.length : Int) v1 e2⟩, c3, tr, tr, tr⟩ ?_
  refine thenQ_normal ?_
  refine AW.ret ?_
  replace h := some_eq h
  subst h
  exact ⟨.inr rfl, retOK_of [(.one (.c (.int .i64 (a1.getD v1.1.toNat default))))] (by kernel_rfl) ⟨⟨rfl, tr⟩, tr⟩ (of_decide_eq_true (by kernel_rfl)), by kernel_rfl, ⟨⟨rfl, ⟨⟨rfl, rfl⟩, ⟨rfl, rfl⟩, ⟨rfl, rfl⟩, tr⟩⟩, tr, tr⟩⟩

/-! math.Float32frombits -/
def math_Float32frombits (_K : Nat) (a0 : Int) : Option (F32) :=
  Fl.ofBits .f32 a0

theorem ok_math_Float32frombits (K : Nat) (a0 : Int) (o : F32) (h : math_Float32frombits K a0 = some o) : CallOK Try.prog 43 [.one (.int .u32 a0)] [.one (.flt .f32 o.bits)] :=
  hand_ofBits (e := Extern.MathFloatBits.float32frombits) Try.func43 (by kernel_rfl) (by kernel_rfl) (by kernel_rfl) (by kernel_rfl) (fun _ _ => rfl) a0 o h

/-! spec.l01From -/
def spec_l01From (K : Nat) (a0 : Int) : Option (F32) :=
  (math_Float32frombits K (IntKind.u32.wrap a0)).bind fun v1 => some v1

theorem ok_spec_l01From (K : Nat) (a0 : Int) (o : (F32)) (h : spec_l01From K a0 = some o) : CallOK Try.prog 50 [.one (.int .i64 a0)] [.one (.flt .f32 o.bits)] := by
  refine callOK_of_AW Try.func50 rfl (by kernel_rfl) (Nat.le_of_ble_eq_true (by kernel_rfl)) ?_
  intro w0
  unfold spec_l01From at h
  refine AW.seq (AW.rA ⟨[(0, (vc (.int .i64 a0)))], []⟩ (Tt ∧ Tt) [] [0] [] ⟨tr, tr⟩ (thenQ_normal ?_))
  refine AW.seq ?_
  obtain ⟨v1, e2, h⟩ := bind_some h
  refine AW.rA ⟨[(2, (vc (.flt .f32 v1.bits)))], []⟩ (T2 ((((Eqc (.int .u32 (IntKind.u32.wrap a0))) ∧ Tt) ∧ CallOK Try.prog 43 [.one (.int .u32 (IntKind.u32.wrap a0))] [.one (.flt .f32 v1.bits)]) ∧ Tt ∧ Tt)) [.no, .no, .call [.one (.int .u32 (IntKind.u32.wrap a0))] [.one (.flt .f32 v1.bits)] [[.view]]] [2] [] ⟨tr, tr, ⟨⟨rfl, tr⟩, ok_math_Float32frombits K (IntKind.u32.wrap a0) v1 e2⟩, tr, tr⟩ ?_
  refine thenQ_normal ?_
  refine AW.ret ?_
  replace h := some_eq h
  subst h
  exact ⟨.inr rfl, retOK_of [(.one (.c (.flt .f32 v1.bits)))] (by kernel_rfl) ⟨⟨rfl, tr⟩, tr⟩ (of_decide_eq_true (by kernel_rfl))⟩

/-! spec.l01DrawFloat -/
def spec_l01DrawFloat (K : Nat) (a0 : l00Src) : Option (F32 × Int × Int) :=
  (spec_l00Src_one K a0 (12 : Int)).bind fun v1 => ite2 ((!v1.1)) ((spec_l01DrawPlain K (l00Src.mk a0.code v1.2.1 v1.2.2)).bind fun v4 => some (v4.1, v4.2.1, v4.2.2)) ((spec_l00Src_pick K (l00Src.mk a0.code v1.2.1 v1.2.2) (4 : Int)).bind fun v6 => ite2 ((v6.1 == (0 : Int))) ((spec_l00Src_among K (l00Src.mk a0.code v6.2.1 v6.2.2) ([(0 : Int), (2147483648 : Int), (2139095040 : Int), (4286578688 : Int), (2143289344 : Int), (1 : Int), (2139095039 : Int), (8388608 : Int), (8388607 : Int), (2147483649 : Int)])).bind fun v9 => (spec_l01From K v9.1).bind fun v11 => some (v11, v9.2.1, v9.2.2)) (ite2 ((v6.1 == (1 : Int))) ((spec_l00Src_pick K (l00Src.mk a0.code v6.2.1 v6.2.2) (65536 : Int)).bind fun v14 => (spec_l00Src_pick K (l00Src.mk a0.code v14.2.1 v14.2.2) (65536 : Int)).bind fun v16 => (spec_l01From K (IntKind.i64.wrap ((IntKind.i64.wrap (v14.1 * (65536 : Int))) + v16.1))).bind fun v18 => some (v18, v16.2.1, v16.2.2)) (ite2 ((v6.1 == (2 : Int))) ((spec_l00Src_pick K (l00Src.mk a0.code v6.2.1 v6.2.2) (65536 : Int)).bind fun v21 => (spec_l01From K (IntKind.i64.wrap (v21.1 * (65536 : Int)))).bind fun v23 => some (v23, v21.2.1, v21.2.2)) ((spec_l01DrawPlain K (l00Src.mk a0.code v6.2.1 v6.2.2)).bind fun v25 => (spec_l00Src_among K (l00Src.mk a0.code v25.2.1 v25.2.2) ([(8388608 : Int), (2130706432 : Int), (1610612736 : Int), (536870912 : Int)])).bind fun v27 => (spec_l01From K v27.1).bind fun v29 => some ((v25.1.mul v29), v27.2.1, v27.2.2)))))

theorem ok_spec_l01DrawFloat (K : Nat) (a0 : l00Src) (o : (F32 × Int × Int)) (h : spec_l01DrawFloat K a0 = some o) : MutOK Try.prog 32 [(.box 3 (fun j => [true, false, false].getD j true) (fun j => (cs_l00Src a0).getD j .nilptr) (fun j => [.nilptr, (.int .i64 o.2.1), (.int .u64 o.2.2)].getD j .nilptr))] [.one (.flt .f32 o.1.bits)] := by
  refine mutOK_of_AW 1 Try.func32 rfl (by kernel_rfl) (Nat.le_of_ble_eq_true (by kernel_rfl)) (by kernel_rfl) (by kernel_rfl) ?_
  intro w0 K0 v0 s0
  unfold spec_l01DrawFloat at h
  refine AW.weak (s' := ⟨[(0, (vp 0 0))], [(0, (.box [(.fx 0 0 (sl 1 (csI .u8) a0.code)), (.c (.int .i64 a0.at_)), (.c (.int .u64 a0.seed))]))]⟩) (subUnfx 0 [1, 2] (by kernel_rfl)) ?_
  refine AW.seq (AW.rA ⟨[(0, (vp 0 0))], [(0, (.box [(.fx 0 0 (sl 1 (csI .u8) a0.code)), (.c (.int .i64 a0.at_)), (.c (.int .u64 a0.seed))]))]⟩ (Tt ∧ Tt) [] [0] [0] ⟨tr, tr⟩ (thenQ_normal ?_))
  refine AW.seq ?_
  refine AW.seq ?_
  obtain ⟨v1, e2, h⟩ := bind_some h
  refine AW.rA ⟨[(0, (vp 0 0)), (6, (vc (.bool (!v1.1))))], [(0, (.box [(.fx 0 0 (sl 1 (csI .u8) a0.code)), (.c (.int .i64 v1.2.1)), (.c (.int .u64 v1.2.2))]))]⟩ (Tt ∧ ((((Eqc (sl 1 (csI .u8) a0.code)) ∧ (Eqc (.int .i64 a0.at_)) ∧ (Eqc (.int .u64 a0.seed)) ∧ Tt) ∧ (Eqc (.int .i64 (12 : Int))) ∧ Tt) ∧ MutOK Try.prog 31 [(.box 3 (fun j => [true, false, false].getD j true) (fun j => (cs_l00Src a0).getD j .nilptr) (fun j => [.nilptr, (.int .i64 v1.2.1), (.int .u64 v1.2.2)].getD j .nilptr)), .one (.ro (.int .i64 (12 : Int)))] [.one (.bool v1.1)]) ∧ Tt ∧ Tt) [.no, .callM [(.box 3 (fun j => [true, false, false].getD j true) (fun j => (cs_l00Src a0).getD j .nilptr) (fun j => [.nilptr, (.int .i64 v1.2.1), (.int .u64 v1.2.2)].getD j .nilptr)), .one (.ro (.int .i64 (12 : Int)))] [.one (.bool v1.1)] [[.view]] none] [0, 6] [0] ⟨tr, ⟨⟨⟨rfl, rfl, rfl, tr⟩, rfl, tr⟩, ok_spec_l00Src_one K a0 (12 : Int) v1 e2⟩, tr, tr⟩ ?_
  refine thenQ_normal ?_
  rcases ite2_cases h with ⟨b3, h⟩ | ⟨b3, h⟩
  · refine AW.cond_t rfl b3 ?_
    refine AW.seq ?_
    obtain ⟨v4, e5, h⟩ := bind_some h
    refine AW.rA ⟨[(0, (vp 0 0)), (2, (vc (.flt .f32 v4.1.bits)))], [(0, (.box [(.fx 0 0 (sl 1 (csI .u8) a0.code)), (.c (.int .i64 v4.2.1)), (.c (.int .u64 v4.2.2))]))]⟩ (Tt ∧ ((((Eqc (sl 1 (csI .u8) a0.code)) ∧ (Eqc (.int .i64 v1.2.1)) ∧ (Eqc (.int .u64 v1.2.2)) ∧ Tt) ∧ Tt) ∧ MutOK Try.prog 49 [(.box 3 (fun j => [true, false, false].getD j true) (fun j => (cs_l00Src (l00Src.mk a0.code v1.2.1 v1.2.2)).getD j .nilptr) (fun j => [.nilptr, (.int .i64 v4.2.1), (.int .u64 v4.2.2)].getD j .nilptr))] [.one (.flt .f32 v4.1.bits)]) ∧ Tt ∧ Tt) [.no, .callM [(.box 3 (fun j => [true, false, false].getD j true) (fun j => (cs_l00Src (l00Src.mk a0.code v1.2.1 v1.2.2)).getD j .nilptr) (fun j => [.nilptr, (.int .i64 v4.2.1), (.int .u64 v4.2.2)].getD j .nilptr))] [.one (.flt .f32 v4.1.bits)] [[.view]] none] [0, 2] [0] ⟨tr, ⟨⟨⟨rfl, rfl, rfl, tr⟩, tr⟩, ok_spec_l01DrawPlain K (l00Src.mk a0.code v1.2.1 v1.2.2) v4 e5⟩, tr, tr⟩ ?_
    refine thenQ_normal ?_
    refine AW.ret ?_
    refine thenQ_ret ?_
    replace h := some_eq h
    subst h
    exact ⟨.inr rfl, retOK_of [(.one (.c (.flt .f32 v4.1.bits)))] (by kernel_rfl) ⟨⟨rfl, tr⟩, tr⟩ (of_decide_eq_true (by kernel_rfl)), by kernel_rfl, ⟨⟨rfl, ⟨⟨rfl, rfl⟩, ⟨rfl, rfl⟩, ⟨rfl, rfl⟩, tr⟩⟩, tr⟩⟩
  · refine AW.cond_f rfl b3 ?_
    refine AW.skip ?_
    refine thenQ_normal ?_
    refine AW.seq ?_
    refine AW.seq ?_
    obtain ⟨v6, e7, h⟩ := bind_some h
    refine AW.rA ⟨[(0, (vp 0 0)), (10, (vc (.int .i64 v6.1)))], [(0, (.box [(.fx 0 0 (sl 1 (csI .u8) a0.code)), (.c (.int .i64 v6.2.1)), (.c (.int .u64 v6.2.2))]))]⟩ (Tt ∧ ((((Eqc (sl 1 (csI .u8) a0.code)) ∧ (Eqc (.int .i64 v1.2.1)) ∧ (Eqc (.int .u64 v1.2.2)) ∧ Tt) ∧ (Eqc (.int .i64 (4 : Int))) ∧ Tt) ∧ MutOK Try.prog 28 [(.box 3 (fun j => [true, false, false].getD j true) (fun j => (cs_l00Src (l00Src.mk a0.code v1.2.1 v1.2.2)).getD j .nilptr) (fun j => [.nilptr, (.int .i64 v6.2.1), (.int .u64 v6.2.2)].getD j .nilptr)), .one (.ro (.int .i64 (4 : Int)))] [.one (.int .i64 v6.1)]) ∧ Tt) [.no, .callM [(.box 3 (fun j => [true, false, false].getD j true) (fun j => (cs_l00Src (l00Src.mk a0.code v1.2.1 v1.2.2)).getD j .nilptr) (fun j => [.nilptr, (.int .i64 v6.2.1), (.int .u64 v6.2.2)].getD j .nilptr)), .one (.ro (.int .i64 (4 : Int)))] [.one (.int .i64 v6.1)] [[.view]] none] [0, 10] [0] ⟨tr, ⟨⟨⟨rfl, rfl, rfl, tr⟩, rfl, tr⟩, ok_spec_l00Src_pick K (l00Src.mk a0.code v1.2.1 v1.2.2) (4 : Int) v6 e7⟩, tr⟩ ?_
    refine thenQ_normal ?_
    refine AW.block ?_
    refine AW.seq (AW.rA ⟨[(0, (vp 0 0)), (10, (vc (.int .i64 v6.1))), (11, (vc (.bool (v6.1 == (0 : Int)))))], [(0, (.box [(.fx 0 0 (sl 1 (csI .u8) a0.code)), (.c (.int .i64 v6.2.1)), (.c (.int .u64 v6.2.2))]))]⟩ (T2 Tt) [] [0, 10, 11] [0] ⟨tr, tr, tr⟩ (thenQ_normal ?_))
    rcases ite2_cases h with ⟨b8, h⟩ | ⟨b8, h⟩
    · refine AW.cond_t rfl b8 ?_
      refine AW.seq ?_
      obtain ⟨v9, e10, h⟩ := bind_some h
      obtain ⟨v11, e12, h⟩ := bind_some h
      refine AW.rA ⟨[(0, (vp 0 0)), (2, (vc (.flt .f32 v11.bits)))], [(0, (.box [(.fx 0 0 (sl 1 (csI .u8) a0.code)), (.c (.int .i64 v9.2.1)), (.c (.int .u64 v9.2.2))]))]⟩ (Tt ∧ (([(0 : Int), (2147483648 : Int), (2139095040 : Int), (4286578688 : Int), (2143289344 : Int), (1 : Int), (2139095039 : Int), (8388608 : Int), (8388607 : Int), (2147483649 : Int)]).length = 10 ∧ (((.int .i64 (0 : Int)) : C) = (.int .i64 (0 : Int)) ∧ Tt) ∧ (((.int .i64 (2147483648 : Int)) : C) = (.int .i64 (2147483648 : Int)) ∧ Tt) ∧ (((.int .i64 (2139095040 : Int)) : C) = (.int .i64 (2139095040 : Int)) ∧ Tt) ∧ (((.int .i64 (4286578688 : Int)) : C) = (.int .i64 (4286578688 : Int)) ∧ Tt) ∧ (((.int .i64 (2143289344 : Int)) : C) = (.int .i64 (2143289344 : Int)) ∧ Tt) ∧ (((.int .i64 (1 : Int)) : C) = (.int .i64 (1 : Int)) ∧ Tt) ∧ (((.int .i64 (2139095039 : Int)) : C) = (.int .i64 (2139095039 : Int)) ∧ Tt) ∧ (((.int .i64 (8388608 : Int)) : C) = (.int .i64 (8388608 : Int)) ∧ Tt) ∧ (((.int .i64 (8388607 : Int)) : C) = (.int .i64 (8388607 : Int)) ∧ Tt) ∧ (((.int .i64 (2147483649 : Int)) : C) = (.int .i64 (2147483649 : Int)) ∧ Tt) ∧ Tt) ∧ ((((Eqc (sl 1 (csI .u8) a0.code)) ∧ (Eqc (.int .i64 v6.2.1)) ∧ (Eqc (.int .u64 v6.2.2)) ∧ Tt) ∧ (Eqc (sl 1 (csI .i64) ([(0 : Int), (2147483648 : Int), (2139095040 : Int), (4286578688 : Int), (2143289344 : Int), (1 : Int), (2139095039 : Int), (8388608 : Int), (8388607 : Int), (2147483649 : Int)]))) ∧ Tt) ∧ MutOK Try.prog 51 [(.box 3 (fun j => [true, false, false].getD j true) (fun j => (cs_l00Src (l00Src.mk a0.code v6.2.1 v6.2.2)).getD j .nilptr) (fun j => [.nilptr, (.int .i64 v9.2.1), (.int .u64 v9.2.2)].getD j .nilptr)), .one (.ro (sl 1 (csI .i64) ([(0 : Int), (2147483648 : Int), (2139095040 : Int), (4286578688 : Int), (2143289344 : Int), (1 : Int), (2139095039 : Int), (8388608 : Int), (8388607 : Int), (2147483649 : Int)])))] [.one (.int .i64 v9.1)]) ∧ (((Eqc (.int .i64 v9.1)) ∧ Tt) ∧ CallOK Try.prog 50 [.one (.int .i64 v9.1)] [.one (.flt .f32 v11.bits)]) ∧ Tt ∧ Tt) [.no, .obj 1 ([(0 : Int), (2147483648 : Int), (2139095040 : Int), (4286578688 : Int), (2143289344 : Int), (1 : Int), (2139095039 : Int), (8388608 : Int), (8388607 : Int), (2147483649 : Int)]).length (gl (csI .i64) ([(0 : Int), (2147483648 : Int), (2139095040 : Int), (4286578688 : Int), (2143289344 : Int), (1 : Int), (2139095039 : Int), (8388608 : Int), (8388607 : Int), (2147483649 : Int)])), .callM [(.box 3 (fun j => [true, false, false].getD j true) (fun j => (cs_l00Src (l00Src.mk a0.code v6.2.1 v6.2.2)).getD j .nilptr) (fun j => [.nilptr, (.int .i64 v9.2.1), (.int .u64 v9.2.2)].getD j .nilptr)), .one (.ro (sl 1 (csI .i64) ([(0 : Int), (2147483648 : Int), (2139095040 : Int), (4286578688 : Int), (2143289344 : Int), (1 : Int), (2139095039 : Int), (8388608 : Int), (8388607 : Int), (2147483649 : Int)])))] [.one (.int .i64 v9.1)] [[.view]] none, .call [.one (.int .i64 v9.1)] [.one (.flt .f32 v11.bits)] [[.view]]] [0, 2] [0] ⟨tr, ⟨rfl, ⟨⟨rfl, tr⟩, ⟨rfl, tr⟩, ⟨rfl, tr⟩, ⟨rfl, tr⟩, ⟨rfl, tr⟩, ⟨rfl, tr⟩, ⟨rfl, tr⟩, ⟨rfl, tr⟩, ⟨rfl, tr⟩, ⟨rfl, tr⟩, tr⟩⟩, ⟨⟨⟨rfl, rfl, rfl, tr⟩, rfl, tr⟩, ok_spec_l00Src_among K (l00Src.mk a0.code v6.2.1 v6.2.2) ([(0 : Int), (2147483648 : Int), (2139095040 : Int), (4286578688 : Int), (2143289344 : Int), (1 : Int), (2139095039 : Int), (8388608 : Int), (8388607 : Int), (2147483649 : Int)]) v9 e10⟩, ⟨⟨rfl, tr⟩, ok_spec_l01From K v9.1 v11 e12⟩, tr, tr⟩ ?_
      refine thenQ_normal ?_
      refine AW.ret ?_
      refine blockQ_ret ?_
      refine thenQ_ret ?_
      replace h := some_eq h
      subst h
      exact ⟨.inr rfl, retOK_of [(.one (.c (.flt .f32 v11.bits)))] (by kernel_rfl) ⟨⟨rfl, tr⟩, tr⟩ (of_decide_eq_true (by kernel_rfl)), by kernel_rfl, ⟨⟨rfl, ⟨⟨rfl, rfl⟩, ⟨rfl, rfl⟩, ⟨rfl, rfl⟩, tr⟩⟩, tr⟩⟩
    · refine AW.cond_f rfl b8 ?_
      refine AW.seq (AW.rA ⟨[(0, (vp 0 0)), (10, (vc (.int .i64 v6.1))), (17, (vc (.bool (v6.1 == (1 : Int)))))], [(0, (.box [(.fx 0 0 (sl 1 (csI .u8) a0.code)), (.c (.int .i64 v6.2.1)), (.c (.int .u64 v6.2.2))]))]⟩ (T2 Tt) [] [0, 10, 17] [0] ⟨tr, tr, tr⟩ (thenQ_normal ?_))
      rcases ite2_cases h with ⟨b13, h⟩ | ⟨b13, h⟩
      · refine AW.cond_t rfl b13 ?_
        refine AW.seq ?_
        obtain ⟨v14, e15, h⟩ := bind_some h
        refine AW.rA ⟨[(0, (vp 0 0)), (3, (vc (.int .i64 (IntKind.i64.wrap (v14.1 * (65536 : Int))))))], [(0, (.box [(.fx 0 0 (sl 1 (csI .u8) a0.code)), (.c (.int .i64 v14.2.1)), (.c (.int .u64 v14.2.2))]))]⟩ (Tt ∧ ((((Eqc (sl 1 (csI .u8) a0.code)) ∧ (Eqc (.int .i64 v6.2.1)) ∧ (Eqc (.int .u64 v6.2.2)) ∧ Tt) ∧ (Eqc (.int .i64 (65536 : Int))) ∧ Tt) ∧ MutOK Try.prog 28 [(.box 3 (fun j => [true, false, false].getD j true) (fun j => (cs_l00Src (l00Src.mk a0.code v6.2.1 v6.2.2)).getD j .nilptr) (fun j => [.nilptr, (.int .i64 v14.2.1), (.int .u64 v14.2.2)].getD j .nilptr)), .one (.ro (.int .i64 (65536 : Int)))] [.one (.int .i64 v14.1)]) ∧ T2 Tt) [.no, .callM [(.box 3 (fun j => [true, false, false].getD j true) (fun j => (cs_l00Src (l00Src.mk a0.code v6.2.1 v6.2.2)).getD j .nilptr) (fun j => [.nilptr, (.int .i64 v14.2.1), (.int .u64 v14.2.2)].getD j .nilptr)), .one (.ro (.int .i64 (65536 : Int)))] [.one (.int .i64 v14.1)] [[.view]] none] [0, 3] [0] ⟨tr, ⟨⟨⟨rfl, rfl, rfl, tr⟩, rfl, tr⟩, ok_spec_l00Src_pick K (l00Src.mk a0.code v6.2.1 v6.2.2) (65536 : Int) v14 e15⟩, tr, tr, tr⟩ ?_
        refine thenQ_normal ?_
        refine AW.seq ?_
        obtain ⟨v16, e17, h⟩ := bind_some h
        obtain ⟨v18, e19, h⟩ := bind_some h
        refine AW.rA ⟨[(0, (vp 0 0)), (2, (vc (.flt .f32 v18.bits)))], [(0, (.box [(.fx 0 0 (sl 1 (csI .u8) a0.code)), (.c (.int .i64 v16.2.1)), (.c (.int .u64 v16.2.2))]))]⟩ (T2 (((((Eqc (sl 1 (csI .u8) a0.code)) ∧ (Eqc (.int .i64 v14.2.1)) ∧ (Eqc (.int .u64 v14.2.2)) ∧ Tt) ∧ (Eqc (.int .i64 (65536 : Int))) ∧ Tt) ∧ MutOK Try.prog 28 [(.box 3 (fun j => [true, false, false].getD j true) (fun j => (cs_l00Src (l00Src.mk a0.code v14.2.1 v14.2.2)).getD j .nilptr) (fun j => [.nilptr, (.int .i64 v16.2.1), (.int .u64 v16.2.2)].getD j .nilptr)), .one (.ro (.int .i64 (65536 : Int)))] [.one (.int .i64 v16.1)]) ∧ Tt ∧ (((((.int .i64 (IntKind.i64.wrap ((IntKind.i64.wrap (v14.1 * (65536 : Int))) + v16.1))) : C) = (.int .i64 (IntKind.i64.wrap ((IntKind.i64.wrap (v14.1 * (65536 : Int))) + v16.1)))) ∧ Tt) ∧ CallOK Try.prog 50 [.one (.int .i64 (IntKind.i64.wrap ((IntKind.i64.wrap (v14.1 * (65536 : Int))) + v16.1)))] [.one (.flt .f32 v18.bits)]) ∧ Tt ∧ Tt)) [.no, .no, .callM [(.box 3 (fun j => [true, false, false].getD j true) (fun j => (cs_l00Src (l00Src.mk a0.code v14.2.1 v14.2.2)).getD j .nilptr) (fun j => [.nilptr, (.int .i64 v16.2.1), (.int .u64 v16.2.2)].getD j .nilptr)), .one (.ro (.int .i64 (65536 : Int)))] [.one (.int .i64 v16.1)] [[.view]] none, .no, .call [.one (.int .i64 (IntKind.i64.wrap ((IntKind.i64.wrap (v14.1 * (65536 : Int))) + v16.1)))] [.one (.flt .f32 v18.bits)] [[.view]]] [0, 2] [0] ⟨tr, tr, ⟨⟨⟨rfl, rfl, rfl, tr⟩, rfl, tr⟩, ok_spec_l00Src_pick K (l00Src.mk a0.code v14.2.1 v14.2.2) (65536 : Int) v16 e17⟩, tr, ⟨⟨rfl, tr⟩, ok_spec_l01From K (IntKind.i64.wrap ((IntKind.i64.wrap (v14.1 * (65536 : Int))) + v16.1)) v18 e19⟩, tr, tr⟩ ?_
        refine thenQ_normal ?_
        refine AW.ret ?_
        refine blockQ_ret ?_
        refine thenQ_ret ?_
        replace h := some_eq h
        subst h
        exact ⟨.inr rfl, retOK_of [(.one (.c (.flt .f32 v18.bits)))] (by kernel_rfl) ⟨⟨rfl, tr⟩, tr⟩ (of_decide_eq_true (by kernel_rfl)), by kernel_rfl, ⟨⟨rfl, ⟨⟨rfl, rfl⟩, ⟨rfl, rfl⟩, ⟨rfl, rfl⟩, tr⟩⟩, tr⟩⟩
      · refine AW.cond_f rfl b13 ?_
        refine AW.seq (AW.rA ⟨[(0, (vp 0 0)), (27, (vc (.bool (v6.1 == (2 : Int)))))], [(0, (.box [(.fx 0 0 (sl 1 (csI .u8) a0.code)), (.c (.int .i64 v6.2.1)), (.c (.int .u64 v6.2.2))]))]⟩ (T2 Tt) [] [0, 27] [0] ⟨tr, tr, tr⟩ (thenQ_normal ?_))
        rcases ite2_cases h with ⟨b20, h⟩ | ⟨b20, h⟩
        · refine AW.cond_t rfl b20 ?_
          refine AW.seq ?_
          obtain ⟨v21, e22, h⟩ := bind_some h
          obtain ⟨v23, e24, h⟩ := bind_some h
          refine AW.rA ⟨[(0, (vp 0 0)), (2, (vc (.flt .f32 v23.bits)))], [(0, (.box [(.fx 0 0 (sl 1 (csI .u8) a0.code)), (.c (.int .i64 v21.2.1)), (.c (.int .u64 v21.2.2))]))]⟩ (Tt ∧ ((((Eqc (sl 1 (csI .u8) a0.code)) ∧ (Eqc (.int .i64 v6.2.1)) ∧ (Eqc (.int .u64 v6.2.2)) ∧ Tt) ∧ (Eqc (.int .i64 (65536 : Int))) ∧ Tt) ∧ MutOK Try.prog 28 [(.box 3 (fun j => [true, false, false].getD j true) (fun j => (cs_l00Src (l00Src.mk a0.code v6.2.1 v6.2.2)).getD j .nilptr) (fun j => [.nilptr, (.int .i64 v21.2.1), (.int .u64 v21.2.2)].getD j .nilptr)), .one (.ro (.int .i64 (65536 : Int)))] [.one (.int .i64 v21.1)]) ∧ Tt ∧ (((Eqc (.int .i64 (IntKind.i64.wrap (v21.1 * (65536 : Int))))) ∧ Tt) ∧ CallOK Try.prog 50 [.one (.int .i64 (IntKind.i64.wrap (v21.1 * (65536 : Int))))] [.one (.flt .f32 v23.bits)]) ∧ Tt ∧ Tt) [.no, .callM [(.box 3 (fun j => [true, false, false].getD j true) (fun j => (cs_l00Src (l00Src.mk a0.code v6.2.1 v6.2.2)).getD j .nilptr) (fun j => [.nilptr, (.int .i64 v21.2.1), (.int .u64 v21.2.2)].getD j .nilptr)), .one (.ro (.int .i64 (65536 : Int)))] [.one (.int .i64 v21.1)] [[.view]] none, .no, .call [.one (.int .i64 (IntKind.i64.wrap (v21.1 * (65536 : Int))))] [.one (.flt .f32 v23.bits)] [[.view]]] [0, 2] [0] ⟨tr, ⟨⟨⟨rfl, rfl, rfl, tr⟩, rfl, tr⟩, ok_spec_l00Src_pick K (l00Src.mk a0.code v6.2.1 v6.2.2) (65536 : Int) v21 e22⟩, tr, ⟨⟨rfl, tr⟩, ok_spec_l01From K (IntKind.i64.wrap (v21.1 * (65536 : Int))) v23 e24⟩, tr, tr⟩ ?_
          refine thenQ_normal ?_
          refine AW.ret ?_
          refine blockQ_ret ?_
          refine thenQ_ret ?_
          replace h := some_eq h
          subst h
          exact ⟨.inr rfl, retOK_of [(.one (.c (.flt .f32 v23.bits)))] (by kernel_rfl) ⟨⟨rfl, tr⟩, tr⟩ (of_decide_eq_true (by kernel_rfl)), by kernel_rfl, ⟨⟨rfl, ⟨⟨rfl, rfl⟩, ⟨rfl, rfl⟩, ⟨rfl, rfl⟩, tr⟩⟩, tr⟩⟩
        · refine AW.cond_f rfl b20 ?_
          refine AW.skip ?_
          refine blockQ_normal ?_
          refine thenQ_normal ?_
          refine AW.seq ?_
          obtain ⟨v25, e26, h⟩ := bind_some h
          obtain ⟨v27, e28, h⟩ := bind_some h
          obtain ⟨v29, e30, h⟩ := bind_some h
          refine AW.rA ⟨[(0, (vp 0 0)), (2, (vc (.flt .f32 (v25.1.mul v29).bits)))], [(0, (.box [(.fx 0 0 (sl 1 (csI .u8) a0.code)), (.c (.int .i64 v27.2.1)), (.c (.int .u64 v27.2.2))]))]⟩ (Tt ∧ ((((Eqc (sl 1 (csI .u8) a0.code)) ∧ (Eqc (.int .i64 v6.2.1)) ∧ (Eqc (.int .u64 v6.2.2)) ∧ Tt) ∧ Tt) ∧ MutOK Try.prog 49 [(.box 3 (fun j => [true, false, false].getD j true) (fun j => (cs_l00Src (l00Src.mk a0.code v6.2.1 v6.2.2)).getD j .nilptr) (fun j => [.nilptr, (.int .i64 v25.2.1), (.int .u64 v25.2.2)].getD j .nilptr))] [.one (.flt .f32 v25.1.bits)]) ∧ Tt ∧ (([(8388608 : Int), (2130706432 : Int), (1610612736 : Int), (536870912 : Int)]).length = 4 ∧ (((.int .i64 (8388608 : Int)) : C) = (.int .i64 (8388608 : Int)) ∧ Tt) ∧ (((.int .i64 (2130706432 : Int)) : C) = (.int .i64 (2130706432 : Int)) ∧ Tt) ∧ (((.int .i64 (1610612736 : Int)) : C) = (.int .i64 (1610612736 : Int)) ∧ Tt) ∧ (((.int .i64 (536870912 : Int)) : C) = (.int .i64 (536870912 : Int)) ∧ Tt) ∧ Tt) ∧ ((((Eqc (sl 1 (csI .u8) a0.code)) ∧ (Eqc (.int .i64 v25.2.1)) ∧ (Eqc (.int .u64 v25.2.2)) ∧ Tt) ∧ (Eqc (sl 1 (csI .i64) ([(8388608 : Int), (2130706432 : Int), (1610612736 : Int), (536870912 : Int)]))) ∧ Tt) ∧ MutOK Try.prog 51 [(.box 3 (fun j => [true, false, false].getD j true) (fun j => (cs_l00Src (l00Src.mk a0.code v25.2.1 v25.2.2)).getD j .nilptr) (fun j => [.nilptr, (.int .i64 v27.2.1), (.int .u64 v27.2.2)].getD j .nilptr)), .one (.ro (sl 1 (csI .i64) ([(8388608 : Int), (2130706432 : Int), (1610612736 : Int), (536870912 : Int)])))] [.one (.int .i64 v27.1)]) ∧ (((Eqc (.int .i64 v27.1)) ∧ Tt) ∧ CallOK Try.prog 50 [.one (.int .i64 v27.1)] [.one (.flt .f32 v29.bits)]) ∧ T2 Tt) [.no, .callM [(.box 3 (fun j => [true, false, false].getD j true) (fun j => (cs_l00Src (l00Src.mk a0.code v6.2.1 v6.2.2)).getD j .nilptr) (fun j => [.nilptr, (.int .i64 v25.2.1), (.int .u64 v25.2.2)].getD j .nilptr))] [.one (.flt .f32 v25.1.bits)] [[.view]] none, .no, .obj 2 ([(8388608 : Int), (2130706432 : Int), (1610612736 : Int), (536870912 : Int)]).length (gl (csI .i64) ([(8388608 : Int), (2130706432 : Int), (1610612736 : Int), (536870912 : Int)])), .callM [(.box 3 (fun j => [true, false, false].getD j true) (fun j => (cs_l00Src (l00Src.mk a0.code v25.2.1 v25.2.2)).getD j .nilptr) (fun j => [.nilptr, (.int .i64 v27.2.1), (.int .u64 v27.2.2)].getD j .nilptr)), .one (.ro (sl 1 (csI .i64) ([(8388608 : Int), (2130706432 : Int), (1610612736 : Int), (536870912 : Int)])))] [.one (.int .i64 v27.1)] [[.view]] none, .call [.one (.int .i64 v27.1)] [.one (.flt .f32 v29.bits)] [[.view]]] [0, 2] [0] ⟨tr, ⟨⟨⟨rfl, rfl, rfl, tr⟩, tr⟩, ok_spec_l01DrawPlain K (l00Src.mk a0.code v6.2.1 v6.2.2) v25 e26⟩, tr, ⟨rfl, ⟨⟨rfl, tr⟩, ⟨rfl, tr⟩, ⟨rfl, tr⟩, ⟨rfl, tr⟩, tr⟩⟩, ⟨⟨⟨rfl, rfl, rfl, tr⟩, rfl, tr⟩, ok_spec_l00Src_among K (l00Src.mk a0.code v25.2.1 v25.2.2) ([(8388608 : Int), (2130706432 : Int), (1610612736 : Int), (536870912 : Int)]) v27 e28⟩, ⟨⟨rfl, tr⟩, ok_spec_l01From K v27.1 v29 e30⟩, tr, tr, tr⟩ ?_
          refine thenQ_normal ?_
          refine AW.ret ?_
          replace h := some_eq h
          subst h
          exact ⟨.inr rfl, retOK_of [(.one (.c (.flt .f32 (v25.1.mul v29).bits)))] (by kernel_rfl) ⟨⟨rfl, tr⟩, tr⟩ (of_decide_eq_true (by kernel_rfl)), by kernel_rfl, ⟨⟨rfl, ⟨⟨rfl, rfl⟩, ⟨rfl, rfl⟩, ⟨rfl, rfl⟩, tr⟩⟩, tr⟩⟩

/-! spec.l01DrawVector -/
def spec_l01DrawVector (K : Nat) (a0 : l00Src) : Option (Vector × Int × Int) :=
  (spec_l00Src_one K a0 (10 : Int)).bind fun v1 => (spec_l01DrawSmall K (l00Src.mk a0.code v1.2.1 v1.2.2)).bind fun v3 => (spec_l01DrawSmall K (l00Src.mk a0.code v3.2.1 v3.2.2)).bind fun v5 => (spec_l01DrawSmall K (l00Src.mk a0.code v5.2.1 v5.2.2)).bind fun v7 => ite2 (v1.1) ((spec_l01DrawFloat K (l00Src.mk a0.code v7.2.1 v7.2.2)).bind fun v10 => some ((Vector.mk v3.1 v10.1 v7.1), v10.2.1, v10.2.2)) (some ((Vector.mk v3.1 v5.1 v7.1), v7.2.1, v7.2.2))

theorem ok_spec_l01DrawVector (K : Nat) (a0 : l00Src) (o : (Vector × Int × Int)) (h : spec_l01DrawVector K a0 = some o) : MutOK Try.prog 46 [(.box 3 (fun j => [true, false, false].getD j true) (fun j => (cs_l00Src a0).getD j .nilptr) (fun j => [.nilptr, (.int .i64 o.2.1), (.int .u64 o.2.2)].getD j .nilptr))] [.agg (cs_Vector o.1)] := by
  refine mutOK_of_AW 1 Try.func46 rfl (by kernel_rfl) (Nat.le_of_ble_eq_true (by kernel_rfl)) (by kernel_rfl) (by kernel_rfl) ?_
  intro w0 K0 v0 s0
  unfold spec_l01DrawVector at h
  refine AW.weak (s' := ⟨[(0, (vp 0 0))], [(0, (.box [(.fx 0 0 (sl 1 (csI .u8) a0.code)), (.c (.int .i64 a0.at_)), (.c (.int .u64 a0.seed))]))]⟩) (subUnfx 0 [1, 2] (by kernel_rfl)) ?_
  refine AW.seq (AW.rA ⟨[(0, (vp 0 0)), (2, (vp 1 0))], [(0, (.box [(.fx 0 0 (sl 1 (csI .u8) a0.code)), (.c (.int .i64 a0.at_)), (.c (.int .u64 a0.seed))])), (1, (.box [(.c (.flt .f32 (default : F32).bits)), (.c (.flt .f32 (default : F32).bits)), (.c (.flt .f32 (default : F32).bits))]))]⟩ (Tt ∧ Tt) [.box 1] [0, 2] [0, 1] ⟨tr, tr⟩ (thenQ_normal ?_))
  refine AW.seq ?_
  obtain ⟨v1, e2, h⟩ := bind_some h
  refine AW.rA ⟨[(0, (vp 0 0)), (2, (vp 1 0)), (3, (vc (.bool v1.1)))], [(0, (.box [(.fx 0 0 (sl 1 (csI .u8) a0.code)), (.c (.int .i64 v1.2.1)), (.c (.int .u64 v1.2.2))])), (1, (.box [(.c (.flt .f32 (default : F32).bits)), (.c (.flt .f32 (default : F32).bits)), (.c (.flt .f32 (default : F32).bits))]))]⟩ (Tt ∧ ((((Eqc (sl 1 (csI .u8) a0.code)) ∧ (Eqc (.int .i64 a0.at_)) ∧ (Eqc (.int .u64 a0.seed)) ∧ Tt) ∧ (Eqc (.int .i64 (10 : Int))) ∧ Tt) ∧ MutOK Try.prog 31 [(.box 3 (fun j => [true, false, false].getD j true) (fun j => (cs_l00Src a0).getD j .nilptr) (fun j => [.nilptr, (.int .i64 v1.2.1), (.int .u64 v1.2.2)].getD j .nilptr)), .one (.ro (.int .i64 (10 : Int)))] [.one (.bool v1.1)]) ∧ Tt ∧ Tt) [.no, .callM [(.box 3 (fun j => [true, false, false].getD j true) (fun j => (cs_l00Src a0).getD j .nilptr) (fun j => [.nilptr, (.int .i64 v1.2.1), (.int .u64 v1.2.2)].getD j .nilptr)), .one (.ro (.int .i64 (10 : Int)))] [.one (.bool v1.1)] [[.view]] none] [0, 2, 3] [0, 1] ⟨tr, ⟨⟨⟨rfl, rfl, rfl, tr⟩, rfl, tr⟩, ok_spec_l00Src_one K a0 (10 : Int) v1 e2⟩, tr, tr⟩ ?_
  refine thenQ_normal ?_
  refine AW.seq ?_
  obtain ⟨v3, e4, h⟩ := bind_some h
  refine AW.rA ⟨[(0, (vp 0 0)), (2, (vp 1 0)), (3, (vc (.bool v1.1))), (4, (vp 2 0))], [(0, (.box [(.fx 0 0 (sl 1 (csI .u8) a0.code)), (.c (.int .i64 v3.2.1)), (.c (.int .u64 v3.2.2))])), (1, (.box [(.c (.flt .f32 (default : F32).bits)), (.c (.flt .f32 (default : F32).bits)), (.c (.flt .f32 (default : F32).bits))])), (2, (.box [(.c (.flt .f32 v3.1.bits)), (.c (.flt .f32 (default : F32).bits)), (.c (.flt .f32 (default : F32).bits))]))]⟩ (Tt ∧ ((((Eqc (sl 1 (csI .u8) a0.code)) ∧ (Eqc (.int .i64 v1.2.1)) ∧ (Eqc (.int .u64 v1.2.2)) ∧ Tt) ∧ Tt) ∧ MutOK Try.prog 54 [(.box 3 (fun j => [true, false, false].getD j true) (fun j => (cs_l00Src (l00Src.mk a0.code v1.2.1 v1.2.2)).getD j .nilptr) (fun j => [.nilptr, (.int .i64 v3.2.1), (.int .u64 v3.2.2)].getD j .nilptr))] [.one (.flt .f32 v3.1.bits)]) ∧ Tt ∧ T2 Tt) [.no, .callM [(.box 3 (fun j => [true, false, false].getD j true) (fun j => (cs_l00Src (l00Src.mk a0.code v1.2.1 v1.2.2)).getD j .nilptr) (fun j => [.nilptr, (.int .i64 v3.2.1), (.int .u64 v3.2.2)].getD j .nilptr))] [.one (.flt .f32 v3.1.bits)] [[.view]] none, .no, .box 2] [0, 2, 3, 4] [0, 1, 2] ⟨tr, ⟨⟨⟨rfl, rfl, rfl, tr⟩, tr⟩, ok_spec_l01DrawSmall K (l00Src.mk a0.code v1.2.1 v1.2.2) v3 e4⟩, tr, tr, tr, tr⟩ ?_
  refine thenQ_normal ?_
  refine AW.seq ?_
  obtain ⟨v5, e6, h⟩ := bind_some h
  refine AW.rA ⟨[(0, (vp 0 0)), (2, (vp 1 0)), (3, (vc (.bool v1.1))), (4, (vp 2 0))], [(0, (.box [(.fx 0 0 (sl 1 (csI .u8) a0.code)), (.c (.int .i64 v5.2.1)), (.c (.int .u64 v5.2.2))])), (1, (.box [(.c (.flt .f32 (default : F32).bits)), (.c (.flt .f32 (default : F32).bits)), (.c (.flt .f32 (default : F32).bits))])), (2, (.box [(.c (.flt .f32 v3.1.bits)), (.c (.flt .f32 v5.1.bits)), (.c (.flt .f32 (default : F32).bits))]))]⟩ (Tt ∧ ((((Eqc (sl 1 (csI .u8) a0.code)) ∧ (Eqc (.int .i64 v3.2.1)) ∧ (Eqc (.int .u64 v3.2.2)) ∧ Tt) ∧ Tt) ∧ MutOK Try.prog 54 [(.box 3 (fun j => [true, false, false].getD j true) (fun j => (cs_l00Src (l00Src.mk a0.code v3.2.1 v3.2.2)).getD j .nilptr) (fun j => [.nilptr, (.int .i64 v5.2.1), (.int .u64 v5.2.2)].getD j .nilptr))] [.one (.flt .f32 v5.1.bits)]) ∧ T2 Tt) [.no, .callM [(.box 3 (fun j => [true, false, false].getD j true) (fun j => (cs_l00Src (l00Src.mk a0.code v3.2.1 v3.2.2)).getD j .nilptr) (fun j => [.nilptr, (.int .i64 v5.2.1), (.int .u64 v5.2.2)].getD j .nilptr))] [.one (.flt .f32 v5.1.bits)] [[.view]] none] [0, 2, 3, 4] [0, 1, 2] ⟨tr, ⟨⟨⟨rfl, rfl, rfl, tr⟩, tr⟩, ok_spec_l01DrawSmall K (l00Src.mk a0.code v3.2.1 v3.2.2) v5 e6⟩, tr, tr, tr⟩ ?_
  refine thenQ_normal ?_
  refine AW.seq ?_
  obtain ⟨v7, e8, h⟩ := bind_some h
  refine AW.rA ⟨[(0, (vp 0 0)), (2, (vp 1 0)), (3, (vc (.bool v1.1))), (4, (vp 2 0))], [(0, (.box [(.fx 0 0 (sl 1 (csI .u8) a0.code)), (.c (.int .i64 v7.2.1)), (.c (.int .u64 v7.2.2))])), (1, (.box [(.c (.flt .f32 (default : F32).bits)), (.c (.flt .f32 (default : F32).bits)), (.c (.flt .f32 (default : F32).bits))])), (2, (.box [(.c (.flt .f32 v3.1.bits)), (.c (.flt .f32 v5.1.bits)), (.c (.flt .f32 v7.1.bits))]))]⟩ (Tt ∧ ((((Eqc (sl 1 (csI .u8) a0.code)) ∧ (Eqc (.int .i64 v5.2.1)) ∧ (Eqc (.int .u64 v5.2.2)) ∧ Tt) ∧ Tt) ∧ MutOK Try.prog 54 [(.box 3 (fun j => [true, false, false].getD j true) (fun j => (cs_l00Src (l00Src.mk a0.code v5.2.1 v5.2.2)).getD j .nilptr) (fun j => [.nilptr, (.int .i64 v7.2.1), (.int .u64 v7.2.2)].getD j .nilptr))] [.one (.flt .f32 v7.1.bits)]) ∧ T2 Tt) [.no, .callM [(.box 3 (fun j => [true, false, false].getD j true) (fun j => (cs_l00Src (l00Src.mk a0.code v5.2.1 v5.2.2)).getD j .nilptr) (fun j => [.nilptr, (.int .i64 v7.2.1), (.int .u64 v7.2.2)].getD j .nilptr))] [.one (.flt .f32 v7.1.bits)] [[.view]] none] [0, 2, 3, 4] [0, 1, 2] ⟨tr, ⟨⟨⟨rfl, rfl, rfl, tr⟩, tr⟩, ok_spec_l01DrawSmall K (l00Src.mk a0.code v5.2.1 v5.2.2) v7 e8⟩, tr, tr, tr⟩ ?_
  refine thenQ_normal ?_
  refine AW.seq ?_
  refine AW.seq (AW.rA ⟨[(0, (vp 0 0)), (2, (vp 1 0)), (4, (vp 2 0)), (16, (vc (.bool v1.1)))], [(0, (.box [(.fx 0 0 (sl 1 (csI .u8) a0.code)), (.c (.int .i64 v7.2.1)), (.c (.int .u64 v7.2.2))])), (1, (.box [(.c (.flt .f32 (default : F32).bits)), (.c (.flt .f32 (default : F32).bits)), (.c (.flt .f32 (default : F32).bits))])), (2, (.box [(.c (.flt .f32 v3.1.bits)), (.c (.flt .f32 v5.1.bits)), (.c (.flt .f32 v7.1.bits))]))]⟩ (Tt ∧ Tt) [] [0, 2, 4, 16] [0, 1, 2] ⟨tr, tr⟩ (thenQ_normal ?_))
  rcases ite2_cases h with ⟨b9, h⟩ | ⟨b9, h⟩
  · refine AW.cond_t rfl b9 ?_
    obtain ⟨v10, e11, h⟩ := bind_some h
    refine AW.rA ⟨[(0, (vp 0 0)), (2, (vp 1 0)), (4, (vp 2 0))], [(0, (.box [(.fx 0 0 (sl 1 (csI .u8) a0.code)), (.c (.int .i64 v10.2.1)), (.c (.int .u64 v10.2.2))])), (1, (.box [(.c (.flt .f32 (default : F32).bits)), (.c (.flt .f32 (default : F32).bits)), (.c (.flt .f32 (default : F32).bits))])), (2, (.box [(.c (.flt .f32 v3.1.bits)), (.c (.flt .f32 v10.1.bits)), (.c (.flt .f32 v7.1.bits))]))]⟩ (Tt ∧ ((((Eqc (sl 1 (csI .u8) a0.code)) ∧ (Eqc (.int .i64 v7.2.1)) ∧ (Eqc (.int .u64 v7.2.2)) ∧ Tt) ∧ Tt) ∧ MutOK Try.prog 32 [(.box 3 (fun j => [true, false, false].getD j true) (fun j => (cs_l00Src (l00Src.mk a0.code v7.2.1 v7.2.2)).getD j .nilptr) (fun j => [.nilptr, (.int .i64 v10.2.1), (.int .u64 v10.2.2)].getD j .nilptr))] [.one (.flt .f32 v10.1.bits)]) ∧ T2 Tt) [.no, .callM [(.box 3 (fun j => [true, false, false].getD j true) (fun j => (cs_l00Src (l00Src.mk a0.code v7.2.1 v7.2.2)).getD j .nilptr) (fun j => [.nilptr, (.int .i64 v10.2.1), (.int .u64 v10.2.2)].getD j .nilptr))] [.one (.flt .f32 v10.1.bits)] [[.view]] none] [0, 2, 4] [0, 1, 2] ⟨tr, ⟨⟨⟨rfl, rfl, rfl, tr⟩, tr⟩, ok_spec_l01DrawFloat K (l00Src.mk a0.code v7.2.1 v7.2.2) v10 e11⟩, tr, tr, tr⟩ ?_
    refine thenQ_normal ?_
    refine AW.seq (AW.rA ⟨[(0, (vp 0 0)), (2, (vp 1 0))], [(0, (.box [(.fx 0 0 (sl 1 (csI .u8) a0.code)), (.c (.int .i64 v10.2.1)), (.c (.int .u64 v10.2.2))])), (1, (.box [(.c (.flt .f32 v3.1.bits)), (.c (.flt .f32 v10.1.bits)), (.c (.flt .f32 v7.1.bits))]))]⟩ (T2 Tt) [] [0, 2] [0, 1] ⟨tr, tr, tr⟩ (thenQ_normal ?_))
    refine AW.ret ?_
    replace h := some_eq h
    subst h
    exact ⟨.inr rfl, retOK_of [(.agg [(.c (.flt .f32 v3.1.bits)), (.c (.flt .f32 v10.1.bits)), (.c (.flt .f32 v7.1.bits))])] (by kernel_rfl) ⟨⟨⟨rfl, tr⟩, ⟨rfl, tr⟩, ⟨rfl, tr⟩, tr⟩, tr⟩ (of_decide_eq_true (by kernel_rfl)), by kernel_rfl, ⟨⟨rfl, ⟨⟨rfl, rfl⟩, ⟨rfl, rfl⟩, ⟨rfl, rfl⟩, tr⟩⟩, tr⟩⟩
  · refine AW.cond_f rfl b9 ?_
    refine AW.skip ?_
    refine thenQ_normal ?_
    refine AW.seq (AW.rA ⟨[(0, (vp 0 0)), (2, (vp 1 0))], [(0, (.box [(.fx 0 0 (sl 1 (csI .u8) a0.code)), (.c (.int .i64 v7.2.1)), (.c (.int .u64 v7.2.2))])), (1, (.box [(.c (.flt .f32 v3.1.bits)), (.c (.flt .f32 v5.1.bits)), (.c (.flt .f32 v7.1.bits))]))]⟩ (T2 Tt) [] [0, 2] [0, 1] ⟨tr, tr, tr⟩ (thenQ_normal ?_))
    refine AW.ret ?_
    replace h := some_eq h
    subst h
    exact ⟨.inr rfl, retOK_of [(.agg [(.c (.flt .f32 v3.1.bits)), (.c (.flt .f32 v5.1.bits)), (.c (.flt .f32 v7.1.bits))])] (by kernel_rfl) ⟨⟨⟨rfl, tr⟩, ⟨rfl, tr⟩, ⟨rfl, tr⟩, tr⟩, tr⟩ (of_decide_eq_true (by kernel_rfl)), by kernel_rfl, ⟨⟨rfl, ⟨⟨rfl, rfl⟩, ⟨rfl, rfl⟩, ⟨rfl, rfl⟩, tr⟩⟩, tr⟩⟩

/-! spec.l02DrawExact -/
def spec_l02DrawExact (K : Nat) (a0 : l00Src) : Option (Turn × Int × Int) :=
  (spec_l00Src_pick K a0 (24 : Int)).bind fun v1 => ite2 ((decide (v1.1 < (8 : Int)))) (ite2 ((decide (v1.1 ≥ (4 : Int)))) (chk ((4 : Int) ≠ 0) (ite2 (((v1.1.tmod (4 : Int)) == (0 : Int))) (some ((Turn.mk (Fl.mk (k := .f32) 3212836864 (by decide)) (default : F32) (default : F32) (default : F32)), v1.2.1, v1.2.2)) (ite2 (((v1.1.tmod (4 : Int)) == (1 : Int))) (some ((Turn.mk (default : F32) (Fl.mk (k := .f32) 3212836864 (by decide)) (default : F32) (default : F32)), v1.2.1, v1.2.2)) (ite2 (((v1.1.tmod (4 : Int)) == (2 : Int))) (some ((Turn.mk (default : F32) (default : F32) (Fl.mk (k := .f32) 3212836864 (by decide)) (default : F32)), v1.2.1, v1.2.2)) (some ((Turn.mk (default : F32) (default : F32) (default : F32) (Fl.mk (k := .f32) 3212836864 (by decide))), v1.2.1, v1.2.2)))))) (chk ((4 : Int) ≠ 0) (ite2 (((v1.1.tmod (4 : Int)) == (0 : Int))) (some ((Turn.mk (Fl.mk (k := .f32) 1065353216 (by decide)) (default : F32) (default : F32) (default : F32)), v1.2.1, v1.2.2)) (ite2 (((v1.1.tmod (4 : Int)) == (1 : Int))) (some ((Turn.mk (default : F32) (Fl.mk (k := .f32) 1065353216 (by decide)) (default : F32) (default : F32)), v1.2.1, v1.2.2)) (ite2 (((v1.1.tmod (4 : Int)) == (2 : Int))) (some ((Turn.mk (default : F32) (default : F32) (Fl.mk (k := .f32) 1065353216 (by decide)) (default : F32)), v1.2.1, v1.2.2)) (some ((Turn.mk (default : F32) (default : F32) (default : F32) (Fl.mk (k := .f32) 1065353216 (by decide))), v1.2.1, v1.2.2))))))) (chk (0 ≤ (1 : Int)) (chk (0 ≤ (2 : Int)) (chk (0 ≤ (3 : Int)) (some ((Turn.mk ((Fl.ofInt .f32 (bits .and .i64 (IntKind.i64.wrap (v1.1 - (8 : Int))) (1 : Int))).sub (Fl.mk (k := .f32) 1056964608 (by decide))) ((Fl.ofInt .f32 (bits .and .i64 ((IntKind.i64.wrap (v1.1 - (8 : Int))).fdiv (2 ^ (min (1 : Int).toNat (IntKind.bits .i64)))) (1 : Int))).sub (Fl.mk (k := .f32) 1056964608 (by decide))) ((Fl.ofInt .f32 (bits .and .i64 ((IntKind.i64.wrap (v1.1 - (8 : Int))).fdiv (2 ^ (min (2 : Int).toNat (IntKind.bits .i64)))) (1 : Int))).sub (Fl.mk (k := .f32) 1056964608 (by decide))) ((Fl.ofInt .f32 (bits .and .i64 ((IntKind.i64.wrap (v1.1 - (8 : Int))).fdiv (2 ^ (min (3 : Int).toNat (IntKind.bits .i64)))) (1 : Int))).sub (Fl.mk (k := .f32) 1056964608 (by decide)))), v1.2.1, v1.2.2)))))

theorem ok_spec_l02DrawExact (K : Nat) (a0 : l00Src) (o : (Turn × Int × Int)) (h : spec_l02DrawExact K a0 = some o) : MutOK Try.prog 55 [(.box 3 (fun j => [true, false, false].getD j true) (fun j => (cs_l00Src a0).getD j .nilptr) (fun j => [.nilptr, (.int .i64 o.2.1), (.int .u64 o.2.2)].getD j .nilptr))] [.agg (cs_Turn o.1)] := by
  refine mutOK_of_AW 1 Try.func55 rfl (by kernel_rfl) (Nat.le_of_ble_eq_true (by kernel_rfl)) (by kernel_rfl) (by kernel_rfl) ?_
  intro w0 K0 v0 s0
  unfold spec_l02DrawExact at h
  refine AW.weak (s' := ⟨[(0, (vp 0 0))], [(0, (.box [(.fx 0 0 (sl 1 (csI .u8) a0.code)), (.c (.int .i64 a0.at_)), (.c (.int .u64 a0.seed))]))]⟩) (subUnfx 0 [1, 2] (by kernel_rfl)) ?_
  refine AW.seq (AW.rA ⟨[(0, (vp 0 0)), (2, (vp 1 0))], [(0, (.box [(.fx 0 0 (sl 1 (csI .u8) a0.code)), (.c (.int .i64 a0.at_)), (.c (.int .u64 a0.seed))])), (1, (.box [(.c (.flt .f32 (default : F32).bits)), (.c (.flt .f32 (default : F32).bits)), (.c (.flt .f32 (default : F32).bits)), (.c (.flt .f32 (default : F32).bits))]))]⟩ (Tt ∧ Tt) [.box 1] [0, 2] [0, 1] ⟨tr, tr⟩ (thenQ_normal ?_))
  refine AW.seq ?_
  obtain ⟨v1, e2, h⟩ := bind_some h
  refine AW.rA ⟨[(0, (vp 0 0)), (2, (vp 1 0)), (3, (vc (.int .i64 v1.1)))], [(0, (.box [(.fx 0 0 (sl 1 (csI .u8) a0.code)), (.c (.int .i64 v1.2.1)), (.c (.int .u64 v1.2.2))])), (1, (.box [(.c (.flt .f32 (default : F32).bits)), (.c (.flt .f32 (default : F32).bits)), (.c (.flt .f32 (default : F32).bits)), (.c (.flt .f32 (default : F32).bits))]))]⟩ (Tt ∧ ((((Eqc (sl 1 (csI .u8) a0.code)) ∧ (Eqc (.int .i64 a0.at_)) ∧ (Eqc (.int .u64 a0.seed)) ∧ Tt) ∧ (Eqc (.int .i64 (24 : Int))) ∧ Tt) ∧ MutOK Try.prog 28 [(.box 3 (fun j => [true, false, false].getD j true) (fun j => (cs_l00Src a0).getD j .nilptr) (fun j => [.nilptr, (.int .i64 v1.2.1), (.int .u64 v1.2.2)].getD j .nilptr)), .one (.ro (.int .i64 (24 : Int)))] [.one (.int .i64 v1.1)]) ∧ Tt ∧ Tt) [.no, .callM [(.box 3 (fun j => [true, false, false].getD j true) (fun j => (cs_l00Src a0).getD j .nilptr) (fun j => [.nilptr, (.int .i64 v1.2.1), (.int .u64 v1.2.2)].getD j .nilptr)), .one (.ro (.int .i64 (24 : Int)))] [.one (.int .i64 v1.1)] [[.view]] none] [0, 2, 3] [0, 1] ⟨tr, ⟨⟨⟨rfl, rfl, rfl, tr⟩, rfl, tr⟩, ok_spec_l00Src_pick K a0 (24 : Int) v1 e2⟩, tr, tr⟩ ?_
  refine thenQ_normal ?_
  refine AW.seq ?_
  refine AW.seq (AW.rA ⟨[(0, (vp 0 0)), (2, (vp 1 0)), (3, (vc (.int .i64 v1.1))), (8, (vc (.bool (decide (v1.1 < (8 : Int))))))], [(0, (.box [(.fx 0 0 (sl 1 (csI .u8) a0.code)), (.c (.int .i64 v1.2.1)), (.c (.int .u64 v1.2.2))])), (1, (.box [(.c (.flt .f32 (default : F32).bits)), (.c (.flt .f32 (default : F32).bits)), (.c (.flt .f32 (default : F32).bits)), (.c (.flt .f32 (default : F32).bits))]))]⟩ (T2 Tt) [] [0, 2, 3, 8] [0, 1] ⟨tr, tr, tr⟩ (thenQ_normal ?_))
  rcases ite2_cases h with ⟨b3, h⟩ | ⟨b3, h⟩
  · refine AW.cond_t rfl b3 ?_
    refine AW.seq (AW.rA ⟨[(0, (vp 0 0)), (2, (vp 1 0)), (3, (vc (.int .i64 v1.1))), (4, (vc (.flt .f32 (Fl.mk (k := .f32) 1065353216 (by decide)).bits)))], [(0, (.box [(.fx 0 0 (sl 1 (csI .u8) a0.code)), (.c (.int .i64 v1.2.1)), (.c (.int .u64 v1.2.2))])), (1, (.box [(.c (.flt .f32 (default : F32).bits)), (.c (.flt .f32 (default : F32).bits)), (.c (.flt .f32 (default : F32).bits)), (.c (.flt .f32 (default : F32).bits))]))]⟩ (Tt ∧ Tt) [] [0, 2, 3, 4] [0, 1] ⟨tr, tr⟩ (thenQ_normal ?_))
    refine AW.seq ?_
    refine AW.seq (AW.rA ⟨[(0, (vp 0 0)), (2, (vp 1 0)), (3, (vc (.int .i64 v1.1))), (4, (vc (.flt .f32 (Fl.mk (k := .f32) 1065353216 (by decide)).bits))), (10, (vc (.bool (decide (v1.1 ≥ (4 : Int))))))], [(0, (.box [(.fx 0 0 (sl 1 (csI .u8) a0.code)), (.c (.int .i64 v1.2.1)), (.c (.int .u64 v1.2.2))])), (1, (.box [(.c (.flt .f32 (default : F32).bits)), (.c (.flt .f32 (default : F32).bits)), (.c (.flt .f32 (default : F32).bits)), (.c (.flt .f32 (default : F32).bits))]))]⟩ (T2 Tt) [] [0, 2, 3, 4, 10] [0, 1] ⟨tr, tr, tr⟩ (thenQ_normal ?_))
    rcases ite2_cases h with ⟨b4, h⟩ | ⟨b4, h⟩
    · refine AW.cond_t rfl b4 ?_
      refine AW.rA ⟨[(0, (vp 0 0)), (2, (vp 1 0)), (3, (vc (.int .i64 v1.1))), (4, (vc (.flt .f32 (Fl.mk (k := .f32) 3212836864 (by decide)).bits)))], [(0, (.box [(.fx 0 0 (sl 1 (csI .u8) a0.code)), (.c (.int .i64 v1.2.1)), (.c (.int .u64 v1.2.2))])), (1, (.box [(.c (.flt .f32 (default : F32).bits)), (.c (.flt .f32 (default : F32).bits)), (.c (.flt .f32 (default : F32).bits)), (.c (.flt .f32 (default : F32).bits))]))]⟩ (Tt ∧ Tt) [] [0, 2, 3, 4] [0, 1] ⟨tr, tr⟩ ?_
      refine thenQ_normal ?_
      refine AW.seq ?_
      refine AW.seq ?_
      obtain ⟨c5, h⟩ := chk_some h
      refine AW.rA ⟨[(0, (vp 0 0)), (2, (vp 1 0)), (4, (vc (.flt .f32 (Fl.mk (k := .f32) 3212836864 (by decide)).bits))), (12, (vc (.int .i64 (v1.1.tmod (4 : Int)))))], [(0, (.box [(.fx 0 0 (sl 1 (csI .u8) a0.code)), (.c (.int .i64 v1.2.1)), (.c (.int .u64 v1.2.2))])), (1, (.box [(.c (.flt .f32 (default : F32).bits)), (.c (.flt .f32 (default : F32).bits)), (.c (.flt .f32 (default : F32).bits)), (.c (.flt .f32 (default : F32).bits))]))]⟩ (Tt ∧ ((4 : Int) ≠ 0) ∧ Tt) [] [0, 2, 4, 12] [0, 1] ⟨tr, c5, tr⟩ ?_
      refine thenQ_normal ?_
      refine AW.block ?_
      refine AW.seq (AW.rA ⟨[(0, (vp 0 0)), (2, (vp 1 0)), (4, (vc (.flt .f32 (Fl.mk (k := .f32) 3212836864 (by decide)).bits))), (12, (vc (.int .i64 (v1.1.tmod (4 : Int))))), (13, (vc (.bool ((v1.1.tmod (4 : Int)) == (0 : Int)))))], [(0, (.box [(.fx 0 0 (sl 1 (csI .u8) a0.code)), (.c (.int .i64 v1.2.1)), (.c (.int .u64 v1.2.2))])), (1, (.box [(.c (.flt .f32 (default : F32).bits)), (.c (.flt .f32 (default : F32).bits)), (.c (.flt .f32 (default : F32).bits)), (.c (.flt .f32 (default : F32).bits))]))]⟩ (T2 Tt) [] [0, 2, 4, 12, 13] [0, 1] ⟨tr, tr, tr⟩ (thenQ_normal ?_))
      rcases ite2_cases h with ⟨b6, h⟩ | ⟨b6, h⟩
      · refine AW.cond_t rfl b6 ?_
        refine AW.seq (AW.rA ⟨[(0, (vp 0 0)), (2, (vp 1 0))], [(0, (.box [(.fx 0 0 (sl 1 (csI .u8) a0.code)), (.c (.int .i64 v1.2.1)), (.c (.int .u64 v1.2.2))])), (1, (.box [(.c (.flt .f32 (Fl.mk (k := .f32) 3212836864 (by decide)).bits)), (.c (.flt .f32 (default : F32).bits)), (.c (.flt .f32 (default : F32).bits)), (.c (.flt .f32 (default : F32).bits))]))]⟩ (Tt ∧ T2 Tt) [] [0, 2] [0, 1] ⟨tr, tr, tr, tr⟩ (thenQ_normal ?_))
        refine AW.ret ?_
        refine blockQ_ret ?_
        refine thenQ_ret ?_
        refine thenQ_ret ?_
        replace h := some_eq h
        subst h
        exact ⟨.inr rfl, retOK_of [(.agg [(.c (.flt .f32 (Fl.mk (k := .f32) 3212836864 (by decide)).bits)), (.c (.flt .f32 (default : F32).bits)), (.c (.flt .f32 (default : F32).bits)), (.c (.flt .f32 (default : F32).bits))])] (by kernel_rfl) ⟨⟨⟨rfl, tr⟩, ⟨rfl, tr⟩, ⟨rfl, tr⟩, ⟨rfl, tr⟩, tr⟩, tr⟩ (of_decide_eq_true (by kernel_rfl)), by kernel_rfl, ⟨⟨rfl, ⟨⟨rfl, rfl⟩, ⟨rfl, rfl⟩, ⟨rfl, rfl⟩, tr⟩⟩, tr⟩⟩
      · refine AW.cond_f rfl b6 ?_
        refine AW.seq (AW.rA ⟨[(0, (vp 0 0)), (2, (vp 1 0)), (4, (vc (.flt .f32 (Fl.mk (k := .f32) 3212836864 (by decide)).bits))), (12, (vc (.int .i64 (v1.1.tmod (4 : Int))))), (17, (vc (.bool ((v1.1.tmod (4 : Int)) == (1 : Int)))))], [(0, (.box [(.fx 0 0 (sl 1 (csI .u8) a0.code)), (.c (.int .i64 v1.2.1)), (.c (.int .u64 v1.2.2))])), (1, (.box [(.c (.flt .f32 (default : F32).bits)), (.c (.flt .f32 (default : F32).bits)), (.c (.flt .f32 (default : F32).bits)), (.c (.flt .f32 (default : F32).bits))]))]⟩ (T2 Tt) [] [0, 2, 4, 12, 17] [0, 1] ⟨tr, tr, tr⟩ (thenQ_normal ?_))
        rcases ite2_cases h with ⟨b7, h⟩ | ⟨b7, h⟩
        · refine AW.cond_t rfl b7 ?_
          refine AW.seq (AW.rA ⟨[(0, (vp 0 0)), (2, (vp 1 0))], [(0, (.box [(.fx 0 0 (sl 1 (csI .u8) a0.code)), (.c (.int .i64 v1.2.1)), (.c (.int .u64 v1.2.2))])), (1, (.box [(.c (.flt .f32 (default : F32).bits)), (.c (.flt .f32 (Fl.mk (k := .f32) 3212836864 (by decide)).bits)), (.c (.flt .f32 (default : F32).bits)), (.c (.flt .f32 (default : F32).bits))]))]⟩ (Tt ∧ T2 Tt) [] [0, 2] [0, 1] ⟨tr, tr, tr, tr⟩ (thenQ_normal ?_))
          refine AW.ret ?_
          refine blockQ_ret ?_
          refine thenQ_ret ?_
          refine thenQ_ret ?_
          replace h := some_eq h
          subst h
          exact ⟨.inr rfl, retOK_of [(.agg [(.c (.flt .f32 (default : F32).bits)), (.c (.flt .f32 (Fl.mk (k := .f32) 3212836864 (by decide)).bits)), (.c (.flt .f32 (default : F32).bits)), (.c (.flt .f32 (default : F32).bits))])] (by kernel_rfl) ⟨⟨⟨rfl, tr⟩, ⟨rfl, tr⟩, ⟨rfl, tr⟩, ⟨rfl, tr⟩, tr⟩, tr⟩ (of_decide_eq_true (by kernel_rfl)), by kernel_rfl, ⟨⟨rfl, ⟨⟨rfl, rfl⟩, ⟨rfl, rfl⟩, ⟨rfl, rfl⟩, tr⟩⟩, tr⟩⟩
        · refine AW.cond_f rfl b7 ?_
          refine AW.seq (AW.rA ⟨[(0, (vp 0 0)), (2, (vp 1 0)), (4, (vc (.flt .f32 (Fl.mk (k := .f32) 3212836864 (by decide)).bits))), (21, (vc (.bool ((v1.1.tmod (4 : Int)) == (2 : Int)))))], [(0, (.box [(.fx 0 0 (sl 1 (csI .u8) a0.code)), (.c (.int .i64 v1.2.1)), (.c (.int .u64 v1.2.2))])), (1, (.box [(.c (.flt .f32 (default : F32).bits)), (.c (.flt .f32 (default : F32).bits)), (.c (.flt .f32 (default : F32).bits)), (.c (.flt .f32 (default : F32).bits))]))]⟩ (T2 Tt) [] [0, 2, 4, 21] [0, 1] ⟨tr, tr, tr⟩ (thenQ_normal ?_))
          rcases ite2_cases h with ⟨b8, h⟩ | ⟨b8, h⟩
          · refine AW.cond_t rfl b8 ?_
            refine AW.seq (AW.rA ⟨[(0, (vp 0 0)), (2, (vp 1 0))], [(0, (.box [(.fx 0 0 (sl 1 (csI .u8) a0.code)), (.c (.int .i64 v1.2.1)), (.c (.int .u64 v1.2.2))])), (1, (.box [(.c (.flt .f32 (default : F32).bits)), (.c (.flt .f32 (default : F32).bits)), (.c (.flt .f32 (Fl.mk (k := .f32) 3212836864 (by decide)).bits)), (.c (.flt .f32 (default : F32).bits))]))]⟩ (Tt ∧ T2 Tt) [] [0, 2] [0, 1] ⟨tr, tr, tr, tr⟩ (thenQ_normal ?_))
            refine AW.ret ?_
            refine blockQ_ret ?_
            refine thenQ_ret ?_
            refine thenQ_ret ?_
            replace h := some_eq h
            subst h
            exact ⟨.inr rfl, retOK_of [(.agg [(.c (.flt .f32 (default : F32).bits)), (.c (.flt .f32 (default : F32).bits)), (.c (.flt .f32 (Fl.mk (k := .f32) 3212836864 (by decide)).bits)), (.c (.flt .f32 (default : F32).bits))])] (by kernel_rfl) ⟨⟨⟨rfl, tr⟩, ⟨rfl, tr⟩, ⟨rfl, tr⟩, ⟨rfl, tr⟩, tr⟩, tr⟩ (of_decide_eq_true (by kernel_rfl)), by kernel_rfl, ⟨⟨rfl, ⟨⟨rfl, rfl⟩, ⟨rfl, rfl⟩, ⟨rfl, rfl⟩, tr⟩⟩, tr⟩⟩
          · refine AW.cond_f rfl b8 ?_
            refine AW.skip ?_
            refine blockQ_normal ?_
            refine thenQ_normal ?_
            refine AW.seq (AW.rA ⟨[(0, (vp 0 0)), (2, (vp 1 0))], [(0, (.box [(.fx 0 0 (sl 1 (csI .u8) a0.code)), (.c (.int .i64 v1.2.1)), (.c (.int .u64 v1.2.2))])), (1, (.box [(.c (.flt .f32 (default : F32).bits)), (.c (.flt .f32 (default : F32).bits)), (.c (.flt .f32 (default : F32).bits)), (.c (.flt .f32 (Fl.mk (k := .f32) 3212836864 (by decide)).bits))]))]⟩ (Tt ∧ T2 Tt) [] [0, 2] [0, 1] ⟨tr, tr, tr, tr⟩ (thenQ_normal ?_))
            refine AW.ret ?_
            refine thenQ_ret ?_
            replace h := some_eq h
            subst h
            exact ⟨.inr rfl, retOK_of [(.agg [(.c (.flt .f32 (default : F32).bits)), (.c (.flt .f32 (default : F32).bits)), (.c (.flt .f32 (default : F32).bits)), (.c (.flt .f32 (Fl.mk (k := .f32) 3212836864 (by decide)).bits))])] (by kernel_rfl) ⟨⟨⟨rfl, tr⟩, ⟨rfl, tr⟩, ⟨rfl, tr⟩, ⟨rfl, tr⟩, tr⟩, tr⟩ (of_decide_eq_true (by kernel_rfl)), by kernel_rfl, ⟨⟨rfl, ⟨⟨rfl, rfl⟩, ⟨rfl, rfl⟩, ⟨rfl, rfl⟩, tr⟩⟩, tr⟩⟩
    · refine AW.cond_f rfl b4 ?_
      refine AW.skip ?_
      refine thenQ_normal ?_
      refine AW.seq ?_
      refine AW.seq ?_
      obtain ⟨c9, h⟩ := chk_some h
      refine AW.rA ⟨[(0, (vp 0 0)), (2, (vp 1 0)), (4, (vc (.flt .f32 (Fl.mk (k := .f32) 1065353216 (by decide)).bits))), (12, (vc (.int .i64 (v1.1.tmod (4 : Int)))))], [(0, (.box [(.fx 0 0 (sl 1 (csI .u8) a0.code)), (.c (.int .i64 v1.2.1)), (.c (.int .u64 v1.2.2))])), (1, (.box [(.c (.flt .f32 (default : F32).bits)), (.c (.flt .f32 (default : F32).bits)), (.c (.flt .f32 (default : F32).bits)), (.c (.flt .f32 (default : F32).bits))]))]⟩ (Tt ∧ ((4 : Int) ≠ 0) ∧ Tt) [] [0, 2, 4, 12] [0, 1] ⟨tr, c9, tr⟩ ?_
      refine thenQ_normal ?_
      refine AW.block ?_
      refine AW.seq (AW.rA ⟨[(0, (vp 0 0)), (2, (vp 1 0)), (4, (vc (.flt .f32 (Fl.mk (k := .f32) 1065353216 (by decide)).bits))), (12, (vc (.int .i64 (v1.1.tmod (4 : Int))))), (13, (vc (.bool ((v1.1.tmod (4 : Int)) == (0 : Int)))))], [(0, (.box [(.fx 0 0 (sl 1 (csI .u8) a0.code)), (.c (.int .i64 v1.2.1)), (.c (.int .u64 v1.2.2))])), (1, (.box [(.c (.flt .f32 (default : F32).bits)), (.c (.flt .f32 (default : F32).bits)), (.c (.flt .f32 (default : F32).bits)), (.c (.flt .f32 (default : F32).bits))]))]⟩ (T2 Tt) [] [0, 2, 4, 12, 13] [0, 1] ⟨tr, tr, tr⟩ (thenQ_normal ?_))
      rcases ite2_cases h with ⟨b10, h⟩ | ⟨b10, h⟩
      · refine AW.cond_t rfl b10 ?_
        refine AW.seq (AW.rA ⟨[(0, (vp 0 0)), (2, (vp 1 0))], [(0, (.box [(.fx 0 0 (sl 1 (csI .u8) a0.code)), (.c (.int .i64 v1.2.1)), (.c (.int .u64 v1.2.2))])), (1, (.box [(.c (.flt .f32 (Fl.mk (k := .f32) 1065353216 (by decide)).bits)), (.c (.flt .f32 (default : F32).bits)), (.c (.flt .f32 (default : F32).bits)), (.c (.flt .f32 (default : F32).bits))]))]⟩ (Tt ∧ T2 Tt) [] [0, 2] [0, 1] ⟨tr, tr, tr, tr⟩ (thenQ_normal ?_))
        refine AW.ret ?_
        refine blockQ_ret ?_
        refine thenQ_ret ?_
        refine thenQ_ret ?_
        replace h := some_eq h
        subst h
        exact ⟨.inr rfl, retOK_of [(.agg [(.c (.flt .f32 (Fl.mk (k := .f32) 1065353216 (by decide)).bits)), (.c (.flt .f32 (default : F32).bits)), (.c (.flt .f32 (default : F32).bits)), (.c (.flt .f32 (default : F32).bits))])] (by kernel_rfl) ⟨⟨⟨rfl, tr⟩, ⟨rfl, tr⟩, ⟨rfl, tr⟩, ⟨rfl, tr⟩, tr⟩, tr⟩ (of_decide_eq_true (by kernel_rfl)), by kernel_rfl, ⟨⟨rfl, ⟨⟨rfl, rfl⟩, ⟨rfl, rfl⟩, ⟨rfl, rfl⟩, tr⟩⟩, tr⟩⟩
      · refine AW.cond_f rfl b10 ?_
        refine AW.seq (AW.rA ⟨[(0, (vp 0 0)), (2, (vp 1 0)), (4, (vc (.flt .f32 (Fl.mk (k := .f32) 1065353216 (by decide)).bits))), (12, (vc (.int .i64 (v1.1.tmod (4 : Int))))), (17, (vc (.bool ((v1.1.tmod (4 : Int)) == (1 : Int)))))], [(0, (.box [(.fx 0 0 (sl 1 (csI .u8) a0.code)), (.c (.int .i64 v1.2.1)), (.c (.int .u64 v1.2.2))])), (1, (.box [(.c (.flt .f32 (default : F32).bits)), (.c (.flt .f32 (default : F32).bits)), (.c (.flt .f32 (default : F32).bits)), (.c (.flt .f32 (default : F32).bits))]))]⟩ (T2 Tt) [] [0, 2, 4, 12, 17] [0, 1] ⟨tr, tr, tr⟩ (thenQ_normal ?_))
        rcases ite2_cases h with ⟨b11, h⟩ | ⟨b11, h⟩
        · refine AW.cond_t rfl b11 ?_
          refine AW.seq (AW.rA ⟨[(0, (vp 0 0)), (2, (vp 1 0))], [(0, (.box [(.fx 0 0 (sl 1 (csI .u8) a0.code)), (.c (.int .i64 v1.2.1)), (.c (.int .u64 v1.2.2))])), (1, (.box [(.c (.flt .f32 (default : F32).bits)), (.c (.flt .f32 (Fl.mk (k := .f32) 1065353216 (by decide)).bits)), (.c (.flt .f32 (default : F32).bits)), (.c (.flt .f32 (default : F32).bits))]))]⟩ (Tt ∧ T2 Tt) [] [0, 2] [0, 1] ⟨tr, tr, tr, tr⟩ (thenQ_normal ?_))
          refine AW.ret ?_
          refine blockQ_ret ?_
          refine thenQ_ret ?_
          refine thenQ_ret ?_
          replace h := some_eq h
          subst h
          exact ⟨.inr rfl, retOK_of [(.agg [(.c (.flt .f32 (default : F32).bits)), (.c (.flt .f32 (Fl.mk (k := .f32) 1065353216 (by decide)).bits)), (.c (.flt .f32 (default : F32).bits)), (.c (.flt .f32 (default : F32).bits))])] (by kernel_rfl) ⟨⟨⟨rfl, tr⟩, ⟨rfl, tr⟩, ⟨rfl, tr⟩, ⟨rfl, tr⟩, tr⟩, tr⟩ (of_decide_eq_true (by kernel_rfl)), by kernel_rfl, ⟨⟨rfl, ⟨⟨rfl, rfl⟩, ⟨rfl, rfl⟩, ⟨rfl, rfl⟩, tr⟩⟩, tr⟩⟩
        · refine AW.cond_f rfl b11 ?_
          refine AW.seq (AW.rA ⟨[(0, (vp 0 0)), (2, (vp 1 0)), (4, (vc (.flt .f32 (Fl.mk (k := .f32) 1065353216 (by decide)).bits))), (21, (vc (.bool ((v1.1.tmod (4 : Int)) == (2 : Int)))))], [(0, (.box [(.fx 0 0 (sl 1 (csI .u8) a0.code)), (.c (.int .i64 v1.2.1)), (.c (.int .u64 v1.2.2))])), (1, (.box [(.c (.flt .f32 (default : F32).bits)), (.c (.flt .f32 (default : F32).bits)), (.c (.flt .f32 (default : F32).bits)), (.c (.flt .f32 (default : F32).bits))]))]⟩ (T2 Tt) [] [0, 2, 4, 21] [0, 1] ⟨tr, tr, tr⟩ (thenQ_normal ?_))
          rcases ite2_cases h with ⟨b12, h⟩ | ⟨b12, h⟩
          · refine AW.cond_t rfl b12 ?_
            refine AW.seq (AW.rA ⟨[(0, (vp 0 0)), (2, (vp 1 0))], [(0, (.box [(.fx 0 0 (sl 1 (csI .u8) a0.code)), (.c (.int .i64 v1.2.1)), (.c (.int .u64 v1.2.2))])), (1, (.box [(.c (.flt .f32 (default : F32).bits)), (.c (.flt .f32 (default : F32).bits)), (.c (.flt .f32 (Fl.mk (k := .f32) 1065353216 (by decide)).bits)), (.c (.flt .f32 (default : F32).bits))]))]⟩ (Tt ∧ T2 Tt) [] [0, 2] [0, 1] ⟨tr, tr, tr, tr⟩ (thenQ_normal ?_))
            refine AW.ret ?_
            refine blockQ_ret ?_
            refine thenQ_ret ?_
            refine thenQ_ret ?_
            replace h := some_eq h
            subst h
            exact ⟨.inr rfl, retOK_of [(.agg [(.c (.flt .f32 (default : F32).bits)), (.c (.flt .f32 (default : F32).bits)), (.c (.flt .f32 (Fl.mk (k := .f32) 1065353216 (by decide)).bits)), (.c (.flt .f32 (default : F32).bits))])] (by kernel_rfl) ⟨⟨⟨rfl, tr⟩, ⟨rfl, tr⟩, ⟨rfl, tr⟩, ⟨rfl, tr⟩, tr⟩, tr⟩ (of_decide_eq_true (by kernel_rfl)), by kernel_rfl, ⟨⟨rfl, ⟨⟨rfl, rfl⟩, ⟨rfl, rfl⟩, ⟨rfl, rfl⟩, tr⟩⟩, tr⟩⟩
          · refine AW.cond_f rfl b12 ?_
            refine AW.skip ?_
            refine blockQ_normal ?_
            refine thenQ_normal ?_
            refine AW.seq (AW.rA ⟨[(0, (vp 0 0)), (2, (vp 1 0))], [(0, (.box [(.fx 0 0 (sl 1 (csI .u8) a0.code)), (.c (.int .i64 v1.2.1)), (.c (.int .u64 v1.2.2))])), (1, (.box [(.c (.flt .f32 (default : F32).bits)), (.c (.flt .f32 (default : F32).bits)), (.c (.flt .f32 (default : F32).bits)), (.c (.flt .f32 (Fl.mk (k := .f32) 1065353216 (by decide)).bits))]))]⟩ (Tt ∧ T2 Tt) [] [0, 2] [0, 1] ⟨tr, tr, tr, tr⟩ (thenQ_normal ?_))
            refine AW.ret ?_
            refine thenQ_ret ?_
            replace h := some_eq h
            subst h
            exact ⟨.inr rfl, retOK_of [(.agg [(.c (.flt .f32 (default : F32).bits)), (.c (.flt .f32 (default : F32).bits)), (.c (.flt .f32 (default : F32).bits)), (.c (.flt .f32 (Fl.mk (k := .f32) 1065353216 (by decide)).bits))])] (by kernel_rfl) ⟨⟨⟨rfl, tr⟩, ⟨rfl, tr⟩, ⟨rfl, tr⟩, ⟨rfl, tr⟩, tr⟩, tr⟩ (of_decide_eq_true (by kernel_rfl)), by kernel_rfl, ⟨⟨rfl, ⟨⟨rfl, rfl⟩, ⟨rfl, rfl⟩, ⟨rfl, rfl⟩, tr⟩⟩, tr⟩⟩
  · refine AW.cond_f rfl b3 ?_
    refine AW.skip ?_
    refine thenQ_normal ?_
    refine AW.seq (AW.rA ⟨[(0, (vp 0 0)), (2, (vp 1 0)), (3, (vc (.int .i64 (IntKind.i64.wrap (v1.1 - (8 : Int))))))], [(0, (.box [(.fx 0 0 (sl 1 (csI .u8) a0.code)), (.c (.int .i64 v1.2.1)), (.c (.int .u64 v1.2.2))])), (1, (.box [(.c (.flt .f32 (default : F32).bits)), (.c (.flt .f32 (default : F32).bits)), (.c (.flt .f32 (default : F32).bits)), (.c (.flt .f32 (default : F32).bits))]))]⟩ (Tt ∧ T2 Tt) [] [0, 2, 3] [0, 1] ⟨tr, tr, tr, tr⟩ (thenQ_normal ?_))
    refine AW.seq ?_
    obtain ⟨c13, h⟩ := chk_some h
    obtain ⟨c14, h⟩ := chk_some h
    obtain ⟨c15, h⟩ := chk_some h
    refine AW.rA ⟨[(0, (vp 0 0)), (2, (vp 1 0))], [(0, (.box [(.fx 0 0 (sl 1 (csI .u8) a0.code)), (.c (.int .i64 v1.2.1)), (.c (.int .u64 v1.2.2))])), (1, (.box [(.c (.flt .f32 ((Fl.ofInt .f32 (bits .and .i64 (IntKind.i64.wrap (v1.1 - (8 : Int))) (1 : Int))).sub (Fl.mk (k := .f32) 1056964608 (by decide))).bits)), (.c (.flt .f32 ((Fl.ofInt .f32 (bits .and .i64 ((IntKind.i64.wrap (v1.1 - (8 : Int))).fdiv (2 ^ (min (1 : Int).toNat (IntKind.bits .i64)))) (1 : Int))).sub (Fl.mk (k := .f32) 1056964608 (by decide))).bits)), (.c (.flt .f32 ((Fl.ofInt .f32 (bits .and .i64 ((IntKind.i64.wrap (v1.1 - (8 : Int))).fdiv (2 ^ (min (2 : Int).toNat (IntKind.bits .i64)))) (1 : Int))).sub (Fl.mk (k := .f32) 1056964608 (by decide))).bits)), (.c (.flt .f32 ((Fl.ofInt .f32 (bits .and .i64 ((IntKind.i64.wrap (v1.1 - (8 : Int))).fdiv (2 ^ (min (3 : Int).toNat (IntKind.bits .i64)))) (1 : Int))).sub (Fl.mk (k := .f32) 1056964608 (by decide))).bits))]))]⟩ (Tt ∧ T4 ((0 ≤ (1 : Int)) ∧ T4 ((0 ≤ (2 : Int)) ∧ T4 ((0 ≤ (3 : Int)) ∧ Tt ∧ T4 Tt)))) [] [0, 2] [0, 1] ⟨tr, tr, tr, tr, tr, c13, tr, tr, tr, tr, c14, tr, tr, tr, tr, c15, tr, tr, tr, tr, tr, tr⟩ ?_
    refine thenQ_normal ?_
    refine AW.ret ?_
    replace h := some_eq h
    subst h
    exact ⟨.inr rfl, retOK_of [(.agg [(.c (.flt .f32 ((Fl.ofInt .f32 (bits .and .i64 (IntKind.i64.wrap (v1.1 - (8 : Int))) (1 : Int))).sub (Fl.mk (k := .f32) 1056964608 (by decide))).bits)), (.c (.flt .f32 ((Fl.ofInt .f32 (bits .and .i64 ((IntKind.i64.wrap (v1.1 - (8 : Int))).fdiv (2 ^ (min (1 : Int).toNat (IntKind.bits .i64)))) (1 : Int))).sub (Fl.mk (k := .f32) 1056964608 (by decide))).bits)), (.c (.flt .f32 ((Fl.ofInt .f32 (bits .and .i64 ((IntKind.i64.wrap (v1.1 - (8 : Int))).fdiv (2 ^ (min (2 : Int).toNat (IntKind.bits .i64)))) (1 : Int))).sub (Fl.mk (k := .f32) 1056964608 (by decide))).bits)), (.c (.flt .f32 ((Fl.ofInt .f32 (bits .and .i64 ((IntKind.i64.wrap (v1.1 - (8 : Int))).fdiv (2 ^ (min (3 : Int).toNat (IntKind.bits .i64)))) (1 : Int))).sub (Fl.mk (k := .f32) 1056964608 (by decide))).bits))])] (by kernel_rfl) ⟨⟨⟨rfl, tr⟩, ⟨rfl, tr⟩, ⟨rfl, tr⟩, ⟨rfl, tr⟩, tr⟩, tr⟩ (of_decide_eq_true (by kernel_rfl)), by kernel_rfl, ⟨⟨rfl, ⟨⟨rfl, rfl⟩, ⟨rfl, rfl⟩, ⟨rfl, rfl⟩, tr⟩⟩, tr⟩⟩

/-! spec.l02Inner -/
def spec_l02Inner (_K : Nat) (a0 : Turn) (a1 : Turn) : Option (F32) :=
  some ((((a0.W.mul a1.W).add (a0.X.mul a1.X)).add (a0.Y.mul a1.Y)).add (a0.Z.mul a1.Z))

theorem ok_spec_l02Inner (K : Nat) (a0 : Turn) (a1 : Turn) (o : (F32)) (h : spec_l02Inner K a0 a1 = some o) : CallOK Try.prog 59 [.agg (cs_Turn a0), .agg (cs_Turn a1)] [.one (.flt .f32 o.bits)] := by
  refine callOK_of_AW Try.func59 rfl (by kernel_rfl) (Nat.le_of_ble_eq_true (by kernel_rfl)) ?_
  intro w0
  unfold spec_l02Inner at h
  refine AW.seq (AW.rA ⟨[(2, (vp 1 0)), (3, (vp 2 0))], [(1, (.box [(.c (.flt .f32 a0.W.bits)), (.c (.flt .f32 a0.X.bits)), (.c (.flt .f32 a0.Y.bits)), (.c (.flt .f32 a0.Z.bits))])), (2, (.box [(.c (.flt .f32 a1.W.bits)), (.c (.flt .f32 a1.X.bits)), (.c (.flt .f32 a1.Y.bits)), (.c (.flt .f32 a1.Z.bits))]))]⟩ (Tt ∧ T2 Tt) [.box 1, .box 2] [2, 3] [1, 2] ⟨tr, tr, tr, tr⟩ (thenQ_normal ?_))
  refine AW.seq (AW.rA ⟨[(2, (vp 1 0)), (3, (vp 2 0)), (5, (vc (.flt .f32 ((a0.W.mul a1.W).add (a0.X.mul a1.X)).bits)))], [(1, (.box [(.c (.flt .f32 a0.W.bits)), (.c (.flt .f32 a0.X.bits)), (.c (.flt .f32 a0.Y.bits)), (.c (.flt .f32 a0.Z.bits))])), (2, (.box [(.c (.flt .f32 a1.W.bits)), (.c (.flt .f32 a1.X.bits)), (.c (.flt .f32 a1.Y.bits)), (.c (.flt .f32 a1.Z.bits))]))]⟩ (T4 (T4 (T4 Tt))) [] [2, 3, 5] [1, 2] ⟨tr, tr, tr, tr, tr, tr, tr, tr, tr, tr, tr, tr, tr⟩ (thenQ_normal ?_))
  refine AW.seq (AW.rA ⟨[(2, (vp 1 0)), (3, (vp 2 0)), (5, (vc (.flt .f32 (((a0.W.mul a1.W).add (a0.X.mul a1.X)).add (a0.Y.mul a1.Y)).bits)))], [(1, (.box [(.c (.flt .f32 a0.W.bits)), (.c (.flt .f32 a0.X.bits)), (.c (.flt .f32 a0.Y.bits)), (.c (.flt .f32 a0.Z.bits))])), (2, (.box [(.c (.flt .f32 a1.W.bits)), (.c (.flt .f32 a1.X.bits)), (.c (.flt .f32 a1.Y.bits)), (.c (.flt .f32 a1.Z.bits))]))]⟩ (T4 (T4 Tt)) [] [2, 3, 5] [1, 2] ⟨tr, tr, tr, tr, tr, tr, tr, tr, tr⟩ (thenQ_normal ?_))
  refine AW.seq (AW.rA ⟨[(4, (vc (.flt .f32 ((((a0.W.mul a1.W).add (a0.X.mul a1.X)).add (a0.Y.mul a1.Y)).add (a0.Z.mul a1.Z)).bits)))], []⟩ (T4 (T4 Tt)) [] [4] [] ⟨tr, tr, tr, tr, tr, tr, tr, tr, tr⟩ (thenQ_normal ?_))
  refine AW.ret ?_
  replace h := some_eq h
  subst h
  exact ⟨.inr rfl, retOK_of [(.one (.c (.flt .f32 ((((a0.W.mul a1.W).add (a0.X.mul a1.X)).add (a0.Y.mul a1.Y)).add (a0.Z.mul a1.Z)).bits)))] (by kernel_rfl) ⟨⟨rfl, tr⟩, tr⟩ (of_decide_eq_true (by kernel_rfl))⟩

/-! math.sqrt -/
def math_sqrt (_K : Nat) (a0 : F64) : Option (F64) :=
  some a0.sqrt

theorem ok_math_sqrt (K : Nat) (a0 : F64) (o : F64) (h : math_sqrt K a0 = some o) : CallOK Try.prog 65 [.one (.flt .f64 a0.bits)] [.one (.flt .f64 o.bits)] :=
  hand_sqrt (e := Extern.MathSqrt.sqrt) Try.func65 (by kernel_rfl) (by kernel_rfl) (by kernel_rfl) (by kernel_rfl) (fun _ => rfl) a0 o h

/-! math.Sqrt -/
def math_Sqrt (K : Nat) (a0 : F64) : Option (F64) :=
  (math_sqrt K a0).bind fun v1 => some v1

theorem ok_math_Sqrt (K : Nat) (a0 : F64) (o : (F64)) (h : math_Sqrt K a0 = some o) : CallOK Try.prog 64 [.one (.flt .f64 a0.bits)] [.one (.flt .f64 o.bits)] := by
  refine callOK_of_AW Try.func64 rfl (by kernel_rfl) (Nat.le_of_ble_eq_true (by kernel_rfl)) ?_
  intro w0
  unfold math_Sqrt at h
  refine AW.seq (AW.rA ⟨[(0, (vc (.flt .f64 a0.bits)))], []⟩ (Tt ∧ Tt) [] [0] [] ⟨tr, tr⟩ (thenQ_normal ?_))
  refine AW.seq ?_
  obtain ⟨v1, e2, h⟩ := bind_some h
  refine AW.rA ⟨[(2, (vc (.flt .f64 v1.bits)))], []⟩ (Tt ∧ (((Eqc (.flt .f64 a0.bits)) ∧ Tt) ∧ CallOK Try.prog 65 [.one (.flt .f64 a0.bits)] [.one (.flt .f64 v1.bits)]) ∧ Tt ∧ Tt) [.no, .call [.one (.flt .f64 a0.bits)] [.one (.flt .f64 v1.bits)] [[.view]]] [2] [] ⟨tr, ⟨⟨rfl, tr⟩, ok_math_sqrt K a0 v1 e2⟩, tr, tr⟩ ?_
  refine thenQ_normal ?_
  refine AW.ret ?_
  replace h := some_eq h
  subst h
  exact ⟨.inr rfl, retOK_of [(.one (.c (.flt .f64 v1.bits)))] (by kernel_rfl) ⟨⟨rfl, tr⟩, tr⟩ (of_decide_eq_true (by kernel_rfl))⟩

/-! spec.l01Narrow -/
def spec_l01Narrow (_K : Nat) (a0 : F64) : Option (F32) :=
  chk ((convBits .f64 a0.bits .f32).isSome = true) (some (Fl.cv .f64 .f32 a0))

theorem ok_spec_l01Narrow (K : Nat) (a0 : F64) (o : (F32)) (h : spec_l01Narrow K a0 = some o) : CallOK Try.prog 63 [.one (.flt .f64 a0.bits)] [.one (.flt .f32 o.bits)] := by
  refine callOK_of_AW Try.func63 rfl (by kernel_rfl) (Nat.le_of_ble_eq_true (by kernel_rfl)) ?_
  intro w0
  unfold spec_l01Narrow at h
  refine AW.seq (AW.rA ⟨[(0, (vc (.flt .f64 a0.bits)))], []⟩ (Tt ∧ Tt) [] [0] [] ⟨tr, tr⟩ (thenQ_normal ?_))
  refine AW.seq ?_
  obtain ⟨c1, h⟩ := chk_some h
  refine AW.rA ⟨[(2, (vc (.flt .f32 (Fl.cv .f64 .f32 a0).bits)))], []⟩ (Tt ∧ ((convBits .f64 a0.bits .f32).isSome = true) ∧ Tt ∧ Tt) [] [2] [] ⟨tr, c1, tr, tr⟩ ?_
  refine thenQ_normal ?_
  refine AW.ret ?_
  replace h := some_eq h
  subst h
  exact ⟨.inr rfl, retOK_of [(.one (.c (.flt .f32 (Fl.cv .f64 .f32 a0).bits)))] (by kernel_rfl) ⟨⟨rfl, tr⟩, tr⟩ (of_decide_eq_true (by kernel_rfl))⟩

/-! spec.l01Sqrt -/
def spec_l01Sqrt (K : Nat) (a0 : F32) : Option (F32) :=
  (math_Sqrt K (Fl.cv .f32 .f64 a0)).bind fun v1 => (spec_l01Narrow K v1).bind fun v3 => some v3

theorem ok_spec_l01Sqrt (K : Nat) (a0 : F32) (o : (F32)) (h : spec_l01Sqrt K a0 = some o) : CallOK Try.prog 58 [.one (.flt .f32 a0.bits)] [.one (.flt .f32 o.bits)] := by
  refine callOK_of_AW Try.func58 rfl (by kernel_rfl) (Nat.le_of_ble_eq_true (by kernel_rfl)) ?_
  intro w0
  unfold spec_l01Sqrt at h
  refine AW.seq (AW.rA ⟨[(0, (vc (.flt .f32 a0.bits)))], []⟩ (Tt ∧ Tt) [] [0] [] ⟨tr, tr⟩ (thenQ_normal ?_))
  refine AW.seq ?_
  obtain ⟨v1, e2, h⟩ := bind_some h
  obtain ⟨v3, e4, h⟩ := bind_some h
  refine AW.rA ⟨[(2, (vc (.flt .f32 v3.bits)))], []⟩ (Tt ∧ ((convBits .f32 a0.bits .f64).isSome = true) ∧ (((Eqc (.flt .f64 (Fl.cv .f32 .f64 a0).bits)) ∧ Tt) ∧ CallOK Try.prog 64 [.one (.flt .f64 (Fl.cv .f32 .f64 a0).bits)] [.one (.flt .f64 v1.bits)]) ∧ (((Eqc (.flt .f64 v1.bits)) ∧ Tt) ∧ CallOK Try.prog 63 [.one (.flt .f64 v1.bits)] [.one (.flt .f32 v3.bits)]) ∧ Tt ∧ Tt) [.no, .no, .call [.one (.flt .f64 (Fl.cv .f32 .f64 a0).bits)] [.one (.flt .f64 v1.bits)] [[.view]], .call [.one (.flt .f64 v1.bits)] [.one (.flt .f32 v3.bits)] [[.view]]] [2] [] ⟨tr, cv_wide a0, ⟨⟨rfl, tr⟩, ok_math_Sqrt K (Fl.cv .f32 .f64 a0) v1 e2⟩, ⟨⟨rfl, tr⟩, ok_spec_l01Narrow K v1 v3 e4⟩, tr, tr⟩ ?_
  refine thenQ_normal ?_
  refine AW.ret ?_
  replace h := some_eq h
  subst h
  exact ⟨.inr rfl, retOK_of [(.one (.c (.flt .f32 v3.bits)))] (by kernel_rfl) ⟨⟨rfl, tr⟩, tr⟩ (of_decide_eq_true (by kernel_rfl))⟩

/-! spec.l01Finite -/
def spec_l01Finite (_K : Nat) (a0 : F32) : Option (Bool) :=
  some ((a0.sub a0).eq (Fl.mk (k := .f32) 0 (by decide)))

theorem ok_spec_l01Finite (K : Nat) (a0 : F32) (o : (Bool)) (h : spec_l01Finite K a0 = some o) : CallOK Try.prog 60 [.one (.flt .f32 a0.bits)] [.one (.bool o)] := by
  refine callOK_of_AW Try.func60 rfl (by kernel_rfl) (Nat.le_of_ble_eq_true (by kernel_rfl)) ?_
  intro w0
  unfold spec_l01Finite at h
  refine AW.seq (AW.rA ⟨[(0, (vc (.flt .f32 a0.bits)))], []⟩ (Tt ∧ Tt) [] [0] [] ⟨tr, tr⟩ (thenQ_normal ?_))
  refine AW.seq (AW.rA ⟨[(2, (vc (.bool ((a0.sub a0).eq (Fl.mk (k := .f32) 0 (by decide))))))], []⟩ (Tt ∧ T4 Tt) [] [2] [] ⟨tr, tr, tr, tr, tr, tr⟩ (thenQ_normal ?_))
  refine AW.ret ?_
  replace h := some_eq h
  subst h
  exact ⟨.inr rfl, retOK_of [(.one (.c (.bool ((a0.sub a0).eq (Fl.mk (k := .f32) 0 (by decide))))))] (by kernel_rfl) ⟨⟨rfl, tr⟩, tr⟩ (of_decide_eq_true (by kernel_rfl))⟩

/-! spec.l02No -/
def spec_l02No (_K : Nat) : Option (Turn) :=
  some (Turn.mk (Fl.mk (k := .f32) 1065353216 (by decide)) (default : F32) (default : F32) (default : F32))

theorem ok_spec_l02No (K : Nat) (o : (Turn)) (h : spec_l02No K  = some o) : CallOK Try.prog 61 [] [.agg (cs_Turn o)] := by
  refine callOK_of_AW Try.func61 rfl (by kernel_rfl) (Nat.le_of_ble_eq_true (by kernel_rfl)) ?_
  intro w0
  unfold spec_l02No at h
  refine AW.seq (AW.rA ⟨[(0, (vp 1 0))], [(1, (.box [(.c (.flt .f32 (default : F32).bits)), (.c (.flt .f32 (default : F32).bits)), (.c (.flt .f32 (default : F32).bits)), (.c (.flt .f32 (default : F32).bits))]))]⟩ (Tt ∧ Tt) [.box 1] [0] [1] ⟨tr, tr⟩ (thenQ_normal ?_))
  refine AW.seq (AW.rA ⟨[(0, (vp 1 0))], [(1, (.box [(.c (.flt .f32 (Fl.mk (k := .f32) 1065353216 (by decide)).bits)), (.c (.flt .f32 (default : F32).bits)), (.c (.flt .f32 (default : F32).bits)), (.c (.flt .f32 (default : F32).bits))]))]⟩ (T2 Tt) [] [0] [1] ⟨tr, tr, tr⟩ (thenQ_normal ?_))
  refine AW.ret ?_
  replace h := some_eq h
  subst h
  exact ⟨.inr rfl, retOK_of [(.agg [(.c (.flt .f32 (Fl.mk (k := .f32) 1065353216 (by decide)).bits)), (.c (.flt .f32 (default : F32).bits)), (.c (.flt .f32 (default : F32).bits)), (.c (.flt .f32 (default : F32).bits))])] (by kernel_rfl) ⟨⟨⟨rfl, tr⟩, ⟨rfl, tr⟩, ⟨rfl, tr⟩, ⟨rfl, tr⟩, tr⟩, tr⟩ (of_decide_eq_true (by kernel_rfl))⟩

/-! spec.l02Mend -/
def spec_l02Mend (K : Nat) (a0 : Turn) : Option (Turn) :=
  (spec_l02Inner K a0 a0).bind fun v1 => (spec_l01Sqrt K v1).bind fun v3 => (ite2 ((v3.eq (Fl.mk (k := .f32) 0 (by decide)))) (some true) ((spec_l01Finite K v3).bind fun v6 => some (!v6))).bind fun j8 => ite2 (j8) ((spec_l02No K ).bind fun v11 => some v11) (some (Turn.mk (a0.W.div v3) (a0.X.div v3) (a0.Y.div v3) (a0.Z.div v3)))

theorem ok_spec_l02Mend (K : Nat) (a0 : Turn) (o : (Turn)) (h : spec_l02Mend K a0 = some o) : CallOK Try.prog 56 [.agg (cs_Turn a0)] [.agg (cs_Turn o)] := by
  refine callOK_of_AW Try.func56 rfl (by kernel_rfl) (Nat.le_of_ble_eq_true (by kernel_rfl)) ?_
  intro w0
  unfold spec_l02Mend at h
  refine AW.seq (AW.rA ⟨[(1, (vp 1 0)), (2, (vp 2 0))], [(1, (.box [(.c (.flt .f32 a0.W.bits)), (.c (.flt .f32 a0.X.bits)), (.c (.flt .f32 a0.Y.bits)), (.c (.flt .f32 a0.Z.bits))])), (2, (.box [(.c (.flt .f32 (default : F32).bits)), (.c (.flt .f32 (default : F32).bits)), (.c (.flt .f32 (default : F32).bits)), (.c (.flt .f32 (default : F32).bits))]))]⟩ (T2 Tt) [.box 1, .box 2] [1, 2] [1, 2] ⟨tr, tr, tr⟩ (thenQ_normal ?_))
  refine AW.seq ?_
  obtain ⟨v1, e2, h⟩ := bind_some h
  obtain ⟨v3, e4, h⟩ := bind_some h
  refine AW.rA ⟨[(1, (vp 1 0)), (2, (vp 2 0)), (3, (vc (.flt .f32 v3.bits)))], [(1, (.box [(.c (.flt .f32 a0.W.bits)), (.c (.flt .f32 a0.X.bits)), (.c (.flt .f32 a0.Y.bits)), (.c (.flt .f32 a0.Z.bits))])), (2, (.box [(.c (.flt .f32 (default : F32).bits)), (.c (.flt .f32 (default : F32).bits)), (.c (.flt .f32 (default : F32).bits)), (.c (.flt .f32 (default : F32).bits))]))]⟩ (T2 (((((Eqc (.flt .f32 a0.W.bits)) ∧ (Eqc (.flt .f32 a0.X.bits)) ∧ (Eqc (.flt .f32 a0.Y.bits)) ∧ (Eqc (.flt .f32 a0.Z.bits)) ∧ Tt) ∧ ((Eqc (.flt .f32 a0.W.bits)) ∧ (Eqc (.flt .f32 a0.X.bits)) ∧ (Eqc (.flt .f32 a0.Y.bits)) ∧ (Eqc (.flt .f32 a0.Z.bits)) ∧ Tt) ∧ Tt) ∧ CallOK Try.prog 59 [.agg (cs_Turn a0), .agg (cs_Turn a0)] [.one (.flt .f32 v1.bits)]) ∧ (((Eqc (.flt .f32 v1.bits)) ∧ Tt) ∧ CallOK Try.prog 58 [.one (.flt .f32 v1.bits)] [.one (.flt .f32 v3.bits)]) ∧ Tt ∧ Tt)) [.no, .no, .call [.agg (cs_Turn a0), .agg (cs_Turn a0)] [.one (.flt .f32 v1.bits)] [[.view]], .call [.one (.flt .f32 v1.bits)] [.one (.flt .f32 v3.bits)] [[.view]]] [1, 2, 3] [1, 2] ⟨tr, tr, ⟨⟨⟨rfl, rfl, rfl, rfl, tr⟩, ⟨rfl, rfl, rfl, rfl, tr⟩, tr⟩, ok_spec_l02Inner K a0 a0 v1 e2⟩, ⟨⟨rfl, tr⟩, ok_spec_l01Sqrt K v1 v3 e4⟩, tr, tr⟩ ?_
  refine thenQ_normal ?_
  refine AW.seq ?_
  refine AW.seq ?_
  obtain ⟨j8, e9, h⟩ := bind_some h
  refine AW.join1 (s2 := ⟨[(1, (vp 1 0)), (2, (vp 2 0)), (3, (vc (.flt .f32 v3.bits))), (14, (vc (.bool j8)))], [(1, (.box [(.c (.flt .f32 a0.W.bits)), (.c (.flt .f32 a0.X.bits)), (.c (.flt .f32 a0.Y.bits)), (.c (.flt .f32 a0.Z.bits))])), (2, (.box [(.c (.flt .f32 (default : F32).bits)), (.c (.flt .f32 (default : F32).bits)), (.c (.flt .f32 (default : F32).bits)), (.c (.flt .f32 (default : F32).bits))]))]⟩) ?_ ?_
  · rcases ite2_cases e9 with ⟨b5, e9⟩ | ⟨b5, e9⟩
    · replace e9 := some_eq e9
      subst e9
      exact AW.rA ⟨[(1, (vp 1 0)), (2, (vp 2 0)), (3, (vc (.flt .f32 v3.bits))), (14, (vc (.bool true)))], [(1, (.box [(.c (.flt .f32 a0.W.bits)), (.c (.flt .f32 a0.X.bits)), (.c (.flt .f32 a0.Y.bits)), (.c (.flt .f32 a0.Z.bits))])), (2, (.box [(.c (.flt .f32 (default : F32).bits)), (.c (.flt .f32 (default : F32).bits)), (.c (.flt .f32 (default : F32).bits)), (.c (.flt .f32 (default : F32).bits))]))]⟩ (T2 ((Tt ∧ (v3.eq (Fl.mk (k := .f32) 0 (by decide))) = true) ∧ T4 Tt)) [.no, .no, .dec true] [1, 2, 3, 14] [1, 2] ⟨tr, tr, ⟨tr, b5⟩, tr, tr, tr, tr, tr⟩ ⟨rfl, rfl⟩
    · obtain ⟨v6, e7, e9⟩ := bind_some e9
      replace e9 := some_eq e9
      subst e9
      exact AW.rA ⟨[(1, (vp 1 0)), (2, (vp 2 0)), (3, (vc (.flt .f32 v3.bits))), (14, (vc (.bool (!v6))))], [(1, (.box [(.c (.flt .f32 a0.W.bits)), (.c (.flt .f32 a0.X.bits)), (.c (.flt .f32 a0.Y.bits)), (.c (.flt .f32 a0.Z.bits))])), (2, (.box [(.c (.flt .f32 (default : F32).bits)), (.c (.flt .f32 (default : F32).bits)), (.c (.flt .f32 (default : F32).bits)), (.c (.flt .f32 (default : F32).bits))]))]⟩ (T2 ((Tt ∧ (v3.eq (Fl.mk (k := .f32) 0 (by decide))) = false) ∧ Tt ∧ (((Eqc (.flt .f32 v3.bits)) ∧ Tt) ∧ CallOK Try.prog 60 [.one (.flt .f32 v3.bits)] [.one (.bool v6)]) ∧ T2 Tt)) [.no, .no, .dec false, .no, .call [.one (.flt .f32 v3.bits)] [.one (.bool v6)] [[.view]]] [1, 2, 3, 14] [1, 2] ⟨tr, tr, ⟨tr, b5⟩, tr, ⟨⟨rfl, tr⟩, ok_spec_l01Finite K v3 v6 e7⟩, tr, tr, tr⟩ ⟨rfl, rfl⟩
  refine thenQ_normal ?_
  rcases ite2_cases h with ⟨b10, h⟩ | ⟨b10, h⟩
  · refine AW.cond_t rfl b10 ?_
    refine AW.seq ?_
    obtain ⟨v11, e12, h⟩ := bind_some h
    refine AW.rA ⟨[(2, (vp 2 0))], [(2, (.box [(.c (.flt .f32 v11.W.bits)), (.c (.flt .f32 v11.X.bits)), (.c (.flt .f32 v11.Y.bits)), (.c (.flt .f32 v11.Z.bits))]))]⟩ (((Tt) ∧ CallOK Try.prog 61 [] [.agg (cs_Turn v11)]) ∧ Tt ∧ Tt) [.call [] [.agg (cs_Turn v11)] [[.view, .view, .view, .view]]] [2] [2] ⟨⟨tr, ok_spec_l02No K v11 e12⟩, tr, tr⟩ ?_
    refine thenQ_normal ?_
    refine AW.ret ?_
    refine thenQ_ret ?_
    replace h := some_eq h
    subst h
    exact ⟨.inr rfl, retOK_of [(.agg [(.c (.flt .f32 v11.W.bits)), (.c (.flt .f32 v11.X.bits)), (.c (.flt .f32 v11.Y.bits)), (.c (.flt .f32 v11.Z.bits))])] (by kernel_rfl) ⟨⟨⟨rfl, tr⟩, ⟨rfl, tr⟩, ⟨rfl, tr⟩, ⟨rfl, tr⟩, tr⟩, tr⟩ (of_decide_eq_true (by kernel_rfl))⟩
  · refine AW.cond_f rfl b10 ?_
    refine AW.skip ?_
    refine thenQ_normal ?_
    refine AW.seq (AW.rA ⟨[(2, (vp 2 0))], [(2, (.box [(.c (.flt .f32 (a0.W.div v3).bits)), (.c (.flt .f32 (a0.X.div v3).bits)), (.c (.flt .f32 (a0.Y.div v3).bits)), (.c (.flt .f32 (a0.Z.div v3).bits))]))]⟩ (T2 (T4 (T4 (T4 (T4 Tt))))) [] [2] [2] ⟨tr, tr, tr, tr, tr, tr, tr, tr, tr, tr, tr, tr, tr, tr, tr, tr, tr, tr, tr⟩ (thenQ_normal ?_))
    refine AW.ret ?_
    replace h := some_eq h
    subst h
    exact ⟨.inr rfl, retOK_of [(.agg [(.c (.flt .f32 (a0.W.div v3).bits)), (.c (.flt .f32 (a0.X.div v3).bits)), (.c (.flt .f32 (a0.Y.div v3).bits)), (.c (.flt .f32 (a0.Z.div v3).bits))])] (by kernel_rfl) ⟨⟨⟨rfl, tr⟩, ⟨rfl, tr⟩, ⟨rfl, tr⟩, ⟨rfl, tr⟩, tr⟩, tr⟩ (of_decide_eq_true (by kernel_rfl))⟩

/-! spec.l02DrawTurn -/
def spec_l02DrawTurn (K : Nat) (a0 : l00Src) : Option (Turn × Int × Int) :=
  (spec_l00Src_one K a0 (2 : Int)).bind fun v1 => ite2 (v1.1) ((spec_l02DrawExact K (l00Src.mk a0.code v1.2.1 v1.2.2)).bind fun v4 => some (v4.1, v4.2.1, v4.2.2)) ((spec_l01DrawSmall K (l00Src.mk a0.code v1.2.1 v1.2.2)).bind fun v6 => (spec_l01DrawSmall K (l00Src.mk a0.code v6.2.1 v6.2.2)).bind fun v8 => (spec_l01DrawSmall K (l00Src.mk a0.code v8.2.1 v8.2.2)).bind fun v10 => (spec_l01DrawSmall K (l00Src.mk a0.code v10.2.1 v10.2.2)).bind fun v12 => (spec_l02Mend K (Turn.mk v6.1 v8.1 v10.1 v12.1)).bind fun v14 => some (v14, v12.2.1, v12.2.2))

theorem ok_spec_l02DrawTurn (K : Nat) (a0 : l00Src) (o : (Turn × Int × Int)) (h : spec_l02DrawTurn K a0 = some o) : MutOK Try.prog 47 [(.box 3 (fun j => [true, false, false].getD j true) (fun j => (cs_l00Src a0).getD j .nilptr) (fun j => [.nilptr, (.int .i64 o.2.1), (.int .u64 o.2.2)].getD j .nilptr))] [.agg (cs_Turn o.1)] := by
  refine mutOK_of_AW 1 Try.func47 rfl (by kernel_rfl) (Nat.le_of_ble_eq_true (by kernel_rfl)) (by kernel_rfl) (by kernel_rfl) ?_
  intro w0 K0 v0 s0
  unfold spec_l02DrawTurn at h
  refine AW.weak (s' := ⟨[(0, (vp 0 0))], [(0, (.box [(.fx 0 0 (sl 1 (csI .u8) a0.code)), (.c (.int .i64 a0.at_)), (.c (.int .u64 a0.seed))]))]⟩) (subUnfx 0 [1, 2] (by kernel_rfl)) ?_
  refine AW.seq (AW.rA ⟨[(0, (vp 0 0)), (2, (vp 1 0))], [(0, (.box [(.fx 0 0 (sl 1 (csI .u8) a0.code)), (.c (.int .i64 a0.at_)), (.c (.int .u64 a0.seed))])), (1, (.box [(.c (.flt .f32 (default : F32).bits)), (.c (.flt .f32 (default : F32).bits)), (.c (.flt .f32 (default : F32).bits)), (.c (.flt .f32 (default : F32).bits))]))]⟩ (Tt ∧ Tt) [.box 1] [0, 2] [0, 1] ⟨tr, tr⟩ (thenQ_normal ?_))
  refine AW.seq ?_
  refine AW.seq ?_
  obtain ⟨v1, e2, h⟩ := bind_some h
  refine AW.rA ⟨[(0, (vp 0 0)), (2, (vp 1 0)), (5, (vc (.bool v1.1)))], [(0, (.box [(.fx 0 0 (sl 1 (csI .u8) a0.code)), (.c (.int .i64 v1.2.1)), (.c (.int .u64 v1.2.2))])), (1, (.box [(.c (.flt .f32 (default : F32).bits)), (.c (.flt .f32 (default : F32).bits)), (.c (.flt .f32 (default : F32).bits)), (.c (.flt .f32 (default : F32).bits))]))]⟩ (Tt ∧ ((((Eqc (sl 1 (csI .u8) a0.code)) ∧ (Eqc (.int .i64 a0.at_)) ∧ (Eqc (.int .u64 a0.seed)) ∧ Tt) ∧ (Eqc (.int .i64 (2 : Int))) ∧ Tt) ∧ MutOK Try.prog 31 [(.box 3 (fun j => [true, false, false].getD j true) (fun j => (cs_l00Src a0).getD j .nilptr) (fun j => [.nilptr, (.int .i64 v1.2.1), (.int .u64 v1.2.2)].getD j .nilptr)), .one (.ro (.int .i64 (2 : Int)))] [.one (.bool v1.1)]) ∧ Tt) [.no, .callM [(.box 3 (fun j => [true, false, false].getD j true) (fun j => (cs_l00Src a0).getD j .nilptr) (fun j => [.nilptr, (.int .i64 v1.2.1), (.int .u64 v1.2.2)].getD j .nilptr)), .one (.ro (.int .i64 (2 : Int)))] [.one (.bool v1.1)] [[.view]] none] [0, 2, 5] [0, 1] ⟨tr, ⟨⟨⟨rfl, rfl, rfl, tr⟩, rfl, tr⟩, ok_spec_l00Src_one K a0 (2 : Int) v1 e2⟩, tr⟩ ?_
  refine thenQ_normal ?_
  rcases ite2_cases h with ⟨b3, h⟩ | ⟨b3, h⟩
  · refine AW.cond_t rfl b3 ?_
    refine AW.seq ?_
    obtain ⟨v4, e5, h⟩ := bind_some h
    refine AW.rA ⟨[(0, (vp 0 0)), (2, (vp 1 0))], [(0, (.box [(.fx 0 0 (sl 1 (csI .u8) a0.code)), (.c (.int .i64 v4.2.1)), (.c (.int .u64 v4.2.2))])), (1, (.box [(.c (.flt .f32 v4.1.W.bits)), (.c (.flt .f32 v4.1.X.bits)), (.c (.flt .f32 v4.1.Y.bits)), (.c (.flt .f32 v4.1.Z.bits))]))]⟩ (Tt ∧ ((((Eqc (sl 1 (csI .u8) a0.code)) ∧ (Eqc (.int .i64 v1.2.1)) ∧ (Eqc (.int .u64 v1.2.2)) ∧ Tt) ∧ Tt) ∧ MutOK Try.prog 55 [(.box 3 (fun j => [true, false, false].getD j true) (fun j => (cs_l00Src (l00Src.mk a0.code v1.2.1 v1.2.2)).getD j .nilptr) (fun j => [.nilptr, (.int .i64 v4.2.1), (.int .u64 v4.2.2)].getD j .nilptr))] [.agg (cs_Turn v4.1)]) ∧ Tt ∧ Tt) [.no, .callM [(.box 3 (fun j => [true, false, false].getD j true) (fun j => (cs_l00Src (l00Src.mk a0.code v1.2.1 v1.2.2)).getD j .nilptr) (fun j => [.nilptr, (.int .i64 v4.2.1), (.int .u64 v4.2.2)].getD j .nilptr))] [.agg (cs_Turn v4.1)] [[.view, .view, .view, .view]] none] [0, 2] [0, 1] ⟨tr, ⟨⟨⟨rfl, rfl, rfl, tr⟩, tr⟩, ok_spec_l02DrawExact K (l00Src.mk a0.code v1.2.1 v1.2.2) v4 e5⟩, tr, tr⟩ ?_
    refine thenQ_normal ?_
    refine AW.ret ?_
    refine thenQ_ret ?_
    replace h := some_eq h
    subst h
    exact ⟨.inr rfl, retOK_of [(.agg [(.c (.flt .f32 v4.1.W.bits)), (.c (.flt .f32 v4.1.X.bits)), (.c (.flt .f32 v4.1.Y.bits)), (.c (.flt .f32 v4.1.Z.bits))])] (by kernel_rfl) ⟨⟨⟨rfl, tr⟩, ⟨rfl, tr⟩, ⟨rfl, tr⟩, ⟨rfl, tr⟩, tr⟩, tr⟩ (of_decide_eq_true (by kernel_rfl)), by kernel_rfl, ⟨⟨rfl, ⟨⟨rfl, rfl⟩, ⟨rfl, rfl⟩, ⟨rfl, rfl⟩, tr⟩⟩, tr⟩⟩
  · refine AW.cond_f rfl b3 ?_
    refine AW.skip ?_
    refine thenQ_normal ?_
    refine AW.seq ?_
    obtain ⟨v6, e7, h⟩ := bind_some h
    refine AW.rA ⟨[(0, (vp 0 0)), (2, (vp 1 0)), (3, (vp 2 0))], [(0, (.box [(.fx 0 0 (sl 1 (csI .u8) a0.code)), (.c (.int .i64 v6.2.1)), (.c (.int .u64 v6.2.2))])), (1, (.box [(.c (.flt .f32 (default : F32).bits)), (.c (.flt .f32 (default : F32).bits)), (.c (.flt .f32 (default : F32).bits)), (.c (.flt .f32 (default : F32).bits))])), (2, (.box [(.c (.flt .f32 v6.1.bits)), (.c (.flt .f32 (default : F32).bits)), (.c (.flt .f32 (default : F32).bits)), (.c (.flt .f32 (default : F32).bits))]))]⟩ (Tt ∧ ((((Eqc (sl 1 (csI .u8) a0.code)) ∧ (Eqc (.int .i64 v1.2.1)) ∧ (Eqc (.int .u64 v1.2.2)) ∧ Tt) ∧ Tt) ∧ MutOK Try.prog 54 [(.box 3 (fun j => [true, false, false].getD j true) (fun j => (cs_l00Src (l00Src.mk a0.code v1.2.1 v1.2.2)).getD j .nilptr) (fun j => [.nilptr, (.int .i64 v6.2.1), (.int .u64 v6.2.2)].getD j .nilptr))] [.one (.flt .f32 v6.1.bits)]) ∧ Tt ∧ T2 Tt) [.no, .callM [(.box 3 (fun j => [true, false, false].getD j true) (fun j => (cs_l00Src (l00Src.mk a0.code v1.2.1 v1.2.2)).getD j .nilptr) (fun j => [.nilptr, (.int .i64 v6.2.1), (.int .u64 v6.2.2)].getD j .nilptr))] [.one (.flt .f32 v6.1.bits)] [[.view]] none, .no, .box 2] [0, 2, 3] [0, 1, 2] ⟨tr, ⟨⟨⟨rfl, rfl, rfl, tr⟩, tr⟩, ok_spec_l01DrawSmall K (l00Src.mk a0.code v1.2.1 v1.2.2) v6 e7⟩, tr, tr, tr, tr⟩ ?_
    refine thenQ_normal ?_
    refine AW.seq ?_
    obtain ⟨v8, e9, h⟩ := bind_some h
    refine AW.rA ⟨[(0, (vp 0 0)), (2, (vp 1 0)), (3, (vp 2 0))], [(0, (.box [(.fx 0 0 (sl 1 (csI .u8) a0.code)), (.c (.int .i64 v8.2.1)), (.c (.int .u64 v8.2.2))])), (1, (.box [(.c (.flt .f32 (default : F32).bits)), (.c (.flt .f32 (default : F32).bits)), (.c (.flt .f32 (default : F32).bits)), (.c (.flt .f32 (default : F32).bits))])), (2, (.box [(.c (.flt .f32 v6.1.bits)), (.c (.flt .f32 v8.1.bits)), (.c (.flt .f32 (default : F32).bits)), (.c (.flt .f32 (default : F32).bits))]))]⟩ (Tt ∧ ((((Eqc (sl 1 (csI .u8) a0.code)) ∧ (Eqc (.int .i64 v6.2.1)) ∧ (Eqc (.int .u64 v6.2.2)) ∧ Tt) ∧ Tt) ∧ MutOK Try.prog 54 [(.box 3 (fun j => [true, false, false].getD j true) (fun j => (cs_l00Src (l00Src.mk a0.code v6.2.1 v6.2.2)).getD j .nilptr) (fun j => [.nilptr, (.int .i64 v8.2.1), (.int .u64 v8.2.2)].getD j .nilptr))] [.one (.flt .f32 v8.1.bits)]) ∧ T2 Tt) [.no, .callM [(.box 3 (fun j => [true, false, false].getD j true) (fun j => (cs_l00Src (l00Src.mk a0.code v6.2.1 v6.2.2)).getD j .nilptr) (fun j => [.nilptr, (.int .i64 v8.2.1), (.int .u64 v8.2.2)].getD j .nilptr))] [.one (.flt .f32 v8.1.bits)] [[.view]] none] [0, 2, 3] [0, 1, 2] ⟨tr, ⟨⟨⟨rfl, rfl, rfl, tr⟩, tr⟩, ok_spec_l01DrawSmall K (l00Src.mk a0.code v6.2.1 v6.2.2) v8 e9⟩, tr, tr, tr⟩ ?_
    refine thenQ_normal ?_
    refine AW.seq ?_
    obtain ⟨v10, e11, h⟩ := bind_some h
    refine AW.rA ⟨[(0, (vp 0 0)), (2, (vp 1 0)), (3, (vp 2 0))], [(0, (.box [(.fx 0 0 (sl 1 (csI .u8) a0.code)), (.c (.int .i64 v10.2.1)), (.c (.int .u64 v10.2.2))])), (1, (.box [(.c (.flt .f32 (default : F32).bits)), (.c (.flt .f32 (default : F32).bits)), (.c (.flt .f32 (default : F32).bits)), (.c (.flt .f32 (default : F32).bits))])), (2, (.box [(.c (.flt .f32 v6.1.bits)), (.c (.flt .f32 v8.1.bits)), (.c (.flt .f32 v10.1.bits)), (.c (.flt .f32 (default : F32).bits))]))]⟩ (Tt ∧ ((((Eqc (sl 1 (csI .u8) a0.code)) ∧ (Eqc (.int .i64 v8.2.1)) ∧ (Eqc (.int .u64 v8.2.2)) ∧ Tt) ∧ Tt) ∧ MutOK Try.prog 54 [(.box 3 (fun j => [true, false, false].getD j true) (fun j => (cs_l00Src (l00Src.mk a0.code v8.2.1 v8.2.2)).getD j .nilptr) (fun j => [.nilptr, (.int .i64 v10.2.1), (.int .u64 v10.2.2)].getD j .nilptr))] [.one (.flt .f32 v10.1.bits)]) ∧ T2 Tt) [.no, .callM [(.box 3 (fun j => [true, false, false].getD j true) (fun j => (cs_l00Src (l00Src.mk a0.code v8.2.1 v8.2.2)).getD j .nilptr) (fun j => [.nilptr, (.int .i64 v10.2.1), (.int .u64 v10.2.2)].getD j .nilptr))] [.one (.flt .f32 v10.1.bits)] [[.view]] none] [0, 2, 3] [0, 1, 2] ⟨tr, ⟨⟨⟨rfl, rfl, rfl, tr⟩, tr⟩, ok_spec_l01DrawSmall K (l00Src.mk a0.code v8.2.1 v8.2.2) v10 e11⟩, tr, tr, tr⟩ ?_
    refine thenQ_normal ?_
    refine AW.seq ?_
    obtain ⟨v12, e13, h⟩ := bind_some h
    refine AW.rA ⟨[(0, (vp 0 0)), (2, (vp 1 0)), (3, (vp 2 0))], [(0, (.box [(.fx 0 0 (sl 1 (csI .u8) a0.code)), (.c (.int .i64 v12.2.1)), (.c (.int .u64 v12.2.2))])), (1, (.box [(.c (.flt .f32 (default : F32).bits)), (.c (.flt .f32 (default : F32).bits)), (.c (.flt .f32 (default : F32).bits)), (.c (.flt .f32 (default : F32).bits))])), (2, (.box [(.c (.flt .f32 v6.1.bits)), (.c (.flt .f32 v8.1.bits)), (.c (.flt .f32 v10.1.bits)), (.c (.flt .f32 v12.1.bits))]))]⟩ (Tt ∧ ((((Eqc (sl 1 (csI .u8) a0.code)) ∧ (Eqc (.int .i64 v10.2.1)) ∧ (Eqc (.int .u64 v10.2.2)) ∧ Tt) ∧ Tt) ∧ MutOK Try.prog 54 [(.box 3 (fun j => [true, false, false].getD j true) (fun j => (cs_l00Src (l00Src.mk a0.code v10.2.1 v10.2.2)).getD j .nilptr) (fun j => [.nilptr, (.int .i64 v12.2.1), (.int .u64 v12.2.2)].getD j .nilptr))] [.one (.flt .f32 v12.1.bits)]) ∧ T2 Tt) [.no, .callM [(.box 3 (fun j => [true, false, false].getD j true) (fun j => (cs_l00Src (l00Src.mk a0.code v10.2.1 v10.2.2)).getD j .nilptr) (fun j => [.nilptr, (.int .i64 v12.2.1), (.int .u64 v12.2.2)].getD j .nilptr))] [.one (.flt .f32 v12.1.bits)] [[.view]] none] [0, 2, 3] [0, 1, 2] ⟨tr, ⟨⟨⟨rfl, rfl, rfl, tr⟩, tr⟩, ok_spec_l01DrawSmall K (l00Src.mk a0.code v10.2.1 v10.2.2) v12 e13⟩, tr, tr, tr⟩ ?_
    refine thenQ_normal ?_
    refine AW.seq ?_
    obtain ⟨v14, e15, h⟩ := bind_some h
    refine AW.rA ⟨[(0, (vp 0 0)), (2, (vp 1 0))], [(0, (.box [(.fx 0 0 (sl 1 (csI .u8) a0.code)), (.c (.int .i64 v12.2.1)), (.c (.int .u64 v12.2.2))])), (1, (.box [(.c (.flt .f32 v14.W.bits)), (.c (.flt .f32 v14.X.bits)), (.c (.flt .f32 v14.Y.bits)), (.c (.flt .f32 v14.Z.bits))]))]⟩ (Tt ∧ ((((Eqc (.flt .f32 v6.1.bits)) ∧ (Eqc (.flt .f32 v8.1.bits)) ∧ (Eqc (.flt .f32 v10.1.bits)) ∧ (Eqc (.flt .f32 v12.1.bits)) ∧ Tt) ∧ Tt) ∧ CallOK Try.prog 56 [.agg (cs_Turn (Turn.mk v6.1 v8.1 v10.1 v12.1))] [.agg (cs_Turn v14)]) ∧ Tt ∧ Tt) [.no, .call [.agg (cs_Turn (Turn.mk v6.1 v8.1 v10.1 v12.1))] [.agg (cs_Turn v14)] [[.view, .view, .view, .view]]] [0, 2] [0, 1] ⟨tr, ⟨⟨⟨rfl, rfl, rfl, rfl, tr⟩, tr⟩, ok_spec_l02Mend K (Turn.mk v6.1 v8.1 v10.1 v12.1) v14 e15⟩, tr, tr⟩ ?_
    refine thenQ_normal ?_
    refine AW.ret ?_
    replace h := some_eq h
    subst h
    exact ⟨.inr rfl, retOK_of [(.agg [(.c (.flt .f32 v14.W.bits)), (.c (.flt .f32 v14.X.bits)), (.c (.flt .f32 v14.Y.bits)), (.c (.flt .f32 v14.Z.bits))])] (by kernel_rfl) ⟨⟨⟨rfl, tr⟩, ⟨rfl, tr⟩, ⟨rfl, tr⟩, ⟨rfl, tr⟩, tr⟩, tr⟩ (of_decide_eq_true (by kernel_rfl)), by kernel_rfl, ⟨⟨rfl, ⟨⟨rfl, rfl⟩, ⟨rfl, rfl⟩, ⟨rfl, rfl⟩, tr⟩⟩, tr⟩⟩

/-! spec.l03DrawPose -/
def Zt1 (Q0 Q1 Q2 : Prop) : Prop := (Q0 ∧ (Q1 ∧ (Q2 ∧ (Tt ∧ (Tt ∧ Tt)))))
theorem zt1 {Q0 Q1 Q2 : Prop} (q0 : Q0) (q1 : Q1) (q2 : Q2) : Zt1 Q0 Q1 Q2 := ⟨q0, ⟨q1, ⟨q2, ⟨tr, ⟨tr, tr⟩⟩⟩⟩⟩
def Zt2 (QE Q1 Q2 : Prop) : Prop := ((Tt ∧ (Q1 ∧ (Q2 ∧ (Tt ∧ (Tt ∧ Tt))))) ∧ (Q1 ∧ (Tt ∧ (Q2 ∧ (Tt ∧ (Tt ∧ Tt))))) ∧ QE)
theorem zt2 {QE Q1 Q2 : Prop} (qe : QE) (q1 : Q1) (q2 : Q2) : Zt2 QE Q1 Q2 := ⟨⟨tr, ⟨q1, ⟨q2, ⟨tr, ⟨tr, tr⟩⟩⟩⟩⟩, ⟨q1, ⟨tr, ⟨q2, ⟨tr, ⟨tr, tr⟩⟩⟩⟩⟩, qe⟩
def Zt3 (QE Q0 Q1 Q2 : Prop) : Prop := ((Tt ∧ (Zt1 Q0 Q1 Q2)) ∧ (Q0 ∧ (Zt2 QE Q1 Q2)) ∧ QE)
theorem zt3 {QE Q0 Q1 Q2 : Prop} (qe : QE) (q0 : Q0) (q1 : Q1) (q2 : Q2) : Zt3 QE Q0 Q1 Q2 := ⟨⟨tr, (zt1 q0 q1 q2)⟩, ⟨q0, (zt2 qe q1 q2)⟩, qe⟩
def spec_l03DrawPose_l1 (K : Nat) (a0 : l00Src) (v1 : (Vector × Int × Int)) : Nat → Int → Int → Int → (List Turn) → Option (Pose × Int × Int)
  | 0, _, _, _, _ => none
  | k + 1, x7, x8, x9, x10 => ite2 ((decide (x7 > (0 : Int)))) ((spec_l02DrawTurn K (l00Src.mk a0.code x8 x9)).bind fun v12 => chk ((x10.length + ([v12.1]).length) * 16 ≤ 140737488355328) (spec_l03DrawPose_l1 K a0 v1 k (IntKind.i64.wrap (x7 - (1 : Int))) v12.2.1 v12.2.2 (x10 ++ ([v12.1])))) (some ((Pose.mk v1.1 x10), x8, x9))

def spec_l03DrawPose (K : Nat) (a0 : l00Src) (a1 : Int) : Option (Pose × Int × Int) :=
  (spec_l01DrawVector K a0).bind fun v1 => spec_l03DrawPose_l1 K a0 v1 K a1 v1.2.1 v1.2.2 ([] : List Turn)

theorem ok_spec_l03DrawPose (K : Nat) (a0 : l00Src) (a1 : Int) (o : (Pose × Int × Int)) (h : spec_l03DrawPose K a0 a1 = some o) : MutOK Try.prog 29 [(.box 3 (fun j => [true, false, false].getD j true) (fun j => (cs_l00Src a0).getD j .nilptr) (fun j => [.nilptr, (.int .i64 o.2.1), (.int .u64 o.2.2)].getD j .nilptr)), (.one (.ro (.int .i64 a1)))] [.agg (cs_Pose o.1)] := by
  refine mutOK_of_AW 1 Try.func29 rfl (by kernel_rfl) (Nat.le_of_ble_eq_true (by kernel_rfl)) (by kernel_rfl) (by kernel_rfl) ?_
  intro w0 K0 v0 s0
  unfold spec_l03DrawPose at h
  refine AW.weak (s' := ⟨[(0, (vp 0 0)), (1, (vc (.int .i64 a1)))], [(0, (.box [(.fx 0 0 (sl 1 (csI .u8) a0.code)), (.c (.int .i64 a0.at_)), (.c (.int .u64 a0.seed))]))]⟩) (subUnfx 0 [1, 2] (by kernel_rfl)) ?_
  refine AW.seq (AW.rA ⟨[(0, (vp 0 0)), (1, (vc (.int .i64 a1))), (4, (vp 1 0))], [(0, (.box [(.fx 0 0 (sl 1 (csI .u8) a0.code)), (.c (.int .i64 a0.at_)), (.c (.int .u64 a0.seed))])), (1, (.box [(.c (.flt .f32 (default : F32).bits)), (.c (.flt .f32 (default : F32).bits)), (.c (.flt .f32 (default : F32).bits)), .nils]))]⟩ (Tt ∧ Tt) [.box 1] [0, 1, 4] [0, 1] ⟨tr, tr⟩ (thenQ_normal ?_))
  refine AW.seq ?_
  obtain ⟨v1, e2, h⟩ := bind_some h
  refine AW.rA ⟨[(0, (vp 0 0)), (1, (vc (.int .i64 a1))), (4, (vp 1 0)), (5, (vp 3 0))], [(0, (.box [(.fx 0 0 (sl 1 (csI .u8) a0.code)), (.c (.int .i64 v1.2.1)), (.c (.int .u64 v1.2.2))])), (1, (.box [(.c (.flt .f32 (default : F32).bits)), (.c (.flt .f32 (default : F32).bits)), (.c (.flt .f32 (default : F32).bits)), .nils])), (2, (.lst ([] : List Turn).length 4 (gl cs_Turn ([] : List Turn)))), (3, (.box [(.c (.flt .f32 v1.1.X.bits)), (.c (.flt .f32 v1.1.Y.bits)), (.c (.flt .f32 v1.1.Z.bits)), (.lst 2 ([] : List Turn).length 4 (gl cs_Turn ([] : List Turn)))]))]⟩ (Tt ∧ ((((Eqc (sl 1 (csI .u8) a0.code)) ∧ (Eqc (.int .i64 a0.at_)) ∧ (Eqc (.int .u64 a0.seed)) ∧ Tt) ∧ Tt) ∧ MutOK Try.prog 46 [(.box 3 (fun j => [true, false, false].getD j true) (fun j => (cs_l00Src a0).getD j .nilptr) (fun j => [.nilptr, (.int .i64 v1.2.1), (.int .u64 v1.2.2)].getD j .nilptr))] [.agg (cs_Vector v1.1)]) ∧ (([] : List Turn).length = 0 ∧ Tt) ∧ Tt ∧ T2 Tt) [.no, .callM [(.box 3 (fun j => [true, false, false].getD j true) (fun j => (cs_l00Src a0).getD j .nilptr) (fun j => [.nilptr, (.int .i64 v1.2.1), (.int .u64 v1.2.2)].getD j .nilptr))] [.agg (cs_Vector v1.1)] [[.view, .view, .view]] none, .obj 2 ([] : List Turn).length (gl cs_Turn ([] : List Turn)), .no, .box 3] [0, 1, 4, 5] [0, 1, 2, 3] ⟨tr, ⟨⟨⟨rfl, rfl, rfl, tr⟩, tr⟩, ok_spec_l01DrawVector K a0 v1 e2⟩, ⟨rfl, tr⟩, tr, tr, tr, tr⟩ ?_
  refine thenQ_normal ?_
  refine AW.seq ?_
  refine AW.block ?_
  refine AW.loopQ (σ := Nat × Int × Int × Int × (List Turn)) (fun p => ⟨[(0, (vp 0 0)), (1, (vc (.int .i64 p.2.1))), (4, (vp 1 0)), (5, (vp 3 0))], [(0, (.box [(.fx 0 0 (sl 1 (csI .u8) a0.code)), (.c (.int .i64 p.2.2.1)), (.c (.int .u64 p.2.2.2.1))])), (1, (.box [(.c (.flt .f32 (default : F32).bits)), (.c (.flt .f32 (default : F32).bits)), (.c (.flt .f32 (default : F32).bits)), .nils])), (2, (.lst p.2.2.2.2.length 4 (gl cs_Turn p.2.2.2.2))), (3, (.box [(.c (.flt .f32 v1.1.X.bits)), (.c (.flt .f32 v1.1.Y.bits)), (.c (.flt .f32 v1.1.Z.bits)), (.lst 2 p.2.2.2.2.length 4 (gl cs_Turn p.2.2.2.2))]))]⟩) (fun p => spec_l03DrawPose_l1 K a0 v1 p.1 p.2.1 p.2.2.1 p.2.2.2.1 p.2.2.2.2 = some o) (fun p => p.1) (K, a1, v1.2.1, v1.2.2, ([] : List Turn)) h ?_
  clear h
  rintro ⟨k, x7, x8, x9, x10⟩ h
  replace h : spec_l03DrawPose_l1 K a0 v1 k x7 x8 x9 x10 = some o := h
  show AW _ _ (⟨[(0, (vp 0 0)), (1, (vc (.int .i64 x7))), (4, (vp 1 0)), (5, (vp 3 0))], [(0, (.box [(.fx 0 0 (sl 1 (csI .u8) a0.code)), (.c (.int .i64 x8)), (.c (.int .u64 x9))])), (1, (.box [(.c (.flt .f32 (default : F32).bits)), (.c (.flt .f32 (default : F32).bits)), (.c (.flt .f32 (default : F32).bits)), .nils])), (2, (.lst x10.length 4 (gl cs_Turn x10))), (3, (.box [(.c (.flt .f32 v1.1.X.bits)), (.c (.flt .f32 v1.1.Y.bits)), (.c (.flt .f32 v1.1.Z.bits)), (.lst 2 x10.length 4 (gl cs_Turn x10))]))]⟩ : St) _
  obtain _ | k := k
  · rw [spec_l03DrawPose_l1] at h; cases h
  rw [spec_l03DrawPose_l1] at h
  refine AW.seq ?_
  refine AW.seq (AW.rA ⟨[(0, (vp 0 0)), (1, (vc (.int .i64 x7))), (4, (vp 1 0)), (5, (vp 3 0)), (11, (vc (.bool (decide (x7 > (0 : Int))))))], [(0, (.box [(.fx 0 0 (sl 1 (csI .u8) a0.code)), (.c (.int .i64 x8)), (.c (.int .u64 x9))])), (1, (.box [(.c (.flt .f32 (default : F32).bits)), (.c (.flt .f32 (default : F32).bits)), (.c (.flt .f32 (default : F32).bits)), .nils])), (2, (.lst x10.length 4 (gl cs_Turn x10))), (3, (.box [(.c (.flt .f32 v1.1.X.bits)), (.c (.flt .f32 v1.1.Y.bits)), (.c (.flt .f32 v1.1.Z.bits)), (.lst 2 x10.length 4 (gl cs_Turn x10))]))]⟩ (T2 Tt) [] [0, 1, 4, 5, 11] [0, 1, 2, 3] ⟨tr, tr, tr⟩ (thenQ_normal ?_))
  rcases ite2_cases h with ⟨b11, h⟩ | ⟨b11, h⟩
  · refine AW.cond_t rfl b11 ?_
    refine AW.skip ?_
    refine thenQ_normal ?_
    refine AW.seq ?_
    refine AW.block ?_
    obtain ⟨v12, e13, h⟩ := bind_some h
    obtain ⟨c14, h⟩ := chk_some h
    refine AW.firstA (by kernel_rfl) [0, 2] [.no, .no, .no, .callM [(.box 3 (fun j => [true, false, false].getD j true) (fun j => (cs_l00Src (l00Src.mk a0.code x8 x9)).getD j .nilptr) (fun j => [.nilptr, (.int .i64 v12.2.1), (.int .u64 v12.2.2)].getD j .nilptr))] [.agg (cs_Turn v12.1)] [[.view, .view, .view, .view]] none, .obj 8 ([v12.1]).length (gl cs_Turn ([v12.1])), .objK 9 (x10 ++ ([v12.1])).length (gl cs_Turn (x10 ++ ([v12.1])))] [0, 1, 4, 5] [0, 1, 3, 9] (s' := ⟨[(0, (vp 0 0)), (1, (vc (.int .i64 x7))), (4, (vp 1 0)), (5, (vp 3 0))], [(0, (.box [(.fx 0 0 (sl 1 (csI .u8) a0.code)), (.c (.int .i64 v12.2.1)), (.c (.int .u64 v12.2.2))])), (1, (.box [(.c (.flt .f32 (default : F32).bits)), (.c (.flt .f32 (default : F32).bits)), (.c (.flt .f32 (default : F32).bits)), .nils])), (3, (.box [(.c (.flt .f32 v1.1.X.bits)), (.c (.flt .f32 v1.1.Y.bits)), (.c (.flt .f32 v1.1.Z.bits)), (.lst 9 (x10 ++ ([v12.1])).length 4 (gl cs_Turn (x10 ++ ([v12.1]))))])), (9, (.lst (x10 ++ ([v12.1])).length 4 (gl cs_Turn (x10 ++ ([v12.1])))))]⟩) (ob := (Zt3 ((⟨[(0, (vp 0 0)), (1, (vc (.int .i64 x7))), (4, (vp 1 0)), (5, (vp 3 0))], [(0, (.box [(.fx 0 0 (sl 1 (csI .u8) a0.code)), (.c (.int .i64 v12.2.1)), (.c (.int .u64 v12.2.2))])), (1, (.box [(.c (.flt .f32 (default : F32).bits)), (.c (.flt .f32 (default : F32).bits)), (.c (.flt .f32 (default : F32).bits)), .nils])), (3, (.box [(.c (.flt .f32 v1.1.X.bits)), (.c (.flt .f32 v1.1.Y.bits)), (.c (.flt .f32 v1.1.Z.bits)), (.lst 9 (x10 ++ ([v12.1])).length 4 (gl cs_Turn (x10 ++ ([v12.1]))))])), (9, (.lst (x10 ++ ([v12.1])).length 4 (gl cs_Turn (x10 ++ ([v12.1])))))]⟩ : St) = ⟨[(0, (vp 0 0)), (1, (vc (.int .i64 x7))), (4, (vp 1 0)), (5, (vp 3 0))], [(0, (.box [(.fx 0 0 (sl 1 (csI .u8) a0.code)), (.c (.int .i64 v12.2.1)), (.c (.int .u64 v12.2.2))])), (1, (.box [(.c (.flt .f32 (default : F32).bits)), (.c (.flt .f32 (default : F32).bits)), (.c (.flt .f32 (default : F32).bits)), .nils])), (3, (.box [(.c (.flt .f32 v1.1.X.bits)), (.c (.flt .f32 v1.1.Y.bits)), (.c (.flt .f32 v1.1.Z.bits)), (.lst 9 (x10 ++ ([v12.1])).length 4 (gl cs_Turn (x10 ++ ([v12.1]))))])), (9, (.lst (x10 ++ ([v12.1])).length 4 (gl cs_Turn (x10 ++ ([v12.1])))))]⟩) (((((Eqc (sl 1 (csI .u8) a0.code)) ∧ (Eqc (.int .i64 x8)) ∧ (Eqc (.int .u64 x9)) ∧ Tt) ∧ Tt) ∧ MutOK Try.prog 47 [(.box 3 (fun j => [true, false, false].getD j true) (fun j => (cs_l00Src (l00Src.mk a0.code x8 x9)).getD j .nilptr) (fun j => [.nilptr, (.int .i64 v12.2.1), (.int .u64 v12.2.2)].getD j .nilptr))] [.agg (cs_Turn v12.1)])) ((([v12.1]).length = 1 ∧ (((.flt .f32 v12.1.W.bits) : C) = (.flt .f32 v12.1.W.bits) ∧ Tt) ∧ (((.flt .f32 v12.1.X.bits) : C) = (.flt .f32 v12.1.X.bits) ∧ Tt) ∧ (((.flt .f32 v12.1.Y.bits) : C) = (.flt .f32 v12.1.Y.bits) ∧ Tt) ∧ (((.flt .f32 v12.1.Z.bits) : C) = (.flt .f32 v12.1.Z.bits) ∧ Tt) ∧ Tt)) (((x10 ++ ([v12.1])).length = x10.length + ([v12.1]).length ∧ AppOb (x10.length) (([v12.1]).length) 4 (gl cs_Turn x10) (gl cs_Turn ([v12.1])) (gl cs_Turn (x10 ++ ([v12.1]))) ∧ (∀ i j, i < ([v12.1]).length → j < 4 → scalarC (gl cs_Turn ([v12.1]) i j)) ∧ (x10.length + ([v12.1]).length) * 16 ≤ 140737488355328)))) (by kernel_rfl) (zt3 rfl ⟨⟨⟨rfl, rfl, rfl, tr⟩, tr⟩, ok_spec_l02DrawTurn K (l00Src.mk a0.code x8 x9) v12 e13⟩ ⟨rfl, ⟨⟨rfl, tr⟩, ⟨rfl, tr⟩, ⟨rfl, tr⟩, ⟨rfl, tr⟩, tr⟩⟩ ⟨List.length_append, gl_append, gl_scalar sc_Turn _, c14⟩) ?_
    refine blockQ_normal ?_
    refine thenQ_normal ?_
    refine AW.rA ⟨[(0, (vp 0 0)), (1, (vc (.int .i64 (IntKind.i64.wrap (x7 - (1 : Int)))))), (4, (vp 1 0)), (5, (vp 3 0))], [(0, (.box [(.fx 0 0 (sl 1 (csI .u8) a0.code)), (.c (.int .i64 v12.2.1)), (.c (.int .u64 v12.2.2))])), (1, (.box [(.c (.flt .f32 (default : F32).bits)), (.c (.flt .f32 (default : F32).bits)), (.c (.flt .f32 (default : F32).bits)), .nils])), (3, (.box [(.c (.flt .f32 v1.1.X.bits)), (.c (.flt .f32 v1.1.Y.bits)), (.c (.flt .f32 v1.1.Z.bits)), (.lst 9 (x10 ++ ([v12.1])).length 4 (gl cs_Turn (x10 ++ ([v12.1]))))])), (9, (.lst (x10 ++ ([v12.1])).length 4 (gl cs_Turn (x10 ++ ([v12.1])))))]⟩ (Tt ∧ T2 Tt) [] [0, 1, 4, 5] [0, 1, 3, 9] ⟨tr, tr, tr, tr⟩ ?_
    exact loopQ_normal (k, (IntKind.i64.wrap (x7 - (1 : Int))), v12.2.1, v12.2.2, (x10 ++ ([v12.1]))) h (Nat.lt_succ_self k) (Sub.trans (Sub.swap 2 9 _ (by kernel_rfl) (by kernel_rfl)) (Sub.keep [0, 1, 4, 5] [0, 1, 2, 3] (by kernel_rfl) (by kernel_rfl)))
  · refine AW.cond_f rfl b11 ?_
    refine AW.exit ?_
    refine thenQ_exit ?_
    refine loopQ_exit ?_
    refine blockQ_exit ?_
    refine thenQ_normal ?_
    refine AW.seq (AW.rA ⟨[(0, (vp 0 0)), (1, (vc (.int .i64 x7))), (4, (vp 1 0))], [(0, (.box [(.fx 0 0 (sl 1 (csI .u8) a0.code)), (.c (.int .i64 x8)), (.c (.int .u64 x9))])), (1, (.box [(.c (.flt .f32 v1.1.X.bits)), (.c (.flt .f32 v1.1.Y.bits)), (.c (.flt .f32 v1.1.Z.bits)), (.lst 2 x10.length 4 (gl cs_Turn x10))])), (2, (.lst x10.length 4 (gl cs_Turn x10)))]⟩ (T2 Tt) [] [0, 1, 4] [0, 1, 2] ⟨tr, tr, tr⟩ (thenQ_normal ?_))
    refine AW.ret ?_
    replace h := some_eq h
    subst h
    exact ⟨.inr rfl, retOK_of [(.agg [(.c (.flt .f32 v1.1.X.bits)), (.c (.flt .f32 v1.1.Y.bits)), (.c (.flt .f32 v1.1.Z.bits)), (.lst 2 x10.length 4 (gl cs_Turn x10))])] (by kernel_rfl) ⟨⟨⟨rfl, tr⟩, ⟨rfl, tr⟩, ⟨rfl, tr⟩, rfl, tr⟩, tr⟩ (of_decide_eq_true (by kernel_rfl)), by kernel_rfl, ⟨⟨rfl, ⟨⟨rfl, rfl⟩, ⟨rfl, rfl⟩, ⟨rfl, rfl⟩, tr⟩⟩, tr, tr⟩⟩

/-! spec.l06List -/
def spec_l06List (_K : Nat) (a0 : Turn) : Option ((List F32)) :=
  some ([a0.W, a0.X, a0.Y, a0.Z])

theorem ok_spec_l06List (K : Nat) (a0 : Turn) (o : ((List F32))) (h : spec_l06List K a0 = some o) : CallOK Try.prog 48 [.agg (cs_Turn a0)] [.one (sl 1 (csF .f32) o)] := by
  refine callOK_of_AW Try.func48 rfl (by kernel_rfl) (Nat.le_of_ble_eq_true (by kernel_rfl)) ?_
  intro w0
  unfold spec_l06List at h
  refine AW.seq (AW.rA ⟨[(1, (vp 1 0))], [(1, (.box [(.c (.flt .f32 a0.W.bits)), (.c (.flt .f32 a0.X.bits)), (.c (.flt .f32 a0.Y.bits)), (.c (.flt .f32 a0.Z.bits))]))]⟩ (T2 Tt) [.box 1] [1] [1] ⟨tr, tr, tr⟩ (thenQ_normal ?_))
  refine AW.seq (AW.rA ⟨[(2, (.v (.one (.lst 2 ([a0.W, a0.X, a0.Y, a0.Z]).length 1 (gl (csF .f32) ([a0.W, a0.X, a0.Y, a0.Z]))))))], [(2, (.lst ([a0.W, a0.X, a0.Y, a0.Z]).length 1 (gl (csF .f32) ([a0.W, a0.X, a0.Y, a0.Z]))))]⟩ (T4 (T4 ((([a0.W, a0.X, a0.Y, a0.Z]).length = 4 ∧ (((.flt .f32 a0.W.bits) : C) = (.flt .f32 a0.W.bits) ∧ Tt) ∧ (((.flt .f32 a0.X.bits) : C) = (.flt .f32 a0.X.bits) ∧ Tt) ∧ (((.flt .f32 a0.Y.bits) : C) = (.flt .f32 a0.Y.bits) ∧ Tt) ∧ (((.flt .f32 a0.Z.bits) : C) = (.flt .f32 a0.Z.bits) ∧ Tt) ∧ Tt) ∧ Tt ∧ Tt))) [.no, .no, .no, .no, .no, .no, .no, .no, .obj 2 ([a0.W, a0.X, a0.Y, a0.Z]).length (gl (csF .f32) ([a0.W, a0.X, a0.Y, a0.Z]))] [2] [2] ⟨tr, tr, tr, tr, tr, tr, tr, tr, ⟨rfl, ⟨⟨rfl, tr⟩, ⟨rfl, tr⟩, ⟨rfl, tr⟩, ⟨rfl, tr⟩, tr⟩⟩, tr, tr⟩ (thenQ_normal ?_))
  refine AW.ret ?_
  replace h := some_eq h
  subst h
  exact ⟨.inr rfl, retOK_of [(.one (.lst 2 ([a0.W, a0.X, a0.Y, a0.Z]).length 1 (gl (csF .f32) ([a0.W, a0.X, a0.Y, a0.Z]))))] (by kernel_rfl) ⟨rfl, tr⟩ (of_decide_eq_true (by kernel_rfl))⟩

/-! spec.l10Numbers -/
def spec_l10Numbers_l1 (K : Nat) (a0 : Pose) : Nat → Int → (List F32) → Option ((List F32))
  | 0, _, _ => none
  | k + 1, x3, x4 => ite2 ((decide (x3 < (a0.Turns.length : Int)))) (chk (0 ≤ x3 ∧ x3 < (a0.Turns.length : Int)) ((spec_l06List K (a0.Turns.getD x3.toNat default)).bind fun v7 => chk ((x4.length + v7.length) * 4 ≤ 140737488355328) (spec_l10Numbers_l1 K a0 k (IntKind.i64.wrap (x3 + (1 : Int))) (x4 ++ v7)))) (some x4)

def spec_l10Numbers (K : Nat) (a0 : Pose) : Option ((List F32)) :=
  spec_l10Numbers_l1 K a0 K (0 : Int) ([a0.Root.X, a0.Root.Y, a0.Root.Z])

theorem ok_spec_l10Numbers (K : Nat) (a0 : Pose) (o : ((List F32))) (h : spec_l10Numbers K a0 = some o) : CallOK Try.prog 30 [.one (pl 4 cs_Pose a0)] [.one (sl 1 (csF .f32) o)] := by
  refine callOK_of_AW Try.func30 rfl (by kernel_rfl) (Nat.le_of_ble_eq_true (by kernel_rfl)) ?_
  intro w0
  unfold spec_l10Numbers at h
  refine AW.seq (AW.rA ⟨[(0, (vc (pl 4 cs_Pose a0)))], []⟩ (Tt ∧ Tt) [] [0] [] ⟨tr, tr⟩ (thenQ_normal ?_))
  refine AW.seq (AW.dA ⟨[(0, (vc (pl 4 cs_Pose a0))), (3, (.v (.one (.lst 1 ([a0.Root.X, a0.Root.Y, a0.Root.Z]).length 1 (gl (csF .f32) ([a0.Root.X, a0.Root.Y, a0.Root.Z]))))))], [(1, (.lst ([a0.Root.X, a0.Root.Y, a0.Root.Z]).length 1 (gl (csF .f32) ([a0.Root.X, a0.Root.Y, a0.Root.Z]))))]⟩ ((Tt ∧ T2 (T4 (T4 (T4 ((([a0.Root.X, a0.Root.Y, a0.Root.Z]).length = 3 ∧ (((.flt .f32 a0.Root.X.bits) : C) = (.flt .f32 a0.Root.X.bits) ∧ Tt) ∧ (((.flt .f32 a0.Root.Y.bits) : C) = (.flt .f32 a0.Root.Y.bits) ∧ Tt) ∧ (((.flt .f32 a0.Root.Z.bits) : C) = (.flt .f32 a0.Root.Z.bits) ∧ Tt) ∧ Tt) ∧ Tt ∧ Tt))))) ∧ (Tt)) 17 [.no, .no, .no, .no, .no, .no, .no, .no, .no, .no, .no, .no, .no, .no, .no, .obj 1 ([a0.Root.X, a0.Root.Y, a0.Root.Z]).length (gl (csF .f32) ([a0.Root.X, a0.Root.Y, a0.Root.Z]))] [0, 3] [1] ⟨⟨tr, tr, tr, tr, tr, tr, tr, tr, tr, tr, tr, tr, tr, tr, tr, ⟨rfl, ⟨⟨rfl, tr⟩, ⟨rfl, tr⟩, ⟨rfl, tr⟩, tr⟩⟩, tr, tr⟩, tr⟩ (thenQ_normal ?_))
  refine AW.seq ?_
  refine AW.seq (AW.rA ⟨[(0, (vc (pl 4 cs_Pose a0))), (3, (.v (.one (.lst 1 ([a0.Root.X, a0.Root.Y, a0.Root.Z]).length 1 (gl (csF .f32) ([a0.Root.X, a0.Root.Y, a0.Root.Z])))))), (4, (vc (.int .i64 (0 : Int))))], [(1, (.lst ([a0.Root.X, a0.Root.Y, a0.Root.Z]).length 1 (gl (csF .f32) ([a0.Root.X, a0.Root.Y, a0.Root.Z]))))]⟩ (Tt ∧ Tt) [] [0, 3, 4] [1] ⟨tr, tr⟩ (thenQ_normal ?_))
  refine AW.block ?_
  refine AW.loopQ (σ := Nat × Int × (List F32)) (fun p => ⟨[(0, (vc (pl 4 cs_Pose a0))), (3, (.v (.one (.lst 1 p.2.2.length 1 (gl (csF .f32) p.2.2))))), (4, (vc (.int .i64 p.2.1)))], [(1, (.lst p.2.2.length 1 (gl (csF .f32) p.2.2)))]⟩) (fun p => spec_l10Numbers_l1 K a0 p.1 p.2.1 p.2.2 = some o) (fun p => p.1) (K, (0 : Int), [a0.Root.X, a0.Root.Y, a0.Root.Z]) h ?_
  clear h
  rintro ⟨k, x3, x4⟩ h
  replace h : spec_l10Numbers_l1 K a0 k x3 x4 = some o := h
  show AW _ _ (⟨[(0, (vc (pl 4 cs_Pose a0))), (3, (.v (.one (.lst 1 x4.length 1 (gl (csF .f32) x4))))), (4, (vc (.int .i64 x3)))], [(1, (.lst x4.length 1 (gl (csF .f32) x4)))]⟩ : St) _
  obtain _ | k := k
  · rw [spec_l10Numbers_l1] at h; cases h
  rw [spec_l10Numbers_l1] at h
  refine AW.seq ?_
  refine AW.seq (AW.rA ⟨[(0, (vc (pl 4 cs_Pose a0))), (3, (.v (.one (.lst 1 x4.length 1 (gl (csF .f32) x4))))), (4, (vc (.int .i64 x3))), (27, (vc (.bool (decide (x3 < (a0.Turns.length : Int))))))], [(1, (.lst x4.length 1 (gl (csF .f32) x4)))]⟩ (Tt ∧ T2 (T4 Tt)) [] [0, 3, 4, 27] [1] ⟨tr, tr, tr, tr, tr, tr, tr, tr⟩ (thenQ_normal ?_))
  rcases ite2_cases h with ⟨b5, h⟩ | ⟨b5, h⟩
  · refine AW.cond_t rfl b5 ?_
    refine AW.skip ?_
    refine thenQ_normal ?_
    refine AW.seq ?_
    refine AW.block ?_
    obtain ⟨c6, h⟩ := chk_some h
    obtain ⟨v7, e8, h⟩ := bind_some h
    obtain ⟨c9, h⟩ := chk_some h
    refine AW.rA ⟨[(0, (vc (pl 4 cs_Pose a0))), (3, (.v (.one (.lst 7 (x4 ++ v7).length 1 (gl (csF .f32) (x4 ++ v7)))))), (4, (vc (.int .i64 x3)))], [(7, (.lst (x4 ++ v7).length 1 (gl (csF .f32) (x4 ++ v7))))]⟩ (T2 (T4 ((0 ≤ x3 ∧ x3 < (a0.Turns.length : Int)) ∧ Tt ∧ ((((Eqc (.flt .f32 ((a0.Turns.getD x3.toNat default).W).bits)) ∧ (Eqc (.flt .f32 ((a0.Turns.getD x3.toNat default).X).bits)) ∧ (Eqc (.flt .f32 ((a0.Turns.getD x3.toNat default).Y).bits)) ∧ (Eqc (.flt .f32 ((a0.Turns.getD x3.toNat default).Z).bits)) ∧ Tt) ∧ Tt) ∧ CallOK Try.prog 48 [.agg (cs_Turn (a0.Turns.getD x3.toNat default))] [.one (sl 1 (csF .f32) v7)]) ∧ ((x4 ++ v7).length = x4.length + v7.length ∧ AppOb (x4.length) (v7.length) 1 (gl (csF .f32) x4) (gl (csF .f32) v7) (gl (csF .f32) (x4 ++ v7)) ∧ (∀ i j, i < v7.length → j < 1 → scalarC (gl (csF .f32) v7 i j)) ∧ (x4.length + v7.length) * 4 ≤ 140737488355328) ∧ Tt ∧ Tt))) [.no, .no, .no, .no, .no, .no, .no, .no, .call [.agg (cs_Turn (a0.Turns.getD x3.toNat default))] [.one (sl 1 (csF .f32) v7)] [[.lst 6]], .objK 7 (x4 ++ v7).length (gl (csF .f32) (x4 ++ v7))] [0, 3, 4] [7] ⟨tr, tr, tr, tr, tr, tr, c6, tr, ⟨⟨⟨rfl, rfl, rfl, rfl, tr⟩, tr⟩, ok_spec_l06List K (a0.Turns.getD x3.toNat default) v7 e8⟩, ⟨List.length_append, gl_append, gl_scalar scF _, c9⟩, tr, tr⟩ ?_
    refine blockQ_normal ?_
    refine thenQ_normal ?_
    refine AW.rA ⟨[(0, (vc (pl 4 cs_Pose a0))), (3, (.v (.one (.lst 7 (x4 ++ v7).length 1 (gl (csF .f32) (x4 ++ v7)))))), (4, (vc (.int .i64 (IntKind.i64.wrap (x3 + (1 : Int))))))], [(7, (.lst (x4 ++ v7).length 1 (gl (csF .f32) (x4 ++ v7))))]⟩ (Tt ∧ T2 Tt) [] [0, 3, 4] [7] ⟨tr, tr, tr, tr⟩ ?_
    exact loopQ_normal (k, (IntKind.i64.wrap (x3 + (1 : Int))), (x4 ++ v7)) h (Nat.lt_succ_self k) (Sub.trans (Sub.swap 1 7 _ (by kernel_rfl) (by kernel_rfl)) (Sub.keep [0, 3, 4] [1] (by kernel_rfl) (by kernel_rfl)))
  · refine AW.cond_f rfl b5 ?_
    refine AW.exit ?_
    refine thenQ_exit ?_
    refine loopQ_exit ?_
    refine blockQ_exit ?_
    refine thenQ_normal ?_
    refine AW.seq (AW.rA ⟨[(2, (.v (.one (.lst 1 x4.length 1 (gl (csF .f32) x4)))))], [(1, (.lst x4.length 1 (gl (csF .f32) x4)))]⟩ (T2 Tt) [] [2] [1] ⟨tr, tr, tr⟩ (thenQ_normal ?_))
    refine AW.ret ?_
    replace h := some_eq h
    subst h
    exact ⟨.inr rfl, retOK_of [(.one (.lst 1 x4.length 1 (gl (csF .f32) x4)))] (by kernel_rfl) ⟨rfl, tr⟩ (of_decide_eq_true (by kernel_rfl))⟩

/-! spec.l10Pose -/
def spec_l10Pose_l1 (K : Nat) (a0 : (List F32)) : Nat → Int → (List Turn) → Option (Pose)
  | 0, _, _ => none
  | k + 1, x6, x7 => ite2 ((decide (x6 < (a0.length : Int)))) (chk (0 ≤ x6 ∧ x6 < (a0.length : Int)) (chk (0 ≤ (IntKind.i64.wrap (x6 + (1 : Int))) ∧ (IntKind.i64.wrap (x6 + (1 : Int))) < (a0.length : Int)) (chk (0 ≤ (IntKind.i64.wrap (x6 + (2 : Int))) ∧ (IntKind.i64.wrap (x6 + (2 : Int))) < (a0.length : Int)) (chk (0 ≤ (IntKind.i64.wrap (x6 + (3 : Int))) ∧ (IntKind.i64.wrap (x6 + (3 : Int))) < (a0.length : Int)) (chk ((x7.length + ([(Turn.mk (a0.getD x6.toNat default) (a0.getD ((IntKind.i64.wrap (x6 + (1 : Int))).toNat) default) (a0.getD ((IntKind.i64.wrap (x6 + (2 : Int))).toNat) default) (a0.getD ((IntKind.i64.wrap (x6 + (3 : Int))).toNat) default))]).length) * 16 ≤ 140737488355328) (spec_l10Pose_l1 K a0 k (IntKind.i64.wrap (x6 + (4 : Int))) (x7 ++ ([(Turn.mk (a0.getD x6.toNat default) (a0.getD ((IntKind.i64.wrap (x6 + (1 : Int))).toNat) default) (a0.getD ((IntKind.i64.wrap (x6 + (2 : Int))).toNat) default) (a0.getD ((IntKind.i64.wrap (x6 + (3 : Int))).toNat) default))])))))))) (some (Pose.mk (Vector.mk (a0.getD ((0 : Int).toNat) default) (a0.getD ((1 : Int).toNat) default) (a0.getD ((2 : Int).toNat) default)) x7))

def spec_l10Pose (K : Nat) (a0 : (List F32)) : Option (Pose) :=
  chk (0 ≤ (0 : Int) ∧ (0 : Int) < (a0.length : Int)) (chk (0 ≤ (1 : Int) ∧ (1 : Int) < (a0.length : Int)) (chk (0 ≤ (2 : Int) ∧ (2 : Int) < (a0.length : Int)) (spec_l10Pose_l1 K a0 K (3 : Int) ([] : List Turn))))

theorem ok_spec_l10Pose (K : Nat) (a0 : (List F32)) (o : (Pose)) (h : spec_l10Pose K a0 = some o) : CallOK Try.prog 33 [.one (sl 1 (csF .f32) a0)] [.agg (cs_Pose o)] := by
  refine callOK_of_AW Try.func33 rfl (by kernel_rfl) (Nat.le_of_ble_eq_true (by kernel_rfl)) ?_
  intro w0
  unfold spec_l10Pose at h
  refine AW.seq (AW.rA ⟨[(0, (vc (sl 1 (csF .f32) a0))), (2, (vp 1 0))], [(1, (.box [(.c (.flt .f32 (default : F32).bits)), (.c (.flt .f32 (default : F32).bits)), (.c (.flt .f32 (default : F32).bits)), .nils]))]⟩ (Tt ∧ Tt) [.box 1] [0, 2] [1] ⟨tr, tr⟩ (thenQ_normal ?_))
  refine AW.seq ?_
  obtain ⟨c1, h⟩ := chk_some h
  obtain ⟨c2, h⟩ := chk_some h
  obtain ⟨c3, h⟩ := chk_some h
  refine AW.dA ⟨[(0, (vc (sl 1 (csF .f32) a0))), (2, (vp 1 0)), (3, (vp 3 0))], [(1, (.box [(.c (.flt .f32 (default : F32).bits)), (.c (.flt .f32 (default : F32).bits)), (.c (.flt .f32 (default : F32).bits)), .nils])), (2, (.lst ([] : List Turn).length 4 (gl cs_Turn ([] : List Turn)))), (3, (.box [(.c (.flt .f32 (a0.getD ((0 : Int).toNat) default).bits)), (.c (.flt .f32 (a0.getD ((1 : Int).toNat) default).bits)), (.c (.flt .f32 (a0.getD ((2 : Int).toNat) default).bits)), (.lst 2 ([] : List Turn).length 4 (gl cs_Turn ([] : List Turn)))]))]⟩ ((Tt ∧ (0 ≤ (0 : Int) ∧ (0 : Int) < (a0.length : Int)) ∧ T2 ((0 ≤ (1 : Int) ∧ (1 : Int) < (a0.length : Int)) ∧ T2 ((0 ≤ (2 : Int) ∧ (2 : Int) < (a0.length : Int)) ∧ T2 ((([] : List Turn).length = 0 ∧ Tt) ∧ T2 Tt)))) ∧ (Tt ∧ Tt)) 13 [.no, .no, .no, .no, .no, .no, .no, .no, .no, .no, .obj 2 ([] : List Turn).length (gl cs_Turn ([] : List Turn)), .no, .box 3] [0, 2, 3] [1, 2, 3] ⟨⟨tr, c1, tr, tr, c2, tr, tr, c3, tr, tr, ⟨rfl, tr⟩, tr, tr, tr⟩, ⟨tr, tr⟩⟩ ?_
  refine thenQ_normal ?_
  refine AW.seq ?_
  refine AW.seq (AW.rA ⟨[(0, (vc (sl 1 (csF .f32) a0))), (2, (vp 1 0)), (3, (vp 3 0)), (4, (vc (.int .i64 (3 : Int))))], [(1, (.box [(.c (.flt .f32 (default : F32).bits)), (.c (.flt .f32 (default : F32).bits)), (.c (.flt .f32 (default : F32).bits)), .nils])), (2, (.lst ([] : List Turn).length 4 (gl cs_Turn ([] : List Turn)))), (3, (.box [(.c (.flt .f32 (a0.getD ((0 : Int).toNat) default).bits)), (.c (.flt .f32 (a0.getD ((1 : Int).toNat) default).bits)), (.c (.flt .f32 (a0.getD ((2 : Int).toNat) default).bits)), (.lst 2 ([] : List Turn).length 4 (gl cs_Turn ([] : List Turn)))]))]⟩ (Tt ∧ Tt) [] [0, 2, 3, 4] [1, 2, 3] ⟨tr, tr⟩ (thenQ_normal ?_))
  refine AW.block ?_
  refine AW.loopQ (σ := Nat × Int × (List Turn)) (fun p => ⟨[(0, (vc (sl 1 (csF .f32) a0))), (2, (vp 1 0)), (3, (vp 3 0)), (4, (vc (.int .i64 p.2.1)))], [(1, (.box [(.c (.flt .f32 (default : F32).bits)), (.c (.flt .f32 (default : F32).bits)), (.c (.flt .f32 (default : F32).bits)), .nils])), (2, (.lst p.2.2.length 4 (gl cs_Turn p.2.2))), (3, (.box [(.c (.flt .f32 (a0.getD ((0 : Int).toNat) default).bits)), (.c (.flt .f32 (a0.getD ((1 : Int).toNat) default).bits)), (.c (.flt .f32 (a0.getD ((2 : Int).toNat) default).bits)), (.lst 2 p.2.2.length 4 (gl cs_Turn p.2.2))]))]⟩) (fun p => spec_l10Pose_l1 K a0 p.1 p.2.1 p.2.2 = some o) (fun p => p.1) (K, (3 : Int), ([] : List Turn)) h ?_
  clear h
  rintro ⟨k, x6, x7⟩ h
  replace h : spec_l10Pose_l1 K a0 k x6 x7 = some o := h
  show AW _ _ (⟨[(0, (vc (sl 1 (csF .f32) a0))), (2, (vp 1 0)), (3, (vp 3 0)), (4, (vc (.int .i64 x6)))], [(1, (.box [(.c (.flt .f32 (default : F32).bits)), (.c (.flt .f32 (default : F32).bits)), (.c (.flt .f32 (default : F32).bits)), .nils])), (2, (.lst x7.length 4 (gl cs_Turn x7))), (3, (.box [(.c (.flt .f32 (a0.getD ((0 : Int).toNat) default).bits)), (.c (.flt .f32 (a0.getD ((1 : Int).toNat) default).bits)), (.c (.flt .f32 (a0.getD ((2 : Int).toNat) default).bits)), (.lst 2 x7.length 4 (gl cs_Turn x7))]))]⟩ : St) _
  obtain _ | k := k
  · rw [spec_l10Pose_l1] at h; cases h
  rw [spec_l10Pose_l1] at h
  refine AW.seq ?_
  refine AW.seq (AW.rA ⟨[(0, (vc (sl 1 (csF .f32) a0))), (2, (vp 1 0)), (3, (vp 3 0)), (4, (vc (.int .i64 x6))), (20, (vc (.bool (decide (x6 < (a0.length : Int))))))], [(1, (.box [(.c (.flt .f32 (default : F32).bits)), (.c (.flt .f32 (default : F32).bits)), (.c (.flt .f32 (default : F32).bits)), .nils])), (2, (.lst x7.length 4 (gl cs_Turn x7))), (3, (.box [(.c (.flt .f32 (a0.getD ((0 : Int).toNat) default).bits)), (.c (.flt .f32 (a0.getD ((1 : Int).toNat) default).bits)), (.c (.flt .f32 (a0.getD ((2 : Int).toNat) default).bits)), (.lst 2 x7.length 4 (gl cs_Turn x7))]))]⟩ (T4 Tt) [] [0, 2, 3, 4, 20] [1, 2, 3] ⟨tr, tr, tr, tr, tr⟩ (thenQ_normal ?_))
  rcases ite2_cases h with ⟨b8, h⟩ | ⟨b8, h⟩
  · refine AW.cond_t rfl b8 ?_
    refine AW.skip ?_
    refine thenQ_normal ?_
    refine AW.seq ?_
    refine AW.block ?_
    obtain ⟨c9, h⟩ := chk_some h
    obtain ⟨c10, h⟩ := chk_some h
    obtain ⟨c11, h⟩ := chk_some h
    obtain ⟨c12, h⟩ := chk_some h
    obtain ⟨c13, h⟩ := chk_some h
    refine AW.dA ⟨[(0, (vc (sl 1 (csF .f32) a0))), (2, (vp 1 0)), (3, (vp 3 0)), (4, (vc (.int .i64 x6)))], [(1, (.box [(.c (.flt .f32 (default : F32).bits)), (.c (.flt .f32 (default : F32).bits)), (.c (.flt .f32 (default : F32).bits)), .nils])), (3, (.box [(.c (.flt .f32 (a0.getD ((0 : Int).toNat) default).bits)), (.c (.flt .f32 (a0.getD ((1 : Int).toNat) default).bits)), (.c (.flt .f32 (a0.getD ((2 : Int).toNat) default).bits)), (.lst 9 (x7 ++ ([(Turn.mk (a0.getD x6.toNat default) (a0.getD ((IntKind.i64.wrap (x6 + (1 : Int))).toNat) default) (a0.getD ((IntKind.i64.wrap (x6 + (2 : Int))).toNat) default) (a0.getD ((IntKind.i64.wrap (x6 + (3 : Int))).toNat) default))])).length 4 (gl cs_Turn (x7 ++ ([(Turn.mk (a0.getD x6.toNat default) (a0.getD ((IntKind.i64.wrap (x6 + (1 : Int))).toNat) default) (a0.getD ((IntKind.i64.wrap (x6 + (2 : Int))).toNat) default) (a0.getD ((IntKind.i64.wrap (x6 + (3 : Int))).toNat) default))]))))])), (9, (.lst (x7 ++ ([(Turn.mk (a0.getD x6.toNat default) (a0.getD ((IntKind.i64.wrap (x6 + (1 : Int))).toNat) default) (a0.getD ((IntKind.i64.wrap (x6 + (2 : Int))).toNat) default) (a0.getD ((IntKind.i64.wrap (x6 + (3 : Int))).toNat) default))])).length 4 (gl cs_Turn (x7 ++ ([(Turn.mk (a0.getD x6.toNat default) (a0.getD ((IntKind.i64.wrap (x6 + (1 : Int))).toNat) default) (a0.getD ((IntKind.i64.wrap (x6 + (2 : Int))).toNat) default) (a0.getD ((IntKind.i64.wrap (x6 + (3 : Int))).toNat) default))])))))]⟩ ((T4 ((0 ≤ x6 ∧ x6 < (a0.length : Int)) ∧ T4 ((0 ≤ (IntKind.i64.wrap (x6 + (1 : Int))) ∧ (IntKind.i64.wrap (x6 + (1 : Int))) < (a0.length : Int)) ∧ T4 ((0 ≤ (IntKind.i64.wrap (x6 + (2 : Int))) ∧ (IntKind.i64.wrap (x6 + (2 : Int))) < (a0.length : Int)) ∧ T4 ((0 ≤ (IntKind.i64.wrap (x6 + (3 : Int))) ∧ (IntKind.i64.wrap (x6 + (3 : Int))) < (a0.length : Int)) ∧ T2 ((([(Turn.mk (a0.getD x6.toNat default) (a0.getD ((IntKind.i64.wrap (x6 + (1 : Int))).toNat) default) (a0.getD ((IntKind.i64.wrap (x6 + (2 : Int))).toNat) default) (a0.getD ((IntKind.i64.wrap (x6 + (3 : Int))).toNat) default))]).length = 1 ∧ (((.flt .f32 (a0.getD x6.toNat default).bits) : C) = (.flt .f32 (a0.getD x6.toNat default).bits) ∧ Tt) ∧ (((.flt .f32 (a0.getD ((IntKind.i64.wrap (x6 + (1 : Int))).toNat) default).bits) : C) = (.flt .f32 (a0.getD ((IntKind.i64.wrap (x6 + (1 : Int))).toNat) default).bits) ∧ Tt) ∧ (((.flt .f32 (a0.getD ((IntKind.i64.wrap (x6 + (2 : Int))).toNat) default).bits) : C) = (.flt .f32 (a0.getD ((IntKind.i64.wrap (x6 + (2 : Int))).toNat) default).bits) ∧ Tt) ∧ (((.flt .f32 (a0.getD ((IntKind.i64.wrap (x6 + (3 : Int))).toNat) default).bits) : C) = (.flt .f32 (a0.getD ((IntKind.i64.wrap (x6 + (3 : Int))).toNat) default).bits) ∧ Tt) ∧ Tt) ∧ ((x7 ++ ([(Turn.mk (a0.getD x6.toNat default) (a0.getD ((IntKind.i64.wrap (x6 + (1 : Int))).toNat) default) (a0.getD ((IntKind.i64.wrap (x6 + (2 : Int))).toNat) default) (a0.getD ((IntKind.i64.wrap (x6 + (3 : Int))).toNat) default))])).length = x7.length + ([(Turn.mk (a0.getD x6.toNat default) (a0.getD ((IntKind.i64.wrap (x6 + (1 : Int))).toNat) default) (a0.getD ((IntKind.i64.wrap (x6 + (2 : Int))).toNat) default) (a0.getD ((IntKind.i64.wrap (x6 + (3 : Int))).toNat) default))]).length ∧ AppOb (x7.length) (([(Turn.mk (a0.getD x6.toNat default) (a0.getD ((IntKind.i64.wrap (x6 + (1 : Int))).toNat) default) (a0.getD ((IntKind.i64.wrap (x6 + (2 : Int))).toNat) default) (a0.getD ((IntKind.i64.wrap (x6 + (3 : Int))).toNat) default))]).length) 4 (gl cs_Turn x7) (gl cs_Turn ([(Turn.mk (a0.getD x6.toNat default) (a0.getD ((IntKind.i64.wrap (x6 + (1 : Int))).toNat) default) (a0.getD ((IntKind.i64.wrap (x6 + (2 : Int))).toNat) default) (a0.getD ((IntKind.i64.wrap (x6 + (3 : Int))).toNat) default))])) (gl cs_Turn (x7 ++ ([(Turn.mk (a0.getD x6.toNat default) (a0.getD ((IntKind.i64.wrap (x6 + (1 : Int))).toNat) default) (a0.getD ((IntKind.i64.wrap (x6 + (2 : Int))).toNat) default) (a0.getD ((IntKind.i64.wrap (x6 + (3 : Int))).toNat) default))]))) ∧ (∀ i j, i < ([(Turn.mk (a0.getD x6.toNat default) (a0.getD ((IntKind.i64.wrap (x6 + (1 : Int))).toNat) default) (a0.getD ((IntKind.i64.wrap (x6 + (2 : Int))).toNat) default) (a0.getD ((IntKind.i64.wrap (x6 + (3 : Int))).toNat) default))]).length → j < 4 → scalarC (gl cs_Turn ([(Turn.mk (a0.getD x6.toNat default) (a0.getD ((IntKind.i64.wrap (x6 + (1 : Int))).toNat) default) (a0.getD ((IntKind.i64.wrap (x6 + (2 : Int))).toNat) default) (a0.getD ((IntKind.i64.wrap (x6 + (3 : Int))).toNat) default))]) i j)) ∧ (x7.length + ([(Turn.mk (a0.getD x6.toNat default) (a0.getD ((IntKind.i64.wrap (x6 + (1 : Int))).toNat) default) (a0.getD ((IntKind.i64.wrap (x6 + (2 : Int))).toNat) default) (a0.getD ((IntKind.i64.wrap (x6 + (3 : Int))).toNat) default))]).length) * 16 ≤ 140737488355328) ∧ Tt ∧ Tt)))))) ∧ (Tt ∧ Tt)) 25 [.no, .no, .no, .no, .no, .no, .no, .no, .no, .no, .no, .no, .no, .no, .no, .no, .no, .no, .no, .no, .no, .no, .obj 8 ([(Turn.mk (a0.getD x6.toNat default) (a0.getD ((IntKind.i64.wrap (x6 + (1 : Int))).toNat) default) (a0.getD ((IntKind.i64.wrap (x6 + (2 : Int))).toNat) default) (a0.getD ((IntKind.i64.wrap (x6 + (3 : Int))).toNat) default))]).length (gl cs_Turn ([(Turn.mk (a0.getD x6.toNat default) (a0.getD ((IntKind.i64.wrap (x6 + (1 : Int))).toNat) default) (a0.getD ((IntKind.i64.wrap (x6 + (2 : Int))).toNat) default) (a0.getD ((IntKind.i64.wrap (x6 + (3 : Int))).toNat) default))])), .objK 9 (x7 ++ ([(Turn.mk (a0.getD x6.toNat default) (a0.getD ((IntKind.i64.wrap (x6 + (1 : Int))).toNat) default) (a0.getD ((IntKind.i64.wrap (x6 + (2 : Int))).toNat) default) (a0.getD ((IntKind.i64.wrap (x6 + (3 : Int))).toNat) default))])).length (gl cs_Turn (x7 ++ ([(Turn.mk (a0.getD x6.toNat default) (a0.getD ((IntKind.i64.wrap (x6 + (1 : Int))).toNat) default) (a0.getD ((IntKind.i64.wrap (x6 + (2 : Int))).toNat) default) (a0.getD ((IntKind.i64.wrap (x6 + (3 : Int))).toNat) default))])))] [0, 2, 3, 4] [1, 3, 9] ⟨⟨tr, tr, tr, tr, c9, tr, tr, tr, tr, c10, tr, tr, tr, tr, c11, tr, tr, tr, tr, c12, tr, tr, ⟨rfl, ⟨⟨rfl, tr⟩, ⟨rfl, tr⟩, ⟨rfl, tr⟩, ⟨rfl, tr⟩, tr⟩⟩, ⟨List.length_append, gl_append, gl_scalar sc_Turn _, c13⟩, tr, tr⟩, ⟨tr, tr⟩⟩ ?_
    refine blockQ_normal ?_
    refine thenQ_normal ?_
    refine AW.rA ⟨[(0, (vc (sl 1 (csF .f32) a0))), (2, (vp 1 0)), (3, (vp 3 0)), (4, (vc (.int .i64 (IntKind.i64.wrap (x6 + (4 : Int))))))], [(1, (.box [(.c (.flt .f32 (default : F32).bits)), (.c (.flt .f32 (default : F32).bits)), (.c (.flt .f32 (default : F32).bits)), .nils])), (3, (.box [(.c (.flt .f32 (a0.getD ((0 : Int).toNat) default).bits)), (.c (.flt .f32 (a0.getD ((1 : Int).toNat) default).bits)), (.c (.flt .f32 (a0.getD ((2 : Int).toNat) default).bits)), (.lst 9 (x7 ++ ([(Turn.mk (a0.getD x6.toNat default) (a0.getD ((IntKind.i64.wrap (x6 + (1 : Int))).toNat) default) (a0.getD ((IntKind.i64.wrap (x6 + (2 : Int))).toNat) default) (a0.getD ((IntKind.i64.wrap (x6 + (3 : Int))).toNat) default))])).length 4 (gl cs_Turn (x7 ++ ([(Turn.mk (a0.getD x6.toNat default) (a0.getD ((IntKind.i64.wrap (x6 + (1 : Int))).toNat) default) (a0.getD ((IntKind.i64.wrap (x6 + (2 : Int))).toNat) default) (a0.getD ((IntKind.i64.wrap (x6 + (3 : Int))).toNat) default))]))))])), (9, (.lst (x7 ++ ([(Turn.mk (a0.getD x6.toNat default) (a0.getD ((IntKind.i64.wrap (x6 + (1 : Int))).toNat) default) (a0.getD ((IntKind.i64.wrap (x6 + (2 : Int))).toNat) default) (a0.getD ((IntKind.i64.wrap (x6 + (3 : Int))).toNat) default))])).length 4 (gl cs_Turn (x7 ++ ([(Turn.mk (a0.getD x6.toNat default) (a0.getD ((IntKind.i64.wrap (x6 + (1 : Int))).toNat) default) (a0.getD ((IntKind.i64.wrap (x6 + (2 : Int))).toNat) default) (a0.getD ((IntKind.i64.wrap (x6 + (3 : Int))).toNat) default))])))))]⟩ (Tt ∧ T2 Tt) [] [0, 2, 3, 4] [1, 3, 9] ⟨tr, tr, tr, tr⟩ ?_
    exact loopQ_normal (k, (IntKind.i64.wrap (x6 + (4 : Int))), (x7 ++ ([(Turn.mk (a0.getD x6.toNat default) (a0.getD ((IntKind.i64.wrap (x6 + (1 : Int))).toNat) default) (a0.getD ((IntKind.i64.wrap (x6 + (2 : Int))).toNat) default) (a0.getD ((IntKind.i64.wrap (x6 + (3 : Int))).toNat) default))]))) h (Nat.lt_succ_self k) (Sub.trans (Sub.swap 2 9 _ (by kernel_rfl) (by kernel_rfl)) (Sub.keep [0, 2, 3, 4] [1, 2, 3] (by kernel_rfl) (by kernel_rfl)))
  · refine AW.cond_f rfl b8 ?_
    refine AW.exit ?_
    refine thenQ_exit ?_
    refine loopQ_exit ?_
    refine blockQ_exit ?_
    refine thenQ_normal ?_
    refine AW.seq (AW.rA ⟨[(2, (vp 1 0))], [(1, (.box [(.c (.flt .f32 (a0.getD ((0 : Int).toNat) default).bits)), (.c (.flt .f32 (a0.getD ((1 : Int).toNat) default).bits)), (.c (.flt .f32 (a0.getD ((2 : Int).toNat) default).bits)), (.lst 2 x7.length 4 (gl cs_Turn x7))])), (2, (.lst x7.length 4 (gl cs_Turn x7)))]⟩ (T2 Tt) [] [2] [1, 2] ⟨tr, tr, tr⟩ (thenQ_normal ?_))
    refine AW.ret ?_
    replace h := some_eq h
    subst h
    exact ⟨.inr rfl, retOK_of [(.agg [(.c (.flt .f32 (a0.getD ((0 : Int).toNat) default).bits)), (.c (.flt .f32 (a0.getD ((1 : Int).toNat) default).bits)), (.c (.flt .f32 (a0.getD ((2 : Int).toNat) default).bits)), (.lst 2 x7.length 4 (gl cs_Turn x7))])] (by kernel_rfl) ⟨⟨⟨rfl, tr⟩, ⟨rfl, tr⟩, ⟨rfl, tr⟩, rfl, tr⟩, tr⟩ (of_decide_eq_true (by kernel_rfl))⟩

/-! spec.l10Copy -/
def spec_l10Copy (_K : Nat) (a0 : Pose) : Option (Pose) :=
  chk ((([] : List Turn).length + a0.Turns.length) * 16 ≤ 140737488355328) (some (Pose.mk a0.Root (([] : List Turn) ++ a0.Turns)))

theorem ok_spec_l10Copy (K : Nat) (a0 : Pose) (o : (Pose)) (h : spec_l10Copy K a0 = some o) : CallOK Try.prog 34 [.one (pl 4 cs_Pose a0)] [.agg (cs_Pose o)] := by
  refine callOK_of_AW Try.func34 rfl (by kernel_rfl) (Nat.le_of_ble_eq_true (by kernel_rfl)) ?_
  intro w0
  unfold spec_l10Copy at h
  refine AW.seq (AW.rA ⟨[(0, (vc (pl 4 cs_Pose a0))), (2, (vp 1 0))], [(1, (.box [(.c (.flt .f32 (default : F32).bits)), (.c (.flt .f32 (default : F32).bits)), (.c (.flt .f32 (default : F32).bits)), .nils]))]⟩ (Tt ∧ Tt) [.box 1] [0, 2] [1] ⟨tr, tr⟩ (thenQ_normal ?_))
  refine AW.seq ?_
  obtain ⟨c1, h⟩ := chk_some h
  refine AW.dA ⟨[(2, (vp 1 0))], [(1, (.box [(.c (.flt .f32 a0.Root.X.bits)), (.c (.flt .f32 a0.Root.Y.bits)), (.c (.flt .f32 a0.Root.Z.bits)), (.lst 3 (([] : List Turn) ++ a0.Turns).length 4 (gl cs_Turn (([] : List Turn) ++ a0.Turns)))])), (3, (.lst (([] : List Turn) ++ a0.Turns).length 4 (gl cs_Turn (([] : List Turn) ++ a0.Turns))))]⟩ ((T4 ((([] : List Turn).length = 0 ∧ Tt) ∧ T4 (((([] : List Turn) ++ a0.Turns).length = ([] : List Turn).length + a0.Turns.length ∧ AppOb (([] : List Turn).length) (a0.Turns.length) 4 (gl cs_Turn ([] : List Turn)) (gl cs_Turn a0.Turns) (gl cs_Turn (([] : List Turn) ++ a0.Turns)) ∧ (∀ i j, i < a0.Turns.length → j < 4 → scalarC (gl cs_Turn a0.Turns i j)) ∧ (([] : List Turn).length + a0.Turns.length) * 16 ≤ 140737488355328) ∧ Tt ∧ Tt))) ∧ (Tt ∧ Tt)) 11 [.no, .no, .no, .no, .obj 2 ([] : List Turn).length (gl cs_Turn ([] : List Turn)), .no, .no, .no, .no, .obj 3 (([] : List Turn) ++ a0.Turns).length (gl cs_Turn (([] : List Turn) ++ a0.Turns))] [2] [1, 3] ⟨⟨tr, tr, tr, tr, ⟨rfl, tr⟩, tr, tr, tr, tr, ⟨List.length_append, gl_append, gl_scalar sc_Turn _, c1⟩, tr, tr⟩, ⟨tr, tr⟩⟩ ?_
  refine thenQ_normal ?_
  refine AW.ret ?_
  replace h := some_eq h
  subst h
  exact ⟨.inr rfl, retOK_of [(.agg [(.c (.flt .f32 a0.Root.X.bits)), (.c (.flt .f32 a0.Root.Y.bits)), (.c (.flt .f32 a0.Root.Z.bits)), (.lst 3 (([] : List Turn) ++ a0.Turns).length 4 (gl cs_Turn (([] : List Turn) ++ a0.Turns)))])] (by kernel_rfl) ⟨⟨⟨rfl, tr⟩, ⟨rfl, tr⟩, ⟨rfl, tr⟩, rfl, tr⟩, tr⟩ (of_decide_eq_true (by kernel_rfl))⟩

/-! spec.l10DrawOk -/
def spec_l10DrawOk_l4 (K : Nat) (a0 : l00Src) : Nat → Int → Int → Int → (List F32) → Option (Int × Int × (List F32))
  | 0, _, _, _, _ => none
  | k + 1, x47, x48, x49, x50 => ite2 ((decide (x47 < (x50.length : Int)))) ((spec_l00Src_one K (l00Src.mk a0.code x48 x49) (3 : Int)).bind fun v52 => ite2 (v52.1) ((spec_l01DrawFloat K (l00Src.mk a0.code v52.2.1 v52.2.2)).bind fun v55 => chk (0 ≤ x47 ∧ x47 < (x50.length : Int)) (spec_l10DrawOk_l4 K a0 k (IntKind.i64.wrap (x47 + (1 : Int))) v55.2.1 v55.2.2 (x50.set x47.toNat v55.1))) (spec_l10DrawOk_l4 K a0 k (IntKind.i64.wrap (x47 + (1 : Int))) v52.2.1 v52.2.2 x50)) (some (x48, x49, x50))

def spec_l10DrawOk_l3 (K : Nat) (a0 : l00Src) (v1 : (Int × Int × Int)) : Nat → Int → Int → Int → (List Pose) → (List Turn) → F32 → F32 → F32 → Option (Recording × Int × Int)
  | 0, _, _, _, _, _, _, _, _ => none
  | k + 1, x15, x16, x17, x18, x19, x20, x21, x22 => ite2 ((decide (x15 > (0 : Int)))) ((spec_l10Numbers K (Pose.mk (Vector.mk x20 x21 x22) x19)).bind fun v24 => (spec_l10DrawOk_l4 K a0 K (0 : Int) x16 x17 v24).bind fun j42 => (spec_l10Pose K j42.2.2).bind fun v58 => (spec_l00Src_one K (l00Src.mk a0.code j42.1 j42.2.1) (3 : Int)).bind fun v60 => ite2 (v60.1) ((spec_l03DrawPose K (l00Src.mk a0.code v60.2.1 v60.2.2) (IntKind.i64.wrap ((1 : Int) + v1.1))).bind fun v63 => (spec_l10Copy K v63.1).bind fun v65 => chk ((x18.length + ([v65]).length) * 40 ≤ 140737488355328) (spec_l10DrawOk_l3 K a0 v1 k (IntKind.i64.wrap (x15 - (1 : Int))) v63.2.1 v63.2.2 (x18 ++ ([v65])) v63.1.Turns v63.1.Root.X v63.1.Root.Y v63.1.Root.Z)) ((spec_l10Copy K v58).bind fun v68 => chk ((x18.length + ([v68]).length) * 40 ≤ 140737488355328) (spec_l10DrawOk_l3 K a0 v1 k (IntKind.i64.wrap (x15 - (1 : Int))) v60.2.1 v60.2.2 (x18 ++ ([v68])) v58.Turns v58.Root.X v58.Root.Y v58.Root.Z))) (some ((Recording.mk (IntKind.i64.wrap ((1 : Int) + v1.1)) x18), x16, x17))

def spec_l10DrawOk (K : Nat) (a0 : l00Src) : Option (Recording × Int × Int) :=
  (spec_l00Src_pick K a0 (3 : Int)).bind fun v1 => (spec_l03DrawPose K (l00Src.mk a0.code v1.2.1 v1.2.2) (IntKind.i64.wrap ((1 : Int) + v1.1))).bind fun v3 => (spec_l00Src_pick K (l00Src.mk a0.code v3.2.1 v3.2.2) (5 : Int)).bind fun v5 => spec_l10DrawOk_l3 K a0 v1 K v5.1 v5.2.1 v5.2.2 ([] : List Pose) v3.1.Turns v3.1.Root.X v3.1.Root.Y v3.1.Root.Z

theorem ok_spec_l10DrawOk (K : Nat) (a0 : l00Src) (o : (Recording × Int × Int)) (h : spec_l10DrawOk K a0 = some o) : MutOK Try.prog 15 [(.box 3 (fun j => [true, false, false].getD j true) (fun j => (cs_l00Src a0).getD j .nilptr) (fun j => [.nilptr, (.int .i64 o.2.1), (.int .u64 o.2.2)].getD j .nilptr))] [.agg (cs_Recording o.1)] := by
  refine mutOK_of_AW 1 Try.func15 rfl (by kernel_rfl) (Nat.le_of_ble_eq_true (by kernel_rfl)) (by kernel_rfl) (by kernel_rfl) ?_
  intro w0 K0 v0 s0
  unfold spec_l10DrawOk at h
  refine AW.weak (s' := ⟨[(0, (vp 0 0))], [(0, (.box [(.fx 0 0 (sl 1 (csI .u8) a0.code)), (.c (.int .i64 a0.at_)), (.c (.int .u64 a0.seed))]))]⟩) (subUnfx 0 [1, 2] (by kernel_rfl)) ?_
  refine AW.seq (AW.rA ⟨[(0, (vp 0 0)), (2, (vp 1 0))], [(0, (.box [(.fx 0 0 (sl 1 (csI .u8) a0.code)), (.c (.int .i64 a0.at_)), (.c (.int .u64 a0.seed))])), (1, (.box [(.c (.int .i64 (0 : Int))), .nils]))]⟩ (Tt ∧ Tt) [.box 1] [0, 2] [0, 1] ⟨tr, tr⟩ (thenQ_normal ?_))
  refine AW.seq ?_
  obtain ⟨v1, e2, h⟩ := bind_some h
  refine AW.rA ⟨[(0, (vp 0 0)), (2, (vp 1 0)), (3, (vp 3 0))], [(0, (.box [(.fx 0 0 (sl 1 (csI .u8) a0.code)), (.c (.int .i64 v1.2.1)), (.c (.int .u64 v1.2.2))])), (1, (.box [(.c (.int .i64 (0 : Int))), .nils])), (2, (.lst ([] : List Pose).length 4 (gl cs_Pose ([] : List Pose)))), (3, (.box [(.c (.int .i64 (IntKind.i64.wrap ((1 : Int) + v1.1)))), (.lst 2 ([] : List Pose).length 4 (gl cs_Pose ([] : List Pose)))]))]⟩ (Tt ∧ ((((Eqc (sl 1 (csI .u8) a0.code)) ∧ (Eqc (.int .i64 a0.at_)) ∧ (Eqc (.int .u64 a0.seed)) ∧ Tt) ∧ (Eqc (.int .i64 (3 : Int))) ∧ Tt) ∧ MutOK Try.prog 28 [(.box 3 (fun j => [true, false, false].getD j true) (fun j => (cs_l00Src a0).getD j .nilptr) (fun j => [.nilptr, (.int .i64 v1.2.1), (.int .u64 v1.2.2)].getD j .nilptr)), .one (.ro (.int .i64 (3 : Int)))] [.one (.int .i64 v1.1)]) ∧ Tt ∧ (([] : List Pose).length = 0 ∧ Tt) ∧ Tt ∧ T2 Tt) [.no, .callM [(.box 3 (fun j => [true, false, false].getD j true) (fun j => (cs_l00Src a0).getD j .nilptr) (fun j => [.nilptr, (.int .i64 v1.2.1), (.int .u64 v1.2.2)].getD j .nilptr)), .one (.ro (.int .i64 (3 : Int)))] [.one (.int .i64 v1.1)] [[.view]] none, .no, .obj 2 ([] : List Pose).length (gl cs_Pose ([] : List Pose)), .no, .box 3] [0, 2, 3] [0, 1, 2, 3] ⟨tr, ⟨⟨⟨rfl, rfl, rfl, tr⟩, rfl, tr⟩, ok_spec_l00Src_pick K a0 (3 : Int) v1 e2⟩, tr, ⟨rfl, tr⟩, tr, tr, tr, tr⟩ ?_
  refine thenQ_normal ?_
  refine AW.seq ?_
  obtain ⟨v3, e4, h⟩ := bind_some h
  refine AW.rA ⟨[(0, (vp 0 0)), (2, (vp 1 0)), (3, (vp 3 0)), (4, (vp 5 0))], [(0, (.box [(.fx 0 0 (sl 1 (csI .u8) a0.code)), (.c (.int .i64 v3.2.1)), (.c (.int .u64 v3.2.2))])), (1, (.box [(.c (.int .i64 (0 : Int))), .nils])), (2, (.lst ([] : List Pose).length 4 (gl cs_Pose ([] : List Pose)))), (3, (.box [(.c (.int .i64 (IntKind.i64.wrap ((1 : Int) + v1.1)))), (.lst 2 ([] : List Pose).length 4 (gl cs_Pose ([] : List Pose)))])), (4, (.lst v3.1.Turns.length 4 (gl cs_Turn v3.1.Turns))), (5, (.box [(.c (.flt .f32 v3.1.Root.X.bits)), (.c (.flt .f32 v3.1.Root.Y.bits)), (.c (.flt .f32 v3.1.Root.Z.bits)), (.lst 4 v3.1.Turns.length 4 (gl cs_Turn v3.1.Turns))]))]⟩ (Tt ∧ T2 (((((Eqc (sl 1 (csI .u8) a0.code)) ∧ (Eqc (.int .i64 v1.2.1)) ∧ (Eqc (.int .u64 v1.2.2)) ∧ Tt) ∧ (Eqc (.int .i64 (IntKind.i64.wrap ((1 : Int) + v1.1)))) ∧ Tt) ∧ MutOK Try.prog 29 [(.box 3 (fun j => [true, false, false].getD j true) (fun j => (cs_l00Src (l00Src.mk a0.code v1.2.1 v1.2.2)).getD j .nilptr) (fun j => [.nilptr, (.int .i64 v3.2.1), (.int .u64 v3.2.2)].getD j .nilptr)), .one (.ro (.int .i64 (IntKind.i64.wrap ((1 : Int) + v1.1))))] [.agg (cs_Pose v3.1)]) ∧ T2 Tt)) [.no, .no, .no, .callM [(.box 3 (fun j => [true, false, false].getD j true) (fun j => (cs_l00Src (l00Src.mk a0.code v1.2.1 v1.2.2)).getD j .nilptr) (fun j => [.nilptr, (.int .i64 v3.2.1), (.int .u64 v3.2.2)].getD j .nilptr)), .one (.ro (.int .i64 (IntKind.i64.wrap ((1 : Int) + v1.1))))] [.agg (cs_Pose v3.1)] [[.view, .view, .view, .lst 4]] none, .box 5] [0, 2, 3, 4] [0, 1, 2, 3, 4, 5] ⟨tr, tr, tr, ⟨⟨⟨rfl, rfl, rfl, tr⟩, rfl, tr⟩, ok_spec_l03DrawPose K (l00Src.mk a0.code v1.2.1 v1.2.2) (IntKind.i64.wrap ((1 : Int) + v1.1)) v3 e4⟩, tr, tr, tr⟩ ?_
  refine thenQ_normal ?_
  refine AW.seq ?_
  refine AW.seq ?_
  obtain ⟨v5, e6, h⟩ := bind_some h
  refine AW.rA ⟨[(0, (vp 0 0)), (2, (vp 1 0)), (3, (vp 3 0)), (4, (vp 5 0)), (5, (vc (.int .i64 v5.1)))], [(0, (.box [(.fx 0 0 (sl 1 (csI .u8) a0.code)), (.c (.int .i64 v5.2.1)), (.c (.int .u64 v5.2.2))])), (1, (.box [(.c (.int .i64 (0 : Int))), .nils])), (2, (.lst ([] : List Pose).length 4 (gl cs_Pose ([] : List Pose)))), (3, (.box [(.c (.int .i64 (IntKind.i64.wrap ((1 : Int) + v1.1)))), (.lst 2 ([] : List Pose).length 4 (gl cs_Pose ([] : List Pose)))])), (4, (.lst v3.1.Turns.length 4 (gl cs_Turn v3.1.Turns))), (5, (.box [(.c (.flt .f32 v3.1.Root.X.bits)), (.c (.flt .f32 v3.1.Root.Y.bits)), (.c (.flt .f32 v3.1.Root.Z.bits)), (.lst 4 v3.1.Turns.length 4 (gl cs_Turn v3.1.Turns))]))]⟩ (Tt ∧ ((((Eqc (sl 1 (csI .u8) a0.code)) ∧ (Eqc (.int .i64 v3.2.1)) ∧ (Eqc (.int .u64 v3.2.2)) ∧ Tt) ∧ (Eqc (.int .i64 (5 : Int))) ∧ Tt) ∧ MutOK Try.prog 28 [(.box 3 (fun j => [true, false, false].getD j true) (fun j => (cs_l00Src (l00Src.mk a0.code v3.2.1 v3.2.2)).getD j .nilptr) (fun j => [.nilptr, (.int .i64 v5.2.1), (.int .u64 v5.2.2)].getD j .nilptr)), .one (.ro (.int .i64 (5 : Int)))] [.one (.int .i64 v5.1)]) ∧ Tt ∧ Tt) [.no, .callM [(.box 3 (fun j => [true, false, false].getD j true) (fun j => (cs_l00Src (l00Src.mk a0.code v3.2.1 v3.2.2)).getD j .nilptr) (fun j => [.nilptr, (.int .i64 v5.2.1), (.int .u64 v5.2.2)].getD j .nilptr)), .one (.ro (.int .i64 (5 : Int)))] [.one (.int .i64 v5.1)] [[.view]] none] [0, 2, 3, 4, 5] [0, 1, 2, 3, 4, 5] ⟨tr, ⟨⟨⟨rfl, rfl, rfl, tr⟩, rfl, tr⟩, ok_spec_l00Src_pick K (l00Src.mk a0.code v3.2.1 v3.2.2) (5 : Int) v5 e6⟩, tr, tr⟩ ?_
  refine thenQ_normal ?_
  refine AW.block ?_
  refine AW.loopQ (σ := Nat × Int × Int × Int × (List Pose) × (List Turn) × F32 × F32 × F32) (fun p => ⟨[(0, (vp 0 0)), (2, (vp 1 0)), (3, (vp 3 0)), (4, (vp 5 0)), (5, (vc (.int .i64 p.2.1)))], [(0, (.box [(.fx 0 0 (sl 1 (csI .u8) a0.code)), (.c (.int .i64 p.2.2.1)), (.c (.int .u64 p.2.2.2.1))])), (1, (.box [(.c (.int .i64 (0 : Int))), .nils])), (2, (.lst p.2.2.2.2.1.length 4 (gl cs_Pose p.2.2.2.2.1))), (3, (.box [(.c (.int .i64 (IntKind.i64.wrap ((1 : Int) + v1.1)))), (.lst 2 p.2.2.2.2.1.length 4 (gl cs_Pose p.2.2.2.2.1))])), (4, (.lst p.2.2.2.2.2.1.length 4 (gl cs_Turn p.2.2.2.2.2.1))), (5, (.box [(.c (.flt .f32 p.2.2.2.2.2.2.1.bits)), (.c (.flt .f32 p.2.2.2.2.2.2.2.1.bits)), (.c (.flt .f32 p.2.2.2.2.2.2.2.2.bits)), (.lst 4 p.2.2.2.2.2.1.length 4 (gl cs_Turn p.2.2.2.2.2.1))]))]⟩) (fun p => spec_l10DrawOk_l3 K a0 v1 p.1 p.2.1 p.2.2.1 p.2.2.2.1 p.2.2.2.2.1 p.2.2.2.2.2.1 p.2.2.2.2.2.2.1 p.2.2.2.2.2.2.2.1 p.2.2.2.2.2.2.2.2 = some o) (fun p => p.1) (K, v5.1, v5.2.1, v5.2.2, ([] : List Pose), v3.1.Turns, v3.1.Root.X, v3.1.Root.Y, v3.1.Root.Z) h ?_
  clear h
  rintro ⟨k, x15, x16, x17, x18, x19, x20, x21, x22⟩ h
  replace h : spec_l10DrawOk_l3 K a0 v1 k x15 x16 x17 x18 x19 x20 x21 x22 = some o := h
  show AW _ _ (⟨[(0, (vp 0 0)), (2, (vp 1 0)), (3, (vp 3 0)), (4, (vp 5 0)), (5, (vc (.int .i64 x15)))], [(0, (.box [(.fx 0 0 (sl 1 (csI .u8) a0.code)), (.c (.int .i64 x16)), (.c (.int .u64 x17))])), (1, (.box [(.c (.int .i64 (0 : Int))), .nils])), (2, (.lst x18.length 4 (gl cs_Pose x18))), (3, (.box [(.c (.int .i64 (IntKind.i64.wrap ((1 : Int) + v1.1)))), (.lst 2 x18.length 4 (gl cs_Pose x18))])), (4, (.lst x19.length 4 (gl cs_Turn x19))), (5, (.box [(.c (.flt .f32 x20.bits)), (.c (.flt .f32 x21.bits)), (.c (.flt .f32 x22.bits)), (.lst 4 x19.length 4 (gl cs_Turn x19))]))]⟩ : St) _
  obtain _ | k := k
  · rw [spec_l10DrawOk_l3] at h; cases h
  rw [spec_l10DrawOk_l3] at h
  refine AW.seq ?_
  refine AW.seq (AW.rA ⟨[(0, (vp 0 0)), (2, (vp 1 0)), (3, (vp 3 0)), (4, (vp 5 0)), (5, (vc (.int .i64 x15))), (20, (vc (.bool (decide (x15 > (0 : Int))))))], [(0, (.box [(.fx 0 0 (sl 1 (csI .u8) a0.code)), (.c (.int .i64 x16)), (.c (.int .u64 x17))])), (1, (.box [(.c (.int .i64 (0 : Int))), .nils])), (2, (.lst x18.length 4 (gl cs_Pose x18))), (3, (.box [(.c (.int .i64 (IntKind.i64.wrap ((1 : Int) + v1.1)))), (.lst 2 x18.length 4 (gl cs_Pose x18))])), (4, (.lst x19.length 4 (gl cs_Turn x19))), (5, (.box [(.c (.flt .f32 x20.bits)), (.c (.flt .f32 x21.bits)), (.c (.flt .f32 x22.bits)), (.lst 4 x19.length 4 (gl cs_Turn x19))]))]⟩ (T2 Tt) [] [0, 2, 3, 4, 5, 20] [0, 1, 2, 3, 4, 5] ⟨tr, tr, tr⟩ (thenQ_normal ?_))
  rcases ite2_cases h with ⟨b23, h⟩ | ⟨b23, h⟩
  · refine AW.cond_t rfl b23 ?_
    refine AW.skip ?_
    refine thenQ_normal ?_
    refine AW.seq ?_
    refine AW.block ?_
    refine AW.seq ?_
    obtain ⟨v24, e25, h⟩ := bind_some h
    refine AW.rA ⟨[(0, (vp 0 0)), (2, (vp 1 0)), (3, (vp 3 0)), (4, (vp 5 0)), (5, (vc (.int .i64 x15))), (6, (.v (.one (.arr 24))))], [(0, (.box [(.fx 0 0 (sl 1 (csI .u8) a0.code)), (.c (.int .i64 x16)), (.c (.int .u64 x17))])), (1, (.box [(.c (.int .i64 (0 : Int))), .nils])), (2, (.lst x18.length 4 (gl cs_Pose x18))), (3, (.box [(.c (.int .i64 (IntKind.i64.wrap ((1 : Int) + v1.1)))), (.lst 2 x18.length 4 (gl cs_Pose x18))])), (4, (.lst x19.length 4 (gl cs_Turn x19))), (5, (.box [(.c (.flt .f32 x20.bits)), (.c (.flt .f32 x21.bits)), (.c (.flt .f32 x22.bits)), (.lst 4 x19.length 4 (gl cs_Turn x19))])), (24, (.arr true v24.length 1 (gl (csF .f32) v24)))]⟩ ((((0 = 0 ∧ (Eqc (.flt .f32 x20.bits)) ∧ (Eqc (.flt .f32 x21.bits)) ∧ (Eqc (.flt .f32 x22.bits)) ∧ (Eqc (sl 4 cs_Turn x19)) ∧ Tt) ∧ Tt) ∧ CallOK Try.prog 30 [.one (pl 4 cs_Pose (Pose.mk (Vector.mk x20 x21 x22) x19))] [.one (sl 1 (csF .f32) v24)]) ∧ Tt ∧ Tt) [.call [.one (pl 4 cs_Pose (Pose.mk (Vector.mk x20 x21 x22) x19))] [.one (sl 1 (csF .f32) v24)] [[.own 24]]] [0, 2, 3, 4, 5, 6] [0, 1, 2, 3, 4, 5, 24] ⟨⟨⟨⟨rfl, rfl, rfl, rfl, rfl, tr⟩, tr⟩, ok_spec_l10Numbers K (Pose.mk (Vector.mk x20 x21 x22) x19) v24 e25⟩, tr, tr⟩ ?_
    refine thenQ_normal ?_
    refine AW.seq ?_
    refine AW.seq (AW.rA ⟨[(0, (vp 0 0)), (2, (vp 1 0)), (3, (vp 3 0)), (4, (vp 5 0)), (5, (vc (.int .i64 x15))), (6, (.v (.one (.arr 24)))), (7, (vc (.int .i64 (0 : Int))))], [(0, (.box [(.fx 0 0 (sl 1 (csI .u8) a0.code)), (.c (.int .i64 x16)), (.c (.int .u64 x17))])), (1, (.box [(.c (.int .i64 (0 : Int))), .nils])), (2, (.lst x18.length 4 (gl cs_Pose x18))), (3, (.box [(.c (.int .i64 (IntKind.i64.wrap ((1 : Int) + v1.1)))), (.lst 2 x18.length 4 (gl cs_Pose x18))])), (4, (.lst x19.length 4 (gl cs_Turn x19))), (5, (.box [(.c (.flt .f32 x20.bits)), (.c (.flt .f32 x21.bits)), (.c (.flt .f32 x22.bits)), (.lst 4 x19.length 4 (gl cs_Turn x19))])), (24, (.arr true v24.length 1 (gl (csF .f32) v24)))]⟩ (Tt ∧ Tt) [] [0, 2, 3, 4, 5, 6, 7] [0, 1, 2, 3, 4, 5, 24] ⟨tr, tr⟩ (thenQ_normal ?_))
    obtain ⟨j42, e41, h⟩ := bind_some h
    refine AW.joinS (s2 := ⟨[(0, (vp 0 0)), (2, (vp 1 0)), (3, (vp 3 0)), (4, (vp 5 0)), (5, (vc (.int .i64 x15))), (6, (.v (.one (.arr 24))))], [(0, (.box [(.fx 0 0 (sl 1 (csI .u8) a0.code)), (.c (.int .i64 j42.1)), (.c (.int .u64 j42.2.1))])), (1, (.box [(.c (.int .i64 (0 : Int))), .nils])), (2, (.lst x18.length 4 (gl cs_Pose x18))), (3, (.box [(.c (.int .i64 (IntKind.i64.wrap ((1 : Int) + v1.1)))), (.lst 2 x18.length 4 (gl cs_Pose x18))])), (4, (.lst x19.length 4 (gl cs_Turn x19))), (5, (.box [(.c (.flt .f32 x20.bits)), (.c (.flt .f32 x21.bits)), (.c (.flt .f32 x22.bits)), (.lst 4 x19.length 4 (gl cs_Turn x19))])), (24, (.arr true j42.2.2.length 1 (gl (csF .f32) j42.2.2)))]⟩) ?_ ?_
    · replace h := e41
      refine AW.block ?_
      refine AW.loopQ (σ := Nat × Int × Int × Int × (List F32)) (fun p => ⟨[(0, (vp 0 0)), (2, (vp 1 0)), (3, (vp 3 0)), (4, (vp 5 0)), (5, (vc (.int .i64 x15))), (6, (.v (.one (.arr 24)))), (7, (vc (.int .i64 p.2.1)))], [(0, (.box [(.fx 0 0 (sl 1 (csI .u8) a0.code)), (.c (.int .i64 p.2.2.1)), (.c (.int .u64 p.2.2.2.1))])), (1, (.box [(.c (.int .i64 (0 : Int))), .nils])), (2, (.lst x18.length 4 (gl cs_Pose x18))), (3, (.box [(.c (.int .i64 (IntKind.i64.wrap ((1 : Int) + v1.1)))), (.lst 2 x18.length 4 (gl cs_Pose x18))])), (4, (.lst x19.length 4 (gl cs_Turn x19))), (5, (.box [(.c (.flt .f32 x20.bits)), (.c (.flt .f32 x21.bits)), (.c (.flt .f32 x22.bits)), (.lst 4 x19.length 4 (gl cs_Turn x19))])), (24, (.arr true p.2.2.2.2.length 1 (gl (csF .f32) p.2.2.2.2)))]⟩) (fun p => spec_l10DrawOk_l4 K a0 p.1 p.2.1 p.2.2.1 p.2.2.2.1 p.2.2.2.2 = some j42) (fun p => p.1) (K, (0 : Int), x16, x17, v24) h ?_
      clear h
      rintro ⟨k, x47, x48, x49, x50⟩ h
      replace h : spec_l10DrawOk_l4 K a0 k x47 x48 x49 x50 = some j42 := h
      show AW _ _ (⟨[(0, (vp 0 0)), (2, (vp 1 0)), (3, (vp 3 0)), (4, (vp 5 0)), (5, (vc (.int .i64 x15))), (6, (.v (.one (.arr 24)))), (7, (vc (.int .i64 x47)))], [(0, (.box [(.fx 0 0 (sl 1 (csI .u8) a0.code)), (.c (.int .i64 x48)), (.c (.int .u64 x49))])), (1, (.box [(.c (.int .i64 (0 : Int))), .nils])), (2, (.lst x18.length 4 (gl cs_Pose x18))), (3, (.box [(.c (.int .i64 (IntKind.i64.wrap ((1 : Int) + v1.1)))), (.lst 2 x18.length 4 (gl cs_Pose x18))])), (4, (.lst x19.length 4 (gl cs_Turn x19))), (5, (.box [(.c (.flt .f32 x20.bits)), (.c (.flt .f32 x21.bits)), (.c (.flt .f32 x22.bits)), (.lst 4 x19.length 4 (gl cs_Turn x19))])), (24, (.arr true x50.length 1 (gl (csF .f32) x50)))]⟩ : St) _
      obtain _ | k := k
      · rw [spec_l10DrawOk_l4] at h; cases h
      rw [spec_l10DrawOk_l4] at h
      refine AW.seq ?_
      refine AW.seq (AW.rA ⟨[(0, (vp 0 0)), (2, (vp 1 0)), (3, (vp 3 0)), (4, (vp 5 0)), (5, (vc (.int .i64 x15))), (6, (.v (.one (.arr 24)))), (7, (vc (.int .i64 x47))), (27, (vc (.bool (decide (x47 < (x50.length : Int))))))], [(0, (.box [(.fx 0 0 (sl 1 (csI .u8) a0.code)), (.c (.int .i64 x48)), (.c (.int .u64 x49))])), (1, (.box [(.c (.int .i64 (0 : Int))), .nils])), (2, (.lst x18.length 4 (gl cs_Pose x18))), (3, (.box [(.c (.int .i64 (IntKind.i64.wrap ((1 : Int) + v1.1)))), (.lst 2 x18.length 4 (gl cs_Pose x18))])), (4, (.lst x19.length 4 (gl cs_Turn x19))), (5, (.box [(.c (.flt .f32 x20.bits)), (.c (.flt .f32 x21.bits)), (.c (.flt .f32 x22.bits)), (.lst 4 x19.length 4 (gl cs_Turn x19))])), (24, (.arr true x50.length 1 (gl (csF .f32) x50)))]⟩ (T4 Tt) [] [0, 2, 3, 4, 5, 6, 7, 27] [0, 1, 2, 3, 4, 5, 24] ⟨tr, tr, tr, tr, tr⟩ (thenQ_normal ?_))
      rcases ite2_cases h with ⟨b51, h⟩ | ⟨b51, h⟩
      · refine AW.cond_t rfl b51 ?_
        refine AW.skip ?_
        refine thenQ_normal ?_
        refine AW.seq ?_
        refine AW.block ?_
        refine AW.seq ?_
        obtain ⟨v52, e53, h⟩ := bind_some h
        refine AW.rA ⟨[(0, (vp 0 0)), (2, (vp 1 0)), (3, (vp 3 0)), (4, (vp 5 0)), (5, (vc (.int .i64 x15))), (6, (.v (.one (.arr 24)))), (7, (vc (.int .i64 x47))), (31, (vc (.bool v52.1)))], [(0, (.box [(.fx 0 0 (sl 1 (csI .u8) a0.code)), (.c (.int .i64 v52.2.1)), (.c (.int .u64 v52.2.2))])), (1, (.box [(.c (.int .i64 (0 : Int))), .nils])), (2, (.lst x18.length 4 (gl cs_Pose x18))), (3, (.box [(.c (.int .i64 (IntKind.i64.wrap ((1 : Int) + v1.1)))), (.lst 2 x18.length 4 (gl cs_Pose x18))])), (4, (.lst x19.length 4 (gl cs_Turn x19))), (5, (.box [(.c (.flt .f32 x20.bits)), (.c (.flt .f32 x21.bits)), (.c (.flt .f32 x22.bits)), (.lst 4 x19.length 4 (gl cs_Turn x19))])), (24, (.arr true x50.length 1 (gl (csF .f32) x50)))]⟩ (Tt ∧ ((((Eqc (sl 1 (csI .u8) a0.code)) ∧ (Eqc (.int .i64 x48)) ∧ (Eqc (.int .u64 x49)) ∧ Tt) ∧ (Eqc (.int .i64 (3 : Int))) ∧ Tt) ∧ MutOK Try.prog 31 [(.box 3 (fun j => [true, false, false].getD j true) (fun j => (cs_l00Src (l00Src.mk a0.code x48 x49)).getD j .nilptr) (fun j => [.nilptr, (.int .i64 v52.2.1), (.int .u64 v52.2.2)].getD j .nilptr)), .one (.ro (.int .i64 (3 : Int)))] [.one (.bool v52.1)]) ∧ Tt) [.no, .callM [(.box 3 (fun j => [true, false, false].getD j true) (fun j => (cs_l00Src (l00Src.mk a0.code x48 x49)).getD j .nilptr) (fun j => [.nilptr, (.int .i64 v52.2.1), (.int .u64 v52.2.2)].getD j .nilptr)), .one (.ro (.int .i64 (3 : Int)))] [.one (.bool v52.1)] [[.view]] none] [0, 2, 3, 4, 5, 6, 7, 31] [0, 1, 2, 3, 4, 5, 24] ⟨tr, ⟨⟨⟨rfl, rfl, rfl, tr⟩, rfl, tr⟩, ok_spec_l00Src_one K (l00Src.mk a0.code x48 x49) (3 : Int) v52 e53⟩, tr⟩ ?_
        refine thenQ_normal ?_
        rcases ite2_cases h with ⟨b54, h⟩ | ⟨b54, h⟩
        · refine AW.cond_t rfl b54 ?_
          obtain ⟨v55, e56, h⟩ := bind_some h
          obtain ⟨c57, h⟩ := chk_some h
          refine AW.rA ⟨[(0, (vp 0 0)), (2, (vp 1 0)), (3, (vp 3 0)), (4, (vp 5 0)), (5, (vc (.int .i64 x15))), (6, (.v (.one (.arr 24)))), (7, (vc (.int .i64 x47)))], [(0, (.box [(.fx 0 0 (sl 1 (csI .u8) a0.code)), (.c (.int .i64 v55.2.1)), (.c (.int .u64 v55.2.2))])), (1, (.box [(.c (.int .i64 (0 : Int))), .nils])), (2, (.lst x18.length 4 (gl cs_Pose x18))), (3, (.box [(.c (.int .i64 (IntKind.i64.wrap ((1 : Int) + v1.1)))), (.lst 2 x18.length 4 (gl cs_Pose x18))])), (4, (.lst x19.length 4 (gl cs_Turn x19))), (5, (.box [(.c (.flt .f32 x20.bits)), (.c (.flt .f32 x21.bits)), (.c (.flt .f32 x22.bits)), (.lst 4 x19.length 4 (gl cs_Turn x19))])), (24, (.arr true (x50.set x47.toNat v55.1).length 1 (gl (csF .f32) (x50.set x47.toNat v55.1))))]⟩ (Tt ∧ T2 (((((Eqc (sl 1 (csI .u8) a0.code)) ∧ (Eqc (.int .i64 v52.2.1)) ∧ (Eqc (.int .u64 v52.2.2)) ∧ Tt) ∧ Tt) ∧ MutOK Try.prog 32 [(.box 3 (fun j => [true, false, false].getD j true) (fun j => (cs_l00Src (l00Src.mk a0.code v52.2.1 v52.2.2)).getD j .nilptr) (fun j => [.nilptr, (.int .i64 v55.2.1), (.int .u64 v55.2.2)].getD j .nilptr))] [.one (.flt .f32 v55.1.bits)]) ∧ (0 ≤ x47 ∧ x47 < (x50.length : Int)) ∧ ((x50.set x47.toNat v55.1).length = x50.length ∧ SetOb x50.length 1 x47.toNat 0 1 (gl (csF .f32) x50) (gl (csF .f32) (x50.set x47.toNat v55.1)) ∧ ((List.range 1).map fun j => ((csF .f32) v55.1).getD (0 + j) .nilptr) = ((List.range 1).map fun j => gl (csF .f32) (x50.set x47.toNat v55.1) x47.toNat (0 + j)) ∧ ((((.flt .f32 v55.1.bits) : C) = (.flt .f32 v55.1.bits) ∧ Tt) ∧ Tt) ∧ (true = true → ∀ j, j < 1 → isSeq (gl (csF .f32) x50 x47.toNat (0 + j)) = false ∧ isSeq (gl (csF .f32) (x50.set x47.toNat v55.1) x47.toNat (0 + j)) = false)) ∧ Tt)) [.no, .no, .no, .callM [(.box 3 (fun j => [true, false, false].getD j true) (fun j => (cs_l00Src (l00Src.mk a0.code v52.2.1 v52.2.2)).getD j .nilptr) (fun j => [.nilptr, (.int .i64 v55.2.1), (.int .u64 v55.2.2)].getD j .nilptr))] [.one (.flt .f32 v55.1.bits)] [[.view]] none, .no, .set (x50.set x47.toNat v55.1).length (gl (csF .f32) (x50.set x47.toNat v55.1)) ((List.range 1).map fun j => ((csF .f32) v55.1).getD (0 + j) .nilptr)] [0, 2, 3, 4, 5, 6, 7] [0, 1, 2, 3, 4, 5, 24] ⟨tr, tr, tr, ⟨⟨⟨rfl, rfl, rfl, tr⟩, tr⟩, ok_spec_l01DrawFloat K (l00Src.mk a0.code v52.2.1 v52.2.2) v55 e56⟩, c57, ⟨List.length_set, gl_set, (gl_atp (lt_of_bound c57)).symm, ⟨⟨rfl, tr⟩, tr⟩, (fun _ j hj => match j, hj with | 0, _ => ⟨rfl, rfl⟩)⟩, tr⟩ ?_
          refine blockQ_normal ?_
          refine thenQ_normal ?_
          refine AW.rA ⟨[(0, (vp 0 0)), (2, (vp 1 0)), (3, (vp 3 0)), (4, (vp 5 0)), (5, (vc (.int .i64 x15))), (6, (.v (.one (.arr 24)))), (7, (vc (.int .i64 (IntKind.i64.wrap (x47 + (1 : Int))))))], [(0, (.box [(.fx 0 0 (sl 1 (csI .u8) a0.code)), (.c (.int .i64 v55.2.1)), (.c (.int .u64 v55.2.2))])), (1, (.box [(.c (.int .i64 (0 : Int))), .nils])), (2, (.lst x18.length 4 (gl cs_Pose x18))), (3, (.box [(.c (.int .i64 (IntKind.i64.wrap ((1 : Int) + v1.1)))), (.lst 2 x18.length 4 (gl cs_Pose x18))])), (4, (.lst x19.length 4 (gl cs_Turn x19))), (5, (.box [(.c (.flt .f32 x20.bits)), (.c (.flt .f32 x21.bits)), (.c (.flt .f32 x22.bits)), (.lst 4 x19.length 4 (gl cs_Turn x19))])), (24, (.arr true (x50.set x47.toNat v55.1).length 1 (gl (csF .f32) (x50.set x47.toNat v55.1))))]⟩ (Tt ∧ T2 Tt) [] [0, 2, 3, 4, 5, 6, 7] [0, 1, 2, 3, 4, 5, 24] ⟨tr, tr, tr, tr⟩ ?_
          exact loopQ_normal (k, (IntKind.i64.wrap (x47 + (1 : Int))), v55.2.1, v55.2.2, (x50.set x47.toNat v55.1)) h (Nat.lt_succ_self k) (Sub.keep [0, 2, 3, 4, 5, 6, 7] [0, 1, 2, 3, 4, 5, 24] (by kernel_rfl) (by kernel_rfl))
        · refine AW.cond_f rfl b54 ?_
          refine AW.skip ?_
          refine blockQ_normal ?_
          refine thenQ_normal ?_
          refine AW.rA ⟨[(0, (vp 0 0)), (2, (vp 1 0)), (3, (vp 3 0)), (4, (vp 5 0)), (5, (vc (.int .i64 x15))), (6, (.v (.one (.arr 24)))), (7, (vc (.int .i64 (IntKind.i64.wrap (x47 + (1 : Int))))))], [(0, (.box [(.fx 0 0 (sl 1 (csI .u8) a0.code)), (.c (.int .i64 v52.2.1)), (.c (.int .u64 v52.2.2))])), (1, (.box [(.c (.int .i64 (0 : Int))), .nils])), (2, (.lst x18.length 4 (gl cs_Pose x18))), (3, (.box [(.c (.int .i64 (IntKind.i64.wrap ((1 : Int) + v1.1)))), (.lst 2 x18.length 4 (gl cs_Pose x18))])), (4, (.lst x19.length 4 (gl cs_Turn x19))), (5, (.box [(.c (.flt .f32 x20.bits)), (.c (.flt .f32 x21.bits)), (.c (.flt .f32 x22.bits)), (.lst 4 x19.length 4 (gl cs_Turn x19))])), (24, (.arr true x50.length 1 (gl (csF .f32) x50)))]⟩ (Tt ∧ T2 Tt) [] [0, 2, 3, 4, 5, 6, 7] [0, 1, 2, 3, 4, 5, 24] ⟨tr, tr, tr, tr⟩ ?_
          exact loopQ_normal (k, (IntKind.i64.wrap (x47 + (1 : Int))), v52.2.1, v52.2.2, x50) h (Nat.lt_succ_self k) (Sub.keep [0, 2, 3, 4, 5, 6, 7] [0, 1, 2, 3, 4, 5, 24] (by kernel_rfl) (by kernel_rfl))
      · refine AW.cond_f rfl b51 ?_
        refine AW.exit ?_
        refine thenQ_exit ?_
        refine loopQ_exit ?_
        refine blockQ_exit ?_
        replace h := some_eq h
        subst h
        exact ⟨rfl, Sub.keep [0, 2, 3, 4, 5, 6] [0, 1, 2, 3, 4, 5, 24] (by kernel_rfl) (by kernel_rfl)⟩
    refine thenQ_normal ?_
    refine AW.seq ?_
    obtain ⟨v58, e59, h⟩ := bind_some h
    refine AW.rA ⟨[(0, (vp 0 0)), (2, (vp 1 0)), (3, (vp 3 0)), (4, (vp 5 0)), (5, (vc (.int .i64 x15)))], [(0, (.box [(.fx 0 0 (sl 1 (csI .u8) a0.code)), (.c (.int .i64 j42.1)), (.c (.int .u64 j42.2.1))])), (1, (.box [(.c (.int .i64 (0 : Int))), .nils])), (2, (.lst x18.length 4 (gl cs_Pose x18))), (3, (.box [(.c (.int .i64 (IntKind.i64.wrap ((1 : Int) + v1.1)))), (.lst 2 x18.length 4 (gl cs_Pose x18))])), (5, (.box [(.c (.flt .f32 v58.Root.X.bits)), (.c (.flt .f32 v58.Root.Y.bits)), (.c (.flt .f32 v58.Root.Z.bits)), (.lst 25 v58.Turns.length 4 (gl cs_Turn v58.Turns))])), (25, (.lst v58.Turns.length 4 (gl cs_Turn v58.Turns)))]⟩ (Tt ∧ (((Eqc (sl 1 (csF .f32) j42.2.2)) ∧ Tt) ∧ CallOK Try.prog 33 [.one (sl 1 (csF .f32) j42.2.2)] [.agg (cs_Pose v58)]) ∧ Tt ∧ Tt) [.no, .call [.one (sl 1 (csF .f32) j42.2.2)] [.agg (cs_Pose v58)] [[.view, .view, .view, .lst 25]]] [0, 2, 3, 4, 5] [0, 1, 2, 3, 5, 25] ⟨tr, ⟨⟨rfl, tr⟩, ok_spec_l10Pose K j42.2.2 v58 e59⟩, tr, tr⟩ ?_
    refine thenQ_normal ?_
    refine AW.seq ?_
    refine AW.seq ?_
    obtain ⟨v60, e61, h⟩ := bind_some h
    refine AW.rA ⟨[(0, (vp 0 0)), (2, (vp 1 0)), (3, (vp 3 0)), (4, (vp 5 0)), (5, (vc (.int .i64 x15))), (40, (vc (.bool v60.1)))], [(0, (.box [(.fx 0 0 (sl 1 (csI .u8) a0.code)), (.c (.int .i64 v60.2.1)), (.c (.int .u64 v60.2.2))])), (1, (.box [(.c (.int .i64 (0 : Int))), .nils])), (2, (.lst x18.length 4 (gl cs_Pose x18))), (3, (.box [(.c (.int .i64 (IntKind.i64.wrap ((1 : Int) + v1.1)))), (.lst 2 x18.length 4 (gl cs_Pose x18))])), (5, (.box [(.c (.flt .f32 v58.Root.X.bits)), (.c (.flt .f32 v58.Root.Y.bits)), (.c (.flt .f32 v58.Root.Z.bits)), (.lst 25 v58.Turns.length 4 (gl cs_Turn v58.Turns))])), (25, (.lst v58.Turns.length 4 (gl cs_Turn v58.Turns)))]⟩ (Tt ∧ ((((Eqc (sl 1 (csI .u8) a0.code)) ∧ (Eqc (.int .i64 j42.1)) ∧ (Eqc (.int .u64 j42.2.1)) ∧ Tt) ∧ (Eqc (.int .i64 (3 : Int))) ∧ Tt) ∧ MutOK Try.prog 31 [(.box 3 (fun j => [true, false, false].getD j true) (fun j => (cs_l00Src (l00Src.mk a0.code j42.1 j42.2.1)).getD j .nilptr) (fun j => [.nilptr, (.int .i64 v60.2.1), (.int .u64 v60.2.2)].getD j .nilptr)), .one (.ro (.int .i64 (3 : Int)))] [.one (.bool v60.1)]) ∧ Tt) [.no, .callM [(.box 3 (fun j => [true, false, false].getD j true) (fun j => (cs_l00Src (l00Src.mk a0.code j42.1 j42.2.1)).getD j .nilptr) (fun j => [.nilptr, (.int .i64 v60.2.1), (.int .u64 v60.2.2)].getD j .nilptr)), .one (.ro (.int .i64 (3 : Int)))] [.one (.bool v60.1)] [[.view]] none] [0, 2, 3, 4, 5, 40] [0, 1, 2, 3, 5, 25] ⟨tr, ⟨⟨⟨rfl, rfl, rfl, tr⟩, rfl, tr⟩, ok_spec_l00Src_one K (l00Src.mk a0.code j42.1 j42.2.1) (3 : Int) v60 e61⟩, tr⟩ ?_
    refine thenQ_normal ?_
    rcases ite2_cases h with ⟨b62, h⟩ | ⟨b62, h⟩
    · refine AW.cond_t rfl b62 ?_
      obtain ⟨v63, e64, h⟩ := bind_some h
      refine AW.rA ⟨[(0, (vp 0 0)), (2, (vp 1 0)), (3, (vp 3 0)), (4, (vp 5 0)), (5, (vc (.int .i64 x15)))], [(0, (.box [(.fx 0 0 (sl 1 (csI .u8) a0.code)), (.c (.int .i64 v63.2.1)), (.c (.int .u64 v63.2.2))])), (1, (.box [(.c (.int .i64 (0 : Int))), .nils])), (2, (.lst x18.length 4 (gl cs_Pose x18))), (3, (.box [(.c (.int .i64 (IntKind.i64.wrap ((1 : Int) + v1.1)))), (.lst 2 x18.length 4 (gl cs_Pose x18))])), (5, (.box [(.c (.flt .f32 v63.1.Root.X.bits)), (.c (.flt .f32 v63.1.Root.Y.bits)), (.c (.flt .f32 v63.1.Root.Z.bits)), (.lst 26 v63.1.Turns.length 4 (gl cs_Turn v63.1.Turns))])), (26, (.lst v63.1.Turns.length 4 (gl cs_Turn v63.1.Turns)))]⟩ (Tt ∧ T2 (((((Eqc (sl 1 (csI .u8) a0.code)) ∧ (Eqc (.int .i64 v60.2.1)) ∧ (Eqc (.int .u64 v60.2.2)) ∧ Tt) ∧ (Eqc (.int .i64 (IntKind.i64.wrap ((1 : Int) + v1.1)))) ∧ Tt) ∧ MutOK Try.prog 29 [(.box 3 (fun j => [true, false, false].getD j true) (fun j => (cs_l00Src (l00Src.mk a0.code v60.2.1 v60.2.2)).getD j .nilptr) (fun j => [.nilptr, (.int .i64 v63.2.1), (.int .u64 v63.2.2)].getD j .nilptr)), .one (.ro (.int .i64 (IntKind.i64.wrap ((1 : Int) + v1.1))))] [.agg (cs_Pose v63.1)]) ∧ Tt ∧ Tt)) [.no, .no, .no, .callM [(.box 3 (fun j => [true, false, false].getD j true) (fun j => (cs_l00Src (l00Src.mk a0.code v60.2.1 v60.2.2)).getD j .nilptr) (fun j => [.nilptr, (.int .i64 v63.2.1), (.int .u64 v63.2.2)].getD j .nilptr)), .one (.ro (.int .i64 (IntKind.i64.wrap ((1 : Int) + v1.1))))] [.agg (cs_Pose v63.1)] [[.view, .view, .view, .lst 26]] none] [0, 2, 3, 4, 5] [0, 1, 2, 3, 5, 26] ⟨tr, tr, tr, ⟨⟨⟨rfl, rfl, rfl, tr⟩, rfl, tr⟩, ok_spec_l03DrawPose K (l00Src.mk a0.code v60.2.1 v60.2.2) (IntKind.i64.wrap ((1 : Int) + v1.1)) v63 e64⟩, tr, tr⟩ ?_
      refine thenQ_normal ?_
      obtain ⟨v65, e66, h⟩ := bind_some h
      obtain ⟨c67, h⟩ := chk_some h
      refine AW.dA ⟨[(0, (vp 0 0)), (2, (vp 1 0)), (3, (vp 3 0)), (4, (vp 5 0)), (5, (vc (.int .i64 x15)))], [(0, (.box [(.fx 0 0 (sl 1 (csI .u8) a0.code)), (.c (.int .i64 v63.2.1)), (.c (.int .u64 v63.2.2))])), (1, (.box [(.c (.int .i64 (0 : Int))), .nils])), (3, (.box [(.c (.int .i64 (IntKind.i64.wrap ((1 : Int) + v1.1)))), (.lst 29 (x18 ++ ([v65])).length 4 (gl cs_Pose (x18 ++ ([v65]))))])), (5, (.box [(.c (.flt .f32 v63.1.Root.X.bits)), (.c (.flt .f32 v63.1.Root.Y.bits)), (.c (.flt .f32 v63.1.Root.Z.bits)), (.lst 26 v63.1.Turns.length 4 (gl cs_Turn v63.1.Turns))])), (26, (.lst v63.1.Turns.length 4 (gl cs_Turn v63.1.Turns))), (29, (.lst (x18 ++ ([v65])).length 4 (gl cs_Pose (x18 ++ ([v65])))))]⟩ ((T2 ((((0 = 0 ∧ (Eqc (.flt .f32 v63.1.Root.X.bits)) ∧ (Eqc (.flt .f32 v63.1.Root.Y.bits)) ∧ (Eqc (.flt .f32 v63.1.Root.Z.bits)) ∧ (Eqc (sl 4 cs_Turn v63.1.Turns)) ∧ Tt) ∧ Tt) ∧ CallOK Try.prog 34 [.one (pl 4 cs_Pose v63.1)] [.agg (cs_Pose v65)]) ∧ (([v65]).length = 1 ∧ (((.flt .f32 v65.Root.X.bits) : C) = (.flt .f32 v65.Root.X.bits) ∧ Tt) ∧ (((.flt .f32 v65.Root.Y.bits) : C) = (.flt .f32 v65.Root.Y.bits) ∧ Tt) ∧ (((.flt .f32 v65.Root.Z.bits) : C) = (.flt .f32 v65.Root.Z.bits) ∧ Tt) ∧ (Eqc (sl 4 cs_Turn v65.Turns)) ∧ Tt) ∧ ((x18 ++ ([v65])).length = x18.length + ([v65]).length ∧ AppOb (x18.length) (([v65]).length) 4 (gl cs_Pose x18) (gl cs_Pose ([v65])) (gl cs_Pose (x18 ++ ([v65]))) ∧ Tt ∧ (x18.length + ([v65]).length) * 40 ≤ 140737488355328) ∧ Tt ∧ Tt)) ∧ (Tt ∧ Tt)) 6 [.no, .no, .call [.one (pl 4 cs_Pose v63.1)] [.agg (cs_Pose v65)] [[.view, .view, .view, .lst 27]], .obj 28 ([v65]).length (gl cs_Pose ([v65])), .obj 29 (x18 ++ ([v65])).length (gl cs_Pose (x18 ++ ([v65])))] [0, 2, 3, 4, 5] [0, 1, 3, 5, 26, 29] ⟨⟨tr, tr, ⟨⟨⟨rfl, rfl, rfl, rfl, rfl, tr⟩, tr⟩, ok_spec_l10Copy K v63.1 v65 e66⟩, ⟨rfl, ⟨⟨rfl, tr⟩, ⟨rfl, tr⟩, ⟨rfl, tr⟩, rfl, tr⟩⟩, ⟨List.length_append, gl_append, tr, c67⟩, tr, tr⟩, ⟨tr, tr⟩⟩ ?_
      refine blockQ_normal ?_
      refine thenQ_normal ?_
      refine AW.rA ⟨[(0, (vp 0 0)), (2, (vp 1 0)), (3, (vp 3 0)), (4, (vp 5 0)), (5, (vc (.int .i64 (IntKind.i64.wrap (x15 - (1 : Int))))))], [(0, (.box [(.fx 0 0 (sl 1 (csI .u8) a0.code)), (.c (.int .i64 v63.2.1)), (.c (.int .u64 v63.2.2))])), (1, (.box [(.c (.int .i64 (0 : Int))), .nils])), (3, (.box [(.c (.int .i64 (IntKind.i64.wrap ((1 : Int) + v1.1)))), (.lst 29 (x18 ++ ([v65])).length 4 (gl cs_Pose (x18 ++ ([v65]))))])), (5, (.box [(.c (.flt .f32 v63.1.Root.X.bits)), (.c (.flt .f32 v63.1.Root.Y.bits)), (.c (.flt .f32 v63.1.Root.Z.bits)), (.lst 26 v63.1.Turns.length 4 (gl cs_Turn v63.1.Turns))])), (26, (.lst v63.1.Turns.length 4 (gl cs_Turn v63.1.Turns))), (29, (.lst (x18 ++ ([v65])).length 4 (gl cs_Pose (x18 ++ ([v65])))))]⟩ (Tt ∧ T2 Tt) [] [0, 2, 3, 4, 5] [0, 1, 3, 5, 26, 29] ⟨tr, tr, tr, tr⟩ ?_
      exact loopQ_normal (k, (IntKind.i64.wrap (x15 - (1 : Int))), v63.2.1, v63.2.2, (x18 ++ ([v65])), v63.1.Turns, v63.1.Root.X, v63.1.Root.Y, v63.1.Root.Z) h (Nat.lt_succ_self k) (Sub.trans (Sub.swap 2 29 _ (by kernel_rfl) (by kernel_rfl)) (Sub.trans (Sub.swap 4 26 _ (by kernel_rfl) (by kernel_rfl)) (Sub.keep [0, 2, 3, 4, 5] [0, 1, 2, 3, 4, 5] (by kernel_rfl) (by kernel_rfl))))
    · refine AW.cond_f rfl b62 ?_
      refine AW.skip ?_
      refine thenQ_normal ?_
      obtain ⟨v68, e69, h⟩ := bind_some h
      obtain ⟨c70, h⟩ := chk_some h
      refine AW.dA ⟨[(0, (vp 0 0)), (2, (vp 1 0)), (3, (vp 3 0)), (4, (vp 5 0)), (5, (vc (.int .i64 x15)))], [(0, (.box [(.fx 0 0 (sl 1 (csI .u8) a0.code)), (.c (.int .i64 v60.2.1)), (.c (.int .u64 v60.2.2))])), (1, (.box [(.c (.int .i64 (0 : Int))), .nils])), (3, (.box [(.c (.int .i64 (IntKind.i64.wrap ((1 : Int) + v1.1)))), (.lst 32 (x18 ++ ([v68])).length 4 (gl cs_Pose (x18 ++ ([v68]))))])), (5, (.box [(.c (.flt .f32 v58.Root.X.bits)), (.c (.flt .f32 v58.Root.Y.bits)), (.c (.flt .f32 v58.Root.Z.bits)), (.lst 25 v58.Turns.length 4 (gl cs_Turn v58.Turns))])), (25, (.lst v58.Turns.length 4 (gl cs_Turn v58.Turns))), (32, (.lst (x18 ++ ([v68])).length 4 (gl cs_Pose (x18 ++ ([v68])))))]⟩ ((T2 ((((0 = 0 ∧ (Eqc (.flt .f32 v58.Root.X.bits)) ∧ (Eqc (.flt .f32 v58.Root.Y.bits)) ∧ (Eqc (.flt .f32 v58.Root.Z.bits)) ∧ (Eqc (sl 4 cs_Turn v58.Turns)) ∧ Tt) ∧ Tt) ∧ CallOK Try.prog 34 [.one (pl 4 cs_Pose v58)] [.agg (cs_Pose v68)]) ∧ (([v68]).length = 1 ∧ (((.flt .f32 v68.Root.X.bits) : C) = (.flt .f32 v68.Root.X.bits) ∧ Tt) ∧ (((.flt .f32 v68.Root.Y.bits) : C) = (.flt .f32 v68.Root.Y.bits) ∧ Tt) ∧ (((.flt .f32 v68.Root.Z.bits) : C) = (.flt .f32 v68.Root.Z.bits) ∧ Tt) ∧ (Eqc (sl 4 cs_Turn v68.Turns)) ∧ Tt) ∧ ((x18 ++ ([v68])).length = x18.length + ([v68]).length ∧ AppOb (x18.length) (([v68]).length) 4 (gl cs_Pose x18) (gl cs_Pose ([v68])) (gl cs_Pose (x18 ++ ([v68]))) ∧ Tt ∧ (x18.length + ([v68]).length) * 40 ≤ 140737488355328) ∧ Tt ∧ Tt)) ∧ (Tt ∧ Tt)) 6 [.no, .no, .call [.one (pl 4 cs_Pose v58)] [.agg (cs_Pose v68)] [[.view, .view, .view, .lst 30]], .obj 31 ([v68]).length (gl cs_Pose ([v68])), .obj 32 (x18 ++ ([v68])).length (gl cs_Pose (x18 ++ ([v68])))] [0, 2, 3, 4, 5] [0, 1, 3, 5, 25, 32] ⟨⟨tr, tr, ⟨⟨⟨rfl, rfl, rfl, rfl, rfl, tr⟩, tr⟩, ok_spec_l10Copy K v58 v68 e69⟩, ⟨rfl, ⟨⟨rfl, tr⟩, ⟨rfl, tr⟩, ⟨rfl, tr⟩, rfl, tr⟩⟩, ⟨List.length_append, gl_append, tr, c70⟩, tr, tr⟩, ⟨tr, tr⟩⟩ ?_
      refine blockQ_normal ?_
      refine thenQ_normal ?_
      refine AW.rA ⟨[(0, (vp 0 0)), (2, (vp 1 0)), (3, (vp 3 0)), (4, (vp 5 0)), (5, (vc (.int .i64 (IntKind.i64.wrap (x15 - (1 : Int))))))], [(0, (.box [(.fx 0 0 (sl 1 (csI .u8) a0.code)), (.c (.int .i64 v60.2.1)), (.c (.int .u64 v60.2.2))])), (1, (.box [(.c (.int .i64 (0 : Int))), .nils])), (3, (.box [(.c (.int .i64 (IntKind.i64.wrap ((1 : Int) + v1.1)))), (.lst 32 (x18 ++ ([v68])).length 4 (gl cs_Pose (x18 ++ ([v68]))))])), (5, (.box [(.c (.flt .f32 v58.Root.X.bits)), (.c (.flt .f32 v58.Root.Y.bits)), (.c (.flt .f32 v58.Root.Z.bits)), (.lst 25 v58.Turns.length 4 (gl cs_Turn v58.Turns))])), (25, (.lst v58.Turns.length 4 (gl cs_Turn v58.Turns))), (32, (.lst (x18 ++ ([v68])).length 4 (gl cs_Pose (x18 ++ ([v68])))))]⟩ (Tt ∧ T2 Tt) [] [0, 2, 3, 4, 5] [0, 1, 3, 5, 25, 32] ⟨tr, tr, tr, tr⟩ ?_
      exact loopQ_normal (k, (IntKind.i64.wrap (x15 - (1 : Int))), v60.2.1, v60.2.2, (x18 ++ ([v68])), v58.Turns, v58.Root.X, v58.Root.Y, v58.Root.Z) h (Nat.lt_succ_self k) (Sub.trans (Sub.swap 2 32 _ (by kernel_rfl) (by kernel_rfl)) (Sub.trans (Sub.swap 4 25 _ (by kernel_rfl) (by kernel_rfl)) (Sub.keep [0, 2, 3, 4, 5] [0, 1, 2, 3, 4, 5] (by kernel_rfl) (by kernel_rfl))))
  · refine AW.cond_f rfl b23 ?_
    refine AW.exit ?_
    refine thenQ_exit ?_
    refine loopQ_exit ?_
    refine blockQ_exit ?_
    refine thenQ_normal ?_
    refine AW.seq (AW.rA ⟨[(0, (vp 0 0)), (2, (vp 1 0))], [(0, (.box [(.fx 0 0 (sl 1 (csI .u8) a0.code)), (.c (.int .i64 x16)), (.c (.int .u64 x17))])), (1, (.box [(.c (.int .i64 (IntKind.i64.wrap ((1 : Int) + v1.1)))), (.lst 2 x18.length 4 (gl cs_Pose x18))])), (2, (.lst x18.length 4 (gl cs_Pose x18)))]⟩ (T2 Tt) [] [0, 2] [0, 1, 2] ⟨tr, tr, tr⟩ (thenQ_normal ?_))
    refine AW.ret ?_
    replace h := some_eq h
    subst h
    exact ⟨.inr rfl, retOK_of [(.agg [(.c (.int .i64 (IntKind.i64.wrap ((1 : Int) + v1.1)))), (.lst 2 x18.length 4 (gl cs_Pose x18))])] (by kernel_rfl) ⟨⟨⟨rfl, tr⟩, rfl, tr⟩, tr⟩ (of_decide_eq_true (by kernel_rfl)), by kernel_rfl, ⟨⟨rfl, ⟨⟨rfl, rfl⟩, ⟨rfl, rfl⟩, ⟨rfl, rfl⟩, tr⟩⟩, tr⟩⟩

/-! spec.R8Recording -/
def spec_R8Recording (K : Nat) (a0 : (List Int)) : Option (Recording) :=
  (spec_l10DrawOk K (l00Src.mk a0 (0 : Int) (0 : Int))).bind fun v1 => some v1.1

theorem ok_spec_R8Recording (K : Nat) (a0 : (List Int)) (o : (Recording)) (h : spec_R8Recording K a0 = some o) : CallOK Try.prog 5 [.one (sl 1 (csI .u8) a0)] [.agg (cs_Recording o)] := by
  refine callOK_of_AW Try.func5 rfl (by kernel_rfl) (Nat.le_of_ble_eq_true (by kernel_rfl)) ?_
  intro w0
  unfold spec_R8Recording at h
  refine AW.seq (AW.rA ⟨[(0, (vc (sl 1 (csI .u8) a0))), (2, (vp 1 0))], [(1, (.box [(.c (.int .i64 (0 : Int))), .nils]))]⟩ (Tt ∧ Tt) [.box 1] [0, 2] [1] ⟨tr, tr⟩ (thenQ_normal ?_))
  refine AW.seq (AW.mkA 1 2 [(.i64, 0), (.u64, 0)] [.no] [] [2, 3] [1, 2] (s' := ⟨[(2, (vp 1 0)), (3, (vp 2 0))], [(1, (.box [(.c (.int .i64 (0 : Int))), .nils])), (2, (.box [(.c (sl 1 (csI .u8) a0)), (.c (.int .i64 (0 : Int))), (.c (.int .u64 (0 : Int)))]))]⟩) (ob := (Tt ∧ Tt) ∧ Tt ∧ (Tt ∧ Tt)) (by kernel_rfl) ⟨⟨tr, tr⟩, tr, ⟨tr, tr⟩⟩ mk_spec_l00From (thenQ_normal ?_))
  refine AW.seq ?_
  obtain ⟨v1, e2, h⟩ := bind_some h
  refine AW.rA ⟨[(2, (vp 1 0))], [(1, (.box [(.c (.int .i64 v1.1.Bones)), (.lst 3 v1.1.Frames.length 4 (gl cs_Pose v1.1.Frames))])), (3, (.lst v1.1.Frames.length 4 (gl cs_Pose v1.1.Frames)))]⟩ (Tt ∧ ((((Eqc (sl 1 (csI .u8) a0)) ∧ (Eqc (.int .i64 (0 : Int))) ∧ (Eqc (.int .u64 (0 : Int))) ∧ Tt) ∧ Tt) ∧ MutOK Try.prog 15 [(.box 3 (fun j => [true, false, false].getD j true) (fun j => (cs_l00Src (l00Src.mk a0 (0 : Int) (0 : Int))).getD j .nilptr) (fun j => [.nilptr, (.int .i64 v1.2.1), (.int .u64 v1.2.2)].getD j .nilptr))] [.agg (cs_Recording v1.1)]) ∧ Tt ∧ Tt) [.no, .callM [(.box 3 (fun j => [true, false, false].getD j true) (fun j => (cs_l00Src (l00Src.mk a0 (0 : Int) (0 : Int))).getD j .nilptr) (fun j => [.nilptr, (.int .i64 v1.2.1), (.int .u64 v1.2.2)].getD j .nilptr))] [.agg (cs_Recording v1.1)] [[.view, .lst 3]] none] [2] [1, 3] ⟨tr, ⟨⟨⟨rfl, rfl, rfl, tr⟩, tr⟩, ok_spec_l10DrawOk K (l00Src.mk a0 (0 : Int) (0 : Int)) v1 e2⟩, tr, tr⟩ ?_
  refine thenQ_normal ?_
  refine AW.ret ?_
  replace h := some_eq h
  subst h
  exact ⟨.inr rfl, retOK_of [(.agg [(.c (.int .i64 v1.1.Bones)), (.lst 3 v1.1.Frames.length 4 (gl cs_Pose v1.1.Frames))])] (by kernel_rfl) ⟨⟨⟨rfl, tr⟩, rfl, tr⟩, tr⟩ (of_decide_eq_true (by kernel_rfl))⟩

/-! impl.isCount -/
def impl_isCount (_K : Nat) (a0 : Int) : Option (Bool) :=
  (ite2 ((decide (a0 ≥ (1 : Int)))) (some (decide (a0 ≤ (12 : Int)))) (some false)).bind fun j2 => some j2

theorem ok_impl_isCount (K : Nat) (a0 : Int) (o : (Bool)) (h : impl_isCount K a0 = some o) : CallOK Try.prog 20 [.one (.int .i64 a0)] [.one (.bool o)] := by
  refine callOK_of_AW Try.func20 rfl (by kernel_rfl) (Nat.le_of_ble_eq_true (by kernel_rfl)) ?_
  intro w0
  unfold impl_isCount at h
  refine AW.seq (AW.rA ⟨[(0, (vc (.int .i64 a0)))], []⟩ (Tt ∧ Tt) [] [0] [] ⟨tr, tr⟩ (thenQ_normal ?_))
  refine AW.seq ?_
  obtain ⟨j2, e3, h⟩ := bind_some h
  refine AW.join1 (s2 := ⟨[(2, (vc (.bool j2)))], []⟩) ?_ ?_
  · rcases ite2_cases e3 with ⟨b1, e3⟩ | ⟨b1, e3⟩
    · replace e3 := some_eq e3
      subst e3
      exact AW.rA ⟨[(2, (vc (.bool (decide (a0 ≤ (12 : Int))))))], []⟩ (T2 ((Tt ∧ (decide (a0 ≥ (1 : Int))) = true) ∧ T4 Tt)) [.no, .no, .dec true] [2] [] ⟨tr, tr, ⟨tr, b1⟩, tr, tr, tr, tr, tr⟩ ⟨rfl, rfl⟩
    · replace e3 := some_eq e3
      subst e3
      exact AW.rA ⟨[(2, (vc (.bool false)))], []⟩ (T2 ((Tt ∧ (decide (a0 ≥ (1 : Int))) = false) ∧ T4 Tt)) [.no, .no, .dec false] [2] [] ⟨tr, tr, ⟨tr, b1⟩, tr, tr, tr, tr, tr⟩ ⟨rfl, rfl⟩
  refine thenQ_normal ?_
  refine AW.ret ?_
  replace h := some_eq h
  subst h
  exact ⟨.inr rfl, retOK_of [(.one (.c (.bool j2)))] (by kernel_rfl) ⟨⟨rfl, tr⟩, tr⟩ (of_decide_eq_true (by kernel_rfl))⟩

/-! impl.ValidRecording$1 -/
def impl_ValidRecording_1 (_K : Nat) (a0 : Pose) (a1 : Recording) : Option (Bool) :=
  some ((a0.Turns.length : Int) != a1.Bones)

theorem ok_impl_ValidRecording_1 (K : Nat) (a0 : Pose) (a1 : Recording) (o : (Bool)) (h : impl_ValidRecording_1 K a0 a1 = some o) : CallOK Try.prog 22 [.agg (cs_Pose a0), .one (pl 2 cs_Recording a1)] [.one (.bool o)] := by
  refine callOK_of_AW Try.func22 rfl (by kernel_rfl) (Nat.le_of_ble_eq_true (by kernel_rfl)) ?_
  intro w0
  unfold impl_ValidRecording_1 at h
  refine AW.seq (AW.rA ⟨[(1, (vc (pl 2 cs_Recording a1))), (2, (vp 1 0))], [(1, (.box [(.c (.flt .f32 a0.Root.X.bits)), (.c (.flt .f32 a0.Root.Y.bits)), (.c (.flt .f32 a0.Root.Z.bits)), (.c (sl 4 cs_Turn a0.Turns))]))]⟩ (T2 Tt) [.box 1] [1, 2] [1] ⟨tr, tr, tr⟩ (thenQ_normal ?_))
  refine AW.seq (AW.rA ⟨[(3, (vc (.bool ((a0.Turns.length : Int) != a1.Bones))))], []⟩ (Tt ∧ T2 (T4 Tt)) [] [3] [] ⟨tr, tr, tr, tr, tr, tr, tr, tr⟩ (thenQ_normal ?_))
  refine AW.ret ?_
  replace h := some_eq h
  subst h
  exact ⟨.inr rfl, retOK_of [(.one (.c (.bool ((a0.Turns.length : Int) != a1.Bones))))] (by kernel_rfl) ⟨⟨rfl, tr⟩, tr⟩ (of_decide_eq_true (by kernel_rfl))⟩

/-! slices.IndexFunc[[]impl.Pose,impl.Pose] -/
def slices_IndexFunc_impl_Pose_impl_Pose_l1 (K : Nat) (a0 : (List Pose)) (a1_0_0 : Recording) : Nat → Int → Option (Int)
  | 0, _ => none
  | k + 1, x2 => ite2 ((decide (x2 < (a0.length : Int)))) (chk (0 ≤ x2 ∧ x2 < (a0.length : Int)) ((impl_ValidRecording_1 K (a0.getD x2.toNat default) a1_0_0).bind fun v5 => ite2 (v5) (some x2) (slices_IndexFunc_impl_Pose_impl_Pose_l1 K a0 a1_0_0 k (IntKind.i64.wrap (x2 + (1 : Int)))))) (some ((-1) : Int))

def slices_IndexFunc_impl_Pose_impl_Pose (K : Nat) (a0 : (List Pose)) (a1_0_0 : Recording) : Option (Int) :=
  slices_IndexFunc_impl_Pose_impl_Pose_l1 K a0 a1_0_0 K (0 : Int)

theorem ok_slices_IndexFunc_impl_Pose_impl_Pose (K : Nat) (a0 : (List Pose)) (a1_0_0 : Recording) (o : (Int)) (h : slices_IndexFunc_impl_Pose_impl_Pose K a0 a1_0_0 = some o) : CallOK Try.prog 38 [.one (sl 4 cs_Pose a0), .one (.fn 22 1 fun j => [(pl 2 cs_Recording a1_0_0)].getD j .nilptr)] [.one (.int .i64 o)] := by
  refine callOK_of_AW Try.func38 rfl (by kernel_rfl) (Nat.le_of_ble_eq_true (by kernel_rfl)) ?_
  intro w0
  unfold slices_IndexFunc_impl_Pose_impl_Pose at h
  refine AW.seq (AW.rA ⟨[(0, (vc (sl 4 cs_Pose a0))), (1, (vc (.fn 22 1 fun j => [(pl 2 cs_Recording a1_0_0)].getD j .nilptr)))], []⟩ (Tt ∧ Tt) [] [0, 1] [] ⟨tr, tr⟩ (thenQ_normal ?_))
  refine AW.seq ?_
  refine AW.seq (AW.rA ⟨[(0, (vc (sl 4 cs_Pose a0))), (1, (vc (.fn 22 1 fun j => [(pl 2 cs_Recording a1_0_0)].getD j .nilptr))), (7, (vc (.int .i64 (a0.length : Int)))), (8, (vc (.int .i64 (0 : Int))))], []⟩ (Tt ∧ T2 Tt) [] [0, 1, 7, 8] [] ⟨tr, tr, tr, tr⟩ (thenQ_normal ?_))
  refine AW.block ?_
  refine AW.loopQ (σ := Nat × Int) (fun p => ⟨[(0, (vc (sl 4 cs_Pose a0))), (1, (vc (.fn 22 1 fun j => [(pl 2 cs_Recording a1_0_0)].getD j .nilptr))), (7, (vc (.int .i64 (a0.length : Int)))), (8, (vc (.int .i64 p.2)))], []⟩) (fun p => slices_IndexFunc_impl_Pose_impl_Pose_l1 K a0 a1_0_0 p.1 p.2 = some o) (fun p => p.1) (K, (0 : Int)) h ?_
  clear h
  rintro ⟨k, x2⟩ h
  replace h : slices_IndexFunc_impl_Pose_impl_Pose_l1 K a0 a1_0_0 k x2 = some o := h
  show AW _ _ (⟨[(0, (vc (sl 4 cs_Pose a0))), (1, (vc (.fn 22 1 fun j => [(pl 2 cs_Recording a1_0_0)].getD j .nilptr))), (7, (vc (.int .i64 (a0.length : Int)))), (8, (vc (.int .i64 x2)))], []⟩ : St) _
  obtain _ | k := k
  · rw [slices_IndexFunc_impl_Pose_impl_Pose_l1] at h; cases h
  rw [slices_IndexFunc_impl_Pose_impl_Pose_l1] at h
  refine AW.seq (AW.rA ⟨[(0, (vc (sl 4 cs_Pose a0))), (1, (vc (.fn 22 1 fun j => [(pl 2 cs_Recording a1_0_0)].getD j .nilptr))), (7, (vc (.int .i64 (a0.length : Int)))), (8, (vc (.int .i64 x2))), (9, (vc (.bool (decide (x2 < (a0.length : Int))))))], []⟩ (Tt ∧ Tt) [] [0, 1, 7, 8, 9] [] ⟨tr, tr⟩ (thenQ_normal ?_))
  refine AW.seq ?_
  rcases ite2_cases h with ⟨b3, h⟩ | ⟨b3, h⟩
  · refine AW.cond_t rfl b3 ?_
    refine AW.skip ?_
    refine thenQ_normal ?_
    refine AW.seq ?_
    refine AW.block ?_
    refine AW.seq (AW.rA ⟨[(0, (vc (sl 4 cs_Pose a0))), (1, (vc (.fn 22 1 fun j => [(pl 2 cs_Recording a1_0_0)].getD j .nilptr))), (5, (vc (.int .i64 x2))), (7, (vc (.int .i64 (a0.length : Int)))), (8, (vc (.int .i64 x2)))], []⟩ (T2 Tt) [] [0, 1, 5, 7, 8] [] ⟨tr, tr, tr⟩ (thenQ_normal ?_))
    refine AW.seq ?_
    obtain ⟨c4, h⟩ := chk_some h
    obtain ⟨v5, e6, h⟩ := bind_some h
    refine AW.rA ⟨[(0, (vc (sl 4 cs_Pose a0))), (1, (vc (.fn 22 1 fun j => [(pl 2 cs_Recording a1_0_0)].getD j .nilptr))), (5, (vc (.int .i64 x2))), (7, (vc (.int .i64 (a0.length : Int)))), (8, (vc (.int .i64 x2))), (16, (vc (.bool v5)))], []⟩ (Tt ∧ T2 ((0 ≤ x2 ∧ x2 < (a0.length : Int)) ∧ Tt ∧ ((((Eqc (.flt .f32 (((a0.getD x2.toNat default).Root).X).bits)) ∧ (Eqc (.flt .f32 (((a0.getD x2.toNat default).Root).Y).bits)) ∧ (Eqc (.flt .f32 (((a0.getD x2.toNat default).Root).Z).bits)) ∧ (Eqc (sl 4 cs_Turn ((a0.getD x2.toNat default).Turns))) ∧ Tt) ∧ (2 = 2 ∧ ∀ j, j < 2 → (cs_Recording a1_0_0).getD j .nilptr = (cs_Recording a1_0_0).getD j .nilptr) ∧ Tt) ∧ CallOK Try.prog 22 [.agg (cs_Pose (a0.getD x2.toNat default)), .one (pl 2 cs_Recording a1_0_0)] [.one (.bool v5)]) ∧ Tt)) [.no, .no, .no, .no, .no, .call [.agg (cs_Pose (a0.getD x2.toNat default)), .one (pl 2 cs_Recording a1_0_0)] [.one (.bool v5)] [[.view]]] [0, 1, 5, 7, 8, 16] [] ⟨tr, tr, tr, c4, tr, ⟨⟨⟨rfl, rfl, rfl, rfl, tr⟩, ⟨rfl, fun j hj => rfl⟩, tr⟩, ok_impl_ValidRecording_1 K (a0.getD x2.toNat default) a1_0_0 v5 e6⟩, tr⟩ ?_
    refine thenQ_normal ?_
    rcases ite2_cases h with ⟨b7, h⟩ | ⟨b7, h⟩
    · refine AW.cond_t rfl b7 ?_
      refine AW.seq (AW.rA ⟨[(4, (vc (.int .i64 x2)))], []⟩ (T2 Tt) [] [4] [] ⟨tr, tr, tr⟩ (thenQ_normal ?_))
      refine AW.ret ?_
      refine blockQ_ret ?_
      refine thenQ_ret ?_
      refine loopQ_ret ?_
      refine blockQ_ret ?_
      refine thenQ_ret ?_
      replace h := some_eq h
      subst h
      exact ⟨.inr rfl, retOK_of [(.one (.c (.int .i64 x2)))] (by kernel_rfl) ⟨⟨rfl, tr⟩, tr⟩ (of_decide_eq_true (by kernel_rfl))⟩
    · refine AW.cond_f rfl b7 ?_
      refine AW.skip ?_
      refine blockQ_normal ?_
      refine thenQ_normal ?_
      refine AW.rA ⟨[(0, (vc (sl 4 cs_Pose a0))), (1, (vc (.fn 22 1 fun j => [(pl 2 cs_Recording a1_0_0)].getD j .nilptr))), (7, (vc (.int .i64 (a0.length : Int)))), (8, (vc (.int .i64 (IntKind.i64.wrap (x2 + (1 : Int))))))], []⟩ (T2 Tt) [] [0, 1, 7, 8] [] ⟨tr, tr, tr⟩ ?_
      exact loopQ_normal (k, (IntKind.i64.wrap (x2 + (1 : Int)))) h (Nat.lt_succ_self k) (Sub.keep [0, 1, 7, 8] [] (by kernel_rfl) (by kernel_rfl))
  · refine AW.cond_f rfl b3 ?_
    refine AW.exit ?_
    refine thenQ_exit ?_
    refine loopQ_exit ?_
    refine blockQ_exit ?_
    refine thenQ_normal ?_
    refine AW.seq (AW.rA ⟨[(4, (vc (.int .i64 ((-1) : Int))))], []⟩ (Tt ∧ Tt) [] [4] [] ⟨tr, tr⟩ (thenQ_normal ?_))
    refine AW.ret ?_
    replace h := some_eq h
    subst h
    exact ⟨.inr rfl, retOK_of [(.one (.c (.int .i64 ((-1) : Int))))] (by kernel_rfl) ⟨⟨rfl, tr⟩, tr⟩ (of_decide_eq_true (by kernel_rfl))⟩

/-! slices.ContainsFunc[[]impl.Pose,impl.Pose] -/
def slices_ContainsFunc_impl_Pose_impl_Pose (K : Nat) (a0 : (List Pose)) (a1_0_0 : Recording) : Option (Bool) :=
  (slices_IndexFunc_impl_Pose_impl_Pose K a0 a1_0_0).bind fun v1 => some (decide (v1 ≥ (0 : Int)))

theorem ok_slices_ContainsFunc_impl_Pose_impl_Pose (K : Nat) (a0 : (List Pose)) (a1_0_0 : Recording) (o : (Bool)) (h : slices_ContainsFunc_impl_Pose_impl_Pose K a0 a1_0_0 = some o) : CallOK Try.prog 21 [.one (sl 4 cs_Pose a0), .one (.fn 22 1 fun j => [(pl 2 cs_Recording a1_0_0)].getD j .nilptr)] [.one (.bool o)] := by
  refine callOK_of_AW Try.func21 rfl (by kernel_rfl) (Nat.le_of_ble_eq_true (by kernel_rfl)) ?_
  intro w0
  unfold slices_ContainsFunc_impl_Pose_impl_Pose at h
  refine AW.seq (AW.rA ⟨[(0, (vc (sl 4 cs_Pose a0))), (1, (vc (.fn 22 1 fun j => [(pl 2 cs_Recording a1_0_0)].getD j .nilptr)))], []⟩ (Tt ∧ Tt) [] [0, 1] [] ⟨tr, tr⟩ (thenQ_normal ?_))
  refine AW.seq ?_
  obtain ⟨v1, e2, h⟩ := bind_some h
  refine AW.rA ⟨[(4, (vc (.bool (decide (v1 ≥ (0 : Int))))))], []⟩ (T2 ((((Eqc (sl 4 cs_Pose a0)) ∧ (Eqc (.fn 22 1 fun j => [(pl 2 cs_Recording a1_0_0)].getD j .nilptr)) ∧ Tt) ∧ CallOK Try.prog 38 [.one (sl 4 cs_Pose a0), .one (.fn 22 1 fun j => [(pl 2 cs_Recording a1_0_0)].getD j .nilptr)] [.one (.int .i64 v1)]) ∧ T2 Tt)) [.no, .no, .call [.one (sl 4 cs_Pose a0), .one (.fn 22 1 fun j => [(pl 2 cs_Recording a1_0_0)].getD j .nilptr)] [.one (.int .i64 v1)] [[.view]]] [4] [] ⟨tr, tr, ⟨⟨rfl, rfl, tr⟩, ok_slices_IndexFunc_impl_Pose_impl_Pose K a0 a1_0_0 v1 e2⟩, tr, tr, tr⟩ ?_
  refine thenQ_normal ?_
  refine AW.ret ?_
  replace h := some_eq h
  subst h
  exact ⟨.inr rfl, retOK_of [(.one (.c (.bool (decide (v1 ≥ (0 : Int))))))] (by kernel_rfl) ⟨⟨rfl, tr⟩, tr⟩ (of_decide_eq_true (by kernel_rfl))⟩

/-! impl.ValidRecording -/
def impl_ValidRecording (K : Nat) (a0 : Recording) : Option (Bool) :=
  (impl_isCount K a0.Bones).bind fun v1 => (ite2 (v1) (ite2 ((decide ((a0.Frames.length : Int) ≤ (64 : Int)))) ((slices_ContainsFunc_impl_Pose_impl_Pose K a0.Frames a0).bind fun v5 => some (!v5)) (some false)) (some false)).bind fun j7 => some j7

theorem ok_impl_ValidRecording (K : Nat) (a0 : Recording) (o : (Bool)) (h : impl_ValidRecording K a0 = some o) : CallOK Try.prog 9 [.agg (cs_Recording a0)] [.one (.bool o)] := by
  refine callOK_of_AW Try.func9 rfl (by kernel_rfl) (Nat.le_of_ble_eq_true (by kernel_rfl)) ?_
  intro w0
  unfold impl_ValidRecording at h
  refine AW.seq (AW.rA ⟨[(1, (vp 1 0))], [(1, (.box [(.c (.int .i64 a0.Bones)), (.c (sl 4 cs_Pose a0.Frames))]))]⟩ (T2 Tt) [.box 1] [1] [1] ⟨tr, tr, tr⟩ (thenQ_normal ?_))
  refine AW.seq ?_
  obtain ⟨v1, e2, h⟩ := bind_some h
  obtain ⟨j7, e8, h⟩ := bind_some h
  refine AW.join1 (s2 := ⟨[(2, (vc (.bool j7)))], []⟩) ?_ ?_
  · rcases ite2_cases e8 with ⟨b3, e8⟩ | ⟨b3, e8⟩
    · rcases ite2_cases e8 with ⟨b4, e8⟩ | ⟨b4, e8⟩
      · obtain ⟨v5, e6, e8⟩ := bind_some e8
        replace e8 := some_eq e8
        subst e8
        exact AW.rA ⟨[(2, (vc (.bool (!v5))))], []⟩ (T2 ((((Eqc (.int .i64 a0.Bones)) ∧ Tt) ∧ CallOK Try.prog 20 [.one (.int .i64 a0.Bones)] [.one (.bool v1)]) ∧ (Tt ∧ v1 = true) ∧ Tt ∧ T4 ((Tt ∧ (decide ((a0.Frames.length : Int) ≤ (64 : Int))) = true) ∧ Tt ∧ T2 ((((Eqc (sl 4 cs_Pose a0.Frames)) ∧ (22 = 22 ∧ 1 = 1 ∧ ((Eqc (.int .i64 a0.Bones)) ∧ (Eqc (sl 4 cs_Pose a0.Frames)) ∧ Tt) ∧ Tt) ∧ Tt) ∧ CallOK Try.prog 21 [.one (sl 4 cs_Pose a0.Frames), .one (.fn 22 1 fun j => [(pl 2 cs_Recording a0)].getD j .nilptr)] [.one (.bool v5)]) ∧ Tt ∧ T2 Tt)))) [.no, .no, .call [.one (.int .i64 a0.Bones)] [.one (.bool v1)] [[.view]], .dec true, .no, .no, .no, .no, .no, .dec true, .no, .no, .no, .call [.one (sl 4 cs_Pose a0.Frames), .one (.fn 22 1 fun j => [(pl 2 cs_Recording a0)].getD j .nilptr)] [.one (.bool v5)] [[.view]]] [2] [] ⟨tr, tr, ⟨⟨rfl, tr⟩, ok_impl_isCount K a0.Bones v1 e2⟩, ⟨tr, b3⟩, tr, tr, tr, tr, tr, ⟨tr, b4⟩, tr, tr, tr, ⟨⟨rfl, ⟨rfl, rfl, ⟨⟨rfl, rfl, tr⟩, tr⟩⟩, tr⟩, ok_slices_ContainsFunc_impl_Pose_impl_Pose K a0.Frames a0 v5 e6⟩, tr, tr, tr, tr⟩ ⟨rfl, rfl⟩
      · replace e8 := some_eq e8
        subst e8
        exact AW.rA ⟨[(2, (vc (.bool false)))], []⟩ (T2 ((((Eqc (.int .i64 a0.Bones)) ∧ Tt) ∧ CallOK Try.prog 20 [.one (.int .i64 a0.Bones)] [.one (.bool v1)]) ∧ (Tt ∧ v1 = true) ∧ Tt ∧ T4 ((Tt ∧ (decide ((a0.Frames.length : Int) ≤ (64 : Int))) = false) ∧ Tt ∧ T2 (T4 Tt)))) [.no, .no, .call [.one (.int .i64 a0.Bones)] [.one (.bool v1)] [[.view]], .dec true, .no, .no, .no, .no, .no, .dec false] [2] [] ⟨tr, tr, ⟨⟨rfl, tr⟩, ok_impl_isCount K a0.Bones v1 e2⟩, ⟨tr, b3⟩, tr, tr, tr, tr, tr, ⟨tr, b4⟩, tr, tr, tr, tr, tr, tr, tr, tr⟩ ⟨rfl, rfl⟩
    · replace e8 := some_eq e8
      subst e8
      exact AW.rA ⟨[(2, (vc (.bool false)))], []⟩ (T2 ((((Eqc (.int .i64 a0.Bones)) ∧ Tt) ∧ CallOK Try.prog 20 [.one (.int .i64 a0.Bones)] [.one (.bool v1)]) ∧ (Tt ∧ v1 = false) ∧ Tt ∧ T4 (T4 (T4 Tt)))) [.no, .no, .call [.one (.int .i64 a0.Bones)] [.one (.bool v1)] [[.view]], .dec false] [2] [] ⟨tr, tr, ⟨⟨rfl, tr⟩, ok_impl_isCount K a0.Bones v1 e2⟩, ⟨tr, b3⟩, tr, tr, tr, tr, tr, tr, tr, tr, tr, tr, tr, tr, tr, tr⟩ ⟨rfl, rfl⟩
  refine thenQ_normal ?_
  refine AW.ret ?_
  replace h := some_eq h
  subst h
  exact ⟨.inr rfl, retOK_of [(.one (.c (.bool j7)))] (by kernel_rfl) ⟨⟨rfl, tr⟩, tr⟩ (of_decide_eq_true (by kernel_rfl))⟩

/-! impl.header -/
def impl_header (_K : Nat) (a0 : Int) : Option ((List Int)) :=
  chk (0 < ([(83 : Int), (75 : Int), (82 : Int), (49 : Int)]).length) (chk ((([(83 : Int), (75 : Int), (82 : Int), (49 : Int)]).length + ([(IntKind.u8.wrap a0)]).length) * 1 ≤ 140737488355328) (some (([(83 : Int), (75 : Int), (82 : Int), (49 : Int)]) ++ ([(IntKind.u8.wrap a0)]))))

theorem ok_impl_header (K : Nat) (a0 : Int) (o : ((List Int))) (h : impl_header K a0 = some o) : CallOK Try.prog 16 [.one (.int .i64 a0)] [.one (sl 1 (csI .u8) o)] := by
  refine callOK_of_AW Try.func16 rfl (by kernel_rfl) (Nat.le_of_ble_eq_true (by kernel_rfl)) ?_
  intro w0
  unfold impl_header at h
  refine AW.seq (AW.rA ⟨[(0, (vc (.int .i64 a0)))], []⟩ (Tt ∧ Tt) [] [0] [] ⟨tr, tr⟩ (thenQ_normal ?_))
  refine AW.seq ?_
  obtain ⟨c1, h⟩ := chk_some h
  obtain ⟨c2, h⟩ := chk_some h
  refine AW.rA ⟨[(2, (.v (.one (.lst 4 (([(83 : Int), (75 : Int), (82 : Int), (49 : Int)]) ++ ([(IntKind.u8.wrap a0)])).length 1 (gl (csI .u8) (([(83 : Int), (75 : Int), (82 : Int), (49 : Int)]) ++ ([(IntKind.u8.wrap a0)])))))))], [(4, (.lst (([(83 : Int), (75 : Int), (82 : Int), (49 : Int)]) ++ ([(IntKind.u8.wrap a0)])).length 1 (gl (csI .u8) (([(83 : Int), (75 : Int), (82 : Int), (49 : Int)]) ++ ([(IntKind.u8.wrap a0)])))))]⟩ ((([(83 : Int), (75 : Int), (82 : Int), (49 : Int)]).length = 4 ∧ (((.int .u8 (83 : Int)) : C) = (.int .u8 (83 : Int)) ∧ Tt) ∧ (((.int .u8 (75 : Int)) : C) = (.int .u8 (75 : Int)) ∧ Tt) ∧ (((.int .u8 (82 : Int)) : C) = (.int .u8 (82 : Int)) ∧ Tt) ∧ (((.int .u8 (49 : Int)) : C) = (.int .u8 (49 : Int)) ∧ Tt) ∧ Tt) ∧ (0 < ([(83 : Int), (75 : Int), (82 : Int), (49 : Int)]).length ∧ ([(83 : Int), (75 : Int), (82 : Int), (49 : Int)]).length = ([(83 : Int), (75 : Int), (82 : Int), (49 : Int)]).length ∧ ∀ j, j < ([(83 : Int), (75 : Int), (82 : Int), (49 : Int)]).length → gl (csI .u8) ([(83 : Int), (75 : Int), (82 : Int), (49 : Int)]) j 0 = gl (csI .u8) ([(83 : Int), (75 : Int), (82 : Int), (49 : Int)]) j 0) ∧ T2 ((([(IntKind.u8.wrap a0)]).length = 1 ∧ (((.int .u8 (IntKind.u8.wrap a0)) : C) = (.int .u8 (IntKind.u8.wrap a0)) ∧ Tt) ∧ Tt) ∧ ((([(83 : Int), (75 : Int), (82 : Int), (49 : Int)]) ++ ([(IntKind.u8.wrap a0)])).length = ([(83 : Int), (75 : Int), (82 : Int), (49 : Int)]).length + ([(IntKind.u8.wrap a0)]).length ∧ AppOb (([(83 : Int), (75 : Int), (82 : Int), (49 : Int)]).length) (([(IntKind.u8.wrap a0)]).length) 1 (gl (csI .u8) ([(83 : Int), (75 : Int), (82 : Int), (49 : Int)])) (gl (csI .u8) ([(IntKind.u8.wrap a0)])) (gl (csI .u8) (([(83 : Int), (75 : Int), (82 : Int), (49 : Int)]) ++ ([(IntKind.u8.wrap a0)]))) ∧ (∀ i j, i < ([(IntKind.u8.wrap a0)]).length → j < 1 → scalarC (gl (csI .u8) ([(IntKind.u8.wrap a0)]) i j)) ∧ (([(83 : Int), (75 : Int), (82 : Int), (49 : Int)]).length + ([(IntKind.u8.wrap a0)]).length) * 1 ≤ 140737488355328) ∧ Tt ∧ Tt)) [.obj 1 ([(83 : Int), (75 : Int), (82 : Int), (49 : Int)]).length (gl (csI .u8) ([(83 : Int), (75 : Int), (82 : Int), (49 : Int)])), .obj 2 ([(83 : Int), (75 : Int), (82 : Int), (49 : Int)]).length (gl (csI .u8) ([(83 : Int), (75 : Int), (82 : Int), (49 : Int)])), .no, .no, .obj 3 ([(IntKind.u8.wrap a0)]).length (gl (csI .u8) ([(IntKind.u8.wrap a0)])), .objK 4 (([(83 : Int), (75 : Int), (82 : Int), (49 : Int)]) ++ ([(IntKind.u8.wrap a0)])).length (gl (csI .u8) (([(83 : Int), (75 : Int), (82 : Int), (49 : Int)]) ++ ([(IntKind.u8.wrap a0)])))] [2] [4] ⟨⟨rfl, ⟨⟨rfl, tr⟩, ⟨rfl, tr⟩, ⟨rfl, tr⟩, ⟨rfl, tr⟩, tr⟩⟩, ⟨c1, rfl, fun _ _ => rfl⟩, tr, tr, ⟨rfl, ⟨⟨rfl, tr⟩, tr⟩⟩, ⟨List.length_append, gl_append, gl_scalar scI _, c2⟩, tr, tr⟩ ?_
  refine thenQ_normal ?_
  refine AW.ret ?_
  replace h := some_eq h
  subst h
  exact ⟨.inr rfl, retOK_of [(.one (.lst 4 (([(83 : Int), (75 : Int), (82 : Int), (49 : Int)]) ++ ([(IntKind.u8.wrap a0)])).length 1 (gl (csI .u8) (([(83 : Int), (75 : Int), (82 : Int), (49 : Int)]) ++ ([(IntKind.u8.wrap a0)])))))] (by kernel_rfl) ⟨rfl, tr⟩ (of_decide_eq_true (by kernel_rfl))⟩

/-! impl.none -/
def impl_none (_K : Nat) (a0 : Int) : Option ((List F32)) :=
  chk (0 ≤ (IntKind.i64.wrap ((3 : Int) + (IntKind.i64.wrap ((4 : Int) * a0)))) ∧ (IntKind.i64.wrap ((3 : Int) + (IntKind.i64.wrap ((4 : Int) * a0)))).toNat * 4 ≤ 140737488355328) (some (List.replicate (IntKind.i64.wrap ((3 : Int) + (IntKind.i64.wrap ((4 : Int) * a0)))).toNat (default : F32)))

theorem ok_impl_none (K : Nat) (a0 : Int) (o : ((List F32))) (h : impl_none K a0 = some o) : CallOK Try.prog 17 [.one (.int .i64 a0)] [.one (sl 1 (csF .f32) o)] := by
  refine callOK_of_AW Try.func17 rfl (by kernel_rfl) (Nat.le_of_ble_eq_true (by kernel_rfl)) ?_
  intro w0
  unfold impl_none at h
  refine AW.seq (AW.rA ⟨[(0, (vc (.int .i64 a0)))], []⟩ (Tt ∧ Tt) [] [0] [] ⟨tr, tr⟩ (thenQ_normal ?_))
  refine AW.seq ?_
  obtain ⟨c1, h⟩ := chk_some h
  refine AW.rA ⟨[(2, (.v (.one (.arr 1))))], [(1, (.arr false (List.replicate (IntKind.i64.wrap ((3 : Int) + (IntKind.i64.wrap ((4 : Int) * a0)))).toNat (default : F32)).length 1 (gl (csF .f32) (List.replicate (IntKind.i64.wrap ((3 : Int) + (IntKind.i64.wrap ((4 : Int) * a0)))).toNat (default : F32)))))]⟩ (Tt ∧ T2 ((0 ≤ (IntKind.i64.wrap ((3 : Int) + (IntKind.i64.wrap ((4 : Int) * a0)))) ∧ (IntKind.i64.wrap ((3 : Int) + (IntKind.i64.wrap ((4 : Int) * a0)))) = (IntKind.i64.wrap ((3 : Int) + (IntKind.i64.wrap ((4 : Int) * a0)))) ∧ (((List.replicate (IntKind.i64.wrap ((3 : Int) + (IntKind.i64.wrap ((4 : Int) * a0)))).toNat (default : F32)).length : Nat) : Int) = (IntKind.i64.wrap ((3 : Int) + (IntKind.i64.wrap ((4 : Int) * a0)))) ∧ (List.replicate (IntKind.i64.wrap ((3 : Int) + (IntKind.i64.wrap ((4 : Int) * a0)))).toNat (default : F32)).length * 4 ≤ 140737488355328 ∧ ∀ i, i < (List.replicate (IntKind.i64.wrap ((3 : Int) + (IntKind.i64.wrap ((4 : Int) * a0)))).toNat (default : F32)).length → zeroRow (fun _ => none) [(.c (.flt .f32 (default : F32).bits))] (gl (csF .f32) (List.replicate (IntKind.i64.wrap ((3 : Int) + (IntKind.i64.wrap ((4 : Int) * a0)))).toNat (default : F32)) i)) ∧ Tt ∧ Tt)) [.no, .no, .no, .objA 1 (List.replicate (IntKind.i64.wrap ((3 : Int) + (IntKind.i64.wrap ((4 : Int) * a0)))).toNat (default : F32)).length (gl (csF .f32) (List.replicate (IntKind.i64.wrap ((3 : Int) + (IntKind.i64.wrap ((4 : Int) * a0)))).toNat (default : F32)))] [2] [1] ⟨tr, tr, tr, ⟨c1.1, rfl, len_rep c1.1, rep_bytes c1.2, fun i hi => gl_zero (cs := (csF .f32)) (zs := [(.c (.flt .f32 (default : F32).bits))]) (n := (IntKind.i64.wrap ((3 : Int) + (IntKind.i64.wrap ((4 : Int) * a0)))).toNat) ⟨⟨rfl, tr⟩, tr⟩ i (rep_lt hi)⟩, tr, tr⟩ ?_
  refine thenQ_normal ?_
  refine AW.ret ?_
  replace h := some_eq h
  subst h
  exact ⟨.inr rfl, retOK_of [(.one (.arr 1))] (by kernel_rfl) ⟨rfl, tr⟩ (of_decide_eq_true (by kernel_rfl))⟩

/-! impl.listed -/
def impl_listed_l1 (K : Nat) (a0 : Pose) : Nat → Int → (List F32) → Option ((List F32))
  | 0, _, _ => none
  | k + 1, x3, x4 => ite2 ((decide (x3 < (a0.Turns.length : Int)))) (chk (0 ≤ x3 ∧ x3 < (a0.Turns.length : Int)) (chk ((x4.length + ([(a0.Turns.getD x3.toNat default).W, (a0.Turns.getD x3.toNat default).X, (a0.Turns.getD x3.toNat default).Y, (a0.Turns.getD x3.toNat default).Z]).length) * 4 ≤ 140737488355328) (impl_listed_l1 K a0 k (IntKind.i64.wrap (x3 + (1 : Int))) (x4 ++ ([(a0.Turns.getD x3.toNat default).W, (a0.Turns.getD x3.toNat default).X, (a0.Turns.getD x3.toNat default).Y, (a0.Turns.getD x3.toNat default).Z]))))) (some x4)

def impl_listed (K : Nat) (a0 : Pose) : Option ((List F32)) :=
  impl_listed_l1 K a0 K (0 : Int) ([a0.Root.X, a0.Root.Y, a0.Root.Z])

theorem ok_impl_listed (K : Nat) (a0 : Pose) (o : ((List F32))) (h : impl_listed K a0 = some o) : CallOK Try.prog 18 [.agg (cs_Pose a0)] [.one (sl 1 (csF .f32) o)] := by
  refine callOK_of_AW Try.func18 rfl (by kernel_rfl) (Nat.le_of_ble_eq_true (by kernel_rfl)) ?_
  intro w0
  unfold impl_listed at h
  refine AW.seq (AW.rA ⟨[(1, (vp 1 0))], [(1, (.box [(.c (.flt .f32 a0.Root.X.bits)), (.c (.flt .f32 a0.Root.Y.bits)), (.c (.flt .f32 a0.Root.Z.bits)), (.c (sl 4 cs_Turn a0.Turns))]))]⟩ (T2 Tt) [.box 1] [1] [1] ⟨tr, tr, tr⟩ (thenQ_normal ?_))
  refine AW.seq (AW.rA ⟨[(1, (vp 1 0)), (3, (.v (.one (.lst 2 ([a0.Root.X, a0.Root.Y, a0.Root.Z]).length 1 (gl (csF .f32) ([a0.Root.X, a0.Root.Y, a0.Root.Z]))))))], [(1, (.box [(.c (.flt .f32 a0.Root.X.bits)), (.c (.flt .f32 a0.Root.Y.bits)), (.c (.flt .f32 a0.Root.Z.bits)), (.c (sl 4 cs_Turn a0.Turns))])), (2, (.lst ([a0.Root.X, a0.Root.Y, a0.Root.Z]).length 1 (gl (csF .f32) ([a0.Root.X, a0.Root.Y, a0.Root.Z]))))]⟩ (Tt ∧ T4 (T4 ((([a0.Root.X, a0.Root.Y, a0.Root.Z]).length = 3 ∧ (((.flt .f32 a0.Root.X.bits) : C) = (.flt .f32 a0.Root.X.bits) ∧ Tt) ∧ (((.flt .f32 a0.Root.Y.bits) : C) = (.flt .f32 a0.Root.Y.bits) ∧ Tt) ∧ (((.flt .f32 a0.Root.Z.bits) : C) = (.flt .f32 a0.Root.Z.bits) ∧ Tt) ∧ Tt) ∧ Tt ∧ Tt))) [.no, .no, .no, .no, .no, .no, .no, .no, .no, .obj 2 ([a0.Root.X, a0.Root.Y, a0.Root.Z]).length (gl (csF .f32) ([a0.Root.X, a0.Root.Y, a0.Root.Z]))] [1, 3] [1, 2] ⟨tr, tr, tr, tr, tr, tr, tr, tr, tr, ⟨rfl, ⟨⟨rfl, tr⟩, ⟨rfl, tr⟩, ⟨rfl, tr⟩, tr⟩⟩, tr, tr⟩ (thenQ_normal ?_))
  refine AW.seq ?_
  refine AW.seq (AW.rA ⟨[(3, (.v (.one (.lst 2 ([a0.Root.X, a0.Root.Y, a0.Root.Z]).length 1 (gl (csF .f32) ([a0.Root.X, a0.Root.Y, a0.Root.Z])))))), (17, (vc (sl 4 cs_Turn a0.Turns))), (18, (vc (.int .i64 (a0.Turns.length : Int)))), (19, (vc (.int .i64 (0 : Int))))], [(2, (.lst ([a0.Root.X, a0.Root.Y, a0.Root.Z]).length 1 (gl (csF .f32) ([a0.Root.X, a0.Root.Y, a0.Root.Z]))))]⟩ (T4 Tt) [] [3, 17, 18, 19] [2] ⟨tr, tr, tr, tr, tr⟩ (thenQ_normal ?_))
  refine AW.block ?_
  refine AW.loopQ (σ := Nat × Int × (List F32)) (fun p => ⟨[(3, (.v (.one (.lst 2 p.2.2.length 1 (gl (csF .f32) p.2.2))))), (17, (vc (sl 4 cs_Turn a0.Turns))), (18, (vc (.int .i64 (a0.Turns.length : Int)))), (19, (vc (.int .i64 p.2.1)))], [(2, (.lst p.2.2.length 1 (gl (csF .f32) p.2.2)))]⟩) (fun p => impl_listed_l1 K a0 p.1 p.2.1 p.2.2 = some o) (fun p => p.1) (K, (0 : Int), [a0.Root.X, a0.Root.Y, a0.Root.Z]) h ?_
  clear h
  rintro ⟨k, x3, x4⟩ h
  replace h : impl_listed_l1 K a0 k x3 x4 = some o := h
  show AW _ _ (⟨[(3, (.v (.one (.lst 2 x4.length 1 (gl (csF .f32) x4))))), (17, (vc (sl 4 cs_Turn a0.Turns))), (18, (vc (.int .i64 (a0.Turns.length : Int)))), (19, (vc (.int .i64 x3)))], [(2, (.lst x4.length 1 (gl (csF .f32) x4)))]⟩ : St) _
  obtain _ | k := k
  · rw [impl_listed_l1] at h; cases h
  rw [impl_listed_l1] at h
  refine AW.seq (AW.rA ⟨[(3, (.v (.one (.lst 2 x4.length 1 (gl (csF .f32) x4))))), (17, (vc (sl 4 cs_Turn a0.Turns))), (18, (vc (.int .i64 (a0.Turns.length : Int)))), (19, (vc (.int .i64 x3))), (20, (vc (.bool (decide (x3 < (a0.Turns.length : Int))))))], [(2, (.lst x4.length 1 (gl (csF .f32) x4)))]⟩ (Tt ∧ Tt) [] [3, 17, 18, 19, 20] [2] ⟨tr, tr⟩ (thenQ_normal ?_))
  refine AW.seq ?_
  rcases ite2_cases h with ⟨b5, h⟩ | ⟨b5, h⟩
  · refine AW.cond_t rfl b5 ?_
    refine AW.skip ?_
    refine thenQ_normal ?_
    refine AW.seq ?_
    refine AW.block ?_
    refine AW.seq ?_
    obtain ⟨c6, h⟩ := chk_some h
    refine AW.rA ⟨[(3, (.v (.one (.lst 2 x4.length 1 (gl (csF .f32) x4))))), (5, (vp 9 0)), (17, (vc (sl 4 cs_Turn a0.Turns))), (18, (vc (.int .i64 (a0.Turns.length : Int)))), (19, (vc (.int .i64 x3)))], [(2, (.lst x4.length 1 (gl (csF .f32) x4))), (9, (.box [(.c (.flt .f32 ((a0.Turns.getD x3.toNat default).W).bits)), (.c (.flt .f32 ((a0.Turns.getD x3.toNat default).X).bits)), (.c (.flt .f32 ((a0.Turns.getD x3.toNat default).Y).bits)), (.c (.flt .f32 ((a0.Turns.getD x3.toNat default).Z).bits))]))]⟩ ((0 ≤ x3 ∧ x3 < (a0.Turns.length : Int)) ∧ Tt ∧ T2 Tt) [.no, .no, .box 9] [3, 5, 17, 18, 19] [2, 9] ⟨c6, tr, tr, tr, tr⟩ ?_
    refine thenQ_normal ?_
    obtain ⟨c7, h⟩ := chk_some h
    refine AW.rA ⟨[(3, (.v (.one (.lst 11 (x4 ++ ([(a0.Turns.getD x3.toNat default).W, (a0.Turns.getD x3.toNat default).X, (a0.Turns.getD x3.toNat default).Y, (a0.Turns.getD x3.toNat default).Z])).length 1 (gl (csF .f32) (x4 ++ ([(a0.Turns.getD x3.toNat default).W, (a0.Turns.getD x3.toNat default).X, (a0.Turns.getD x3.toNat default).Y, (a0.Turns.getD x3.toNat default).Z]))))))), (17, (vc (sl 4 cs_Turn a0.Turns))), (18, (vc (.int .i64 (a0.Turns.length : Int)))), (19, (vc (.int .i64 x3)))], [(11, (.lst (x4 ++ ([(a0.Turns.getD x3.toNat default).W, (a0.Turns.getD x3.toNat default).X, (a0.Turns.getD x3.toNat default).Y, (a0.Turns.getD x3.toNat default).Z])).length 1 (gl (csF .f32) (x4 ++ ([(a0.Turns.getD x3.toNat default).W, (a0.Turns.getD x3.toNat default).X, (a0.Turns.getD x3.toNat default).Y, (a0.Turns.getD x3.toNat default).Z])))))]⟩ (Tt ∧ T4 (T4 ((([(a0.Turns.getD x3.toNat default).W, (a0.Turns.getD x3.toNat default).X, (a0.Turns.getD x3.toNat default).Y, (a0.Turns.getD x3.toNat default).Z]).length = 4 ∧ (((.flt .f32 ((a0.Turns.getD x3.toNat default).W).bits) : C) = (.flt .f32 ((a0.Turns.getD x3.toNat default).W).bits) ∧ Tt) ∧ (((.flt .f32 ((a0.Turns.getD x3.toNat default).X).bits) : C) = (.flt .f32 ((a0.Turns.getD x3.toNat default).X).bits) ∧ Tt) ∧ (((.flt .f32 ((a0.Turns.getD x3.toNat default).Y).bits) : C) = (.flt .f32 ((a0.Turns.getD x3.toNat default).Y).bits) ∧ Tt) ∧ (((.flt .f32 ((a0.Turns.getD x3.toNat default).Z).bits) : C) = (.flt .f32 ((a0.Turns.getD x3.toNat default).Z).bits) ∧ Tt) ∧ Tt) ∧ ((x4 ++ ([(a0.Turns.getD x3.toNat default).W, (a0.Turns.getD x3.toNat default).X, (a0.Turns.getD x3.toNat default).Y, (a0.Turns.getD x3.toNat default).Z])).length = x4.length + ([(a0.Turns.getD x3.toNat default).W, (a0.Turns.getD x3.toNat default).X, (a0.Turns.getD x3.toNat default).Y, (a0.Turns.getD x3.toNat default).Z]).length ∧ AppOb (x4.length) (([(a0.Turns.getD x3.toNat default).W, (a0.Turns.getD x3.toNat default).X, (a0.Turns.getD x3.toNat default).Y, (a0.Turns.getD x3.toNat default).Z]).length) 1 (gl (csF .f32) x4) (gl (csF .f32) ([(a0.Turns.getD x3.toNat default).W, (a0.Turns.getD x3.toNat default).X, (a0.Turns.getD x3.toNat default).Y, (a0.Turns.getD x3.toNat default).Z])) (gl (csF .f32) (x4 ++ ([(a0.Turns.getD x3.toNat default).W, (a0.Turns.getD x3.toNat default).X, (a0.Turns.getD x3.toNat default).Y, (a0.Turns.getD x3.toNat default).Z]))) ∧ (∀ i j, i < ([(a0.Turns.getD x3.toNat default).W, (a0.Turns.getD x3.toNat default).X, (a0.Turns.getD x3.toNat default).Y, (a0.Turns.getD x3.toNat default).Z]).length → j < 1 → scalarC (gl (csF .f32) ([(a0.Turns.getD x3.toNat default).W, (a0.Turns.getD x3.toNat default).X, (a0.Turns.getD x3.toNat default).Y, (a0.Turns.getD x3.toNat default).Z]) i j)) ∧ (x4.length + ([(a0.Turns.getD x3.toNat default).W, (a0.Turns.getD x3.toNat default).X, (a0.Turns.getD x3.toNat default).Y, (a0.Turns.getD x3.toNat default).Z]).length) * 4 ≤ 140737488355328) ∧ Tt ∧ Tt))) [.no, .no, .no, .no, .no, .no, .no, .no, .no, .obj 10 ([(a0.Turns.getD x3.toNat default).W, (a0.Turns.getD x3.toNat default).X, (a0.Turns.getD x3.toNat default).Y, (a0.Turns.getD x3.toNat default).Z]).length (gl (csF .f32) ([(a0.Turns.getD x3.toNat default).W, (a0.Turns.getD x3.toNat default).X, (a0.Turns.getD x3.toNat default).Y, (a0.Turns.getD x3.toNat default).Z])), .objK 11 (x4 ++ ([(a0.Turns.getD x3.toNat default).W, (a0.Turns.getD x3.toNat default).X, (a0.Turns.getD x3.toNat default).Y, (a0.Turns.getD x3.toNat default).Z])).length (gl (csF .f32) (x4 ++ ([(a0.Turns.getD x3.toNat default).W, (a0.Turns.getD x3.toNat default).X, (a0.Turns.getD x3.toNat default).Y, (a0.Turns.getD x3.toNat default).Z])))] [3, 17, 18, 19] [11] ⟨tr, tr, tr, tr, tr, tr, tr, tr, tr, ⟨rfl, ⟨⟨rfl, tr⟩, ⟨rfl, tr⟩, ⟨rfl, tr⟩, ⟨rfl, tr⟩, tr⟩⟩, ⟨List.length_append, gl_append, gl_scalar scF _, c7⟩, tr, tr⟩ ?_
    refine blockQ_normal ?_
    refine thenQ_normal ?_
    refine AW.rA ⟨[(3, (.v (.one (.lst 11 (x4 ++ ([(a0.Turns.getD x3.toNat default).W, (a0.Turns.getD x3.toNat default).X, (a0.Turns.getD x3.toNat default).Y, (a0.Turns.getD x3.toNat default).Z])).length 1 (gl (csF .f32) (x4 ++ ([(a0.Turns.getD x3.toNat default).W, (a0.Turns.getD x3.toNat default).X, (a0.Turns.getD x3.toNat default).Y, (a0.Turns.getD x3.toNat default).Z]))))))), (17, (vc (sl 4 cs_Turn a0.Turns))), (18, (vc (.int .i64 (a0.Turns.length : Int)))), (19, (vc (.int .i64 (IntKind.i64.wrap (x3 + (1 : Int))))))], [(11, (.lst (x4 ++ ([(a0.Turns.getD x3.toNat default).W, (a0.Turns.getD x3.toNat default).X, (a0.Turns.getD x3.toNat default).Y, (a0.Turns.getD x3.toNat default).Z])).length 1 (gl (csF .f32) (x4 ++ ([(a0.Turns.getD x3.toNat default).W, (a0.Turns.getD x3.toNat default).X, (a0.Turns.getD x3.toNat default).Y, (a0.Turns.getD x3.toNat default).Z])))))]⟩ (T2 Tt) [] [3, 17, 18, 19] [11] ⟨tr, tr, tr⟩ ?_
    exact loopQ_normal (k, (IntKind.i64.wrap (x3 + (1 : Int))), (x4 ++ ([(a0.Turns.getD x3.toNat default).W, (a0.Turns.getD x3.toNat default).X, (a0.Turns.getD x3.toNat default).Y, (a0.Turns.getD x3.toNat default).Z]))) h (Nat.lt_succ_self k) (Sub.trans (Sub.swap 2 11 _ (by kernel_rfl) (by kernel_rfl)) (Sub.keep [3, 17, 18, 19] [2] (by kernel_rfl) (by kernel_rfl)))
  · refine AW.cond_f rfl b5 ?_
    refine AW.exit ?_
    refine thenQ_exit ?_
    refine loopQ_exit ?_
    refine blockQ_exit ?_
    refine thenQ_normal ?_
    refine AW.seq (AW.rA ⟨[(2, (.v (.one (.lst 2 x4.length 1 (gl (csF .f32) x4)))))], [(2, (.lst x4.length 1 (gl (csF .f32) x4)))]⟩ (T2 Tt) [] [2] [2] ⟨tr, tr, tr⟩ (thenQ_normal ?_))
    refine AW.ret ?_
    replace h := some_eq h
    subst h
    exact ⟨.inr rfl, retOK_of [(.one (.lst 2 x4.length 1 (gl (csF .f32) x4)))] (by kernel_rfl) ⟨rfl, tr⟩ (of_decide_eq_true (by kernel_rfl))⟩

/-! math.Float64bits -/
def math_Float64bits (_K : Nat) (a0 : F64) : Option (Int) :=
  a0.toBits

theorem ok_math_Float64bits (K : Nat) (a0 : F64) (o : Int) (h : math_Float64bits K a0 = some o) : CallOK Try.prog 62 [.one (.flt .f64 a0.bits)] [.one (.int .u64 o)] :=
  hand_toBits (e := Extern.MathFloatBits.float64bits) Try.func62 (by kernel_rfl) (by kernel_rfl) (by kernel_rfl) (by kernel_rfl) (fun _ _ => rfl) a0 o h

/-! math.Signbit -/
def math_Signbit (K : Nat) (a0 : F64) : Option (Bool) :=
  (math_Float64bits K a0).bind fun v1 => some (decide ((IntKind.i64.wrap v1) < (0 : Int)))

theorem ok_math_Signbit (K : Nat) (a0 : F64) (o : (Bool)) (h : math_Signbit K a0 = some o) : CallOK Try.prog 57 [.one (.flt .f64 a0.bits)] [.one (.bool o)] := by
  refine callOK_of_AW Try.func57 rfl (by kernel_rfl) (Nat.le_of_ble_eq_true (by kernel_rfl)) ?_
  intro w0
  unfold math_Signbit at h
  refine AW.seq (AW.rA ⟨[(0, (vc (.flt .f64 a0.bits)))], []⟩ (Tt ∧ Tt) [] [0] [] ⟨tr, tr⟩ (thenQ_normal ?_))
  refine AW.seq ?_
  obtain ⟨v1, e2, h⟩ := bind_some h
  refine AW.rA ⟨[(2, (vc (.bool (decide ((IntKind.i64.wrap v1) < (0 : Int))))))], []⟩ (Tt ∧ (((Eqc (.flt .f64 a0.bits)) ∧ Tt) ∧ CallOK Try.prog 62 [.one (.flt .f64 a0.bits)] [.one (.int .u64 v1)]) ∧ Tt ∧ T2 Tt) [.no, .call [.one (.flt .f64 a0.bits)] [.one (.int .u64 v1)] [[.view]]] [2] [] ⟨tr, ⟨⟨rfl, tr⟩, ok_math_Float64bits K a0 v1 e2⟩, tr, tr, tr, tr⟩ ?_
  refine thenQ_normal ?_
  refine AW.ret ?_
  replace h := some_eq h
  subst h
  exact ⟨.inr rfl, retOK_of [(.one (.c (.bool (decide ((IntKind.i64.wrap v1) < (0 : Int))))))] (by kernel_rfl) ⟨⟨rfl, tr⟩, tr⟩ (of_decide_eq_true (by kernel_rfl))⟩

/-! impl.SameNumber -/
def impl_SameNumber (K : Nat) (a0 : F32) (a1 : F32) : Option (Bool) :=
  (ite2 ((a0.ne a0)) (some true) (some (a1.ne a1))).bind fun j2 => ite2 (j2) ((ite2 ((a0.ne a0)) (some (a1.ne a1)) (some false)).bind fun j6 => some j6) ((ite2 ((a0.eq a1)) ((math_Signbit K (Fl.cv .f32 .f64 a0)).bind fun v9 => (math_Signbit K (Fl.cv .f32 .f64 a1)).bind fun v11 => some (v9 == v11)) (some false)).bind fun j13 => some j13)

theorem ok_impl_SameNumber (K : Nat) (a0 : F32) (a1 : F32) (o : (Bool)) (h : impl_SameNumber K a0 a1 = some o) : CallOK Try.prog 52 [.one (.flt .f32 a0.bits), .one (.flt .f32 a1.bits)] [.one (.bool o)] := by
  refine callOK_of_AW Try.func52 rfl (by kernel_rfl) (Nat.le_of_ble_eq_true (by kernel_rfl)) ?_
  intro w0
  unfold impl_SameNumber at h
  refine AW.seq (AW.rA ⟨[(0, (vc (.flt .f32 a0.bits))), (1, (vc (.flt .f32 a1.bits)))], []⟩ (Tt ∧ Tt) [] [0, 1] [] ⟨tr, tr⟩ (thenQ_normal ?_))
  refine AW.seq ?_
  refine AW.seq ?_
  obtain ⟨j2, e3, h⟩ := bind_some h
  refine AW.join1 (s2 := ⟨[(0, (vc (.flt .f32 a0.bits))), (1, (vc (.flt .f32 a1.bits))), (12, (vc (.bool j2)))], []⟩) ?_ ?_
  · rcases ite2_cases e3 with ⟨b1, e3⟩ | ⟨b1, e3⟩
    · replace e3 := some_eq e3
      subst e3
      exact AW.rA ⟨[(0, (vc (.flt .f32 a0.bits))), (1, (vc (.flt .f32 a1.bits))), (12, (vc (.bool true)))], []⟩ (Tt ∧ T2 ((Tt ∧ (a0.ne a0) = true) ∧ T4 Tt)) [.no, .no, .no, .dec true] [0, 1, 12] [] ⟨tr, tr, tr, ⟨tr, b1⟩, tr, tr, tr, tr, tr⟩ ⟨rfl, rfl⟩
    · replace e3 := some_eq e3
      subst e3
      exact AW.rA ⟨[(0, (vc (.flt .f32 a0.bits))), (1, (vc (.flt .f32 a1.bits))), (12, (vc (.bool (a1.ne a1))))], []⟩ (Tt ∧ T2 ((Tt ∧ (a0.ne a0) = false) ∧ T4 Tt)) [.no, .no, .no, .dec false] [0, 1, 12] [] ⟨tr, tr, tr, ⟨tr, b1⟩, tr, tr, tr, tr, tr⟩ ⟨rfl, rfl⟩
  refine thenQ_normal ?_
  rcases ite2_cases h with ⟨b4, h⟩ | ⟨b4, h⟩
  · refine AW.cond_t rfl b4 ?_
    refine AW.seq ?_
    obtain ⟨j6, e7, h⟩ := bind_some h
    refine AW.join1 (s2 := ⟨[(4, (vc (.bool j6)))], []⟩) ?_ ?_
    · rcases ite2_cases e7 with ⟨b5, e7⟩ | ⟨b5, e7⟩
      · replace e7 := some_eq e7
        subst e7
        exact AW.rA ⟨[(4, (vc (.bool (a1.ne a1))))], []⟩ (Tt ∧ T2 ((Tt ∧ (a0.ne a0) = true) ∧ Tt ∧ T4 Tt)) [.no, .no, .no, .dec true] [4] [] ⟨tr, tr, tr, ⟨tr, b5⟩, tr, tr, tr, tr, tr, tr⟩ ⟨rfl, rfl⟩
      · replace e7 := some_eq e7
        subst e7
        exact AW.rA ⟨[(4, (vc (.bool false)))], []⟩ (Tt ∧ T2 ((Tt ∧ (a0.ne a0) = false) ∧ Tt ∧ T4 Tt)) [.no, .no, .no, .dec false] [4] [] ⟨tr, tr, tr, ⟨tr, b5⟩, tr, tr, tr, tr, tr, tr⟩ ⟨rfl, rfl⟩
    refine thenQ_normal ?_
    refine AW.ret ?_
    refine thenQ_ret ?_
    replace h := some_eq h
    subst h
    exact ⟨.inr rfl, retOK_of [(.one (.c (.bool j6)))] (by kernel_rfl) ⟨⟨rfl, tr⟩, tr⟩ (of_decide_eq_true (by kernel_rfl))⟩
  · refine AW.cond_f rfl b4 ?_
    refine AW.skip ?_
    refine thenQ_normal ?_
    refine AW.seq ?_
    obtain ⟨j13, e14, h⟩ := bind_some h
    refine AW.join1 (s2 := ⟨[(4, (vc (.bool j13)))], []⟩) ?_ ?_
    · rcases ite2_cases e14 with ⟨b8, e14⟩ | ⟨b8, e14⟩
      · obtain ⟨v9, e10, e14⟩ := bind_some e14
        obtain ⟨v11, e12, e14⟩ := bind_some e14
        replace e14 := some_eq e14
        subst e14
        exact AW.rA ⟨[(4, (vc (.bool (v9 == v11))))], []⟩ (Tt ∧ T2 ((Tt ∧ (a0.eq a1) = true) ∧ Tt ∧ ((convBits .f32 a0.bits .f64).isSome = true) ∧ (((Eqc (.flt .f64 (Fl.cv .f32 .f64 a0).bits)) ∧ Tt) ∧ CallOK Try.prog 57 [.one (.flt .f64 (Fl.cv .f32 .f64 a0).bits)] [.one (.bool v9)]) ∧ Tt ∧ ((convBits .f32 a1.bits .f64).isSome = true) ∧ (((Eqc (.flt .f64 (Fl.cv .f32 .f64 a1).bits)) ∧ Tt) ∧ CallOK Try.prog 57 [.one (.flt .f64 (Fl.cv .f32 .f64 a1).bits)] [.one (.bool v11)]) ∧ Tt ∧ T2 Tt)) [.no, .no, .no, .dec true, .no, .no, .call [.one (.flt .f64 (Fl.cv .f32 .f64 a0).bits)] [.one (.bool v9)] [[.view]], .no, .no, .call [.one (.flt .f64 (Fl.cv .f32 .f64 a1).bits)] [.one (.bool v11)] [[.view]]] [4] [] ⟨tr, tr, tr, ⟨tr, b8⟩, tr, cv_wide a0, ⟨⟨rfl, tr⟩, ok_math_Signbit K (Fl.cv .f32 .f64 a0) v9 e10⟩, tr, cv_wide a1, ⟨⟨rfl, tr⟩, ok_math_Signbit K (Fl.cv .f32 .f64 a1) v11 e12⟩, tr, tr, tr, tr⟩ ⟨rfl, rfl⟩
      · replace e14 := some_eq e14
        subst e14
        exact AW.rA ⟨[(4, (vc (.bool false)))], []⟩ (Tt ∧ T2 ((Tt ∧ (a0.eq a1) = false) ∧ Tt ∧ T4 (T4 Tt))) [.no, .no, .no, .dec false] [4] [] ⟨tr, tr, tr, ⟨tr, b8⟩, tr, tr, tr, tr, tr, tr, tr, tr, tr, tr⟩ ⟨rfl, rfl⟩
    refine thenQ_normal ?_
    refine AW.ret ?_
    replace h := some_eq h
    subst h
    exact ⟨.inr rfl, retOK_of [(.one (.c (.bool j13)))] (by kernel_rfl) ⟨⟨rfl, tr⟩, tr⟩ (of_decide_eq_true (by kernel_rfl))⟩

end
end Go.Fw
