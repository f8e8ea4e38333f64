/- Functions of the program: what each computes, and that it computes just that. -/
import Derived.Test.YtdddhokfmablnaaFwTy
import Derived.Test.YtdddhokfmablnaaFwH
import Derived.Test.YtdddhokfmablnaaFwV
import Derived.Test.YtdddhokfmablnaaFwHF
import Derived.Test.YtdddhokfmablnaaFwMK
import Derived.Test.YtdddhokfmablnaaFwAB
import Derived.Test.YtdddhokfmablnaaProg
import Derived.KernelRfl
namespace Go.Fw
open Go Go.Proofs
noncomputable section
set_option maxRecDepth 10000

/-! laws.r8Long -/
def laws_r8Long (_K : Nat) (a0 : (List Int)) (a1 : (List Int)) : Option (Bool) :=
  (ite2 ((decide ((a0.length : Int) > (48 : Int)))) (some true) (some (decide ((a1.length : Int) > (48 : Int))))).bind fun j2 => some j2

theorem ok_laws_r8Long (K : Nat) (a0 : (List Int)) (a1 : (List Int)) (o : (Bool)) (h : laws_r8Long K a0 a1 = some o) : CallOK Try.prog 4 [.one (sl 1 (csI .u8) a0), .one (sl 1 (csI .u8) a1)] [.one (.bool o)] := by
  refine callOK_of_AW Try.func4 rfl (by kernel_rfl) (Nat.le_of_ble_eq_true (by kernel_rfl)) ?_
  intro w0
  unfold laws_r8Long at h
  refine AW.seq (AW.rA ⟨[(0, (vc (sl 1 (csI .u8) a0))), (1, (vc (sl 1 (csI .u8) a1)))], []⟩ (Tt ∧ Tt) [] [0, 1] [] ⟨tr, tr⟩ (thenQ_normal ?_))
  refine AW.seq ?_
  obtain ⟨j2, e3, h⟩ := bind_some h
  refine AW.join1 (s2 := ⟨[(4, (vc (.bool j2)))], []⟩) ?_ ?_
  · rcases ite2_cases e3 with ⟨b1, e3⟩ | ⟨b1, e3⟩
    · replace e3 := some_eq e3
      subst e3
      exact AW.rA ⟨[(4, (vc (.bool true)))], []⟩ (Tt ∧ T2 ((Tt ∧ (decide ((a0.length : Int) > (48 : Int))) = true) ∧ Tt ∧ T4 Tt)) [.no, .no, .no, .dec true] [4] [] ⟨tr, tr, tr, ⟨tr, b1⟩, tr, tr, tr, tr, tr, tr⟩ ⟨rfl, rfl⟩
    · replace e3 := some_eq e3
      subst e3
      exact AW.rA ⟨[(4, (vc (.bool (decide ((a1.length : Int) > (48 : Int))))))], []⟩ (Tt ∧ T2 ((Tt ∧ (decide ((a0.length : Int) > (48 : Int))) = false) ∧ Tt ∧ T4 Tt)) [.no, .no, .no, .dec false] [4] [] ⟨tr, tr, tr, ⟨tr, b1⟩, tr, tr, tr, tr, tr, tr⟩ ⟨rfl, rfl⟩
  refine thenQ_normal ?_
  refine AW.ret ?_
  replace h := some_eq h
  subst h
  exact ⟨.inr rfl, retOK_of [(.one (.c (.bool j2)))] (by kernel_rfl) ⟨⟨rfl, tr⟩, tr⟩ (of_decide_eq_true (by kernel_rfl))⟩

/-! spec.l00From -/
theorem mk_spec_l00From : MkOK Try.prog 15 62 [(.i64, 0), (.u64, 0)] := by
  refine mkOK_of Try.func15 rfl (by kernel_rfl) fun w ad n cap => ?_
  refine wp_seq (wp_region_lit (wpList_val (x := (.pointer none)) (w' := w) rfl (by kernel_rfl) (wpList_nil ?_)))
  refine wp_seq (wp_region_lit (wpList_val (x := (.slice ad n cap)) (w' := w) rfl (by kernel_rfl) (wpList_val (x := (.agg #[(.slice ad n cap), .int .i64 0, .int .u64 0])) (w' := w) rfl (by kernel_rfl) (wpList_val (x := (.pointer (some ⟨w.heap.size, 0, none⟩))) (w' := (w.alloc (.cells #[(.slice ad n cap), .int .i64 0, .int .u64 0] 62))) rfl (by kernel_rfl) (wpList_val (x := (.pointer (some ⟨w.heap.size, 0, none⟩))) (w' := (w.alloc (.cells #[(.slice ad n cap), .int .i64 0, .int .u64 0] 62))) rfl (by kernel_rfl) (wpList_nil ?_))))))
  exact wp_ret ⟨rfl, (.pointer (some ⟨w.heap.size, 0, none⟩)), (by kernel_rfl), _, rfl, rfl, rfl⟩



/-! (*spec.l00Src).next -/
def spec_l00Src_next (_K : Nat) (a0 : l00Src) : Option (Int × Int × Int) :=
  ite2 ((decide (a0.at_ < (a0.code.length : Int)))) (chk (0 ≤ a0.at_ ∧ a0.at_ < (a0.code.length : Int)) (ite2 ((decide ((IntKind.i64.wrap (a0.at_ + (1 : Int))) ≤ (a0.code.length : Int)))) (some ((IntKind.i64.wrap (a0.code.getD a0.at_.toNat default)), (IntKind.i64.wrap (a0.at_ + (1 : Int))), (IntKind.u64.wrap ((IntKind.u64.wrap ((IntKind.u64.wrap (a0.seed * (6364136223846793005 : Int))) + (IntKind.u64.wrap (IntKind.i64.wrap (a0.code.getD a0.at_.toNat default))))) + (1442695040888963407 : Int))))) (chk (0 ≤ (40 : Int)) (some ((IntKind.i64.wrap (bits .and .u64 ((IntKind.u64.wrap ((IntKind.u64.wrap ((IntKind.u64.wrap (a0.seed * (6364136223846793005 : Int))) + (IntKind.u64.wrap (IntKind.i64.wrap (a0.code.getD a0.at_.toNat default))))) + (1442695040888963407 : Int))).fdiv (2 ^ (min (40 : Int).toNat (IntKind.bits .u64)))) (255 : Int))), (IntKind.i64.wrap (a0.at_ + (1 : Int))), (IntKind.u64.wrap ((IntKind.u64.wrap ((IntKind.u64.wrap (a0.seed * (6364136223846793005 : Int))) + (IntKind.u64.wrap (IntKind.i64.wrap (a0.code.getD a0.at_.toNat default))))) + (1442695040888963407 : Int)))))))) (ite2 ((decide ((IntKind.i64.wrap (a0.at_ + (1 : Int))) ≤ (a0.code.length : Int)))) (some ((0 : Int), (IntKind.i64.wrap (a0.at_ + (1 : Int))), (IntKind.u64.wrap ((IntKind.u64.wrap ((IntKind.u64.wrap (a0.seed * (6364136223846793005 : Int))) + (IntKind.u64.wrap (0 : Int)))) + (1442695040888963407 : Int))))) (chk (0 ≤ (40 : Int)) (some ((IntKind.i64.wrap (bits .and .u64 ((IntKind.u64.wrap ((IntKind.u64.wrap ((IntKind.u64.wrap (a0.seed * (6364136223846793005 : Int))) + (IntKind.u64.wrap (0 : Int)))) + (1442695040888963407 : Int))).fdiv (2 ^ (min (40 : Int).toNat (IntKind.bits .u64)))) (255 : Int))), (IntKind.i64.wrap (a0.at_ + (1 : Int))), (IntKind.u64.wrap ((IntKind.u64.wrap ((IntKind.u64.wrap (a0.seed * (6364136223846793005 : Int))) + (IntKind.u64.wrap (0 : Int)))) + (1442695040888963407 : Int)))))))

theorem ok_spec_l00Src_next (K : Nat) (a0 : l00Src) (o : (Int × Int × Int)) (h : spec_l00Src_next K a0 = some o) : MutOK Try.prog 46 [(.box 3 (fun j => [true, false, false].getD j true) (fun j => (cs_l00Src a0).getD j .nilptr) (fun j => [.nilptr, (.int .i64 o.2.1), (.int .u64 o.2.2)].getD j .nilptr))] [.one (.int .i64 o.1)] := by
  refine mutOK_of_AW 1 Try.func46 rfl (by kernel_rfl) (Nat.le_of_ble_eq_true (by kernel_rfl)) (by kernel_rfl) (by kernel_rfl) ?_
  intro w0 K0 v0 s0
  unfold spec_l00Src_next at h
  refine AW.weak (s' := ⟨[(0, (vp 0 0))], [(0, (.box [(.fx 0 0 (sl 1 (csI .u8) a0.code)), (.c (.int .i64 a0.at_)), (.c (.int .u64 a0.seed))]))]⟩) (subUnfx 0 [1, 2] (by kernel_rfl)) ?_
  refine AW.seq (AW.rA ⟨[(0, (vp 0 0))], [(0, (.box [(.fx 0 0 (sl 1 (csI .u8) a0.code)), (.c (.int .i64 a0.at_)), (.c (.int .u64 a0.seed))]))]⟩ (Tt ∧ Tt) [] [0] [0] ⟨tr, tr⟩ (thenQ_normal ?_))
  refine AW.seq (AW.rA ⟨[(0, (vp 0 0)), (3, (vc (.int .i64 (0 : Int))))], [(0, (.box [(.fx 0 0 (sl 1 (csI .u8) a0.code)), (.c (.int .i64 a0.at_)), (.c (.int .u64 a0.seed))]))]⟩ (Tt ∧ Tt) [] [0, 3] [0] ⟨tr, tr⟩ (thenQ_normal ?_))
  refine AW.seq ?_
  refine AW.seq (AW.dA ⟨[(0, (vp 0 0)), (3, (vc (.int .i64 (0 : Int)))), (13, (vc (.bool (decide (a0.at_ < (a0.code.length : Int))))))], [(0, (.box [(.fx 0 0 (sl 1 (csI .u8) a0.code)), (.c (.int .i64 a0.at_)), (.c (.int .u64 a0.seed))]))]⟩ ((T2 (T4 (T4 Tt))) ∧ (Tt)) 10 [] [0, 3, 13] [0] ⟨⟨tr, tr, tr, tr, tr, tr, tr, tr, tr, tr, tr⟩, tr⟩ (thenQ_normal ?_))
  rcases ite2_cases h with ⟨b1, h⟩ | ⟨b1, h⟩
  · refine AW.cond_t rfl b1 ?_
    obtain ⟨c2, h⟩ := chk_some h
    refine AW.dA ⟨[(0, (vp 0 0)), (3, (vc (.int .i64 (IntKind.i64.wrap (a0.code.getD a0.at_.toNat default)))))], [(0, (.box [(.fx 0 0 (sl 1 (csI .u8) a0.code)), (.c (.int .i64 a0.at_)), (.c (.int .u64 a0.seed))]))]⟩ ((T4 (T4 ((0 ≤ a0.at_ ∧ a0.at_ < (a0.code.length : Int)) ∧ Tt ∧ T2 Tt))) ∧ (Tt)) 12 [] [0, 3] [0] ⟨⟨tr, tr, tr, tr, tr, tr, tr, tr, c2, tr, tr, tr, tr⟩, tr⟩ ?_
    refine thenQ_normal ?_
    refine AW.seq (AW.rA ⟨[(0, (vp 0 0)), (3, (vc (.int .i64 (IntKind.i64.wrap (a0.code.getD a0.at_.toNat default)))))], [(0, (.box [(.fx 0 0 (sl 1 (csI .u8) a0.code)), (.c (.int .i64 (IntKind.i64.wrap (a0.at_ + (1 : Int))))), (.c (.int .u64 a0.seed))]))]⟩ (T4 (T4 Tt)) [] [0, 3] [0] ⟨tr, tr, tr, tr, tr, tr, tr, tr, tr⟩ (thenQ_normal ?_))
    refine AW.seq (AW.rA ⟨[(0, (vp 0 0)), (3, (vc (.int .i64 (IntKind.i64.wrap (a0.code.getD a0.at_.toNat default)))))], [(0, (.box [(.fx 0 0 (sl 1 (csI .u8) a0.code)), (.c (.int .i64 (IntKind.i64.wrap (a0.at_ + (1 : Int))))), (.c (.int .u64 (IntKind.u64.wrap ((IntKind.u64.wrap ((IntKind.u64.wrap (a0.seed * (6364136223846793005 : Int))) + (IntKind.u64.wrap (IntKind.i64.wrap (a0.code.getD a0.at_.toNat default))))) + (1442695040888963407 : Int)))))]))]⟩ (Tt ∧ T4 (T4 (T4 Tt))) [] [0, 3] [0] ⟨tr, tr, tr, tr, tr, tr, tr, tr, tr, tr, tr, tr, tr, tr⟩ (thenQ_normal ?_))
    refine AW.seq ?_
    refine AW.seq (AW.dA ⟨[(0, (vp 0 0)), (3, (vc (.int .i64 (IntKind.i64.wrap (a0.code.getD a0.at_.toNat default))))), (53, (vc (.bool (decide ((IntKind.i64.wrap (a0.at_ + (1 : Int))) ≤ (a0.code.length : Int))))))], [(0, (.box [(.fx 0 0 (sl 1 (csI .u8) a0.code)), (.c (.int .i64 (IntKind.i64.wrap (a0.at_ + (1 : Int))))), (.c (.int .u64 (IntKind.u64.wrap ((IntKind.u64.wrap ((IntKind.u64.wrap (a0.seed * (6364136223846793005 : Int))) + (IntKind.u64.wrap (IntKind.i64.wrap (a0.code.getD a0.at_.toNat default))))) + (1442695040888963407 : Int)))))]))]⟩ ((T2 (T4 (T4 Tt))) ∧ (Tt)) 10 [] [0, 3, 53] [0] ⟨⟨tr, tr, tr, tr, tr, tr, tr, tr, tr, tr, tr⟩, tr⟩ (thenQ_normal ?_))
    rcases ite2_cases h with ⟨b3, h⟩ | ⟨b3, h⟩
    · refine AW.cond_t rfl b3 ?_
      refine AW.seq (AW.rA ⟨[(0, (vp 0 0)), (2, (vc (.int .i64 (IntKind.i64.wrap (a0.code.getD a0.at_.toNat default)))))], [(0, (.box [(.fx 0 0 (sl 1 (csI .u8) a0.code)), (.c (.int .i64 (IntKind.i64.wrap (a0.at_ + (1 : Int))))), (.c (.int .u64 (IntKind.u64.wrap ((IntKind.u64.wrap ((IntKind.u64.wrap (a0.seed * (6364136223846793005 : Int))) + (IntKind.u64.wrap (IntKind.i64.wrap (a0.code.getD a0.at_.toNat default))))) + (1442695040888963407 : Int)))))]))]⟩ (T2 Tt) [] [0, 2] [0] ⟨tr, tr, tr⟩ (thenQ_normal ?_))
      refine AW.ret ?_
      refine thenQ_ret ?_
      replace h := some_eq h
      subst h
      exact ⟨.inr rfl, retOK_of [(.one (.c (.int .i64 (IntKind.i64.wrap (a0.code.getD a0.at_.toNat default)))))] (by kernel_rfl) ⟨⟨rfl, tr⟩, tr⟩ (of_decide_eq_true (by kernel_rfl)), by kernel_rfl, ⟨⟨rfl, ⟨⟨rfl, rfl⟩, ⟨rfl, rfl⟩, ⟨rfl, rfl⟩, tr⟩⟩, tr⟩⟩
    · refine AW.cond_f rfl b3 ?_
      refine AW.skip ?_
      refine thenQ_normal ?_
      refine AW.seq ?_
      obtain ⟨c4, h⟩ := chk_some h
      refine AW.rA ⟨[(0, (vp 0 0)), (2, (vc (.int .i64 (IntKind.i64.wrap (bits .and .u64 ((IntKind.u64.wrap ((IntKind.u64.wrap ((IntKind.u64.wrap (a0.seed * (6364136223846793005 : Int))) + (IntKind.u64.wrap (IntKind.i64.wrap (a0.code.getD a0.at_.toNat default))))) + (1442695040888963407 : Int))).fdiv (2 ^ (min (40 : Int).toNat (IntKind.bits .u64)))) (255 : Int))))))], [(0, (.box [(.fx 0 0 (sl 1 (csI .u8) a0.code)), (.c (.int .i64 (IntKind.i64.wrap (a0.at_ + (1 : Int))))), (.c (.int .u64 (IntKind.u64.wrap ((IntKind.u64.wrap ((IntKind.u64.wrap (a0.seed * (6364136223846793005 : Int))) + (IntKind.u64.wrap (IntKind.i64.wrap (a0.code.getD a0.at_.toNat default))))) + (1442695040888963407 : Int)))))]))]⟩ (T4 ((0 ≤ (40 : Int)) ∧ Tt ∧ T2 Tt)) [] [0, 2] [0] ⟨tr, tr, tr, tr, c4, tr, tr, tr, tr⟩ ?_
      refine thenQ_normal ?_
      refine AW.ret ?_
      replace h := some_eq h
      subst h
      exact ⟨.inr rfl, retOK_of [(.one (.c (.int .i64 (IntKind.i64.wrap (bits .and .u64 ((IntKind.u64.wrap ((IntKind.u64.wrap ((IntKind.u64.wrap (a0.seed * (6364136223846793005 : Int))) + (IntKind.u64.wrap (IntKind.i64.wrap (a0.code.getD a0.at_.toNat default))))) + (1442695040888963407 : Int))).fdiv (2 ^ (min (40 : Int).toNat (IntKind.bits .u64)))) (255 : Int))))))] (by kernel_rfl) ⟨⟨rfl, tr⟩, tr⟩ (of_decide_eq_true (by kernel_rfl)), by kernel_rfl, ⟨⟨rfl, ⟨⟨rfl, rfl⟩, ⟨rfl, rfl⟩, ⟨rfl, rfl⟩, tr⟩⟩, tr⟩⟩
  · refine AW.cond_f rfl b1 ?_
    refine AW.skip ?_
    refine thenQ_normal ?_
    refine AW.seq (AW.rA ⟨[(0, (vp 0 0)), (3, (vc (.int .i64 (0 : Int))))], [(0, (.box [(.fx 0 0 (sl 1 (csI .u8) a0.code)), (.c (.int .i64 (IntKind.i64.wrap (a0.at_ + (1 : Int))))), (.c (.int .u64 a0.seed))]))]⟩ (T4 (T4 Tt)) [] [0, 3] [0] ⟨tr, tr, tr, tr, tr, tr, tr, tr, tr⟩ (thenQ_normal ?_))
    refine AW.seq (AW.rA ⟨[(0, (vp 0 0)), (3, (vc (.int .i64 (0 : Int))))], [(0, (.box [(.fx 0 0 (sl 1 (csI .u8) a0.code)), (.c (.int .i64 (IntKind.i64.wrap (a0.at_ + (1 : Int))))), (.c (.int .u64 (IntKind.u64.wrap ((IntKind.u64.wrap ((IntKind.u64.wrap (a0.seed * (6364136223846793005 : Int))) + (IntKind.u64.wrap (0 : Int)))) + (1442695040888963407 : Int)))))]))]⟩ (Tt ∧ T4 (T4 (T4 Tt))) [] [0, 3] [0] ⟨tr, tr, tr, tr, tr, tr, tr, tr, tr, tr, tr, tr, tr, tr⟩ (thenQ_normal ?_))
    refine AW.seq ?_
    refine AW.seq (AW.dA ⟨[(0, (vp 0 0)), (3, (vc (.int .i64 (0 : Int)))), (53, (vc (.bool (decide ((IntKind.i64.wrap (a0.at_ + (1 : Int))) ≤ (a0.code.length : Int))))))], [(0, (.box [(.fx 0 0 (sl 1 (csI .u8) a0.code)), (.c (.int .i64 (IntKind.i64.wrap (a0.at_ + (1 : Int))))), (.c (.int .u64 (IntKind.u64.wrap ((IntKind.u64.wrap ((IntKind.u64.wrap (a0.seed * (6364136223846793005 : Int))) + (IntKind.u64.wrap (0 : Int)))) + (1442695040888963407 : Int)))))]))]⟩ ((T2 (T4 (T4 Tt))) ∧ (Tt)) 10 [] [0, 3, 53] [0] ⟨⟨tr, tr, tr, tr, tr, tr, tr, tr, tr, tr, tr⟩, tr⟩ (thenQ_normal ?_))
    rcases ite2_cases h with ⟨b5, h⟩ | ⟨b5, h⟩
    · refine AW.cond_t rfl b5 ?_
      refine AW.seq (AW.rA ⟨[(0, (vp 0 0)), (2, (vc (.int .i64 (0 : Int))))], [(0, (.box [(.fx 0 0 (sl 1 (csI .u8) a0.code)), (.c (.int .i64 (IntKind.i64.wrap (a0.at_ + (1 : Int))))), (.c (.int .u64 (IntKind.u64.wrap ((IntKind.u64.wrap ((IntKind.u64.wrap (a0.seed * (6364136223846793005 : Int))) + (IntKind.u64.wrap (0 : Int)))) + (1442695040888963407 : Int)))))]))]⟩ (T2 Tt) [] [0, 2] [0] ⟨tr, tr, tr⟩ (thenQ_normal ?_))
      refine AW.ret ?_
      refine thenQ_ret ?_
      replace h := some_eq h
      subst h
      exact ⟨.inr rfl, retOK_of [(.one (.c (.int .i64 (0 : Int))))] (by kernel_rfl) ⟨⟨rfl, tr⟩, tr⟩ (of_decide_eq_true (by kernel_rfl)), by kernel_rfl, ⟨⟨rfl, ⟨⟨rfl, rfl⟩, ⟨rfl, rfl⟩, ⟨rfl, rfl⟩, tr⟩⟩, tr⟩⟩
    · refine AW.cond_f rfl b5 ?_
      refine AW.skip ?_
      refine thenQ_normal ?_
      refine AW.seq ?_
      obtain ⟨c6, h⟩ := chk_some h
      refine AW.rA ⟨[(0, (vp 0 0)), (2, (vc (.int .i64 (IntKind.i64.wrap (bits .and .u64 ((IntKind.u64.wrap ((IntKind.u64.wrap ((IntKind.u64.wrap (a0.seed * (6364136223846793005 : Int))) + (IntKind.u64.wrap (0 : Int)))) + (1442695040888963407 : Int))).fdiv (2 ^ (min (40 : Int).toNat (IntKind.bits .u64)))) (255 : Int))))))], [(0, (.box [(.fx 0 0 (sl 1 (csI .u8) a0.code)), (.c (.int .i64 (IntKind.i64.wrap (a0.at_ + (1 : Int))))), (.c (.int .u64 (IntKind.u64.wrap ((IntKind.u64.wrap ((IntKind.u64.wrap (a0.seed * (6364136223846793005 : Int))) + (IntKind.u64.wrap (0 : Int)))) + (1442695040888963407 : Int)))))]))]⟩ (T4 ((0 ≤ (40 : Int)) ∧ Tt ∧ T2 Tt)) [] [0, 2] [0] ⟨tr, tr, tr, tr, c6, tr, tr, tr, tr⟩ ?_
      refine thenQ_normal ?_
      refine AW.ret ?_
      replace h := some_eq h
      subst h
      exact ⟨.inr rfl, retOK_of [(.one (.c (.int .i64 (IntKind.i64.wrap (bits .and .u64 ((IntKind.u64.wrap ((IntKind.u64.wrap ((IntKind.u64.wrap (a0.seed * (6364136223846793005 : Int))) + (IntKind.u64.wrap (0 : Int)))) + (1442695040888963407 : Int))).fdiv (2 ^ (min (40 : Int).toNat (IntKind.bits .u64)))) (255 : Int))))))] (by kernel_rfl) ⟨⟨rfl, tr⟩, tr⟩ (of_decide_eq_true (by kernel_rfl)), by kernel_rfl, ⟨⟨rfl, ⟨⟨rfl, rfl⟩, ⟨rfl, rfl⟩, ⟨rfl, rfl⟩, tr⟩⟩, tr⟩⟩

/-! (*spec.l00Src).pick -/
def spec_l00Src_pick (K : Nat) (a0 : l00Src) (a1 : Int) : Option (Int × Int × Int) :=
  ite2 ((decide (a1 ≤ (1 : Int)))) (some ((0 : Int), a0.at_, a0.seed)) ((spec_l00Src_next K a0).bind fun v2 => ite2 ((decide (a1 > (200 : Int)))) ((spec_l00Src_next K (l00Src.mk a0.code v2.2.1 v2.2.2)).bind fun v5 => chk (a1 ≠ 0) (some (((IntKind.i64.wrap ((IntKind.i64.wrap (v2.1 * (256 : Int))) + v5.1)).tmod a1), v5.2.1, v5.2.2))) (chk (a1 ≠ 0) (some ((v2.1.tmod a1), v2.2.1, v2.2.2))))

theorem ok_spec_l00Src_pick (K : Nat) (a0 : l00Src) (a1 : Int) (o : (Int × Int × Int)) (h : spec_l00Src_pick K a0 a1 = some o) : MutOK Try.prog 31 [(.box 3 (fun j => [true, false, false].getD j true) (fun j => (cs_l00Src a0).getD j .nilptr) (fun j => [.nilptr, (.int .i64 o.2.1), (.int .u64 o.2.2)].getD j .nilptr)), (.one (.ro (.int .i64 a1)))] [.one (.int .i64 o.1)] := by
  refine mutOK_of_AW 1 Try.func31 rfl (by kernel_rfl) (Nat.le_of_ble_eq_true (by kernel_rfl)) (by kernel_rfl) (by kernel_rfl) ?_
  intro w0 K0 v0 s0
  unfold spec_l00Src_pick at h
  refine AW.weak (s' := ⟨[(0, (vp 0 0)), (1, (vc (.int .i64 a1)))], [(0, (.box [(.fx 0 0 (sl 1 (csI .u8) a0.code)), (.c (.int .i64 a0.at_)), (.c (.int .u64 a0.seed))]))]⟩) (subUnfx 0 [1, 2] (by kernel_rfl)) ?_
  refine AW.seq (AW.rA ⟨[(0, (vp 0 0)), (1, (vc (.int .i64 a1)))], [(0, (.box [(.fx 0 0 (sl 1 (csI .u8) a0.code)), (.c (.int .i64 a0.at_)), (.c (.int .u64 a0.seed))]))]⟩ (Tt ∧ Tt) [] [0, 1] [0] ⟨tr, tr⟩ (thenQ_normal ?_))
  refine AW.seq ?_
  refine AW.seq (AW.rA ⟨[(0, (vp 0 0)), (1, (vc (.int .i64 a1))), (7, (vc (.bool (decide (a1 ≤ (1 : Int))))))], [(0, (.box [(.fx 0 0 (sl 1 (csI .u8) a0.code)), (.c (.int .i64 a0.at_)), (.c (.int .u64 a0.seed))]))]⟩ (T2 Tt) [] [0, 1, 7] [0] ⟨tr, tr, tr⟩ (thenQ_normal ?_))
  rcases ite2_cases h with ⟨b1, h⟩ | ⟨b1, h⟩
  · refine AW.cond_t rfl b1 ?_
    refine AW.seq (AW.rA ⟨[(0, (vp 0 0)), (1, (vc (.int .i64 a1))), (4, (vc (.int .i64 (0 : Int))))], [(0, (.box [(.fx 0 0 (sl 1 (csI .u8) a0.code)), (.c (.int .i64 a0.at_)), (.c (.int .u64 a0.seed))]))]⟩ (Tt ∧ Tt) [] [0, 1, 4] [0] ⟨tr, tr⟩ (thenQ_normal ?_))
    refine AW.ret ?_
    refine thenQ_ret ?_
    replace h := some_eq h
    subst h
    exact ⟨.inr rfl, retOK_of [(.one (.c (.int .i64 (0 : Int))))] (by kernel_rfl) ⟨⟨rfl, tr⟩, tr⟩ (of_decide_eq_true (by kernel_rfl)), by kernel_rfl, ⟨⟨rfl, ⟨⟨rfl, rfl⟩, ⟨rfl, rfl⟩, ⟨rfl, rfl⟩, tr⟩⟩, tr, tr⟩⟩
  · refine AW.cond_f rfl b1 ?_
    refine AW.skip ?_
    refine thenQ_normal ?_
    refine AW.seq ?_
    obtain ⟨v2, e3, h⟩ := bind_some h
    refine AW.rA ⟨[(0, (vp 0 0)), (1, (vc (.int .i64 a1))), (5, (vc (.int .i64 v2.1)))], [(0, (.box [(.fx 0 0 (sl 1 (csI .u8) a0.code)), (.c (.int .i64 v2.2.1)), (.c (.int .u64 v2.2.2))]))]⟩ (Tt ∧ ((((Eqc (sl 1 (csI .u8) a0.code)) ∧ (Eqc (.int .i64 a0.at_)) ∧ (Eqc (.int .u64 a0.seed)) ∧ Tt) ∧ Tt) ∧ MutOK Try.prog 46 [(.box 3 (fun j => [true, false, false].getD j true) (fun j => (cs_l00Src a0).getD j .nilptr) (fun j => [.nilptr, (.int .i64 v2.2.1), (.int .u64 v2.2.2)].getD j .nilptr))] [.one (.int .i64 v2.1)]) ∧ Tt ∧ Tt) [.no, .callM [(.box 3 (fun j => [true, false, false].getD j true) (fun j => (cs_l00Src a0).getD j .nilptr) (fun j => [.nilptr, (.int .i64 v2.2.1), (.int .u64 v2.2.2)].getD j .nilptr))] [.one (.int .i64 v2.1)] [[.view]] none] [0, 1, 5] [0] ⟨tr, ⟨⟨⟨rfl, rfl, rfl, tr⟩, tr⟩, ok_spec_l00Src_next K a0 v2 e3⟩, tr, tr⟩ ?_
    refine thenQ_normal ?_
    refine AW.seq ?_
    refine AW.seq (AW.rA ⟨[(0, (vp 0 0)), (1, (vc (.int .i64 a1))), (5, (vc (.int .i64 v2.1))), (11, (vc (.bool (decide (a1 > (200 : Int))))))], [(0, (.box [(.fx 0 0 (sl 1 (csI .u8) a0.code)), (.c (.int .i64 v2.2.1)), (.c (.int .u64 v2.2.2))]))]⟩ (T2 Tt) [] [0, 1, 5, 11] [0] ⟨tr, tr, tr⟩ (thenQ_normal ?_))
    rcases ite2_cases h with ⟨b4, h⟩ | ⟨b4, h⟩
    · refine AW.cond_t rfl b4 ?_
      obtain ⟨v5, e6, h⟩ := bind_some h
      refine AW.rA ⟨[(0, (vp 0 0)), (1, (vc (.int .i64 a1))), (5, (vc (.int .i64 (IntKind.i64.wrap ((IntKind.i64.wrap (v2.1 * (256 : Int))) + v5.1)))))], [(0, (.box [(.fx 0 0 (sl 1 (csI .u8) a0.code)), (.c (.int .i64 v5.2.1)), (.c (.int .u64 v5.2.2))]))]⟩ (Tt ∧ T2 (((((Eqc (sl 1 (csI .u8) a0.code)) ∧ (Eqc (.int .i64 v2.2.1)) ∧ (Eqc (.int .u64 v2.2.2)) ∧ Tt) ∧ Tt) ∧ MutOK Try.prog 46 [(.box 3 (fun j => [true, false, false].getD j true) (fun j => (cs_l00Src (l00Src.mk a0.code v2.2.1 v2.2.2)).getD j .nilptr) (fun j => [.nilptr, (.int .i64 v5.2.1), (.int .u64 v5.2.2)].getD j .nilptr))] [.one (.int .i64 v5.1)]) ∧ T2 Tt)) [.no, .no, .no, .callM [(.box 3 (fun j => [true, false, false].getD j true) (fun j => (cs_l00Src (l00Src.mk a0.code v2.2.1 v2.2.2)).getD j .nilptr) (fun j => [.nilptr, (.int .i64 v5.2.1), (.int .u64 v5.2.2)].getD j .nilptr))] [.one (.int .i64 v5.1)] [[.view]] none] [0, 1, 5] [0] ⟨tr, tr, tr, ⟨⟨⟨rfl, rfl, rfl, tr⟩, tr⟩, ok_spec_l00Src_next K (l00Src.mk a0.code v2.2.1 v2.2.2) v5 e6⟩, tr, tr, tr⟩ ?_
      refine thenQ_normal ?_
      refine AW.seq ?_
      obtain ⟨c7, h⟩ := chk_some h
      refine AW.rA ⟨[(0, (vp 0 0)), (1, (vc (.int .i64 a1))), (4, (vc (.int .i64 ((IntKind.i64.wrap ((IntKind.i64.wrap (v2.1 * (256 : Int))) + v5.1)).tmod a1))))], [(0, (.box [(.fx 0 0 (sl 1 (csI .u8) a0.code)), (.c (.int .i64 v5.2.1)), (.c (.int .u64 v5.2.2))]))]⟩ (T2 ((a1 ≠ 0) ∧ Tt ∧ Tt)) [] [0, 1, 4] [0] ⟨tr, tr, c7, tr, tr⟩ ?_
      refine thenQ_normal ?_
      refine AW.ret ?_
      replace h := some_eq h
      subst h
      exact ⟨.inr rfl, retOK_of [(.one (.c (.int .i64 ((IntKind.i64.wrap ((IntKind.i64.wrap (v2.1 * (256 : Int))) + v5.1)).tmod a1))))] (by kernel_rfl) ⟨⟨rfl, tr⟩, tr⟩ (of_decide_eq_true (by kernel_rfl)), by kernel_rfl, ⟨⟨rfl, ⟨⟨rfl, rfl⟩, ⟨rfl, rfl⟩, ⟨rfl, rfl⟩, tr⟩⟩, tr, tr⟩⟩
    · refine AW.cond_f rfl b4 ?_
      refine AW.skip ?_
      refine thenQ_normal ?_
      refine AW.seq ?_
      obtain ⟨c8, h⟩ := chk_some h
      refine AW.rA ⟨[(0, (vp 0 0)), (1, (vc (.int .i64 a1))), (4, (vc (.int .i64 (v2.1.tmod a1))))], [(0, (.box [(.fx 0 0 (sl 1 (csI .u8) a0.code)), (.c (.int .i64 v2.2.1)), (.c (.int .u64 v2.2.2))]))]⟩ (T2 ((a1 ≠ 0) ∧ Tt ∧ Tt)) [] [0, 1, 4] [0] ⟨tr, tr, c8, tr, tr⟩ ?_
      refine thenQ_normal ?_
      refine AW.ret ?_
      replace h := some_eq h
      subst h
      exact ⟨.inr rfl, retOK_of [(.one (.c (.int .i64 (v2.1.tmod a1))))] (by kernel_rfl) ⟨⟨rfl, tr⟩, tr⟩ (of_decide_eq_true (by kernel_rfl)), by kernel_rfl, ⟨⟨rfl, ⟨⟨rfl, rfl⟩, ⟨rfl, rfl⟩, ⟨rfl, rfl⟩, tr⟩⟩, tr, tr⟩⟩

/-! (*spec.l00Src).one -/
def spec_l00Src_one (K : Nat) (a0 : l00Src) (a1 : Int) : Option (Bool × Int × Int) :=
  (spec_l00Src_pick K a0 a1).bind fun v1 => some ((v1.1 == (0 : Int)), v1.2.1, v1.2.2)

theorem ok_spec_l00Src_one (K : Nat) (a0 : l00Src) (a1 : Int) (o : (Bool × Int × Int)) (h : spec_l00Src_one K a0 a1 = some o) : MutOK Try.prog 33 [(.box 3 (fun j => [true, false, false].getD j true) (fun j => (cs_l00Src a0).getD j .nilptr) (fun j => [.nilptr, (.int .i64 o.2.1), (.int .u64 o.2.2)].getD j .nilptr)), (.one (.ro (.int .i64 a1)))] [.one (.bool o.1)] := by
  refine mutOK_of_AW 1 Try.func33 rfl (by kernel_rfl) (Nat.le_of_ble_eq_true (by kernel_rfl)) (by kernel_rfl) (by kernel_rfl) ?_
  intro w0 K0 v0 s0
  unfold spec_l00Src_one at h
  refine AW.weak (s' := ⟨[(0, (vp 0 0)), (1, (vc (.int .i64 a1)))], [(0, (.box [(.fx 0 0 (sl 1 (csI .u8) a0.code)), (.c (.int .i64 a0.at_)), (.c (.int .u64 a0.seed))]))]⟩) (subUnfx 0 [1, 2] (by kernel_rfl)) ?_
  refine AW.seq (AW.rA ⟨[(0, (vp 0 0)), (1, (vc (.int .i64 a1)))], [(0, (.box [(.fx 0 0 (sl 1 (csI .u8) a0.code)), (.c (.int .i64 a0.at_)), (.c (.int .u64 a0.seed))]))]⟩ (Tt ∧ Tt) [] [0, 1] [0] ⟨tr, tr⟩ (thenQ_normal ?_))
  refine AW.seq ?_
  obtain ⟨v1, e2, h⟩ := bind_some h
  refine AW.rA ⟨[(0, (vp 0 0)), (1, (vc (.int .i64 a1))), (4, (vc (.bool (v1.1 == (0 : Int)))))], [(0, (.box [(.fx 0 0 (sl 1 (csI .u8) a0.code)), (.c (.int .i64 v1.2.1)), (.c (.int .u64 v1.2.2))]))]⟩ (T2 (((((Eqc (sl 1 (csI .u8) a0.code)) ∧ (Eqc (.int .i64 a0.at_)) ∧ (Eqc (.int .u64 a0.seed)) ∧ Tt) ∧ (Eqc (.int .i64 a1)) ∧ Tt) ∧ MutOK Try.prog 31 [(.box 3 (fun j => [true, false, false].getD j true) (fun j => (cs_l00Src a0).getD j .nilptr) (fun j => [.nilptr, (.int .i64 v1.2.1), (.int .u64 v1.2.2)].getD j .nilptr)), .one (.ro (.int .i64 a1))] [.one (.int .i64 v1.1)]) ∧ T2 Tt)) [.no, .no, .callM [(.box 3 (fun j => [true, false, false].getD j true) (fun j => (cs_l00Src a0).getD j .nilptr) (fun j => [.nilptr, (.int .i64 v1.2.1), (.int .u64 v1.2.2)].getD j .nilptr)), .one (.ro (.int .i64 a1))] [.one (.int .i64 v1.1)] [[.view]] none] [0, 1, 4] [0] ⟨tr, tr, ⟨⟨⟨rfl, rfl, rfl, tr⟩, rfl, tr⟩, ok_spec_l00Src_pick K a0 a1 v1 e2⟩, tr, tr, tr⟩ ?_
  refine thenQ_normal ?_
  refine AW.ret ?_
  replace h := some_eq h
  subst h
  exact ⟨.inr rfl, retOK_of [(.one (.c (.bool (v1.1 == (0 : Int)))))] (by kernel_rfl) ⟨⟨rfl, tr⟩, tr⟩ (of_decide_eq_true (by kernel_rfl)), by kernel_rfl, ⟨⟨rfl, ⟨⟨rfl, rfl⟩, ⟨rfl, rfl⟩, ⟨rfl, rfl⟩, tr⟩⟩, tr, tr⟩⟩

/-! spec.l01DrawSmall -/
def spec_l01DrawSmall (K : Nat) (a0 : l00Src) : Option (F32 × Int × Int) :=
  (spec_l00Src_pick K a0 (33 : Int)).bind fun v1 => some (((Fl.ofInt .f32 (IntKind.i64.wrap (v1.1 - (16 : Int)))).div (Fl.mk (k := .f32) 1082130432 (by decide))), v1.2.1, v1.2.2)

theorem ok_spec_l01DrawSmall (K : Nat) (a0 : l00Src) (o : (F32 × Int × Int)) (h : spec_l01DrawSmall K a0 = some o) : MutOK Try.prog 25 [(.box 3 (fun j => [true, false, false].getD j true) (fun j => (cs_l00Src a0).getD j .nilptr) (fun j => [.nilptr, (.int .i64 o.2.1), (.int .u64 o.2.2)].getD j .nilptr))] [.one (.flt .f32 o.1.bits)] := by
  refine mutOK_of_AW 1 Try.func25 rfl (by kernel_rfl) (Nat.le_of_ble_eq_true (by kernel_rfl)) (by kernel_rfl) (by kernel_rfl) ?_
  intro w0 K0 v0 s0
  unfold spec_l01DrawSmall at h
  refine AW.weak (s' := ⟨[(0, (vp 0 0))], [(0, (.box [(.fx 0 0 (sl 1 (csI .u8) a0.code)), (.c (.int .i64 a0.at_)), (.c (.int .u64 a0.seed))]))]⟩) (subUnfx 0 [1, 2] (by kernel_rfl)) ?_
  refine AW.seq (AW.rA ⟨[(0, (vp 0 0))], [(0, (.box [(.fx 0 0 (sl 1 (csI .u8) a0.code)), (.c (.int .i64 a0.at_)), (.c (.int .u64 a0.seed))]))]⟩ (Tt ∧ Tt) [] [0] [0] ⟨tr, tr⟩ (thenQ_normal ?_))
  refine AW.seq ?_
  obtain ⟨v1, e2, h⟩ := bind_some h
  refine AW.rA ⟨[(0, (vp 0 0)), (2, (vc (.flt .f32 ((Fl.ofInt .f32 (IntKind.i64.wrap (v1.1 - (16 : Int)))).div (Fl.mk (k := .f32) 1082130432 (by decide))).bits)))], [(0, (.box [(.fx 0 0 (sl 1 (csI .u8) a0.code)), (.c (.int .i64 v1.2.1)), (.c (.int .u64 v1.2.2))]))]⟩ (Tt ∧ ((((Eqc (sl 1 (csI .u8) a0.code)) ∧ (Eqc (.int .i64 a0.at_)) ∧ (Eqc (.int .u64 a0.seed)) ∧ Tt) ∧ (Eqc (.int .i64 (33 : Int))) ∧ Tt) ∧ MutOK Try.prog 31 [(.box 3 (fun j => [true, false, false].getD j true) (fun j => (cs_l00Src a0).getD j .nilptr) (fun j => [.nilptr, (.int .i64 v1.2.1), (.int .u64 v1.2.2)].getD j .nilptr)), .one (.ro (.int .i64 (33 : Int)))] [.one (.int .i64 v1.1)]) ∧ T4 Tt) [.no, .callM [(.box 3 (fun j => [true, false, false].getD j true) (fun j => (cs_l00Src a0).getD j .nilptr) (fun j => [.nilptr, (.int .i64 v1.2.1), (.int .u64 v1.2.2)].getD j .nilptr)), .one (.ro (.int .i64 (33 : Int)))] [.one (.int .i64 v1.1)] [[.view]] none] [0, 2] [0] ⟨tr, ⟨⟨⟨rfl, rfl, rfl, tr⟩, rfl, tr⟩, ok_spec_l00Src_pick K a0 (33 : Int) v1 e2⟩, tr, tr, tr, tr, tr⟩ ?_
  refine thenQ_normal ?_
  refine AW.ret ?_
  replace h := some_eq h
  subst h
  exact ⟨.inr rfl, retOK_of [(.one (.c (.flt .f32 ((Fl.ofInt .f32 (IntKind.i64.wrap (v1.1 - (16 : Int)))).div (Fl.mk (k := .f32) 1082130432 (by decide))).bits)))] (by kernel_rfl) ⟨⟨rfl, tr⟩, tr⟩ (of_decide_eq_true (by kernel_rfl)), by kernel_rfl, ⟨⟨rfl, ⟨⟨rfl, rfl⟩, ⟨rfl, rfl⟩, ⟨rfl, rfl⟩, tr⟩⟩, tr⟩⟩

/-! spec.l01DrawPlain -/
def spec_l01DrawPlain (K : Nat) (a0 : l00Src) : Option (F32 × Int × Int) :=
  (spec_l00Src_pick K a0 (129 : Int)).bind fun v1 => (spec_l00Src_one K (l00Src.mk a0.code v1.2.1 v1.2.2) (4 : Int)).bind fun v3 => ite2 (v3.1) (some (((Fl.ofInt .f32 (IntKind.i64.wrap (v1.1 - (64 : Int)))).div (Fl.mk (k := .f32) 1088421888 (by decide))), v3.2.1, v3.2.2)) (some (((Fl.ofInt .f32 (IntKind.i64.wrap (v1.1 - (64 : Int)))).div (Fl.mk (k := .f32) 1098907648 (by decide))), v3.2.1, v3.2.2))

theorem ok_spec_l01DrawPlain (K : Nat) (a0 : l00Src) (o : (F32 × Int × Int)) (h : spec_l01DrawPlain K a0 = some o) : MutOK Try.prog 55 [(.box 3 (fun j => [true, false, false].getD j true) (fun j => (cs_l00Src a0).getD j .nilptr) (fun j => [.nilptr, (.int .i64 o.2.1), (.int .u64 o.2.2)].getD j .nilptr))] [.one (.flt .f32 o.1.bits)] := by
  refine mutOK_of_AW 1 Try.func55 rfl (by kernel_rfl) (Nat.le_of_ble_eq_true (by kernel_rfl)) (by kernel_rfl) (by kernel_rfl) ?_
  intro w0 K0 v0 s0
  unfold spec_l01DrawPlain at h
  refine AW.weak (s' := ⟨[(0, (vp 0 0))], [(0, (.box [(.fx 0 0 (sl 1 (csI .u8) a0.code)), (.c (.int .i64 a0.at_)), (.c (.int .u64 a0.seed))]))]⟩) (subUnfx 0 [1, 2] (by kernel_rfl)) ?_
  refine AW.seq (AW.rA ⟨[(0, (vp 0 0))], [(0, (.box [(.fx 0 0 (sl 1 (csI .u8) a0.code)), (.c (.int .i64 a0.at_)), (.c (.int .u64 a0.seed))]))]⟩ (Tt ∧ Tt) [] [0] [0] ⟨tr, tr⟩ (thenQ_normal ?_))
  refine AW.seq ?_
  obtain ⟨v1, e2, h⟩ := bind_some h
  refine AW.rA ⟨[(0, (vp 0 0)), (3, (vc (.int .i64 (IntKind.i64.wrap (v1.1 - (64 : Int))))))], [(0, (.box [(.fx 0 0 (sl 1 (csI .u8) a0.code)), (.c (.int .i64 v1.2.1)), (.c (.int .u64 v1.2.2))]))]⟩ (Tt ∧ ((((Eqc (sl 1 (csI .u8) a0.code)) ∧ (Eqc (.int .i64 a0.at_)) ∧ (Eqc (.int .u64 a0.seed)) ∧ Tt) ∧ (Eqc (.int .i64 (129 : Int))) ∧ Tt) ∧ MutOK Try.prog 31 [(.box 3 (fun j => [true, false, false].getD j true) (fun j => (cs_l00Src a0).getD j .nilptr) (fun j => [.nilptr, (.int .i64 v1.2.1), (.int .u64 v1.2.2)].getD j .nilptr)), .one (.ro (.int .i64 (129 : Int)))] [.one (.int .i64 v1.1)]) ∧ T2 Tt) [.no, .callM [(.box 3 (fun j => [true, false, false].getD j true) (fun j => (cs_l00Src a0).getD j .nilptr) (fun j => [.nilptr, (.int .i64 v1.2.1), (.int .u64 v1.2.2)].getD j .nilptr)), .one (.ro (.int .i64 (129 : Int)))] [.one (.int .i64 v1.1)] [[.view]] none] [0, 3] [0] ⟨tr, ⟨⟨⟨rfl, rfl, rfl, tr⟩, rfl, tr⟩, ok_spec_l00Src_pick K a0 (129 : Int) v1 e2⟩, tr, tr, tr⟩ ?_
  refine thenQ_normal ?_
  refine AW.seq ?_
  refine AW.seq ?_
  obtain ⟨v3, e4, h⟩ := bind_some h
  refine AW.rA ⟨[(0, (vp 0 0)), (3, (vc (.int .i64 (IntKind.i64.wrap (v1.1 - (64 : Int)))))), (8, (vc (.bool v3.1)))], [(0, (.box [(.fx 0 0 (sl 1 (csI .u8) a0.code)), (.c (.int .i64 v3.2.1)), (.c (.int .u64 v3.2.2))]))]⟩ (Tt ∧ ((((Eqc (sl 1 (csI .u8) a0.code)) ∧ (Eqc (.int .i64 v1.2.1)) ∧ (Eqc (.int .u64 v1.2.2)) ∧ Tt) ∧ (Eqc (.int .i64 (4 : Int))) ∧ Tt) ∧ MutOK Try.prog 33 [(.box 3 (fun j => [true, false, false].getD j true) (fun j => (cs_l00Src (l00Src.mk a0.code v1.2.1 v1.2.2)).getD j .nilptr) (fun j => [.nilptr, (.int .i64 v3.2.1), (.int .u64 v3.2.2)].getD j .nilptr)), .one (.ro (.int .i64 (4 : Int)))] [.one (.bool v3.1)]) ∧ Tt) [.no, .callM [(.box 3 (fun j => [true, false, false].getD j true) (fun j => (cs_l00Src (l00Src.mk a0.code v1.2.1 v1.2.2)).getD j .nilptr) (fun j => [.nilptr, (.int .i64 v3.2.1), (.int .u64 v3.2.2)].getD j .nilptr)), .one (.ro (.int .i64 (4 : Int)))] [.one (.bool v3.1)] [[.view]] none] [0, 3, 8] [0] ⟨tr, ⟨⟨⟨rfl, rfl, rfl, tr⟩, rfl, tr⟩, ok_spec_l00Src_one K (l00Src.mk a0.code v1.2.1 v1.2.2) (4 : Int) v3 e4⟩, tr⟩ ?_
  refine thenQ_normal ?_
  rcases ite2_cases h with ⟨b5, h⟩ | ⟨b5, h⟩
  · refine AW.cond_t rfl b5 ?_
    refine AW.seq (AW.rA ⟨[(0, (vp 0 0)), (2, (vc (.flt .f32 ((Fl.ofInt .f32 (IntKind.i64.wrap (v1.1 - (64 : Int)))).div (Fl.mk (k := .f32) 1088421888 (by decide))).bits)))], [(0, (.box [(.fx 0 0 (sl 1 (csI .u8) a0.code)), (.c (.int .i64 v3.2.1)), (.c (.int .u64 v3.2.2))]))]⟩ (T4 Tt) [] [0, 2] [0] ⟨tr, tr, tr, tr, tr⟩ (thenQ_normal ?_))
    refine AW.ret ?_
    refine thenQ_ret ?_
    replace h := some_eq h
    subst h
    exact ⟨.inr rfl, retOK_of [(.one (.c (.flt .f32 ((Fl.ofInt .f32 (IntKind.i64.wrap (v1.1 - (64 : Int)))).div (Fl.mk (k := .f32) 1088421888 (by decide))).bits)))] (by kernel_rfl) ⟨⟨rfl, tr⟩, tr⟩ (of_decide_eq_true (by kernel_rfl)), by kernel_rfl, ⟨⟨rfl, ⟨⟨rfl, rfl⟩, ⟨rfl, rfl⟩, ⟨rfl, rfl⟩, tr⟩⟩, tr⟩⟩
  · refine AW.cond_f rfl b5 ?_
    refine AW.skip ?_
    refine thenQ_normal ?_
    refine AW.seq (AW.rA ⟨[(0, (vp 0 0)), (2, (vc (.flt .f32 ((Fl.ofInt .f32 (IntKind.i64.wrap (v1.1 - (64 : Int)))).div (Fl.mk (k := .f32) 1098907648 (by decide))).bits)))], [(0, (.box [(.fx 0 0 (sl 1 (csI .u8) a0.code)), (.c (.int .i64 v3.2.1)), (.c (.int .u64 v3.2.2))]))]⟩ (T4 Tt) [] [0, 2] [0] ⟨tr, tr, tr, tr, tr⟩ (thenQ_normal ?_))
    refine AW.ret ?_
    replace h := some_eq h
    subst h
    exact ⟨.inr rfl, retOK_of [(.one (.c (.flt .f32 ((Fl.ofInt .f32 (IntKind.i64.wrap (v1.1 - (64 : Int)))).div (Fl.mk (k := .f32) 1098907648 (by decide))).bits)))] (by kernel_rfl) ⟨⟨rfl, tr⟩, tr⟩ (of_decide_eq_true (by kernel_rfl)), by kernel_rfl, ⟨⟨rfl, ⟨⟨rfl, rfl⟩, ⟨rfl, rfl⟩, ⟨rfl, rfl⟩, tr⟩⟩, tr⟩⟩

/-! (*spec.l00Src).among -/
def spec_l00Src_among (K : Nat) (a0 : l00Src) (a1 : (List Int)) : Option (Int × Int × Int) :=
  (spec_l00Src_pick K a0 (a1.length : Int)).bind fun v1 => chk (0 ≤ v1.1 ∧ v1.1 < (a1.length : Int)) (some ((a1.getD v1.1.toNat default), v1.2.1, v1.2.2))

theorem ok_spec_l00Src_among (K : Nat) (a0 : l00Src) (a1 : (List Int)) (o : (Int × Int × Int)) (h : spec_l00Src_among K a0 a1 = some o) : MutOK Try.prog 57 [(.box 3 (fun j => [true, false, false].getD j true) (fun j => (cs_l00Src a0).getD j .nilptr) (fun j => [.nilptr, (.int .i64 o.2.1), (.int .u64 o.2.2)].getD j .nilptr)), (.one (.ro (sl 1 (csI .i64) a1)))] [.one (.int .i64 o.1)] := by
  refine mutOK_of_AW 1 Try.func57 rfl (by kernel_rfl) (Nat.le_of_ble_eq_true (by kernel_rfl)) (by kernel_rfl) (by kernel_rfl) ?_
  intro w0 K0 v0 s0
  unfold spec_l00Src_among at h
  refine AW.weak (s' := ⟨[(0, (vp 0 0)), (1, (vc (sl 1 (csI .i64) a1)))], [(0, (.box [(.fx 0 0 (sl 1 (csI .u8) a0.code)), (.c (.int .i64 a0.at_)), (.c (.int .u64 a0.seed))]))]⟩) (subUnfx 0 [1, 2] (by kernel_rfl)) ?_
  refine AW.seq (AW.rA ⟨[(0, (vp 0 0)), (1, (vc (sl 1 (csI .i64) a1)))], [(0, (.box [(.fx 0 0 (sl 1 (csI .u8) a0.code)), (.c (.int .i64 a0.at_)), (.c (.int .u64 a0.seed))]))]⟩ (Tt ∧ Tt) [] [0, 1] [0] ⟨tr, tr⟩ (thenQ_normal ?_))
  refine AW.seq ?_
  obtain ⟨v1, e2, h⟩ := bind_some h
  obtain ⟨c3, h⟩ := chk_some h
  refine AW.rA ⟨[(0, (vp 0 0)), (1, (vc (sl 1 (csI .i64) a1))), (4, (vc (.int .i64 (a1.getD v1.1.toNat default))))], [(0, (.box [(.fx 0 0 (sl 1 (csI .u8) a0.code)), (.c (.int .i64 v1.2.1)), (.c (.int .u64 v1.2.2))]))]⟩ (T4 (((((Eqc (sl 1 (csI .u8) a0.code)) ∧ (Eqc (.int .i64 a0.at_)) ∧ (Eqc (.int .u64 a0.seed)) ∧ Tt) ∧ (Eqc (.int .i64 (a1.length : Int))) ∧ Tt) ∧ MutOK Try.prog 31 [(.box 3 (fun j => [true, false, false].getD j true) (fun j => (cs_l00Src a0).getD j .nilptr) (fun j => [.nilptr, (.int .i64 v1.2.1), (.int .u64 v1.2.2)].getD j .nilptr)), .one (.ro (.int .i64 (a1.length : Int)))] [.one (.int .i64 v1.1)]) ∧ (0 ≤ v1.1 ∧ v1.1 < (a1.length : Int)) ∧ T2 Tt)) [.no, .no, .no, .no, .callM [(.box 3 (fun j => [true, false, false].getD j true) (fun j => (cs_l00Src a0).getD j .nilptr) (fun j => [.nilptr, (.int .i64 v1.2.1), (.int .u64 v1.2.2)].getD j .nilptr)), .one (.ro (.int .i64 (a1.length : Int)))] [.one (.int .i64 v1.1)] [[.view]] none] [0, 1, 4] [0] ⟨tr, tr, tr, tr, ⟨⟨⟨rfl, rfl, rfl, tr⟩, rfl, tr⟩, ok_spec_l00Src_pick K a0 (a1.length : Int) v1 e2⟩, c3, tr, tr, tr⟩ ?_
  refine thenQ_normal ?_
  refine AW.ret ?_
  replace h := some_eq h
  subst h
  exact ⟨.inr rfl, retOK_of [(.one (.c (.int .i64 (a1.getD v1.1.toNat default))))] (by kernel_rfl) ⟨⟨rfl, tr⟩, tr⟩ (of_decide_eq_true (by kernel_rfl)), by kernel_rfl, ⟨⟨rfl, ⟨⟨rfl, rfl⟩, ⟨rfl, rfl⟩, ⟨rfl, rfl⟩, tr⟩⟩, tr, tr⟩⟩

/-! math.Float32frombits -/
def math_Float32frombits (_K : Nat) (a0 : Int) : Option (F32) :=
  Fl.ofBits .f32 a0

theorem ok_math_Float32frombits (K : Nat) (a0 : Int) (o : F32) (h : math_Float32frombits K a0 = some o) : CallOK Try.prog 60 [.one (.int .u32 a0)] [.one (.flt .f32 o.bits)] :=
  hand_ofBits (e := Extern.MathFloatBits.float32frombits) Try.func60 (by kernel_rfl) (by kernel_rfl) (by kernel_rfl) (by kernel_rfl) (fun _ _ => rfl) a0 o h

/-! spec.l01From -/
def spec_l01From (K : Nat) (a0 : Int) : Option (F32) :=
  (math_Float32frombits K (IntKind.u32.wrap a0)).bind fun v1 => some v1

theorem ok_spec_l01From (K : Nat) (a0 : Int) (o : (F32)) (h : spec_l01From K a0 = some o) : CallOK Try.prog 56 [.one (.int .i64 a0)] [.one (.flt .f32 o.bits)] := by
  refine callOK_of_AW Try.func56 rfl (by kernel_rfl) (Nat.le_of_ble_eq_true (by kernel_rfl)) ?_
  intro w0
  unfold spec_l01From at h
  refine AW.seq (AW.rA ⟨[(0, (vc (.int .i64 a0)))], []⟩ (Tt ∧ Tt) [] [0] [] ⟨tr, tr⟩ (thenQ_normal ?_))
  refine AW.seq ?_
  obtain ⟨v1, e2, h⟩ := bind_some h
  refine AW.rA ⟨[(2, (vc (.flt .f32 v1.bits)))], []⟩ (T2 ((((Eqc (.int .u32 (IntKind.u32.wrap a0))) ∧ Tt) ∧ CallOK Try.prog 60 [.one (.int .u32 (IntKind.u32.wrap a0))] [.one (.flt .f32 v1.bits)]) ∧ Tt ∧ Tt)) [.no, .no, .call [.one (.int .u32 (IntKind.u32.wrap a0))] [.one (.flt .f32 v1.bits)] [[.view]]] [2] [] ⟨tr, tr, ⟨⟨rfl, tr⟩, ok_math_Float32frombits K (IntKind.u32.wrap a0) v1 e2⟩, tr, tr⟩ ?_
  refine thenQ_normal ?_
  refine AW.ret ?_
  replace h := some_eq h
  subst h
  exact ⟨.inr rfl, retOK_of [(.one (.c (.flt .f32 v1.bits)))] (by kernel_rfl) ⟨⟨rfl, tr⟩, tr⟩ (of_decide_eq_true (by kernel_rfl))⟩

/-! spec.l01DrawFloat -/
def spec_l01DrawFloat (K : Nat) (a0 : l00Src) : Option (F32 × Int × Int) :=
  (spec_l00Src_one K a0 (12 : Int)).bind fun v1 => ite2 ((!v1.1)) ((spec_l01DrawPlain K (l00Src.mk a0.code v1.2.1 v1.2.2)).bind fun v4 => some (v4.1, v4.2.1, v4.2.2)) ((spec_l00Src_pick K (l00Src.mk a0.code v1.2.1 v1.2.2) (4 : Int)).bind fun v6 => ite2 ((v6.1 == (0 : Int))) ((spec_l00Src_among K (l00Src.mk a0.code v6.2.1 v6.2.2) ([(0 : Int), (2147483648 : Int), (2139095040 : Int), (4286578688 : Int), (2143289344 : Int), (1 : Int), (2139095039 : Int), (8388608 : Int), (8388607 : Int), (2147483649 : Int)])).bind fun v9 => (spec_l01From K v9.1).bind fun v11 => some (v11, v9.2.1, v9.2.2)) (ite2 ((v6.1 == (1 : Int))) ((spec_l00Src_pick K (l00Src.mk a0.code v6.2.1 v6.2.2) (65536 : Int)).bind fun v14 => (spec_l00Src_pick K (l00Src.mk a0.code v14.2.1 v14.2.2) (65536 : Int)).bind fun v16 => (spec_l01From K (IntKind.i64.wrap ((IntKind.i64.wrap (v14.1 * (65536 : Int))) + v16.1))).bind fun v18 => some (v18, v16.2.1, v16.2.2)) (ite2 ((v6.1 == (2 : Int))) ((spec_l00Src_pick K (l00Src.mk a0.code v6.2.1 v6.2.2) (65536 : Int)).bind fun v21 => (spec_l01From K (IntKind.i64.wrap (v21.1 * (65536 : Int)))).bind fun v23 => some (v23, v21.2.1, v21.2.2)) ((spec_l01DrawPlain K (l00Src.mk a0.code v6.2.1 v6.2.2)).bind fun v25 => (spec_l00Src_among K (l00Src.mk a0.code v25.2.1 v25.2.2) ([(8388608 : Int), (2130706432 : Int), (1610612736 : Int), (536870912 : Int)])).bind fun v27 => (spec_l01From K v27.1).bind fun v29 => some ((v25.1.mul v29), v27.2.1, v27.2.2)))))

theorem ok_spec_l01DrawFloat (K : Nat) (a0 : l00Src) (o : (F32 × Int × Int)) (h : spec_l01DrawFloat K a0 = some o) : MutOK Try.prog 47 [(.box 3 (fun j => [true, false, false].getD j true) (fun j => (cs_l00Src a0).getD j .nilptr) (fun j => [.nilptr, (.int .i64 o.2.1), (.int .u64 o.2.2)].getD j .nilptr))] [.one (.flt .f32 o.1.bits)] := by
  refine mutOK_of_AW 1 Try.func47 rfl (by kernel_rfl) (Nat.le_of_ble_eq_true (by kernel_rfl)) (by kernel_rfl) (by kernel_rfl) ?_
  intro w0 K0 v0 s0
  unfold spec_l01DrawFloat at h
  refine AW.weak (s' := ⟨[(0, (vp 0 0))], [(0, (.box [(.fx 0 0 (sl 1 (csI .u8) a0.code)), (.c (.int .i64 a0.at_)), (.c (.int .u64 a0.seed))]))]⟩) (subUnfx 0 [1, 2] (by kernel_rfl)) ?_
  refine AW.seq (AW.rA ⟨[(0, (vp 0 0))], [(0, (.box [(.fx 0 0 (sl 1 (csI .u8) a0.code)), (.c (.int .i64 a0.at_)), (.c (.int .u64 a0.seed))]))]⟩ (Tt ∧ Tt) [] [0] [0] ⟨tr, tr⟩ (thenQ_normal ?_))
  refine AW.seq ?_
  refine AW.seq ?_
  obtain ⟨v1, e2, h⟩ := bind_some h
  refine AW.rA ⟨[(0, (vp 0 0)), (6, (vc (.bool (!v1.1))))], [(0, (.box [(.fx 0 0 (sl 1 (csI .u8) a0.code)), (.c (.int .i64 v1.2.1)), (.c (.int .u64 v1.2.2))]))]⟩ (Tt ∧ ((((Eqc (sl 1 (csI .u8) a0.code)) ∧ (Eqc (.int .i64 a0.at_)) ∧ (Eqc (.int .u64 a0.seed)) ∧ Tt) ∧ (Eqc (.int .i64 (12 : Int))) ∧ Tt) ∧ MutOK Try.prog 33 [(.box 3 (fun j => [true, false, false].getD j true) (fun j => (cs_l00Src a0).getD j .nilptr) (fun j => [.nilptr, (.int .i64 v1.2.1), (.int .u64 v1.2.2)].getD j .nilptr)), .one (.ro (.int .i64 (12 : Int)))] [.one (.bool v1.1)]) ∧ Tt ∧ Tt) [.no, .callM [(.box 3 (fun j => [true, false, false].getD j true) (fun j => (cs_l00Src a0).getD j .nilptr) (fun j => [.nilptr, (.int .i64 v1.2.1), (.int .u64 v1.2.2)].getD j .nilptr)), .one (.ro (.int .i64 (12 : Int)))] [.one (.bool v1.1)] [[.view]] none] [0, 6] [0] ⟨tr, ⟨⟨⟨rfl, rfl, rfl, tr⟩, rfl, tr⟩, ok_spec_l00Src_one K a0 (12 : Int) v1 e2⟩, tr, tr⟩ ?_
  refine thenQ_normal ?_
  rcases ite2_cases h with ⟨b3, h⟩ | ⟨b3, h⟩
  · refine AW.cond_t rfl b3 ?_
    refine AW.seq ?_
    obtain ⟨v4, e5, h⟩ := bind_some h
    refine AW.rA ⟨[(0, (vp 0 0)), (2, (vc (.flt .f32 v4.1.bits)))], [(0, (.box [(.fx 0 0 (sl 1 (csI .u8) a0.code)), (.c (.int .i64 v4.2.1)), (.c (.int .u64 v4.2.2))]))]⟩ (Tt ∧ ((((Eqc (sl 1 (csI .u8) a0.code)) ∧ (Eqc (.int .i64 v1.2.1)) ∧ (Eqc (.int .u64 v1.2.2)) ∧ Tt) ∧ Tt) ∧ MutOK Try.prog 55 [(.box 3 (fun j => [true, false, false].getD j true) (fun j => (cs_l00Src (l00Src.mk a0.code v1.2.1 v1.2.2)).getD j .nilptr) (fun j => [.nilptr, (.int .i64 v4.2.1), (.int .u64 v4.2.2)].getD j .nilptr))] [.one (.flt .f32 v4.1.bits)]) ∧ Tt ∧ Tt) [.no, .callM [(.box 3 (fun j => [true, false, false].getD j true) (fun j => (cs_l00Src (l00Src.mk a0.code v1.2.1 v1.2.2)).getD j .nilptr) (fun j => [.nilptr, (.int .i64 v4.2.1), (.int .u64 v4.2.2)].getD j .nilptr))] [.one (.flt .f32 v4.1.bits)] [[.view]] none] [0, 2] [0] ⟨tr, ⟨⟨⟨rfl, rfl, rfl, tr⟩, tr⟩, ok_spec_l01DrawPlain K (l00Src.mk a0.code v1.2.1 v1.2.2) v4 e5⟩, tr, tr⟩ ?_
    refine thenQ_normal ?_
    refine AW.ret ?_
    refine thenQ_ret ?_
    replace h := some_eq h
    subst h
    exact ⟨.inr rfl, retOK_of [(.one (.c (.flt .f32 v4.1.bits)))] (by kernel_rfl) ⟨⟨rfl, tr⟩, tr⟩ (of_decide_eq_true (by kernel_rfl)), by kernel_rfl, ⟨⟨rfl, ⟨⟨rfl, rfl⟩, ⟨rfl, rfl⟩, ⟨rfl, rfl⟩, tr⟩⟩, tr⟩⟩
  · refine AW.cond_f rfl b3 ?_
    refine AW.skip ?_
    refine thenQ_normal ?_
    refine AW.seq ?_
    refine AW.seq ?_
    obtain ⟨v6, e7, h⟩ := bind_some h
    refine AW.rA ⟨[(0, (vp 0 0)), (10, (vc (.int .i64 v6.1)))], [(0, (.box [(.fx 0 0 (sl 1 (csI .u8) a0.code)), (.c (.int .i64 v6.2.1)), (.c (.int .u64 v6.2.2))]))]⟩ (Tt ∧ ((((Eqc (sl 1 (csI .u8) a0.code)) ∧ (Eqc (.int .i64 v1.2.1)) ∧ (Eqc (.int .u64 v1.2.2)) ∧ Tt) ∧ (Eqc (.int .i64 (4 : Int))) ∧ Tt) ∧ MutOK Try.prog 31 [(.box 3 (fun j => [true, false, false].getD j true) (fun j => (cs_l00Src (l00Src.mk a0.code v1.2.1 v1.2.2)).getD j .nilptr) (fun j => [.nilptr, (.int .i64 v6.2.1), (.int .u64 v6.2.2)].getD j .nilptr)), .one (.ro (.int .i64 (4 : Int)))] [.one (.int .i64 v6.1)]) ∧ Tt) [.no, .callM [(.box 3 (fun j => [true, false, false].getD j true) (fun j => (cs_l00Src (l00Src.mk a0.code v1.2.1 v1.2.2)).getD j .nilptr) (fun j => [.nilptr, (.int .i64 v6.2.1), (.int .u64 v6.2.2)].getD j .nilptr)), .one (.ro (.int .i64 (4 : Int)))] [.one (.int .i64 v6.1)] [[.view]] none] [0, 10] [0] ⟨tr, ⟨⟨⟨rfl, rfl, rfl, tr⟩, rfl, tr⟩, ok_spec_l00Src_pick K (l00Src.mk a0.code v1.2.1 v1.2.2) (4 : Int) v6 e7⟩, tr⟩ ?_
    refine thenQ_normal ?_
    refine AW.block ?_
    refine AW.seq (AW.rA ⟨[(0, (vp 0 0)), (10, (vc (.int .i64 v6.1))), (11, (vc (.bool (v6.1 == (0 : Int)))))], [(0, (.box [(.fx 0 0 (sl 1 (csI .u8) a0.code)), (.c (.int .i64 v6.2.1)), (.c (.int .u64 v6.2.2))]))]⟩ (T2 Tt) [] [0, 10, 11] [0] ⟨tr, tr, tr⟩ (thenQ_normal ?_))
    rcases ite2_cases h with ⟨b8, h⟩ | ⟨b8, h⟩
    · refine AW.cond_t rfl b8 ?_
      refine AW.seq ?_
      obtain ⟨v9, e10, h⟩ := bind_some h
      obtain ⟨v11, e12, h⟩ := bind_some h
      refine AW.rA ⟨[(0, (vp 0 0)), (2, (vc (.flt .f32 v11.bits)))], [(0, (.box [(.fx 0 0 (sl 1 (csI .u8) a0.code)), (.c (.int .i64 v9.2.1)), (.c (.int .u64 v9.2.2))]))]⟩ (Tt ∧ (([(0 : Int), (2147483648 : Int), (2139095040 : Int), (4286578688 : Int), (2143289344 : Int), (1 : Int), (2139095039 : Int), (8388608 : Int), (8388607 : Int), (2147483649 : Int)]).length = 10 ∧ (((.int .i64 (0 : Int)) : C) = (.int .i64 (0 : Int)) ∧ Tt) ∧ (((.int .i64 (2147483648 : Int)) : C) = (.int .i64 (2147483648 : Int)) ∧ Tt) ∧ (((.int .i64 (2139095040 : Int)) : C) = (.int .i64 (2139095040 : Int)) ∧ Tt) ∧ (((.int .i64 (4286578688 : Int)) : C) = (.int .i64 (4286578688 : Int)) ∧ Tt) ∧ (((.int .i64 (2143289344 : Int)) : C) = (.int .i64 (2143289344 : Int)) ∧ Tt) ∧ (((.int .i64 (1 : Int)) : C) = (.int .i64 (1 : Int)) ∧ Tt) ∧ (((.int .i64 (2139095039 : Int)) : C) = (.int .i64 (2139095039 : Int)) ∧ Tt) ∧ (((.int .i64 (8388608 : Int)) : C) = (.int .i64 (8388608 : Int)) ∧ Tt) ∧ (((.int .i64 (8388607 : Int)) : C) = (.int .i64 (8388607 : Int)) ∧ Tt) ∧ (((.int .i64 (2147483649 : Int)) : C) = (.int .i64 (2147483649 : Int)) ∧ Tt) ∧ Tt) ∧ ((((Eqc (sl 1 (csI .u8) a0.code)) ∧ (Eqc (.int .i64 v6.2.1)) ∧ (Eqc (.int .u64 v6.2.2)) ∧ Tt) ∧ (Eqc (sl 1 (csI .i64) ([(0 : Int), (2147483648 : Int), (2139095040 : Int), (4286578688 : Int), (2143289344 : Int), (1 : Int), (2139095039 : Int), (8388608 : Int), (8388607 : Int), (2147483649 : Int)]))) ∧ Tt) ∧ MutOK Try.prog 57 [(.box 3 (fun j => [true, false, false].getD j true) (fun j => (cs_l00Src (l00Src.mk a0.code v6.2.1 v6.2.2)).getD j .nilptr) (fun j => [.nilptr, (.int .i64 v9.2.1), (.int .u64 v9.2.2)].getD j .nilptr)), .one (.ro (sl 1 (csI .i64) ([(0 : Int), (2147483648 : Int), (2139095040 : Int), (4286578688 : Int), (2143289344 : Int), (1 : Int), (2139095039 : Int), (8388608 : Int), (8388607 : Int), (2147483649 : Int)])))] [.one (.int .i64 v9.1)]) ∧ (((Eqc (.int .i64 v9.1)) ∧ Tt) ∧ CallOK Try.prog 56 [.one (.int .i64 v9.1)] [.one (.flt .f32 v11.bits)]) ∧ Tt ∧ Tt) [.no, .obj 1 ([(0 : Int), (2147483648 : Int), (2139095040 : Int), (4286578688 : Int), (2143289344 : Int), (1 : Int), (2139095039 : Int), (8388608 : Int), (8388607 : Int), (2147483649 : Int)]).length (gl (csI .i64) ([(0 : Int), (2147483648 : Int), (2139095040 : Int), (4286578688 : Int), (2143289344 : Int), (1 : Int), (2139095039 : Int), (8388608 : Int), (8388607 : Int), (2147483649 : Int)])), .callM [(.box 3 (fun j => [true, false, false].getD j true) (fun j => (cs_l00Src (l00Src.mk a0.code v6.2.1 v6.2.2)).getD j .nilptr) (fun j => [.nilptr, (.int .i64 v9.2.1), (.int .u64 v9.2.2)].getD j .nilptr)), .one (.ro (sl 1 (csI .i64) ([(0 : Int), (2147483648 : Int), (2139095040 : Int), (4286578688 : Int), (2143289344 : Int), (1 : Int), (2139095039 : Int), (8388608 : Int), (8388607 : Int), (2147483649 : Int)])))] [.one (.int .i64 v9.1)] [[.view]] none, .call [.one (.int .i64 v9.1)] [.one (.flt .f32 v11.bits)] [[.view]]] [0, 2] [0] ⟨tr, ⟨rfl, ⟨⟨rfl, tr⟩, ⟨rfl, tr⟩, ⟨rfl, tr⟩, ⟨rfl, tr⟩, ⟨rfl, tr⟩, ⟨rfl, tr⟩, ⟨rfl, tr⟩, ⟨rfl, tr⟩, ⟨rfl, tr⟩, ⟨rfl, tr⟩, tr⟩⟩, ⟨⟨⟨rfl, rfl, rfl, tr⟩, rfl, tr⟩, ok_spec_l00Src_among K (l00Src.mk a0.code v6.2.1 v6.2.2) ([(0 : Int), (2147483648 : Int), (2139095040 : Int), (4286578688 : Int), (2143289344 : Int), (1 : Int), (2139095039 : Int), (8388608 : Int), (8388607 : Int), (2147483649 : Int)]) v9 e10⟩, ⟨⟨rfl, tr⟩, ok_spec_l01From K v9.1 v11 e12⟩, tr, tr⟩ ?_
      refine thenQ_normal ?_
      refine AW.ret ?_
      refine blockQ_ret ?_
      refine thenQ_ret ?_
      replace h := some_eq h
      subst h
      exact ⟨.inr rfl, retOK_of [(.one (.c (.flt .f32 v11.bits)))] (by kernel_rfl) ⟨⟨rfl, tr⟩, tr⟩ (of_decide_eq_true (by kernel_rfl)), by kernel_rfl, ⟨⟨rfl, ⟨⟨rfl, rfl⟩, ⟨rfl, rfl⟩, ⟨rfl, rfl⟩, tr⟩⟩, tr⟩⟩
    · refine AW.cond_f rfl b8 ?_
      refine AW.seq (AW.rA ⟨[(0, (vp 0 0)), (10, (vc (.int .i64 v6.1))), (17, (vc (.bool (v6.1 == (1 : Int)))))], [(0, (.box [(.fx 0 0 (sl 1 (csI .u8) a0.code)), (.c (.int .i64 v6.2.1)), (.c (.int .u64 v6.2.2))]))]⟩ (T2 Tt) [] [0, 10, 17] [0] ⟨tr, tr, tr⟩ (thenQ_normal ?_))
      rcases ite2_cases h with ⟨b13, h⟩ | ⟨b13, h⟩
      · refine AW.cond_t rfl b13 ?_
        refine AW.seq ?_
        obtain ⟨v14, e15, h⟩ := bind_some h
        refine AW.rA ⟨[(0, (vp 0 0)), (3, (vc (.int .i64 (IntKind.i64.wrap (v14.1 * (65536 : Int))))))], [(0, (.box [(.fx 0 0 (sl 1 (csI .u8) a0.code)), (.c (.int .i64 v14.2.1)), (.c (.int .u64 v14.2.2))]))]⟩ (Tt ∧ ((((Eqc (sl 1 (csI .u8) a0.code)) ∧ (Eqc (.int .i64 v6.2.1)) ∧ (Eqc (.int .u64 v6.2.2)) ∧ Tt) ∧ (Eqc (.int .i64 (65536 : Int))) ∧ Tt) ∧ MutOK Try.prog 31 [(.box 3 (fun j => [true, false, false].getD j true) (fun j => (cs_l00Src (l00Src.mk a0.code v6.2.1 v6.2.2)).getD j .nilptr) (fun j => [.nilptr, (.int .i64 v14.2.1), (.int .u64 v14.2.2)].getD j .nilptr)), .one (.ro (.int .i64 (65536 : Int)))] [.one (.int .i64 v14.1)]) ∧ T2 Tt) [.no, .callM [(.box 3 (fun j => [true, false, false].getD j true) (fun j => (cs_l00Src (l00Src.mk a0.code v6.2.1 v6.2.2)).getD j .nilptr) (fun j => [.nilptr, (.int .i64 v14.2.1), (.int .u64 v14.2.2)].getD j .nilptr)), .one (.ro (.int .i64 (65536 : Int)))] [.one (.int .i64 v14.1)] [[.view]] none] [0, 3] [0] ⟨tr, ⟨⟨⟨rfl, rfl, rfl, tr⟩, rfl, tr⟩, ok_spec_l00Src_pick K (l00Src.mk a0.code v6.2.1 v6.2.2) (65536 : Int) v14 e15⟩, tr, tr, tr⟩ ?_
        refine thenQ_normal ?_
        refine AW.seq ?_
        obtain ⟨v16, e17, h⟩ := bind_some h
        obtain ⟨v18, e19, h⟩ := bind_some h
        refine AW.rA ⟨[(0, (vp 0 0)), (2, (vc (.flt .f32 v18.bits)))], [(0, (.box [(.fx 0 0 (sl 1 (csI .u8) a0.code)), (.c (.int .i64 v16.2.1)), (.c (.int .u64 v16.2.2))]))]⟩ (T2 (((((Eqc (sl 1 (csI .u8) a0.code)) ∧ (Eqc (.int .i64 v14.2.1)) ∧ (Eqc (.int .u64 v14.2.2)) ∧ Tt) ∧ (Eqc (.int .i64 (65536 : Int))) ∧ Tt) ∧ MutOK Try.prog 31 [(.box 3 (fun j => [true, false, false].getD j true) (fun j => (cs_l00Src (l00Src.mk a0.code v14.2.1 v14.2.2)).getD j .nilptr) (fun j => [.nilptr, (.int .i64 v16.2.1), (.int .u64 v16.2.2)].getD j .nilptr)), .one (.ro (.int .i64 (65536 : Int)))] [.one (.int .i64 v16.1)]) ∧ Tt ∧ (((((.int .i64 (IntKind.i64.wrap ((IntKind.i64.wrap (v14.1 * (65536 : Int))) + v16.1))) : C) = (.int .i64 (IntKind.i64.wrap ((IntKind.i64.wrap (v14.1 * (65536 : Int))) + v16.1)))) ∧ Tt) ∧ CallOK Try.prog 56 [.one (.int .i64 (IntKind.i64.wrap ((IntKind.i64.wrap (v14.1 * (65536 : Int))) + v16.1)))] [.one (.flt .f32 v18.bits)]) ∧ Tt ∧ Tt)) [.no, .no, .callM [(.box 3 (fun j => [true, false, false].getD j true) (fun j => (cs_l00Src (l00Src.mk a0.code v14.2.1 v14.2.2)).getD j .nilptr) (fun j => [.nilptr, (.int .i64 v16.2.1), (.int .u64 v16.2.2)].getD j .nilptr)), .one (.ro (.int .i64 (65536 : Int)))] [.one (.int .i64 v16.1)] [[.view]] none, .no, .call [.one (.int .i64 (IntKind.i64.wrap ((IntKind.i64.wrap (v14.1 * (65536 : Int))) + v16.1)))] [.one (.flt .f32 v18.bits)] [[.view]]] [0, 2] [0] ⟨tr, tr, ⟨⟨⟨rfl, rfl, rfl, tr⟩, rfl, tr⟩, ok_spec_l00Src_pick K (l00Src.mk a0.code v14.2.1 v14.2.2) (65536 : Int) v16 e17⟩, tr, ⟨⟨rfl, tr⟩, ok_spec_l01From K (IntKind.i64.wrap ((IntKind.i64.wrap (v14.1 * (65536 : Int))) + v16.1)) v18 e19⟩, tr, tr⟩ ?_
        refine thenQ_normal ?_
        refine AW.ret ?_
        refine blockQ_ret ?_
        refine thenQ_ret ?_
        replace h := some_eq h
        subst h
        exact ⟨.inr rfl, retOK_of [(.one (.c (.flt .f32 v18.bits)))] (by kernel_rfl) ⟨⟨rfl, tr⟩, tr⟩ (of_decide_eq_true (by kernel_rfl)), by kernel_rfl, ⟨⟨rfl, ⟨⟨rfl, rfl⟩, ⟨rfl, rfl⟩, ⟨rfl, rfl⟩, tr⟩⟩, tr⟩⟩
      · refine AW.cond_f rfl b13 ?_
        refine AW.seq (AW.rA ⟨[(0, (vp 0 0)), (27, (vc (.bool (v6.1 == (2 : Int)))))], [(0, (.box [(.fx 0 0 (sl 1 (csI .u8) a0.code)), (.c (.int .i64 v6.2.1)), (.c (.int .u64 v6.2.2))]))]⟩ (T2 Tt) [] [0, 27] [0] ⟨tr, tr, tr⟩ (thenQ_normal ?_))
        rcases ite2_cases h with ⟨b20, h⟩ | ⟨b20, h⟩
        · refine AW.cond_t rfl b20 ?_
          refine AW.seq ?_
          obtain ⟨v21, e22, h⟩ := bind_some h
          obtain ⟨v23, e24, h⟩ := bind_some h
          refine AW.rA ⟨[(0, (vp 0 0)), (2, (vc (.flt .f32 v23.bits)))], [(0, (.box [(.fx 0 0 (sl 1 (csI .u8) a0.code)), (.c (.int .i64 v21.2.1)), (.c (.int .u64 v21.2.2))]))]⟩ (Tt ∧ ((((Eqc (sl 1 (csI .u8) a0.code)) ∧ (Eqc (.int .i64 v6.2.1)) ∧ (Eqc (.int .u64 v6.2.2)) ∧ Tt) ∧ (Eqc (.int .i64 (65536 : Int))) ∧ Tt) ∧ MutOK Try.prog 31 [(.box 3 (fun j => [true, false, false].getD j true) (fun j => (cs_l00Src (l00Src.mk a0.code v6.2.1 v6.2.2)).getD j .nilptr) (fun j => [.nilptr, (.int .i64 v21.2.1), (.int .u64 v21.2.2)].getD j .nilptr)), .one (.ro (.int .i64 (65536 : Int)))] [.one (.int .i64 v21.1)]) ∧ Tt ∧ (((Eqc (.int .i64 (IntKind.i64.wrap (v21.1 * (65536 : Int))))) ∧ Tt) ∧ CallOK Try.prog 56 [.one (.int .i64 (IntKind.i64.wrap (v21.1 * (65536 : Int))))] [.one (.flt .f32 v23.bits)]) ∧ Tt ∧ Tt) [.no, .callM [(.box 3 (fun j => [true, false, false].getD j true) (fun j => (cs_l00Src (l00Src.mk a0.code v6.2.1 v6.2.2)).getD j .nilptr) (fun j => [.nilptr, (.int .i64 v21.2.1), (.int .u64 v21.2.2)].getD j .nilptr)), .one (.ro (.int .i64 (65536 : Int)))] [.one (.int .i64 v21.1)] [[.view]] none, .no, .call [.one (.int .i64 (IntKind.i64.wrap (v21.1 * (65536 : Int))))] [.one (.flt .f32 v23.bits)] [[.view]]] [0, 2] [0] ⟨tr, ⟨⟨⟨rfl, rfl, rfl, tr⟩, rfl, tr⟩, ok_spec_l00Src_pick K (l00Src.mk a0.code v6.2.1 v6.2.2) (65536 : Int) v21 e22⟩, tr, ⟨⟨rfl, tr⟩, ok_spec_l01From K (IntKind.i64.wrap (v21.1 * (65536 : Int))) v23 e24⟩, tr, tr⟩ ?_
          refine thenQ_normal ?_
          refine AW.ret ?_
          refine blockQ_ret ?_
          refine thenQ_ret ?_
          replace h := some_eq h
          subst h
          exact ⟨.inr rfl, retOK_of [(.one (.c (.flt .f32 v23.bits)))] (by kernel_rfl) ⟨⟨rfl, tr⟩, tr⟩ (of_decide_eq_true (by kernel_rfl)), by kernel_rfl, ⟨⟨rfl, ⟨⟨rfl, rfl⟩, ⟨rfl, rfl⟩, ⟨rfl, rfl⟩, tr⟩⟩, tr⟩⟩
        · refine AW.cond_f rfl b20 ?_
          refine AW.skip ?_
          refine blockQ_normal ?_
          refine thenQ_normal ?_
          refine AW.seq ?_
          obtain ⟨v25, e26, h⟩ := bind_some h
          obtain ⟨v27, e28, h⟩ := bind_some h
          obtain ⟨v29, e30, h⟩ := bind_some h
          refine AW.rA ⟨[(0, (vp 0 0)), (2, (vc (.flt .f32 (v25.1.mul v29).bits)))], [(0, (.box [(.fx 0 0 (sl 1 (csI .u8) a0.code)), (.c (.int .i64 v27.2.1)), (.c (.int .u64 v27.2.2))]))]⟩ (Tt ∧ ((((Eqc (sl 1 (csI .u8) a0.code)) ∧ (Eqc (.int .i64 v6.2.1)) ∧ (Eqc (.int .u64 v6.2.2)) ∧ Tt) ∧ Tt) ∧ MutOK Try.prog 55 [(.box 3 (fun j => [true, false, false].getD j true) (fun j => (cs_l00Src (l00Src.mk a0.code v6.2.1 v6.2.2)).getD j .nilptr) (fun j => [.nilptr, (.int .i64 v25.2.1), (.int .u64 v25.2.2)].getD j .nilptr))] [.one (.flt .f32 v25.1.bits)]) ∧ Tt ∧ (([(8388608 : Int), (2130706432 : Int), (1610612736 : Int), (536870912 : Int)]).length = 4 ∧ (((.int .i64 (8388608 : Int)) : C) = (.int .i64 (8388608 : Int)) ∧ Tt) ∧ (((.int .i64 (2130706432 : Int)) : C) = (.int .i64 (2130706432 : Int)) ∧ Tt) ∧ (((.int .i64 (1610612736 : Int)) : C) = (.int .i64 (1610612736 : Int)) ∧ Tt) ∧ (((.int .i64 (536870912 : Int)) : C) = (.int .i64 (536870912 : Int)) ∧ Tt) ∧ Tt) ∧ ((((Eqc (sl 1 (csI .u8) a0.code)) ∧ (Eqc (.int .i64 v25.2.1)) ∧ (Eqc (.int .u64 v25.2.2)) ∧ Tt) ∧ (Eqc (sl 1 (csI .i64) ([(8388608 : Int), (2130706432 : Int), (1610612736 : Int), (536870912 : Int)]))) ∧ Tt) ∧ MutOK Try.prog 57 [(.box 3 (fun j => [true, false, false].getD j true) (fun j => (cs_l00Src (l00Src.mk a0.code v25.2.1 v25.2.2)).getD j .nilptr) (fun j => [.nilptr, (.int .i64 v27.2.1), (.int .u64 v27.2.2)].getD j .nilptr)), .one (.ro (sl 1 (csI .i64) ([(8388608 : Int), (2130706432 : Int), (1610612736 : Int), (536870912 : Int)])))] [.one (.int .i64 v27.1)]) ∧ (((Eqc (.int .i64 v27.1)) ∧ Tt) ∧ CallOK Try.prog 56 [.one (.int .i64 v27.1)] [.one (.flt .f32 v29.bits)]) ∧ T2 Tt) [.no, .callM [(.box 3 (fun j => [true, false, false].getD j true) (fun j => (cs_l00Src (l00Src.mk a0.code v6.2.1 v6.2.2)).getD j .nilptr) (fun j => [.nilptr, (.int .i64 v25.2.1), (.int .u64 v25.2.2)].getD j .nilptr))] [.one (.flt .f32 v25.1.bits)] [[.view]] none, .no, .obj 2 ([(8388608 : Int), (2130706432 : Int), (1610612736 : Int), (536870912 : Int)]).length (gl (csI .i64) ([(8388608 : Int), (2130706432 : Int), (1610612736 : Int), (536870912 : Int)])), .callM [(.box 3 (fun j => [true, false, false].getD j true) (fun j => (cs_l00Src (l00Src.mk a0.code v25.2.1 v25.2.2)).getD j .nilptr) (fun j => [.nilptr, (.int .i64 v27.2.1), (.int .u64 v27.2.2)].getD j .nilptr)), .one (.ro (sl 1 (csI .i64) ([(8388608 : Int), (2130706432 : Int), (1610612736 : Int), (536870912 : Int)])))] [.one (.int .i64 v27.1)] [[.view]] none, .call [.one (.int .i64 v27.1)] [.one (.flt .f32 v29.bits)] [[.view]]] [0, 2] [0] ⟨tr, ⟨⟨⟨rfl, rfl, rfl, tr⟩, tr⟩, ok_spec_l01DrawPlain K (l00Src.mk a0.code v6.2.1 v6.2.2) v25 e26⟩, tr, ⟨rfl, ⟨⟨rfl, tr⟩, ⟨rfl, tr⟩, ⟨rfl, tr⟩, ⟨rfl, tr⟩, tr⟩⟩, ⟨⟨⟨rfl, rfl, rfl, tr⟩, rfl, tr⟩, ok_spec_l00Src_among K (l00Src.mk a0.code v25.2.1 v25.2.2) ([(8388608 : Int), (2130706432 : Int), (1610612736 : Int), (536870912 : Int)]) v27 e28⟩, ⟨⟨rfl, tr⟩, ok_spec_l01From K v27.1 v29 e30⟩, tr, tr, tr⟩ ?_
          refine thenQ_normal ?_
          refine AW.ret ?_
          replace h := some_eq h
          subst h
          exact ⟨.inr rfl, retOK_of [(.one (.c (.flt .f32 (v25.1.mul v29).bits)))] (by kernel_rfl) ⟨⟨rfl, tr⟩, tr⟩ (of_decide_eq_true (by kernel_rfl)), by kernel_rfl, ⟨⟨rfl, ⟨⟨rfl, rfl⟩, ⟨rfl, rfl⟩, ⟨rfl, rfl⟩, tr⟩⟩, tr⟩⟩

/-! spec.l01DrawVector -/
def spec_l01DrawVector (K : Nat) (a0 : l00Src) : Option (Vector × Int × Int) :=
  (spec_l00Src_one K a0 (10 : Int)).bind fun v1 => (spec_l01DrawSmall K (l00Src.mk a0.code v1.2.1 v1.2.2)).bind fun v3 => (spec_l01DrawSmall K (l00Src.mk a0.code v3.2.1 v3.2.2)).bind fun v5 => (spec_l01DrawSmall K (l00Src.mk a0.code v5.2.1 v5.2.2)).bind fun v7 => ite2 (v1.1) ((spec_l01DrawFloat K (l00Src.mk a0.code v7.2.1 v7.2.2)).bind fun v10 => some ((Vector.mk v3.1 v10.1 v7.1), v10.2.1, v10.2.2)) (some ((Vector.mk v3.1 v5.1 v7.1), v7.2.1, v7.2.2))

theorem ok_spec_l01DrawVector (K : Nat) (a0 : l00Src) (o : (Vector × Int × Int)) (h : spec_l01DrawVector K a0 = some o) : MutOK Try.prog 32 [(.box 3 (fun j => [true, false, false].getD j true) (fun j => (cs_l00Src a0).getD j .nilptr) (fun j => [.nilptr, (.int .i64 o.2.1), (.int .u64 o.2.2)].getD j .nilptr))] [.agg (cs_Vector o.1)] := by
  refine mutOK_of_AW 1 Try.func32 rfl (by kernel_rfl) (Nat.le_of_ble_eq_true (by kernel_rfl)) (by kernel_rfl) (by kernel_rfl) ?_
  intro w0 K0 v0 s0
  unfold spec_l01DrawVector at h
  refine AW.weak (s' := ⟨[(0, (vp 0 0))], [(0, (.box [(.fx 0 0 (sl 1 (csI .u8) a0.code)), (.c (.int .i64 a0.at_)), (.c (.int .u64 a0.seed))]))]⟩) (subUnfx 0 [1, 2] (by kernel_rfl)) ?_
  refine AW.seq (AW.rA ⟨[(0, (vp 0 0)), (2, (vp 1 0))], [(0, (.box [(.fx 0 0 (sl 1 (csI .u8) a0.code)), (.c (.int .i64 a0.at_)), (.c (.int .u64 a0.seed))])), (1, (.box [(.c (.flt .f32 (default : F32).bits)), (.c (.flt .f32 (default : F32).bits)), (.c (.flt .f32 (default : F32).bits))]))]⟩ (Tt ∧ Tt) [.box 1] [0, 2] [0, 1] ⟨tr, tr⟩ (thenQ_normal ?_))
  refine AW.seq ?_
  obtain ⟨v1, e2, h⟩ := bind_some h
  refine AW.rA ⟨[(0, (vp 0 0)), (2, (vp 1 0)), (3, (vc (.bool v1.1)))], [(0, (.box [(.fx 0 0 (sl 1 (csI .u8) a0.code)), (.c (.int .i64 v1.2.1)), (.c (.int .u64 v1.2.2))])), (1, (.box [(.c (.flt .f32 (default : F32).bits)), (.c (.flt .f32 (default : F32).bits)), (.c (.flt .f32 (default : F32).bits))]))]⟩ (Tt ∧ ((((Eqc (sl 1 (csI .u8) a0.code)) ∧ (Eqc (.int .i64 a0.at_)) ∧ (Eqc (.int .u64 a0.seed)) ∧ Tt) ∧ (Eqc (.int .i64 (10 : Int))) ∧ Tt) ∧ MutOK Try.prog 33 [(.box 3 (fun j => [true, false, false].getD j true) (fun j => (cs_l00Src a0).getD j .nilptr) (fun j => [.nilptr, (.int .i64 v1.2.1), (.int .u64 v1.2.2)].getD j .nilptr)), .one (.ro (.int .i64 (10 : Int)))] [.one (.bool v1.1)]) ∧ Tt ∧ Tt) [.no, .callM [(.box 3 (fun j => [true, false, false].getD j true) (fun j => (cs_l00Src a0).getD j .nilptr) (fun j => [.nilptr, (.int .i64 v1.2.1), (.int .u64 v1.2.2)].getD j .nilptr)), .one (.ro (.int .i64 (10 : Int)))] [.one (.bool v1.1)] [[.view]] none] [0, 2, 3] [0, 1] ⟨tr, ⟨⟨⟨rfl, rfl, rfl, tr⟩, rfl, tr⟩, ok_spec_l00Src_one K a0 (10 : Int) v1 e2⟩, tr, tr⟩ ?_
  refine thenQ_normal ?_
  refine AW.seq ?_
  obtain ⟨v3, e4, h⟩ := bind_some h
  refine AW.rA ⟨[(0, (vp 0 0)), (2, (vp 1 0)), (3, (vc (.bool v1.1))), (4, (vp 2 0))], [(0, (.box [(.fx 0 0 (sl 1 (csI .u8) a0.code)), (.c (.int .i64 v3.2.1)), (.c (.int .u64 v3.2.2))])), (1, (.box [(.c (.flt .f32 (default : F32).bits)), (.c (.flt .f32 (default : F32).bits)), (.c (.flt .f32 (default : F32).bits))])), (2, (.box [(.c (.flt .f32 v3.1.bits)), (.c (.flt .f32 (default : F32).bits)), (.c (.flt .f32 (default : F32).bits))]))]⟩ (Tt ∧ ((((Eqc (sl 1 (csI .u8) a0.code)) ∧ (Eqc (.int .i64 v1.2.1)) ∧ (Eqc (.int .u64 v1.2.2)) ∧ Tt) ∧ Tt) ∧ MutOK Try.prog 25 [(.box 3 (fun j => [true, false, false].getD j true) (fun j => (cs_l00Src (l00Src.mk a0.code v1.2.1 v1.2.2)).getD j .nilptr) (fun j => [.nilptr, (.int .i64 v3.2.1), (.int .u64 v3.2.2)].getD j .nilptr))] [.one (.flt .f32 v3.1.bits)]) ∧ Tt ∧ T2 Tt) [.no, .callM [(.box 3 (fun j => [true, false, false].getD j true) (fun j => (cs_l00Src (l00Src.mk a0.code v1.2.1 v1.2.2)).getD j .nilptr) (fun j => [.nilptr, (.int .i64 v3.2.1), (.int .u64 v3.2.2)].getD j .nilptr))] [.one (.flt .f32 v3.1.bits)] [[.view]] none, .no, .box 2] [0, 2, 3, 4] [0, 1, 2] ⟨tr, ⟨⟨⟨rfl, rfl, rfl, tr⟩, tr⟩, ok_spec_l01DrawSmall K (l00Src.mk a0.code v1.2.1 v1.2.2) v3 e4⟩, tr, tr, tr, tr⟩ ?_
  refine thenQ_normal ?_
  refine AW.seq ?_
  obtain ⟨v5, e6, h⟩ := bind_some h
  refine AW.rA ⟨[(0, (vp 0 0)), (2, (vp 1 0)), (3, (vc (.bool v1.1))), (4, (vp 2 0))], [(0, (.box [(.fx 0 0 (sl 1 (csI .u8) a0.code)), (.c (.int .i64 v5.2.1)), (.c (.int .u64 v5.2.2))])), (1, (.box [(.c (.flt .f32 (default : F32).bits)), (.c (.flt .f32 (default : F32).bits)), (.c (.flt .f32 (default : F32).bits))])), (2, (.box [(.c (.flt .f32 v3.1.bits)), (.c (.flt .f32 v5.1.bits)), (.c (.flt .f32 (default : F32).bits))]))]⟩ (Tt ∧ ((((Eqc (sl 1 (csI .u8) a0.code)) ∧ (Eqc (.int .i64 v3.2.1)) ∧ (Eqc (.int .u64 v3.2.2)) ∧ Tt) ∧ Tt) ∧ MutOK Try.prog 25 [(.box 3 (fun j => [true, false, false].getD j true) (fun j => (cs_l00Src (l00Src.mk a0.code v3.2.1 v3.2.2)).getD j .nilptr) (fun j => [.nilptr, (.int .i64 v5.2.1), (.int .u64 v5.2.2)].getD j .nilptr))] [.one (.flt .f32 v5.1.bits)]) ∧ T2 Tt) [.no, .callM [(.box 3 (fun j => [true, false, false].getD j true) (fun j => (cs_l00Src (l00Src.mk a0.code v3.2.1 v3.2.2)).getD j .nilptr) (fun j => [.nilptr, (.int .i64 v5.2.1), (.int .u64 v5.2.2)].getD j .nilptr))] [.one (.flt .f32 v5.1.bits)] [[.view]] none] [0, 2, 3, 4] [0, 1, 2] ⟨tr, ⟨⟨⟨rfl, rfl, rfl, tr⟩, tr⟩, ok_spec_l01DrawSmall K (l00Src.mk a0.code v3.2.1 v3.2.2) v5 e6⟩, tr, tr, tr⟩ ?_
  refine thenQ_normal ?_
  refine AW.seq ?_
  obtain ⟨v7, e8, h⟩ := bind_some h
  refine AW.rA ⟨[(0, (vp 0 0)), (2, (vp 1 0)), (3, (vc (.bool v1.1))), (4, (vp 2 0))], [(0, (.box [(.fx 0 0 (sl 1 (csI .u8) a0.code)), (.c (.int .i64 v7.2.1)), (.c (.int .u64 v7.2.2))])), (1, (.box [(.c (.flt .f32 (default : F32).bits)), (.c (.flt .f32 (default : F32).bits)), (.c (.flt .f32 (default : F32).bits))])), (2, (.box [(.c (.flt .f32 v3.1.bits)), (.c (.flt .f32 v5.1.bits)), (.c (.flt .f32 v7.1.bits))]))]⟩ (Tt ∧ ((((Eqc (sl 1 (csI .u8) a0.code)) ∧ (Eqc (.int .i64 v5.2.1)) ∧ (Eqc (.int .u64 v5.2.2)) ∧ Tt) ∧ Tt) ∧ MutOK Try.prog 25 [(.box 3 (fun j => [true, false, false].getD j true) (fun j => (cs_l00Src (l00Src.mk a0.code v5.2.1 v5.2.2)).getD j .nilptr) (fun j => [.nilptr, (.int .i64 v7.2.1), (.int .u64 v7.2.2)].getD j .nilptr))] [.one (.flt .f32 v7.1.bits)]) ∧ T2 Tt) [.no, .callM [(.box 3 (fun j => [true, false, false].getD j true) (fun j => (cs_l00Src (l00Src.mk a0.code v5.2.1 v5.2.2)).getD j .nilptr) (fun j => [.nilptr, (.int .i64 v7.2.1), (.int .u64 v7.2.2)].getD j .nilptr))] [.one (.flt .f32 v7.1.bits)] [[.view]] none] [0, 2, 3, 4] [0, 1, 2] ⟨tr, ⟨⟨⟨rfl, rfl, rfl, tr⟩, tr⟩, ok_spec_l01DrawSmall K (l00Src.mk a0.code v5.2.1 v5.2.2) v7 e8⟩, tr, tr, tr⟩ ?_
  refine thenQ_normal ?_
  refine AW.seq ?_
  refine AW.seq (AW.rA ⟨[(0, (vp 0 0)), (2, (vp 1 0)), (4, (vp 2 0)), (16, (vc (.bool v1.1)))], [(0, (.box [(.fx 0 0 (sl 1 (csI .u8) a0.code)), (.c (.int .i64 v7.2.1)), (.c (.int .u64 v7.2.2))])), (1, (.box [(.c (.flt .f32 (default : F32).bits)), (.c (.flt .f32 (default : F32).bits)), (.c (.flt .f32 (default : F32).bits))])), (2, (.box [(.c (.flt .f32 v3.1.bits)), (.c (.flt .f32 v5.1.bits)), (.c (.flt .f32 v7.1.bits))]))]⟩ (Tt ∧ Tt) [] [0, 2, 4, 16] [0, 1, 2] ⟨tr, tr⟩ (thenQ_normal ?_))
  rcases ite2_cases h with ⟨b9, h⟩ | ⟨b9, h⟩
  · refine AW.cond_t rfl b9 ?_
    obtain ⟨v10, e11, h⟩ := bind_some h
    refine AW.rA ⟨[(0, (vp 0 0)), (2, (vp 1 0)), (4, (vp 2 0))], [(0, (.box [(.fx 0 0 (sl 1 (csI .u8) a0.code)), (.c (.int .i64 v10.2.1)), (.c (.int .u64 v10.2.2))])), (1, (.box [(.c (.flt .f32 (default : F32).bits)), (.c (.flt .f32 (default : F32).bits)), (.c (.flt .f32 (default : F32).bits))])), (2, (.box [(.c (.flt .f32 v3.1.bits)), (.c (.flt .f32 v10.1.bits)), (.c (.flt .f32 v7.1.bits))]))]⟩ (Tt ∧ ((((Eqc (sl 1 (csI .u8) a0.code)) ∧ (Eqc (.int .i64 v7.2.1)) ∧ (Eqc (.int .u64 v7.2.2)) ∧ Tt) ∧ Tt) ∧ MutOK Try.prog 47 [(.box 3 (fun j => [true, false, false].getD j true) (fun j => (cs_l00Src (l00Src.mk a0.code v7.2.1 v7.2.2)).getD j .nilptr) (fun j => [.nilptr, (.int .i64 v10.2.1), (.int .u64 v10.2.2)].getD j .nilptr))] [.one (.flt .f32 v10.1.bits)]) ∧ T2 Tt) [.no, .callM [(.box 3 (fun j => [true, false, false].getD j true) (fun j => (cs_l00Src (l00Src.mk a0.code v7.2.1 v7.2.2)).getD j .nilptr) (fun j => [.nilptr, (.int .i64 v10.2.1), (.int .u64 v10.2.2)].getD j .nilptr))] [.one (.flt .f32 v10.1.bits)] [[.view]] none] [0, 2, 4] [0, 1, 2] ⟨tr, ⟨⟨⟨rfl, rfl, rfl, tr⟩, tr⟩, ok_spec_l01DrawFloat K (l00Src.mk a0.code v7.2.1 v7.2.2) v10 e11⟩, tr, tr, tr⟩ ?_
    refine thenQ_normal ?_
    refine AW.seq (AW.rA ⟨[(0, (vp 0 0)), (2, (vp 1 0))], [(0, (.box [(.fx 0 0 (sl 1 (csI .u8) a0.code)), (.c (.int .i64 v10.2.1)), (.c (.int .u64 v10.2.2))])), (1, (.box [(.c (.flt .f32 v3.1.bits)), (.c (.flt .f32 v10.1.bits)), (.c (.flt .f32 v7.1.bits))]))]⟩ (T2 Tt) [] [0, 2] [0, 1] ⟨tr, tr, tr⟩ (thenQ_normal ?_))
    refine AW.ret ?_
    replace h := some_eq h
    subst h
    exact ⟨.inr rfl, retOK_of [(.agg [(.c (.flt .f32 v3.1.bits)), (.c (.flt .f32 v10.1.bits)), (.c (.flt .f32 v7.1.bits))])] (by kernel_rfl) ⟨⟨⟨rfl, tr⟩, ⟨rfl, tr⟩, ⟨rfl, tr⟩, tr⟩, tr⟩ (of_decide_eq_true (by kernel_rfl)), by kernel_rfl, ⟨⟨rfl, ⟨⟨rfl, rfl⟩, ⟨rfl, rfl⟩, ⟨rfl, rfl⟩, tr⟩⟩, tr⟩⟩
  · refine AW.cond_f rfl b9 ?_
    refine AW.skip ?_
    refine thenQ_normal ?_
    refine AW.seq (AW.rA ⟨[(0, (vp 0 0)), (2, (vp 1 0))], [(0, (.box [(.fx 0 0 (sl 1 (csI .u8) a0.code)), (.c (.int .i64 v7.2.1)), (.c (.int .u64 v7.2.2))])), (1, (.box [(.c (.flt .f32 v3.1.bits)), (.c (.flt .f32 v5.1.bits)), (.c (.flt .f32 v7.1.bits))]))]⟩ (T2 Tt) [] [0, 2] [0, 1] ⟨tr, tr, tr⟩ (thenQ_normal ?_))
    refine AW.ret ?_
    replace h := some_eq h
    subst h
    exact ⟨.inr rfl, retOK_of [(.agg [(.c (.flt .f32 v3.1.bits)), (.c (.flt .f32 v5.1.bits)), (.c (.flt .f32 v7.1.bits))])] (by kernel_rfl) ⟨⟨⟨rfl, tr⟩, ⟨rfl, tr⟩, ⟨rfl, tr⟩, tr⟩, tr⟩ (of_decide_eq_true (by kernel_rfl)), by kernel_rfl, ⟨⟨rfl, ⟨⟨rfl, rfl⟩, ⟨rfl, rfl⟩, ⟨rfl, rfl⟩, tr⟩⟩, tr⟩⟩

/-! spec.l04DrawLength -/
def spec_l04DrawLength (K : Nat) (a0 : l00Src) : Option (F32 × Int × Int) :=
  (spec_l00Src_one K a0 (12 : Int)).bind fun v1 => ite2 (v1.1) ((spec_l01DrawFloat K (l00Src.mk a0.code v1.2.1 v1.2.2)).bind fun v4 => some (v4.1, v4.2.1, v4.2.2)) ((spec_l00Src_pick K (l00Src.mk a0.code v1.2.1 v1.2.2) (24 : Int)).bind fun v6 => some (((Fl.ofInt .f32 (IntKind.i64.wrap ((1 : Int) + v6.1))).div (Fl.mk (k := .f32) 1082130432 (by decide))), v6.2.1, v6.2.2))

theorem ok_spec_l04DrawLength (K : Nat) (a0 : l00Src) (o : (F32 × Int × Int)) (h : spec_l04DrawLength K a0 = some o) : MutOK Try.prog 34 [(.box 3 (fun j => [true, false, false].getD j true) (fun j => (cs_l00Src a0).getD j .nilptr) (fun j => [.nilptr, (.int .i64 o.2.1), (.int .u64 o.2.2)].getD j .nilptr))] [.one (.flt .f32 o.1.bits)] := by
  refine mutOK_of_AW 1 Try.func34 rfl (by kernel_rfl) (Nat.le_of_ble_eq_true (by kernel_rfl)) (by kernel_rfl) (by kernel_rfl) ?_
  intro w0 K0 v0 s0
  unfold spec_l04DrawLength at h
  refine AW.weak (s' := ⟨[(0, (vp 0 0))], [(0, (.box [(.fx 0 0 (sl 1 (csI .u8) a0.code)), (.c (.int .i64 a0.at_)), (.c (.int .u64 a0.seed))]))]⟩) (subUnfx 0 [1, 2] (by kernel_rfl)) ?_
  refine AW.seq (AW.rA ⟨[(0, (vp 0 0))], [(0, (.box [(.fx 0 0 (sl 1 (csI .u8) a0.code)), (.c (.int .i64 a0.at_)), (.c (.int .u64 a0.seed))]))]⟩ (Tt ∧ Tt) [] [0] [0] ⟨tr, tr⟩ (thenQ_normal ?_))
  refine AW.seq ?_
  refine AW.seq ?_
  obtain ⟨v1, e2, h⟩ := bind_some h
  refine AW.rA ⟨[(0, (vp 0 0)), (4, (vc (.bool v1.1)))], [(0, (.box [(.fx 0 0 (sl 1 (csI .u8) a0.code)), (.c (.int .i64 v1.2.1)), (.c (.int .u64 v1.2.2))]))]⟩ (Tt ∧ ((((Eqc (sl 1 (csI .u8) a0.code)) ∧ (Eqc (.int .i64 a0.at_)) ∧ (Eqc (.int .u64 a0.seed)) ∧ Tt) ∧ (Eqc (.int .i64 (12 : Int))) ∧ Tt) ∧ MutOK Try.prog 33 [(.box 3 (fun j => [true, false, false].getD j true) (fun j => (cs_l00Src a0).getD j .nilptr) (fun j => [.nilptr, (.int .i64 v1.2.1), (.int .u64 v1.2.2)].getD j .nilptr)), .one (.ro (.int .i64 (12 : Int)))] [.one (.bool v1.1)]) ∧ Tt) [.no, .callM [(.box 3 (fun j => [true, false, false].getD j true) (fun j => (cs_l00Src a0).getD j .nilptr) (fun j => [.nilptr, (.int .i64 v1.2.1), (.int .u64 v1.2.2)].getD j .nilptr)), .one (.ro (.int .i64 (12 : Int)))] [.one (.bool v1.1)] [[.view]] none] [0, 4] [0] ⟨tr, ⟨⟨⟨rfl, rfl, rfl, tr⟩, rfl, tr⟩, ok_spec_l00Src_one K a0 (12 : Int) v1 e2⟩, tr⟩ ?_
  refine thenQ_normal ?_
  rcases ite2_cases h with ⟨b3, h⟩ | ⟨b3, h⟩
  · refine AW.cond_t rfl b3 ?_
    refine AW.seq ?_
    obtain ⟨v4, e5, h⟩ := bind_some h
    refine AW.rA ⟨[(0, (vp 0 0)), (2, (vc (.flt .f32 v4.1.bits)))], [(0, (.box [(.fx 0 0 (sl 1 (csI .u8) a0.code)), (.c (.int .i64 v4.2.1)), (.c (.int .u64 v4.2.2))]))]⟩ (Tt ∧ ((((Eqc (sl 1 (csI .u8) a0.code)) ∧ (Eqc (.int .i64 v1.2.1)) ∧ (Eqc (.int .u64 v1.2.2)) ∧ Tt) ∧ Tt) ∧ MutOK Try.prog 47 [(.box 3 (fun j => [true, false, false].getD j true) (fun j => (cs_l00Src (l00Src.mk a0.code v1.2.1 v1.2.2)).getD j .nilptr) (fun j => [.nilptr, (.int .i64 v4.2.1), (.int .u64 v4.2.2)].getD j .nilptr))] [.one (.flt .f32 v4.1.bits)]) ∧ Tt ∧ Tt) [.no, .callM [(.box 3 (fun j => [true, false, false].getD j true) (fun j => (cs_l00Src (l00Src.mk a0.code v1.2.1 v1.2.2)).getD j .nilptr) (fun j => [.nilptr, (.int .i64 v4.2.1), (.int .u64 v4.2.2)].getD j .nilptr))] [.one (.flt .f32 v4.1.bits)] [[.view]] none] [0, 2] [0] ⟨tr, ⟨⟨⟨rfl, rfl, rfl, tr⟩, tr⟩, ok_spec_l01DrawFloat K (l00Src.mk a0.code v1.2.1 v1.2.2) v4 e5⟩, tr, tr⟩ ?_
    refine thenQ_normal ?_
    refine AW.ret ?_
    refine thenQ_ret ?_
    replace h := some_eq h
    subst h
    exact ⟨.inr rfl, retOK_of [(.one (.c (.flt .f32 v4.1.bits)))] (by kernel_rfl) ⟨⟨rfl, tr⟩, tr⟩ (of_decide_eq_true (by kernel_rfl)), by kernel_rfl, ⟨⟨rfl, ⟨⟨rfl, rfl⟩, ⟨rfl, rfl⟩, ⟨rfl, rfl⟩, tr⟩⟩, tr⟩⟩
  · refine AW.cond_f rfl b3 ?_
    refine AW.skip ?_
    refine thenQ_normal ?_
    refine AW.seq ?_
    obtain ⟨v6, e7, h⟩ := bind_some h
    refine AW.rA ⟨[(0, (vp 0 0)), (2, (vc (.flt .f32 ((Fl.ofInt .f32 (IntKind.i64.wrap ((1 : Int) + v6.1))).div (Fl.mk (k := .f32) 1082130432 (by decide))).bits)))], [(0, (.box [(.fx 0 0 (sl 1 (csI .u8) a0.code)), (.c (.int .i64 v6.2.1)), (.c (.int .u64 v6.2.2))]))]⟩ (Tt ∧ ((((Eqc (sl 1 (csI .u8) a0.code)) ∧ (Eqc (.int .i64 v1.2.1)) ∧ (Eqc (.int .u64 v1.2.2)) ∧ Tt) ∧ (Eqc (.int .i64 (24 : Int))) ∧ Tt) ∧ MutOK Try.prog 31 [(.box 3 (fun j => [true, false, false].getD j true) (fun j => (cs_l00Src (l00Src.mk a0.code v1.2.1 v1.2.2)).getD j .nilptr) (fun j => [.nilptr, (.int .i64 v6.2.1), (.int .u64 v6.2.2)].getD j .nilptr)), .one (.ro (.int .i64 (24 : Int)))] [.one (.int .i64 v6.1)]) ∧ T4 Tt) [.no, .callM [(.box 3 (fun j => [true, false, false].getD j true) (fun j => (cs_l00Src (l00Src.mk a0.code v1.2.1 v1.2.2)).getD j .nilptr) (fun j => [.nilptr, (.int .i64 v6.2.1), (.int .u64 v6.2.2)].getD j .nilptr)), .one (.ro (.int .i64 (24 : Int)))] [.one (.int .i64 v6.1)] [[.view]] none] [0, 2] [0] ⟨tr, ⟨⟨⟨rfl, rfl, rfl, tr⟩, rfl, tr⟩, ok_spec_l00Src_pick K (l00Src.mk a0.code v1.2.1 v1.2.2) (24 : Int) v6 e7⟩, tr, tr, tr, tr, tr⟩ ?_
    refine thenQ_normal ?_
    refine AW.ret ?_
    replace h := some_eq h
    subst h
    exact ⟨.inr rfl, retOK_of [(.one (.c (.flt .f32 ((Fl.ofInt .f32 (IntKind.i64.wrap ((1 : Int) + v6.1))).div (Fl.mk (k := .f32) 1082130432 (by decide))).bits)))] (by kernel_rfl) ⟨⟨rfl, tr⟩, tr⟩ (of_decide_eq_true (by kernel_rfl)), by kernel_rfl, ⟨⟨rfl, ⟨⟨rfl, rfl⟩, ⟨rfl, rfl⟩, ⟨rfl, rfl⟩, tr⟩⟩, tr⟩⟩

/-! spec.l02DrawShare -/
def spec_l02DrawShare (K : Nat) (a0 : l00Src) : Option (F32 × Int × Int) :=
  (spec_l00Src_one K a0 (10 : Int)).bind fun v1 => ite2 (v1.1) ((spec_l01DrawFloat K (l00Src.mk a0.code v1.2.1 v1.2.2)).bind fun v4 => some (v4.1, v4.2.1, v4.2.2)) ((spec_l00Src_pick K (l00Src.mk a0.code v1.2.1 v1.2.2) (17 : Int)).bind fun v6 => some (((Fl.ofInt .f32 v6.1).div (Fl.mk (k := .f32) 1098907648 (by decide))), v6.2.1, v6.2.2))

theorem ok_spec_l02DrawShare (K : Nat) (a0 : l00Src) (o : (F32 × Int × Int)) (h : spec_l02DrawShare K a0 = some o) : MutOK Try.prog 35 [(.box 3 (fun j => [true, false, false].getD j true) (fun j => (cs_l00Src a0).getD j .nilptr) (fun j => [.nilptr, (.int .i64 o.2.1), (.int .u64 o.2.2)].getD j .nilptr))] [.one (.flt .f32 o.1.bits)] := by
  refine mutOK_of_AW 1 Try.func35 rfl (by kernel_rfl) (Nat.le_of_ble_eq_true (by kernel_rfl)) (by kernel_rfl) (by kernel_rfl) ?_
  intro w0 K0 v0 s0
  unfold spec_l02DrawShare at h
  refine AW.weak (s' := ⟨[(0, (vp 0 0))], [(0, (.box [(.fx 0 0 (sl 1 (csI .u8) a0.code)), (.c (.int .i64 a0.at_)), (.c (.int .u64 a0.seed))]))]⟩) (subUnfx 0 [1, 2] (by kernel_rfl)) ?_
  refine AW.seq (AW.rA ⟨[(0, (vp 0 0))], [(0, (.box [(.fx 0 0 (sl 1 (csI .u8) a0.code)), (.c (.int .i64 a0.at_)), (.c (.int .u64 a0.seed))]))]⟩ (Tt ∧ Tt) [] [0] [0] ⟨tr, tr⟩ (thenQ_normal ?_))
  refine AW.seq ?_
  refine AW.seq ?_
  obtain ⟨v1, e2, h⟩ := bind_some h
  refine AW.rA ⟨[(0, (vp 0 0)), (4, (vc (.bool v1.1)))], [(0, (.box [(.fx 0 0 (sl 1 (csI .u8) a0.code)), (.c (.int .i64 v1.2.1)), (.c (.int .u64 v1.2.2))]))]⟩ (Tt ∧ ((((Eqc (sl 1 (csI .u8) a0.code)) ∧ (Eqc (.int .i64 a0.at_)) ∧ (Eqc (.int .u64 a0.seed)) ∧ Tt) ∧ (Eqc (.int .i64 (10 : Int))) ∧ Tt) ∧ MutOK Try.prog 33 [(.box 3 (fun j => [true, false, false].getD j true) (fun j => (cs_l00Src a0).getD j .nilptr) (fun j => [.nilptr, (.int .i64 v1.2.1), (.int .u64 v1.2.2)].getD j .nilptr)), .one (.ro (.int .i64 (10 : Int)))] [.one (.bool v1.1)]) ∧ Tt) [.no, .callM [(.box 3 (fun j => [true, false, false].getD j true) (fun j => (cs_l00Src a0).getD j .nilptr) (fun j => [.nilptr, (.int .i64 v1.2.1), (.int .u64 v1.2.2)].getD j .nilptr)), .one (.ro (.int .i64 (10 : Int)))] [.one (.bool v1.1)] [[.view]] none] [0, 4] [0] ⟨tr, ⟨⟨⟨rfl, rfl, rfl, tr⟩, rfl, tr⟩, ok_spec_l00Src_one K a0 (10 : Int) v1 e2⟩, tr⟩ ?_
  refine thenQ_normal ?_
  rcases ite2_cases h with ⟨b3, h⟩ | ⟨b3, h⟩
  · refine AW.cond_t rfl b3 ?_
    refine AW.seq ?_
    obtain ⟨v4, e5, h⟩ := bind_some h
    refine AW.rA ⟨[(0, (vp 0 0)), (2, (vc (.flt .f32 v4.1.bits)))], [(0, (.box [(.fx 0 0 (sl 1 (csI .u8) a0.code)), (.c (.int .i64 v4.2.1)), (.c (.int .u64 v4.2.2))]))]⟩ (Tt ∧ ((((Eqc (sl 1 (csI .u8) a0.code)) ∧ (Eqc (.int .i64 v1.2.1)) ∧ (Eqc (.int .u64 v1.2.2)) ∧ Tt) ∧ Tt) ∧ MutOK Try.prog 47 [(.box 3 (fun j => [true, false, false].getD j true) (fun j => (cs_l00Src (l00Src.mk a0.code v1.2.1 v1.2.2)).getD j .nilptr) (fun j => [.nilptr, (.int .i64 v4.2.1), (.int .u64 v4.2.2)].getD j .nilptr))] [.one (.flt .f32 v4.1.bits)]) ∧ Tt ∧ Tt) [.no, .callM [(.box 3 (fun j => [true, false, false].getD j true) (fun j => (cs_l00Src (l00Src.mk a0.code v1.2.1 v1.2.2)).getD j .nilptr) (fun j => [.nilptr, (.int .i64 v4.2.1), (.int .u64 v4.2.2)].getD j .nilptr))] [.one (.flt .f32 v4.1.bits)] [[.view]] none] [0, 2] [0] ⟨tr, ⟨⟨⟨rfl, rfl, rfl, tr⟩, tr⟩, ok_spec_l01DrawFloat K (l00Src.mk a0.code v1.2.1 v1.2.2) v4 e5⟩, tr, tr⟩ ?_
    refine thenQ_normal ?_
    refine AW.ret ?_
    refine thenQ_ret ?_
    replace h := some_eq h
    subst h
    exact ⟨.inr rfl, retOK_of [(.one (.c (.flt .f32 v4.1.bits)))] (by kernel_rfl) ⟨⟨rfl, tr⟩, tr⟩ (of_decide_eq_true (by kernel_rfl)), by kernel_rfl, ⟨⟨rfl, ⟨⟨rfl, rfl⟩, ⟨rfl, rfl⟩, ⟨rfl, rfl⟩, tr⟩⟩, tr⟩⟩
  · refine AW.cond_f rfl b3 ?_
    refine AW.skip ?_
    refine thenQ_normal ?_
    refine AW.seq ?_
    obtain ⟨v6, e7, h⟩ := bind_some h
    refine AW.rA ⟨[(0, (vp 0 0)), (2, (vc (.flt .f32 ((Fl.ofInt .f32 v6.1).div (Fl.mk (k := .f32) 1098907648 (by decide))).bits)))], [(0, (.box [(.fx 0 0 (sl 1 (csI .u8) a0.code)), (.c (.int .i64 v6.2.1)), (.c (.int .u64 v6.2.2))]))]⟩ (Tt ∧ ((((Eqc (sl 1 (csI .u8) a0.code)) ∧ (Eqc (.int .i64 v1.2.1)) ∧ (Eqc (.int .u64 v1.2.2)) ∧ Tt) ∧ (Eqc (.int .i64 (17 : Int))) ∧ Tt) ∧ MutOK Try.prog 31 [(.box 3 (fun j => [true, false, false].getD j true) (fun j => (cs_l00Src (l00Src.mk a0.code v1.2.1 v1.2.2)).getD j .nilptr) (fun j => [.nilptr, (.int .i64 v6.2.1), (.int .u64 v6.2.2)].getD j .nilptr)), .one (.ro (.int .i64 (17 : Int)))] [.one (.int .i64 v6.1)]) ∧ Tt ∧ T2 Tt) [.no, .callM [(.box 3 (fun j => [true, false, false].getD j true) (fun j => (cs_l00Src (l00Src.mk a0.code v1.2.1 v1.2.2)).getD j .nilptr) (fun j => [.nilptr, (.int .i64 v6.2.1), (.int .u64 v6.2.2)].getD j .nilptr)), .one (.ro (.int .i64 (17 : Int)))] [.one (.int .i64 v6.1)] [[.view]] none] [0, 2] [0] ⟨tr, ⟨⟨⟨rfl, rfl, rfl, tr⟩, rfl, tr⟩, ok_spec_l00Src_pick K (l00Src.mk a0.code v1.2.1 v1.2.2) (17 : Int) v6 e7⟩, tr, tr, tr, tr⟩ ?_
    refine thenQ_normal ?_
    refine AW.ret ?_
    replace h := some_eq h
    subst h
    exact ⟨.inr rfl, retOK_of [(.one (.c (.flt .f32 ((Fl.ofInt .f32 v6.1).div (Fl.mk (k := .f32) 1098907648 (by decide))).bits)))] (by kernel_rfl) ⟨⟨rfl, tr⟩, tr⟩ (of_decide_eq_true (by kernel_rfl)), by kernel_rfl, ⟨⟨rfl, ⟨⟨rfl, rfl⟩, ⟨rfl, rfl⟩, ⟨rfl, rfl⟩, tr⟩⟩, tr⟩⟩

/-! spec.l08DrawOk -/
def Zt1 (Q0 Q1 Q2 : Prop) : Prop := (Q0 ∧ (Q1 ∧ (Q2 ∧ (Tt ∧ (Tt ∧ Tt)))))
theorem zt1 {Q0 Q1 Q2 : Prop} (q0 : Q0) (q1 : Q1) (q2 : Q2) : Zt1 Q0 Q1 Q2 := ⟨q0, ⟨q1, ⟨q2, ⟨tr, ⟨tr, tr⟩⟩⟩⟩⟩
def Zt2 (QE Q1 Q2 : Prop) : Prop := ((Tt ∧ (Q1 ∧ (Q2 ∧ (Tt ∧ (Tt ∧ Tt))))) ∧ (Q1 ∧ (Tt ∧ (Q2 ∧ (Tt ∧ (Tt ∧ Tt))))) ∧ QE)
theorem zt2 {QE Q1 Q2 : Prop} (qe : QE) (q1 : Q1) (q2 : Q2) : Zt2 QE Q1 Q2 := ⟨⟨tr, ⟨q1, ⟨q2, ⟨tr, ⟨tr, tr⟩⟩⟩⟩⟩, ⟨q1, ⟨tr, ⟨q2, ⟨tr, ⟨tr, tr⟩⟩⟩⟩⟩, qe⟩
def Zt3 (QE Q0 Q1 Q2 : Prop) : Prop := ((Tt ∧ (Zt1 Q0 Q1 Q2)) ∧ (Q0 ∧ (Zt2 QE Q1 Q2)) ∧ QE)
theorem zt3 {QE Q0 Q1 Q2 : Prop} (qe : QE) (q0 : Q0) (q1 : Q1) (q2 : Q2) : Zt3 QE Q0 Q1 Q2 := ⟨⟨tr, (zt1 q0 q1 q2)⟩, ⟨q0, (zt2 qe q1 q2)⟩, qe⟩
def spec_l08DrawOk_l1 (K : Nat) (a0 : l00Src) (v1 : (Int × Int × Int)) (v3 : (Int × Int × Int)) : Nat → Int → Int → Int → (List Vector) → (List Vector) → (List Bool) → (List F32) → Option (String × Int × Int)
  | 0, _, _, _, _, _, _, _ => none
  | k + 1, x12, x13, x14, x15, x16, x17, x18 => ite2 ((decide (x12 < (IntKind.i64.wrap ((2 : Int) + v3.1))))) ((spec_l01DrawVector K (l00Src.mk a0.code x13 x14)).bind fun v20 => chk ((x15.length + ([v20.1]).length) * 12 ≤ 140737488355328) ((spec_l00Src_one K (l00Src.mk a0.code v20.2.1 v20.2.2) (2 : Int)).bind fun v23 => ite2 (v23.1) ((spec_l01DrawVector K (l00Src.mk a0.code v23.2.1 v23.2.2)).bind fun v26 => chk ((x16.length + ([v26.1]).length) * 12 ≤ 140737488355328) ((spec_l00Src_one K (l00Src.mk a0.code v26.2.1 v26.2.2) (3 : Int)).bind fun v29 => chk ((x17.length + ([v29.1]).length) * 1 ≤ 140737488355328) (ite2 ((decide (x12 > (0 : Int)))) ((spec_l04DrawLength K (l00Src.mk a0.code v29.2.1 v29.2.2)).bind fun v33 => chk ((x18.length + ([v33.1]).length) * 4 ≤ 140737488355328) (spec_l08DrawOk_l1 K a0 v1 v3 k (IntKind.i64.wrap (x12 + (1 : Int))) v33.2.1 v33.2.2 (x15 ++ ([v20.1])) (x16 ++ ([v26.1])) (x17 ++ ([v29.1])) (x18 ++ ([v33.1])))) (spec_l08DrawOk_l1 K a0 v1 v3 k (IntKind.i64.wrap (x12 + (1 : Int))) v29.2.1 v29.2.2 (x15 ++ ([v20.1])) (x16 ++ ([v26.1])) (x17 ++ ([v29.1])) x18)))) (chk ((x16.length + ([v20.1]).length) * 12 ≤ 140737488355328) ((spec_l00Src_one K (l00Src.mk a0.code v23.2.1 v23.2.2) (3 : Int)).bind fun v37 => chk ((x17.length + ([v37.1]).length) * 1 ≤ 140737488355328) (ite2 ((decide (x12 > (0 : Int)))) ((spec_l04DrawLength K (l00Src.mk a0.code v37.2.1 v37.2.2)).bind fun v41 => chk ((x18.length + ([v41.1]).length) * 4 ≤ 140737488355328) (spec_l08DrawOk_l1 K a0 v1 v3 k (IntKind.i64.wrap (x12 + (1 : Int))) v41.2.1 v41.2.2 (x15 ++ ([v20.1])) (x16 ++ ([v20.1])) (x17 ++ ([v37.1])) (x18 ++ ([v41.1])))) (spec_l08DrawOk_l1 K a0 v1 v3 k (IntKind.i64.wrap (x12 + (1 : Int))) v37.2.1 v37.2.2 (x15 ++ ([v20.1])) (x16 ++ ([v20.1])) (x17 ++ ([v37.1])) x18)))))) ((spec_l00Src_one K (l00Src.mk a0.code x13 x14) (2 : Int)).bind fun v44 => ite2 (v44.1) ((spec_l01DrawVector K (l00Src.mk a0.code v44.2.1 v44.2.2)).bind fun v47 => (spec_l02DrawShare K (l00Src.mk a0.code v47.2.1 v47.2.2)).bind fun v49 => some ((String.mk x15 x16 x17 x18 v47.1 v49.1 v1.1), v49.2.1, v49.2.2)) ((spec_l02DrawShare K (l00Src.mk a0.code v44.2.1 v44.2.2)).bind fun v51 => some ((String.mk x15 x16 x17 x18 (Vector.mk (default : F32) (default : F32) (default : F32)) v51.1 v1.1), v51.2.1, v51.2.2)))

def spec_l08DrawOk (K : Nat) (a0 : l00Src) : Option (String × Int × Int) :=
  (spec_l00Src_pick K a0 (4 : Int)).bind fun v1 => (spec_l00Src_pick K (l00Src.mk a0.code v1.2.1 v1.2.2) (4 : Int)).bind fun v3 => spec_l08DrawOk_l1 K a0 v1 v3 K (0 : Int) v3.2.1 v3.2.2 ([] : (List Vector)) ([] : (List Vector)) ([] : (List Bool)) ([] : (List F32))

theorem ok_spec_l08DrawOk (K : Nat) (a0 : l00Src) (o : (String × Int × Int)) (h : spec_l08DrawOk K a0 = some o) : MutOK Try.prog 16 [(.box 3 (fun j => [true, false, false].getD j true) (fun j => (cs_l00Src a0).getD j .nilptr) (fun j => [.nilptr, (.int .i64 o.2.1), (.int .u64 o.2.2)].getD j .nilptr))] [.agg (cs_String o.1)] := by
  refine mutOK_of_AW 1 Try.func16 rfl (by kernel_rfl) (Nat.le_of_ble_eq_true (by kernel_rfl)) (by kernel_rfl) (by kernel_rfl) ?_
  intro w0 K0 v0 s0
  unfold spec_l08DrawOk at h
  refine AW.weak (s' := ⟨[(0, (vp 0 0))], [(0, (.box [(.fx 0 0 (sl 1 (csI .u8) a0.code)), (.c (.int .i64 a0.at_)), (.c (.int .u64 a0.seed))]))]⟩) (subUnfx 0 [1, 2] (by kernel_rfl)) ?_
  refine AW.seq (AW.rA ⟨[(0, (vp 0 0)), (2, (vp 1 0))], [(0, (.box [(.fx 0 0 (sl 1 (csI .u8) a0.code)), (.c (.int .i64 a0.at_)), (.c (.int .u64 a0.seed))])), (1, (.box [.nils, .nils, .nils, .nils, (.c (.flt .f32 (default : F32).bits)), (.c (.flt .f32 (default : F32).bits)), (.c (.flt .f32 (default : F32).bits)), (.c (.flt .f32 (default : F32).bits)), (.c (.int .i64 (0 : Int)))]))]⟩ (Tt ∧ Tt) [.box 1] [0, 2] [0, 1] ⟨tr, tr⟩ (thenQ_normal ?_))
  refine AW.seq ?_
  obtain ⟨v1, e2, h⟩ := bind_some h
  refine AW.rA ⟨[(0, (vp 0 0)), (2, (vp 1 0)), (3, (vp 2 0))], [(0, (.box [(.fx 0 0 (sl 1 (csI .u8) a0.code)), (.c (.int .i64 v1.2.1)), (.c (.int .u64 v1.2.2))])), (1, (.box [.nils, .nils, .nils, .nils, (.c (.flt .f32 (default : F32).bits)), (.c (.flt .f32 (default : F32).bits)), (.c (.flt .f32 (default : F32).bits)), (.c (.flt .f32 (default : F32).bits)), (.c (.int .i64 (0 : Int)))])), (2, (.box [.nils, .nils, .nils, .nils, (.c (.flt .f32 (default : F32).bits)), (.c (.flt .f32 (default : F32).bits)), (.c (.flt .f32 (default : F32).bits)), (.c (.flt .f32 (default : F32).bits)), (.c (.int .i64 v1.1))]))]⟩ (Tt ∧ ((((Eqc (sl 1 (csI .u8) a0.code)) ∧ (Eqc (.int .i64 a0.at_)) ∧ (Eqc (.int .u64 a0.seed)) ∧ Tt) ∧ (Eqc (.int .i64 (4 : Int))) ∧ Tt) ∧ MutOK Try.prog 31 [(.box 3 (fun j => [true, false, false].getD j true) (fun j => (cs_l00Src a0).getD j .nilptr) (fun j => [.nilptr, (.int .i64 v1.2.1), (.int .u64 v1.2.2)].getD j .nilptr)), .one (.ro (.int .i64 (4 : Int)))] [.one (.int .i64 v1.1)]) ∧ Tt ∧ T2 Tt) [.no, .callM [(.box 3 (fun j => [true, false, false].getD j true) (fun j => (cs_l00Src a0).getD j .nilptr) (fun j => [.nilptr, (.int .i64 v1.2.1), (.int .u64 v1.2.2)].getD j .nilptr)), .one (.ro (.int .i64 (4 : Int)))] [.one (.int .i64 v1.1)] [[.view]] none, .no, .box 2] [0, 2, 3] [0, 1, 2] ⟨tr, ⟨⟨⟨rfl, rfl, rfl, tr⟩, rfl, tr⟩, ok_spec_l00Src_pick K a0 (4 : Int) v1 e2⟩, tr, tr, tr, tr⟩ ?_
  refine thenQ_normal ?_
  refine AW.seq ?_
  obtain ⟨v3, e4, h⟩ := bind_some h
  refine AW.rA ⟨[(0, (vp 0 0)), (2, (vp 1 0)), (3, (vp 2 0)), (4, (vc (.int .i64 (IntKind.i64.wrap ((2 : Int) + v3.1)))))], [(0, (.box [(.fx 0 0 (sl 1 (csI .u8) a0.code)), (.c (.int .i64 v3.2.1)), (.c (.int .u64 v3.2.2))])), (1, (.box [.nils, .nils, .nils, .nils, (.c (.flt .f32 (default : F32).bits)), (.c (.flt .f32 (default : F32).bits)), (.c (.flt .f32 (default : F32).bits)), (.c (.flt .f32 (default : F32).bits)), (.c (.int .i64 (0 : Int)))])), (2, (.box [.nils, .nils, .nils, .nils, (.c (.flt .f32 (default : F32).bits)), (.c (.flt .f32 (default : F32).bits)), (.c (.flt .f32 (default : F32).bits)), (.c (.flt .f32 (default : F32).bits)), (.c (.int .i64 v1.1))]))]⟩ (Tt ∧ ((((Eqc (sl 1 (csI .u8) a0.code)) ∧ (Eqc (.int .i64 v1.2.1)) ∧ (Eqc (.int .u64 v1.2.2)) ∧ Tt) ∧ (Eqc (.int .i64 (4 : Int))) ∧ Tt) ∧ MutOK Try.prog 31 [(.box 3 (fun j => [true, false, false].getD j true) (fun j => (cs_l00Src (l00Src.mk a0.code v1.2.1 v1.2.2)).getD j .nilptr) (fun j => [.nilptr, (.int .i64 v3.2.1), (.int .u64 v3.2.2)].getD j .nilptr)), .one (.ro (.int .i64 (4 : Int)))] [.one (.int .i64 v3.1)]) ∧ T2 Tt) [.no, .callM [(.box 3 (fun j => [true, false, false].getD j true) (fun j => (cs_l00Src (l00Src.mk a0.code v1.2.1 v1.2.2)).getD j .nilptr) (fun j => [.nilptr, (.int .i64 v3.2.1), (.int .u64 v3.2.2)].getD j .nilptr)), .one (.ro (.int .i64 (4 : Int)))] [.one (.int .i64 v3.1)] [[.view]] none] [0, 2, 3, 4] [0, 1, 2] ⟨tr, ⟨⟨⟨rfl, rfl, rfl, tr⟩, rfl, tr⟩, ok_spec_l00Src_pick K (l00Src.mk a0.code v1.2.1 v1.2.2) (4 : Int) v3 e4⟩, tr, tr, tr⟩ ?_
  refine thenQ_normal ?_
  refine AW.seq ?_
  refine AW.seq (AW.rA ⟨[(0, (vp 0 0)), (2, (vp 1 0)), (3, (vp 2 0)), (4, (vc (.int .i64 (IntKind.i64.wrap ((2 : Int) + v3.1))))), (5, (vc (.int .i64 (0 : Int))))], [(0, (.box [(.fx 0 0 (sl 1 (csI .u8) a0.code)), (.c (.int .i64 v3.2.1)), (.c (.int .u64 v3.2.2))])), (1, (.box [.nils, .nils, .nils, .nils, (.c (.flt .f32 (default : F32).bits)), (.c (.flt .f32 (default : F32).bits)), (.c (.flt .f32 (default : F32).bits)), (.c (.flt .f32 (default : F32).bits)), (.c (.int .i64 (0 : Int)))])), (2, (.box [.nils, .nils, .nils, .nils, (.c (.flt .f32 (default : F32).bits)), (.c (.flt .f32 (default : F32).bits)), (.c (.flt .f32 (default : F32).bits)), (.c (.flt .f32 (default : F32).bits)), (.c (.int .i64 v1.1))]))]⟩ (Tt ∧ Tt) [] [0, 2, 3, 4, 5] [0, 1, 2] ⟨tr, tr⟩ (thenQ_normal ?_))
  refine AW.block ?_
  refine AW.weak (s' := ⟨[(0, (vp 0 0)), (2, (vp 1 0)), (3, (vp 2 0)), (4, (vc (.int .i64 (IntKind.i64.wrap ((2 : Int) + v3.1))))), (5, (vc (.int .i64 (0 : Int))))], [(0, (.box [(.fx 0 0 (sl 1 (csI .u8) a0.code)), (.c (.int .i64 v3.2.1)), (.c (.int .u64 v3.2.2))])), (1, (.box [.nils, .nils, .nils, .nils, (.c (.flt .f32 (default : F32).bits)), (.c (.flt .f32 (default : F32).bits)), (.c (.flt .f32 (default : F32).bits)), (.c (.flt .f32 (default : F32).bits)), (.c (.int .i64 (0 : Int)))])), (2, (.box [(.lst 18 ([] : (List Vector)).length 3 (gl cs_Vector ([] : (List Vector)))), (.lst 19 ([] : (List Vector)).length 3 (gl cs_Vector ([] : (List Vector)))), (.lst 20 ([] : (List Bool)).length 1 (gl csB ([] : (List Bool)))), (.lst 21 ([] : (List F32)).length 1 (gl (csF .f32) ([] : (List F32)))), (.c (.flt .f32 (default : F32).bits)), (.c (.flt .f32 (default : F32).bits)), (.c (.flt .f32 (default : F32).bits)), (.c (.flt .f32 (default : F32).bits)), (.c (.int .i64 v1.1))])), (18, (.lst ([] : (List Vector)).length 3 (gl cs_Vector ([] : (List Vector))))), (19, (.lst ([] : (List Vector)).length 3 (gl cs_Vector ([] : (List Vector))))), (20, (.lst ([] : (List Bool)).length 1 (gl csB ([] : (List Bool))))), (21, (.lst ([] : (List F32)).length 1 (gl (csF .f32) ([] : (List F32)))))]⟩) (Sub.trans (Sub.unnil 18 3 (gl cs_Vector ([] : (List Vector))) [] [(2, 0)] _ (by kernel_rfl) (by kernel_rfl)) (Sub.trans (Sub.unnil 19 3 (gl cs_Vector ([] : (List Vector))) [] [(2, 1)] _ (by kernel_rfl) (by kernel_rfl)) (Sub.trans (Sub.unnil 20 1 (gl csB ([] : (List Bool))) [] [(2, 2)] _ (by kernel_rfl) (by kernel_rfl)) (Sub.trans (Sub.unnil 21 1 (gl (csF .f32) ([] : (List F32))) [] [(2, 3)] _ (by kernel_rfl) (by kernel_rfl)) (Sub.keep [0, 2, 3, 4, 5] [0, 1, 2, 18, 19, 20, 21] (by kernel_rfl) (by kernel_rfl)))))) ?_
  refine AW.loopQ (σ := Nat × Int × Int × Int × (List Vector) × (List Vector) × (List Bool) × (List F32)) (fun p => ⟨[(0, (vp 0 0)), (2, (vp 1 0)), (3, (vp 2 0)), (4, (vc (.int .i64 (IntKind.i64.wrap ((2 : Int) + v3.1))))), (5, (vc (.int .i64 p.2.1)))], [(0, (.box [(.fx 0 0 (sl 1 (csI .u8) a0.code)), (.c (.int .i64 p.2.2.1)), (.c (.int .u64 p.2.2.2.1))])), (1, (.box [.nils, .nils, .nils, .nils, (.c (.flt .f32 (default : F32).bits)), (.c (.flt .f32 (default : F32).bits)), (.c (.flt .f32 (default : F32).bits)), (.c (.flt .f32 (default : F32).bits)), (.c (.int .i64 (0 : Int)))])), (2, (.box [(.lst 18 p.2.2.2.2.1.length 3 (gl cs_Vector p.2.2.2.2.1)), (.lst 19 p.2.2.2.2.2.1.length 3 (gl cs_Vector p.2.2.2.2.2.1)), (.lst 20 p.2.2.2.2.2.2.1.length 1 (gl csB p.2.2.2.2.2.2.1)), (.lst 21 p.2.2.2.2.2.2.2.length 1 (gl (csF .f32) p.2.2.2.2.2.2.2)), (.c (.flt .f32 (default : F32).bits)), (.c (.flt .f32 (default : F32).bits)), (.c (.flt .f32 (default : F32).bits)), (.c (.flt .f32 (default : F32).bits)), (.c (.int .i64 v1.1))])), (18, (.lst p.2.2.2.2.1.length 3 (gl cs_Vector p.2.2.2.2.1))), (19, (.lst p.2.2.2.2.2.1.length 3 (gl cs_Vector p.2.2.2.2.2.1))), (20, (.lst p.2.2.2.2.2.2.1.length 1 (gl csB p.2.2.2.2.2.2.1))), (21, (.lst p.2.2.2.2.2.2.2.length 1 (gl (csF .f32) p.2.2.2.2.2.2.2)))]⟩) (fun p => spec_l08DrawOk_l1 K a0 v1 v3 p.1 p.2.1 p.2.2.1 p.2.2.2.1 p.2.2.2.2.1 p.2.2.2.2.2.1 p.2.2.2.2.2.2.1 p.2.2.2.2.2.2.2 = some o) (fun p => p.1) (K, (0 : Int), v3.2.1, v3.2.2, ([] : (List Vector)), ([] : (List Vector)), ([] : (List Bool)), ([] : (List F32))) h ?_
  clear h
  rintro ⟨k, x12, x13, x14, x15, x16, x17, x18⟩ h
  replace h : spec_l08DrawOk_l1 K a0 v1 v3 k x12 x13 x14 x15 x16 x17 x18 = some o := h
  show AW _ _ (⟨[(0, (vp 0 0)), (2, (vp 1 0)), (3, (vp 2 0)), (4, (vc (.int .i64 (IntKind.i64.wrap ((2 : Int) + v3.1))))), (5, (vc (.int .i64 x12)))], [(0, (.box [(.fx 0 0 (sl 1 (csI .u8) a0.code)), (.c (.int .i64 x13)), (.c (.int .u64 x14))])), (1, (.box [.nils, .nils, .nils, .nils, (.c (.flt .f32 (default : F32).bits)), (.c (.flt .f32 (default : F32).bits)), (.c (.flt .f32 (default : F32).bits)), (.c (.flt .f32 (default : F32).bits)), (.c (.int .i64 (0 : Int)))])), (2, (.box [(.lst 18 x15.length 3 (gl cs_Vector x15)), (.lst 19 x16.length 3 (gl cs_Vector x16)), (.lst 20 x17.length 1 (gl csB x17)), (.lst 21 x18.length 1 (gl (csF .f32) x18)), (.c (.flt .f32 (default : F32).bits)), (.c (.flt .f32 (default : F32).bits)), (.c (.flt .f32 (default : F32).bits)), (.c (.flt .f32 (default : F32).bits)), (.c (.int .i64 v1.1))])), (18, (.lst x15.length 3 (gl cs_Vector x15))), (19, (.lst x16.length 3 (gl cs_Vector x16))), (20, (.lst x17.length 1 (gl csB x17))), (21, (.lst x18.length 1 (gl (csF .f32) x18)))]⟩ : St) _
  obtain _ | k := k
  · rw [spec_l08DrawOk_l1] at h; cases h
  rw [spec_l08DrawOk_l1] at h
  refine AW.seq ?_
  refine AW.seq (AW.rA ⟨[(0, (vp 0 0)), (2, (vp 1 0)), (3, (vp 2 0)), (4, (vc (.int .i64 (IntKind.i64.wrap ((2 : Int) + v3.1))))), (5, (vc (.int .i64 x12))), (15, (vc (.bool (decide (x12 < (IntKind.i64.wrap ((2 : Int) + v3.1)))))))], [(0, (.box [(.fx 0 0 (sl 1 (csI .u8) a0.code)), (.c (.int .i64 x13)), (.c (.int .u64 x14))])), (1, (.box [.nils, .nils, .nils, .nils, (.c (.flt .f32 (default : F32).bits)), (.c (.flt .f32 (default : F32).bits)), (.c (.flt .f32 (default : F32).bits)), (.c (.flt .f32 (default : F32).bits)), (.c (.int .i64 (0 : Int)))])), (2, (.box [(.lst 18 x15.length 3 (gl cs_Vector x15)), (.lst 19 x16.length 3 (gl cs_Vector x16)), (.lst 20 x17.length 1 (gl csB x17)), (.lst 21 x18.length 1 (gl (csF .f32) x18)), (.c (.flt .f32 (default : F32).bits)), (.c (.flt .f32 (default : F32).bits)), (.c (.flt .f32 (default : F32).bits)), (.c (.flt .f32 (default : F32).bits)), (.c (.int .i64 v1.1))])), (18, (.lst x15.length 3 (gl cs_Vector x15))), (19, (.lst x16.length 3 (gl cs_Vector x16))), (20, (.lst x17.length 1 (gl csB x17))), (21, (.lst x18.length 1 (gl (csF .f32) x18)))]⟩ (Tt ∧ T2 Tt) [] [0, 2, 3, 4, 5, 15] [0, 1, 2, 18, 19, 20, 21] ⟨tr, tr, tr, tr⟩ (thenQ_normal ?_))
  rcases ite2_cases h with ⟨b19, h⟩ | ⟨b19, h⟩
  · refine AW.cond_t rfl b19 ?_
    refine AW.skip ?_
    refine thenQ_normal ?_
    refine AW.seq ?_
    refine AW.block ?_
    refine AW.seq ?_
    obtain ⟨v20, e21, h⟩ := bind_some h
    refine AW.rA ⟨[(0, (vp 0 0)), (2, (vp 1 0)), (3, (vp 2 0)), (4, (vc (.int .i64 (IntKind.i64.wrap ((2 : Int) + v3.1))))), (5, (vc (.int .i64 x12))), (6, (vp 52 0))], [(0, (.box [(.fx 0 0 (sl 1 (csI .u8) a0.code)), (.c (.int .i64 v20.2.1)), (.c (.int .u64 v20.2.2))])), (1, (.box [.nils, .nils, .nils, .nils, (.c (.flt .f32 (default : F32).bits)), (.c (.flt .f32 (default : F32).bits)), (.c (.flt .f32 (default : F32).bits)), (.c (.flt .f32 (default : F32).bits)), (.c (.int .i64 (0 : Int)))])), (2, (.box [(.lst 18 x15.length 3 (gl cs_Vector x15)), (.lst 19 x16.length 3 (gl cs_Vector x16)), (.lst 20 x17.length 1 (gl csB x17)), (.lst 21 x18.length 1 (gl (csF .f32) x18)), (.c (.flt .f32 (default : F32).bits)), (.c (.flt .f32 (default : F32).bits)), (.c (.flt .f32 (default : F32).bits)), (.c (.flt .f32 (default : F32).bits)), (.c (.int .i64 v1.1))])), (18, (.lst x15.length 3 (gl cs_Vector x15))), (19, (.lst x16.length 3 (gl cs_Vector x16))), (20, (.lst x17.length 1 (gl csB x17))), (21, (.lst x18.length 1 (gl (csF .f32) x18))), (52, (.box [(.c (.flt .f32 v20.1.X.bits)), (.c (.flt .f32 v20.1.Y.bits)), (.c (.flt .f32 v20.1.Z.bits))]))]⟩ (Tt ∧ ((((Eqc (sl 1 (csI .u8) a0.code)) ∧ (Eqc (.int .i64 x13)) ∧ (Eqc (.int .u64 x14)) ∧ Tt) ∧ Tt) ∧ MutOK Try.prog 32 [(.box 3 (fun j => [true, false, false].getD j true) (fun j => (cs_l00Src (l00Src.mk a0.code x13 x14)).getD j .nilptr) (fun j => [.nilptr, (.int .i64 v20.2.1), (.int .u64 v20.2.2)].getD j .nilptr))] [.agg (cs_Vector v20.1)]) ∧ T2 Tt) [.no, .callM [(.box 3 (fun j => [true, false, false].getD j true) (fun j => (cs_l00Src (l00Src.mk a0.code x13 x14)).getD j .nilptr) (fun j => [.nilptr, (.int .i64 v20.2.1), (.int .u64 v20.2.2)].getD j .nilptr))] [.agg (cs_Vector v20.1)] [[.view, .view, .view]] none, .box 52] [0, 2, 3, 4, 5, 6] [0, 1, 2, 18, 19, 20, 21, 52] ⟨tr, ⟨⟨⟨rfl, rfl, rfl, tr⟩, tr⟩, ok_spec_l01DrawVector K (l00Src.mk a0.code x13 x14) v20 e21⟩, tr, tr, tr⟩ ?_
    refine thenQ_normal ?_
    refine AW.seq ?_
    obtain ⟨c22, h⟩ := chk_some h
    refine AW.rA ⟨[(0, (vp 0 0)), (2, (vp 1 0)), (3, (vp 2 0)), (4, (vc (.int .i64 (IntKind.i64.wrap ((2 : Int) + v3.1))))), (5, (vc (.int .i64 x12))), (6, (vp 52 0))], [(0, (.box [(.fx 0 0 (sl 1 (csI .u8) a0.code)), (.c (.int .i64 v20.2.1)), (.c (.int .u64 v20.2.2))])), (1, (.box [.nils, .nils, .nils, .nils, (.c (.flt .f32 (default : F32).bits)), (.c (.flt .f32 (default : F32).bits)), (.c (.flt .f32 (default : F32).bits)), (.c (.flt .f32 (default : F32).bits)), (.c (.int .i64 (0 : Int)))])), (2, (.box [(.lst 54 (x15 ++ ([v20.1])).length 3 (gl cs_Vector (x15 ++ ([v20.1])))), (.lst 19 x16.length 3 (gl cs_Vector x16)), (.lst 20 x17.length 1 (gl csB x17)), (.lst 21 x18.length 1 (gl (csF .f32) x18)), (.c (.flt .f32 (default : F32).bits)), (.c (.flt .f32 (default : F32).bits)), (.c (.flt .f32 (default : F32).bits)), (.c (.flt .f32 (default : F32).bits)), (.c (.int .i64 v1.1))])), (19, (.lst x16.length 3 (gl cs_Vector x16))), (20, (.lst x17.length 1 (gl csB x17))), (21, (.lst x18.length 1 (gl (csF .f32) x18))), (52, (.box [(.c (.flt .f32 v20.1.X.bits)), (.c (.flt .f32 v20.1.Y.bits)), (.c (.flt .f32 v20.1.Z.bits))])), (54, (.lst (x15 ++ ([v20.1])).length 3 (gl cs_Vector (x15 ++ ([v20.1])))))]⟩ (Tt ∧ T2 ((([v20.1]).length = 1 ∧ (((.flt .f32 v20.1.X.bits) : C) = (.flt .f32 v20.1.X.bits) ∧ Tt) ∧ (((.flt .f32 v20.1.Y.bits) : C) = (.flt .f32 v20.1.Y.bits) ∧ Tt) ∧ (((.flt .f32 v20.1.Z.bits) : C) = (.flt .f32 v20.1.Z.bits) ∧ Tt) ∧ Tt) ∧ ((x15 ++ ([v20.1])).length = x15.length + ([v20.1]).length ∧ AppOb (x15.length) (([v20.1]).length) 3 (gl cs_Vector x15) (gl cs_Vector ([v20.1])) (gl cs_Vector (x15 ++ ([v20.1]))) ∧ (∀ i j, i < ([v20.1]).length → j < 3 → scalarC (gl cs_Vector ([v20.1]) i j)) ∧ (x15.length + ([v20.1]).length) * 12 ≤ 140737488355328) ∧ T2 Tt)) [.no, .no, .no, .obj 53 ([v20.1]).length (gl cs_Vector ([v20.1])), .objK 54 (x15 ++ ([v20.1])).length (gl cs_Vector (x15 ++ ([v20.1])))] [0, 2, 3, 4, 5, 6] [0, 1, 2, 19, 20, 21, 52, 54] ⟨tr, tr, tr, ⟨rfl, ⟨⟨rfl, tr⟩, ⟨rfl, tr⟩, ⟨rfl, tr⟩, tr⟩⟩, ⟨List.length_append, gl_append, gl_scalar sc_Vector _, c22⟩, tr, tr, tr⟩ ?_
    refine thenQ_normal ?_
    refine AW.seq ?_
    refine AW.seq ?_
    obtain ⟨v23, e24, h⟩ := bind_some h
    refine AW.rA ⟨[(0, (vp 0 0)), (2, (vp 1 0)), (3, (vp 2 0)), (4, (vc (.int .i64 (IntKind.i64.wrap ((2 : Int) + v3.1))))), (5, (vc (.int .i64 x12))), (6, (vp 52 0)), (27, (vc (.bool v23.1)))], [(0, (.box [(.fx 0 0 (sl 1 (csI .u8) a0.code)), (.c (.int .i64 v23.2.1)), (.c (.int .u64 v23.2.2))])), (1, (.box [.nils, .nils, .nils, .nils, (.c (.flt .f32 (default : F32).bits)), (.c (.flt .f32 (default : F32).bits)), (.c (.flt .f32 (default : F32).bits)), (.c (.flt .f32 (default : F32).bits)), (.c (.int .i64 (0 : Int)))])), (2, (.box [(.lst 54 (x15 ++ ([v20.1])).length 3 (gl cs_Vector (x15 ++ ([v20.1])))), (.lst 19 x16.length 3 (gl cs_Vector x16)), (.lst 20 x17.length 1 (gl csB x17)), (.lst 21 x18.length 1 (gl (csF .f32) x18)), (.c (.flt .f32 (default : F32).bits)), (.c (.flt .f32 (default : F32).bits)), (.c (.flt .f32 (default : F32).bits)), (.c (.flt .f32 (default : F32).bits)), (.c (.int .i64 v1.1))])), (19, (.lst x16.length 3 (gl cs_Vector x16))), (20, (.lst x17.length 1 (gl csB x17))), (21, (.lst x18.length 1 (gl (csF .f32) x18))), (52, (.box [(.c (.flt .f32 v20.1.X.bits)), (.c (.flt .f32 v20.1.Y.bits)), (.c (.flt .f32 v20.1.Z.bits))])), (54, (.lst (x15 ++ ([v20.1])).length 3 (gl cs_Vector (x15 ++ ([v20.1])))))]⟩ (Tt ∧ ((((Eqc (sl 1 (csI .u8) a0.code)) ∧ (Eqc (.int .i64 v20.2.1)) ∧ (Eqc (.int .u64 v20.2.2)) ∧ Tt) ∧ (Eqc (.int .i64 (2 : Int))) ∧ Tt) ∧ MutOK Try.prog 33 [(.box 3 (fun j => [true, false, false].getD j true) (fun j => (cs_l00Src (l00Src.mk a0.code v20.2.1 v20.2.2)).getD j .nilptr) (fun j => [.nilptr, (.int .i64 v23.2.1), (.int .u64 v23.2.2)].getD j .nilptr)), .one (.ro (.int .i64 (2 : Int)))] [.one (.bool v23.1)]) ∧ Tt) [.no, .callM [(.box 3 (fun j => [true, false, false].getD j true) (fun j => (cs_l00Src (l00Src.mk a0.code v20.2.1 v20.2.2)).getD j .nilptr) (fun j => [.nilptr, (.int .i64 v23.2.1), (.int .u64 v23.2.2)].getD j .nilptr)), .one (.ro (.int .i64 (2 : Int)))] [.one (.bool v23.1)] [[.view]] none] [0, 2, 3, 4, 5, 6, 27] [0, 1, 2, 19, 20, 21, 52, 54] ⟨tr, ⟨⟨⟨rfl, rfl, rfl, tr⟩, rfl, tr⟩, ok_spec_l00Src_one K (l00Src.mk a0.code v20.2.1 v20.2.2) (2 : Int) v23 e24⟩, tr⟩ ?_
    refine thenQ_normal ?_
    rcases ite2_cases h with ⟨b25, h⟩ | ⟨b25, h⟩
    · refine AW.cond_t rfl b25 ?_
      obtain ⟨v26, e27, h⟩ := bind_some h
      refine AW.rA ⟨[(0, (vp 0 0)), (2, (vp 1 0)), (3, (vp 2 0)), (4, (vc (.int .i64 (IntKind.i64.wrap ((2 : Int) + v3.1))))), (5, (vc (.int .i64 x12))), (6, (vp 52 0))], [(0, (.box [(.fx 0 0 (sl 1 (csI .u8) a0.code)), (.c (.int .i64 v26.2.1)), (.c (.int .u64 v26.2.2))])), (1, (.box [.nils, .nils, .nils, .nils, (.c (.flt .f32 (default : F32).bits)), (.c (.flt .f32 (default : F32).bits)), (.c (.flt .f32 (default : F32).bits)), (.c (.flt .f32 (default : F32).bits)), (.c (.int .i64 (0 : Int)))])), (2, (.box [(.lst 54 (x15 ++ ([v20.1])).length 3 (gl cs_Vector (x15 ++ ([v20.1])))), (.lst 19 x16.length 3 (gl cs_Vector x16)), (.lst 20 x17.length 1 (gl csB x17)), (.lst 21 x18.length 1 (gl (csF .f32) x18)), (.c (.flt .f32 (default : F32).bits)), (.c (.flt .f32 (default : F32).bits)), (.c (.flt .f32 (default : F32).bits)), (.c (.flt .f32 (default : F32).bits)), (.c (.int .i64 v1.1))])), (19, (.lst x16.length 3 (gl cs_Vector x16))), (20, (.lst x17.length 1 (gl csB x17))), (21, (.lst x18.length 1 (gl (csF .f32) x18))), (52, (.box [(.c (.flt .f32 v26.1.X.bits)), (.c (.flt .f32 v26.1.Y.bits)), (.c (.flt .f32 v26.1.Z.bits))])), (54, (.lst (x15 ++ ([v20.1])).length 3 (gl cs_Vector (x15 ++ ([v20.1])))))]⟩ (Tt ∧ ((((Eqc (sl 1 (csI .u8) a0.code)) ∧ (Eqc (.int .i64 v23.2.1)) ∧ (Eqc (.int .u64 v23.2.2)) ∧ Tt) ∧ Tt) ∧ MutOK Try.prog 32 [(.box 3 (fun j => [true, false, false].getD j true) (fun j => (cs_l00Src (l00Src.mk a0.code v23.2.1 v23.2.2)).getD j .nilptr) (fun j => [.nilptr, (.int .i64 v26.2.1), (.int .u64 v26.2.2)].getD j .nilptr))] [.agg (cs_Vector v26.1)]) ∧ Tt ∧ Tt) [.no, .callM [(.box 3 (fun j => [true, false, false].getD j true) (fun j => (cs_l00Src (l00Src.mk a0.code v23.2.1 v23.2.2)).getD j .nilptr) (fun j => [.nilptr, (.int .i64 v26.2.1), (.int .u64 v26.2.2)].getD j .nilptr))] [.agg (cs_Vector v26.1)] [[.view, .view, .view]] none] [0, 2, 3, 4, 5, 6] [0, 1, 2, 19, 20, 21, 52, 54] ⟨tr, ⟨⟨⟨rfl, rfl, rfl, tr⟩, tr⟩, ok_spec_l01DrawVector K (l00Src.mk a0.code v23.2.1 v23.2.2) v26 e27⟩, tr, tr⟩ ?_
      refine thenQ_normal ?_
      refine AW.seq ?_
      obtain ⟨c28, h⟩ := chk_some h
      refine AW.rA ⟨[(0, (vp 0 0)), (2, (vp 1 0)), (3, (vp 2 0)), (4, (vc (.int .i64 (IntKind.i64.wrap ((2 : Int) + v3.1))))), (5, (vc (.int .i64 x12)))], [(0, (.box [(.fx 0 0 (sl 1 (csI .u8) a0.code)), (.c (.int .i64 v26.2.1)), (.c (.int .u64 v26.2.2))])), (1, (.box [.nils, .nils, .nils, .nils, (.c (.flt .f32 (default : F32).bits)), (.c (.flt .f32 (default : F32).bits)), (.c (.flt .f32 (default : F32).bits)), (.c (.flt .f32 (default : F32).bits)), (.c (.int .i64 (0 : Int)))])), (2, (.box [(.lst 54 (x15 ++ ([v20.1])).length 3 (gl cs_Vector (x15 ++ ([v20.1])))), (.lst 56 (x16 ++ ([v26.1])).length 3 (gl cs_Vector (x16 ++ ([v26.1])))), (.lst 20 x17.length 1 (gl csB x17)), (.lst 21 x18.length 1 (gl (csF .f32) x18)), (.c (.flt .f32 (default : F32).bits)), (.c (.flt .f32 (default : F32).bits)), (.c (.flt .f32 (default : F32).bits)), (.c (.flt .f32 (default : F32).bits)), (.c (.int .i64 v1.1))])), (20, (.lst x17.length 1 (gl csB x17))), (21, (.lst x18.length 1 (gl (csF .f32) x18))), (54, (.lst (x15 ++ ([v20.1])).length 3 (gl cs_Vector (x15 ++ ([v20.1]))))), (56, (.lst (x16 ++ ([v26.1])).length 3 (gl cs_Vector (x16 ++ ([v26.1])))))]⟩ (Tt ∧ T2 ((([v26.1]).length = 1 ∧ (((.flt .f32 v26.1.X.bits) : C) = (.flt .f32 v26.1.X.bits) ∧ Tt) ∧ (((.flt .f32 v26.1.Y.bits) : C) = (.flt .f32 v26.1.Y.bits) ∧ Tt) ∧ (((.flt .f32 v26.1.Z.bits) : C) = (.flt .f32 v26.1.Z.bits) ∧ Tt) ∧ Tt) ∧ ((x16 ++ ([v26.1])).length = x16.length + ([v26.1]).length ∧ AppOb (x16.length) (([v26.1]).length) 3 (gl cs_Vector x16) (gl cs_Vector ([v26.1])) (gl cs_Vector (x16 ++ ([v26.1]))) ∧ (∀ i j, i < ([v26.1]).length → j < 3 → scalarC (gl cs_Vector ([v26.1]) i j)) ∧ (x16.length + ([v26.1]).length) * 12 ≤ 140737488355328) ∧ T2 Tt)) [.no, .no, .no, .obj 55 ([v26.1]).length (gl cs_Vector ([v26.1])), .objK 56 (x16 ++ ([v26.1])).length (gl cs_Vector (x16 ++ ([v26.1])))] [0, 2, 3, 4, 5] [0, 1, 2, 20, 21, 54, 56] ⟨tr, tr, tr, ⟨rfl, ⟨⟨rfl, tr⟩, ⟨rfl, tr⟩, ⟨rfl, tr⟩, tr⟩⟩, ⟨List.length_append, gl_append, gl_scalar sc_Vector _, c28⟩, tr, tr, tr⟩ ?_
      refine thenQ_normal ?_
      refine AW.seq ?_
      obtain ⟨v29, e30, h⟩ := bind_some h
      obtain ⟨c31, h⟩ := chk_some h
      refine AW.firstA (by kernel_rfl) [0, 2] [.no, .no, .no, .callM [(.box 3 (fun j => [true, false, false].getD j true) (fun j => (cs_l00Src (l00Src.mk a0.code v26.2.1 v26.2.2)).getD j .nilptr) (fun j => [.nilptr, (.int .i64 v29.2.1), (.int .u64 v29.2.2)].getD j .nilptr)), .one (.ro (.int .i64 (3 : Int)))] [.one (.bool v29.1)] [[.view]] none, .obj 57 ([v29.1]).length (gl csB ([v29.1])), .objK 58 (x17 ++ ([v29.1])).length (gl csB (x17 ++ ([v29.1])))] [0, 2, 3, 4, 5] [0, 1, 2, 21, 54, 56, 58] (s' := ⟨[(0, (vp 0 0)), (2, (vp 1 0)), (3, (vp 2 0)), (4, (vc (.int .i64 (IntKind.i64.wrap ((2 : Int) + v3.1))))), (5, (vc (.int .i64 x12)))], [(0, (.box [(.fx 0 0 (sl 1 (csI .u8) a0.code)), (.c (.int .i64 v29.2.1)), (.c (.int .u64 v29.2.2))])), (1, (.box [.nils, .nils, .nils, .nils, (.c (.flt .f32 (default : F32).bits)), (.c (.flt .f32 (default : F32).bits)), (.c (.flt .f32 (default : F32).bits)), (.c (.flt .f32 (default : F32).bits)), (.c (.int .i64 (0 : Int)))])), (2, (.box [(.lst 54 (x15 ++ ([v20.1])).length 3 (gl cs_Vector (x15 ++ ([v20.1])))), (.lst 56 (x16 ++ ([v26.1])).length 3 (gl cs_Vector (x16 ++ ([v26.1])))), (.lst 58 (x17 ++ ([v29.1])).length 1 (gl csB (x17 ++ ([v29.1])))), (.lst 21 x18.length 1 (gl (csF .f32) x18)), (.c (.flt .f32 (default : F32).bits)), (.c (.flt .f32 (default : F32).bits)), (.c (.flt .f32 (default : F32).bits)), (.c (.flt .f32 (default : F32).bits)), (.c (.int .i64 v1.1))])), (21, (.lst x18.length 1 (gl (csF .f32) x18))), (54, (.lst (x15 ++ ([v20.1])).length 3 (gl cs_Vector (x15 ++ ([v20.1]))))), (56, (.lst (x16 ++ ([v26.1])).length 3 (gl cs_Vector (x16 ++ ([v26.1]))))), (58, (.lst (x17 ++ ([v29.1])).length 1 (gl csB (x17 ++ ([v29.1])))))]⟩) (ob := (Zt3 ((⟨[(0, (vp 0 0)), (2, (vp 1 0)), (3, (vp 2 0)), (4, (vc (.int .i64 (IntKind.i64.wrap ((2 : Int) + v3.1))))), (5, (vc (.int .i64 x12)))], [(0, (.box [(.fx 0 0 (sl 1 (csI .u8) a0.code)), (.c (.int .i64 v29.2.1)), (.c (.int .u64 v29.2.2))])), (1, (.box [.nils, .nils, .nils, .nils, (.c (.flt .f32 (default : F32).bits)), (.c (.flt .f32 (default : F32).bits)), (.c (.flt .f32 (default : F32).bits)), (.c (.flt .f32 (default : F32).bits)), (.c (.int .i64 (0 : Int)))])), (2, (.box [(.lst 54 (x15 ++ ([v20.1])).length 3 (gl cs_Vector (x15 ++ ([v20.1])))), (.lst 56 (x16 ++ ([v26.1])).length 3 (gl cs_Vector (x16 ++ ([v26.1])))), (.lst 58 (x17 ++ ([v29.1])).length 1 (gl csB (x17 ++ ([v29.1])))), (.lst 21 x18.length 1 (gl (csF .f32) x18)), (.c (.flt .f32 (default : F32).bits)), (.c (.flt .f32 (default : F32).bits)), (.c (.flt .f32 (default : F32).bits)), (.c (.flt .f32 (default : F32).bits)), (.c (.int .i64 v1.1))])), (21, (.lst x18.length 1 (gl (csF .f32) x18))), (54, (.lst (x15 ++ ([v20.1])).length 3 (gl cs_Vector (x15 ++ ([v20.1]))))), (56, (.lst (x16 ++ ([v26.1])).length 3 (gl cs_Vector (x16 ++ ([v26.1]))))), (58, (.lst (x17 ++ ([v29.1])).length 1 (gl csB (x17 ++ ([v29.1])))))]⟩ : St) = ⟨[(0, (vp 0 0)), (2, (vp 1 0)), (3, (vp 2 0)), (4, (vc (.int .i64 (IntKind.i64.wrap ((2 : Int) + v3.1))))), (5, (vc (.int .i64 x12)))], [(0, (.box [(.fx 0 0 (sl 1 (csI .u8) a0.code)), (.c (.int .i64 v29.2.1)), (.c (.int .u64 v29.2.2))])), (1, (.box [.nils, .nils, .nils, .nils, (.c (.flt .f32 (default : F32).bits)), (.c (.flt .f32 (default : F32).bits)), (.c (.flt .f32 (default : F32).bits)), (.c (.flt .f32 (default : F32).bits)), (.c (.int .i64 (0 : Int)))])), (2, (.box [(.lst 54 (x15 ++ ([v20.1])).length 3 (gl cs_Vector (x15 ++ ([v20.1])))), (.lst 56 (x16 ++ ([v26.1])).length 3 (gl cs_Vector (x16 ++ ([v26.1])))), (.lst 58 (x17 ++ ([v29.1])).length 1 (gl csB (x17 ++ ([v29.1])))), (.lst 21 x18.length 1 (gl (csF .f32) x18)), (.c (.flt .f32 (default : F32).bits)), (.c (.flt .f32 (default : F32).bits)), (.c (.flt .f32 (default : F32).bits)), (.c (.flt .f32 (default : F32).bits)), (.c (.int .i64 v1.1))])), (21, (.lst x18.length 1 (gl (csF .f32) x18))), (54, (.lst (x15 ++ ([v20.1])).length 3 (gl cs_Vector (x15 ++ ([v20.1]))))), (56, (.lst (x16 ++ ([v26.1])).length 3 (gl cs_Vector (x16 ++ ([v26.1]))))), (58, (.lst (x17 ++ ([v29.1])).length 1 (gl csB (x17 ++ ([v29.1])))))]⟩) (((((Eqc (sl 1 (csI .u8) a0.code)) ∧ (Eqc (.int .i64 v26.2.1)) ∧ (Eqc (.int .u64 v26.2.2)) ∧ Tt) ∧ (Eqc (.int .i64 (3 : Int))) ∧ Tt) ∧ MutOK Try.prog 33 [(.box 3 (fun j => [true, false, false].getD j true) (fun j => (cs_l00Src (l00Src.mk a0.code v26.2.1 v26.2.2)).getD j .nilptr) (fun j => [.nilptr, (.int .i64 v29.2.1), (.int .u64 v29.2.2)].getD j .nilptr)), .one (.ro (.int .i64 (3 : Int)))] [.one (.bool v29.1)])) ((([v29.1]).length = 1 ∧ (((.bool v29.1) : C) = (.bool v29.1) ∧ Tt) ∧ Tt)) (((x17 ++ ([v29.1])).length = x17.length + ([v29.1]).length ∧ AppOb (x17.length) (([v29.1]).length) 1 (gl csB x17) (gl csB ([v29.1])) (gl csB (x17 ++ ([v29.1]))) ∧ (∀ i j, i < ([v29.1]).length → j < 1 → scalarC (gl csB ([v29.1]) i j)) ∧ (x17.length + ([v29.1]).length) * 1 ≤ 140737488355328)))) (by kernel_rfl) (zt3 rfl ⟨⟨⟨rfl, rfl, rfl, tr⟩, rfl, tr⟩, ok_spec_l00Src_one K (l00Src.mk a0.code v26.2.1 v26.2.2) (3 : Int) v29 e30⟩ ⟨rfl, ⟨⟨rfl, tr⟩, tr⟩⟩ ⟨List.length_append, gl_append, gl_scalar scB _, c31⟩) ?_
      refine thenQ_normal ?_
      refine AW.seq (AW.rA ⟨[(0, (vp 0 0)), (2, (vp 1 0)), (3, (vp 2 0)), (4, (vc (.int .i64 (IntKind.i64.wrap ((2 : Int) + v3.1))))), (5, (vc (.int .i64 x12))), (44, (vc (.bool (decide (x12 > (0 : Int))))))], [(0, (.box [(.fx 0 0 (sl 1 (csI .u8) a0.code)), (.c (.int .i64 v29.2.1)), (.c (.int .u64 v29.2.2))])), (1, (.box [.nils, .nils, .nils, .nils, (.c (.flt .f32 (default : F32).bits)), (.c (.flt .f32 (default : F32).bits)), (.c (.flt .f32 (default : F32).bits)), (.c (.flt .f32 (default : F32).bits)), (.c (.int .i64 (0 : Int)))])), (2, (.box [(.lst 54 (x15 ++ ([v20.1])).length 3 (gl cs_Vector (x15 ++ ([v20.1])))), (.lst 56 (x16 ++ ([v26.1])).length 3 (gl cs_Vector (x16 ++ ([v26.1])))), (.lst 58 (x17 ++ ([v29.1])).length 1 (gl csB (x17 ++ ([v29.1])))), (.lst 21 x18.length 1 (gl (csF .f32) x18)), (.c (.flt .f32 (default : F32).bits)), (.c (.flt .f32 (default : F32).bits)), (.c (.flt .f32 (default : F32).bits)), (.c (.flt .f32 (default : F32).bits)), (.c (.int .i64 v1.1))])), (21, (.lst x18.length 1 (gl (csF .f32) x18))), (54, (.lst (x15 ++ ([v20.1])).length 3 (gl cs_Vector (x15 ++ ([v20.1]))))), (56, (.lst (x16 ++ ([v26.1])).length 3 (gl cs_Vector (x16 ++ ([v26.1]))))), (58, (.lst (x17 ++ ([v29.1])).length 1 (gl csB (x17 ++ ([v29.1])))))]⟩ (T2 Tt) [] [0, 2, 3, 4, 5, 44] [0, 1, 2, 21, 54, 56, 58] ⟨tr, tr, tr⟩ (thenQ_normal ?_))
      rcases ite2_cases h with ⟨b32, h⟩ | ⟨b32, h⟩
      · refine AW.cond_t rfl b32 ?_
        obtain ⟨v33, e34, h⟩ := bind_some h
        obtain ⟨c35, h⟩ := chk_some h
        refine AW.firstA (by kernel_rfl) [0, 2] [.no, .no, .no, .callM [(.box 3 (fun j => [true, false, false].getD j true) (fun j => (cs_l00Src (l00Src.mk a0.code v29.2.1 v29.2.2)).getD j .nilptr) (fun j => [.nilptr, (.int .i64 v33.2.1), (.int .u64 v33.2.2)].getD j .nilptr))] [.one (.flt .f32 v33.1.bits)] [[.view]] none, .obj 59 ([v33.1]).length (gl (csF .f32) ([v33.1])), .objK 60 (x18 ++ ([v33.1])).length (gl (csF .f32) (x18 ++ ([v33.1])))] [0, 2, 3, 4, 5] [0, 1, 2, 54, 56, 58, 60] (s' := ⟨[(0, (vp 0 0)), (2, (vp 1 0)), (3, (vp 2 0)), (4, (vc (.int .i64 (IntKind.i64.wrap ((2 : Int) + v3.1))))), (5, (vc (.int .i64 x12)))], [(0, (.box [(.fx 0 0 (sl 1 (csI .u8) a0.code)), (.c (.int .i64 v33.2.1)), (.c (.int .u64 v33.2.2))])), (1, (.box [.nils, .nils, .nils, .nils, (.c (.flt .f32 (default : F32).bits)), (.c (.flt .f32 (default : F32).bits)), (.c (.flt .f32 (default : F32).bits)), (.c (.flt .f32 (default : F32).bits)), (.c (.int .i64 (0 : Int)))])), (2, (.box [(.lst 54 (x15 ++ ([v20.1])).length 3 (gl cs_Vector (x15 ++ ([v20.1])))), (.lst 56 (x16 ++ ([v26.1])).length 3 (gl cs_Vector (x16 ++ ([v26.1])))), (.lst 58 (x17 ++ ([v29.1])).length 1 (gl csB (x17 ++ ([v29.1])))), (.lst 60 (x18 ++ ([v33.1])).length 1 (gl (csF .f32) (x18 ++ ([v33.1])))), (.c (.flt .f32 (default : F32).bits)), (.c (.flt .f32 (default : F32).bits)), (.c (.flt .f32 (default : F32).bits)), (.c (.flt .f32 (default : F32).bits)), (.c (.int .i64 v1.1))])), (54, (.lst (x15 ++ ([v20.1])).length 3 (gl cs_Vector (x15 ++ ([v20.1]))))), (56, (.lst (x16 ++ ([v26.1])).length 3 (gl cs_Vector (x16 ++ ([v26.1]))))), (58, (.lst (x17 ++ ([v29.1])).length 1 (gl csB (x17 ++ ([v29.1]))))), (60, (.lst (x18 ++ ([v33.1])).length 1 (gl (csF .f32) (x18 ++ ([v33.1])))))]⟩) (ob := (Zt3 ((⟨[(0, (vp 0 0)), (2, (vp 1 0)), (3, (vp 2 0)), (4, (vc (.int .i64 (IntKind.i64.wrap ((2 : Int) + v3.1))))), (5, (vc (.int .i64 x12)))], [(0, (.box [(.fx 0 0 (sl 1 (csI .u8) a0.code)), (.c (.int .i64 v33.2.1)), (.c (.int .u64 v33.2.2))])), (1, (.box [.nils, .nils, .nils, .nils, (.c (.flt .f32 (default : F32).bits)), (.c (.flt .f32 (default : F32).bits)), (.c (.flt .f32 (default : F32).bits)), (.c (.flt .f32 (default : F32).bits)), (.c (.int .i64 (0 : Int)))])), (2, (.box [(.lst 54 (x15 ++ ([v20.1])).length 3 (gl cs_Vector (x15 ++ ([v20.1])))), (.lst 56 (x16 ++ ([v26.1])).length 3 (gl cs_Vector (x16 ++ ([v26.1])))), (.lst 58 (x17 ++ ([v29.1])).length 1 (gl csB (x17 ++ ([v29.1])))), (.lst 60 (x18 ++ ([v33.1])).length 1 (gl (csF .f32) (x18 ++ ([v33.1])))), (.c (.flt .f32 (default : F32).bits)), (.c (.flt .f32 (default : F32).bits)), (.c (.flt .f32 (default : F32).bits)), (.c (.flt .f32 (default : F32).bits)), (.c (.int .i64 v1.1))])), (54, (.lst (x15 ++ ([v20.1])).length 3 (gl cs_Vector (x15 ++ ([v20.1]))))), (56, (.lst (x16 ++ ([v26.1])).length 3 (gl cs_Vector (x16 ++ ([v26.1]))))), (58, (.lst (x17 ++ ([v29.1])).length 1 (gl csB (x17 ++ ([v29.1]))))), (60, (.lst (x18 ++ ([v33.1])).length 1 (gl (csF .f32) (x18 ++ ([v33.1])))))]⟩ : St) = ⟨[(0, (vp 0 0)), (2, (vp 1 0)), (3, (vp 2 0)), (4, (vc (.int .i64 (IntKind.i64.wrap ((2 : Int) + v3.1))))), (5, (vc (.int .i64 x12)))], [(0, (.box [(.fx 0 0 (sl 1 (csI .u8) a0.code)), (.c (.int .i64 v33.2.1)), (.c (.int .u64 v33.2.2))])), (1, (.box [.nils, .nils, .nils, .nils, (.c (.flt .f32 (default : F32).bits)), (.c (.flt .f32 (default : F32).bits)), (.c (.flt .f32 (default : F32).bits)), (.c (.flt .f32 (default : F32).bits)), (.c (.int .i64 (0 : Int)))])), (2, (.box [(.lst 54 (x15 ++ ([v20.1])).length 3 (gl cs_Vector (x15 ++ ([v20.1])))), (.lst 56 (x16 ++ ([v26.1])).length 3 (gl cs_Vector (x16 ++ ([v26.1])))), (.lst 58 (x17 ++ ([v29.1])).length 1 (gl csB (x17 ++ ([v29.1])))), (.lst 60 (x18 ++ ([v33.1])).length 1 (gl (csF .f32) (x18 ++ ([v33.1])))), (.c (.flt .f32 (default : F32).bits)), (.c (.flt .f32 (default : F32).bits)), (.c (.flt .f32 (default : F32).bits)), (.c (.flt .f32 (default : F32).bits)), (.c (.int .i64 v1.1))])), (54, (.lst (x15 ++ ([v20.1])).length 3 (gl cs_Vector (x15 ++ ([v20.1]))))), (56, (.lst (x16 ++ ([v26.1])).length 3 (gl cs_Vector (x16 ++ ([v26.1]))))), (58, (.lst (x17 ++ ([v29.1])).length 1 (gl csB (x17 ++ ([v29.1]))))), (60, (.lst (x18 ++ ([v33.1])).length 1 (gl (csF .f32) (x18 ++ ([v33.1])))))]⟩) (((((Eqc (sl 1 (csI .u8) a0.code)) ∧ (Eqc (.int .i64 v29.2.1)) ∧ (Eqc (.int .u64 v29.2.2)) ∧ Tt) ∧ Tt) ∧ MutOK Try.prog 34 [(.box 3 (fun j => [true, false, false].getD j true) (fun j => (cs_l00Src (l00Src.mk a0.code v29.2.1 v29.2.2)).getD j .nilptr) (fun j => [.nilptr, (.int .i64 v33.2.1), (.int .u64 v33.2.2)].getD j .nilptr))] [.one (.flt .f32 v33.1.bits)])) ((([v33.1]).length = 1 ∧ (((.flt .f32 v33.1.bits) : C) = (.flt .f32 v33.1.bits) ∧ Tt) ∧ Tt)) (((x18 ++ ([v33.1])).length = x18.length + ([v33.1]).length ∧ AppOb (x18.length) (([v33.1]).length) 1 (gl (csF .f32) x18) (gl (csF .f32) ([v33.1])) (gl (csF .f32) (x18 ++ ([v33.1]))) ∧ (∀ i j, i < ([v33.1]).length → j < 1 → scalarC (gl (csF .f32) ([v33.1]) i j)) ∧ (x18.length + ([v33.1]).length) * 4 ≤ 140737488355328)))) (by kernel_rfl) (zt3 rfl ⟨⟨⟨rfl, rfl, rfl, tr⟩, tr⟩, ok_spec_l04DrawLength K (l00Src.mk a0.code v29.2.1 v29.2.2) v33 e34⟩ ⟨rfl, ⟨⟨rfl, tr⟩, tr⟩⟩ ⟨List.length_append, gl_append, gl_scalar scF _, c35⟩) ?_
        refine blockQ_normal ?_
        refine thenQ_normal ?_
        refine AW.rA ⟨[(0, (vp 0 0)), (2, (vp 1 0)), (3, (vp 2 0)), (4, (vc (.int .i64 (IntKind.i64.wrap ((2 : Int) + v3.1))))), (5, (vc (.int .i64 (IntKind.i64.wrap (x12 + (1 : Int))))))], [(0, (.box [(.fx 0 0 (sl 1 (csI .u8) a0.code)), (.c (.int .i64 v33.2.1)), (.c (.int .u64 v33.2.2))])), (1, (.box [.nils, .nils, .nils, .nils, (.c (.flt .f32 (default : F32).bits)), (.c (.flt .f32 (default : F32).bits)), (.c (.flt .f32 (default : F32).bits)), (.c (.flt .f32 (default : F32).bits)), (.c (.int .i64 (0 : Int)))])), (2, (.box [(.lst 54 (x15 ++ ([v20.1])).length 3 (gl cs_Vector (x15 ++ ([v20.1])))), (.lst 56 (x16 ++ ([v26.1])).length 3 (gl cs_Vector (x16 ++ ([v26.1])))), (.lst 58 (x17 ++ ([v29.1])).length 1 (gl csB (x17 ++ ([v29.1])))), (.lst 60 (x18 ++ ([v33.1])).length 1 (gl (csF .f32) (x18 ++ ([v33.1])))), (.c (.flt .f32 (default : F32).bits)), (.c (.flt .f32 (default : F32).bits)), (.c (.flt .f32 (default : F32).bits)), (.c (.flt .f32 (default : F32).bits)), (.c (.int .i64 v1.1))])), (54, (.lst (x15 ++ ([v20.1])).length 3 (gl cs_Vector (x15 ++ ([v20.1]))))), (56, (.lst (x16 ++ ([v26.1])).length 3 (gl cs_Vector (x16 ++ ([v26.1]))))), (58, (.lst (x17 ++ ([v29.1])).length 1 (gl csB (x17 ++ ([v29.1]))))), (60, (.lst (x18 ++ ([v33.1])).length 1 (gl (csF .f32) (x18 ++ ([v33.1])))))]⟩ (Tt ∧ T2 Tt) [] [0, 2, 3, 4, 5] [0, 1, 2, 54, 56, 58, 60] ⟨tr, tr, tr, tr⟩ ?_
        exact loopQ_normal (k, (IntKind.i64.wrap (x12 + (1 : Int))), v33.2.1, v33.2.2, (x15 ++ ([v20.1])), (x16 ++ ([v26.1])), (x17 ++ ([v29.1])), (x18 ++ ([v33.1]))) h (Nat.lt_succ_self k) (Sub.trans (Sub.swap 18 54 _ (by kernel_rfl) (by kernel_rfl)) (Sub.trans (Sub.swap 19 56 _ (by kernel_rfl) (by kernel_rfl)) (Sub.trans (Sub.swap 20 58 _ (by kernel_rfl) (by kernel_rfl)) (Sub.trans (Sub.swap 21 60 _ (by kernel_rfl) (by kernel_rfl)) (Sub.keep [0, 2, 3, 4, 5] [0, 1, 2, 18, 19, 20, 21] (by kernel_rfl) (by kernel_rfl))))))
      · refine AW.cond_f rfl b32 ?_
        refine AW.skip ?_
        refine blockQ_normal ?_
        refine thenQ_normal ?_
        refine AW.rA ⟨[(0, (vp 0 0)), (2, (vp 1 0)), (3, (vp 2 0)), (4, (vc (.int .i64 (IntKind.i64.wrap ((2 : Int) + v3.1))))), (5, (vc (.int .i64 (IntKind.i64.wrap (x12 + (1 : Int))))))], [(0, (.box [(.fx 0 0 (sl 1 (csI .u8) a0.code)), (.c (.int .i64 v29.2.1)), (.c (.int .u64 v29.2.2))])), (1, (.box [.nils, .nils, .nils, .nils, (.c (.flt .f32 (default : F32).bits)), (.c (.flt .f32 (default : F32).bits)), (.c (.flt .f32 (default : F32).bits)), (.c (.flt .f32 (default : F32).bits)), (.c (.int .i64 (0 : Int)))])), (2, (.box [(.lst 54 (x15 ++ ([v20.1])).length 3 (gl cs_Vector (x15 ++ ([v20.1])))), (.lst 56 (x16 ++ ([v26.1])).length 3 (gl cs_Vector (x16 ++ ([v26.1])))), (.lst 58 (x17 ++ ([v29.1])).length 1 (gl csB (x17 ++ ([v29.1])))), (.lst 21 x18.length 1 (gl (csF .f32) x18)), (.c (.flt .f32 (default : F32).bits)), (.c (.flt .f32 (default : F32).bits)), (.c (.flt .f32 (default : F32).bits)), (.c (.flt .f32 (default : F32).bits)), (.c (.int .i64 v1.1))])), (21, (.lst x18.length 1 (gl (csF .f32) x18))), (54, (.lst (x15 ++ ([v20.1])).length 3 (gl cs_Vector (x15 ++ ([v20.1]))))), (56, (.lst (x16 ++ ([v26.1])).length 3 (gl cs_Vector (x16 ++ ([v26.1]))))), (58, (.lst (x17 ++ ([v29.1])).length 1 (gl csB (x17 ++ ([v29.1])))))]⟩ (Tt ∧ T2 Tt) [] [0, 2, 3, 4, 5] [0, 1, 2, 21, 54, 56, 58] ⟨tr, tr, tr, tr⟩ ?_
        exact loopQ_normal (k, (IntKind.i64.wrap (x12 + (1 : Int))), v29.2.1, v29.2.2, (x15 ++ ([v20.1])), (x16 ++ ([v26.1])), (x17 ++ ([v29.1])), x18) h (Nat.lt_succ_self k) (Sub.trans (Sub.swap 18 54 _ (by kernel_rfl) (by kernel_rfl)) (Sub.trans (Sub.swap 19 56 _ (by kernel_rfl) (by kernel_rfl)) (Sub.trans (Sub.swap 20 58 _ (by kernel_rfl) (by kernel_rfl)) (Sub.keep [0, 2, 3, 4, 5] [0, 1, 2, 18, 19, 20, 21] (by kernel_rfl) (by kernel_rfl)))))
    · refine AW.cond_f rfl b25 ?_
      refine AW.skip ?_
      refine thenQ_normal ?_
      refine AW.seq ?_
      obtain ⟨c36, h⟩ := chk_some h
      refine AW.rA ⟨[(0, (vp 0 0)), (2, (vp 1 0)), (3, (vp 2 0)), (4, (vc (.int .i64 (IntKind.i64.wrap ((2 : Int) + v3.1))))), (5, (vc (.int .i64 x12)))], [(0, (.box [(.fx 0 0 (sl 1 (csI .u8) a0.code)), (.c (.int .i64 v23.2.1)), (.c (.int .u64 v23.2.2))])), (1, (.box [.nils, .nils, .nils, .nils, (.c (.flt .f32 (default : F32).bits)), (.c (.flt .f32 (default : F32).bits)), (.c (.flt .f32 (default : F32).bits)), (.c (.flt .f32 (default : F32).bits)), (.c (.int .i64 (0 : Int)))])), (2, (.box [(.lst 54 (x15 ++ ([v20.1])).length 3 (gl cs_Vector (x15 ++ ([v20.1])))), (.lst 62 (x16 ++ ([v20.1])).length 3 (gl cs_Vector (x16 ++ ([v20.1])))), (.lst 20 x17.length 1 (gl csB x17)), (.lst 21 x18.length 1 (gl (csF .f32) x18)), (.c (.flt .f32 (default : F32).bits)), (.c (.flt .f32 (default : F32).bits)), (.c (.flt .f32 (default : F32).bits)), (.c (.flt .f32 (default : F32).bits)), (.c (.int .i64 v1.1))])), (20, (.lst x17.length 1 (gl csB x17))), (21, (.lst x18.length 1 (gl (csF .f32) x18))), (54, (.lst (x15 ++ ([v20.1])).length 3 (gl cs_Vector (x15 ++ ([v20.1]))))), (62, (.lst (x16 ++ ([v20.1])).length 3 (gl cs_Vector (x16 ++ ([v20.1])))))]⟩ (Tt ∧ T2 ((([v20.1]).length = 1 ∧ (((.flt .f32 v20.1.X.bits) : C) = (.flt .f32 v20.1.X.bits) ∧ Tt) ∧ (((.flt .f32 v20.1.Y.bits) : C) = (.flt .f32 v20.1.Y.bits) ∧ Tt) ∧ (((.flt .f32 v20.1.Z.bits) : C) = (.flt .f32 v20.1.Z.bits) ∧ Tt) ∧ Tt) ∧ ((x16 ++ ([v20.1])).length = x16.length + ([v20.1]).length ∧ AppOb (x16.length) (([v20.1]).length) 3 (gl cs_Vector x16) (gl cs_Vector ([v20.1])) (gl cs_Vector (x16 ++ ([v20.1]))) ∧ (∀ i j, i < ([v20.1]).length → j < 3 → scalarC (gl cs_Vector ([v20.1]) i j)) ∧ (x16.length + ([v20.1]).length) * 12 ≤ 140737488355328) ∧ T2 Tt)) [.no, .no, .no, .obj 61 ([v20.1]).length (gl cs_Vector ([v20.1])), .objK 62 (x16 ++ ([v20.1])).length (gl cs_Vector (x16 ++ ([v20.1])))] [0, 2, 3, 4, 5] [0, 1, 2, 20, 21, 54, 62] ⟨tr, tr, tr, ⟨rfl, ⟨⟨rfl, tr⟩, ⟨rfl, tr⟩, ⟨rfl, tr⟩, tr⟩⟩, ⟨List.length_append, gl_append, gl_scalar sc_Vector _, c36⟩, tr, tr, tr⟩ ?_
      refine thenQ_normal ?_
      refine AW.seq ?_
      obtain ⟨v37, e38, h⟩ := bind_some h
      obtain ⟨c39, h⟩ := chk_some h
      refine AW.firstA (by kernel_rfl) [0, 2] [.no, .no, .no, .callM [(.box 3 (fun j => [true, false, false].getD j true) (fun j => (cs_l00Src (l00Src.mk a0.code v23.2.1 v23.2.2)).getD j .nilptr) (fun j => [.nilptr, (.int .i64 v37.2.1), (.int .u64 v37.2.2)].getD j .nilptr)), .one (.ro (.int .i64 (3 : Int)))] [.one (.bool v37.1)] [[.view]] none, .obj 63 ([v37.1]).length (gl csB ([v37.1])), .objK 64 (x17 ++ ([v37.1])).length (gl csB (x17 ++ ([v37.1])))] [0, 2, 3, 4, 5] [0, 1, 2, 21, 54, 62, 64] (s' := ⟨[(0, (vp 0 0)), (2, (vp 1 0)), (3, (vp 2 0)), (4, (vc (.int .i64 (IntKind.i64.wrap ((2 : Int) + v3.1))))), (5, (vc (.int .i64 x12)))], [(0, (.box [(.fx 0 0 (sl 1 (csI .u8) a0.code)), (.c (.int .i64 v37.2.1)), (.c (.int .u64 v37.2.2))])), (1, (.box [.nils, .nils, .nils, .nils, (.c (.flt .f32 (default : F32).bits)), (.c (.flt .f32 (default : F32).bits)), (.c (.flt .f32 (default : F32).bits)), (.c (.flt .f32 (default : F32).bits)), (.c (.int .i64 (0 : Int)))])), (2, (.box [(.lst 54 (x15 ++ ([v20.1])).length 3 (gl cs_Vector (x15 ++ ([v20.1])))), (.lst 62 (x16 ++ ([v20.1])).length 3 (gl cs_Vector (x16 ++ ([v20.1])))), (.lst 64 (x17 ++ ([v37.1])).length 1 (gl csB (x17 ++ ([v37.1])))), (.lst 21 x18.length 1 (gl (csF .f32) x18)), (.c (.flt .f32 (default : F32).bits)), (.c (.flt .f32 (default : F32).bits)), (.c (.flt .f32 (default : F32).bits)), (.c (.flt .f32 (default : F32).bits)), (.c (.int .i64 v1.1))])), (21, (.lst x18.length 1 (gl (csF .f32) x18))), (54, (.lst (x15 ++ ([v20.1])).length 3 (gl cs_Vector (x15 ++ ([v20.1]))))), (62, (.lst (x16 ++ ([v20.1])).length 3 (gl cs_Vector (x16 ++ ([v20.1]))))), (64, (.lst (x17 ++ ([v37.1])).length 1 (gl csB (x17 ++ ([v37.1])))))]⟩) (ob := (Zt3 ((⟨[(0, (vp 0 0)), (2, (vp 1 0)), (3, (vp 2 0)), (4, (vc (.int .i64 (IntKind.i64.wrap ((2 : Int) + v3.1))))), (5, (vc (.int .i64 x12)))], [(0, (.box [(.fx 0 0 (sl 1 (csI .u8) a0.code)), (.c (.int .i64 v37.2.1)), (.c (.int .u64 v37.2.2))])), (1, (.box [.nils, .nils, .nils, .nils, (.c (.flt .f32 (default : F32).bits)), (.c (.flt .f32 (default : F32).bits)), (.c (.flt .f32 (default : F32).bits)), (.c (.flt .f32 (default : F32).bits)), (.c (.int .i64 (0 : Int)))])), (2, (.box [(.lst 54 (x15 ++ ([v20.1])).length 3 (gl cs_Vector (x15 ++ ([v20.1])))), (.lst 62 (x16 ++ ([v20.1])).length 3 (gl cs_Vector (x16 ++ ([v20.1])))), (.lst 64 (x17 ++ ([v37.1])).length 1 (gl csB (x17 ++ ([v37.1])))), (.lst 21 x18.length 1 (gl (csF .f32) x18)), (.c (.flt .f32 (default : F32).bits)), (.c (.flt .f32 (default : F32).bits)), (.c (.flt .f32 (default : F32).bits)), (.c (.flt .f32 (default : F32).bits)), (.c (.int .i64 v1.1))])), (21, (.lst x18.length 1 (gl (csF .f32) x18))), (54, (.lst (x15 ++ ([v20.1])).length 3 (gl cs_Vector (x15 ++ ([v20.1]))))), (62, (.lst (x16 ++ ([v20.1])).length 3 (gl cs_Vector (x16 ++ ([v20.1]))))), (64, (.lst (x17 ++ ([v37.1])).length 1 (gl csB (x17 ++ ([v37.1])))))]⟩ : St) = ⟨[(0, (vp 0 0)), (2, (vp 1 0)), (3, (vp 2 0)), (4, (vc (.int .i64 (IntKind.i64.wrap ((2 : Int) + v3.1))))), (5, (vc (.int .i64 x12)))], [(0, (.box [(.fx 0 0 (sl 1 (csI .u8) a0.code)), (.c (.int .i64 v37.2.1)), (.c (.int .u64 v37.2.2))])), (1, (.box [.nils, .nils, .nils, .nils, (.c (.flt .f32 (default : F32).bits)), (.c (.flt .f32 (default : F32).bits)), (.c (.flt .f32 (default : F32).bits)), (.c (.flt .f32 (default : F32).bits)), (.c (.int .i64 (0 : Int)))])), (2, (.box [(.lst 54 (x15 ++ ([v20.1])).length 3 (gl cs_Vector (x15 ++ ([v20.1])))), (.lst 62 (x16 ++ ([v20.1])).length 3 (gl cs_Vector (x16 ++ ([v20.1])))), (.lst 64 (x17 ++ ([v37.1])).length 1 (gl csB (x17 ++ ([v37.1])))), (.lst 21 x18.length 1 (gl (csF .f32) x18)), (.c (.flt .f32 (default : F32).bits)), (.c (.flt .f32 (default : F32).bits)), (.c (.flt .f32 (default : F32).bits)), (.c (.flt .f32 (default : F32).bits)), (.c (.int .i64 v1.1))])), (21, (.lst x18.length 1 (gl (csF .f32) x18))), (54, (.lst (x15 ++ ([v20.1])).length 3 (gl cs_Vector (x15 ++ ([v20.1]))))), (62, (.lst (x16 ++ ([v20.1])).length 3 (gl cs_Vector (x16 ++ ([v20.1]))))), (64, (.lst (x17 ++ ([v37.1])).length 1 (gl csB (x17 ++ ([v37.1])))))]⟩) (((((Eqc (sl 1 (csI .u8) a0.code)) ∧ (Eqc (.int .i64 v23.2.1)) ∧ (Eqc (.int .u64 v23.2.2)) ∧ Tt) ∧ (Eqc (.int .i64 (3 : Int))) ∧ Tt) ∧ MutOK Try.prog 33 [(.box 3 (fun j => [true, false, false].getD j true) (fun j => (cs_l00Src (l00Src.mk a0.code v23.2.1 v23.2.2)).getD j .nilptr) (fun j => [.nilptr, (.int .i64 v37.2.1), (.int .u64 v37.2.2)].getD j .nilptr)), .one (.ro (.int .i64 (3 : Int)))] [.one (.bool v37.1)])) ((([v37.1]).length = 1 ∧ (((.bool v37.1) : C) = (.bool v37.1) ∧ Tt) ∧ Tt)) (((x17 ++ ([v37.1])).length = x17.length + ([v37.1]).length ∧ AppOb (x17.length) (([v37.1]).length) 1 (gl csB x17) (gl csB ([v37.1])) (gl csB (x17 ++ ([v37.1]))) ∧ (∀ i j, i < ([v37.1]).length → j < 1 → scalarC (gl csB ([v37.1]) i j)) ∧ (x17.length + ([v37.1]).length) * 1 ≤ 140737488355328)))) (by kernel_rfl) (zt3 rfl ⟨⟨⟨rfl, rfl, rfl, tr⟩, rfl, tr⟩, ok_spec_l00Src_one K (l00Src.mk a0.code v23.2.1 v23.2.2) (3 : Int) v37 e38⟩ ⟨rfl, ⟨⟨rfl, tr⟩, tr⟩⟩ ⟨List.length_append, gl_append, gl_scalar scB _, c39⟩) ?_
      refine thenQ_normal ?_
      refine AW.seq (AW.rA ⟨[(0, (vp 0 0)), (2, (vp 1 0)), (3, (vp 2 0)), (4, (vc (.int .i64 (IntKind.i64.wrap ((2 : Int) + v3.1))))), (5, (vc (.int .i64 x12))), (44, (vc (.bool (decide (x12 > (0 : Int))))))], [(0, (.box [(.fx 0 0 (sl 1 (csI .u8) a0.code)), (.c (.int .i64 v37.2.1)), (.c (.int .u64 v37.2.2))])), (1, (.box [.nils, .nils, .nils, .nils, (.c (.flt .f32 (default : F32).bits)), (.c (.flt .f32 (default : F32).bits)), (.c (.flt .f32 (default : F32).bits)), (.c (.flt .f32 (default : F32).bits)), (.c (.int .i64 (0 : Int)))])), (2, (.box [(.lst 54 (x15 ++ ([v20.1])).length 3 (gl cs_Vector (x15 ++ ([v20.1])))), (.lst 62 (x16 ++ ([v20.1])).length 3 (gl cs_Vector (x16 ++ ([v20.1])))), (.lst 64 (x17 ++ ([v37.1])).length 1 (gl csB (x17 ++ ([v37.1])))), (.lst 21 x18.length 1 (gl (csF .f32) x18)), (.c (.flt .f32 (default : F32).bits)), (.c (.flt .f32 (default : F32).bits)), (.c (.flt .f32 (default : F32).bits)), (.c (.flt .f32 (default : F32).bits)), (.c (.int .i64 v1.1))])), (21, (.lst x18.length 1 (gl (csF .f32) x18))), (54, (.lst (x15 ++ ([v20.1])).length 3 (gl cs_Vector (x15 ++ ([v20.1]))))), (62, (.lst (x16 ++ ([v20.1])).length 3 (gl cs_Vector (x16 ++ ([v20.1]))))), (64, (.lst (x17 ++ ([v37.1])).length 1 (gl csB (x17 ++ ([v37.1])))))]⟩ (T2 Tt) [] [0, 2, 3, 4, 5, 44] [0, 1, 2, 21, 54, 62, 64] ⟨tr, tr, tr⟩ (thenQ_normal ?_))
      rcases ite2_cases h with ⟨b40, h⟩ | ⟨b40, h⟩
      · refine AW.cond_t rfl b40 ?_
        obtain ⟨v41, e42, h⟩ := bind_some h
        obtain ⟨c43, h⟩ := chk_some h
        refine AW.firstA (by kernel_rfl) [0, 2] [.no, .no, .no, .callM [(.box 3 (fun j => [true, false, false].getD j true) (fun j => (cs_l00Src (l00Src.mk a0.code v37.2.1 v37.2.2)).getD j .nilptr) (fun j => [.nilptr, (.int .i64 v41.2.1), (.int .u64 v41.2.2)].getD j .nilptr))] [.one (.flt .f32 v41.1.bits)] [[.view]] none, .obj 65 ([v41.1]).length (gl (csF .f32) ([v41.1])), .objK 66 (x18 ++ ([v41.1])).length (gl (csF .f32) (x18 ++ ([v41.1])))] [0, 2, 3, 4, 5] [0, 1, 2, 54, 62, 64, 66] (s' := ⟨[(0, (vp 0 0)), (2, (vp 1 0)), (3, (vp 2 0)), (4, (vc (.int .i64 (IntKind.i64.wrap ((2 : Int) + v3.1))))), (5, (vc (.int .i64 x12)))], [(0, (.box [(.fx 0 0 (sl 1 (csI .u8) a0.code)), (.c (.int .i64 v41.2.1)), (.c (.int .u64 v41.2.2))])), (1, (.box [.nils, .nils, .nils, .nils, (.c (.flt .f32 (default : F32).bits)), (.c (.flt .f32 (default : F32).bits)), (.c (.flt .f32 (default : F32).bits)), (.c (.flt .f32 (default : F32).bits)), (.c (.int .i64 (0 : Int)))])), (2, (.box [(.lst 54 (x15 ++ ([v20.1])).length 3 (gl cs_Vector (x15 ++ ([v20.1])))), (.lst 62 (x16 ++ ([v20.1])).length 3 (gl cs_Vector (x16 ++ ([v20.1])))), (.lst 64 (x17 ++ ([v37.1])).length 1 (gl csB (x17 ++ ([v37.1])))), (.lst 66 (x18 ++ ([v41.1])).length 1 (gl (csF .f32) (x18 ++ ([v41.1])))), (.c (.flt .f32 (default : F32).bits)), (.c (.flt .f32 (default : F32).bits)), (.c (.flt .f32 (default : F32).bits)), (.c (.flt .f32 (default : F32).bits)), (.c (.int .i64 v1.1))])), (54, (.lst (x15 ++ ([v20.1])).length 3 (gl cs_Vector (x15 ++ ([v20.1]))))), (62, (.lst (x16 ++ ([v20.1])).length 3 (gl cs_Vector (x16 ++ ([v20.1]))))), (64, (.lst (x17 ++ ([v37.1])).length 1 (gl csB (x17 ++ ([v37.1]))))), (66, (.lst (x18 ++ ([v41.1])).length 1 (gl (csF .f32) (x18 ++ ([v41.1])))))]⟩) (ob := (Zt3 ((⟨[(0, (vp 0 0)), (2, (vp 1 0)), (3, (vp 2 0)), (4, (vc (.int .i64 (IntKind.i64.wrap ((2 : Int) + v3.1))))), (5, (vc (.int .i64 x12)))], [(0, (.box [(.fx 0 0 (sl 1 (csI .u8) a0.code)), (.c (.int .i64 v41.2.1)), (.c (.int .u64 v41.2.2))])), (1, (.box [.nils, .nils, .nils, .nils, (.c (.flt .f32 (default : F32).bits)), (.c (.flt .f32 (default : F32).bits)), (.c (.flt .f32 (default : F32).bits)), (.c (.flt .f32 (default : F32).bits)), (.c (.int .i64 (0 : Int)))])), (2, (.box [(.lst 54 (x15 ++ ([v20.1])).length 3 (gl cs_Vector (x15 ++ ([v20.1])))), (.lst 62 (x16 ++ ([v20.1])).length 3 (gl cs_Vector (x16 ++ ([v20.1])))), (.lst 64 (x17 ++ ([v37.1])).length 1 (gl csB (x17 ++ ([v37.1])))), (.lst 66 (x18 ++ ([v41.1])).length 1 (gl (csF .f32) (x18 ++ ([v41.1])))), (.c (.flt .f32 (default : F32).bits)), (.c (.flt .f32 (default : F32).bits)), (.c (.flt .f32 (default : F32).bits)), (.c (.flt .f32 (default : F32).bits)), (.c (.int .i64 v1.1))])), (54, (.lst (x15 ++ ([v20.1])).length 3 (gl cs_Vector (x15 ++ ([v20.1]))))), (62, (.lst (x16 ++ ([v20.1])).length 3 (gl cs_Vector (x16 ++ ([v20.1]))))), (64, (.lst (x17 ++ ([v37.1])).length 1 (gl csB (x17 ++ ([v37.1]))))), (66, (.lst (x18 ++ ([v41.1])).length 1 (gl (csF .f32) (x18 ++ ([v41.1])))))]⟩ : St) = ⟨[(0, (vp 0 0)), (2, (vp 1 0)), (3, (vp 2 0)), (4, (vc (.int .i64 (IntKind.i64.wrap ((2 : Int) + v3.1))))), (5, (vc (.int .i64 x12)))], [(0, (.box [(.fx 0 0 (sl 1 (csI .u8) a0.code)), (.c (.int .i64 v41.2.1)), (.c (.int .u64 v41.2.2))])), (1, (.box [.nils, .nils, .nils, .nils, (.c (.flt .f32 (default : F32).bits)), (.c (.flt .f32 (default : F32).bits)), (.c (.flt .f32 (default : F32).bits)), (.c (.flt .f32 (default : F32).bits)), (.c (.int .i64 (0 : Int)))])), (2, (.box [(.lst 54 (x15 ++ ([v20.1])).length 3 (gl cs_Vector (x15 ++ ([v20.1])))), (.lst 62 (x16 ++ ([v20.1])).length 3 (gl cs_Vector (x16 ++ ([v20.1])))), (.lst 64 (x17 ++ ([v37.1])).length 1 (gl csB (x17 ++ ([v37.1])))), (.lst 66 (x18 ++ ([v41.1])).length 1 (gl (csF .f32) (x18 ++ ([v41.1])))), (.c (.flt .f32 (default : F32).bits)), (.c (.flt .f32 (default : F32).bits)), (.c (.flt .f32 (default : F32).bits)), (.c (.flt .f32 (default : F32).bits)), (.c (.int .i64 v1.1))])), (54, (.lst (x15 ++ ([v20.1])).length 3 (gl cs_Vector (x15 ++ ([v20.1]))))), (62, (.lst (x16 ++ ([v20.1])).length 3 (gl cs_Vector (x16 ++ ([v20.1]))))), (64, (.lst (x17 ++ ([v37.1])).length 1 (gl csB (x17 ++ ([v37.1]))))), (66, (.lst (x18 ++ ([v41.1])).length 1 (gl (csF .f32) (x18 ++ ([v41.1])))))]⟩) (((((Eqc (sl 1 (csI .u8) a0.code)) ∧ (Eqc (.int .i64 v37.2.1)) ∧ (Eqc (.int .u64 v37.2.2)) ∧ Tt) ∧ Tt) ∧ MutOK Try.prog 34 [(.box 3 (fun j => [true, false, false].getD j true) (fun j => (cs_l00Src (l00Src.mk a0.code v37.2.1 v37.2.2)).getD j .nilptr) (fun j => [.nilptr, (.int .i64 v41.2.1), (.int .u64 v41.2.2)].getD j .nilptr))] [.one (.flt .f32 v41.1.bits)])) ((([v41.1]).length = 1 ∧ (((.flt .f32 v41.1.bits) : C) = (.flt .f32 v41.1.bits) ∧ Tt) ∧ Tt)) (((x18 ++ ([v41.1])).length = x18.length + ([v41.1]).length ∧ AppOb (x18.length) (([v41.1]).length) 1 (gl (csF .f32) x18) (gl (csF .f32) ([v41.1])) (gl (csF .f32) (x18 ++ ([v41.1]))) ∧ (∀ i j, i < ([v41.1]).length → j < 1 → scalarC (gl (csF .f32) ([v41.1]) i j)) ∧ (x18.length + ([v41.1]).length) * 4 ≤ 140737488355328)))) (by kernel_rfl) (zt3 rfl ⟨⟨⟨rfl, rfl, rfl, tr⟩, tr⟩, ok_spec_l04DrawLength K (l00Src.mk a0.code v37.2.1 v37.2.2) v41 e42⟩ ⟨rfl, ⟨⟨rfl, tr⟩, tr⟩⟩ ⟨List.length_append, gl_append, gl_scalar scF _, c43⟩) ?_
        refine blockQ_normal ?_
        refine thenQ_normal ?_
        refine AW.rA ⟨[(0, (vp 0 0)), (2, (vp 1 0)), (3, (vp 2 0)), (4, (vc (.int .i64 (IntKind.i64.wrap ((2 : Int) + v3.1))))), (5, (vc (.int .i64 (IntKind.i64.wrap (x12 + (1 : Int))))))], [(0, (.box [(.fx 0 0 (sl 1 (csI .u8) a0.code)), (.c (.int .i64 v41.2.1)), (.c (.int .u64 v41.2.2))])), (1, (.box [.nils, .nils, .nils, .nils, (.c (.flt .f32 (default : F32).bits)), (.c (.flt .f32 (default : F32).bits)), (.c (.flt .f32 (default : F32).bits)), (.c (.flt .f32 (default : F32).bits)), (.c (.int .i64 (0 : Int)))])), (2, (.box [(.lst 54 (x15 ++ ([v20.1])).length 3 (gl cs_Vector (x15 ++ ([v20.1])))), (.lst 62 (x16 ++ ([v20.1])).length 3 (gl cs_Vector (x16 ++ ([v20.1])))), (.lst 64 (x17 ++ ([v37.1])).length 1 (gl csB (x17 ++ ([v37.1])))), (.lst 66 (x18 ++ ([v41.1])).length 1 (gl (csF .f32) (x18 ++ ([v41.1])))), (.c (.flt .f32 (default : F32).bits)), (.c (.flt .f32 (default : F32).bits)), (.c (.flt .f32 (default : F32).bits)), (.c (.flt .f32 (default : F32).bits)), (.c (.int .i64 v1.1))])), (54, (.lst (x15 ++ ([v20.1])).length 3 (gl cs_Vector (x15 ++ ([v20.1]))))), (62, (.lst (x16 ++ ([v20.1])).length 3 (gl cs_Vector (x16 ++ ([v20.1]))))), (64, (.lst (x17 ++ ([v37.1])).length 1 (gl csB (x17 ++ ([v37.1]))))), (66, (.lst (x18 ++ ([v41.1])).length 1 (gl (csF .f32) (x18 ++ ([v41.1])))))]⟩ (Tt ∧ T2 Tt) [] [0, 2, 3, 4, 5] [0, 1, 2, 54, 62, 64, 66] ⟨tr, tr, tr, tr⟩ ?_
        exact loopQ_normal (k, (IntKind.i64.wrap (x12 + (1 : Int))), v41.2.1, v41.2.2, (x15 ++ ([v20.1])), (x16 ++ ([v20.1])), (x17 ++ ([v37.1])), (x18 ++ ([v41.1]))) h (Nat.lt_succ_self k) (Sub.trans (Sub.swap 18 54 _ (by kernel_rfl) (by kernel_rfl)) (Sub.trans (Sub.swap 19 62 _ (by kernel_rfl) (by kernel_rfl)) (Sub.trans (Sub.swap 20 64 _ (by kernel_rfl) (by kernel_rfl)) (Sub.trans (Sub.swap 21 66 _ (by kernel_rfl) (by kernel_rfl)) (Sub.keep [0, 2, 3, 4, 5] [0, 1, 2, 18, 19, 20, 21] (by kernel_rfl) (by kernel_rfl))))))
      · refine AW.cond_f rfl b40 ?_
        refine AW.skip ?_
        refine blockQ_normal ?_
        refine thenQ_normal ?_
        refine AW.rA ⟨[(0, (vp 0 0)), (2, (vp 1 0)), (3, (vp 2 0)), (4, (vc (.int .i64 (IntKind.i64.wrap ((2 : Int) + v3.1))))), (5, (vc (.int .i64 (IntKind.i64.wrap (x12 + (1 : Int))))))], [(0, (.box [(.fx 0 0 (sl 1 (csI .u8) a0.code)), (.c (.int .i64 v37.2.1)), (.c (.int .u64 v37.2.2))])), (1, (.box [.nils, .nils, .nils, .nils, (.c (.flt .f32 (default : F32).bits)), (.c (.flt .f32 (default : F32).bits)), (.c (.flt .f32 (default : F32).bits)), (.c (.flt .f32 (default : F32).bits)), (.c (.int .i64 (0 : Int)))])), (2, (.box [(.lst 54 (x15 ++ ([v20.1])).length 3 (gl cs_Vector (x15 ++ ([v20.1])))), (.lst 62 (x16 ++ ([v20.1])).length 3 (gl cs_Vector (x16 ++ ([v20.1])))), (.lst 64 (x17 ++ ([v37.1])).length 1 (gl csB (x17 ++ ([v37.1])))), (.lst 21 x18.length 1 (gl (csF .f32) x18)), (.c (.flt .f32 (default : F32).bits)), (.c (.flt .f32 (default : F32).bits)), (.c (.flt .f32 (default : F32).bits)), (.c (.flt .f32 (default : F32).bits)), (.c (.int .i64 v1.1))])), (21, (.lst x18.length 1 (gl (csF .f32) x18))), (54, (.lst (x15 ++ ([v20.1])).length 3 (gl cs_Vector (x15 ++ ([v20.1]))))), (62, (.lst (x16 ++ ([v20.1])).length 3 (gl cs_Vector (x16 ++ ([v20.1]))))), (64, (.lst (x17 ++ ([v37.1])).length 1 (gl csB (x17 ++ ([v37.1])))))]⟩ (Tt ∧ T2 Tt) [] [0, 2, 3, 4, 5] [0, 1, 2, 21, 54, 62, 64] ⟨tr, tr, tr, tr⟩ ?_
        exact loopQ_normal (k, (IntKind.i64.wrap (x12 + (1 : Int))), v37.2.1, v37.2.2, (x15 ++ ([v20.1])), (x16 ++ ([v20.1])), (x17 ++ ([v37.1])), x18) h (Nat.lt_succ_self k) (Sub.trans (Sub.swap 18 54 _ (by kernel_rfl) (by kernel_rfl)) (Sub.trans (Sub.swap 19 62 _ (by kernel_rfl) (by kernel_rfl)) (Sub.trans (Sub.swap 20 64 _ (by kernel_rfl) (by kernel_rfl)) (Sub.keep [0, 2, 3, 4, 5] [0, 1, 2, 18, 19, 20, 21] (by kernel_rfl) (by kernel_rfl)))))
  · refine AW.cond_f rfl b19 ?_
    refine AW.exit ?_
    refine thenQ_exit ?_
    refine loopQ_exit ?_
    refine blockQ_exit ?_
    refine thenQ_normal ?_
    refine AW.seq ?_
    refine AW.seq ?_
    obtain ⟨v44, e45, h⟩ := bind_some h
    refine AW.rA ⟨[(0, (vp 0 0)), (2, (vp 1 0)), (3, (vp 2 0)), (53, (vc (.bool v44.1)))], [(0, (.box [(.fx 0 0 (sl 1 (csI .u8) a0.code)), (.c (.int .i64 v44.2.1)), (.c (.int .u64 v44.2.2))])), (1, (.box [.nils, .nils, .nils, .nils, (.c (.flt .f32 (default : F32).bits)), (.c (.flt .f32 (default : F32).bits)), (.c (.flt .f32 (default : F32).bits)), (.c (.flt .f32 (default : F32).bits)), (.c (.int .i64 (0 : Int)))])), (2, (.box [(.lst 18 x15.length 3 (gl cs_Vector x15)), (.lst 19 x16.length 3 (gl cs_Vector x16)), (.lst 20 x17.length 1 (gl csB x17)), (.lst 21 x18.length 1 (gl (csF .f32) x18)), (.c (.flt .f32 (default : F32).bits)), (.c (.flt .f32 (default : F32).bits)), (.c (.flt .f32 (default : F32).bits)), (.c (.flt .f32 (default : F32).bits)), (.c (.int .i64 v1.1))])), (18, (.lst x15.length 3 (gl cs_Vector x15))), (19, (.lst x16.length 3 (gl cs_Vector x16))), (20, (.lst x17.length 1 (gl csB x17))), (21, (.lst x18.length 1 (gl (csF .f32) x18)))]⟩ (Tt ∧ ((((Eqc (sl 1 (csI .u8) a0.code)) ∧ (Eqc (.int .i64 x13)) ∧ (Eqc (.int .u64 x14)) ∧ Tt) ∧ (Eqc (.int .i64 (2 : Int))) ∧ Tt) ∧ MutOK Try.prog 33 [(.box 3 (fun j => [true, false, false].getD j true) (fun j => (cs_l00Src (l00Src.mk a0.code x13 x14)).getD j .nilptr) (fun j => [.nilptr, (.int .i64 v44.2.1), (.int .u64 v44.2.2)].getD j .nilptr)), .one (.ro (.int .i64 (2 : Int)))] [.one (.bool v44.1)]) ∧ Tt) [.no, .callM [(.box 3 (fun j => [true, false, false].getD j true) (fun j => (cs_l00Src (l00Src.mk a0.code x13 x14)).getD j .nilptr) (fun j => [.nilptr, (.int .i64 v44.2.1), (.int .u64 v44.2.2)].getD j .nilptr)), .one (.ro (.int .i64 (2 : Int)))] [.one (.bool v44.1)] [[.view]] none] [0, 2, 3, 53] [0, 1, 2, 18, 19, 20, 21] ⟨tr, ⟨⟨⟨rfl, rfl, rfl, tr⟩, rfl, tr⟩, ok_spec_l00Src_one K (l00Src.mk a0.code x13 x14) (2 : Int) v44 e45⟩, tr⟩ ?_
    refine thenQ_normal ?_
    rcases ite2_cases h with ⟨b46, h⟩ | ⟨b46, h⟩
    · refine AW.cond_t rfl b46 ?_
      obtain ⟨v47, e48, h⟩ := bind_some h
      refine AW.rA ⟨[(0, (vp 0 0)), (2, (vp 1 0)), (3, (vp 2 0))], [(0, (.box [(.fx 0 0 (sl 1 (csI .u8) a0.code)), (.c (.int .i64 v47.2.1)), (.c (.int .u64 v47.2.2))])), (1, (.box [.nils, .nils, .nils, .nils, (.c (.flt .f32 (default : F32).bits)), (.c (.flt .f32 (default : F32).bits)), (.c (.flt .f32 (default : F32).bits)), (.c (.flt .f32 (default : F32).bits)), (.c (.int .i64 (0 : Int)))])), (2, (.box [(.lst 18 x15.length 3 (gl cs_Vector x15)), (.lst 19 x16.length 3 (gl cs_Vector x16)), (.lst 20 x17.length 1 (gl csB x17)), (.lst 21 x18.length 1 (gl (csF .f32) x18)), (.c (.flt .f32 v47.1.X.bits)), (.c (.flt .f32 v47.1.Y.bits)), (.c (.flt .f32 v47.1.Z.bits)), (.c (.flt .f32 (default : F32).bits)), (.c (.int .i64 v1.1))])), (18, (.lst x15.length 3 (gl cs_Vector x15))), (19, (.lst x16.length 3 (gl cs_Vector x16))), (20, (.lst x17.length 1 (gl csB x17))), (21, (.lst x18.length 1 (gl (csF .f32) x18)))]⟩ (Tt ∧ ((((Eqc (sl 1 (csI .u8) a0.code)) ∧ (Eqc (.int .i64 v44.2.1)) ∧ (Eqc (.int .u64 v44.2.2)) ∧ Tt) ∧ Tt) ∧ MutOK Try.prog 32 [(.box 3 (fun j => [true, false, false].getD j true) (fun j => (cs_l00Src (l00Src.mk a0.code v44.2.1 v44.2.2)).getD j .nilptr) (fun j => [.nilptr, (.int .i64 v47.2.1), (.int .u64 v47.2.2)].getD j .nilptr))] [.agg (cs_Vector v47.1)]) ∧ T2 Tt) [.no, .callM [(.box 3 (fun j => [true, false, false].getD j true) (fun j => (cs_l00Src (l00Src.mk a0.code v44.2.1 v44.2.2)).getD j .nilptr) (fun j => [.nilptr, (.int .i64 v47.2.1), (.int .u64 v47.2.2)].getD j .nilptr))] [.agg (cs_Vector v47.1)] [[.view, .view, .view]] none] [0, 2, 3] [0, 1, 2, 18, 19, 20, 21] ⟨tr, ⟨⟨⟨rfl, rfl, rfl, tr⟩, tr⟩, ok_spec_l01DrawVector K (l00Src.mk a0.code v44.2.1 v44.2.2) v47 e48⟩, tr, tr, tr⟩ ?_
      refine thenQ_normal ?_
      refine AW.seq ?_
      obtain ⟨v49, e50, h⟩ := bind_some h
      refine AW.rA ⟨[(0, (vp 0 0)), (2, (vp 1 0)), (3, (vp 2 0))], [(0, (.box [(.fx 0 0 (sl 1 (csI .u8) a0.code)), (.c (.int .i64 v49.2.1)), (.c (.int .u64 v49.2.2))])), (1, (.box [.nils, .nils, .nils, .nils, (.c (.flt .f32 (default : F32).bits)), (.c (.flt .f32 (default : F32).bits)), (.c (.flt .f32 (default : F32).bits)), (.c (.flt .f32 (default : F32).bits)), (.c (.int .i64 (0 : Int)))])), (2, (.box [(.lst 18 x15.length 3 (gl cs_Vector x15)), (.lst 19 x16.length 3 (gl cs_Vector x16)), (.lst 20 x17.length 1 (gl csB x17)), (.lst 21 x18.length 1 (gl (csF .f32) x18)), (.c (.flt .f32 v47.1.X.bits)), (.c (.flt .f32 v47.1.Y.bits)), (.c (.flt .f32 v47.1.Z.bits)), (.c (.flt .f32 v49.1.bits)), (.c (.int .i64 v1.1))])), (18, (.lst x15.length 3 (gl cs_Vector x15))), (19, (.lst x16.length 3 (gl cs_Vector x16))), (20, (.lst x17.length 1 (gl csB x17))), (21, (.lst x18.length 1 (gl (csF .f32) x18)))]⟩ (Tt ∧ ((((Eqc (sl 1 (csI .u8) a0.code)) ∧ (Eqc (.int .i64 v47.2.1)) ∧ (Eqc (.int .u64 v47.2.2)) ∧ Tt) ∧ Tt) ∧ MutOK Try.prog 35 [(.box 3 (fun j => [true, false, false].getD j true) (fun j => (cs_l00Src (l00Src.mk a0.code v47.2.1 v47.2.2)).getD j .nilptr) (fun j => [.nilptr, (.int .i64 v49.2.1), (.int .u64 v49.2.2)].getD j .nilptr))] [.one (.flt .f32 v49.1.bits)]) ∧ T2 Tt) [.no, .callM [(.box 3 (fun j => [true, false, false].getD j true) (fun j => (cs_l00Src (l00Src.mk a0.code v47.2.1 v47.2.2)).getD j .nilptr) (fun j => [.nilptr, (.int .i64 v49.2.1), (.int .u64 v49.2.2)].getD j .nilptr))] [.one (.flt .f32 v49.1.bits)] [[.view]] none] [0, 2, 3] [0, 1, 2, 18, 19, 20, 21] ⟨tr, ⟨⟨⟨rfl, rfl, rfl, tr⟩, tr⟩, ok_spec_l02DrawShare K (l00Src.mk a0.code v47.2.1 v47.2.2) v49 e50⟩, tr, tr, tr⟩ ?_
      refine thenQ_normal ?_
      refine AW.seq (AW.rA ⟨[(0, (vp 0 0)), (2, (vp 1 0))], [(0, (.box [(.fx 0 0 (sl 1 (csI .u8) a0.code)), (.c (.int .i64 v49.2.1)), (.c (.int .u64 v49.2.2))])), (1, (.box [(.lst 18 x15.length 3 (gl cs_Vector x15)), (.lst 19 x16.length 3 (gl cs_Vector x16)), (.lst 20 x17.length 1 (gl csB x17)), (.lst 21 x18.length 1 (gl (csF .f32) x18)), (.c (.flt .f32 v47.1.X.bits)), (.c (.flt .f32 v47.1.Y.bits)), (.c (.flt .f32 v47.1.Z.bits)), (.c (.flt .f32 v49.1.bits)), (.c (.int .i64 v1.1))])), (18, (.lst x15.length 3 (gl cs_Vector x15))), (19, (.lst x16.length 3 (gl cs_Vector x16))), (20, (.lst x17.length 1 (gl csB x17))), (21, (.lst x18.length 1 (gl (csF .f32) x18)))]⟩ (T2 Tt) [] [0, 2] [0, 1, 18, 19, 20, 21] ⟨tr, tr, tr⟩ (thenQ_normal ?_))
      refine AW.ret ?_
      replace h := some_eq h
      subst h
      exact ⟨.inr rfl, retOK_of [(.agg [(.lst 18 x15.length 3 (gl cs_Vector x15)), (.lst 19 x16.length 3 (gl cs_Vector x16)), (.lst 20 x17.length 1 (gl csB x17)), (.lst 21 x18.length 1 (gl (csF .f32) x18)), (.c (.flt .f32 v47.1.X.bits)), (.c (.flt .f32 v47.1.Y.bits)), (.c (.flt .f32 v47.1.Z.bits)), (.c (.flt .f32 v49.1.bits)), (.c (.int .i64 v1.1))])] (by kernel_rfl) ⟨⟨rfl, rfl, rfl, rfl, ⟨rfl, tr⟩, ⟨rfl, tr⟩, ⟨rfl, tr⟩, ⟨rfl, tr⟩, ⟨rfl, tr⟩, tr⟩, tr⟩ (of_decide_eq_true (by kernel_rfl)), by kernel_rfl, ⟨⟨rfl, ⟨⟨rfl, rfl⟩, ⟨rfl, rfl⟩, ⟨rfl, rfl⟩, tr⟩⟩, tr⟩⟩
    · refine AW.cond_f rfl b46 ?_
      refine AW.skip ?_
      refine thenQ_normal ?_
      refine AW.seq ?_
      obtain ⟨v51, e52, h⟩ := bind_some h
      refine AW.rA ⟨[(0, (vp 0 0)), (2, (vp 1 0)), (3, (vp 2 0))], [(0, (.box [(.fx 0 0 (sl 1 (csI .u8) a0.code)), (.c (.int .i64 v51.2.1)), (.c (.int .u64 v51.2.2))])), (1, (.box [.nils, .nils, .nils, .nils, (.c (.flt .f32 (default : F32).bits)), (.c (.flt .f32 (default : F32).bits)), (.c (.flt .f32 (default : F32).bits)), (.c (.flt .f32 (default : F32).bits)), (.c (.int .i64 (0 : Int)))])), (2, (.box [(.lst 18 x15.length 3 (gl cs_Vector x15)), (.lst 19 x16.length 3 (gl cs_Vector x16)), (.lst 20 x17.length 1 (gl csB x17)), (.lst 21 x18.length 1 (gl (csF .f32) x18)), (.c (.flt .f32 (default : F32).bits)), (.c (.flt .f32 (default : F32).bits)), (.c (.flt .f32 (default : F32).bits)), (.c (.flt .f32 v51.1.bits)), (.c (.int .i64 v1.1))])), (18, (.lst x15.length 3 (gl cs_Vector x15))), (19, (.lst x16.length 3 (gl cs_Vector x16))), (20, (.lst x17.length 1 (gl csB x17))), (21, (.lst x18.length 1 (gl (csF .f32) x18)))]⟩ (Tt ∧ ((((Eqc (sl 1 (csI .u8) a0.code)) ∧ (Eqc (.int .i64 v44.2.1)) ∧ (Eqc (.int .u64 v44.2.2)) ∧ Tt) ∧ Tt) ∧ MutOK Try.prog 35 [(.box 3 (fun j => [true, false, false].getD j true) (fun j => (cs_l00Src (l00Src.mk a0.code v44.2.1 v44.2.2)).getD j .nilptr) (fun j => [.nilptr, (.int .i64 v51.2.1), (.int .u64 v51.2.2)].getD j .nilptr))] [.one (.flt .f32 v51.1.bits)]) ∧ T2 Tt) [.no, .callM [(.box 3 (fun j => [true, false, false].getD j true) (fun j => (cs_l00Src (l00Src.mk a0.code v44.2.1 v44.2.2)).getD j .nilptr) (fun j => [.nilptr, (.int .i64 v51.2.1), (.int .u64 v51.2.2)].getD j .nilptr))] [.one (.flt .f32 v51.1.bits)] [[.view]] none] [0, 2, 3] [0, 1, 2, 18, 19, 20, 21] ⟨tr, ⟨⟨⟨rfl, rfl, rfl, tr⟩, tr⟩, ok_spec_l02DrawShare K (l00Src.mk a0.code v44.2.1 v44.2.2) v51 e52⟩, tr, tr, tr⟩ ?_
      refine thenQ_normal ?_
      refine AW.seq (AW.rA ⟨[(0, (vp 0 0)), (2, (vp 1 0))], [(0, (.box [(.fx 0 0 (sl 1 (csI .u8) a0.code)), (.c (.int .i64 v51.2.1)), (.c (.int .u64 v51.2.2))])), (1, (.box [(.lst 18 x15.length 3 (gl cs_Vector x15)), (.lst 19 x16.length 3 (gl cs_Vector x16)), (.lst 20 x17.length 1 (gl csB x17)), (.lst 21 x18.length 1 (gl (csF .f32) x18)), (.c (.flt .f32 (default : F32).bits)), (.c (.flt .f32 (default : F32).bits)), (.c (.flt .f32 (default : F32).bits)), (.c (.flt .f32 v51.1.bits)), (.c (.int .i64 v1.1))])), (18, (.lst x15.length 3 (gl cs_Vector x15))), (19, (.lst x16.length 3 (gl cs_Vector x16))), (20, (.lst x17.length 1 (gl csB x17))), (21, (.lst x18.length 1 (gl (csF .f32) x18)))]⟩ (T2 Tt) [] [0, 2] [0, 1, 18, 19, 20, 21] ⟨tr, tr, tr⟩ (thenQ_normal ?_))
      refine AW.ret ?_
      replace h := some_eq h
      subst h
      exact ⟨.inr rfl, retOK_of [(.agg [(.lst 18 x15.length 3 (gl cs_Vector x15)), (.lst 19 x16.length 3 (gl cs_Vector x16)), (.lst 20 x17.length 1 (gl csB x17)), (.lst 21 x18.length 1 (gl (csF .f32) x18)), (.c (.flt .f32 (default : F32).bits)), (.c (.flt .f32 (default : F32).bits)), (.c (.flt .f32 (default : F32).bits)), (.c (.flt .f32 v51.1.bits)), (.c (.int .i64 v1.1))])] (by kernel_rfl) ⟨⟨rfl, rfl, rfl, rfl, ⟨rfl, tr⟩, ⟨rfl, tr⟩, ⟨rfl, tr⟩, ⟨rfl, tr⟩, ⟨rfl, tr⟩, tr⟩, tr⟩ (of_decide_eq_true (by kernel_rfl)), by kernel_rfl, ⟨⟨rfl, ⟨⟨rfl, rfl⟩, ⟨rfl, rfl⟩, ⟨rfl, rfl⟩, tr⟩⟩, tr⟩⟩

/-! spec.R8String -/
def spec_R8String (K : Nat) (a0 : (List Int)) : Option (String) :=
  (spec_l08DrawOk K (l00Src.mk a0 (0 : Int) (0 : Int))).bind fun v1 => some v1.1

theorem ok_spec_R8String (K : Nat) (a0 : (List Int)) (o : (String)) (h : spec_R8String K a0 = some o) : CallOK Try.prog 5 [.one (sl 1 (csI .u8) a0)] [.agg (cs_String o)] := by
  refine callOK_of_AW Try.func5 rfl (by kernel_rfl) (Nat.le_of_ble_eq_true (by kernel_rfl)) ?_
  intro w0
  unfold spec_R8String at h
  refine AW.seq (AW.rA ⟨[(0, (vc (sl 1 (csI .u8) a0))), (2, (vp 1 0))], [(1, (.box [.nils, .nils, .nils, .nils, (.c (.flt .f32 (default : F32).bits)), (.c (.flt .f32 (default : F32).bits)), (.c (.flt .f32 (default : F32).bits)), (.c (.flt .f32 (default : F32).bits)), (.c (.int .i64 (0 : Int)))]))]⟩ (Tt ∧ Tt) [.box 1] [0, 2] [1] ⟨tr, tr⟩ (thenQ_normal ?_))
  refine AW.seq (AW.mkA 1 2 [(.i64, 0), (.u64, 0)] [.no] [] [2, 3] [1, 2] (s' := ⟨[(2, (vp 1 0)), (3, (vp 2 0))], [(1, (.box [.nils, .nils, .nils, .nils, (.c (.flt .f32 (default : F32).bits)), (.c (.flt .f32 (default : F32).bits)), (.c (.flt .f32 (default : F32).bits)), (.c (.flt .f32 (default : F32).bits)), (.c (.int .i64 (0 : Int)))])), (2, (.box [(.c (sl 1 (csI .u8) a0)), (.c (.int .i64 (0 : Int))), (.c (.int .u64 (0 : Int)))]))]⟩) (ob := (Tt ∧ Tt) ∧ Tt ∧ (Tt ∧ Tt)) (by kernel_rfl) ⟨⟨tr, tr⟩, tr, ⟨tr, tr⟩⟩ mk_spec_l00From (thenQ_normal ?_))
  refine AW.seq ?_
  obtain ⟨v1, e2, h⟩ := bind_some h
  refine AW.rA ⟨[(2, (vp 1 0))], [(1, (.box [(.lst 3 v1.1.Points.length 3 (gl cs_Vector v1.1.Points)), (.lst 4 v1.1.Before.length 3 (gl cs_Vector v1.1.Before)), (.lst 5 v1.1.Fixed.length 1 (gl csB v1.1.Fixed)), (.lst 6 v1.1.Lengths.length 1 (gl (csF .f32) v1.1.Lengths)), (.c (.flt .f32 v1.1.Fall.X.bits)), (.c (.flt .f32 v1.1.Fall.Y.bits)), (.c (.flt .f32 v1.1.Fall.Z.bits)), (.c (.flt .f32 v1.1.Damp.bits)), (.c (.int .i64 v1.1.Passes))])), (3, (.lst v1.1.Points.length 3 (gl cs_Vector v1.1.Points))), (4, (.lst v1.1.Before.length 3 (gl cs_Vector v1.1.Before))), (5, (.lst v1.1.Fixed.length 1 (gl csB v1.1.Fixed))), (6, (.lst v1.1.Lengths.length 1 (gl (csF .f32) v1.1.Lengths)))]⟩ (Tt ∧ ((((Eqc (sl 1 (csI .u8) a0)) ∧ (Eqc (.int .i64 (0 : Int))) ∧ (Eqc (.int .u64 (0 : Int))) ∧ Tt) ∧ Tt) ∧ MutOK Try.prog 16 [(.box 3 (fun j => [true, false, false].getD j true) (fun j => (cs_l00Src (l00Src.mk a0 (0 : Int) (0 : Int))).getD j .nilptr) (fun j => [.nilptr, (.int .i64 v1.2.1), (.int .u64 v1.2.2)].getD j .nilptr))] [.agg (cs_String v1.1)]) ∧ Tt ∧ Tt) [.no, .callM [(.box 3 (fun j => [true, false, false].getD j true) (fun j => (cs_l00Src (l00Src.mk a0 (0 : Int) (0 : Int))).getD j .nilptr) (fun j => [.nilptr, (.int .i64 v1.2.1), (.int .u64 v1.2.2)].getD j .nilptr))] [.agg (cs_String v1.1)] [[.lst 3, .lst 4, .lst 5, .lst 6, .view, .view, .view, .view, .view]] none] [2] [1, 3, 4, 5, 6] ⟨tr, ⟨⟨⟨rfl, rfl, rfl, tr⟩, tr⟩, ok_spec_l08DrawOk K (l00Src.mk a0 (0 : Int) (0 : Int)) v1 e2⟩, tr, tr⟩ ?_
  refine thenQ_normal ?_
  refine AW.ret ?_
  replace h := some_eq h
  subst h
  exact ⟨.inr rfl, retOK_of [(.agg [(.lst 3 v1.1.Points.length 3 (gl cs_Vector v1.1.Points)), (.lst 4 v1.1.Before.length 3 (gl cs_Vector v1.1.Before)), (.lst 5 v1.1.Fixed.length 1 (gl csB v1.1.Fixed)), (.lst 6 v1.1.Lengths.length 1 (gl (csF .f32) v1.1.Lengths)), (.c (.flt .f32 v1.1.Fall.X.bits)), (.c (.flt .f32 v1.1.Fall.Y.bits)), (.c (.flt .f32 v1.1.Fall.Z.bits)), (.c (.flt .f32 v1.1.Damp.bits)), (.c (.int .i64 v1.1.Passes))])] (by kernel_rfl) ⟨⟨rfl, rfl, rfl, rfl, ⟨rfl, tr⟩, ⟨rfl, tr⟩, ⟨rfl, tr⟩, ⟨rfl, tr⟩, ⟨rfl, tr⟩, tr⟩, tr⟩ (of_decide_eq_true (by kernel_rfl))⟩

/-! laws.r8At -/
def laws_r8At (_K : Nat) (a0 : (List Int)) (a1 : Int) (a2 : Int) : Option (Int) :=
  (ite2 ((decide (a2 ≤ (1 : Int)))) (some true) (some (decide (a1 ≥ (a0.length : Int))))).bind fun j2 => ite2 (j2) (some (0 : Int)) (chk (0 ≤ a1 ∧ a1 < (a0.length : Int)) (chk (a2 ≠ 0) (some ((IntKind.i64.wrap (a0.getD a1.toNat default)).tmod a2))))

theorem ok_laws_r8At (K : Nat) (a0 : (List Int)) (a1 : Int) (a2 : Int) (o : (Int)) (h : laws_r8At K a0 a1 a2 = some o) : CallOK Try.prog 6 [.one (sl 1 (csI .u8) a0), .one (.int .i64 a1), .one (.int .i64 a2)] [.one (.int .i64 o)] := by
  refine callOK_of_AW Try.func6 rfl (by kernel_rfl) (Nat.le_of_ble_eq_true (by kernel_rfl)) ?_
  intro w0
  unfold laws_r8At at h
  refine AW.seq (AW.rA ⟨[(0, (vc (sl 1 (csI .u8) a0))), (1, (vc (.int .i64 a1))), (2, (vc (.int .i64 a2)))], []⟩ (Tt ∧ Tt) [] [0, 1, 2] [] ⟨tr, tr⟩ (thenQ_normal ?_))
  refine AW.seq ?_
  refine AW.seq ?_
  obtain ⟨j2, e3, h⟩ := bind_some h
  refine AW.join1 (s2 := ⟨[(0, (vc (sl 1 (csI .u8) a0))), (1, (vc (.int .i64 a1))), (2, (vc (.int .i64 a2))), (14, (vc (.bool j2)))], []⟩) ?_ ?_
  · rcases ite2_cases e3 with ⟨b1, e3⟩ | ⟨b1, e3⟩
    · replace e3 := some_eq e3
      subst e3
      exact AW.rA ⟨[(0, (vc (sl 1 (csI .u8) a0))), (1, (vc (.int .i64 a1))), (2, (vc (.int .i64 a2))), (14, (vc (.bool true)))], []⟩ (T2 ((Tt ∧ (decide (a2 ≤ (1 : Int))) = true) ∧ Tt ∧ T4 Tt)) [.no, .no, .dec true] [0, 1, 2, 14] [] ⟨tr, tr, ⟨tr, b1⟩, tr, tr, tr, tr, tr, tr⟩ ⟨rfl, rfl⟩
    · replace e3 := some_eq e3
      subst e3
      exact AW.rA ⟨[(0, (vc (sl 1 (csI .u8) a0))), (1, (vc (.int .i64 a1))), (2, (vc (.int .i64 a2))), (14, (vc (.bool (decide (a1 ≥ (a0.length : Int))))))], []⟩ (T2 ((Tt ∧ (decide (a2 ≤ (1 : Int))) = false) ∧ Tt ∧ T4 Tt)) [.no, .no, .dec false] [0, 1, 2, 14] [] ⟨tr, tr, ⟨tr, b1⟩, tr, tr, tr, tr, tr, tr⟩ ⟨rfl, rfl⟩
  refine thenQ_normal ?_
  rcases ite2_cases h with ⟨b4, h⟩ | ⟨b4, h⟩
  · refine AW.cond_t rfl b4 ?_
    refine AW.seq (AW.rA ⟨[(6, (vc (.int .i64 (0 : Int))))], []⟩ (Tt ∧ Tt) [] [6] [] ⟨tr, tr⟩ (thenQ_normal ?_))
    refine AW.ret ?_
    refine thenQ_ret ?_
    replace h := some_eq h
    subst h
    exact ⟨.inr rfl, retOK_of [(.one (.c (.int .i64 (0 : Int))))] (by kernel_rfl) ⟨⟨rfl, tr⟩, tr⟩ (of_decide_eq_true (by kernel_rfl))⟩
  · refine AW.cond_f rfl b4 ?_
    refine AW.skip ?_
    refine thenQ_normal ?_
    refine AW.seq ?_
    obtain ⟨c5, h⟩ := chk_some h
    obtain ⟨c6, h⟩ := chk_some h
    refine AW.rA ⟨[(6, (vc (.int .i64 ((IntKind.i64.wrap (a0.getD a1.toNat default)).tmod a2))))], []⟩ (T2 ((0 ≤ a1 ∧ a1 < (a0.length : Int)) ∧ Tt ∧ T2 ((a2 ≠ 0) ∧ Tt ∧ Tt))) [] [6] [] ⟨tr, tr, c5, tr, tr, tr, c6, tr, tr⟩ ?_
    refine thenQ_normal ?_
    refine AW.ret ?_
    replace h := some_eq h
    subst h
    exact ⟨.inr rfl, retOK_of [(.one (.c (.int .i64 ((IntKind.i64.wrap (a0.getD a1.toNat default)).tmod a2))))] (by kernel_rfl) ⟨⟨rfl, tr⟩, tr⟩ (of_decide_eq_true (by kernel_rfl))⟩

/-! impl.arePoints -/
def impl_arePoints (_K : Nat) (a0 : (List Vector)) : Option (Bool) :=
  (ite2 ((decide ((a0.length : Int) ≥ (2 : Int)))) (some (decide ((a0.length : Int) ≤ (16 : Int)))) (some false)).bind fun j2 => some j2

theorem ok_impl_arePoints (K : Nat) (a0 : (List Vector)) (o : (Bool)) (h : impl_arePoints K a0 = some o) : CallOK Try.prog 20 [.one (sl 3 cs_Vector a0)] [.one (.bool o)] := by
  refine callOK_of_AW Try.func20 rfl (by kernel_rfl) (Nat.le_of_ble_eq_true (by kernel_rfl)) ?_
  intro w0
  unfold impl_arePoints at h
  refine AW.seq (AW.rA ⟨[(0, (vc (sl 3 cs_Vector a0)))], []⟩ (Tt ∧ Tt) [] [0] [] ⟨tr, tr⟩ (thenQ_normal ?_))
  refine AW.seq ?_
  obtain ⟨j2, e3, h⟩ := bind_some h
  refine AW.join1 (s2 := ⟨[(2, (vc (.bool j2)))], []⟩) ?_ ?_
  · rcases ite2_cases e3 with ⟨b1, e3⟩ | ⟨b1, e3⟩
    · replace e3 := some_eq e3
      subst e3
      exact AW.rA ⟨[(2, (vc (.bool (decide ((a0.length : Int) ≤ (16 : Int))))))], []⟩ (Tt ∧ T2 ((Tt ∧ (decide ((a0.length : Int) ≥ (2 : Int))) = true) ∧ Tt ∧ T4 Tt)) [.no, .no, .no, .dec true] [2] [] ⟨tr, tr, tr, ⟨tr, b1⟩, tr, tr, tr, tr, tr, tr⟩ ⟨rfl, rfl⟩
    · replace e3 := some_eq e3
      subst e3
      exact AW.rA ⟨[(2, (vc (.bool false)))], []⟩ (Tt ∧ T2 ((Tt ∧ (decide ((a0.length : Int) ≥ (2 : Int))) = false) ∧ Tt ∧ T4 Tt)) [.no, .no, .no, .dec false] [2] [] ⟨tr, tr, tr, ⟨tr, b1⟩, tr, tr, tr, tr, tr, tr⟩ ⟨rfl, rfl⟩
  refine thenQ_normal ?_
  refine AW.ret ?_
  replace h := some_eq h
  subst h
  exact ⟨.inr rfl, retOK_of [(.one (.c (.bool j2)))] (by kernel_rfl) ⟨⟨rfl, tr⟩, tr⟩ (of_decide_eq_true (by kernel_rfl))⟩

/-! impl.ValidString -/
def impl_ValidString (K : Nat) (a0 : String) : Option (Bool) :=
  (impl_arePoints K a0.Points).bind fun v1 => (ite2 (v1) (ite2 (((a0.Before.length : Int) == (a0.Points.length : Int))) (ite2 (((a0.Fixed.length : Int) == (a0.Points.length : Int))) (ite2 (((a0.Lengths.length : Int) == (IntKind.i64.wrap ((a0.Points.length : Int) - (1 : Int))))) (ite2 ((decide (a0.Passes ≥ (0 : Int)))) (some (decide (a0.Passes ≤ (16 : Int)))) (some false)) (some false)) (some false)) (some false)) (some false)).bind fun j8 => some j8

theorem ok_impl_ValidString (K : Nat) (a0 : String) (o : (Bool)) (h : impl_ValidString K a0 = some o) : CallOK Try.prog 8 [.agg (cs_String a0)] [.one (.bool o)] := by
  refine callOK_of_AW Try.func8 rfl (by kernel_rfl) (Nat.le_of_ble_eq_true (by kernel_rfl)) ?_
  intro w0
  unfold impl_ValidString at h
  refine AW.seq (AW.rA ⟨[(1, (vp 1 0))], [(1, (.box [(.c (sl 3 cs_Vector a0.Points)), (.c (sl 3 cs_Vector a0.Before)), (.c (sl 1 csB a0.Fixed)), (.c (sl 1 (csF .f32) a0.Lengths)), (.c (.flt .f32 a0.Fall.X.bits)), (.c (.flt .f32 a0.Fall.Y.bits)), (.c (.flt .f32 a0.Fall.Z.bits)), (.c (.flt .f32 a0.Damp.bits)), (.c (.int .i64 a0.Passes))]))]⟩ (T2 Tt) [.box 1] [1] [1] ⟨tr, tr, tr⟩ (thenQ_normal ?_))
  refine AW.seq (AW.rA ⟨[(1, (vp 1 0)), (3, (vc (.int .i64 (a0.Points.length : Int))))], [(1, (.box [(.c (sl 3 cs_Vector a0.Points)), (.c (sl 3 cs_Vector a0.Before)), (.c (sl 1 csB a0.Fixed)), (.c (sl 1 (csF .f32) a0.Lengths)), (.c (.flt .f32 a0.Fall.X.bits)), (.c (.flt .f32 a0.Fall.Y.bits)), (.c (.flt .f32 a0.Fall.Z.bits)), (.c (.flt .f32 a0.Damp.bits)), (.c (.int .i64 a0.Passes))]))]⟩ (T4 Tt) [] [1, 3] [1] ⟨tr, tr, tr, tr, tr⟩ (thenQ_normal ?_))
  refine AW.seq ?_
  obtain ⟨v1, e2, h⟩ := bind_some h
  obtain ⟨j8, e9, h⟩ := bind_some h
  refine AW.join1 (s2 := ⟨[(2, (vc (.bool j8)))], []⟩) ?_ ?_
  · rcases ite2_cases e9 with ⟨b3, e9⟩ | ⟨b3, e9⟩
    · rcases ite2_cases e9 with ⟨b4, e9⟩ | ⟨b4, e9⟩
      · rcases ite2_cases e9 with ⟨b5, e9⟩ | ⟨b5, e9⟩
        · rcases ite2_cases e9 with ⟨b6, e9⟩ | ⟨b6, e9⟩
          · rcases ite2_cases e9 with ⟨b7, e9⟩ | ⟨b7, e9⟩
            · replace e9 := some_eq e9
              subst e9
              exact AW.rA ⟨[(2, (vc (.bool (decide (a0.Passes ≤ (16 : Int))))))], []⟩ (T2 ((((Eqc (sl 3 cs_Vector a0.Points)) ∧ Tt) ∧ CallOK Try.prog 20 [.one (sl 3 cs_Vector a0.Points)] [.one (.bool v1)]) ∧ (Tt ∧ v1 = true) ∧ T2 (T4 ((Tt ∧ ((a0.Before.length : Int) == (a0.Points.length : Int)) = true) ∧ T2 (T4 ((Tt ∧ ((a0.Fixed.length : Int) == (a0.Points.length : Int)) = true) ∧ Tt ∧ T2 (T4 ((Tt ∧ ((a0.Lengths.length : Int) == (IntKind.i64.wrap ((a0.Points.length : Int) - (1 : Int)))) = true) ∧ T4 ((Tt ∧ (decide (a0.Passes ≥ (0 : Int))) = true) ∧ Tt ∧ T4 Tt))))))))) [.no, .no, .call [.one (sl 3 cs_Vector a0.Points)] [.one (.bool v1)] [[.view]], .dec true, .no, .no, .no, .no, .no, .no, .dec true, .no, .no, .no, .no, .no, .no, .dec true, .no, .no, .no, .no, .no, .no, .no, .dec true, .no, .no, .no, .no, .dec true] [2] [] ⟨tr, tr, ⟨⟨rfl, tr⟩, ok_impl_arePoints K a0.Points v1 e2⟩, ⟨tr, b3⟩, tr, tr, tr, tr, tr, tr, ⟨tr, b4⟩, tr, tr, tr, tr, tr, tr, ⟨tr, b5⟩, tr, tr, tr, tr, tr, tr, tr, ⟨tr, b6⟩, tr, tr, tr, tr, ⟨tr, b7⟩, tr, tr, tr, tr, tr, tr⟩ ⟨rfl, rfl⟩
            · replace e9 := some_eq e9
              subst e9
              exact AW.rA ⟨[(2, (vc (.bool false)))], []⟩ (T2 ((((Eqc (sl 3 cs_Vector a0.Points)) ∧ Tt) ∧ CallOK Try.prog 20 [.one (sl 3 cs_Vector a0.Points)] [.one (.bool v1)]) ∧ (Tt ∧ v1 = true) ∧ T2 (T4 ((Tt ∧ ((a0.Before.length : Int) == (a0.Points.length : Int)) = true) ∧ T2 (T4 ((Tt ∧ ((a0.Fixed.length : Int) == (a0.Points.length : Int)) = true) ∧ Tt ∧ T2 (T4 ((Tt ∧ ((a0.Lengths.length : Int) == (IntKind.i64.wrap ((a0.Points.length : Int) - (1 : Int)))) = true) ∧ T4 ((Tt ∧ (decide (a0.Passes ≥ (0 : Int))) = false) ∧ Tt ∧ T4 Tt))))))))) [.no, .no, .call [.one (sl 3 cs_Vector a0.Points)] [.one (.bool v1)] [[.view]], .dec true, .no, .no, .no, .no, .no, .no, .dec true, .no, .no, .no, .no, .no, .no, .dec true, .no, .no, .no, .no, .no, .no, .no, .dec true, .no, .no, .no, .no, .dec false] [2] [] ⟨tr, tr, ⟨⟨rfl, tr⟩, ok_impl_arePoints K a0.Points v1 e2⟩, ⟨tr, b3⟩, tr, tr, tr, tr, tr, tr, ⟨tr, b4⟩, tr, tr, tr, tr, tr, tr, ⟨tr, b5⟩, tr, tr, tr, tr, tr, tr, tr, ⟨tr, b6⟩, tr, tr, tr, tr, ⟨tr, b7⟩, tr, tr, tr, tr, tr, tr⟩ ⟨rfl, rfl⟩
          · replace e9 := some_eq e9
            subst e9
            exact AW.rA ⟨[(2, (vc (.bool false)))], []⟩ (T2 ((((Eqc (sl 3 cs_Vector a0.Points)) ∧ Tt) ∧ CallOK Try.prog 20 [.one (sl 3 cs_Vector a0.Points)] [.one (.bool v1)]) ∧ (Tt ∧ v1 = true) ∧ T2 (T4 ((Tt ∧ ((a0.Before.length : Int) == (a0.Points.length : Int)) = true) ∧ T2 (T4 ((Tt ∧ ((a0.Fixed.length : Int) == (a0.Points.length : Int)) = true) ∧ Tt ∧ T2 (T4 ((Tt ∧ ((a0.Lengths.length : Int) == (IntKind.i64.wrap ((a0.Points.length : Int) - (1 : Int)))) = false) ∧ T2 (T4 (T4 Tt)))))))))) [.no, .no, .call [.one (sl 3 cs_Vector a0.Points)] [.one (.bool v1)] [[.view]], .dec true, .no, .no, .no, .no, .no, .no, .dec true, .no, .no, .no, .no, .no, .no, .dec true, .no, .no, .no, .no, .no, .no, .no, .dec false] [2] [] ⟨tr, tr, ⟨⟨rfl, tr⟩, ok_impl_arePoints K a0.Points v1 e2⟩, ⟨tr, b3⟩, tr, tr, tr, tr, tr, tr, ⟨tr, b4⟩, tr, tr, tr, tr, tr, tr, ⟨tr, b5⟩, tr, tr, tr, tr, tr, tr, tr, ⟨tr, b6⟩, tr, tr, tr, tr, tr, tr, tr, tr, tr, tr, tr⟩ ⟨rfl, rfl⟩
        · replace e9 := some_eq e9
          subst e9
          exact AW.rA ⟨[(2, (vc (.bool false)))], []⟩ (T2 ((((Eqc (sl 3 cs_Vector a0.Points)) ∧ Tt) ∧ CallOK Try.prog 20 [.one (sl 3 cs_Vector a0.Points)] [.one (.bool v1)]) ∧ (Tt ∧ v1 = true) ∧ T2 (T4 ((Tt ∧ ((a0.Before.length : Int) == (a0.Points.length : Int)) = true) ∧ T2 (T4 ((Tt ∧ ((a0.Fixed.length : Int) == (a0.Points.length : Int)) = false) ∧ T2 (T4 (T4 (T4 (T4 Tt)))))))))) [.no, .no, .call [.one (sl 3 cs_Vector a0.Points)] [.one (.bool v1)] [[.view]], .dec true, .no, .no, .no, .no, .no, .no, .dec true, .no, .no, .no, .no, .no, .no, .dec false] [2] [] ⟨tr, tr, ⟨⟨rfl, tr⟩, ok_impl_arePoints K a0.Points v1 e2⟩, ⟨tr, b3⟩, tr, tr, tr, tr, tr, tr, ⟨tr, b4⟩, tr, tr, tr, tr, tr, tr, ⟨tr, b5⟩, tr, tr, tr, tr, tr, tr, tr, tr, tr, tr, tr, tr, tr, tr, tr, tr, tr, tr, tr⟩ ⟨rfl, rfl⟩
      · replace e9 := some_eq e9
        subst e9
        exact AW.rA ⟨[(2, (vc (.bool false)))], []⟩ (T2 ((((Eqc (sl 3 cs_Vector a0.Points)) ∧ Tt) ∧ CallOK Try.prog 20 [.one (sl 3 cs_Vector a0.Points)] [.one (.bool v1)]) ∧ (Tt ∧ v1 = true) ∧ T2 (T4 ((Tt ∧ ((a0.Before.length : Int) == (a0.Points.length : Int)) = false) ∧ Tt ∧ T4 (T4 (T4 (T4 (T4 (T4 Tt))))))))) [.no, .no, .call [.one (sl 3 cs_Vector a0.Points)] [.one (.bool v1)] [[.view]], .dec true, .no, .no, .no, .no, .no, .no, .dec false] [2] [] ⟨tr, tr, ⟨⟨rfl, tr⟩, ok_impl_arePoints K a0.Points v1 e2⟩, ⟨tr, b3⟩, tr, tr, tr, tr, tr, tr, ⟨tr, b4⟩, tr, tr, tr, tr, tr, tr, tr, tr, tr, tr, tr, tr, tr, tr, tr, tr, tr, tr, tr, tr, tr, tr, tr, tr, tr, tr⟩ ⟨rfl, rfl⟩
    · replace e9 := some_eq e9
      subst e9
      exact AW.rA ⟨[(2, (vc (.bool false)))], []⟩ (T2 ((((Eqc (sl 3 cs_Vector a0.Points)) ∧ Tt) ∧ CallOK Try.prog 20 [.one (sl 3 cs_Vector a0.Points)] [.one (.bool v1)]) ∧ (Tt ∧ v1 = false) ∧ T4 (T4 (T4 (T4 (T4 (T4 (T4 (T4 Tt))))))))) [.no, .no, .call [.one (sl 3 cs_Vector a0.Points)] [.one (.bool v1)] [[.view]], .dec false] [2] [] ⟨tr, tr, ⟨⟨rfl, tr⟩, ok_impl_arePoints K a0.Points v1 e2⟩, ⟨tr, b3⟩, tr, tr, tr, tr, tr, tr, tr, tr, tr, tr, tr, tr, tr, tr, tr, tr, tr, tr, tr, tr, tr, tr, tr, tr, tr, tr, tr, tr, tr, tr, tr, tr, tr⟩ ⟨rfl, rfl⟩
  refine thenQ_normal ?_
  refine AW.ret ?_
  replace h := some_eq h
  subst h
  exact ⟨.inr rfl, retOK_of [(.one (.c (.bool j8)))] (by kernel_rfl) ⟨⟨rfl, tr⟩, tr⟩ (of_decide_eq_true (by kernel_rfl))⟩

/-! impl.isMoves -/
def impl_isMoves (_K : Nat) (a0 : Int) : Option (Bool) :=
  (ite2 ((decide (a0 ≥ (0 : Int)))) (some (decide (a0 ≤ (1000 : Int)))) (some false)).bind fun j2 => some j2

theorem ok_impl_isMoves (K : Nat) (a0 : Int) (o : (Bool)) (h : impl_isMoves K a0 = some o) : CallOK Try.prog 17 [.one (.int .i64 a0)] [.one (.bool o)] := by
  refine callOK_of_AW Try.func17 rfl (by kernel_rfl) (Nat.le_of_ble_eq_true (by kernel_rfl)) ?_
  intro w0
  unfold impl_isMoves at h
  refine AW.seq (AW.rA ⟨[(0, (vc (.int .i64 a0)))], []⟩ (Tt ∧ Tt) [] [0] [] ⟨tr, tr⟩ (thenQ_normal ?_))
  refine AW.seq ?_
  obtain ⟨j2, e3, h⟩ := bind_some h
  refine AW.join1 (s2 := ⟨[(2, (vc (.bool j2)))], []⟩) ?_ ?_
  · rcases ite2_cases e3 with ⟨b1, e3⟩ | ⟨b1, e3⟩
    · replace e3 := some_eq e3
      subst e3
      exact AW.rA ⟨[(2, (vc (.bool (decide (a0 ≤ (1000 : Int))))))], []⟩ (T2 ((Tt ∧ (decide (a0 ≥ (0 : Int))) = true) ∧ T4 Tt)) [.no, .no, .dec true] [2] [] ⟨tr, tr, ⟨tr, b1⟩, tr, tr, tr, tr, tr⟩ ⟨rfl, rfl⟩
    · replace e3 := some_eq e3
      subst e3
      exact AW.rA ⟨[(2, (vc (.bool false)))], []⟩ (T2 ((Tt ∧ (decide (a0 ≥ (0 : Int))) = false) ∧ T4 Tt)) [.no, .no, .dec false] [2] [] ⟨tr, tr, ⟨tr, b1⟩, tr, tr, tr, tr, tr⟩ ⟨rfl, rfl⟩
  refine thenQ_normal ?_
  refine AW.ret ?_
  replace h := some_eq h
  subst h
  exact ⟨.inr rfl, retOK_of [(.one (.c (.bool j2)))] (by kernel_rfl) ⟨⟨rfl, tr⟩, tr⟩ (of_decide_eq_true (by kernel_rfl))⟩

/-! slices.Clone[[]impl.Vector,impl.Vector] -/
def slices_Clone_impl_Vector_impl_Vector (_K : Nat) (a0 : (List Vector)) : Option ((List Vector)) :=
  chk ((([] : List Vector).length + a0.length) * 12 ≤ 140737488355328) (some (([] : List Vector) ++ a0))

theorem ok_slices_Clone_impl_Vector_impl_Vector (K : Nat) (a0 : (List Vector)) (o : ((List Vector))) (h : slices_Clone_impl_Vector_impl_Vector K a0 = some o) : CallOK Try.prog 27 [.one (sl 3 cs_Vector a0)] [.one (sl 3 cs_Vector o)] := by
  refine callOK_of_AW Try.func27 rfl (by kernel_rfl) (Nat.le_of_ble_eq_true (by kernel_rfl)) ?_
  intro w0
  unfold slices_Clone_impl_Vector_impl_Vector at h
  refine AW.seq (AW.rA ⟨[(0, (vc (sl 3 cs_Vector a0)))], []⟩ (Tt ∧ Tt) [] [0] [] ⟨tr, tr⟩ (thenQ_normal ?_))
  refine AW.seq ?_
  refine AW.seq ?_
  refine AW.nilA (d := 4) (n := a0.length) 1 [.no] [0] [] (s' := ⟨[(0, (vc (sl 3 cs_Vector a0)))], []⟩) (ob := Tt ∧ Tt) (by kernel_rfl) ⟨tr, tr⟩ ?_
  intro b2 b1
  cases b2
  · refine thenQ_normal ?_
    refine AW.cond_f (b := false) rfl rfl ?_
    refine AW.skip ?_
    refine thenQ_normal ?_
    refine AW.seq ?_
    obtain ⟨c3, h⟩ := chk_some h
    refine AW.rA ⟨[(2, (.v (.one (.lst 2 (([] : List Vector) ++ a0).length 3 (gl cs_Vector (([] : List Vector) ++ a0))))))], [(2, (.lst (([] : List Vector) ++ a0).length 3 (gl cs_Vector (([] : List Vector) ++ a0))))]⟩ ((([] : List Vector).length = 0 ∧ Tt) ∧ Tt ∧ ((([] : List Vector) ++ a0).length = ([] : List Vector).length + a0.length ∧ AppOb (([] : List Vector).length) (a0.length) 3 (gl cs_Vector ([] : List Vector)) (gl cs_Vector a0) (gl cs_Vector (([] : List Vector) ++ a0)) ∧ (∀ i j, i < a0.length → j < 3 → scalarC (gl cs_Vector a0 i j)) ∧ (([] : List Vector).length + a0.length) * 12 ≤ 140737488355328) ∧ Tt ∧ Tt) [.obj 1 ([] : List Vector).length (gl cs_Vector ([] : List Vector)), .no, .obj 2 (([] : List Vector) ++ a0).length (gl cs_Vector (([] : List Vector) ++ a0))] [2] [2] ⟨⟨rfl, tr⟩, tr, ⟨List.length_append, gl_append, gl_scalar sc_Vector _, c3⟩, tr, tr⟩ ?_
    refine thenQ_normal ?_
    refine AW.ret ?_
    replace h := some_eq h
    subst h
    exact ⟨.inr rfl, retOK_of [(.one (.lst 2 (([] : List Vector) ++ a0).length 3 (gl cs_Vector (([] : List Vector) ++ a0))))] (by kernel_rfl) ⟨rfl, tr⟩ (of_decide_eq_true (by kernel_rfl))⟩
  · obtain rfl := List.eq_nil_of_length_eq_zero (b1 rfl)
    replace h : some ([] : (List Vector)) = some o := by simpa [chk] using h
    refine thenQ_normal ?_
    refine AW.cond_t (b := true) rfl rfl ?_
    refine AW.seq (AW.rA ⟨[(2, (.v (.one .nils)))], []⟩ (Tt ∧ Tt) [] [2] [] ⟨tr, tr⟩ (thenQ_normal ?_))
    refine AW.ret ?_
    refine thenQ_ret ?_
    replace h := some_eq h
    subst h
    exact ⟨.inr rfl, retOK_of [(.one .nils)] (by kernel_rfl) ⟨rfl, tr⟩ (of_decide_eq_true (by kernel_rfl))⟩

/-! slices.Clone[[]bool,bool] -/
def slices_Clone_bool_bool (_K : Nat) (a0 : (List Bool)) : Option ((List Bool)) :=
  chk ((([] : List Bool).length + a0.length) * 1 ≤ 140737488355328) (some (([] : List Bool) ++ a0))

theorem ok_slices_Clone_bool_bool (K : Nat) (a0 : (List Bool)) (o : ((List Bool))) (h : slices_Clone_bool_bool K a0 = some o) : CallOK Try.prog 36 [.one (sl 1 csB a0)] [.one (sl 1 csB o)] := by
  refine callOK_of_AW Try.func36 rfl (by kernel_rfl) (Nat.le_of_ble_eq_true (by kernel_rfl)) ?_
  intro w0
  unfold slices_Clone_bool_bool at h
  refine AW.seq (AW.rA ⟨[(0, (vc (sl 1 csB a0)))], []⟩ (Tt ∧ Tt) [] [0] [] ⟨tr, tr⟩ (thenQ_normal ?_))
  refine AW.seq ?_
  refine AW.seq ?_
  refine AW.nilA (d := 4) (n := a0.length) 1 [.no] [0] [] (s' := ⟨[(0, (vc (sl 1 csB a0)))], []⟩) (ob := Tt ∧ Tt) (by kernel_rfl) ⟨tr, tr⟩ ?_
  intro b2 b1
  cases b2
  · refine thenQ_normal ?_
    refine AW.cond_f (b := false) rfl rfl ?_
    refine AW.skip ?_
    refine thenQ_normal ?_
    refine AW.seq ?_
    obtain ⟨c3, h⟩ := chk_some h
    refine AW.rA ⟨[(2, (.v (.one (.lst 2 (([] : List Bool) ++ a0).length 1 (gl csB (([] : List Bool) ++ a0))))))], [(2, (.lst (([] : List Bool) ++ a0).length 1 (gl csB (([] : List Bool) ++ a0))))]⟩ ((([] : List Bool).length = 0 ∧ Tt) ∧ Tt ∧ ((([] : List Bool) ++ a0).length = ([] : List Bool).length + a0.length ∧ AppOb (([] : List Bool).length) (a0.length) 1 (gl csB ([] : List Bool)) (gl csB a0) (gl csB (([] : List Bool) ++ a0)) ∧ (∀ i j, i < a0.length → j < 1 → scalarC (gl csB a0 i j)) ∧ (([] : List Bool).length + a0.length) * 1 ≤ 140737488355328) ∧ Tt ∧ Tt) [.obj 1 ([] : List Bool).length (gl csB ([] : List Bool)), .no, .obj 2 (([] : List Bool) ++ a0).length (gl csB (([] : List Bool) ++ a0))] [2] [2] ⟨⟨rfl, tr⟩, tr, ⟨List.length_append, gl_append, gl_scalar scB _, c3⟩, tr, tr⟩ ?_
    refine thenQ_normal ?_
    refine AW.ret ?_
    replace h := some_eq h
    subst h
    exact ⟨.inr rfl, retOK_of [(.one (.lst 2 (([] : List Bool) ++ a0).length 1 (gl csB (([] : List Bool) ++ a0))))] (by kernel_rfl) ⟨rfl, tr⟩ (of_decide_eq_true (by kernel_rfl))⟩
  · obtain rfl := List.eq_nil_of_length_eq_zero (b1 rfl)
    replace h : some ([] : (List Bool)) = some o := by simpa [chk] using h
    refine thenQ_normal ?_
    refine AW.cond_t (b := true) rfl rfl ?_
    refine AW.seq (AW.rA ⟨[(2, (.v (.one .nils)))], []⟩ (Tt ∧ Tt) [] [2] [] ⟨tr, tr⟩ (thenQ_normal ?_))
    refine AW.ret ?_
    refine thenQ_ret ?_
    replace h := some_eq h
    subst h
    exact ⟨.inr rfl, retOK_of [(.one .nils)] (by kernel_rfl) ⟨rfl, tr⟩ (of_decide_eq_true (by kernel_rfl))⟩

/-! slices.Clone[[]float32,float32] -/
def slices_Clone_float32_float32 (_K : Nat) (a0 : (List F32)) : Option ((List F32)) :=
  chk ((([] : List F32).length + a0.length) * 4 ≤ 140737488355328) (some (([] : List F32) ++ a0))

theorem ok_slices_Clone_float32_float32 (K : Nat) (a0 : (List F32)) (o : ((List F32))) (h : slices_Clone_float32_float32 K a0 = some o) : CallOK Try.prog 37 [.one (sl 1 (csF .f32) a0)] [.one (sl 1 (csF .f32) o)] := by
  refine callOK_of_AW Try.func37 rfl (by kernel_rfl) (Nat.le_of_ble_eq_true (by kernel_rfl)) ?_
  intro w0
  unfold slices_Clone_float32_float32 at h
  refine AW.seq (AW.rA ⟨[(0, (vc (sl 1 (csF .f32) a0)))], []⟩ (Tt ∧ Tt) [] [0] [] ⟨tr, tr⟩ (thenQ_normal ?_))
  refine AW.seq ?_
  refine AW.seq ?_
  refine AW.nilA (d := 4) (n := a0.length) 1 [.no] [0] [] (s' := ⟨[(0, (vc (sl 1 (csF .f32) a0)))], []⟩) (ob := Tt ∧ Tt) (by kernel_rfl) ⟨tr, tr⟩ ?_
  intro b2 b1
  cases b2
  · refine thenQ_normal ?_
    refine AW.cond_f (b := false) rfl rfl ?_
    refine AW.skip ?_
    refine thenQ_normal ?_
    refine AW.seq ?_
    obtain ⟨c3, h⟩ := chk_some h
    refine AW.rA ⟨[(2, (.v (.one (.lst 2 (([] : List F32) ++ a0).length 1 (gl (csF .f32) (([] : List F32) ++ a0))))))], [(2, (.lst (([] : List F32) ++ a0).length 1 (gl (csF .f32) (([] : List F32) ++ a0))))]⟩ ((([] : List F32).length = 0 ∧ Tt) ∧ Tt ∧ ((([] : List F32) ++ a0).length = ([] : List F32).length + a0.length ∧ AppOb (([] : List F32).length) (a0.length) 1 (gl (csF .f32) ([] : List F32)) (gl (csF .f32) a0) (gl (csF .f32) (([] : List F32) ++ a0)) ∧ (∀ i j, i < a0.length → j < 1 → scalarC (gl (csF .f32) a0 i j)) ∧ (([] : List F32).length + a0.length) * 4 ≤ 140737488355328) ∧ Tt ∧ Tt) [.obj 1 ([] : List F32).length (gl (csF .f32) ([] : List F32)), .no, .obj 2 (([] : List F32) ++ a0).length (gl (csF .f32) (([] : List F32) ++ a0))] [2] [2] ⟨⟨rfl, tr⟩, tr, ⟨List.length_append, gl_append, gl_scalar scF _, c3⟩, tr, tr⟩ ?_
    refine thenQ_normal ?_
    refine AW.ret ?_
    replace h := some_eq h
    subst h
    exact ⟨.inr rfl, retOK_of [(.one (.lst 2 (([] : List F32) ++ a0).length 1 (gl (csF .f32) (([] : List F32) ++ a0))))] (by kernel_rfl) ⟨rfl, tr⟩ (of_decide_eq_true (by kernel_rfl))⟩
  · obtain rfl := List.eq_nil_of_length_eq_zero (b1 rfl)
    replace h : some ([] : (List F32)) = some o := by simpa [chk] using h
    refine thenQ_normal ?_
    refine AW.cond_t (b := true) rfl rfl ?_
    refine AW.seq (AW.rA ⟨[(2, (.v (.one .nils)))], []⟩ (Tt ∧ Tt) [] [2] [] ⟨tr, tr⟩ (thenQ_normal ?_))
    refine AW.ret ?_
    refine thenQ_ret ?_
    replace h := some_eq h
    subst h
    exact ⟨.inr rfl, retOK_of [(.one .nils)] (by kernel_rfl) ⟨rfl, tr⟩ (of_decide_eq_true (by kernel_rfl))⟩

/-! (impl.String).copied -/
def impl_String_copied (K : Nat) (a0 : String) : Option (String) :=
  (slices_Clone_impl_Vector_impl_Vector K a0.Points).bind fun v1 => (slices_Clone_impl_Vector_impl_Vector K a0.Before).bind fun v3 => (slices_Clone_bool_bool K a0.Fixed).bind fun v5 => (slices_Clone_float32_float32 K a0.Lengths).bind fun v7 => some (String.mk v1 v3 v5 v7 a0.Fall a0.Damp a0.Passes)

theorem ok_impl_String_copied (K : Nat) (a0 : String) (o : (String)) (h : impl_String_copied K a0 = some o) : CallOK Try.prog 18 [.agg (cs_String a0)] [.agg (cs_String o)] := by
  refine callOK_of_AW Try.func18 rfl (by kernel_rfl) (Nat.le_of_ble_eq_true (by kernel_rfl)) ?_
  intro w0
  unfold impl_String_copied at h
  refine AW.seq (AW.rA ⟨[(1, (vp 1 0)), (2, (vp 2 0))], [(1, (.box [(.c (sl 3 cs_Vector a0.Points)), (.c (sl 3 cs_Vector a0.Before)), (.c (sl 1 csB a0.Fixed)), (.c (sl 1 (csF .f32) a0.Lengths)), (.c (.flt .f32 a0.Fall.X.bits)), (.c (.flt .f32 a0.Fall.Y.bits)), (.c (.flt .f32 a0.Fall.Z.bits)), (.c (.flt .f32 a0.Damp.bits)), (.c (.int .i64 a0.Passes))])), (2, (.box [.nils, .nils, .nils, .nils, (.c (.flt .f32 (default : F32).bits)), (.c (.flt .f32 (default : F32).bits)), (.c (.flt .f32 (default : F32).bits)), (.c (.flt .f32 (default : F32).bits)), (.c (.int .i64 (0 : Int)))]))]⟩ (T2 Tt) [.box 1, .box 2] [1, 2] [1, 2] ⟨tr, tr, tr⟩ (thenQ_normal ?_))
  refine AW.seq ?_
  obtain ⟨v1, e2, h⟩ := bind_some h
  obtain ⟨v3, e4, h⟩ := bind_some h
  refine AW.dA ⟨[(1, (vp 1 0)), (2, (vp 2 0))], [(1, (.box [(.lst 3 v1.length 3 (gl cs_Vector v1)), (.lst 4 v3.length 3 (gl cs_Vector v3)), (.c (sl 1 csB a0.Fixed)), (.c (sl 1 (csF .f32) a0.Lengths)), (.c (.flt .f32 a0.Fall.X.bits)), (.c (.flt .f32 a0.Fall.Y.bits)), (.c (.flt .f32 a0.Fall.Z.bits)), (.c (.flt .f32 a0.Damp.bits)), (.c (.int .i64 a0.Passes))])), (2, (.box [.nils, .nils, .nils, .nils, (.c (.flt .f32 (default : F32).bits)), (.c (.flt .f32 (default : F32).bits)), (.c (.flt .f32 (default : F32).bits)), (.c (.flt .f32 (default : F32).bits)), (.c (.int .i64 (0 : Int)))])), (3, (.lst v1.length 3 (gl cs_Vector v1))), (4, (.lst v3.length 3 (gl cs_Vector v3)))]⟩ ((T2 ((((Eqc (sl 3 cs_Vector a0.Points)) ∧ Tt) ∧ CallOK Try.prog 27 [.one (sl 3 cs_Vector a0.Points)] [.one (sl 3 cs_Vector v1)]) ∧ T2 ((((Eqc (sl 3 cs_Vector a0.Before)) ∧ Tt) ∧ CallOK Try.prog 27 [.one (sl 3 cs_Vector a0.Before)] [.one (sl 3 cs_Vector v3)]) ∧ Tt ∧ Tt))) ∧ (Tt ∧ T2 Tt)) 7 [.no, .no, .call [.one (sl 3 cs_Vector a0.Points)] [.one (sl 3 cs_Vector v1)] [[.lst 3]], .no, .no, .call [.one (sl 3 cs_Vector a0.Before)] [.one (sl 3 cs_Vector v3)] [[.lst 4]]] [1, 2] [1, 2, 3, 4] ⟨⟨tr, tr, ⟨⟨rfl, tr⟩, ok_slices_Clone_impl_Vector_impl_Vector K a0.Points v1 e2⟩, tr, tr, ⟨⟨rfl, tr⟩, ok_slices_Clone_impl_Vector_impl_Vector K a0.Before v3 e4⟩, tr, tr⟩, ⟨tr, tr, tr, tr⟩⟩ ?_
  refine thenQ_normal ?_
  refine AW.seq ?_
  obtain ⟨v5, e6, h⟩ := bind_some h
  obtain ⟨v7, e8, h⟩ := bind_some h
  refine AW.dA ⟨[(1, (vp 1 0)), (2, (vp 2 0))], [(1, (.box [(.lst 3 v1.length 3 (gl cs_Vector v1)), (.lst 4 v3.length 3 (gl cs_Vector v3)), (.lst 5 v5.length 1 (gl csB v5)), (.lst 6 v7.length 1 (gl (csF .f32) v7)), (.c (.flt .f32 a0.Fall.X.bits)), (.c (.flt .f32 a0.Fall.Y.bits)), (.c (.flt .f32 a0.Fall.Z.bits)), (.c (.flt .f32 a0.Damp.bits)), (.c (.int .i64 a0.Passes))])), (2, (.box [.nils, .nils, .nils, .nils, (.c (.flt .f32 (default : F32).bits)), (.c (.flt .f32 (default : F32).bits)), (.c (.flt .f32 (default : F32).bits)), (.c (.flt .f32 (default : F32).bits)), (.c (.int .i64 (0 : Int)))])), (3, (.lst v1.length 3 (gl cs_Vector v1))), (4, (.lst v3.length 3 (gl cs_Vector v3))), (5, (.lst v5.length 1 (gl csB v5))), (6, (.lst v7.length 1 (gl (csF .f32) v7)))]⟩ ((T2 ((((Eqc (sl 1 csB a0.Fixed)) ∧ Tt) ∧ CallOK Try.prog 36 [.one (sl 1 csB a0.Fixed)] [.one (sl 1 csB v5)]) ∧ T2 ((((Eqc (sl 1 (csF .f32) a0.Lengths)) ∧ Tt) ∧ CallOK Try.prog 37 [.one (sl 1 (csF .f32) a0.Lengths)] [.one (sl 1 (csF .f32) v7)]) ∧ Tt ∧ Tt))) ∧ (Tt ∧ T2 Tt)) 7 [.no, .no, .call [.one (sl 1 csB a0.Fixed)] [.one (sl 1 csB v5)] [[.lst 5]], .no, .no, .call [.one (sl 1 (csF .f32) a0.Lengths)] [.one (sl 1 (csF .f32) v7)] [[.lst 6]]] [1, 2] [1, 2, 3, 4, 5, 6] ⟨⟨tr, tr, ⟨⟨rfl, tr⟩, ok_slices_Clone_bool_bool K a0.Fixed v5 e6⟩, tr, tr, ⟨⟨rfl, tr⟩, ok_slices_Clone_float32_float32 K a0.Lengths v7 e8⟩, tr, tr⟩, ⟨tr, tr, tr, tr⟩⟩ ?_
  refine thenQ_normal ?_
  refine AW.seq (AW.rA ⟨[(2, (vp 2 0))], [(2, (.box [(.lst 3 v1.length 3 (gl cs_Vector v1)), (.lst 4 v3.length 3 (gl cs_Vector v3)), (.lst 5 v5.length 1 (gl csB v5)), (.lst 6 v7.length 1 (gl (csF .f32) v7)), (.c (.flt .f32 a0.Fall.X.bits)), (.c (.flt .f32 a0.Fall.Y.bits)), (.c (.flt .f32 a0.Fall.Z.bits)), (.c (.flt .f32 a0.Damp.bits)), (.c (.int .i64 a0.Passes))])), (3, (.lst v1.length 3 (gl cs_Vector v1))), (4, (.lst v3.length 3 (gl cs_Vector v3))), (5, (.lst v5.length 1 (gl csB v5))), (6, (.lst v7.length 1 (gl (csF .f32) v7)))]⟩ (T2 Tt) [] [2] [2, 3, 4, 5, 6] ⟨tr, tr, tr⟩ (thenQ_normal ?_))
  refine AW.ret ?_
  replace h := some_eq h
  subst h
  exact ⟨.inr rfl, retOK_of [(.agg [(.lst 3 v1.length 3 (gl cs_Vector v1)), (.lst 4 v3.length 3 (gl cs_Vector v3)), (.lst 5 v5.length 1 (gl csB v5)), (.lst 6 v7.length 1 (gl (csF .f32) v7)), (.c (.flt .f32 a0.Fall.X.bits)), (.c (.flt .f32 a0.Fall.Y.bits)), (.c (.flt .f32 a0.Fall.Z.bits)), (.c (.flt .f32 a0.Damp.bits)), (.c (.int .i64 a0.Passes))])] (by kernel_rfl) ⟨⟨rfl, rfl, rfl, rfl, ⟨rfl, tr⟩, ⟨rfl, tr⟩, ⟨rfl, tr⟩, ⟨rfl, tr⟩, ⟨rfl, tr⟩, tr⟩, tr⟩ (of_decide_eq_true (by kernel_rfl))⟩

/-! impl.LessVectors -/
def impl_LessVectors (_K : Nat) (a0 : Vector) (a1 : Vector) : Option (Vector) :=
  some (Vector.mk (a0.X.sub a1.X) (a0.Y.sub a1.Y) (a0.Z.sub a1.Z))

theorem ok_impl_LessVectors (K : Nat) (a0 : Vector) (a1 : Vector) (o : (Vector)) (h : impl_LessVectors K a0 a1 = some o) : CallOK Try.prog 40 [.agg (cs_Vector a0), .agg (cs_Vector a1)] [.agg (cs_Vector o)] := by
  refine callOK_of_AW Try.func40 rfl (by kernel_rfl) (Nat.le_of_ble_eq_true (by kernel_rfl)) ?_
  intro w0
  unfold impl_LessVectors at h
  refine AW.seq (AW.rA ⟨[(2, (vp 1 0)), (3, (vp 2 0)), (4, (vp 3 0))], [(1, (.box [(.c (.flt .f32 a0.X.bits)), (.c (.flt .f32 a0.Y.bits)), (.c (.flt .f32 a0.Z.bits))])), (2, (.box [(.c (.flt .f32 a1.X.bits)), (.c (.flt .f32 a1.Y.bits)), (.c (.flt .f32 a1.Z.bits))])), (3, (.box [(.c (.flt .f32 (default : F32).bits)), (.c (.flt .f32 (default : F32).bits)), (.c (.flt .f32 (default : F32).bits))]))]⟩ (Tt ∧ T2 Tt) [.box 1, .box 2, .box 3] [2, 3, 4] [1, 2, 3] ⟨tr, tr, tr, tr⟩ (thenQ_normal ?_))
  refine AW.seq (AW.rA ⟨[(4, (vp 3 0))], [(3, (.box [(.c (.flt .f32 (a0.X.sub a1.X).bits)), (.c (.flt .f32 (a0.Y.sub a1.Y).bits)), (.c (.flt .f32 (a0.Z.sub a1.Z).bits))]))]⟩ (Tt ∧ T4 (T4 (T4 (T4 Tt)))) [] [4] [3] ⟨tr, tr, tr, tr, tr, tr, tr, tr, tr, tr, tr, tr, tr, tr, tr, tr, tr, tr⟩ (thenQ_normal ?_))
  refine AW.ret ?_
  replace h := some_eq h
  subst h
  exact ⟨.inr rfl, retOK_of [(.agg [(.c (.flt .f32 (a0.X.sub a1.X).bits)), (.c (.flt .f32 (a0.Y.sub a1.Y).bits)), (.c (.flt .f32 (a0.Z.sub a1.Z).bits))])] (by kernel_rfl) ⟨⟨⟨rfl, tr⟩, ⟨rfl, tr⟩, ⟨rfl, tr⟩, tr⟩, tr⟩ (of_decide_eq_true (by kernel_rfl))⟩

/-! impl.ScaleVector -/
def impl_ScaleVector (_K : Nat) (a0 : Vector) (a1 : F32) : Option (Vector) :=
  some (Vector.mk (a0.X.mul a1) (a0.Y.mul a1) (a0.Z.mul a1))

theorem ok_impl_ScaleVector (K : Nat) (a0 : Vector) (a1 : F32) (o : (Vector)) (h : impl_ScaleVector K a0 a1 = some o) : CallOK Try.prog 39 [.agg (cs_Vector a0), .one (.flt .f32 a1.bits)] [.agg (cs_Vector o)] := by
  refine callOK_of_AW Try.func39 rfl (by kernel_rfl) (Nat.le_of_ble_eq_true (by kernel_rfl)) ?_
  intro w0
  unfold impl_ScaleVector at h
  refine AW.seq (AW.rA ⟨[(1, (vc (.flt .f32 a1.bits))), (2, (vp 1 0)), (4, (vp 2 0))], [(1, (.box [(.c (.flt .f32 a0.X.bits)), (.c (.flt .f32 a0.Y.bits)), (.c (.flt .f32 a0.Z.bits))])), (2, (.box [(.c (.flt .f32 (default : F32).bits)), (.c (.flt .f32 (default : F32).bits)), (.c (.flt .f32 (default : F32).bits))]))]⟩ (T2 Tt) [.box 1, .box 2] [1, 2, 4] [1, 2] ⟨tr, tr, tr⟩ (thenQ_normal ?_))
  refine AW.seq (AW.rA ⟨[(4, (vp 2 0))], [(2, (.box [(.c (.flt .f32 (a0.X.mul a1).bits)), (.c (.flt .f32 (a0.Y.mul a1).bits)), (.c (.flt .f32 (a0.Z.mul a1).bits))]))]⟩ (T2 (T4 (T4 (T4 Tt)))) [] [4] [2] ⟨tr, tr, tr, tr, tr, tr, tr, tr, tr, tr, tr, tr, tr, tr, tr⟩ (thenQ_normal ?_))
  refine AW.ret ?_
  replace h := some_eq h
  subst h
  exact ⟨.inr rfl, retOK_of [(.agg [(.c (.flt .f32 (a0.X.mul a1).bits)), (.c (.flt .f32 (a0.Y.mul a1).bits)), (.c (.flt .f32 (a0.Z.mul a1).bits))])] (by kernel_rfl) ⟨⟨⟨rfl, tr⟩, ⟨rfl, tr⟩, ⟨rfl, tr⟩, tr⟩, tr⟩ (of_decide_eq_true (by kernel_rfl))⟩

/-! impl.AddVectors -/
def impl_AddVectors (_K : Nat) (a0 : Vector) (a1 : Vector) : Option (Vector) :=
  some (Vector.mk (a0.X.add a1.X) (a0.Y.add a1.Y) (a0.Z.add a1.Z))

theorem ok_impl_AddVectors (K : Nat) (a0 : Vector) (a1 : Vector) (o : (Vector)) (h : impl_AddVectors K a0 a1 = some o) : CallOK Try.prog 38 [.agg (cs_Vector a0), .agg (cs_Vector a1)] [.agg (cs_Vector o)] := by
  refine callOK_of_AW Try.func38 rfl (by kernel_rfl) (Nat.le_of_ble_eq_true (by kernel_rfl)) ?_
  intro w0
  unfold impl_AddVectors at h
  refine AW.seq (AW.rA ⟨[(2, (vp 1 0)), (3, (vp 2 0)), (4, (vp 3 0))], [(1, (.box [(.c (.flt .f32 a0.X.bits)), (.c (.flt .f32 a0.Y.bits)), (.c (.flt .f32 a0.Z.bits))])), (2, (.box [(.c (.flt .f32 a1.X.bits)), (.c (.flt .f32 a1.Y.bits)), (.c (.flt .f32 a1.Z.bits))])), (3, (.box [(.c (.flt .f32 (default : F32).bits)), (.c (.flt .f32 (default : F32).bits)), (.c (.flt .f32 (default : F32).bits))]))]⟩ (Tt ∧ T2 Tt) [.box 1, .box 2, .box 3] [2, 3, 4] [1, 2, 3] ⟨tr, tr, tr, tr⟩ (thenQ_normal ?_))
  refine AW.seq (AW.rA ⟨[(4, (vp 3 0))], [(3, (.box [(.c (.flt .f32 (a0.X.add a1.X).bits)), (.c (.flt .f32 (a0.Y.add a1.Y).bits)), (.c (.flt .f32 (a0.Z.add a1.Z).bits))]))]⟩ (Tt ∧ T4 (T4 (T4 (T4 Tt)))) [] [4] [3] ⟨tr, tr, tr, tr, tr, tr, tr, tr, tr, tr, tr, tr, tr, tr, tr, tr, tr, tr⟩ (thenQ_normal ?_))
  refine AW.ret ?_
  replace h := some_eq h
  subst h
  exact ⟨.inr rfl, retOK_of [(.agg [(.c (.flt .f32 (a0.X.add a1.X).bits)), (.c (.flt .f32 (a0.Y.add a1.Y).bits)), (.c (.flt .f32 (a0.Z.add a1.Z).bits))])] (by kernel_rfl) ⟨⟨⟨rfl, tr⟩, ⟨rfl, tr⟩, ⟨rfl, tr⟩, tr⟩, tr⟩ (of_decide_eq_true (by kernel_rfl))⟩

/-! impl.InnerOf -/
def impl_InnerOf (_K : Nat) (a0 : Vector) (a1 : Vector) : Option (F32) :=
  some (((a0.X.mul a1.X).add (a0.Y.mul a1.Y)).add (a0.Z.mul a1.Z))

theorem ok_impl_InnerOf (K : Nat) (a0 : Vector) (a1 : Vector) (o : (F32)) (h : impl_InnerOf K a0 a1 = some o) : CallOK Try.prog 53 [.agg (cs_Vector a0), .agg (cs_Vector a1)] [.one (.flt .f32 o.bits)] := by
  refine callOK_of_AW Try.func53 rfl (by kernel_rfl) (Nat.le_of_ble_eq_true (by kernel_rfl)) ?_
  intro w0
  unfold impl_InnerOf at h
  refine AW.seq (AW.rA ⟨[(2, (vp 1 0)), (3, (vp 2 0))], [(1, (.box [(.c (.flt .f32 a0.X.bits)), (.c (.flt .f32 a0.Y.bits)), (.c (.flt .f32 a0.Z.bits))])), (2, (.box [(.c (.flt .f32 a1.X.bits)), (.c (.flt .f32 a1.Y.bits)), (.c (.flt .f32 a1.Z.bits))]))]⟩ (Tt ∧ T2 Tt) [.box 1, .box 2] [2, 3] [1, 2] ⟨tr, tr, tr, tr⟩ (thenQ_normal ?_))
  refine AW.seq (AW.rA ⟨[(4, (vc (.flt .f32 (((a0.X.mul a1.X).add (a0.Y.mul a1.Y)).add (a0.Z.mul a1.Z)).bits)))], []⟩ (T2 (T4 (T4 (T4 (T4 Tt))))) [] [4] [] ⟨tr, tr, tr, tr, tr, tr, tr, tr, tr, tr, tr, tr, tr, tr, tr, tr, tr, tr, tr⟩ (thenQ_normal ?_))
  refine AW.ret ?_
  replace h := some_eq h
  subst h
  exact ⟨.inr rfl, retOK_of [(.one (.c (.flt .f32 (((a0.X.mul a1.X).add (a0.Y.mul a1.Y)).add (a0.Z.mul a1.Z)).bits)))] (by kernel_rfl) ⟨⟨rfl, tr⟩, tr⟩ (of_decide_eq_true (by kernel_rfl))⟩

/-! math.sqrt -/
def math_sqrt (_K : Nat) (a0 : F64) : Option (F64) :=
  some a0.sqrt

theorem ok_math_sqrt (K : Nat) (a0 : F64) (o : F64) (h : math_sqrt K a0 = some o) : CallOK Try.prog 61 [.one (.flt .f64 a0.bits)] [.one (.flt .f64 o.bits)] :=
  hand_sqrt (e := Extern.MathSqrt.sqrt) Try.func61 (by kernel_rfl) (by kernel_rfl) (by kernel_rfl) (by kernel_rfl) (fun _ => rfl) a0 o h

/-! math.Sqrt -/
def math_Sqrt (K : Nat) (a0 : F64) : Option (F64) :=
  (math_sqrt K a0).bind fun v1 => some v1

theorem ok_math_Sqrt (K : Nat) (a0 : F64) (o : (F64)) (h : math_Sqrt K a0 = some o) : CallOK Try.prog 59 [.one (.flt .f64 a0.bits)] [.one (.flt .f64 o.bits)] := by
  refine callOK_of_AW Try.func59 rfl (by kernel_rfl) (Nat.le_of_ble_eq_true (by kernel_rfl)) ?_
  intro w0
  unfold math_Sqrt at h
  refine AW.seq (AW.rA ⟨[(0, (vc (.flt .f64 a0.bits)))], []⟩ (Tt ∧ Tt) [] [0] [] ⟨tr, tr⟩ (thenQ_normal ?_))
  refine AW.seq ?_
  obtain ⟨v1, e2, h⟩ := bind_some h
  refine AW.rA ⟨[(2, (vc (.flt .f64 v1.bits)))], []⟩ (Tt ∧ (((Eqc (.flt .f64 a0.bits)) ∧ Tt) ∧ CallOK Try.prog 61 [.one (.flt .f64 a0.bits)] [.one (.flt .f64 v1.bits)]) ∧ Tt ∧ Tt) [.no, .call [.one (.flt .f64 a0.bits)] [.one (.flt .f64 v1.bits)] [[.view]]] [2] [] ⟨tr, ⟨⟨rfl, tr⟩, ok_math_sqrt K a0 v1 e2⟩, tr, tr⟩ ?_
  refine thenQ_normal ?_
  refine AW.ret ?_
  replace h := some_eq h
  subst h
  exact ⟨.inr rfl, retOK_of [(.one (.c (.flt .f64 v1.bits)))] (by kernel_rfl) ⟨⟨rfl, tr⟩, tr⟩ (of_decide_eq_true (by kernel_rfl))⟩

/-! impl.RootNumber -/
def impl_RootNumber (K : Nat) (a0 : F32) : Option (F32) :=
  (math_Sqrt K (Fl.cv .f32 .f64 a0)).bind fun v1 => chk ((convBits .f64 v1.bits .f32).isSome = true) (some (Fl.cv .f64 .f32 v1))

theorem ok_impl_RootNumber (K : Nat) (a0 : F32) (o : (F32)) (h : impl_RootNumber K a0 = some o) : CallOK Try.prog 52 [.one (.flt .f32 a0.bits)] [.one (.flt .f32 o.bits)] := by
  refine callOK_of_AW Try.func52 rfl (by kernel_rfl) (Nat.le_of_ble_eq_true (by kernel_rfl)) ?_
  intro w0
  unfold impl_RootNumber at h
  refine AW.seq (AW.rA ⟨[(0, (vc (.flt .f32 a0.bits)))], []⟩ (Tt ∧ Tt) [] [0] [] ⟨tr, tr⟩ (thenQ_normal ?_))
  refine AW.seq ?_
  obtain ⟨v1, e2, h⟩ := bind_some h
  obtain ⟨c3, h⟩ := chk_some h
  refine AW.rA ⟨[(2, (vc (.flt .f32 (Fl.cv .f64 .f32 v1).bits)))], []⟩ (Tt ∧ ((convBits .f32 a0.bits .f64).isSome = true) ∧ (((Eqc (.flt .f64 (Fl.cv .f32 .f64 a0).bits)) ∧ Tt) ∧ CallOK Try.prog 59 [.one (.flt .f64 (Fl.cv .f32 .f64 a0).bits)] [.one (.flt .f64 v1.bits)]) ∧ ((convBits .f64 v1.bits .f32).isSome = true) ∧ Tt ∧ Tt) [.no, .no, .call [.one (.flt .f64 (Fl.cv .f32 .f64 a0).bits)] [.one (.flt .f64 v1.bits)] [[.view]]] [2] [] ⟨tr, cv_wide a0, ⟨⟨rfl, tr⟩, ok_math_Sqrt K (Fl.cv .f32 .f64 a0) v1 e2⟩, c3, tr, tr⟩ ?_
  refine thenQ_normal ?_
  refine AW.ret ?_
  replace h := some_eq h
  subst h
  exact ⟨.inr rfl, retOK_of [(.one (.c (.flt .f32 (Fl.cv .f64 .f32 v1).bits)))] (by kernel_rfl) ⟨⟨rfl, tr⟩, tr⟩ (of_decide_eq_true (by kernel_rfl))⟩

/-! impl.LongOf -/
def impl_LongOf (K : Nat) (a0 : Vector) : Option (F32) :=
  (impl_InnerOf K a0 a0).bind fun v1 => (impl_RootNumber K v1).bind fun v3 => some v3

theorem ok_impl_LongOf (K : Nat) (a0 : Vector) (o : (F32)) (h : impl_LongOf K a0 = some o) : CallOK Try.prog 44 [.agg (cs_Vector a0)] [.one (.flt .f32 o.bits)] := by
  refine callOK_of_AW Try.func44 rfl (by kernel_rfl) (Nat.le_of_ble_eq_true (by kernel_rfl)) ?_
  intro w0
  unfold impl_LongOf at h
  refine AW.seq (AW.rA ⟨[(1, (vp 1 0))], [(1, (.box [(.c (.flt .f32 a0.X.bits)), (.c (.flt .f32 a0.Y.bits)), (.c (.flt .f32 a0.Z.bits))]))]⟩ (T2 Tt) [.box 1] [1] [1] ⟨tr, tr, tr⟩ (thenQ_normal ?_))
  refine AW.seq ?_
  obtain ⟨v1, e2, h⟩ := bind_some h
  obtain ⟨v3, e4, h⟩ := bind_some h
  refine AW.rA ⟨[(2, (vc (.flt .f32 v3.bits)))], []⟩ (T2 (((((Eqc (.flt .f32 a0.X.bits)) ∧ (Eqc (.flt .f32 a0.Y.bits)) ∧ (Eqc (.flt .f32 a0.Z.bits)) ∧ Tt) ∧ ((Eqc (.flt .f32 a0.X.bits)) ∧ (Eqc (.flt .f32 a0.Y.bits)) ∧ (Eqc (.flt .f32 a0.Z.bits)) ∧ Tt) ∧ Tt) ∧ CallOK Try.prog 53 [.agg (cs_Vector a0), .agg (cs_Vector a0)] [.one (.flt .f32 v1.bits)]) ∧ (((Eqc (.flt .f32 v1.bits)) ∧ Tt) ∧ CallOK Try.prog 52 [.one (.flt .f32 v1.bits)] [.one (.flt .f32 v3.bits)]) ∧ Tt ∧ Tt)) [.no, .no, .call [.agg (cs_Vector a0), .agg (cs_Vector a0)] [.one (.flt .f32 v1.bits)] [[.view]], .call [.one (.flt .f32 v1.bits)] [.one (.flt .f32 v3.bits)] [[.view]]] [2] [] ⟨tr, tr, ⟨⟨⟨rfl, rfl, rfl, tr⟩, ⟨rfl, rfl, rfl, tr⟩, tr⟩, ok_impl_InnerOf K a0 a0 v1 e2⟩, ⟨⟨rfl, tr⟩, ok_impl_RootNumber K v1 v3 e4⟩, tr, tr⟩ ?_
  refine thenQ_normal ?_
  refine AW.ret ?_
  replace h := some_eq h
  subst h
  exact ⟨.inr rfl, retOK_of [(.one (.c (.flt .f32 v3.bits)))] (by kernel_rfl) ⟨⟨rfl, tr⟩, tr⟩ (of_decide_eq_true (by kernel_rfl))⟩

/-! impl.IsFinite -/
def impl_IsFinite (_K : Nat) (a0 : F32) : Option (Bool) :=
  some ((a0.sub a0).eq (Fl.mk (k := .f32) 0 (by decide)))

theorem ok_impl_IsFinite (K : Nat) (a0 : F32) (o : (Bool)) (h : impl_IsFinite K a0 = some o) : CallOK Try.prog 58 [.one (.flt .f32 a0.bits)] [.one (.bool o)] := by
  refine callOK_of_AW Try.func58 rfl (by kernel_rfl) (Nat.le_of_ble_eq_true (by kernel_rfl)) ?_
  intro w0
  unfold impl_IsFinite at h
  refine AW.seq (AW.rA ⟨[(0, (vc (.flt .f32 a0.bits)))], []⟩ (Tt ∧ Tt) [] [0] [] ⟨tr, tr⟩ (thenQ_normal ?_))
  refine AW.seq (AW.rA ⟨[(2, (vc (.bool ((a0.sub a0).eq (Fl.mk (k := .f32) 0 (by decide))))))], []⟩ (Tt ∧ T4 Tt) [] [2] [] ⟨tr, tr, tr, tr, tr, tr⟩ (thenQ_normal ?_))
  refine AW.ret ?_
  replace h := some_eq h
  subst h
  exact ⟨.inr rfl, retOK_of [(.one (.c (.bool ((a0.sub a0).eq (Fl.mk (k := .f32) 0 (by decide))))))] (by kernel_rfl) ⟨⟨rfl, tr⟩, tr⟩ (of_decide_eq_true (by kernel_rfl))⟩

/-! impl.isLength -/
def impl_isLength (K : Nat) (a0 : F32) : Option (Bool) :=
  (impl_IsFinite K a0).bind fun v1 => (ite2 (v1) (some (a0.ne (Fl.mk (k := .f32) 0 (by decide)))) (some false)).bind fun j4 => some j4

theorem ok_impl_isLength (K : Nat) (a0 : F32) (o : (Bool)) (h : impl_isLength K a0 = some o) : CallOK Try.prog 48 [.one (.flt .f32 a0.bits)] [.one (.bool o)] := by
  refine callOK_of_AW Try.func48 rfl (by kernel_rfl) (Nat.le_of_ble_eq_true (by kernel_rfl)) ?_
  intro w0
  unfold impl_isLength at h
  refine AW.seq (AW.rA ⟨[(0, (vc (.flt .f32 a0.bits)))], []⟩ (Tt ∧ Tt) [] [0] [] ⟨tr, tr⟩ (thenQ_normal ?_))
  refine AW.seq ?_
  obtain ⟨v1, e2, h⟩ := bind_some h
  obtain ⟨j4, e5, h⟩ := bind_some h
  refine AW.join1 (s2 := ⟨[(2, (vc (.bool j4)))], []⟩) ?_ ?_
  · rcases ite2_cases e5 with ⟨b3, e5⟩ | ⟨b3, e5⟩
    · replace e5 := some_eq e5
      subst e5
      exact AW.rA ⟨[(2, (vc (.bool (a0.ne (Fl.mk (k := .f32) 0 (by decide))))))], []⟩ (Tt ∧ (((Eqc (.flt .f32 a0.bits)) ∧ Tt) ∧ CallOK Try.prog 58 [.one (.flt .f32 a0.bits)] [.one (.bool v1)]) ∧ (Tt ∧ v1 = true) ∧ T4 Tt) [.no, .call [.one (.flt .f32 a0.bits)] [.one (.bool v1)] [[.view]], .dec true] [2] [] ⟨tr, ⟨⟨rfl, tr⟩, ok_impl_IsFinite K a0 v1 e2⟩, ⟨tr, b3⟩, tr, tr, tr, tr, tr⟩ ⟨rfl, rfl⟩
    · replace e5 := some_eq e5
      subst e5
      exact AW.rA ⟨[(2, (vc (.bool false)))], []⟩ (Tt ∧ (((Eqc (.flt .f32 a0.bits)) ∧ Tt) ∧ CallOK Try.prog 58 [.one (.flt .f32 a0.bits)] [.one (.bool v1)]) ∧ (Tt ∧ v1 = false) ∧ T4 Tt) [.no, .call [.one (.flt .f32 a0.bits)] [.one (.bool v1)] [[.view]], .dec false] [2] [] ⟨tr, ⟨⟨rfl, tr⟩, ok_impl_IsFinite K a0 v1 e2⟩, ⟨tr, b3⟩, tr, tr, tr, tr, tr⟩ ⟨rfl, rfl⟩
  refine thenQ_normal ?_
  refine AW.ret ?_
  replace h := some_eq h
  subst h
  exact ⟨.inr rfl, retOK_of [(.one (.c (.bool j4)))] (by kernel_rfl) ⟨⟨rfl, tr⟩, tr⟩ (of_decide_eq_true (by kernel_rfl))⟩

/-! (*impl.String).pull -/
def Zt4 (QE : Prop) : Prop := ((Tt ∧ (Tt ∧ (Tt ∧ (Tt ∧ Tt)))) ∧ (Tt ∧ (Tt ∧ (Tt ∧ (Tt ∧ Tt)))) ∧ QE)
theorem zt4 {QE : Prop} (qe : QE) : Zt4 QE := ⟨⟨tr, ⟨tr, ⟨tr, ⟨tr, tr⟩⟩⟩⟩, ⟨tr, ⟨tr, ⟨tr, ⟨tr, tr⟩⟩⟩⟩, qe⟩
def Zt5 (Q1 Q2 Q3 Q4 Q5 : Prop) : Prop := (Q1 ∧ (Q2 ∧ (Q3 ∧ (Q4 ∧ (Q5 ∧ Tt)))))
theorem zt5 {Q1 Q2 Q3 Q4 Q5 : Prop} (q1 : Q1) (q2 : Q2) (q3 : Q3) (q4 : Q4) (q5 : Q5) : Zt5 Q1 Q2 Q3 Q4 Q5 := ⟨q1, ⟨q2, ⟨q3, ⟨q4, ⟨q5, tr⟩⟩⟩⟩⟩
def impl_String_pull (K : Nat) (a0 : String) (a1 : Int) : Option ((List Vector)) :=
  chk (0 ≤ a1 ∧ a1 < (a0.Points.length : Int)) (chk (0 ≤ (IntKind.i64.wrap (a1 + (1 : Int))) ∧ (IntKind.i64.wrap (a1 + (1 : Int))) < (a0.Points.length : Int)) ((impl_LessVectors K (a0.Points.getD ((IntKind.i64.wrap (a1 + (1 : Int))).toNat) default) (a0.Points.getD a1.toNat default)).bind fun v3 => (impl_LongOf K v3).bind fun v5 => (impl_isLength K v5).bind fun v7 => ite2 ((!v7)) (chk (a0.Points.length = a0.Points.length) (some a0.Points)) (chk (0 ≤ a1 ∧ a1 < (a0.Lengths.length : Int)) ((impl_ScaleVector K v3 ((v5.sub (a0.Lengths.getD a1.toNat default)).div v5)).bind fun v12 => chk (0 ≤ a1 ∧ a1 < (a0.Fixed.length : Int)) ((ite2 ((a0.Fixed.getD a1.toNat default)) (chk (0 ≤ (IntKind.i64.wrap (a1 + (1 : Int))) ∧ (IntKind.i64.wrap (a1 + (1 : Int))) < (a0.Fixed.length : Int)) (some (a0.Fixed.getD ((IntKind.i64.wrap (a1 + (1 : Int))).toNat) default))) (some false)).bind fun j17 => ite2 (j17) (chk (a0.Points.length = a0.Points.length) (some a0.Points)) (ite2 ((a0.Fixed.getD a1.toNat default)) ((impl_LessVectors K (a0.Points.getD ((IntKind.i64.wrap (a1 + (1 : Int))).toNat) default) v12).bind fun v22 => chk ((a0.Points.set ((IntKind.i64.wrap (a1 + (1 : Int))).toNat) v22).length = a0.Points.length) (some (a0.Points.set ((IntKind.i64.wrap (a1 + (1 : Int))).toNat) v22))) (chk (0 ≤ (IntKind.i64.wrap (a1 + (1 : Int))) ∧ (IntKind.i64.wrap (a1 + (1 : Int))) < (a0.Fixed.length : Int)) (ite2 ((a0.Fixed.getD ((IntKind.i64.wrap (a1 + (1 : Int))).toNat) default)) ((impl_AddVectors K (a0.Points.getD a1.toNat default) v12).bind fun v27 => chk ((a0.Points.set a1.toNat v27).length = a0.Points.length) (some (a0.Points.set a1.toNat v27))) ((impl_ScaleVector K v12 (Fl.mk (k := .f32) 1056964608 (by decide))).bind fun v30 => (impl_AddVectors K (a0.Points.getD a1.toNat default) v30).bind fun v32 => (impl_LessVectors K (a0.Points.getD ((IntKind.i64.wrap (a1 + (1 : Int))).toNat) default) v30).bind fun v34 => chk (((a0.Points.set a1.toNat v32).set ((IntKind.i64.wrap (a1 + (1 : Int))).toNat) v34).length = a0.Points.length) (some ((a0.Points.set a1.toNat v32).set ((IntKind.i64.wrap (a1 + (1 : Int))).toNat) v34)))))))))))

theorem ok_impl_String_pull (K : Nat) (a0 : String) (a1 : Int) (o : ((List Vector))) (h : impl_String_pull K a0 a1 = some o) : MutOK Try.prog 41 [(.boxm [(.mu (sl 3 cs_Vector a0.Points) (sl 3 cs_Vector o)), (.ro (sl 3 cs_Vector a0.Before)), (.ro (sl 1 csB a0.Fixed)), (.ro (sl 1 (csF .f32) a0.Lengths)), (.ro (.flt .f32 a0.Fall.X.bits)), (.ro (.flt .f32 a0.Fall.Y.bits)), (.ro (.flt .f32 a0.Fall.Z.bits)), (.ro (.flt .f32 a0.Damp.bits)), (.ro (.int .i64 a0.Passes))]), (.one (.ro (.int .i64 a1)))] [] := by
  refine mutOK_of_AW 2 Try.func41 rfl (by kernel_rfl) (Nat.le_of_ble_eq_true (by kernel_rfl)) (by kernel_rfl) (by kernel_rfl) ?_
  intro w0 K0 v0 s0
  unfold impl_String_pull at h
  refine AW.seq ?_
  obtain ⟨c1, h⟩ := chk_some h
  obtain ⟨c2, h⟩ := chk_some h
  refine AW.heldA (by kernel_rfl) [0, 1, 2, 3, 4, 5, 6, 7, 8, 9, 10, 11, 12, 13, 14] [] 2 [16, 24] [.no, .no, .no, .no, .no, .no, .no, .no, .no, .no, .no, .no, .no, .no, .no, .box 2, .box 3] [4, 5] [2, 3] [0, 1, 4, 5] [0, 1, 2, 3] (s' := ⟨[(0, (vp 0 0)), (1, (vc (.int .i64 a1))), (4, (vp 2 0)), (5, (vp 3 0))], [(0, (.box [(.arr 1), (.fx 0 1 (sl 3 cs_Vector a0.Before)), (.fx 0 2 (sl 1 csB a0.Fixed)), (.fx 0 3 (sl 1 (csF .f32) a0.Lengths)), (.fx 0 4 (.flt .f32 a0.Fall.X.bits)), (.fx 0 5 (.flt .f32 a0.Fall.Y.bits)), (.fx 0 6 (.flt .f32 a0.Fall.Z.bits)), (.fx 0 7 (.flt .f32 a0.Damp.bits)), (.fx 0 8 (.int .i64 a0.Passes))])), (1, (.arr true a0.Points.length 3 (gl cs_Vector a0.Points))), (2, (.box [(.c (.flt .f32 ((a0.Points.getD a1.toNat default).X).bits)), (.c (.flt .f32 ((a0.Points.getD a1.toNat default).Y).bits)), (.c (.flt .f32 ((a0.Points.getD a1.toNat default).Z).bits))])), (3, (.box [(.c (.flt .f32 ((a0.Points.getD ((IntKind.i64.wrap (a1 + (1 : Int))).toNat) default).X).bits)), (.c (.flt .f32 ((a0.Points.getD ((IntKind.i64.wrap (a1 + (1 : Int))).toNat) default).Y).bits)), (.c (.flt .f32 ((a0.Points.getD ((IntKind.i64.wrap (a1 + (1 : Int))).toNat) default).Z).bits))]))]⟩) (ob := (Tt ∧ T4 ((0 ≤ a1 ∧ a1 < (a0.Points.length : Int)) ∧ Tt ∧ T2 (T4 ((0 ≤ (IntKind.i64.wrap (a1 + (1 : Int))) ∧ (IntKind.i64.wrap (a1 + (1 : Int))) < (a0.Points.length : Int)) ∧ Tt ∧ Tt)))) ∧ (Zt4 ((⟨[(4, (vp 2 0)), (5, (vp 3 0))], [(2, (.box [(.c (.flt .f32 ((a0.Points.getD a1.toNat default).X).bits)), (.c (.flt .f32 ((a0.Points.getD a1.toNat default).Y).bits)), (.c (.flt .f32 ((a0.Points.getD a1.toNat default).Z).bits))])), (3, (.box [(.c (.flt .f32 ((a0.Points.getD ((IntKind.i64.wrap (a1 + (1 : Int))).toNat) default).X).bits)), (.c (.flt .f32 ((a0.Points.getD ((IntKind.i64.wrap (a1 + (1 : Int))).toNat) default).Y).bits)), (.c (.flt .f32 ((a0.Points.getD ((IntKind.i64.wrap (a1 + (1 : Int))).toNat) default).Z).bits))]))]⟩ : St) = ⟨[(4, (vp 2 0)), (5, (vp 3 0))], [(2, (.box [(.c (.flt .f32 ((a0.Points.getD a1.toNat default).X).bits)), (.c (.flt .f32 ((a0.Points.getD a1.toNat default).Y).bits)), (.c (.flt .f32 ((a0.Points.getD a1.toNat default).Z).bits))])), (3, (.box [(.c (.flt .f32 ((a0.Points.getD ((IntKind.i64.wrap (a1 + (1 : Int))).toNat) default).X).bits)), (.c (.flt .f32 ((a0.Points.getD ((IntKind.i64.wrap (a1 + (1 : Int))).toNat) default).Y).bits)), (.c (.flt .f32 ((a0.Points.getD ((IntKind.i64.wrap (a1 + (1 : Int))).toNat) default).Z).bits))]))]⟩)) ∧ (Tt)) (by kernel_rfl) ⟨⟨tr, tr, tr, tr, tr, c1, tr, tr, tr, tr, tr, tr, tr, c2, tr, tr⟩, (zt4 rfl), tr⟩ ?_
  refine thenQ_normal ?_
  refine AW.seq ?_
  obtain ⟨v3, e4, h⟩ := bind_some h
  refine AW.rA ⟨[(0, (vp 0 0)), (1, (vc (.int .i64 a1))), (4, (vp 2 0)), (5, (vp 3 0)), (6, (vp 4 0))], [(0, (.box [(.arr 1), (.fx 0 1 (sl 3 cs_Vector a0.Before)), (.fx 0 2 (sl 1 csB a0.Fixed)), (.fx 0 3 (sl 1 (csF .f32) a0.Lengths)), (.fx 0 4 (.flt .f32 a0.Fall.X.bits)), (.fx 0 5 (.flt .f32 a0.Fall.Y.bits)), (.fx 0 6 (.flt .f32 a0.Fall.Z.bits)), (.fx 0 7 (.flt .f32 a0.Damp.bits)), (.fx 0 8 (.int .i64 a0.Passes))])), (1, (.arr true a0.Points.length 3 (gl cs_Vector a0.Points))), (2, (.box [(.c (.flt .f32 ((a0.Points.getD a1.toNat default).X).bits)), (.c (.flt .f32 ((a0.Points.getD a1.toNat default).Y).bits)), (.c (.flt .f32 ((a0.Points.getD a1.toNat default).Z).bits))])), (3, (.box [(.c (.flt .f32 ((a0.Points.getD ((IntKind.i64.wrap (a1 + (1 : Int))).toNat) default).X).bits)), (.c (.flt .f32 ((a0.Points.getD ((IntKind.i64.wrap (a1 + (1 : Int))).toNat) default).Y).bits)), (.c (.flt .f32 ((a0.Points.getD ((IntKind.i64.wrap (a1 + (1 : Int))).toNat) default).Z).bits))])), (4, (.box [(.c (.flt .f32 v3.X.bits)), (.c (.flt .f32 v3.Y.bits)), (.c (.flt .f32 v3.Z.bits))]))]⟩ (T2 (((((((.flt .f32 ((a0.Points.getD ((IntKind.i64.wrap (a1 + (1 : Int))).toNat) default).X).bits) : C) = (.flt .f32 ((a0.Points.getD ((IntKind.i64.wrap (a1 + (1 : Int))).toNat) default).X).bits)) ∧ (((.flt .f32 ((a0.Points.getD ((IntKind.i64.wrap (a1 + (1 : Int))).toNat) default).Y).bits) : C) = (.flt .f32 ((a0.Points.getD ((IntKind.i64.wrap (a1 + (1 : Int))).toNat) default).Y).bits)) ∧ (((.flt .f32 ((a0.Points.getD ((IntKind.i64.wrap (a1 + (1 : Int))).toNat) default).Z).bits) : C) = (.flt .f32 ((a0.Points.getD ((IntKind.i64.wrap (a1 + (1 : Int))).toNat) default).Z).bits)) ∧ Tt) ∧ ((Eqc (.flt .f32 ((a0.Points.getD a1.toNat default).X).bits)) ∧ (Eqc (.flt .f32 ((a0.Points.getD a1.toNat default).Y).bits)) ∧ (Eqc (.flt .f32 ((a0.Points.getD a1.toNat default).Z).bits)) ∧ Tt) ∧ Tt) ∧ CallOK Try.prog 40 [.agg (cs_Vector (a0.Points.getD ((IntKind.i64.wrap (a1 + (1 : Int))).toNat) default)), .agg (cs_Vector (a0.Points.getD a1.toNat default))] [.agg (cs_Vector v3)]) ∧ T2 Tt)) [.no, .no, .call [.agg (cs_Vector (a0.Points.getD ((IntKind.i64.wrap (a1 + (1 : Int))).toNat) default)), .agg (cs_Vector (a0.Points.getD a1.toNat default))] [.agg (cs_Vector v3)] [[.view, .view, .view]], .box 4] [0, 1, 4, 5, 6] [0, 1, 2, 3, 4] ⟨tr, tr, ⟨⟨⟨rfl, rfl, rfl, tr⟩, ⟨rfl, rfl, rfl, tr⟩, tr⟩, ok_impl_LessVectors K (a0.Points.getD ((IntKind.i64.wrap (a1 + (1 : Int))).toNat) default) (a0.Points.getD a1.toNat default) v3 e4⟩, tr, tr, tr⟩ ?_
  refine thenQ_normal ?_
  refine AW.seq ?_
  obtain ⟨v5, e6, h⟩ := bind_some h
  refine AW.rA ⟨[(0, (vp 0 0)), (1, (vc (.int .i64 a1))), (4, (vp 2 0)), (5, (vp 3 0)), (6, (vp 4 0)), (7, (vc (.flt .f32 v5.bits)))], [(0, (.box [(.arr 1), (.fx 0 1 (sl 3 cs_Vector a0.Before)), (.fx 0 2 (sl 1 csB a0.Fixed)), (.fx 0 3 (sl 1 (csF .f32) a0.Lengths)), (.fx 0 4 (.flt .f32 a0.Fall.X.bits)), (.fx 0 5 (.flt .f32 a0.Fall.Y.bits)), (.fx 0 6 (.flt .f32 a0.Fall.Z.bits)), (.fx 0 7 (.flt .f32 a0.Damp.bits)), (.fx 0 8 (.int .i64 a0.Passes))])), (1, (.arr true a0.Points.length 3 (gl cs_Vector a0.Points))), (2, (.box [(.c (.flt .f32 ((a0.Points.getD a1.toNat default).X).bits)), (.c (.flt .f32 ((a0.Points.getD a1.toNat default).Y).bits)), (.c (.flt .f32 ((a0.Points.getD a1.toNat default).Z).bits))])), (3, (.box [(.c (.flt .f32 ((a0.Points.getD ((IntKind.i64.wrap (a1 + (1 : Int))).toNat) default).X).bits)), (.c (.flt .f32 ((a0.Points.getD ((IntKind.i64.wrap (a1 + (1 : Int))).toNat) default).Y).bits)), (.c (.flt .f32 ((a0.Points.getD ((IntKind.i64.wrap (a1 + (1 : Int))).toNat) default).Z).bits))])), (4, (.box [(.c (.flt .f32 v3.X.bits)), (.c (.flt .f32 v3.Y.bits)), (.c (.flt .f32 v3.Z.bits))]))]⟩ (Tt ∧ ((((Eqc (.flt .f32 v3.X.bits)) ∧ (Eqc (.flt .f32 v3.Y.bits)) ∧ (Eqc (.flt .f32 v3.Z.bits)) ∧ Tt) ∧ Tt) ∧ CallOK Try.prog 44 [.agg (cs_Vector v3)] [.one (.flt .f32 v5.bits)]) ∧ Tt ∧ Tt) [.no, .call [.agg (cs_Vector v3)] [.one (.flt .f32 v5.bits)] [[.view]]] [0, 1, 4, 5, 6, 7] [0, 1, 2, 3, 4] ⟨tr, ⟨⟨⟨rfl, rfl, rfl, tr⟩, tr⟩, ok_impl_LongOf K v3 v5 e6⟩, tr, tr⟩ ?_
  refine thenQ_normal ?_
  refine AW.seq ?_
  refine AW.seq ?_
  obtain ⟨v7, e8, h⟩ := bind_some h
  refine AW.rA ⟨[(0, (vp 0 0)), (1, (vc (.int .i64 a1))), (4, (vp 2 0)), (5, (vp 3 0)), (6, (vp 4 0)), (7, (vc (.flt .f32 v5.bits))), (32, (vc (.bool (!v7))))], [(0, (.box [(.arr 1), (.fx 0 1 (sl 3 cs_Vector a0.Before)), (.fx 0 2 (sl 1 csB a0.Fixed)), (.fx 0 3 (sl 1 (csF .f32) a0.Lengths)), (.fx 0 4 (.flt .f32 a0.Fall.X.bits)), (.fx 0 5 (.flt .f32 a0.Fall.Y.bits)), (.fx 0 6 (.flt .f32 a0.Fall.Z.bits)), (.fx 0 7 (.flt .f32 a0.Damp.bits)), (.fx 0 8 (.int .i64 a0.Passes))])), (1, (.arr true a0.Points.length 3 (gl cs_Vector a0.Points))), (2, (.box [(.c (.flt .f32 ((a0.Points.getD a1.toNat default).X).bits)), (.c (.flt .f32 ((a0.Points.getD a1.toNat default).Y).bits)), (.c (.flt .f32 ((a0.Points.getD a1.toNat default).Z).bits))])), (3, (.box [(.c (.flt .f32 ((a0.Points.getD ((IntKind.i64.wrap (a1 + (1 : Int))).toNat) default).X).bits)), (.c (.flt .f32 ((a0.Points.getD ((IntKind.i64.wrap (a1 + (1 : Int))).toNat) default).Y).bits)), (.c (.flt .f32 ((a0.Points.getD ((IntKind.i64.wrap (a1 + (1 : Int))).toNat) default).Z).bits))])), (4, (.box [(.c (.flt .f32 v3.X.bits)), (.c (.flt .f32 v3.Y.bits)), (.c (.flt .f32 v3.Z.bits))]))]⟩ (Tt ∧ (((Eqc (.flt .f32 v5.bits)) ∧ Tt) ∧ CallOK Try.prog 48 [.one (.flt .f32 v5.bits)] [.one (.bool v7)]) ∧ Tt ∧ Tt) [.no, .call [.one (.flt .f32 v5.bits)] [.one (.bool v7)] [[.view]]] [0, 1, 4, 5, 6, 7, 32] [0, 1, 2, 3, 4] ⟨tr, ⟨⟨rfl, tr⟩, ok_impl_isLength K v5 v7 e8⟩, tr, tr⟩ ?_
  refine thenQ_normal ?_
  rcases ite2_cases h with ⟨b9, h⟩ | ⟨b9, h⟩
  · refine AW.cond_t rfl b9 ?_
    refine AW.ret ?_
    refine thenQ_ret ?_
    obtain ⟨c10, h⟩ := chk_some h
    replace h := some_eq h
    subst h
    exact ⟨.inr rfl, retOK_of [] (by kernel_rfl) tr (of_decide_eq_true (by kernel_rfl)), by kernel_rfl, ⟨⟨⟨⟨c10, rfl, rfl⟩, tr, tr, tr, tr, tr, tr, tr, tr, tr⟩, ⟨rfl, ⟨rfl, rfl⟩, ⟨rfl, rfl⟩, ⟨rfl, rfl⟩, ⟨rfl, rfl⟩, ⟨rfl, rfl⟩, ⟨rfl, rfl⟩, ⟨rfl, rfl⟩, ⟨rfl, rfl⟩, tr⟩⟩, tr, tr⟩⟩
  · refine AW.cond_f rfl b9 ?_
    refine AW.skip ?_
    refine thenQ_normal ?_
    refine AW.seq ?_
    obtain ⟨c11, h⟩ := chk_some h
    obtain ⟨v12, e13, h⟩ := bind_some h
    refine AW.dA ⟨[(0, (vp 0 0)), (1, (vc (.int .i64 a1))), (4, (vp 2 0)), (5, (vp 3 0)), (8, (vp 5 0))], [(0, (.box [(.arr 1), (.fx 0 1 (sl 3 cs_Vector a0.Before)), (.fx 0 2 (sl 1 csB a0.Fixed)), (.fx 0 3 (sl 1 (csF .f32) a0.Lengths)), (.fx 0 4 (.flt .f32 a0.Fall.X.bits)), (.fx 0 5 (.flt .f32 a0.Fall.Y.bits)), (.fx 0 6 (.flt .f32 a0.Fall.Z.bits)), (.fx 0 7 (.flt .f32 a0.Damp.bits)), (.fx 0 8 (.int .i64 a0.Passes))])), (1, (.arr true a0.Points.length 3 (gl cs_Vector a0.Points))), (2, (.box [(.c (.flt .f32 ((a0.Points.getD a1.toNat default).X).bits)), (.c (.flt .f32 ((a0.Points.getD a1.toNat default).Y).bits)), (.c (.flt .f32 ((a0.Points.getD a1.toNat default).Z).bits))])), (3, (.box [(.c (.flt .f32 ((a0.Points.getD ((IntKind.i64.wrap (a1 + (1 : Int))).toNat) default).X).bits)), (.c (.flt .f32 ((a0.Points.getD ((IntKind.i64.wrap (a1 + (1 : Int))).toNat) default).Y).bits)), (.c (.flt .f32 ((a0.Points.getD ((IntKind.i64.wrap (a1 + (1 : Int))).toNat) default).Z).bits))])), (5, (.box [(.c (.flt .f32 v12.X.bits)), (.c (.flt .f32 v12.Y.bits)), (.c (.flt .f32 v12.Z.bits))]))]⟩ ((Tt ∧ T2 (T4 ((0 ≤ a1 ∧ a1 < (a0.Lengths.length : Int)) ∧ T4 (((((Eqc (.flt .f32 v3.X.bits)) ∧ (Eqc (.flt .f32 v3.Y.bits)) ∧ (Eqc (.flt .f32 v3.Z.bits)) ∧ Tt) ∧ (Eqc (.flt .f32 ((v5.sub (a0.Lengths.getD a1.toNat default)).div v5).bits)) ∧ Tt) ∧ CallOK Try.prog 39 [.agg (cs_Vector v3), .one (.flt .f32 ((v5.sub (a0.Lengths.getD a1.toNat default)).div v5).bits)] [.agg (cs_Vector v12)]) ∧ Tt ∧ Tt)))) ∧ (Tt ∧ Tt)) 14 [.no, .no, .no, .no, .no, .no, .no, .no, .no, .no, .no, .no, .call [.agg (cs_Vector v3), .one (.flt .f32 ((v5.sub (a0.Lengths.getD a1.toNat default)).div v5).bits)] [.agg (cs_Vector v12)] [[.view, .view, .view]], .box 5] [0, 1, 4, 5, 8] [0, 1, 2, 3, 5] ⟨⟨tr, tr, tr, tr, tr, tr, tr, c11, tr, tr, tr, tr, ⟨⟨⟨rfl, rfl, rfl, tr⟩, rfl, tr⟩, ok_impl_ScaleVector K v3 ((v5.sub (a0.Lengths.getD a1.toNat default)).div v5) v12 e13⟩, tr, tr⟩, ⟨tr, tr⟩⟩ ?_
    refine thenQ_normal ?_
    refine AW.block ?_
    refine AW.seq ?_
    obtain ⟨c14, h⟩ := chk_some h
    obtain ⟨j17, e18, h⟩ := bind_some h
    refine AW.join1 (s2 := ⟨[(0, (vp 0 0)), (1, (vc (.int .i64 a1))), (4, (vp 2 0)), (5, (vp 3 0)), (8, (vp 5 0)), (67, (vc (.bool j17)))], [(0, (.box [(.arr 1), (.fx 0 1 (sl 3 cs_Vector a0.Before)), (.fx 0 2 (sl 1 csB a0.Fixed)), (.fx 0 3 (sl 1 (csF .f32) a0.Lengths)), (.fx 0 4 (.flt .f32 a0.Fall.X.bits)), (.fx 0 5 (.flt .f32 a0.Fall.Y.bits)), (.fx 0 6 (.flt .f32 a0.Fall.Z.bits)), (.fx 0 7 (.flt .f32 a0.Damp.bits)), (.fx 0 8 (.int .i64 a0.Passes))])), (1, (.arr true a0.Points.length 3 (gl cs_Vector a0.Points))), (2, (.box [(.c (.flt .f32 ((a0.Points.getD a1.toNat default).X).bits)), (.c (.flt .f32 ((a0.Points.getD a1.toNat default).Y).bits)), (.c (.flt .f32 ((a0.Points.getD a1.toNat default).Z).bits))])), (3, (.box [(.c (.flt .f32 ((a0.Points.getD ((IntKind.i64.wrap (a1 + (1 : Int))).toNat) default).X).bits)), (.c (.flt .f32 ((a0.Points.getD ((IntKind.i64.wrap (a1 + (1 : Int))).toNat) default).Y).bits)), (.c (.flt .f32 ((a0.Points.getD ((IntKind.i64.wrap (a1 + (1 : Int))).toNat) default).Z).bits))])), (5, (.box [(.c (.flt .f32 v12.X.bits)), (.c (.flt .f32 v12.Y.bits)), (.c (.flt .f32 v12.Z.bits))]))]⟩) ?_ ?_
    · rcases ite2_cases e18 with ⟨b15, e18⟩ | ⟨b15, e18⟩
      · obtain ⟨c16, e18⟩ := chk_some e18
        replace e18 := some_eq e18
        subst e18
        exact AW.rA ⟨[(0, (vp 0 0)), (1, (vc (.int .i64 a1))), (4, (vp 2 0)), (5, (vp 3 0)), (8, (vp 5 0)), (67, (vc (.bool (a0.Fixed.getD ((IntKind.i64.wrap (a1 + (1 : Int))).toNat) default))))], [(0, (.box [(.arr 1), (.fx 0 1 (sl 3 cs_Vector a0.Before)), (.fx 0 2 (sl 1 csB a0.Fixed)), (.fx 0 3 (sl 1 (csF .f32) a0.Lengths)), (.fx 0 4 (.flt .f32 a0.Fall.X.bits)), (.fx 0 5 (.flt .f32 a0.Fall.Y.bits)), (.fx 0 6 (.flt .f32 a0.Fall.Z.bits)), (.fx 0 7 (.flt .f32 a0.Damp.bits)), (.fx 0 8 (.int .i64 a0.Passes))])), (1, (.arr true a0.Points.length 3 (gl cs_Vector a0.Points))), (2, (.box [(.c (.flt .f32 ((a0.Points.getD a1.toNat default).X).bits)), (.c (.flt .f32 ((a0.Points.getD a1.toNat default).Y).bits)), (.c (.flt .f32 ((a0.Points.getD a1.toNat default).Z).bits))])), (3, (.box [(.c (.flt .f32 ((a0.Points.getD ((IntKind.i64.wrap (a1 + (1 : Int))).toNat) default).X).bits)), (.c (.flt .f32 ((a0.Points.getD ((IntKind.i64.wrap (a1 + (1 : Int))).toNat) default).Y).bits)), (.c (.flt .f32 ((a0.Points.getD ((IntKind.i64.wrap (a1 + (1 : Int))).toNat) default).Z).bits))])), (5, (.box [(.c (.flt .f32 v12.X.bits)), (.c (.flt .f32 v12.Y.bits)), (.c (.flt .f32 v12.Z.bits))]))]⟩ (Tt ∧ T4 ((0 ≤ a1 ∧ a1 < (a0.Fixed.length : Int)) ∧ Tt ∧ (Tt ∧ (a0.Fixed.getD a1.toNat default) = true) ∧ T2 (T4 ((0 ≤ (IntKind.i64.wrap (a1 + (1 : Int))) ∧ (IntKind.i64.wrap (a1 + (1 : Int))) < (a0.Fixed.length : Int)) ∧ Tt ∧ T2 Tt)))) [.no, .no, .no, .no, .no, .no, .no, .dec true] [0, 1, 4, 5, 8, 67] [0, 1, 2, 3, 5] ⟨tr, tr, tr, tr, tr, c14, tr, ⟨tr, b15⟩, tr, tr, tr, tr, tr, tr, c16, tr, tr, tr, tr⟩ ⟨rfl, rfl⟩
      · replace e18 := some_eq e18
        subst e18
        exact AW.rA ⟨[(0, (vp 0 0)), (1, (vc (.int .i64 a1))), (4, (vp 2 0)), (5, (vp 3 0)), (8, (vp 5 0)), (67, (vc (.bool false)))], [(0, (.box [(.arr 1), (.fx 0 1 (sl 3 cs_Vector a0.Before)), (.fx 0 2 (sl 1 csB a0.Fixed)), (.fx 0 3 (sl 1 (csF .f32) a0.Lengths)), (.fx 0 4 (.flt .f32 a0.Fall.X.bits)), (.fx 0 5 (.flt .f32 a0.Fall.Y.bits)), (.fx 0 6 (.flt .f32 a0.Fall.Z.bits)), (.fx 0 7 (.flt .f32 a0.Damp.bits)), (.fx 0 8 (.int .i64 a0.Passes))])), (1, (.arr true a0.Points.length 3 (gl cs_Vector a0.Points))), (2, (.box [(.c (.flt .f32 ((a0.Points.getD a1.toNat default).X).bits)), (.c (.flt .f32 ((a0.Points.getD a1.toNat default).Y).bits)), (.c (.flt .f32 ((a0.Points.getD a1.toNat default).Z).bits))])), (3, (.box [(.c (.flt .f32 ((a0.Points.getD ((IntKind.i64.wrap (a1 + (1 : Int))).toNat) default).X).bits)), (.c (.flt .f32 ((a0.Points.getD ((IntKind.i64.wrap (a1 + (1 : Int))).toNat) default).Y).bits)), (.c (.flt .f32 ((a0.Points.getD ((IntKind.i64.wrap (a1 + (1 : Int))).toNat) default).Z).bits))])), (5, (.box [(.c (.flt .f32 v12.X.bits)), (.c (.flt .f32 v12.Y.bits)), (.c (.flt .f32 v12.Z.bits))]))]⟩ (Tt ∧ T4 ((0 ≤ a1 ∧ a1 < (a0.Fixed.length : Int)) ∧ Tt ∧ (Tt ∧ (a0.Fixed.getD a1.toNat default) = false) ∧ T2 (T4 (T4 Tt)))) [.no, .no, .no, .no, .no, .no, .no, .dec false] [0, 1, 4, 5, 8, 67] [0, 1, 2, 3, 5] ⟨tr, tr, tr, tr, tr, c14, tr, ⟨tr, b15⟩, tr, tr, tr, tr, tr, tr, tr, tr, tr, tr, tr⟩ ⟨rfl, rfl⟩
    refine thenQ_normal ?_
    rcases ite2_cases h with ⟨b19, h⟩ | ⟨b19, h⟩
    · refine AW.cond_t rfl b19 ?_
      refine AW.skip ?_
      refine blockQ_normal ?_
      obtain ⟨c20, h⟩ := chk_some h
      replace h := some_eq h
      subst h
      exact ⟨.inl rfl, retOK_of [] (by kernel_rfl) tr (of_decide_eq_true (by kernel_rfl)), by kernel_rfl, ⟨⟨⟨⟨c20, rfl, rfl⟩, tr, tr, tr, tr, tr, tr, tr, tr, tr⟩, ⟨rfl, ⟨rfl, rfl⟩, ⟨rfl, rfl⟩, ⟨rfl, rfl⟩, ⟨rfl, rfl⟩, ⟨rfl, rfl⟩, ⟨rfl, rfl⟩, ⟨rfl, rfl⟩, ⟨rfl, rfl⟩, tr⟩⟩, tr, tr⟩⟩
    · refine AW.cond_f rfl b19 ?_
      refine AW.seq (AW.rA ⟨[(0, (vp 0 0)), (1, (vc (.int .i64 a1))), (4, (vp 2 0)), (5, (vp 3 0)), (8, (vp 5 0)), (85, (vc (.bool (a0.Fixed.getD a1.toNat default))))], [(0, (.box [(.arr 1), (.fx 0 1 (sl 3 cs_Vector a0.Before)), (.fx 0 2 (sl 1 csB a0.Fixed)), (.fx 0 3 (sl 1 (csF .f32) a0.Lengths)), (.fx 0 4 (.flt .f32 a0.Fall.X.bits)), (.fx 0 5 (.flt .f32 a0.Fall.Y.bits)), (.fx 0 6 (.flt .f32 a0.Fall.Z.bits)), (.fx 0 7 (.flt .f32 a0.Damp.bits)), (.fx 0 8 (.int .i64 a0.Passes))])), (1, (.arr true a0.Points.length 3 (gl cs_Vector a0.Points))), (2, (.box [(.c (.flt .f32 ((a0.Points.getD a1.toNat default).X).bits)), (.c (.flt .f32 ((a0.Points.getD a1.toNat default).Y).bits)), (.c (.flt .f32 ((a0.Points.getD a1.toNat default).Z).bits))])), (3, (.box [(.c (.flt .f32 ((a0.Points.getD ((IntKind.i64.wrap (a1 + (1 : Int))).toNat) default).X).bits)), (.c (.flt .f32 ((a0.Points.getD ((IntKind.i64.wrap (a1 + (1 : Int))).toNat) default).Y).bits)), (.c (.flt .f32 ((a0.Points.getD ((IntKind.i64.wrap (a1 + (1 : Int))).toNat) default).Z).bits))])), (5, (.box [(.c (.flt .f32 v12.X.bits)), (.c (.flt .f32 v12.Y.bits)), (.c (.flt .f32 v12.Z.bits))]))]⟩ (Tt ∧ T4 ((0 ≤ a1 ∧ a1 < (a0.Fixed.length : Int)) ∧ T2 Tt)) [] [0, 1, 4, 5, 8, 85] [0, 1, 2, 3, 5] ⟨tr, tr, tr, tr, tr, c14, tr, tr, tr⟩ (thenQ_normal ?_))
      rcases ite2_cases h with ⟨b21, h⟩ | ⟨b21, h⟩
      · refine AW.cond_t rfl b21 ?_
        obtain ⟨v22, e23, h⟩ := bind_some h
        refine AW.dA ⟨[(0, (vp 0 0)), (1, (vc (.int .i64 a1)))], [(0, (.box [(.arr 1), (.fx 0 1 (sl 3 cs_Vector a0.Before)), (.fx 0 2 (sl 1 csB a0.Fixed)), (.fx 0 3 (sl 1 (csF .f32) a0.Lengths)), (.fx 0 4 (.flt .f32 a0.Fall.X.bits)), (.fx 0 5 (.flt .f32 a0.Fall.Y.bits)), (.fx 0 6 (.flt .f32 a0.Fall.Z.bits)), (.fx 0 7 (.flt .f32 a0.Damp.bits)), (.fx 0 8 (.int .i64 a0.Passes))])), (1, (.arr true (a0.Points.set ((IntKind.i64.wrap (a1 + (1 : Int))).toNat) v22).length 3 (gl cs_Vector (a0.Points.set ((IntKind.i64.wrap (a1 + (1 : Int))).toNat) v22))))]⟩ ((T4 (T4 (((((((.flt .f32 ((a0.Points.getD ((IntKind.i64.wrap (a1 + (1 : Int))).toNat) default).X).bits) : C) = (.flt .f32 ((a0.Points.getD ((IntKind.i64.wrap (a1 + (1 : Int))).toNat) default).X).bits)) ∧ (((.flt .f32 ((a0.Points.getD ((IntKind.i64.wrap (a1 + (1 : Int))).toNat) default).Y).bits) : C) = (.flt .f32 ((a0.Points.getD ((IntKind.i64.wrap (a1 + (1 : Int))).toNat) default).Y).bits)) ∧ (((.flt .f32 ((a0.Points.getD ((IntKind.i64.wrap (a1 + (1 : Int))).toNat) default).Z).bits) : C) = (.flt .f32 ((a0.Points.getD ((IntKind.i64.wrap (a1 + (1 : Int))).toNat) default).Z).bits)) ∧ Tt) ∧ ((Eqc (.flt .f32 v12.X.bits)) ∧ (Eqc (.flt .f32 v12.Y.bits)) ∧ (Eqc (.flt .f32 v12.Z.bits)) ∧ Tt) ∧ Tt) ∧ CallOK Try.prog 40 [.agg (cs_Vector (a0.Points.getD ((IntKind.i64.wrap (a1 + (1 : Int))).toNat) default)), .agg (cs_Vector v12)] [.agg (cs_Vector v22)]) ∧ (0 ≤ (IntKind.i64.wrap (a1 + (1 : Int))) ∧ (IntKind.i64.wrap (a1 + (1 : Int))) < (a0.Points.length : Int)) ∧ Tt))) ∧ (((a0.Points.set ((IntKind.i64.wrap (a1 + (1 : Int))).toNat) v22).length = a0.Points.length ∧ SetOb a0.Points.length 3 ((IntKind.i64.wrap (a1 + (1 : Int))).toNat) 0 3 (gl cs_Vector a0.Points) (gl cs_Vector (a0.Points.set ((IntKind.i64.wrap (a1 + (1 : Int))).toNat) v22)) ∧ ((List.range 3).map fun j => (cs_Vector v22).getD (0 + j) .nilptr) = ((List.range 3).map fun j => gl cs_Vector (a0.Points.set ((IntKind.i64.wrap (a1 + (1 : Int))).toNat) v22) ((IntKind.i64.wrap (a1 + (1 : Int))).toNat) (0 + j)) ∧ ((((.flt .f32 v22.X.bits) : C) = (.flt .f32 v22.X.bits) ∧ Tt) ∧ (((.flt .f32 v22.Y.bits) : C) = (.flt .f32 v22.Y.bits) ∧ Tt) ∧ (((.flt .f32 v22.Z.bits) : C) = (.flt .f32 v22.Z.bits) ∧ Tt) ∧ Tt) ∧ (true = true → ∀ j, j < 3 → isSeq (gl cs_Vector a0.Points ((IntKind.i64.wrap (a1 + (1 : Int))).toNat) (0 + j)) = false ∧ isSeq (gl cs_Vector (a0.Points.set ((IntKind.i64.wrap (a1 + (1 : Int))).toNat) v22) ((IntKind.i64.wrap (a1 + (1 : Int))).toNat) (0 + j)) = false)) ∧ Tt)) 10 [.no, .no, .no, .no, .no, .no, .no, .no, .call [.agg (cs_Vector (a0.Points.getD ((IntKind.i64.wrap (a1 + (1 : Int))).toNat) default)), .agg (cs_Vector v12)] [.agg (cs_Vector v22)] [[.view, .view, .view]], .no, .set (a0.Points.set ((IntKind.i64.wrap (a1 + (1 : Int))).toNat) v22).length (gl cs_Vector (a0.Points.set ((IntKind.i64.wrap (a1 + (1 : Int))).toNat) v22)) ((List.range 3).map fun j => (cs_Vector v22).getD (0 + j) .nilptr)] [0, 1] [0, 1] ⟨⟨tr, tr, tr, tr, tr, tr, tr, tr, ⟨⟨⟨rfl, rfl, rfl, tr⟩, ⟨rfl, rfl, rfl, tr⟩, tr⟩, ok_impl_LessVectors K (a0.Points.getD ((IntKind.i64.wrap (a1 + (1 : Int))).toNat) default) v12 v22 e23⟩, c2, tr⟩, ⟨⟨List.length_set, gl_set, (gl_atp (lt_of_bound c2)).symm, ⟨⟨rfl, tr⟩, ⟨rfl, tr⟩, ⟨rfl, tr⟩, tr⟩, (fun _ j hj => match j, hj with | 0, _ => ⟨rfl, rfl⟩ | 1, _ => ⟨rfl, rfl⟩ | 2, _ => ⟨rfl, rfl⟩)⟩, tr⟩⟩ ?_
        refine blockQ_normal ?_
        obtain ⟨c24, h⟩ := chk_some h
        replace h := some_eq h
        subst h
        exact ⟨.inl rfl, retOK_of [] (by kernel_rfl) tr (of_decide_eq_true (by kernel_rfl)), by kernel_rfl, ⟨⟨⟨⟨c24, rfl, rfl⟩, tr, tr, tr, tr, tr, tr, tr, tr, tr⟩, ⟨rfl, ⟨rfl, rfl⟩, ⟨rfl, rfl⟩, ⟨rfl, rfl⟩, ⟨rfl, rfl⟩, ⟨rfl, rfl⟩, ⟨rfl, rfl⟩, ⟨rfl, rfl⟩, ⟨rfl, rfl⟩, tr⟩⟩, tr, tr⟩⟩
      · refine AW.cond_f rfl b21 ?_
        refine AW.seq ?_
        obtain ⟨c25, h⟩ := chk_some h
        refine AW.rA ⟨[(0, (vp 0 0)), (1, (vc (.int .i64 a1))), (4, (vp 2 0)), (5, (vp 3 0)), (8, (vp 5 0)), (103, (vc (.bool (a0.Fixed.getD ((IntKind.i64.wrap (a1 + (1 : Int))).toNat) default))))], [(0, (.box [(.arr 1), (.fx 0 1 (sl 3 cs_Vector a0.Before)), (.fx 0 2 (sl 1 csB a0.Fixed)), (.fx 0 3 (sl 1 (csF .f32) a0.Lengths)), (.fx 0 4 (.flt .f32 a0.Fall.X.bits)), (.fx 0 5 (.flt .f32 a0.Fall.Y.bits)), (.fx 0 6 (.flt .f32 a0.Fall.Z.bits)), (.fx 0 7 (.flt .f32 a0.Damp.bits)), (.fx 0 8 (.int .i64 a0.Passes))])), (1, (.arr true a0.Points.length 3 (gl cs_Vector a0.Points))), (2, (.box [(.c (.flt .f32 ((a0.Points.getD a1.toNat default).X).bits)), (.c (.flt .f32 ((a0.Points.getD a1.toNat default).Y).bits)), (.c (.flt .f32 ((a0.Points.getD a1.toNat default).Z).bits))])), (3, (.box [(.c (.flt .f32 ((a0.Points.getD ((IntKind.i64.wrap (a1 + (1 : Int))).toNat) default).X).bits)), (.c (.flt .f32 ((a0.Points.getD ((IntKind.i64.wrap (a1 + (1 : Int))).toNat) default).Y).bits)), (.c (.flt .f32 ((a0.Points.getD ((IntKind.i64.wrap (a1 + (1 : Int))).toNat) default).Z).bits))])), (5, (.box [(.c (.flt .f32 v12.X.bits)), (.c (.flt .f32 v12.Y.bits)), (.c (.flt .f32 v12.Z.bits))]))]⟩ (T2 (T4 ((0 ≤ (IntKind.i64.wrap (a1 + (1 : Int))) ∧ (IntKind.i64.wrap (a1 + (1 : Int))) < (a0.Fixed.length : Int)) ∧ T2 Tt))) [] [0, 1, 4, 5, 8, 103] [0, 1, 2, 3, 5] ⟨tr, tr, tr, tr, tr, tr, c25, tr, tr, tr⟩ ?_
        refine thenQ_normal ?_
        rcases ite2_cases h with ⟨b26, h⟩ | ⟨b26, h⟩
        · refine AW.cond_t rfl b26 ?_
          obtain ⟨v27, e28, h⟩ := bind_some h
          refine AW.dA ⟨[(0, (vp 0 0)), (1, (vc (.int .i64 a1)))], [(0, (.box [(.arr 1), (.fx 0 1 (sl 3 cs_Vector a0.Before)), (.fx 0 2 (sl 1 csB a0.Fixed)), (.fx 0 3 (sl 1 (csF .f32) a0.Lengths)), (.fx 0 4 (.flt .f32 a0.Fall.X.bits)), (.fx 0 5 (.flt .f32 a0.Fall.Y.bits)), (.fx 0 6 (.flt .f32 a0.Fall.Z.bits)), (.fx 0 7 (.flt .f32 a0.Damp.bits)), (.fx 0 8 (.int .i64 a0.Passes))])), (1, (.arr true (a0.Points.set a1.toNat v27).length 3 (gl cs_Vector (a0.Points.set a1.toNat v27))))]⟩ ((Tt ∧ T2 (T4 (((((Eqc (.flt .f32 ((a0.Points.getD a1.toNat default).X).bits)) ∧ (Eqc (.flt .f32 ((a0.Points.getD a1.toNat default).Y).bits)) ∧ (Eqc (.flt .f32 ((a0.Points.getD a1.toNat default).Z).bits)) ∧ Tt) ∧ ((Eqc (.flt .f32 v12.X.bits)) ∧ (Eqc (.flt .f32 v12.Y.bits)) ∧ (Eqc (.flt .f32 v12.Z.bits)) ∧ Tt) ∧ Tt) ∧ CallOK Try.prog 38 [.agg (cs_Vector (a0.Points.getD a1.toNat default)), .agg (cs_Vector v12)] [.agg (cs_Vector v27)]) ∧ (0 ≤ a1 ∧ a1 < (a0.Points.length : Int)) ∧ Tt))) ∧ (((a0.Points.set a1.toNat v27).length = a0.Points.length ∧ SetOb a0.Points.length 3 a1.toNat 0 3 (gl cs_Vector a0.Points) (gl cs_Vector (a0.Points.set a1.toNat v27)) ∧ ((List.range 3).map fun j => (cs_Vector v27).getD (0 + j) .nilptr) = ((List.range 3).map fun j => gl cs_Vector (a0.Points.set a1.toNat v27) a1.toNat (0 + j)) ∧ ((((.flt .f32 v27.X.bits) : C) = (.flt .f32 v27.X.bits) ∧ Tt) ∧ (((.flt .f32 v27.Y.bits) : C) = (.flt .f32 v27.Y.bits) ∧ Tt) ∧ (((.flt .f32 v27.Z.bits) : C) = (.flt .f32 v27.Z.bits) ∧ Tt) ∧ Tt) ∧ (true = true → ∀ j, j < 3 → isSeq (gl cs_Vector a0.Points a1.toNat (0 + j)) = false ∧ isSeq (gl cs_Vector (a0.Points.set a1.toNat v27) a1.toNat (0 + j)) = false)) ∧ Tt)) 9 [.no, .no, .no, .no, .no, .no, .no, .call [.agg (cs_Vector (a0.Points.getD a1.toNat default)), .agg (cs_Vector v12)] [.agg (cs_Vector v27)] [[.view, .view, .view]], .no, .set (a0.Points.set a1.toNat v27).length (gl cs_Vector (a0.Points.set a1.toNat v27)) ((List.range 3).map fun j => (cs_Vector v27).getD (0 + j) .nilptr)] [0, 1] [0, 1] ⟨⟨tr, tr, tr, tr, tr, tr, tr, ⟨⟨⟨rfl, rfl, rfl, tr⟩, ⟨rfl, rfl, rfl, tr⟩, tr⟩, ok_impl_AddVectors K (a0.Points.getD a1.toNat default) v12 v27 e28⟩, c1, tr⟩, ⟨⟨List.length_set, gl_set, (gl_atp (lt_of_bound c1)).symm, ⟨⟨rfl, tr⟩, ⟨rfl, tr⟩, ⟨rfl, tr⟩, tr⟩, (fun _ j hj => match j, hj with | 0, _ => ⟨rfl, rfl⟩ | 1, _ => ⟨rfl, rfl⟩ | 2, _ => ⟨rfl, rfl⟩)⟩, tr⟩⟩ ?_
          refine blockQ_normal ?_
          obtain ⟨c29, h⟩ := chk_some h
          replace h := some_eq h
          subst h
          exact ⟨.inl rfl, retOK_of [] (by kernel_rfl) tr (of_decide_eq_true (by kernel_rfl)), by kernel_rfl, ⟨⟨⟨⟨c29, rfl, rfl⟩, tr, tr, tr, tr, tr, tr, tr, tr, tr⟩, ⟨rfl, ⟨rfl, rfl⟩, ⟨rfl, rfl⟩, ⟨rfl, rfl⟩, ⟨rfl, rfl⟩, ⟨rfl, rfl⟩, ⟨rfl, rfl⟩, ⟨rfl, rfl⟩, ⟨rfl, rfl⟩, tr⟩⟩, tr, tr⟩⟩
        · refine AW.cond_f rfl b26 ?_
          refine AW.seq ?_
          obtain ⟨v30, e31, h⟩ := bind_some h
          refine AW.rA ⟨[(0, (vp 0 0)), (1, (vc (.int .i64 a1))), (4, (vp 2 0)), (5, (vp 3 0)), (9, (vp 6 0))], [(0, (.box [(.arr 1), (.fx 0 1 (sl 3 cs_Vector a0.Before)), (.fx 0 2 (sl 1 csB a0.Fixed)), (.fx 0 3 (sl 1 (csF .f32) a0.Lengths)), (.fx 0 4 (.flt .f32 a0.Fall.X.bits)), (.fx 0 5 (.flt .f32 a0.Fall.Y.bits)), (.fx 0 6 (.flt .f32 a0.Fall.Z.bits)), (.fx 0 7 (.flt .f32 a0.Damp.bits)), (.fx 0 8 (.int .i64 a0.Passes))])), (1, (.arr true a0.Points.length 3 (gl cs_Vector a0.Points))), (2, (.box [(.c (.flt .f32 ((a0.Points.getD a1.toNat default).X).bits)), (.c (.flt .f32 ((a0.Points.getD a1.toNat default).Y).bits)), (.c (.flt .f32 ((a0.Points.getD a1.toNat default).Z).bits))])), (3, (.box [(.c (.flt .f32 ((a0.Points.getD ((IntKind.i64.wrap (a1 + (1 : Int))).toNat) default).X).bits)), (.c (.flt .f32 ((a0.Points.getD ((IntKind.i64.wrap (a1 + (1 : Int))).toNat) default).Y).bits)), (.c (.flt .f32 ((a0.Points.getD ((IntKind.i64.wrap (a1 + (1 : Int))).toNat) default).Z).bits))])), (6, (.box [(.c (.flt .f32 v30.X.bits)), (.c (.flt .f32 v30.Y.bits)), (.c (.flt .f32 v30.Z.bits))]))]⟩ (Tt ∧ ((((Eqc (.flt .f32 v12.X.bits)) ∧ (Eqc (.flt .f32 v12.Y.bits)) ∧ (Eqc (.flt .f32 v12.Z.bits)) ∧ Tt) ∧ (Eqc (.flt .f32 (Fl.mk (k := .f32) 1056964608 (by decide)).bits)) ∧ Tt) ∧ CallOK Try.prog 39 [.agg (cs_Vector v12), .one (.flt .f32 (Fl.mk (k := .f32) 1056964608 (by decide)).bits)] [.agg (cs_Vector v30)]) ∧ T2 Tt) [.no, .call [.agg (cs_Vector v12), .one (.flt .f32 (Fl.mk (k := .f32) 1056964608 (by decide)).bits)] [.agg (cs_Vector v30)] [[.view, .view, .view]], .box 6] [0, 1, 4, 5, 9] [0, 1, 2, 3, 6] ⟨tr, ⟨⟨⟨rfl, rfl, rfl, tr⟩, rfl, tr⟩, ok_impl_ScaleVector K v12 (Fl.mk (k := .f32) 1056964608 (by decide)) v30 e31⟩, tr, tr, tr⟩ ?_
          refine thenQ_normal ?_
          obtain ⟨v32, e33, h⟩ := bind_some h
          obtain ⟨v34, e35, h⟩ := bind_some h
          refine AW.post ?_
          refine AW.heldA (by kernel_rfl) [0, 1, 2, 3, 4, 5, 6, 7, 8, 9, 10, 11, 12, 14, 15] [1] 7 [51, 52, 56, 58, 59, 60, 62, 63] [.no, .no, .no, .no, .no, .no, .no, .no, .no, .no, .no, .no, .no, .call [.agg (cs_Vector (a0.Points.getD a1.toNat default)), .agg (cs_Vector v30)] [.agg (cs_Vector v32)] [[.view, .view, .view]], .no, .no, .call [.agg (cs_Vector (a0.Points.getD ((IntKind.i64.wrap (a1 + (1 : Int))).toNat) default)), .agg (cs_Vector v30)] [.agg (cs_Vector v34)] [[.view, .view, .view]], .no, .set a0.Points.length (gl cs_Vector (a0.Points.set a1.toNat v32)) ((List.range 3).map fun j => (cs_Vector v32).getD (0 + j) .nilptr), .no, .set a0.Points.length (gl cs_Vector ((a0.Points.set a1.toNat v32).set ((IntKind.i64.wrap (a1 + (1 : Int))).toNat) v34)) ((List.range 3).map fun j => (cs_Vector v34).getD (0 + j) .nilptr)] [] [1] [0, 1] [0, 1] (s' := ⟨[(0, (vp 0 0)), (1, (vc (.int .i64 a1)))], [(0, (.box [(.arr 1), (.fx 0 1 (sl 3 cs_Vector a0.Before)), (.fx 0 2 (sl 1 csB a0.Fixed)), (.fx 0 3 (sl 1 (csF .f32) a0.Lengths)), (.fx 0 4 (.flt .f32 a0.Fall.X.bits)), (.fx 0 5 (.flt .f32 a0.Fall.Y.bits)), (.fx 0 6 (.flt .f32 a0.Fall.Z.bits)), (.fx 0 7 (.flt .f32 a0.Damp.bits)), (.fx 0 8 (.int .i64 a0.Passes))])), (1, (.arr true a0.Points.length 3 (gl cs_Vector ((a0.Points.set a1.toNat v32).set ((IntKind.i64.wrap (a1 + (1 : Int))).toNat) v34))))]⟩) (ob := (Tt ∧ T2 (T4 (T4 (T4 Tt)))) ∧ ((((((Eqc (.flt .f32 ((a0.Points.getD a1.toNat default).X).bits)) ∧ (Eqc (.flt .f32 ((a0.Points.getD a1.toNat default).Y).bits)) ∧ (Eqc (.flt .f32 ((a0.Points.getD a1.toNat default).Z).bits)) ∧ Tt) ∧ ((Eqc (.flt .f32 v30.X.bits)) ∧ (Eqc (.flt .f32 v30.Y.bits)) ∧ (Eqc (.flt .f32 v30.Z.bits)) ∧ Tt) ∧ Tt) ∧ CallOK Try.prog 38 [.agg (cs_Vector (a0.Points.getD a1.toNat default)), .agg (cs_Vector v30)] [.agg (cs_Vector v32)])) ∧ (Zt5 (((((((.flt .f32 ((a0.Points.getD ((IntKind.i64.wrap (a1 + (1 : Int))).toNat) default).X).bits) : C) = (.flt .f32 ((a0.Points.getD ((IntKind.i64.wrap (a1 + (1 : Int))).toNat) default).X).bits)) ∧ (((.flt .f32 ((a0.Points.getD ((IntKind.i64.wrap (a1 + (1 : Int))).toNat) default).Y).bits) : C) = (.flt .f32 ((a0.Points.getD ((IntKind.i64.wrap (a1 + (1 : Int))).toNat) default).Y).bits)) ∧ (((.flt .f32 ((a0.Points.getD ((IntKind.i64.wrap (a1 + (1 : Int))).toNat) default).Z).bits) : C) = (.flt .f32 ((a0.Points.getD ((IntKind.i64.wrap (a1 + (1 : Int))).toNat) default).Z).bits)) ∧ Tt) ∧ ((Eqc (.flt .f32 v30.X.bits)) ∧ (Eqc (.flt .f32 v30.Y.bits)) ∧ (Eqc (.flt .f32 v30.Z.bits)) ∧ Tt) ∧ Tt) ∧ CallOK Try.prog 40 [.agg (cs_Vector (a0.Points.getD ((IntKind.i64.wrap (a1 + (1 : Int))).toNat) default)), .agg (cs_Vector v30)] [.agg (cs_Vector v34)])) ((0 ≤ a1 ∧ a1 < (a0.Points.length : Int))) ((a0.Points.length = a0.Points.length ∧ SetOb a0.Points.length 3 a1.toNat 0 3 (gl cs_Vector a0.Points) (gl cs_Vector (a0.Points.set a1.toNat v32)) ∧ ((List.range 3).map fun j => (cs_Vector v32).getD (0 + j) .nilptr) = ((List.range 3).map fun j => gl cs_Vector (a0.Points.set a1.toNat v32) a1.toNat (0 + j)) ∧ ((((.flt .f32 v32.X.bits) : C) = (.flt .f32 v32.X.bits) ∧ Tt) ∧ (((.flt .f32 v32.Y.bits) : C) = (.flt .f32 v32.Y.bits) ∧ Tt) ∧ (((.flt .f32 v32.Z.bits) : C) = (.flt .f32 v32.Z.bits) ∧ Tt) ∧ Tt) ∧ (true = true → ∀ j, j < 3 → isSeq (gl cs_Vector a0.Points a1.toNat (0 + j)) = false ∧ isSeq (gl cs_Vector (a0.Points.set a1.toNat v32) a1.toNat (0 + j)) = false))) ((0 ≤ (IntKind.i64.wrap (a1 + (1 : Int))) ∧ (IntKind.i64.wrap (a1 + (1 : Int))) < (a0.Points.length : Int))) ((a0.Points.length = a0.Points.length ∧ SetOb a0.Points.length 3 ((IntKind.i64.wrap (a1 + (1 : Int))).toNat) 0 3 (gl cs_Vector (a0.Points.set a1.toNat v32)) (gl cs_Vector ((a0.Points.set a1.toNat v32).set ((IntKind.i64.wrap (a1 + (1 : Int))).toNat) v34)) ∧ ((List.range 3).map fun j => (cs_Vector v34).getD (0 + j) .nilptr) = ((List.range 3).map fun j => gl cs_Vector ((a0.Points.set a1.toNat v32).set ((IntKind.i64.wrap (a1 + (1 : Int))).toNat) v34) ((IntKind.i64.wrap (a1 + (1 : Int))).toNat) (0 + j)) ∧ ((((.flt .f32 v34.X.bits) : C) = (.flt .f32 v34.X.bits) ∧ Tt) ∧ (((.flt .f32 v34.Y.bits) : C) = (.flt .f32 v34.Y.bits) ∧ Tt) ∧ (((.flt .f32 v34.Z.bits) : C) = (.flt .f32 v34.Z.bits) ∧ Tt) ∧ Tt) ∧ (true = true → ∀ j, j < 3 → isSeq (gl cs_Vector (a0.Points.set a1.toNat v32) ((IntKind.i64.wrap (a1 + (1 : Int))).toNat) (0 + j)) = false ∧ isSeq (gl cs_Vector ((a0.Points.set a1.toNat v32).set ((IntKind.i64.wrap (a1 + (1 : Int))).toNat) v34) ((IntKind.i64.wrap (a1 + (1 : Int))).toNat) (0 + j)) = false))))) ∧ ((a0.Points.length = a0.Points.length ∧ 3 = 3 ∧ ∀ i j, i < a0.Points.length → j < 3 → isSeq (gl cs_Vector ((a0.Points.set a1.toNat v32).set ((IntKind.i64.wrap (a1 + (1 : Int))).toNat) v34) i j) = isSeq (gl cs_Vector a0.Points i j)) ∧ Tt)) (by kernel_rfl) ⟨⟨tr, tr, tr, tr, tr, tr, tr, tr, tr, tr, tr, tr, tr, tr, tr, tr⟩, ⟨⟨⟨⟨rfl, rfl, rfl, tr⟩, ⟨rfl, rfl, rfl, tr⟩, tr⟩, ok_impl_AddVectors K (a0.Points.getD a1.toNat default) v30 v32 e33⟩, (zt5 ⟨⟨⟨rfl, rfl, rfl, tr⟩, ⟨rfl, rfl, rfl, tr⟩, tr⟩, ok_impl_LessVectors K (a0.Points.getD ((IntKind.i64.wrap (a1 + (1 : Int))).toNat) default) v30 v34 e35⟩ (c1) ⟨rfl, setN rfl gl_set, (gl_atp (ltN rfl c1)).symm, ⟨⟨rfl, tr⟩, ⟨rfl, tr⟩, ⟨rfl, tr⟩, tr⟩, (fun _ j hj => match j, hj with | 0, _ => ⟨rfl, rfl⟩ | 1, _ => ⟨rfl, rfl⟩ | 2, _ => ⟨rfl, rfl⟩)⟩ (c2) ⟨rfl, setN (by simp only [List.length_set]) gl_set, (gl_atp (ltN (by simp only [List.length_set]) c2)).symm, ⟨⟨rfl, tr⟩, ⟨rfl, tr⟩, ⟨rfl, tr⟩, tr⟩, (fun _ j hj => match j, hj with | 0, _ => ⟨rfl, rfl⟩ | 1, _ => ⟨rfl, rfl⟩ | 2, _ => ⟨rfl, rfl⟩)⟩)⟩, ⟨⟨rfl, rfl, gl_seq sq_Vector⟩, tr⟩⟩ ?_
          refine ⟨⟨[(0, (vp 0 0)), (1, (vc (.int .i64 a1)))], [(0, (.box [(.arr 1), (.fx 0 1 (sl 3 cs_Vector a0.Before)), (.fx 0 2 (sl 1 csB a0.Fixed)), (.fx 0 3 (sl 1 (csF .f32) a0.Lengths)), (.fx 0 4 (.flt .f32 a0.Fall.X.bits)), (.fx 0 5 (.flt .f32 a0.Fall.Y.bits)), (.fx 0 6 (.flt .f32 a0.Fall.Z.bits)), (.fx 0 7 (.flt .f32 a0.Damp.bits)), (.fx 0 8 (.int .i64 a0.Passes))])), (1, (.arr true ((a0.Points.set a1.toNat v32).set ((IntKind.i64.wrap (a1 + (1 : Int))).toNat) v34).length 3 (gl cs_Vector ((a0.Points.set a1.toNat v32).set ((IntKind.i64.wrap (a1 + (1 : Int))).toNat) v34))))]⟩, subEq (by simp only [List.length_set]), ?_⟩
          refine blockQ_normal ?_
          obtain ⟨c36, h⟩ := chk_some h
          replace h := some_eq h
          subst h
          exact ⟨.inl rfl, retOK_of [] (by kernel_rfl) tr (of_decide_eq_true (by kernel_rfl)), by kernel_rfl, ⟨⟨⟨⟨c36, rfl, rfl⟩, tr, tr, tr, tr, tr, tr, tr, tr, tr⟩, ⟨rfl, ⟨rfl, rfl⟩, ⟨rfl, rfl⟩, ⟨rfl, rfl⟩, ⟨rfl, rfl⟩, ⟨rfl, rfl⟩, ⟨rfl, rfl⟩, ⟨rfl, rfl⟩, ⟨rfl, rfl⟩, tr⟩⟩, tr, tr⟩⟩

end
end Go.Fw
