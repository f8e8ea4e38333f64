/- Functions of the program: what each computes, and that it computes just that. -/
import Derived.Test.YtbfcahbecedaiadFwTy
import Derived.Test.YtbfcahbecedaiadFwH
import Derived.Test.YtbfcahbecedaiadFwV
import Derived.Test.YtbfcahbecedaiadFwHF
import Derived.Test.YtbfcahbecedaiadFwMK
import Derived.Test.YtbfcahbecedaiadFwUB
import Derived.Test.YtbfcahbecedaiadProg
import Derived.KernelRfl
namespace Go.Fw
open Go Go.Proofs
noncomputable section
set_option maxRecDepth 10000

/-! laws.b10Long -/
def laws_b10Long (_K : Nat) (a0 : (List Int)) (a1 : (List Int)) : Option (Bool) :=
  (ite2 ((decide ((a0.length : Int) > (1048576 : Int)))) (some true) (some (decide ((a1.length : Int) > (1048576 : Int))))).bind fun j2 => some j2

theorem ok_laws_b10Long (K : Nat) (a0 : (List Int)) (a1 : (List Int)) (o : (Bool)) (h : laws_b10Long K a0 a1 = some o) : CallOK Try.prog 4 [.one (sl 1 (csI .u8) a0), .one (sl 1 (csI .u8) a1)] [.one (.bool o)] := by
  refine callOK_of_AW Try.func4 rfl (by kernel_rfl) (Nat.le_of_ble_eq_true (by kernel_rfl)) ?_
  intro w0
  unfold laws_b10Long at h
  refine AW.sA ⟨[(0, (vc (sl 1 (csI .u8) a0))), (1, (vc (sl 1 (csI .u8) a1)))], []⟩ (Tt ∧ Tt) [] [0, 1] [] ⟨tr, tr⟩ ?_
  refine AW.seq ?_
  obtain ⟨j2, e3, h⟩ := bind_some h
  refine AW.join1 (s2 := ⟨[(4, (vB j2))], []⟩) ?_ ?_
  · rcases ite2_cases e3 with ⟨b1, e3⟩ | ⟨b1, e3⟩
    · replace e3 := some_eq e3
      subst e3
      exact AW.rA ⟨[(4, (vB true))], []⟩ (Tt ∧ T2 ((Tt ∧ (decide ((a0.length : Int) > (1048576 : Int))) = true) ∧ Tt ∧ T4 Tt)) [.no, .no, .no, .dec true] [4] [] ⟨tr, tr, tr, ⟨tr, b1⟩, tr, tr, tr, tr, tr, tr⟩ ⟨rfl, rfl⟩
    · replace e3 := some_eq e3
      subst e3
      exact AW.rA ⟨[(4, (vB (decide ((a1.length : Int) > (1048576 : Int)))))], []⟩ (Tt ∧ T2 ((Tt ∧ (decide ((a0.length : Int) > (1048576 : Int))) = false) ∧ Tt ∧ T4 Tt)) [.no, .no, .no, .dec false] [4] [] ⟨tr, tr, tr, ⟨tr, b1⟩, tr, tr, tr, tr, tr, tr⟩ ⟨rfl, rfl⟩
  refine thenQ_normal ?_
  refine AW.ret ?_
  replace h := some_eq h
  subst h
  exact ⟨.inr rfl, retOK_of [(.one (.c (.bool j2)))] (by kernel_rfl) ⟨⟨rfl, tr⟩, tr⟩ (of_decide_eq_true (by kernel_rfl))⟩

/-! spec.l00From -/
theorem mk_spec_l00From : MkOK Try.prog 19 87 [(.i64, 0), (.u64, 0)] := by
  refine mkOK_of Try.func19 rfl (by kernel_rfl) fun w ad n cap => ?_
  refine wp_seq (wp_region_lit (wpList_val (x := (.pointer none)) (w' := w) rfl (by kernel_rfl) (wpList_nil ?_)))
  refine wp_seq (wp_region_lit (wpList_val (x := (.slice ad n cap)) (w' := w) rfl (by kernel_rfl) (wpList_val (x := (.agg #[(.slice ad n cap), .int .i64 0, .int .u64 0])) (w' := w) rfl (by kernel_rfl) (wpList_val (x := (.pointer (some ⟨w.heap.size, 0, none⟩))) (w' := (w.alloc (.cells #[(.slice ad n cap), .int .i64 0, .int .u64 0] 87))) rfl (by kernel_rfl) (wpList_val (x := (.pointer (some ⟨w.heap.size, 0, none⟩))) (w' := (w.alloc (.cells #[(.slice ad n cap), .int .i64 0, .int .u64 0] 87))) rfl (by kernel_rfl) (wpList_nil ?_))))))
  exact wp_ret ⟨rfl, (.pointer (some ⟨w.heap.size, 0, none⟩)), (by kernel_rfl), _, rfl, rfl, rfl⟩



/-! (*spec.l00Src).next -/
def spec_l00Src_next (_K : Nat) (a0 : l00Src) : Option (Int × Int × Int) :=
  ite2 ((decide (a0.at_ < (a0.code.length : Int)))) (chk (0 ≤ a0.at_ ∧ a0.at_ < (a0.code.length : Int)) (ite2 ((decide ((IntKind.i64.wrap (a0.at_ + (1 : Int))) ≤ (a0.code.length : Int)))) (some ((IntKind.i64.wrap (a0.code.getD a0.at_.toNat default)), (IntKind.i64.wrap (a0.at_ + (1 : Int))), (IntKind.u64.wrap ((IntKind.u64.wrap ((IntKind.u64.wrap (a0.seed * (6364136223846793005 : Int))) + (IntKind.u64.wrap (IntKind.i64.wrap (a0.code.getD a0.at_.toNat default))))) + (1442695040888963407 : Int))))) (chk (0 ≤ (40 : Int)) (some ((IntKind.i64.wrap (bits .and .u64 ((IntKind.u64.wrap ((IntKind.u64.wrap ((IntKind.u64.wrap (a0.seed * (6364136223846793005 : Int))) + (IntKind.u64.wrap (IntKind.i64.wrap (a0.code.getD a0.at_.toNat default))))) + (1442695040888963407 : Int))).fdiv (2 ^ (min (40 : Int).toNat (IntKind.bits .u64)))) (255 : Int))), (IntKind.i64.wrap (a0.at_ + (1 : Int))), (IntKind.u64.wrap ((IntKind.u64.wrap ((IntKind.u64.wrap (a0.seed * (6364136223846793005 : Int))) + (IntKind.u64.wrap (IntKind.i64.wrap (a0.code.getD a0.at_.toNat default))))) + (1442695040888963407 : Int)))))))) (ite2 ((decide ((IntKind.i64.wrap (a0.at_ + (1 : Int))) ≤ (a0.code.length : Int)))) (some ((0 : Int), (IntKind.i64.wrap (a0.at_ + (1 : Int))), (IntKind.u64.wrap ((IntKind.u64.wrap ((IntKind.u64.wrap (a0.seed * (6364136223846793005 : Int))) + (IntKind.u64.wrap (0 : Int)))) + (1442695040888963407 : Int))))) (chk (0 ≤ (40 : Int)) (some ((IntKind.i64.wrap (bits .and .u64 ((IntKind.u64.wrap ((IntKind.u64.wrap ((IntKind.u64.wrap (a0.seed * (6364136223846793005 : Int))) + (IntKind.u64.wrap (0 : Int)))) + (1442695040888963407 : Int))).fdiv (2 ^ (min (40 : Int).toNat (IntKind.bits .u64)))) (255 : Int))), (IntKind.i64.wrap (a0.at_ + (1 : Int))), (IntKind.u64.wrap ((IntKind.u64.wrap ((IntKind.u64.wrap (a0.seed * (6364136223846793005 : Int))) + (IntKind.u64.wrap (0 : Int)))) + (1442695040888963407 : Int)))))))

theorem ok_spec_l00Src_next (K : Nat) (a0 : l00Src) (o : (Int × Int × Int)) (h : spec_l00Src_next K a0 = some o) : MutOK Try.prog 61 [(.box 3 (fun j => [true, false, false].getD j true) (fun j => (cs_l00Src a0).getD j .nilptr) (fun j => [.nilptr, (.int .i64 o.2.1), (.int .u64 o.2.2)].getD j .nilptr))] [.one (.int .i64 o.1)] := by
  refine mutOK_of_AW 1 Try.func61 rfl (by kernel_rfl) (Nat.le_of_ble_eq_true (by kernel_rfl)) (by kernel_rfl) (by kernel_rfl) ?_
  intro w0 K0 v0 s0
  unfold spec_l00Src_next at h
  let z4 := sl 1 (csI .u8) a0.code
  refine AW.weak (s' := ⟨[(0, (vp 0 0))], [(0, (.box [(.fx 0 0 z4), (cI a0.at_), (.c (.int .u64 a0.seed))]))]⟩) (subUnfx 0 [1, 2] (by kernel_rfl)) ?_
  refine AW.sC (Tt ∧ Tt) [] [0] [0] ⟨tr, tr⟩ ?_
  let z10 := vI (0 : Int)
  refine AW.sA ⟨[(0, (vp 0 0)), (3, z10)], [(0, (.box [(.fx 0 0 z4), (cI a0.at_), (.c (.int .u64 a0.seed))]))]⟩ (Tt ∧ Tt) [] [0, 3] [0] ⟨tr, tr⟩ ?_
  refine AW.seq ?_
  let z9 := (T2 (T4 (T4 Tt))) ∧ (Tt)
  refine AW.seq (AW.dA ⟨[(0, (vp 0 0)), (3, z10), (13, (vB (decide (a0.at_ < (a0.code.length : Int)))))], [(0, (.box [(.fx 0 0 z4), (cI a0.at_), (.c (.int .u64 a0.seed))]))]⟩ z9 10 [] [0, 3, 13] [0] ⟨⟨tr, tr, tr, tr, tr, tr, tr, tr, tr, tr, tr⟩, tr⟩ (thenQ_normal ?_))
  rcases ite2_cases h with ⟨b1, h⟩ | ⟨b1, h⟩
  · refine AW.cond_t rfl b1 ?_
    obtain ⟨c2, h⟩ := chk_some h
    let z3 := IntKind.i64.wrap (a0.code.getD a0.at_.toNat default)
    refine AW.dA ⟨[(0, (vp 0 0)), (3, (vI z3))], [(0, (.box [(.fx 0 0 z4), (cI a0.at_), (.c (.int .u64 a0.seed))]))]⟩ ((T4 (T4 ((0 ≤ a0.at_ ∧ a0.at_ < (a0.code.length : Int)) ∧ Tt ∧ T2 Tt))) ∧ (Tt)) 12 [] [0, 3] [0] ⟨⟨tr, tr, tr, tr, tr, tr, tr, tr, c2, tr, tr, tr, tr⟩, tr⟩ ?_
    refine thenQ_normal ?_
    refine AW.sC (T4 (T4 Tt)) [] [0, 3] [0] ⟨tr, tr, tr, tr, tr, tr, tr, tr, tr⟩ ?_
    let z1 := IntKind.u64.wrap ((IntKind.u64.wrap ((IntKind.u64.wrap (a0.seed * (6364136223846793005 : Int))) + (IntKind.u64.wrap z3))) + (1442695040888963407 : Int))
    let z5 := IntKind.i64.wrap (a0.at_ + (1 : Int))
    refine AW.sA ⟨[(0, (vp 0 0)), (3, (vI z3))], [(0, (.box [(.fx 0 0 z4), (cI z5), (.c (.int .u64 z1))]))]⟩ (Tt ∧ T4 (T4 (T4 Tt))) [] [0, 3] [0] ⟨tr, tr, tr, tr, tr, tr, tr, tr, tr, tr, tr, tr, tr, tr⟩ ?_
    refine AW.seq ?_
    refine AW.seq (AW.dA ⟨[(0, (vp 0 0)), (3, (vI z3)), (53, (vB (decide (z5 ≤ (a0.code.length : Int)))))], [(0, (.box [(.fx 0 0 z4), (cI z5), (.c (.int .u64 z1))]))]⟩ z9 10 [] [0, 3, 53] [0] ⟨⟨tr, tr, tr, tr, tr, tr, tr, tr, tr, tr, tr⟩, tr⟩ (thenQ_normal ?_))
    rcases ite2_cases h with ⟨b3, h⟩ | ⟨b3, h⟩
    · refine AW.cond_t rfl b3 ?_
      refine AW.sA ⟨[(0, (vp 0 0)), (2, (vI z3))], [(0, (.box [(.fx 0 0 z4), (cI z5), (.c (.int .u64 z1))]))]⟩ (T2 Tt) [] [0, 2] [0] ⟨tr, tr, tr⟩ ?_
      refine AW.ret ?_
      refine thenQ_ret ?_
      replace h := some_eq h
      subst h
      exact ⟨.inr rfl, retOK_of [(.one (cI z3))] (by kernel_rfl) ⟨⟨rfl, tr⟩, tr⟩ (of_decide_eq_true (by kernel_rfl)), by kernel_rfl, ⟨⟨rfl, ⟨⟨rfl, rfl⟩, ⟨rfl, rfl⟩, ⟨rfl, rfl⟩, tr⟩⟩, tr⟩⟩
    · refine AW.cond_f rfl b3 ?_
      refine AW.skip ?_
      refine thenQ_normal ?_
      refine AW.seq ?_
      obtain ⟨c4, h⟩ := chk_some h
      let z7 := IntKind.i64.wrap (bits .and .u64 (z1.fdiv (2 ^ (min (40 : Int).toNat (IntKind.bits .u64)))) (255 : Int))
      refine AW.tA ⟨[(0, (vp 0 0)), (2, (vI z7))], [(0, (.box [(.fx 0 0 z4), (cI z5), (.c (.int .u64 z1))]))]⟩ (T4 ((0 ≤ (40 : Int)) ∧ Tt ∧ T2 Tt)) [] [0, 2] [0] ⟨tr, tr, tr, tr, c4, tr, tr, tr, tr⟩ ?_
      refine AW.ret ?_
      replace h := some_eq h
      subst h
      exact ⟨.inr rfl, retOK_of [(.one (cI z7))] (by kernel_rfl) ⟨⟨rfl, tr⟩, tr⟩ (of_decide_eq_true (by kernel_rfl)), by kernel_rfl, ⟨⟨rfl, ⟨⟨rfl, rfl⟩, ⟨rfl, rfl⟩, ⟨rfl, rfl⟩, tr⟩⟩, tr⟩⟩
  · refine AW.cond_f rfl b1 ?_
    refine AW.skip ?_
    refine thenQ_normal ?_
    refine AW.sC (T4 (T4 Tt)) [] [0, 3] [0] ⟨tr, tr, tr, tr, tr, tr, tr, tr, tr⟩ ?_
    let z2 := IntKind.u64.wrap ((IntKind.u64.wrap ((IntKind.u64.wrap (a0.seed * (6364136223846793005 : Int))) + (IntKind.u64.wrap (0 : Int)))) + (1442695040888963407 : Int))
    let z6 := IntKind.i64.wrap (a0.at_ + (1 : Int))
    refine AW.sA ⟨[(0, (vp 0 0)), (3, z10)], [(0, (.box [(.fx 0 0 z4), (cI z6), (.c (.int .u64 z2))]))]⟩ (Tt ∧ T4 (T4 (T4 Tt))) [] [0, 3] [0] ⟨tr, tr, tr, tr, tr, tr, tr, tr, tr, tr, tr, tr, tr, tr⟩ ?_
    refine AW.seq ?_
    refine AW.seq (AW.dA ⟨[(0, (vp 0 0)), (3, z10), (53, (vB (decide (z6 ≤ (a0.code.length : Int)))))], [(0, (.box [(.fx 0 0 z4), (cI z6), (.c (.int .u64 z2))]))]⟩ z9 10 [] [0, 3, 53] [0] ⟨⟨tr, tr, tr, tr, tr, tr, tr, tr, tr, tr, tr⟩, tr⟩ (thenQ_normal ?_))
    rcases ite2_cases h with ⟨b5, h⟩ | ⟨b5, h⟩
    · refine AW.cond_t rfl b5 ?_
      refine AW.sA ⟨[(0, (vp 0 0)), (2, z10)], [(0, (.box [(.fx 0 0 z4), (cI z6), (.c (.int .u64 z2))]))]⟩ (T2 Tt) [] [0, 2] [0] ⟨tr, tr, tr⟩ ?_
      refine AW.ret ?_
      refine thenQ_ret ?_
      replace h := some_eq h
      subst h
      exact ⟨.inr rfl, retOK_of [(.one (cI (0 : Int)))] (by kernel_rfl) ⟨⟨rfl, tr⟩, tr⟩ (of_decide_eq_true (by kernel_rfl)), by kernel_rfl, ⟨⟨rfl, ⟨⟨rfl, rfl⟩, ⟨rfl, rfl⟩, ⟨rfl, rfl⟩, tr⟩⟩, tr⟩⟩
    · refine AW.cond_f rfl b5 ?_
      refine AW.skip ?_
      refine thenQ_normal ?_
      refine AW.seq ?_
      obtain ⟨c6, h⟩ := chk_some h
      let z8 := IntKind.i64.wrap (bits .and .u64 (z2.fdiv (2 ^ (min (40 : Int).toNat (IntKind.bits .u64)))) (255 : Int))
      refine AW.tA ⟨[(0, (vp 0 0)), (2, (vI z8))], [(0, (.box [(.fx 0 0 z4), (cI z6), (.c (.int .u64 z2))]))]⟩ (T4 ((0 ≤ (40 : Int)) ∧ Tt ∧ T2 Tt)) [] [0, 2] [0] ⟨tr, tr, tr, tr, c6, tr, tr, tr, tr⟩ ?_
      refine AW.ret ?_
      replace h := some_eq h
      subst h
      exact ⟨.inr rfl, retOK_of [(.one (cI z8))] (by kernel_rfl) ⟨⟨rfl, tr⟩, tr⟩ (of_decide_eq_true (by kernel_rfl)), by kernel_rfl, ⟨⟨rfl, ⟨⟨rfl, rfl⟩, ⟨rfl, rfl⟩, ⟨rfl, rfl⟩, tr⟩⟩, tr⟩⟩

/-! (*spec.l00Src).pick -/
def spec_l00Src_pick (K : Nat) (a0 : l00Src) (a1 : Int) : Option (Int × Int × Int) :=
  ite2 ((decide (a1 ≤ (1 : Int)))) (some ((0 : Int), a0.at_, a0.seed)) ((spec_l00Src_next K a0).bind fun v2 => ite2 ((decide (a1 > (200 : Int)))) ((spec_l00Src_next K (l00Src.mk a0.code v2.2.1 v2.2.2)).bind fun v5 => chk (a1 ≠ 0) (some (((IntKind.i64.wrap ((IntKind.i64.wrap (v2.1 * (256 : Int))) + v5.1)).tmod a1), v5.2.1, v5.2.2))) (chk (a1 ≠ 0) (some ((v2.1.tmod a1), v2.2.1, v2.2.2))))

theorem ok_spec_l00Src_pick (K : Nat) (a0 : l00Src) (a1 : Int) (o : (Int × Int × Int)) (h : spec_l00Src_pick K a0 a1 = some o) : MutOK Try.prog 45 [(.box 3 (fun j => [true, false, false].getD j true) (fun j => (cs_l00Src a0).getD j .nilptr) (fun j => [.nilptr, (.int .i64 o.2.1), (.int .u64 o.2.2)].getD j .nilptr)), (.one (.ro (.int .i64 a1)))] [.one (.int .i64 o.1)] := by
  refine mutOK_of_AW 1 Try.func45 rfl (by kernel_rfl) (Nat.le_of_ble_eq_true (by kernel_rfl)) (by kernel_rfl) (by kernel_rfl) ?_
  intro w0 K0 v0 s0
  unfold spec_l00Src_pick at h
  let z1 := sl 1 (csI .u8) a0.code
  refine AW.weak (s' := ⟨[(0, (vp 0 0)), (1, (vI a1))], [(0, (.box [(.fx 0 0 z1), (cI a0.at_), (.c (.int .u64 a0.seed))]))]⟩) (subUnfx 0 [1, 2] (by kernel_rfl)) ?_
  refine AW.sC (Tt ∧ Tt) [] [0, 1] [0] ⟨tr, tr⟩ ?_
  refine AW.seq ?_
  refine AW.sA ⟨[(0, (vp 0 0)), (1, (vI a1)), (7, (vB (decide (a1 ≤ (1 : Int)))))], [(0, (.box [(.fx 0 0 z1), (cI a0.at_), (.c (.int .u64 a0.seed))]))]⟩ (T2 Tt) [] [0, 1, 7] [0] ⟨tr, tr, tr⟩ ?_
  rcases ite2_cases h with ⟨b1, h⟩ | ⟨b1, h⟩
  · refine AW.cond_t rfl b1 ?_
    refine AW.sA ⟨[(0, (vp 0 0)), (1, (vI a1)), (4, (vI (0 : Int)))], [(0, (.box [(.fx 0 0 z1), (cI a0.at_), (.c (.int .u64 a0.seed))]))]⟩ (Tt ∧ Tt) [] [0, 1, 4] [0] ⟨tr, tr⟩ ?_
    refine AW.ret ?_
    refine thenQ_ret ?_
    replace h := some_eq h
    subst h
    exact ⟨.inr rfl, retOK_of [(.one (cI (0 : Int)))] (by kernel_rfl) ⟨⟨rfl, tr⟩, tr⟩ (of_decide_eq_true (by kernel_rfl)), by kernel_rfl, ⟨⟨rfl, ⟨⟨rfl, rfl⟩, ⟨rfl, rfl⟩, ⟨rfl, rfl⟩, tr⟩⟩, tr, tr⟩⟩
  · refine AW.cond_f rfl b1 ?_
    refine AW.skip ?_
    refine thenQ_normal ?_
    refine AW.seq ?_
    obtain ⟨v2, e3, h⟩ := bind_some h
    refine AW.tC (Tt ∧ ((((Eqc z1) ∧ (eI a0.at_) ∧ (Eqc (.int .u64 a0.seed)) ∧ Tt) ∧ Tt) ∧ MutOK Try.prog 61 [(.box 3 (fun j => [true, false, false].getD j true) (fun j => (cs_l00Src a0).getD j .nilptr) (fun j => [.nilptr, (.int .i64 v2.2.1), (.int .u64 v2.2.2)].getD j .nilptr))] [.one (.int .i64 v2.1)]) ∧ Tt ∧ Tt) [.no, .callM [(.box 3 (fun j => [true, false, false].getD j true) (fun j => (cs_l00Src a0).getD j .nilptr) (fun j => [.nilptr, (.int .i64 v2.2.1), (.int .u64 v2.2.2)].getD j .nilptr))] [.one (.int .i64 v2.1)] [[.view]] none] [0, 1, 5] [0] ⟨tr, ⟨⟨⟨rfl, rfl, rfl, tr⟩, tr⟩, ok_spec_l00Src_next K a0 v2 e3⟩, tr, tr⟩ ?_
    refine AW.seq ?_
    refine AW.sA ⟨[(0, (vp 0 0)), (1, (vI a1)), (5, (vI v2.1)), (11, (vB (decide (a1 > (200 : Int)))))], [(0, (.box [(.fx 0 0 z1), (cI v2.2.1), (.c (.int .u64 v2.2.2))]))]⟩ (T2 Tt) [] [0, 1, 5, 11] [0] ⟨tr, tr, tr⟩ ?_
    rcases ite2_cases h with ⟨b4, h⟩ | ⟨b4, h⟩
    · refine AW.cond_t rfl b4 ?_
      obtain ⟨v5, e6, h⟩ := bind_some h
      let z3 := l00Src.mk a0.code v2.2.1 v2.2.2
      refine AW.tC (Tt ∧ T2 (((((Eqc z1) ∧ (eI v2.2.1) ∧ (Eqc (.int .u64 v2.2.2)) ∧ Tt) ∧ Tt) ∧ MutOK Try.prog 61 [(.box 3 (fun j => [true, false, false].getD j true) (fun j => (cs_l00Src z3).getD j .nilptr) (fun j => [.nilptr, (.int .i64 v5.2.1), (.int .u64 v5.2.2)].getD j .nilptr))] [.one (.int .i64 v5.1)]) ∧ T2 Tt)) [.no, .no, .no, .callM [(.box 3 (fun j => [true, false, false].getD j true) (fun j => (cs_l00Src z3).getD j .nilptr) (fun j => [.nilptr, (.int .i64 v5.2.1), (.int .u64 v5.2.2)].getD j .nilptr))] [.one (.int .i64 v5.1)] [[.view]] none] [0, 1, 5] [0] ⟨tr, tr, tr, ⟨⟨⟨rfl, rfl, rfl, tr⟩, tr⟩, ok_spec_l00Src_next K z3 v5 e6⟩, tr, tr, tr⟩ ?_
      refine AW.seq ?_
      obtain ⟨c7, h⟩ := chk_some h
      let z2 := (IntKind.i64.wrap ((IntKind.i64.wrap (v2.1 * (256 : Int))) + v5.1)).tmod a1
      refine AW.tA ⟨[(0, (vp 0 0)), (1, (vI a1)), (4, (vI z2))], [(0, (.box [(.fx 0 0 z1), (cI v5.2.1), (.c (.int .u64 v5.2.2))]))]⟩ (T2 ((a1 ≠ 0) ∧ Tt ∧ Tt)) [] [0, 1, 4] [0] ⟨tr, tr, c7, tr, tr⟩ ?_
      refine AW.ret ?_
      replace h := some_eq h
      subst h
      exact ⟨.inr rfl, retOK_of [(.one (cI z2))] (by kernel_rfl) ⟨⟨rfl, tr⟩, tr⟩ (of_decide_eq_true (by kernel_rfl)), by kernel_rfl, ⟨⟨rfl, ⟨⟨rfl, rfl⟩, ⟨rfl, rfl⟩, ⟨rfl, rfl⟩, tr⟩⟩, tr, tr⟩⟩
    · refine AW.cond_f rfl b4 ?_
      refine AW.skip ?_
      refine thenQ_normal ?_
      refine AW.seq ?_
      obtain ⟨c8, h⟩ := chk_some h
      refine AW.tA ⟨[(0, (vp 0 0)), (1, (vI a1)), (4, (vI (v2.1.tmod a1)))], [(0, (.box [(.fx 0 0 z1), (cI v2.2.1), (.c (.int .u64 v2.2.2))]))]⟩ (T2 ((a1 ≠ 0) ∧ Tt ∧ Tt)) [] [0, 1, 4] [0] ⟨tr, tr, c8, tr, tr⟩ ?_
      refine AW.ret ?_
      replace h := some_eq h
      subst h
      exact ⟨.inr rfl, retOK_of [(.one (cI (v2.1.tmod a1)))] (by kernel_rfl) ⟨⟨rfl, tr⟩, tr⟩ (of_decide_eq_true (by kernel_rfl)), by kernel_rfl, ⟨⟨rfl, ⟨⟨rfl, rfl⟩, ⟨rfl, rfl⟩, ⟨rfl, rfl⟩, tr⟩⟩, tr, tr⟩⟩

/-! (*spec.l00Src).one -/
def spec_l00Src_one (K : Nat) (a0 : l00Src) (a1 : Int) : Option (Bool × Int × Int) :=
  (spec_l00Src_pick K a0 a1).bind fun v1 => some ((v1.1 == (0 : Int)), v1.2.1, v1.2.2)

theorem ok_spec_l00Src_one (K : Nat) (a0 : l00Src) (a1 : Int) (o : (Bool × Int × Int)) (h : spec_l00Src_one K a0 a1 = some o) : MutOK Try.prog 60 [(.box 3 (fun j => [true, false, false].getD j true) (fun j => (cs_l00Src a0).getD j .nilptr) (fun j => [.nilptr, (.int .i64 o.2.1), (.int .u64 o.2.2)].getD j .nilptr)), (.one (.ro (.int .i64 a1)))] [.one (.bool o.1)] := by
  refine mutOK_of_AW 1 Try.func60 rfl (by kernel_rfl) (Nat.le_of_ble_eq_true (by kernel_rfl)) (by kernel_rfl) (by kernel_rfl) ?_
  intro w0 K0 v0 s0
  unfold spec_l00Src_one at h
  let z1 := sl 1 (csI .u8) a0.code
  refine AW.weak (s' := ⟨[(0, (vp 0 0)), (1, (vI a1))], [(0, (.box [(.fx 0 0 z1), (cI a0.at_), (.c (.int .u64 a0.seed))]))]⟩) (subUnfx 0 [1, 2] (by kernel_rfl)) ?_
  refine AW.sC (Tt ∧ Tt) [] [0, 1] [0] ⟨tr, tr⟩ ?_
  refine AW.seq ?_
  obtain ⟨v1, e2, h⟩ := bind_some h
  refine AW.tA ⟨[(0, (vp 0 0)), (1, (vI a1)), (4, (vB (v1.1 == (0 : Int))))], [(0, (.box [(.fx 0 0 z1), (cI v1.2.1), (.c (.int .u64 v1.2.2))]))]⟩ (T2 (((((Eqc z1) ∧ (eI a0.at_) ∧ (Eqc (.int .u64 a0.seed)) ∧ Tt) ∧ (eI a1) ∧ Tt) ∧ MutOK Try.prog 45 [(.box 3 (fun j => [true, false, false].getD j true) (fun j => (cs_l00Src a0).getD j .nilptr) (fun j => [.nilptr, (.int .i64 v1.2.1), (.int .u64 v1.2.2)].getD j .nilptr)), .one (.ro (.int .i64 a1))] [.one (.int .i64 v1.1)]) ∧ T2 Tt)) [.no, .no, .callM [(.box 3 (fun j => [true, false, false].getD j true) (fun j => (cs_l00Src a0).getD j .nilptr) (fun j => [.nilptr, (.int .i64 v1.2.1), (.int .u64 v1.2.2)].getD j .nilptr)), .one (.ro (.int .i64 a1))] [.one (.int .i64 v1.1)] [[.view]] none] [0, 1, 4] [0] ⟨tr, tr, ⟨⟨⟨rfl, rfl, rfl, tr⟩, rfl, tr⟩, ok_spec_l00Src_pick K a0 a1 v1 e2⟩, tr, tr, tr⟩ ?_
  refine AW.ret ?_
  replace h := some_eq h
  subst h
  exact ⟨.inr rfl, retOK_of [(.one (.c (.bool (v1.1 == (0 : Int)))))] (by kernel_rfl) ⟨⟨rfl, tr⟩, tr⟩ (of_decide_eq_true (by kernel_rfl)), by kernel_rfl, ⟨⟨rfl, ⟨⟨rfl, rfl⟩, ⟨rfl, rfl⟩, ⟨rfl, rfl⟩, tr⟩⟩, tr, tr⟩⟩

/-! spec.l01DrawSmall -/
def spec_l01DrawSmall (K : Nat) (a0 : l00Src) : Option (F32 × Int × Int) :=
  (spec_l00Src_pick K a0 (33 : Int)).bind fun v1 => some (((Fl.ofInt .f32 (IntKind.i64.wrap (v1.1 - (16 : Int)))).div (Fl.mk (k := .f32) 1082130432 (by decide))), v1.2.1, v1.2.2)

theorem ok_spec_l01DrawSmall (K : Nat) (a0 : l00Src) (o : (F32 × Int × Int)) (h : spec_l01DrawSmall K a0 = some o) : MutOK Try.prog 62 [(.box 3 (fun j => [true, false, false].getD j true) (fun j => (cs_l00Src a0).getD j .nilptr) (fun j => [.nilptr, (.int .i64 o.2.1), (.int .u64 o.2.2)].getD j .nilptr))] [.one (.flt .f32 o.1.bits)] := by
  refine mutOK_of_AW 1 Try.func62 rfl (by kernel_rfl) (Nat.le_of_ble_eq_true (by kernel_rfl)) (by kernel_rfl) (by kernel_rfl) ?_
  intro w0 K0 v0 s0
  unfold spec_l01DrawSmall at h
  let z2 := sl 1 (csI .u8) a0.code
  refine AW.weak (s' := ⟨[(0, (vp 0 0))], [(0, (.box [(.fx 0 0 z2), (cI a0.at_), (.c (.int .u64 a0.seed))]))]⟩) (subUnfx 0 [1, 2] (by kernel_rfl)) ?_
  refine AW.sC (Tt ∧ Tt) [] [0] [0] ⟨tr, tr⟩ ?_
  refine AW.seq ?_
  obtain ⟨v1, e2, h⟩ := bind_some h
  let z1 := (Fl.ofInt .f32 (IntKind.i64.wrap (v1.1 - (16 : Int)))).div (Fl.mk (k := .f32) 1082130432 (by decide))
  refine AW.tA ⟨[(0, (vp 0 0)), (2, (vc (.flt .f32 z1.bits)))], [(0, (.box [(.fx 0 0 z2), (cI v1.2.1), (.c (.int .u64 v1.2.2))]))]⟩ (Tt ∧ ((((Eqc z2) ∧ (eI a0.at_) ∧ (Eqc (.int .u64 a0.seed)) ∧ Tt) ∧ (eI (33 : Int)) ∧ Tt) ∧ MutOK Try.prog 45 [(.box 3 (fun j => [true, false, false].getD j true) (fun j => (cs_l00Src a0).getD j .nilptr) (fun j => [.nilptr, (.int .i64 v1.2.1), (.int .u64 v1.2.2)].getD j .nilptr)), .one (.ro (.int .i64 (33 : Int)))] [.one (.int .i64 v1.1)]) ∧ T4 Tt) [.no, .callM [(.box 3 (fun j => [true, false, false].getD j true) (fun j => (cs_l00Src a0).getD j .nilptr) (fun j => [.nilptr, (.int .i64 v1.2.1), (.int .u64 v1.2.2)].getD j .nilptr)), .one (.ro (.int .i64 (33 : Int)))] [.one (.int .i64 v1.1)] [[.view]] none] [0, 2] [0] ⟨tr, ⟨⟨⟨rfl, rfl, rfl, tr⟩, rfl, tr⟩, ok_spec_l00Src_pick K a0 (33 : Int) v1 e2⟩, tr, tr, tr, tr, tr⟩ ?_
  refine AW.ret ?_
  replace h := some_eq h
  subst h
  exact ⟨.inr rfl, retOK_of [(.one (cF z1))] (by kernel_rfl) ⟨⟨rfl, tr⟩, tr⟩ (of_decide_eq_true (by kernel_rfl)), by kernel_rfl, ⟨⟨rfl, ⟨⟨rfl, rfl⟩, ⟨rfl, rfl⟩, ⟨rfl, rfl⟩, tr⟩⟩, tr⟩⟩

/-! spec.l01DrawPlain -/
def spec_l01DrawPlain (K : Nat) (a0 : l00Src) : Option (F32 × Int × Int) :=
  (spec_l00Src_pick K a0 (129 : Int)).bind fun v1 => (spec_l00Src_one K (l00Src.mk a0.code v1.2.1 v1.2.2) (4 : Int)).bind fun v3 => ite2 (v3.1) (some (((Fl.ofInt .f32 (IntKind.i64.wrap (v1.1 - (64 : Int)))).div (Fl.mk (k := .f32) 1088421888 (by decide))), v3.2.1, v3.2.2)) (some (((Fl.ofInt .f32 (IntKind.i64.wrap (v1.1 - (64 : Int)))).div (Fl.mk (k := .f32) 1098907648 (by decide))), v3.2.1, v3.2.2))

theorem ok_spec_l01DrawPlain (K : Nat) (a0 : l00Src) (o : (F32 × Int × Int)) (h : spec_l01DrawPlain K a0 = some o) : MutOK Try.prog 79 [(.box 3 (fun j => [true, false, false].getD j true) (fun j => (cs_l00Src a0).getD j .nilptr) (fun j => [.nilptr, (.int .i64 o.2.1), (.int .u64 o.2.2)].getD j .nilptr))] [.one (.flt .f32 o.1.bits)] := by
  refine mutOK_of_AW 1 Try.func79 rfl (by kernel_rfl) (Nat.le_of_ble_eq_true (by kernel_rfl)) (by kernel_rfl) (by kernel_rfl) ?_
  intro w0 K0 v0 s0
  unfold spec_l01DrawPlain at h
  let z2 := sl 1 (csI .u8) a0.code
  refine AW.weak (s' := ⟨[(0, (vp 0 0))], [(0, (.box [(.fx 0 0 z2), (cI a0.at_), (.c (.int .u64 a0.seed))]))]⟩) (subUnfx 0 [1, 2] (by kernel_rfl)) ?_
  refine AW.sC (Tt ∧ Tt) [] [0] [0] ⟨tr, tr⟩ ?_
  refine AW.seq ?_
  obtain ⟨v1, e2, h⟩ := bind_some h
  refine AW.tC (Tt ∧ ((((Eqc z2) ∧ (eI a0.at_) ∧ (Eqc (.int .u64 a0.seed)) ∧ Tt) ∧ (eI (129 : Int)) ∧ Tt) ∧ MutOK Try.prog 45 [(.box 3 (fun j => [true, false, false].getD j true) (fun j => (cs_l00Src a0).getD j .nilptr) (fun j => [.nilptr, (.int .i64 v1.2.1), (.int .u64 v1.2.2)].getD j .nilptr)), .one (.ro (.int .i64 (129 : Int)))] [.one (.int .i64 v1.1)]) ∧ T2 Tt) [.no, .callM [(.box 3 (fun j => [true, false, false].getD j true) (fun j => (cs_l00Src a0).getD j .nilptr) (fun j => [.nilptr, (.int .i64 v1.2.1), (.int .u64 v1.2.2)].getD j .nilptr)), .one (.ro (.int .i64 (129 : Int)))] [.one (.int .i64 v1.1)] [[.view]] none] [0, 3] [0] ⟨tr, ⟨⟨⟨rfl, rfl, rfl, tr⟩, rfl, tr⟩, ok_spec_l00Src_pick K a0 (129 : Int) v1 e2⟩, tr, tr, tr⟩ ?_
  refine AW.seq ?_
  refine AW.seq ?_
  obtain ⟨v3, e4, h⟩ := bind_some h
  let z1 := IntKind.i64.wrap (v1.1 - (64 : Int))
  let z5 := l00Src.mk a0.code v1.2.1 v1.2.2
  refine AW.tA ⟨[(0, (vp 0 0)), (3, (vI z1)), (8, (vB v3.1))], [(0, (.box [(.fx 0 0 z2), (cI v3.2.1), (.c (.int .u64 v3.2.2))]))]⟩ (Tt ∧ ((((Eqc z2) ∧ (eI v1.2.1) ∧ (Eqc (.int .u64 v1.2.2)) ∧ Tt) ∧ (eI (4 : Int)) ∧ Tt) ∧ MutOK Try.prog 60 [(.box 3 (fun j => [true, false, false].getD j true) (fun j => (cs_l00Src z5).getD j .nilptr) (fun j => [.nilptr, (.int .i64 v3.2.1), (.int .u64 v3.2.2)].getD j .nilptr)), .one (.ro (.int .i64 (4 : Int)))] [.one (.bool v3.1)]) ∧ Tt) [.no, .callM [(.box 3 (fun j => [true, false, false].getD j true) (fun j => (cs_l00Src z5).getD j .nilptr) (fun j => [.nilptr, (.int .i64 v3.2.1), (.int .u64 v3.2.2)].getD j .nilptr)), .one (.ro (.int .i64 (4 : Int)))] [.one (.bool v3.1)] [[.view]] none] [0, 3, 8] [0] ⟨tr, ⟨⟨⟨rfl, rfl, rfl, tr⟩, rfl, tr⟩, ok_spec_l00Src_one K z5 (4 : Int) v3 e4⟩, tr⟩ ?_
  rcases ite2_cases h with ⟨b5, h⟩ | ⟨b5, h⟩
  · refine AW.cond_t rfl b5 ?_
    let z3 := (Fl.ofInt .f32 z1).div (Fl.mk (k := .f32) 1088421888 (by decide))
    refine AW.sA ⟨[(0, (vp 0 0)), (2, (vc (.flt .f32 z3.bits)))], [(0, (.box [(.fx 0 0 z2), (cI v3.2.1), (.c (.int .u64 v3.2.2))]))]⟩ (T4 Tt) [] [0, 2] [0] ⟨tr, tr, tr, tr, tr⟩ ?_
    refine AW.ret ?_
    refine thenQ_ret ?_
    replace h := some_eq h
    subst h
    exact ⟨.inr rfl, retOK_of [(.one (cF z3))] (by kernel_rfl) ⟨⟨rfl, tr⟩, tr⟩ (of_decide_eq_true (by kernel_rfl)), by kernel_rfl, ⟨⟨rfl, ⟨⟨rfl, rfl⟩, ⟨rfl, rfl⟩, ⟨rfl, rfl⟩, tr⟩⟩, tr⟩⟩
  · refine AW.cond_f rfl b5 ?_
    refine AW.skip ?_
    refine thenQ_normal ?_
    let z4 := (Fl.ofInt .f32 z1).div (Fl.mk (k := .f32) 1098907648 (by decide))
    refine AW.sA ⟨[(0, (vp 0 0)), (2, (vc (.flt .f32 z4.bits)))], [(0, (.box [(.fx 0 0 z2), (cI v3.2.1), (.c (.int .u64 v3.2.2))]))]⟩ (T4 Tt) [] [0, 2] [0] ⟨tr, tr, tr, tr, tr⟩ ?_
    refine AW.ret ?_
    replace h := some_eq h
    subst h
    exact ⟨.inr rfl, retOK_of [(.one (cF z4))] (by kernel_rfl) ⟨⟨rfl, tr⟩, tr⟩ (of_decide_eq_true (by kernel_rfl)), by kernel_rfl, ⟨⟨rfl, ⟨⟨rfl, rfl⟩, ⟨rfl, rfl⟩, ⟨rfl, rfl⟩, tr⟩⟩, tr⟩⟩

/-! (*spec.l00Src).among -/
def spec_l00Src_among (K : Nat) (a0 : l00Src) (a1 : (List Int)) : Option (Int × Int × Int) :=
  (spec_l00Src_pick K a0 (a1.length : Int)).bind fun v1 => chk (0 ≤ v1.1 ∧ v1.1 < (a1.length : Int)) (some ((a1.getD v1.1.toNat default), v1.2.1, v1.2.2))

theorem ok_spec_l00Src_among (K : Nat) (a0 : l00Src) (a1 : (List Int)) (o : (Int × Int × Int)) (h : spec_l00Src_among K a0 a1 = some o) : MutOK Try.prog 81 [(.box 3 (fun j => [true, false, false].getD j true) (fun j => (cs_l00Src a0).getD j .nilptr) (fun j => [.nilptr, (.int .i64 o.2.1), (.int .u64 o.2.2)].getD j .nilptr)), (.one (.ro (sl 1 (csI .i64) a1)))] [.one (.int .i64 o.1)] := by
  refine mutOK_of_AW 1 Try.func81 rfl (by kernel_rfl) (Nat.le_of_ble_eq_true (by kernel_rfl)) (by kernel_rfl) (by kernel_rfl) ?_
  intro w0 K0 v0 s0
  unfold spec_l00Src_among at h
  let z1 := sl 1 (csI .u8) a0.code
  refine AW.weak (s' := ⟨[(0, (vp 0 0)), (1, (vc (sl 1 (csI .i64) a1)))], [(0, (.box [(.fx 0 0 z1), (cI a0.at_), (.c (.int .u64 a0.seed))]))]⟩) (subUnfx 0 [1, 2] (by kernel_rfl)) ?_
  refine AW.sC (Tt ∧ Tt) [] [0, 1] [0] ⟨tr, tr⟩ ?_
  refine AW.seq ?_
  obtain ⟨v1, e2, h⟩ := bind_some h
  obtain ⟨c3, h⟩ := chk_some h
  let z2 := a1.getD v1.1.toNat default
  refine AW.tA ⟨[(0, (vp 0 0)), (1, (vc (sl 1 (csI .i64) a1))), (4, (vI z2))], [(0, (.box [(.fx 0 0 z1), (cI v1.2.1), (.c (.int .u64 v1.2.2))]))]⟩ (T4 (((((Eqc z1) ∧ (eI a0.at_) ∧ (Eqc (.int .u64 a0.seed)) ∧ Tt) ∧ (eI (a1.length : Int)) ∧ Tt) ∧ MutOK Try.prog 45 [(.box 3 (fun j => [true, false, false].getD j true) (fun j => (cs_l00Src a0).getD j .nilptr) (fun j => [.nilptr, (.int .i64 v1.2.1), (.int .u64 v1.2.2)].getD j .nilptr)), .one (.ro (.int .i64 (a1.length : Int)))] [.one (.int .i64 v1.1)]) ∧ (0 ≤ v1.1 ∧ v1.1 < (a1.length : Int)) ∧ T2 Tt)) [.no, .no, .no, .no, .callM [(.box 3 (fun j => [true, false, false].getD j true) (fun j => (cs_l00Src a0).getD j .nilptr) (fun j => [.nilptr, (.int .i64 v1.2.1), (.int .u64 v1.2.2)].getD j .nilptr)), .one (.ro (.int .i64 (a1.length : Int)))] [.one (.int .i64 v1.1)] [[.view]] none] [0, 1, 4] [0] ⟨tr, tr, tr, tr, ⟨⟨⟨rfl, rfl, rfl, tr⟩, rfl, tr⟩, ok_spec_l00Src_pick K a0 (a1.length : Int) v1 e2⟩, c3, tr, tr, tr⟩ ?_
  refine AW.ret ?_
  replace h := some_eq h
  subst h
  exact ⟨.inr rfl, retOK_of [(.one (cI z2))] (by kernel_rfl) ⟨⟨rfl, tr⟩, tr⟩ (of_decide_eq_true (by kernel_rfl)), by kernel_rfl, ⟨⟨rfl, ⟨⟨rfl, rfl⟩, ⟨rfl, rfl⟩, ⟨rfl, rfl⟩, tr⟩⟩, tr, tr⟩⟩

/-! math.Float32frombits -/
def math_Float32frombits (_K : Nat) (a0 : Int) : Option (F32) :=
  Fl.ofBits .f32 a0

theorem ok_math_Float32frombits (K : Nat) (a0 : Int) (o : F32) (h : math_Float32frombits K a0 = some o) : CallOK Try.prog 95 [.one (.int .u32 a0)] [.one (.flt .f32 o.bits)] :=
  hand_ofBits (e := Extern.MathFloatBits.float32frombits) Try.func95 (by kernel_rfl) (by kernel_rfl) (by kernel_rfl) (by kernel_rfl) (fun _ _ => rfl) a0 o h

/-! spec.l01From -/
def spec_l01From (K : Nat) (a0 : Int) : Option (F32) :=
  (math_Float32frombits K (IntKind.u32.wrap a0)).bind fun v1 => some v1

theorem ok_spec_l01From (K : Nat) (a0 : Int) (o : (F32)) (h : spec_l01From K a0 = some o) : CallOK Try.prog 80 [.one (.int .i64 a0)] [.one (.flt .f32 o.bits)] := by
  refine callOK_of_AW Try.func80 rfl (by kernel_rfl) (Nat.le_of_ble_eq_true (by kernel_rfl)) ?_
  intro w0
  unfold spec_l01From at h
  refine AW.sC (Tt ∧ Tt) [] [0] [] ⟨tr, tr⟩ ?_
  refine AW.seq ?_
  obtain ⟨v1, e2, h⟩ := bind_some h
  let z1 := IntKind.u32.wrap a0
  refine AW.tA ⟨[(2, (vc (.flt .f32 v1.bits)))], []⟩ (T2 ((((Eqc (.int .u32 z1)) ∧ Tt) ∧ CallOK Try.prog 95 [.one (.int .u32 z1)] [.one (.flt .f32 v1.bits)]) ∧ Tt ∧ Tt)) [.no, .no, .call [.one (.int .u32 z1)] [.one (.flt .f32 v1.bits)] [[.view]]] [2] [] ⟨tr, tr, ⟨⟨rfl, tr⟩, ok_math_Float32frombits K z1 v1 e2⟩, tr, tr⟩ ?_
  refine AW.ret ?_
  replace h := some_eq h
  subst h
  exact ⟨.inr rfl, retOK_of [(.one (cF v1))] (by kernel_rfl) ⟨⟨rfl, tr⟩, tr⟩ (of_decide_eq_true (by kernel_rfl))⟩

/-! spec.l01DrawFloat -/
def spec_l01DrawFloat (K : Nat) (a0 : l00Src) : Option (F32 × Int × Int) :=
  (spec_l00Src_one K a0 (12 : Int)).bind fun v1 => ite2 ((!v1.1)) ((spec_l01DrawPlain K (l00Src.mk a0.code v1.2.1 v1.2.2)).bind fun v4 => some (v4.1, v4.2.1, v4.2.2)) ((spec_l00Src_pick K (l00Src.mk a0.code v1.2.1 v1.2.2) (4 : Int)).bind fun v6 => ite2 ((v6.1 == (0 : Int))) ((spec_l00Src_among K (l00Src.mk a0.code v6.2.1 v6.2.2) ([(0 : Int), (2147483648 : Int), (2139095040 : Int), (4286578688 : Int), (2143289344 : Int), (1 : Int), (2139095039 : Int), (8388608 : Int), (8388607 : Int), (2147483649 : Int)])).bind fun v9 => (spec_l01From K v9.1).bind fun v11 => some (v11, v9.2.1, v9.2.2)) (ite2 ((v6.1 == (1 : Int))) ((spec_l00Src_pick K (l00Src.mk a0.code v6.2.1 v6.2.2) (65536 : Int)).bind fun v14 => (spec_l00Src_pick K (l00Src.mk a0.code v14.2.1 v14.2.2) (65536 : Int)).bind fun v16 => (spec_l01From K (IntKind.i64.wrap ((IntKind.i64.wrap (v14.1 * (65536 : Int))) + v16.1))).bind fun v18 => some (v18, v16.2.1, v16.2.2)) (ite2 ((v6.1 == (2 : Int))) ((spec_l00Src_pick K (l00Src.mk a0.code v6.2.1 v6.2.2) (65536 : Int)).bind fun v21 => (spec_l01From K (IntKind.i64.wrap (v21.1 * (65536 : Int)))).bind fun v23 => some (v23, v21.2.1, v21.2.2)) ((spec_l01DrawPlain K (l00Src.mk a0.code v6.2.1 v6.2.2)).bind fun v25 => (spec_l00Src_among K (l00Src.mk a0.code v25.2.1 v25.2.2) ([(8388608 : Int), (2130706432 : Int), (1610612736 : Int), (536870912 : Int)])).bind fun v27 => (spec_l01From K v27.1).bind fun v29 => some ((v25.1.mul v29), v27.2.1, v27.2.2)))))

theorem ok_spec_l01DrawFloat (K : Nat) (a0 : l00Src) (o : (F32 × Int × Int)) (h : spec_l01DrawFloat K a0 = some o) : MutOK Try.prog 63 [(.box 3 (fun j => [true, false, false].getD j true) (fun j => (cs_l00Src a0).getD j .nilptr) (fun j => [.nilptr, (.int .i64 o.2.1), (.int .u64 o.2.2)].getD j .nilptr))] [.one (.flt .f32 o.1.bits)] := by
  refine mutOK_of_AW 1 Try.func63 rfl (by kernel_rfl) (Nat.le_of_ble_eq_true (by kernel_rfl)) (by kernel_rfl) (by kernel_rfl) ?_
  intro w0 K0 v0 s0
  unfold spec_l01DrawFloat at h
  let z3 := sl 1 (csI .u8) a0.code
  refine AW.weak (s' := ⟨[(0, (vp 0 0))], [(0, (.box [(.fx 0 0 z3), (cI a0.at_), (.c (.int .u64 a0.seed))]))]⟩) (subUnfx 0 [1, 2] (by kernel_rfl)) ?_
  refine AW.sC (Tt ∧ Tt) [] [0] [0] ⟨tr, tr⟩ ?_
  refine AW.seq ?_
  refine AW.seq ?_
  obtain ⟨v1, e2, h⟩ := bind_some h
  refine AW.tA ⟨[(0, (vp 0 0)), (6, (vB (!v1.1)))], [(0, (.box [(.fx 0 0 z3), (cI v1.2.1), (.c (.int .u64 v1.2.2))]))]⟩ (Tt ∧ ((((Eqc z3) ∧ (eI a0.at_) ∧ (Eqc (.int .u64 a0.seed)) ∧ Tt) ∧ (eI (12 : Int)) ∧ Tt) ∧ MutOK Try.prog 60 [(.box 3 (fun j => [true, false, false].getD j true) (fun j => (cs_l00Src a0).getD j .nilptr) (fun j => [.nilptr, (.int .i64 v1.2.1), (.int .u64 v1.2.2)].getD j .nilptr)), .one (.ro (.int .i64 (12 : Int)))] [.one (.bool v1.1)]) ∧ Tt ∧ Tt) [.no, .callM [(.box 3 (fun j => [true, false, false].getD j true) (fun j => (cs_l00Src a0).getD j .nilptr) (fun j => [.nilptr, (.int .i64 v1.2.1), (.int .u64 v1.2.2)].getD j .nilptr)), .one (.ro (.int .i64 (12 : Int)))] [.one (.bool v1.1)] [[.view]] none] [0, 6] [0] ⟨tr, ⟨⟨⟨rfl, rfl, rfl, tr⟩, rfl, tr⟩, ok_spec_l00Src_one K a0 (12 : Int) v1 e2⟩, tr, tr⟩ ?_
  rcases ite2_cases h with ⟨b3, h⟩ | ⟨b3, h⟩
  · refine AW.cond_t rfl b3 ?_
    refine AW.seq ?_
    obtain ⟨v4, e5, h⟩ := bind_some h
    let z6 := l00Src.mk a0.code v1.2.1 v1.2.2
    refine AW.tA ⟨[(0, (vp 0 0)), (2, (vc (.flt .f32 v4.1.bits)))], [(0, (.box [(.fx 0 0 z3), (cI v4.2.1), (.c (.int .u64 v4.2.2))]))]⟩ (Tt ∧ ((((Eqc z3) ∧ (eI v1.2.1) ∧ (Eqc (.int .u64 v1.2.2)) ∧ Tt) ∧ Tt) ∧ MutOK Try.prog 79 [(.box 3 (fun j => [true, false, false].getD j true) (fun j => (cs_l00Src z6).getD j .nilptr) (fun j => [.nilptr, (.int .i64 v4.2.1), (.int .u64 v4.2.2)].getD j .nilptr))] [.one (.flt .f32 v4.1.bits)]) ∧ Tt ∧ Tt) [.no, .callM [(.box 3 (fun j => [true, false, false].getD j true) (fun j => (cs_l00Src z6).getD j .nilptr) (fun j => [.nilptr, (.int .i64 v4.2.1), (.int .u64 v4.2.2)].getD j .nilptr))] [.one (.flt .f32 v4.1.bits)] [[.view]] none] [0, 2] [0] ⟨tr, ⟨⟨⟨rfl, rfl, rfl, tr⟩, tr⟩, ok_spec_l01DrawPlain K z6 v4 e5⟩, tr, tr⟩ ?_
    refine AW.ret ?_
    refine thenQ_ret ?_
    replace h := some_eq h
    subst h
    exact ⟨.inr rfl, retOK_of [(.one (cF v4.1))] (by kernel_rfl) ⟨⟨rfl, tr⟩, tr⟩ (of_decide_eq_true (by kernel_rfl)), by kernel_rfl, ⟨⟨rfl, ⟨⟨rfl, rfl⟩, ⟨rfl, rfl⟩, ⟨rfl, rfl⟩, tr⟩⟩, tr⟩⟩
  · refine AW.cond_f rfl b3 ?_
    refine AW.skip ?_
    refine thenQ_normal ?_
    refine AW.seq ?_
    refine AW.seq ?_
    obtain ⟨v6, e7, h⟩ := bind_some h
    let z7 := l00Src.mk a0.code v1.2.1 v1.2.2
    refine AW.tA ⟨[(0, (vp 0 0)), (10, (vI v6.1))], [(0, (.box [(.fx 0 0 z3), (cI v6.2.1), (.c (.int .u64 v6.2.2))]))]⟩ (Tt ∧ ((((Eqc z3) ∧ (eI v1.2.1) ∧ (Eqc (.int .u64 v1.2.2)) ∧ Tt) ∧ (eI (4 : Int)) ∧ Tt) ∧ MutOK Try.prog 45 [(.box 3 (fun j => [true, false, false].getD j true) (fun j => (cs_l00Src z7).getD j .nilptr) (fun j => [.nilptr, (.int .i64 v6.2.1), (.int .u64 v6.2.2)].getD j .nilptr)), .one (.ro (.int .i64 (4 : Int)))] [.one (.int .i64 v6.1)]) ∧ Tt) [.no, .callM [(.box 3 (fun j => [true, false, false].getD j true) (fun j => (cs_l00Src z7).getD j .nilptr) (fun j => [.nilptr, (.int .i64 v6.2.1), (.int .u64 v6.2.2)].getD j .nilptr)), .one (.ro (.int .i64 (4 : Int)))] [.one (.int .i64 v6.1)] [[.view]] none] [0, 10] [0] ⟨tr, ⟨⟨⟨rfl, rfl, rfl, tr⟩, rfl, tr⟩, ok_spec_l00Src_pick K z7 (4 : Int) v6 e7⟩, tr⟩ ?_
    refine AW.block ?_
    refine AW.sA ⟨[(0, (vp 0 0)), (10, (vI v6.1)), (11, (vB (v6.1 == (0 : Int))))], [(0, (.box [(.fx 0 0 z3), (cI v6.2.1), (.c (.int .u64 v6.2.2))]))]⟩ (T2 Tt) [] [0, 10, 11] [0] ⟨tr, tr, tr⟩ ?_
    rcases ite2_cases h with ⟨b8, h⟩ | ⟨b8, h⟩
    · refine AW.cond_t rfl b8 ?_
      refine AW.seq ?_
      obtain ⟨v9, e10, h⟩ := bind_some h
      obtain ⟨v11, e12, h⟩ := bind_some h
      let z1 := [(0 : Int), (2147483648 : Int), (2139095040 : Int), (4286578688 : Int), (2143289344 : Int), (1 : Int), (2139095039 : Int), (8388608 : Int), (8388607 : Int), (2147483649 : Int)]
      let z9 := l00Src.mk a0.code v6.2.1 v6.2.2
      let z14 : List CT := [.one (.int .i64 v9.1)]
      let z16 := sl 1 (csI .i64) z1
      refine AW.tA ⟨[(0, (vp 0 0)), (2, (vc (.flt .f32 v11.bits)))], [(0, (.box [(.fx 0 0 z3), (cI v9.2.1), (.c (.int .u64 v9.2.2))]))]⟩ (Tt ∧ (z1.length = 10 ∧ (((.int .i64 (0 : Int)) : C) = (.int .i64 (0 : Int)) ∧ Tt) ∧ (((.int .i64 (2147483648 : Int)) : C) = (.int .i64 (2147483648 : Int)) ∧ Tt) ∧ (((.int .i64 (2139095040 : Int)) : C) = (.int .i64 (2139095040 : Int)) ∧ Tt) ∧ (((.int .i64 (4286578688 : Int)) : C) = (.int .i64 (4286578688 : Int)) ∧ Tt) ∧ (((.int .i64 (2143289344 : Int)) : C) = (.int .i64 (2143289344 : Int)) ∧ Tt) ∧ (((.int .i64 (1 : Int)) : C) = (.int .i64 (1 : Int)) ∧ Tt) ∧ (((.int .i64 (2139095039 : Int)) : C) = (.int .i64 (2139095039 : Int)) ∧ Tt) ∧ (((.int .i64 (8388608 : Int)) : C) = (.int .i64 (8388608 : Int)) ∧ Tt) ∧ (((.int .i64 (8388607 : Int)) : C) = (.int .i64 (8388607 : Int)) ∧ Tt) ∧ (((.int .i64 (2147483649 : Int)) : C) = (.int .i64 (2147483649 : Int)) ∧ Tt) ∧ Tt) ∧ ((((Eqc z3) ∧ (eI v6.2.1) ∧ (Eqc (.int .u64 v6.2.2)) ∧ Tt) ∧ (Eqc z16) ∧ Tt) ∧ MutOK Try.prog 81 [(.box 3 (fun j => [true, false, false].getD j true) (fun j => (cs_l00Src z9).getD j .nilptr) (fun j => [.nilptr, (.int .i64 v9.2.1), (.int .u64 v9.2.2)].getD j .nilptr)), .one (.ro z16)] z14) ∧ (((eI v9.1) ∧ Tt) ∧ CallOK Try.prog 80 z14 [.one (.flt .f32 v11.bits)]) ∧ Tt ∧ Tt) [.no, .obj 1 z1.length (gl (csI .i64) z1), .callM [(.box 3 (fun j => [true, false, false].getD j true) (fun j => (cs_l00Src z9).getD j .nilptr) (fun j => [.nilptr, (.int .i64 v9.2.1), (.int .u64 v9.2.2)].getD j .nilptr)), .one (.ro z16)] z14 [[.view]] none, .call z14 [.one (.flt .f32 v11.bits)] [[.view]]] [0, 2] [0] ⟨tr, ⟨rfl, ⟨⟨rfl, tr⟩, ⟨rfl, tr⟩, ⟨rfl, tr⟩, ⟨rfl, tr⟩, ⟨rfl, tr⟩, ⟨rfl, tr⟩, ⟨rfl, tr⟩, ⟨rfl, tr⟩, ⟨rfl, tr⟩, ⟨rfl, tr⟩, tr⟩⟩, ⟨⟨⟨rfl, rfl, rfl, tr⟩, rfl, tr⟩, ok_spec_l00Src_among K z9 z1 v9 e10⟩, ⟨⟨rfl, tr⟩, ok_spec_l01From K v9.1 v11 e12⟩, tr, tr⟩ ?_
      refine AW.ret ?_
      refine blockQ_ret ?_
      refine thenQ_ret ?_
      replace h := some_eq h
      subst h
      exact ⟨.inr rfl, retOK_of [(.one (cF v11))] (by kernel_rfl) ⟨⟨rfl, tr⟩, tr⟩ (of_decide_eq_true (by kernel_rfl)), by kernel_rfl, ⟨⟨rfl, ⟨⟨rfl, rfl⟩, ⟨rfl, rfl⟩, ⟨rfl, rfl⟩, tr⟩⟩, tr⟩⟩
    · refine AW.cond_f rfl b8 ?_
      refine AW.sA ⟨[(0, (vp 0 0)), (10, (vI v6.1)), (17, (vB (v6.1 == (1 : Int))))], [(0, (.box [(.fx 0 0 z3), (cI v6.2.1), (.c (.int .u64 v6.2.2))]))]⟩ (T2 Tt) [] [0, 10, 17] [0] ⟨tr, tr, tr⟩ ?_
      rcases ite2_cases h with ⟨b13, h⟩ | ⟨b13, h⟩
      · refine AW.cond_t rfl b13 ?_
        refine AW.seq ?_
        obtain ⟨v14, e15, h⟩ := bind_some h
        let z11 := l00Src.mk a0.code v6.2.1 v6.2.2
        refine AW.tC (Tt ∧ ((((Eqc z3) ∧ (eI v6.2.1) ∧ (Eqc (.int .u64 v6.2.2)) ∧ Tt) ∧ (eI (65536 : Int)) ∧ Tt) ∧ MutOK Try.prog 45 [(.box 3 (fun j => [true, false, false].getD j true) (fun j => (cs_l00Src z11).getD j .nilptr) (fun j => [.nilptr, (.int .i64 v14.2.1), (.int .u64 v14.2.2)].getD j .nilptr)), .one (.ro (.int .i64 (65536 : Int)))] [.one (.int .i64 v14.1)]) ∧ T2 Tt) [.no, .callM [(.box 3 (fun j => [true, false, false].getD j true) (fun j => (cs_l00Src z11).getD j .nilptr) (fun j => [.nilptr, (.int .i64 v14.2.1), (.int .u64 v14.2.2)].getD j .nilptr)), .one (.ro (.int .i64 (65536 : Int)))] [.one (.int .i64 v14.1)] [[.view]] none] [0, 3] [0] ⟨tr, ⟨⟨⟨rfl, rfl, rfl, tr⟩, rfl, tr⟩, ok_spec_l00Src_pick K z11 (65536 : Int) v14 e15⟩, tr, tr, tr⟩ ?_
        refine AW.seq ?_
        obtain ⟨v16, e17, h⟩ := bind_some h
        obtain ⟨v18, e19, h⟩ := bind_some h
        let z4 := IntKind.i64.wrap ((IntKind.i64.wrap (v14.1 * (65536 : Int))) + v16.1)
        let z8 := l00Src.mk a0.code v14.2.1 v14.2.2
        refine AW.tA ⟨[(0, (vp 0 0)), (2, (vc (.flt .f32 v18.bits)))], [(0, (.box [(.fx 0 0 z3), (cI v16.2.1), (.c (.int .u64 v16.2.2))]))]⟩ (T2 (((((Eqc z3) ∧ (eI v14.2.1) ∧ (Eqc (.int .u64 v14.2.2)) ∧ Tt) ∧ (eI (65536 : Int)) ∧ Tt) ∧ MutOK Try.prog 45 [(.box 3 (fun j => [true, false, false].getD j true) (fun j => (cs_l00Src z8).getD j .nilptr) (fun j => [.nilptr, (.int .i64 v16.2.1), (.int .u64 v16.2.2)].getD j .nilptr)), .one (.ro (.int .i64 (65536 : Int)))] [.one (.int .i64 v16.1)]) ∧ Tt ∧ (((((.int .i64 z4) : C) = (.int .i64 z4)) ∧ Tt) ∧ CallOK Try.prog 80 [.one (.int .i64 z4)] [.one (.flt .f32 v18.bits)]) ∧ Tt ∧ Tt)) [.no, .no, .callM [(.box 3 (fun j => [true, false, false].getD j true) (fun j => (cs_l00Src z8).getD j .nilptr) (fun j => [.nilptr, (.int .i64 v16.2.1), (.int .u64 v16.2.2)].getD j .nilptr)), .one (.ro (.int .i64 (65536 : Int)))] [.one (.int .i64 v16.1)] [[.view]] none, .no, .call [.one (.int .i64 z4)] [.one (.flt .f32 v18.bits)] [[.view]]] [0, 2] [0] ⟨tr, tr, ⟨⟨⟨rfl, rfl, rfl, tr⟩, rfl, tr⟩, ok_spec_l00Src_pick K z8 (65536 : Int) v16 e17⟩, tr, ⟨⟨rfl, tr⟩, ok_spec_l01From K z4 v18 e19⟩, tr, tr⟩ ?_
        refine AW.ret ?_
        refine blockQ_ret ?_
        refine thenQ_ret ?_
        replace h := some_eq h
        subst h
        exact ⟨.inr rfl, retOK_of [(.one (cF v18))] (by kernel_rfl) ⟨⟨rfl, tr⟩, tr⟩ (of_decide_eq_true (by kernel_rfl)), by kernel_rfl, ⟨⟨rfl, ⟨⟨rfl, rfl⟩, ⟨rfl, rfl⟩, ⟨rfl, rfl⟩, tr⟩⟩, tr⟩⟩
      · refine AW.cond_f rfl b13 ?_
        refine AW.sA ⟨[(0, (vp 0 0)), (27, (vB (v6.1 == (2 : Int))))], [(0, (.box [(.fx 0 0 z3), (cI v6.2.1), (.c (.int .u64 v6.2.2))]))]⟩ (T2 Tt) [] [0, 27] [0] ⟨tr, tr, tr⟩ ?_
        rcases ite2_cases h with ⟨b20, h⟩ | ⟨b20, h⟩
        · refine AW.cond_t rfl b20 ?_
          refine AW.seq ?_
          obtain ⟨v21, e22, h⟩ := bind_some h
          obtain ⟨v23, e24, h⟩ := bind_some h
          let z5 := IntKind.i64.wrap (v21.1 * (65536 : Int))
          let z12 := l00Src.mk a0.code v6.2.1 v6.2.2
          refine AW.tA ⟨[(0, (vp 0 0)), (2, (vc (.flt .f32 v23.bits)))], [(0, (.box [(.fx 0 0 z3), (cI v21.2.1), (.c (.int .u64 v21.2.2))]))]⟩ (Tt ∧ ((((Eqc z3) ∧ (eI v6.2.1) ∧ (Eqc (.int .u64 v6.2.2)) ∧ Tt) ∧ (eI (65536 : Int)) ∧ Tt) ∧ MutOK Try.prog 45 [(.box 3 (fun j => [true, false, false].getD j true) (fun j => (cs_l00Src z12).getD j .nilptr) (fun j => [.nilptr, (.int .i64 v21.2.1), (.int .u64 v21.2.2)].getD j .nilptr)), .one (.ro (.int .i64 (65536 : Int)))] [.one (.int .i64 v21.1)]) ∧ Tt ∧ (((eI z5) ∧ Tt) ∧ CallOK Try.prog 80 [.one (.int .i64 z5)] [.one (.flt .f32 v23.bits)]) ∧ Tt ∧ Tt) [.no, .callM [(.box 3 (fun j => [true, false, false].getD j true) (fun j => (cs_l00Src z12).getD j .nilptr) (fun j => [.nilptr, (.int .i64 v21.2.1), (.int .u64 v21.2.2)].getD j .nilptr)), .one (.ro (.int .i64 (65536 : Int)))] [.one (.int .i64 v21.1)] [[.view]] none, .no, .call [.one (.int .i64 z5)] [.one (.flt .f32 v23.bits)] [[.view]]] [0, 2] [0] ⟨tr, ⟨⟨⟨rfl, rfl, rfl, tr⟩, rfl, tr⟩, ok_spec_l00Src_pick K z12 (65536 : Int) v21 e22⟩, tr, ⟨⟨rfl, tr⟩, ok_spec_l01From K z5 v23 e24⟩, tr, tr⟩ ?_
          refine AW.ret ?_
          refine blockQ_ret ?_
          refine thenQ_ret ?_
          replace h := some_eq h
          subst h
          exact ⟨.inr rfl, retOK_of [(.one (cF v23))] (by kernel_rfl) ⟨⟨rfl, tr⟩, tr⟩ (of_decide_eq_true (by kernel_rfl)), by kernel_rfl, ⟨⟨rfl, ⟨⟨rfl, rfl⟩, ⟨rfl, rfl⟩, ⟨rfl, rfl⟩, tr⟩⟩, tr⟩⟩
        · refine AW.cond_f rfl b20 ?_
          refine AW.skip ?_
          refine blockQ_normal ?_
          refine thenQ_normal ?_
          refine AW.seq ?_
          obtain ⟨v25, e26, h⟩ := bind_some h
          obtain ⟨v27, e28, h⟩ := bind_some h
          obtain ⟨v29, e30, h⟩ := bind_some h
          let z2 := [(8388608 : Int), (2130706432 : Int), (1610612736 : Int), (536870912 : Int)]
          let z10 := l00Src.mk a0.code v25.2.1 v25.2.2
          let z13 := l00Src.mk a0.code v6.2.1 v6.2.2
          let z15 : List CT := [.one (.int .i64 v27.1)]
          let z17 := sl 1 (csI .i64) z2
          refine AW.tA ⟨[(0, (vp 0 0)), (2, (vc (.flt .f32 (v25.1.mul v29).bits)))], [(0, (.box [(.fx 0 0 z3), (cI v27.2.1), (.c (.int .u64 v27.2.2))]))]⟩ (Tt ∧ ((((Eqc z3) ∧ (eI v6.2.1) ∧ (Eqc (.int .u64 v6.2.2)) ∧ Tt) ∧ Tt) ∧ MutOK Try.prog 79 [(.box 3 (fun j => [true, false, false].getD j true) (fun j => (cs_l00Src z13).getD j .nilptr) (fun j => [.nilptr, (.int .i64 v25.2.1), (.int .u64 v25.2.2)].getD j .nilptr))] [.one (.flt .f32 v25.1.bits)]) ∧ Tt ∧ (z2.length = 4 ∧ (((.int .i64 (8388608 : Int)) : C) = (.int .i64 (8388608 : Int)) ∧ Tt) ∧ (((.int .i64 (2130706432 : Int)) : C) = (.int .i64 (2130706432 : Int)) ∧ Tt) ∧ (((.int .i64 (1610612736 : Int)) : C) = (.int .i64 (1610612736 : Int)) ∧ Tt) ∧ (((.int .i64 (536870912 : Int)) : C) = (.int .i64 (536870912 : Int)) ∧ Tt) ∧ Tt) ∧ ((((Eqc z3) ∧ (eI v25.2.1) ∧ (Eqc (.int .u64 v25.2.2)) ∧ Tt) ∧ (Eqc z17) ∧ Tt) ∧ MutOK Try.prog 81 [(.box 3 (fun j => [true, false, false].getD j true) (fun j => (cs_l00Src z10).getD j .nilptr) (fun j => [.nilptr, (.int .i64 v27.2.1), (.int .u64 v27.2.2)].getD j .nilptr)), .one (.ro z17)] z15) ∧ (((eI v27.1) ∧ Tt) ∧ CallOK Try.prog 80 z15 [.one (.flt .f32 v29.bits)]) ∧ T2 Tt) [.no, .callM [(.box 3 (fun j => [true, false, false].getD j true) (fun j => (cs_l00Src z13).getD j .nilptr) (fun j => [.nilptr, (.int .i64 v25.2.1), (.int .u64 v25.2.2)].getD j .nilptr))] [.one (.flt .f32 v25.1.bits)] [[.view]] none, .no, .obj 2 z2.length (gl (csI .i64) z2), .callM [(.box 3 (fun j => [true, false, false].getD j true) (fun j => (cs_l00Src z10).getD j .nilptr) (fun j => [.nilptr, (.int .i64 v27.2.1), (.int .u64 v27.2.2)].getD j .nilptr)), .one (.ro z17)] z15 [[.view]] none, .call z15 [.one (.flt .f32 v29.bits)] [[.view]]] [0, 2] [0] ⟨tr, ⟨⟨⟨rfl, rfl, rfl, tr⟩, tr⟩, ok_spec_l01DrawPlain K z13 v25 e26⟩, tr, ⟨rfl, ⟨⟨rfl, tr⟩, ⟨rfl, tr⟩, ⟨rfl, tr⟩, ⟨rfl, tr⟩, tr⟩⟩, ⟨⟨⟨rfl, rfl, rfl, tr⟩, rfl, tr⟩, ok_spec_l00Src_among K z10 z2 v27 e28⟩, ⟨⟨rfl, tr⟩, ok_spec_l01From K v27.1 v29 e30⟩, tr, tr, tr⟩ ?_
          refine AW.ret ?_
          replace h := some_eq h
          subst h
          exact ⟨.inr rfl, retOK_of [(.one (cF (v25.1.mul v29)))] (by kernel_rfl) ⟨⟨rfl, tr⟩, tr⟩ (of_decide_eq_true (by kernel_rfl)), by kernel_rfl, ⟨⟨rfl, ⟨⟨rfl, rfl⟩, ⟨rfl, rfl⟩, ⟨rfl, rfl⟩, tr⟩⟩, tr⟩⟩

/-! spec.l01DrawVector -/
def spec_l01DrawVector (K : Nat) (a0 : l00Src) : Option (Vector × Int × Int) :=
  (spec_l00Src_one K a0 (10 : Int)).bind fun v1 => (spec_l01DrawSmall K (l00Src.mk a0.code v1.2.1 v1.2.2)).bind fun v3 => (spec_l01DrawSmall K (l00Src.mk a0.code v3.2.1 v3.2.2)).bind fun v5 => (spec_l01DrawSmall K (l00Src.mk a0.code v5.2.1 v5.2.2)).bind fun v7 => ite2 (v1.1) ((spec_l01DrawFloat K (l00Src.mk a0.code v7.2.1 v7.2.2)).bind fun v10 => some ((Vector.mk v3.1 v10.1 v7.1), v10.2.1, v10.2.2)) (some ((Vector.mk v3.1 v5.1 v7.1), v7.2.1, v7.2.2))

theorem ok_spec_l01DrawVector (K : Nat) (a0 : l00Src) (o : (Vector × Int × Int)) (h : spec_l01DrawVector K a0 = some o) : MutOK Try.prog 46 [(.box 3 (fun j => [true, false, false].getD j true) (fun j => (cs_l00Src a0).getD j .nilptr) (fun j => [.nilptr, (.int .i64 o.2.1), (.int .u64 o.2.2)].getD j .nilptr))] [.agg (cs_Vector o.1)] := by
  refine mutOK_of_AW 1 Try.func46 rfl (by kernel_rfl) (Nat.le_of_ble_eq_true (by kernel_rfl)) (by kernel_rfl) (by kernel_rfl) ?_
  intro w0 K0 v0 s0
  unfold spec_l01DrawVector at h
  let z1 := sl 1 (csI .u8) a0.code
  refine AW.weak (s' := ⟨[(0, (vp 0 0))], [(0, (.box [(.fx 0 0 z1), (cI a0.at_), (.c (.int .u64 a0.seed))]))]⟩) (subUnfx 0 [1, 2] (by kernel_rfl)) ?_
  refine AW.sC (Tt ∧ Tt) [.box 1] [0, 2] [0, 1] ⟨tr, tr⟩ ?_
  refine AW.seq ?_
  obtain ⟨v1, e2, h⟩ := bind_some h
  refine AW.tC (Tt ∧ ((((Eqc z1) ∧ (eI a0.at_) ∧ (Eqc (.int .u64 a0.seed)) ∧ Tt) ∧ (eI (10 : Int)) ∧ Tt) ∧ MutOK Try.prog 60 [(.box 3 (fun j => [true, false, false].getD j true) (fun j => (cs_l00Src a0).getD j .nilptr) (fun j => [.nilptr, (.int .i64 v1.2.1), (.int .u64 v1.2.2)].getD j .nilptr)), .one (.ro (.int .i64 (10 : Int)))] [.one (.bool v1.1)]) ∧ Tt ∧ Tt) [.no, .callM [(.box 3 (fun j => [true, false, false].getD j true) (fun j => (cs_l00Src a0).getD j .nilptr) (fun j => [.nilptr, (.int .i64 v1.2.1), (.int .u64 v1.2.2)].getD j .nilptr)), .one (.ro (.int .i64 (10 : Int)))] [.one (.bool v1.1)] [[.view]] none] [0, 2, 3] [0, 1] ⟨tr, ⟨⟨⟨rfl, rfl, rfl, tr⟩, rfl, tr⟩, ok_spec_l00Src_one K a0 (10 : Int) v1 e2⟩, tr, tr⟩ ?_
  refine AW.seq ?_
  obtain ⟨v3, e4, h⟩ := bind_some h
  let z2 := l00Src.mk a0.code v1.2.1 v1.2.2
  refine AW.tC (Tt ∧ ((((Eqc z1) ∧ (eI v1.2.1) ∧ (Eqc (.int .u64 v1.2.2)) ∧ Tt) ∧ Tt) ∧ MutOK Try.prog 62 [(.box 3 (fun j => [true, false, false].getD j true) (fun j => (cs_l00Src z2).getD j .nilptr) (fun j => [.nilptr, (.int .i64 v3.2.1), (.int .u64 v3.2.2)].getD j .nilptr))] [.one (.flt .f32 v3.1.bits)]) ∧ Tt ∧ T2 Tt) [.no, .callM [(.box 3 (fun j => [true, false, false].getD j true) (fun j => (cs_l00Src z2).getD j .nilptr) (fun j => [.nilptr, (.int .i64 v3.2.1), (.int .u64 v3.2.2)].getD j .nilptr))] [.one (.flt .f32 v3.1.bits)] [[.view]] none, .no, .box 2] [0, 2, 3, 4] [0, 1, 2] ⟨tr, ⟨⟨⟨rfl, rfl, rfl, tr⟩, tr⟩, ok_spec_l01DrawSmall K z2 v3 e4⟩, tr, tr, tr, tr⟩ ?_
  refine AW.seq ?_
  obtain ⟨v5, e6, h⟩ := bind_some h
  let z3 := l00Src.mk a0.code v3.2.1 v3.2.2
  refine AW.tC (Tt ∧ ((((Eqc z1) ∧ (eI v3.2.1) ∧ (Eqc (.int .u64 v3.2.2)) ∧ Tt) ∧ Tt) ∧ MutOK Try.prog 62 [(.box 3 (fun j => [true, false, false].getD j true) (fun j => (cs_l00Src z3).getD j .nilptr) (fun j => [.nilptr, (.int .i64 v5.2.1), (.int .u64 v5.2.2)].getD j .nilptr))] [.one (.flt .f32 v5.1.bits)]) ∧ T2 Tt) [.no, .callM [(.box 3 (fun j => [true, false, false].getD j true) (fun j => (cs_l00Src z3).getD j .nilptr) (fun j => [.nilptr, (.int .i64 v5.2.1), (.int .u64 v5.2.2)].getD j .nilptr))] [.one (.flt .f32 v5.1.bits)] [[.view]] none] [0, 2, 3, 4] [0, 1, 2] ⟨tr, ⟨⟨⟨rfl, rfl, rfl, tr⟩, tr⟩, ok_spec_l01DrawSmall K z3 v5 e6⟩, tr, tr, tr⟩ ?_
  refine AW.seq ?_
  obtain ⟨v7, e8, h⟩ := bind_some h
  let z4 := l00Src.mk a0.code v5.2.1 v5.2.2
  refine AW.tC (Tt ∧ ((((Eqc z1) ∧ (eI v5.2.1) ∧ (Eqc (.int .u64 v5.2.2)) ∧ Tt) ∧ Tt) ∧ MutOK Try.prog 62 [(.box 3 (fun j => [true, false, false].getD j true) (fun j => (cs_l00Src z4).getD j .nilptr) (fun j => [.nilptr, (.int .i64 v7.2.1), (.int .u64 v7.2.2)].getD j .nilptr))] [.one (.flt .f32 v7.1.bits)]) ∧ T2 Tt) [.no, .callM [(.box 3 (fun j => [true, false, false].getD j true) (fun j => (cs_l00Src z4).getD j .nilptr) (fun j => [.nilptr, (.int .i64 v7.2.1), (.int .u64 v7.2.2)].getD j .nilptr))] [.one (.flt .f32 v7.1.bits)] [[.view]] none] [0, 2, 3, 4] [0, 1, 2] ⟨tr, ⟨⟨⟨rfl, rfl, rfl, tr⟩, tr⟩, ok_spec_l01DrawSmall K z4 v7 e8⟩, tr, tr, tr⟩ ?_
  refine AW.seq ?_
  let z6 := cF (default : F32)
  refine AW.sA ⟨[(0, (vp 0 0)), (2, (vp 1 0)), (4, (vp 2 0)), (16, (vB v1.1))], [(0, (.box [(.fx 0 0 z1), (cI v7.2.1), (.c (.int .u64 v7.2.2))])), (1, (.box [z6, z6, z6])), (2, (.box [(cF v3.1), (cF v5.1), (cF v7.1)]))]⟩ (Tt ∧ Tt) [] [0, 2, 4, 16] [0, 1, 2] ⟨tr, tr⟩ ?_
  rcases ite2_cases h with ⟨b9, h⟩ | ⟨b9, h⟩
  · refine AW.cond_t rfl b9 ?_
    obtain ⟨v10, e11, h⟩ := bind_some h
    let z5 := l00Src.mk a0.code v7.2.1 v7.2.2
    refine AW.tC (Tt ∧ ((((Eqc z1) ∧ (eI v7.2.1) ∧ (Eqc (.int .u64 v7.2.2)) ∧ Tt) ∧ Tt) ∧ MutOK Try.prog 63 [(.box 3 (fun j => [true, false, false].getD j true) (fun j => (cs_l00Src z5).getD j .nilptr) (fun j => [.nilptr, (.int .i64 v10.2.1), (.int .u64 v10.2.2)].getD j .nilptr))] [.one (.flt .f32 v10.1.bits)]) ∧ T2 Tt) [.no, .callM [(.box 3 (fun j => [true, false, false].getD j true) (fun j => (cs_l00Src z5).getD j .nilptr) (fun j => [.nilptr, (.int .i64 v10.2.1), (.int .u64 v10.2.2)].getD j .nilptr))] [.one (.flt .f32 v10.1.bits)] [[.view]] none] [0, 2, 4] [0, 1, 2] ⟨tr, ⟨⟨⟨rfl, rfl, rfl, tr⟩, tr⟩, ok_spec_l01DrawFloat K z5 v10 e11⟩, tr, tr, tr⟩ ?_
    refine AW.sA ⟨[(0, (vp 0 0)), (2, (vp 1 0))], [(0, (.box [(.fx 0 0 z1), (cI v10.2.1), (.c (.int .u64 v10.2.2))])), (1, (.box [(cF v3.1), (cF v10.1), (cF v7.1)]))]⟩ (T2 Tt) [] [0, 2] [0, 1] ⟨tr, tr, tr⟩ ?_
    refine AW.ret ?_
    replace h := some_eq h
    subst h
    exact ⟨.inr rfl, retOK_of [(.agg [(cF v3.1), (cF v10.1), (cF v7.1)])] (by kernel_rfl) ⟨⟨⟨rfl, tr⟩, ⟨rfl, tr⟩, ⟨rfl, tr⟩, tr⟩, tr⟩ (of_decide_eq_true (by kernel_rfl)), by kernel_rfl, ⟨⟨rfl, ⟨⟨rfl, rfl⟩, ⟨rfl, rfl⟩, ⟨rfl, rfl⟩, tr⟩⟩, tr⟩⟩
  · refine AW.cond_f rfl b9 ?_
    refine AW.skip ?_
    refine thenQ_normal ?_
    refine AW.sA ⟨[(0, (vp 0 0)), (2, (vp 1 0))], [(0, (.box [(.fx 0 0 z1), (cI v7.2.1), (.c (.int .u64 v7.2.2))])), (1, (.box [(cF v3.1), (cF v5.1), (cF v7.1)]))]⟩ (T2 Tt) [] [0, 2] [0, 1] ⟨tr, tr, tr⟩ ?_
    refine AW.ret ?_
    replace h := some_eq h
    subst h
    exact ⟨.inr rfl, retOK_of [(.agg [(cF v3.1), (cF v5.1), (cF v7.1)])] (by kernel_rfl) ⟨⟨⟨rfl, tr⟩, ⟨rfl, tr⟩, ⟨rfl, tr⟩, tr⟩, tr⟩ (of_decide_eq_true (by kernel_rfl)), by kernel_rfl, ⟨⟨rfl, ⟨⟨rfl, rfl⟩, ⟨rfl, rfl⟩, ⟨rfl, rfl⟩, tr⟩⟩, tr⟩⟩

/-! spec.l03DrawSized -/
def spec_l03DrawSized_l1 (K : Nat) (a0 : l00Src) (a1 : Int) : Nat → Int → Int → Int → (List Bone) → Option (Skeleton × Int × Int)
  | 0, _, _, _, _ => none
  | k + 1, x5, x6, x7, x8 => ite2 ((decide (x5 < a1))) (ite2 ((decide (x5 > (0 : Int)))) ((spec_l00Src_pick K (l00Src.mk a0.code x6 x7) x5).bind fun v11 => (spec_l00Src_one K (l00Src.mk a0.code v11.2.1 v11.2.2) (2 : Int)).bind fun v13 => ite2 (v13.1) ((spec_l01DrawVector K (l00Src.mk a0.code v13.2.1 v13.2.2)).bind fun v16 => chk ((x8.length + ([(Bone.mk (IntKind.i64.wrap (x5 - (1 : Int))) v16.1)]).length) * 24 ≤ 140737488355328) (spec_l03DrawSized_l1 K a0 a1 k (IntKind.i64.wrap (x5 + (1 : Int))) v16.2.1 v16.2.2 (x8 ++ ([(Bone.mk (IntKind.i64.wrap (x5 - (1 : Int))) v16.1)])))) ((spec_l01DrawVector K (l00Src.mk a0.code v13.2.1 v13.2.2)).bind fun v19 => chk ((x8.length + ([(Bone.mk v11.1 v19.1)]).length) * 24 ≤ 140737488355328) (spec_l03DrawSized_l1 K a0 a1 k (IntKind.i64.wrap (x5 + (1 : Int))) v19.2.1 v19.2.2 (x8 ++ ([(Bone.mk v11.1 v19.1)]))))) ((spec_l01DrawVector K (l00Src.mk a0.code x6 x7)).bind fun v22 => chk ((x8.length + ([(Bone.mk ((-1) : Int) v22.1)]).length) * 24 ≤ 140737488355328) (spec_l03DrawSized_l1 K a0 a1 k (IntKind.i64.wrap (x5 + (1 : Int))) v22.2.1 v22.2.2 (x8 ++ ([(Bone.mk ((-1) : Int) v22.1)]))))) (some ((Skeleton.mk x8), x6, x7))

def spec_l03DrawSized (K : Nat) (a0 : l00Src) (a1 : Int) : Option (Skeleton × Int × Int) :=
  spec_l03DrawSized_l1 K a0 a1 K (0 : Int) a0.at_ a0.seed ([] : (List Bone))

theorem ok_spec_l03DrawSized (K : Nat) (a0 : l00Src) (a1 : Int) (o : (Skeleton × Int × Int)) (h : spec_l03DrawSized K a0 a1 = some o) : MutOK Try.prog 44 [(.box 3 (fun j => [true, false, false].getD j true) (fun j => (cs_l00Src a0).getD j .nilptr) (fun j => [.nilptr, (.int .i64 o.2.1), (.int .u64 o.2.2)].getD j .nilptr)), (.one (.ro (.int .i64 a1)))] [.agg (cs_Skeleton o.1)] := by
  refine mutOK_of_AW 1 Try.func44 rfl (by kernel_rfl) (Nat.le_of_ble_eq_true (by kernel_rfl)) (by kernel_rfl) (by kernel_rfl) ?_
  intro w0 K0 v0 s0
  unfold spec_l03DrawSized at h
  let z3 := sl 1 (csI .u8) a0.code
  refine AW.weak (s' := ⟨[(0, (vp 0 0)), (1, (vI a1))], [(0, (.box [(.fx 0 0 z3), (cI a0.at_), (.c (.int .u64 a0.seed))]))]⟩) (subUnfx 0 [1, 2] (by kernel_rfl)) ?_
  refine AW.sC (Tt ∧ Tt) [.box 1] [0, 1, 4] [0, 1] ⟨tr, tr⟩ ?_
  refine AW.sC (Tt ∧ T2 Tt) [.no, .box 2] [0, 1, 4, 5] [0, 1, 2] ⟨tr, tr, tr, tr⟩ ?_
  refine AW.seq ?_
  refine AW.sA ⟨[(0, (vp 0 0)), (1, (vI a1)), (4, (vp 1 0)), (5, (vp 2 0)), (6, (vI (0 : Int)))], [(0, (.box [(.fx 0 0 z3), (cI a0.at_), (.c (.int .u64 a0.seed))])), (1, (.box [.nils])), (2, (.box [.nils]))]⟩ (Tt ∧ Tt) [] [0, 1, 4, 5, 6] [0, 1, 2] ⟨tr, tr⟩ ?_
  refine AW.block ?_
  refine AW.weak (s' := ⟨[(0, (vp 0 0)), (1, (vI a1)), (4, (vp 1 0)), (5, (vp 2 0)), (6, (vI (0 : Int)))], [(0, (.box [(.fx 0 0 z3), (cI a0.at_), (.c (.int .u64 a0.seed))])), (1, (.box [.nils])), (2, (.box [(xL 10 4 cs_Bone ([] : (List Bone)))])), (10, (oL 4 cs_Bone ([] : (List Bone))))]⟩) (Sub.trans (Sub.unnil 10 4 (gl cs_Bone ([] : (List Bone))) [] [(2, 0)] _ (by kernel_rfl) (by kernel_rfl)) (Sub.keep [0, 1, 4, 5, 6] [0, 1, 2, 10] (by kernel_rfl) (by kernel_rfl))) ?_
  refine AW.loopQ (σ := Nat × Int × Int × Int × (List Bone)) (fun p => ⟨[(0, (vp 0 0)), (1, (vI a1)), (4, (vp 1 0)), (5, (vp 2 0)), (6, (vI p.2.1))], [(0, (.box [(.fx 0 0 z3), (cI p.2.2.1), (.c (.int .u64 p.2.2.2.1))])), (1, (.box [.nils])), (2, (.box [(xL 10 4 cs_Bone p.2.2.2.2)])), (10, (oL 4 cs_Bone p.2.2.2.2))]⟩) (fun p => spec_l03DrawSized_l1 K a0 a1 p.1 p.2.1 p.2.2.1 p.2.2.2.1 p.2.2.2.2 = some o) (fun p => p.1) (K, (0 : Int), a0.at_, a0.seed, ([] : (List Bone))) h ?_
  clear h
  rintro ⟨k, x5, x6, x7, x8⟩ h
  replace h : spec_l03DrawSized_l1 K a0 a1 k x5 x6 x7 x8 = some o := h
  let z5 := xL 10 4 cs_Bone x8
  let z11 := oL 4 cs_Bone x8
  show AW _ _ (⟨[(0, (vp 0 0)), (1, (vI a1)), (4, (vp 1 0)), (5, (vp 2 0)), (6, (vI x5))], [(0, (.box [(.fx 0 0 z3), (cI x6), (.c (.int .u64 x7))])), (1, (.box [.nils])), (2, (.box [z5])), (10, z11)]⟩ : St) _
  obtain _ | k := k
  · rw [spec_l03DrawSized_l1] at h; cases h
  rw [spec_l03DrawSized_l1] at h
  refine AW.seq ?_
  refine AW.sA ⟨[(0, (vp 0 0)), (1, (vI a1)), (4, (vp 1 0)), (5, (vp 2 0)), (6, (vI x5)), (11, (vB (decide (x5 < a1))))], [(0, (.box [(.fx 0 0 z3), (cI x6), (.c (.int .u64 x7))])), (1, (.box [.nils])), (2, (.box [z5])), (10, z11)]⟩ (Tt ∧ T2 Tt) [] [0, 1, 4, 5, 6, 11] [0, 1, 2, 10] ⟨tr, tr, tr, tr⟩ ?_
  rcases ite2_cases h with ⟨b9, h⟩ | ⟨b9, h⟩
  · refine AW.cond_t rfl b9 ?_
    refine AW.skip ?_
    refine thenQ_normal ?_
    refine AW.seq ?_
    refine AW.block ?_
    refine AW.sC (Tt ∧ T2 Tt) [.no, .box 25] [0, 1, 4, 5, 6, 7] [0, 1, 2, 10, 25] ⟨tr, tr, tr, tr⟩ ?_
    refine AW.seq ?_
    let z6 := cF (default : F32)
    refine AW.sA ⟨[(0, (vp 0 0)), (1, (vI a1)), (4, (vp 1 0)), (5, (vp 2 0)), (6, (vI x5)), (7, (vp 25 0)), (16, (vB (decide (x5 > (0 : Int)))))], [(0, (.box [(.fx 0 0 z3), (cI x6), (.c (.int .u64 x7))])), (1, (.box [.nils])), (2, (.box [z5])), (10, z11), (25, (.box [(cI ((-1) : Int)), z6, z6, z6]))]⟩ (T2 Tt) [] [0, 1, 4, 5, 6, 7, 16] [0, 1, 2, 10, 25] ⟨tr, tr, tr⟩ ?_
    rcases ite2_cases h with ⟨b10, h⟩ | ⟨b10, h⟩
    · refine AW.cond_t rfl b10 ?_
      refine AW.seq ?_
      obtain ⟨v11, e12, h⟩ := bind_some h
      let z12 := l00Src.mk a0.code x6 x7
      refine AW.tC (T2 (((((Eqc z3) ∧ (eI x6) ∧ (Eqc (.int .u64 x7)) ∧ Tt) ∧ (eI x5) ∧ Tt) ∧ MutOK Try.prog 45 [(.box 3 (fun j => [true, false, false].getD j true) (fun j => (cs_l00Src z12).getD j .nilptr) (fun j => [.nilptr, (.int .i64 v11.2.1), (.int .u64 v11.2.2)].getD j .nilptr)), .one (.ro (.int .i64 x5))] [.one (.int .i64 v11.1)]) ∧ T2 Tt)) [.no, .no, .callM [(.box 3 (fun j => [true, false, false].getD j true) (fun j => (cs_l00Src z12).getD j .nilptr) (fun j => [.nilptr, (.int .i64 v11.2.1), (.int .u64 v11.2.2)].getD j .nilptr)), .one (.ro (.int .i64 x5))] [.one (.int .i64 v11.1)] [[.view]] none] [0, 1, 4, 5, 6, 7] [0, 1, 2, 10, 25] ⟨tr, tr, ⟨⟨⟨rfl, rfl, rfl, tr⟩, rfl, tr⟩, ok_spec_l00Src_pick K z12 x5 v11 e12⟩, tr, tr, tr⟩ ?_
      refine AW.seq ?_
      obtain ⟨v13, e14, h⟩ := bind_some h
      let z7 := l00Src.mk a0.code v11.2.1 v11.2.2
      refine AW.tA ⟨[(0, (vp 0 0)), (1, (vI a1)), (4, (vp 1 0)), (5, (vp 2 0)), (6, (vI x5)), (7, (vp 25 0)), (22, (vB v13.1))], [(0, (.box [(.fx 0 0 z3), (cI v13.2.1), (.c (.int .u64 v13.2.2))])), (1, (.box [.nils])), (2, (.box [z5])), (10, z11), (25, (.box [(cI v11.1), z6, z6, z6]))]⟩ (Tt ∧ ((((Eqc z3) ∧ (eI v11.2.1) ∧ (Eqc (.int .u64 v11.2.2)) ∧ Tt) ∧ (eI (2 : Int)) ∧ Tt) ∧ MutOK Try.prog 60 [(.box 3 (fun j => [true, false, false].getD j true) (fun j => (cs_l00Src z7).getD j .nilptr) (fun j => [.nilptr, (.int .i64 v13.2.1), (.int .u64 v13.2.2)].getD j .nilptr)), .one (.ro (.int .i64 (2 : Int)))] [.one (.bool v13.1)]) ∧ Tt) [.no, .callM [(.box 3 (fun j => [true, false, false].getD j true) (fun j => (cs_l00Src z7).getD j .nilptr) (fun j => [.nilptr, (.int .i64 v13.2.1), (.int .u64 v13.2.2)].getD j .nilptr)), .one (.ro (.int .i64 (2 : Int)))] [.one (.bool v13.1)] [[.view]] none] [0, 1, 4, 5, 6, 7, 22] [0, 1, 2, 10, 25] ⟨tr, ⟨⟨⟨rfl, rfl, rfl, tr⟩, rfl, tr⟩, ok_spec_l00Src_one K z7 (2 : Int) v13 e14⟩, tr⟩ ?_
      rcases ite2_cases h with ⟨b15, h⟩ | ⟨b15, h⟩
      · refine AW.cond_t rfl b15 ?_
        refine AW.tC (T4 Tt) [] [0, 1, 4, 5, 6, 7] [0, 1, 2, 10, 25] ⟨tr, tr, tr, tr, tr⟩ ?_
        refine AW.seq ?_
        obtain ⟨v16, e17, h⟩ := bind_some h
        let z8 := l00Src.mk a0.code v13.2.1 v13.2.2
        refine AW.tC (Tt ∧ ((((Eqc z3) ∧ (eI v13.2.1) ∧ (Eqc (.int .u64 v13.2.2)) ∧ Tt) ∧ Tt) ∧ MutOK Try.prog 46 [(.box 3 (fun j => [true, false, false].getD j true) (fun j => (cs_l00Src z8).getD j .nilptr) (fun j => [.nilptr, (.int .i64 v16.2.1), (.int .u64 v16.2.2)].getD j .nilptr))] [.agg (cs_Vector v16.1)]) ∧ T2 Tt) [.no, .callM [(.box 3 (fun j => [true, false, false].getD j true) (fun j => (cs_l00Src z8).getD j .nilptr) (fun j => [.nilptr, (.int .i64 v16.2.1), (.int .u64 v16.2.2)].getD j .nilptr))] [.agg (cs_Vector v16.1)] [[.view, .view, .view]] none] [0, 1, 4, 5, 6, 7] [0, 1, 2, 10, 25] ⟨tr, ⟨⟨⟨rfl, rfl, rfl, tr⟩, tr⟩, ok_spec_l01DrawVector K z8 v16 e17⟩, tr, tr, tr⟩ ?_
        obtain ⟨c18, h⟩ := chk_some h
        let z9 := IntKind.i64.wrap (x5 - (1 : Int))
        let z1 := [(Bone.mk z9 v16.1)]
        refine AW.rA ⟨[(0, (vp 0 0)), (1, (vI a1)), (4, (vp 1 0)), (5, (vp 2 0)), (6, (vI x5))], [(0, (.box [(.fx 0 0 z3), (cI v16.2.1), (.c (.int .u64 v16.2.2))])), (1, (.box [.nils])), (2, (.box [(xL 27 4 cs_Bone (x8 ++ z1))])), (27, (oL 4 cs_Bone (x8 ++ z1)))]⟩ (Tt ∧ T2 ((z1.length = 1 ∧ (((.int .i64 z9) : C) = (.int .i64 z9) ∧ Tt) ∧ (((.flt .f32 v16.1.X.bits) : C) = (.flt .f32 v16.1.X.bits) ∧ Tt) ∧ (((.flt .f32 v16.1.Y.bits) : C) = (.flt .f32 v16.1.Y.bits) ∧ Tt) ∧ (((.flt .f32 v16.1.Z.bits) : C) = (.flt .f32 v16.1.Z.bits) ∧ Tt) ∧ Tt) ∧ ((x8 ++ z1).length = x8.length + z1.length ∧ AppOb (x8.length) (z1.length) 4 (gl cs_Bone x8) (gl cs_Bone z1) (gl cs_Bone (x8 ++ z1)) ∧ (∀ i j, i < z1.length → j < 4 → scalarC (gl cs_Bone z1 i j)) ∧ (x8.length + z1.length) * 24 ≤ 140737488355328) ∧ T2 Tt)) [.no, .no, .no, .obj 26 z1.length (gl cs_Bone z1), .objK 27 (x8 ++ z1).length (gl cs_Bone (x8 ++ z1))] [0, 1, 4, 5, 6] [0, 1, 2, 27] ⟨tr, tr, tr, ⟨rfl, ⟨⟨rfl, tr⟩, ⟨rfl, tr⟩, ⟨rfl, tr⟩, ⟨rfl, tr⟩, tr⟩⟩, ⟨List.length_append, gl_append, gl_scalar sc_Bone _, c18⟩, tr, tr, tr⟩ ?_
        refine blockQ_normal ?_
        refine thenQ_normal ?_
        let z15 := IntKind.i64.wrap (x5 + (1 : Int))
        refine AW.rA ⟨[(0, (vp 0 0)), (1, (vI a1)), (4, (vp 1 0)), (5, (vp 2 0)), (6, (vI z15))], [(0, (.box [(.fx 0 0 z3), (cI v16.2.1), (.c (.int .u64 v16.2.2))])), (1, (.box [.nils])), (2, (.box [(xL 27 4 cs_Bone (x8 ++ z1))])), (27, (oL 4 cs_Bone (x8 ++ z1)))]⟩ (Tt ∧ T2 Tt) [] [0, 1, 4, 5, 6] [0, 1, 2, 27] ⟨tr, tr, tr, tr⟩ ?_
        exact loopQ_normal (k, z15, v16.2.1, v16.2.2, (x8 ++ z1)) h (Nat.lt_succ_self k) (Sub.trans (Sub.swap 10 27 _ (by kernel_rfl) (by kernel_rfl)) (Sub.keep [0, 1, 4, 5, 6] [0, 1, 2, 10] (by kernel_rfl) (by kernel_rfl)))
      · refine AW.cond_f rfl b15 ?_
        refine AW.skip ?_
        refine thenQ_normal ?_
        refine AW.seq ?_
        obtain ⟨v19, e20, h⟩ := bind_some h
        let z10 := l00Src.mk a0.code v13.2.1 v13.2.2
        refine AW.tC (Tt ∧ ((((Eqc z3) ∧ (eI v13.2.1) ∧ (Eqc (.int .u64 v13.2.2)) ∧ Tt) ∧ Tt) ∧ MutOK Try.prog 46 [(.box 3 (fun j => [true, false, false].getD j true) (fun j => (cs_l00Src z10).getD j .nilptr) (fun j => [.nilptr, (.int .i64 v19.2.1), (.int .u64 v19.2.2)].getD j .nilptr))] [.agg (cs_Vector v19.1)]) ∧ T2 Tt) [.no, .callM [(.box 3 (fun j => [true, false, false].getD j true) (fun j => (cs_l00Src z10).getD j .nilptr) (fun j => [.nilptr, (.int .i64 v19.2.1), (.int .u64 v19.2.2)].getD j .nilptr))] [.agg (cs_Vector v19.1)] [[.view, .view, .view]] none] [0, 1, 4, 5, 6, 7] [0, 1, 2, 10, 25] ⟨tr, ⟨⟨⟨rfl, rfl, rfl, tr⟩, tr⟩, ok_spec_l01DrawVector K z10 v19 e20⟩, tr, tr, tr⟩ ?_
        obtain ⟨c21, h⟩ := chk_some h
        let z4 := [(Bone.mk v11.1 v19.1)]
        refine AW.rA ⟨[(0, (vp 0 0)), (1, (vI a1)), (4, (vp 1 0)), (5, (vp 2 0)), (6, (vI x5))], [(0, (.box [(.fx 0 0 z3), (cI v19.2.1), (.c (.int .u64 v19.2.2))])), (1, (.box [.nils])), (2, (.box [(xL 29 4 cs_Bone (x8 ++ z4))])), (29, (oL 4 cs_Bone (x8 ++ z4)))]⟩ (Tt ∧ T2 ((z4.length = 1 ∧ (((.int .i64 v11.1) : C) = (.int .i64 v11.1) ∧ Tt) ∧ (((.flt .f32 v19.1.X.bits) : C) = (.flt .f32 v19.1.X.bits) ∧ Tt) ∧ (((.flt .f32 v19.1.Y.bits) : C) = (.flt .f32 v19.1.Y.bits) ∧ Tt) ∧ (((.flt .f32 v19.1.Z.bits) : C) = (.flt .f32 v19.1.Z.bits) ∧ Tt) ∧ Tt) ∧ ((x8 ++ z4).length = x8.length + z4.length ∧ AppOb (x8.length) (z4.length) 4 (gl cs_Bone x8) (gl cs_Bone z4) (gl cs_Bone (x8 ++ z4)) ∧ (∀ i j, i < z4.length → j < 4 → scalarC (gl cs_Bone z4 i j)) ∧ (x8.length + z4.length) * 24 ≤ 140737488355328) ∧ T2 Tt)) [.no, .no, .no, .obj 28 z4.length (gl cs_Bone z4), .objK 29 (x8 ++ z4).length (gl cs_Bone (x8 ++ z4))] [0, 1, 4, 5, 6] [0, 1, 2, 29] ⟨tr, tr, tr, ⟨rfl, ⟨⟨rfl, tr⟩, ⟨rfl, tr⟩, ⟨rfl, tr⟩, ⟨rfl, tr⟩, tr⟩⟩, ⟨List.length_append, gl_append, gl_scalar sc_Bone _, c21⟩, tr, tr, tr⟩ ?_
        refine blockQ_normal ?_
        refine thenQ_normal ?_
        let z16 := IntKind.i64.wrap (x5 + (1 : Int))
        refine AW.rA ⟨[(0, (vp 0 0)), (1, (vI a1)), (4, (vp 1 0)), (5, (vp 2 0)), (6, (vI z16))], [(0, (.box [(.fx 0 0 z3), (cI v19.2.1), (.c (.int .u64 v19.2.2))])), (1, (.box [.nils])), (2, (.box [(xL 29 4 cs_Bone (x8 ++ z4))])), (29, (oL 4 cs_Bone (x8 ++ z4)))]⟩ (Tt ∧ T2 Tt) [] [0, 1, 4, 5, 6] [0, 1, 2, 29] ⟨tr, tr, tr, tr⟩ ?_
        exact loopQ_normal (k, z16, v19.2.1, v19.2.2, (x8 ++ z4)) h (Nat.lt_succ_self k) (Sub.trans (Sub.swap 10 29 _ (by kernel_rfl) (by kernel_rfl)) (Sub.keep [0, 1, 4, 5, 6] [0, 1, 2, 10] (by kernel_rfl) (by kernel_rfl)))
    · refine AW.cond_f rfl b10 ?_
      refine AW.skip ?_
      refine thenQ_normal ?_
      refine AW.seq ?_
      obtain ⟨v22, e23, h⟩ := bind_some h
      let z13 := l00Src.mk a0.code x6 x7
      refine AW.tC (Tt ∧ ((((Eqc z3) ∧ (eI x6) ∧ (Eqc (.int .u64 x7)) ∧ Tt) ∧ Tt) ∧ MutOK Try.prog 46 [(.box 3 (fun j => [true, false, false].getD j true) (fun j => (cs_l00Src z13).getD j .nilptr) (fun j => [.nilptr, (.int .i64 v22.2.1), (.int .u64 v22.2.2)].getD j .nilptr))] [.agg (cs_Vector v22.1)]) ∧ T2 Tt) [.no, .callM [(.box 3 (fun j => [true, false, false].getD j true) (fun j => (cs_l00Src z13).getD j .nilptr) (fun j => [.nilptr, (.int .i64 v22.2.1), (.int .u64 v22.2.2)].getD j .nilptr))] [.agg (cs_Vector v22.1)] [[.view, .view, .view]] none] [0, 1, 4, 5, 6, 7] [0, 1, 2, 10, 25] ⟨tr, ⟨⟨⟨rfl, rfl, rfl, tr⟩, tr⟩, ok_spec_l01DrawVector K z13 v22 e23⟩, tr, tr, tr⟩ ?_
      obtain ⟨c24, h⟩ := chk_some h
      let z2 := [(Bone.mk ((-1) : Int) v22.1)]
      refine AW.rA ⟨[(0, (vp 0 0)), (1, (vI a1)), (4, (vp 1 0)), (5, (vp 2 0)), (6, (vI x5))], [(0, (.box [(.fx 0 0 z3), (cI v22.2.1), (.c (.int .u64 v22.2.2))])), (1, (.box [.nils])), (2, (.box [(xL 31 4 cs_Bone (x8 ++ z2))])), (31, (oL 4 cs_Bone (x8 ++ z2)))]⟩ (Tt ∧ T2 ((z2.length = 1 ∧ (((.int .i64 ((-1) : Int)) : C) = (.int .i64 ((-1) : Int)) ∧ Tt) ∧ (((.flt .f32 v22.1.X.bits) : C) = (.flt .f32 v22.1.X.bits) ∧ Tt) ∧ (((.flt .f32 v22.1.Y.bits) : C) = (.flt .f32 v22.1.Y.bits) ∧ Tt) ∧ (((.flt .f32 v22.1.Z.bits) : C) = (.flt .f32 v22.1.Z.bits) ∧ Tt) ∧ Tt) ∧ ((x8 ++ z2).length = x8.length + z2.length ∧ AppOb (x8.length) (z2.length) 4 (gl cs_Bone x8) (gl cs_Bone z2) (gl cs_Bone (x8 ++ z2)) ∧ (∀ i j, i < z2.length → j < 4 → scalarC (gl cs_Bone z2 i j)) ∧ (x8.length + z2.length) * 24 ≤ 140737488355328) ∧ T2 Tt)) [.no, .no, .no, .obj 30 z2.length (gl cs_Bone z2), .objK 31 (x8 ++ z2).length (gl cs_Bone (x8 ++ z2))] [0, 1, 4, 5, 6] [0, 1, 2, 31] ⟨tr, tr, tr, ⟨rfl, ⟨⟨rfl, tr⟩, ⟨rfl, tr⟩, ⟨rfl, tr⟩, ⟨rfl, tr⟩, tr⟩⟩, ⟨List.length_append, gl_append, gl_scalar sc_Bone _, c24⟩, tr, tr, tr⟩ ?_
      refine blockQ_normal ?_
      refine thenQ_normal ?_
      let z14 := IntKind.i64.wrap (x5 + (1 : Int))
      refine AW.rA ⟨[(0, (vp 0 0)), (1, (vI a1)), (4, (vp 1 0)), (5, (vp 2 0)), (6, (vI z14))], [(0, (.box [(.fx 0 0 z3), (cI v22.2.1), (.c (.int .u64 v22.2.2))])), (1, (.box [.nils])), (2, (.box [(xL 31 4 cs_Bone (x8 ++ z2))])), (31, (oL 4 cs_Bone (x8 ++ z2)))]⟩ (Tt ∧ T2 Tt) [] [0, 1, 4, 5, 6] [0, 1, 2, 31] ⟨tr, tr, tr, tr⟩ ?_
      exact loopQ_normal (k, z14, v22.2.1, v22.2.2, (x8 ++ z2)) h (Nat.lt_succ_self k) (Sub.trans (Sub.swap 10 31 _ (by kernel_rfl) (by kernel_rfl)) (Sub.keep [0, 1, 4, 5, 6] [0, 1, 2, 10] (by kernel_rfl) (by kernel_rfl)))
  · refine AW.cond_f rfl b9 ?_
    refine AW.exit ?_
    refine thenQ_exit ?_
    refine loopQ_exit ?_
    refine blockQ_exit ?_
    refine thenQ_normal ?_
    refine AW.sA ⟨[(0, (vp 0 0)), (1, (vI a1)), (4, (vp 1 0))], [(0, (.box [(.fx 0 0 z3), (cI x6), (.c (.int .u64 x7))])), (1, (.box [z5])), (10, z11)]⟩ (T2 Tt) [] [0, 1, 4] [0, 1, 10] ⟨tr, tr, tr⟩ ?_
    refine AW.ret ?_
    replace h := some_eq h
    subst h
    exact ⟨.inr rfl, retOK_of [(.agg [z5])] (by kernel_rfl) ⟨⟨rfl, tr⟩, tr⟩ (of_decide_eq_true (by kernel_rfl)), by kernel_rfl, ⟨⟨rfl, ⟨⟨rfl, rfl⟩, ⟨rfl, rfl⟩, ⟨rfl, rfl⟩, tr⟩⟩, tr, tr⟩⟩

/-! spec.b10Pairs -/
def Zt1 (Q3 Q4 : Prop) : Prop := (Tt ∧ (Q3 ∧ (Q4 ∧ (Tt ∧ (Tt ∧ Tt)))))
theorem zt1 {Q3 Q4 : Prop} (q3 : Q3) (q4 : Q4) : Zt1 Q3 Q4 := ⟨tr, ⟨q3, ⟨q4, ⟨tr, ⟨tr, tr⟩⟩⟩⟩⟩
def Zt2 (QE Q2 Q3 Q4 : Prop) : Prop := ((Tt ∧ (Q2 ∧ (Zt1 Q3 Q4))) ∧ (Q2 ∧ (Tt ∧ (Zt1 Q3 Q4))) ∧ QE)
theorem zt2 {QE Q2 Q3 Q4 : Prop} (qe : QE) (q2 : Q2) (q3 : Q3) (q4 : Q4) : Zt2 QE Q2 Q3 Q4 := ⟨⟨tr, ⟨q2, (zt1 q3 q4)⟩⟩, ⟨q2, ⟨tr, (zt1 q3 q4)⟩⟩, qe⟩
def Zt3 (QE Q1 Q2 Q3 Q4 : Prop) : Prop := ((Q1 ∧ (Zt2 QE Q2 Q3 Q4)) ∧ (Q2 ∧ (Q1 ∧ (Tt ∧ (Zt1 Q3 Q4)))) ∧ QE)
theorem zt3 {QE Q1 Q2 Q3 Q4 : Prop} (qe : QE) (q1 : Q1) (q2 : Q2) (q3 : Q3) (q4 : Q4) : Zt3 QE Q1 Q2 Q3 Q4 := ⟨⟨q1, (zt2 qe q2 q3 q4)⟩, ⟨q2, ⟨q1, ⟨tr, (zt1 q3 q4)⟩⟩⟩, qe⟩
def Zt4 (QE Q3 Q4 : Prop) : Prop := ((Tt ∧ (Zt1 Q3 Q4)) ∧ (Tt ∧ (Zt1 Q3 Q4)) ∧ QE)
theorem zt4 {QE Q3 Q4 : Prop} (qe : QE) (q3 : Q3) (q4 : Q4) : Zt4 QE Q3 Q4 := ⟨⟨tr, (zt1 q3 q4)⟩, ⟨tr, (zt1 q3 q4)⟩, qe⟩
def Zt5 (QE Q2 Q3 Q4 : Prop) : Prop := ((Tt ∧ (Q2 ∧ (Zt1 Q3 Q4))) ∧ (Q2 ∧ (Zt4 QE Q3 Q4)) ∧ QE)
theorem zt5 {QE Q2 Q3 Q4 : Prop} (qe : QE) (q2 : Q2) (q3 : Q3) (q4 : Q4) : Zt5 QE Q2 Q3 Q4 := ⟨⟨tr, ⟨q2, (zt1 q3 q4)⟩⟩, ⟨q2, (zt4 qe q3 q4)⟩, qe⟩
def Zt6 (QE Q3 Q4 : Prop) : Prop := ((Tt ∧ (Tt ∧ (Zt1 Q3 Q4))) ∧ (Tt ∧ (Zt4 QE Q3 Q4)) ∧ QE)
theorem zt6 {QE Q3 Q4 : Prop} (qe : QE) (q3 : Q3) (q4 : Q4) : Zt6 QE Q3 Q4 := ⟨⟨tr, ⟨tr, (zt1 q3 q4)⟩⟩, ⟨tr, (zt4 qe q3 q4)⟩, qe⟩
def Zt7 (QE Q2 Q3 Q4 : Prop) : Prop := ((Tt ∧ (Zt2 QE Q2 Q3 Q4)) ∧ ((Tt ∧ (Zt5 QE Q2 Q3 Q4)) ∧ (Q2 ∧ (Zt6 QE Q3 Q4)) ∧ QE) ∧ QE)
theorem zt7 {QE Q2 Q3 Q4 : Prop} (qe : QE) (q2 : Q2) (q3 : Q3) (q4 : Q4) : Zt7 QE Q2 Q3 Q4 := ⟨⟨tr, (zt2 qe q2 q3 q4)⟩, ⟨⟨tr, (zt5 qe q2 q3 q4)⟩, ⟨q2, (zt6 qe q3 q4)⟩, qe⟩, qe⟩
def Zt8 (QE Q1 Q3 Q4 : Prop) : Prop := ((Tt ∧ (Q1 ∧ (Tt ∧ (Zt1 Q3 Q4)))) ∧ (Q1 ∧ (Zt6 QE Q3 Q4)) ∧ QE)
theorem zt8 {QE Q1 Q3 Q4 : Prop} (qe : QE) (q1 : Q1) (q3 : Q3) (q4 : Q4) : Zt8 QE Q1 Q3 Q4 := ⟨⟨tr, ⟨q1, ⟨tr, (zt1 q3 q4)⟩⟩⟩, ⟨q1, (zt6 qe q3 q4)⟩, qe⟩
def Zt9 (QE Q1 Q2 Q3 Q4 : Prop) : Prop := ((Tt ∧ (Zt3 QE Q1 Q2 Q3 Q4)) ∧ ((Q1 ∧ (Zt7 QE Q2 Q3 Q4)) ∧ (Q2 ∧ (Zt8 QE Q1 Q3 Q4)) ∧ QE) ∧ QE)
theorem zt9 {QE Q1 Q2 Q3 Q4 : Prop} (qe : QE) (q1 : Q1) (q2 : Q2) (q3 : Q3) (q4 : Q4) : Zt9 QE Q1 Q2 Q3 Q4 := ⟨⟨tr, (zt3 qe q1 q2 q3 q4)⟩, ⟨⟨q1, (zt7 qe q2 q3 q4)⟩, ⟨q2, (zt8 qe q1 q3 q4)⟩, qe⟩, qe⟩
def Zt10 (QE Q0 Q2 Q3 Q4 : Prop) : Prop := ((Q0 ∧ (Zt7 QE Q2 Q3 Q4)) ∧ (Tt ∧ (Q0 ∧ (Zt5 QE Q2 Q3 Q4))) ∧ QE)
theorem zt10 {QE Q0 Q2 Q3 Q4 : Prop} (qe : QE) (q0 : Q0) (q2 : Q2) (q3 : Q3) (q4 : Q4) : Zt10 QE Q0 Q2 Q3 Q4 := ⟨⟨q0, (zt7 qe q2 q3 q4)⟩, ⟨tr, ⟨q0, (zt5 qe q2 q3 q4)⟩⟩, qe⟩
def Zt11 (QE Q0 Q1 Q2 Q3 Q4 : Prop) : Prop := ((Q0 ∧ (Zt9 QE Q1 Q2 Q3 Q4)) ∧ (Q1 ∧ (Zt10 QE Q0 Q2 Q3 Q4)) ∧ QE)
theorem zt11 {QE Q0 Q1 Q2 Q3 Q4 : Prop} (qe : QE) (q0 : Q0) (q1 : Q1) (q2 : Q2) (q3 : Q3) (q4 : Q4) : Zt11 QE Q0 Q1 Q2 Q3 Q4 := ⟨⟨q0, (zt9 qe q1 q2 q3 q4)⟩, ⟨q1, (zt10 qe q0 q2 q3 q4)⟩, qe⟩
def Zt12 (QE Q3 Q4 : Prop) : Prop := ((Tt ∧ (Q3 ∧ (Q4 ∧ (Tt ∧ (Tt ∧ Tt))))) ∧ (Q3 ∧ (Tt ∧ (Q4 ∧ (Tt ∧ (Tt ∧ Tt))))) ∧ QE)
theorem zt12 {QE Q3 Q4 : Prop} (qe : QE) (q3 : Q3) (q4 : Q4) : Zt12 QE Q3 Q4 := ⟨⟨tr, ⟨q3, ⟨q4, ⟨tr, ⟨tr, tr⟩⟩⟩⟩⟩, ⟨q3, ⟨tr, ⟨q4, ⟨tr, ⟨tr, tr⟩⟩⟩⟩⟩, qe⟩
def Zt13 (QE Q3 Q4 : Prop) : Prop := ((Tt ∧ (Zt1 Q3 Q4)) ∧ (Tt ∧ (Zt12 QE Q3 Q4)) ∧ QE)
theorem zt13 {QE Q3 Q4 : Prop} (qe : QE) (q3 : Q3) (q4 : Q4) : Zt13 QE Q3 Q4 := ⟨⟨tr, (zt1 q3 q4)⟩, ⟨tr, (zt12 qe q3 q4)⟩, qe⟩
def Zt14 (QE Q2 Q3 Q4 : Prop) : Prop := ((Tt ∧ (Q2 ∧ (Zt1 Q3 Q4))) ∧ (Q2 ∧ (Zt13 QE Q3 Q4)) ∧ QE)
theorem zt14 {QE Q2 Q3 Q4 : Prop} (qe : QE) (q2 : Q2) (q3 : Q3) (q4 : Q4) : Zt14 QE Q2 Q3 Q4 := ⟨⟨tr, ⟨q2, (zt1 q3 q4)⟩⟩, ⟨q2, (zt13 qe q3 q4)⟩, qe⟩
def Zt15 (QE Q3 Q4 : Prop) : Prop := ((Tt ∧ (Tt ∧ (Zt1 Q3 Q4))) ∧ (Tt ∧ (Zt13 QE Q3 Q4)) ∧ QE)
theorem zt15 {QE Q3 Q4 : Prop} (qe : QE) (q3 : Q3) (q4 : Q4) : Zt15 QE Q3 Q4 := ⟨⟨tr, ⟨tr, (zt1 q3 q4)⟩⟩, ⟨tr, (zt13 qe q3 q4)⟩, qe⟩
def Zt16 (QE Q2 Q3 Q4 : Prop) : Prop := ((Tt ∧ (Zt2 QE Q2 Q3 Q4)) ∧ ((Tt ∧ (Zt14 QE Q2 Q3 Q4)) ∧ (Q2 ∧ (Zt15 QE Q3 Q4)) ∧ QE) ∧ QE)
theorem zt16 {QE Q2 Q3 Q4 : Prop} (qe : QE) (q2 : Q2) (q3 : Q3) (q4 : Q4) : Zt16 QE Q2 Q3 Q4 := ⟨⟨tr, (zt2 qe q2 q3 q4)⟩, ⟨⟨tr, (zt14 qe q2 q3 q4)⟩, ⟨q2, (zt15 qe q3 q4)⟩, qe⟩, qe⟩
def Zt17 (QE Q1 Q3 Q4 : Prop) : Prop := ((Tt ∧ (Q1 ∧ (Tt ∧ (Zt1 Q3 Q4)))) ∧ (Q1 ∧ (Zt15 QE Q3 Q4)) ∧ QE)
theorem zt17 {QE Q1 Q3 Q4 : Prop} (qe : QE) (q1 : Q1) (q3 : Q3) (q4 : Q4) : Zt17 QE Q1 Q3 Q4 := ⟨⟨tr, ⟨q1, ⟨tr, (zt1 q3 q4)⟩⟩⟩, ⟨q1, (zt15 qe q3 q4)⟩, qe⟩
def Zt18 (QE Q1 Q2 Q3 Q4 : Prop) : Prop := ((Tt ∧ (Zt3 QE Q1 Q2 Q3 Q4)) ∧ ((Q1 ∧ (Zt16 QE Q2 Q3 Q4)) ∧ (Q2 ∧ (Zt17 QE Q1 Q3 Q4)) ∧ QE) ∧ QE)
theorem zt18 {QE Q1 Q2 Q3 Q4 : Prop} (qe : QE) (q1 : Q1) (q2 : Q2) (q3 : Q3) (q4 : Q4) : Zt18 QE Q1 Q2 Q3 Q4 := ⟨⟨tr, (zt3 qe q1 q2 q3 q4)⟩, ⟨⟨q1, (zt16 qe q2 q3 q4)⟩, ⟨q2, (zt17 qe q1 q3 q4)⟩, qe⟩, qe⟩
def Zt19 (QE Q3 Q4 : Prop) : Prop := ((Tt ∧ (Zt4 QE Q3 Q4)) ∧ ((Tt ∧ (Zt13 QE Q3 Q4)) ∧ (Tt ∧ (Zt13 QE Q3 Q4)) ∧ QE) ∧ QE)
theorem zt19 {QE Q3 Q4 : Prop} (qe : QE) (q3 : Q3) (q4 : Q4) : Zt19 QE Q3 Q4 := ⟨⟨tr, (zt4 qe q3 q4)⟩, ⟨⟨tr, (zt13 qe q3 q4)⟩, ⟨tr, (zt13 qe q3 q4)⟩, qe⟩, qe⟩
def Zt20 (QE Q2 Q3 Q4 : Prop) : Prop := ((Tt ∧ (Zt5 QE Q2 Q3 Q4)) ∧ ((Tt ∧ (Zt14 QE Q2 Q3 Q4)) ∧ (Q2 ∧ (Zt19 QE Q3 Q4)) ∧ QE) ∧ QE)
theorem zt20 {QE Q2 Q3 Q4 : Prop} (qe : QE) (q2 : Q2) (q3 : Q3) (q4 : Q4) : Zt20 QE Q2 Q3 Q4 := ⟨⟨tr, (zt5 qe q2 q3 q4)⟩, ⟨⟨tr, (zt14 qe q2 q3 q4)⟩, ⟨q2, (zt19 qe q3 q4)⟩, qe⟩, qe⟩
def Zt21 (QE Q3 Q4 : Prop) : Prop := ((Tt ∧ (Zt6 QE Q3 Q4)) ∧ ((Tt ∧ (Zt15 QE Q3 Q4)) ∧ (Tt ∧ (Zt19 QE Q3 Q4)) ∧ QE) ∧ QE)
theorem zt21 {QE Q3 Q4 : Prop} (qe : QE) (q3 : Q3) (q4 : Q4) : Zt21 QE Q3 Q4 := ⟨⟨tr, (zt6 qe q3 q4)⟩, ⟨⟨tr, (zt15 qe q3 q4)⟩, ⟨tr, (zt19 qe q3 q4)⟩, qe⟩, qe⟩
def Zt22 (QE Q2 Q3 Q4 : Prop) : Prop := ((Tt ∧ (Zt7 QE Q2 Q3 Q4)) ∧ ((Tt ∧ (Zt16 QE Q2 Q3 Q4)) ∧ ((Tt ∧ (Zt20 QE Q2 Q3 Q4)) ∧ (Q2 ∧ (Zt21 QE Q3 Q4)) ∧ QE) ∧ QE) ∧ QE)
theorem zt22 {QE Q2 Q3 Q4 : Prop} (qe : QE) (q2 : Q2) (q3 : Q3) (q4 : Q4) : Zt22 QE Q2 Q3 Q4 := ⟨⟨tr, (zt7 qe q2 q3 q4)⟩, ⟨⟨tr, (zt16 qe q2 q3 q4)⟩, ⟨⟨tr, (zt20 qe q2 q3 q4)⟩, ⟨q2, (zt21 qe q3 q4)⟩, qe⟩, qe⟩, qe⟩
def Zt23 (QE Q1 Q3 Q4 : Prop) : Prop := ((Tt ∧ (Zt8 QE Q1 Q3 Q4)) ∧ ((Tt ∧ (Zt17 QE Q1 Q3 Q4)) ∧ (Q1 ∧ (Zt21 QE Q3 Q4)) ∧ QE) ∧ QE)
theorem zt23 {QE Q1 Q3 Q4 : Prop} (qe : QE) (q1 : Q1) (q3 : Q3) (q4 : Q4) : Zt23 QE Q1 Q3 Q4 := ⟨⟨tr, (zt8 qe q1 q3 q4)⟩, ⟨⟨tr, (zt17 qe q1 q3 q4)⟩, ⟨q1, (zt21 qe q3 q4)⟩, qe⟩, qe⟩
def Zt24 (QE Q1 Q2 Q3 Q4 : Prop) : Prop := ((Tt ∧ (Zt9 QE Q1 Q2 Q3 Q4)) ∧ ((Tt ∧ (Zt18 QE Q1 Q2 Q3 Q4)) ∧ ((Q1 ∧ (Zt22 QE Q2 Q3 Q4)) ∧ (Q2 ∧ (Zt23 QE Q1 Q3 Q4)) ∧ QE) ∧ QE) ∧ QE)
theorem zt24 {QE Q1 Q2 Q3 Q4 : Prop} (qe : QE) (q1 : Q1) (q2 : Q2) (q3 : Q3) (q4 : Q4) : Zt24 QE Q1 Q2 Q3 Q4 := ⟨⟨tr, (zt9 qe q1 q2 q3 q4)⟩, ⟨⟨tr, (zt18 qe q1 q2 q3 q4)⟩, ⟨⟨q1, (zt22 qe q2 q3 q4)⟩, ⟨q2, (zt23 qe q1 q3 q4)⟩, qe⟩, qe⟩, qe⟩
def Zt25 (QE Q0 Q2 Q3 Q4 : Prop) : Prop := ((Tt ∧ (Q0 ∧ (Zt5 QE Q2 Q3 Q4))) ∧ (Q0 ∧ (Zt20 QE Q2 Q3 Q4)) ∧ QE)
theorem zt25 {QE Q0 Q2 Q3 Q4 : Prop} (qe : QE) (q0 : Q0) (q2 : Q2) (q3 : Q3) (q4 : Q4) : Zt25 QE Q0 Q2 Q3 Q4 := ⟨⟨tr, ⟨q0, (zt5 qe q2 q3 q4)⟩⟩, ⟨q0, (zt20 qe q2 q3 q4)⟩, qe⟩
def Zt26 (QE Q0 Q2 Q3 Q4 : Prop) : Prop := ((Tt ∧ (Zt10 QE Q0 Q2 Q3 Q4)) ∧ ((Q0 ∧ (Zt22 QE Q2 Q3 Q4)) ∧ (Tt ∧ (Zt25 QE Q0 Q2 Q3 Q4)) ∧ QE) ∧ QE)
theorem zt26 {QE Q0 Q2 Q3 Q4 : Prop} (qe : QE) (q0 : Q0) (q2 : Q2) (q3 : Q3) (q4 : Q4) : Zt26 QE Q0 Q2 Q3 Q4 := ⟨⟨tr, (zt10 qe q0 q2 q3 q4)⟩, ⟨⟨q0, (zt22 qe q2 q3 q4)⟩, ⟨tr, (zt25 qe q0 q2 q3 q4)⟩, qe⟩, qe⟩
def Zt27 (QE Q0 Q1 Q2 Q3 Q4 : Prop) : Prop := ((Tt ∧ (Zt11 QE Q0 Q1 Q2 Q3 Q4)) ∧ ((Q0 ∧ (Zt24 QE Q1 Q2 Q3 Q4)) ∧ (Q1 ∧ (Zt26 QE Q0 Q2 Q3 Q4)) ∧ QE) ∧ QE)
theorem zt27 {QE Q0 Q1 Q2 Q3 Q4 : Prop} (qe : QE) (q0 : Q0) (q1 : Q1) (q2 : Q2) (q3 : Q3) (q4 : Q4) : Zt27 QE Q0 Q1 Q2 Q3 Q4 := ⟨⟨tr, (zt11 qe q0 q1 q2 q3 q4)⟩, ⟨⟨q0, (zt24 qe q1 q2 q3 q4)⟩, ⟨q1, (zt26 qe q0 q2 q3 q4)⟩, qe⟩, qe⟩
def spec_b10Pairs_l2 (K : Nat) (a0 : l00Src) : Nat → Int → Int → Int → (List Bone) → (List Int) → Option (Skeleton × (List Int) × Int × Int)
  | 0, _, _, _, _, _ => none
  | k + 1, x18, x19, x20, x21, x22 => ite2 ((decide (x18 > (0 : Int)))) ((spec_l00Src_pick K (l00Src.mk a0.code x19 x20) (x21.length : Int)).bind fun v24 => (spec_l01DrawVector K (l00Src.mk a0.code v24.2.1 v24.2.2)).bind fun v26 => chk (0 ≤ v24.1 ∧ v24.1 < (x22.length : Int)) ((spec_l01DrawVector K (l00Src.mk a0.code v26.2.1 v26.2.2)).bind fun v29 => chk ((x21.length + ([(Bone.mk v24.1 v26.1), (Bone.mk (x22.getD v24.1.toNat default) v29.1)]).length) * 24 ≤ 140737488355328) (chk ((x22.length + ([(IntKind.i64.wrap ((x21.length : Int) + (1 : Int))), (x21.length : Int)]).length) * 8 ≤ 140737488355328) (spec_b10Pairs_l2 K a0 k (IntKind.i64.wrap (x18 - (1 : Int))) v29.2.1 v29.2.2 (x21 ++ ([(Bone.mk v24.1 v26.1), (Bone.mk (x22.getD v24.1.toNat default) v29.1)])) (x22 ++ ([(IntKind.i64.wrap ((x21.length : Int) + (1 : Int))), (x21.length : Int)])))))) (some ((Skeleton.mk x21), x22, x19, x20))

def spec_b10Pairs_l1 (K : Nat) (a0 : l00Src) (v3 : (Skeleton × Int × Int)) : Nat → Int → (List Int) → Option (Skeleton × (List Int) × Int × Int)
  | 0, _, _ => none
  | k + 1, x7, x8 => ite2 ((decide (x7 < (v3.1.Bones.length : Int)))) (chk ((x8.length + ([x7]).length) * 8 ≤ 140737488355328) (spec_b10Pairs_l1 K a0 v3 k (IntKind.i64.wrap (x7 + (1 : Int))) (x8 ++ ([x7])))) ((spec_l00Src_pick K (l00Src.mk a0.code v3.2.1 v3.2.2) (4 : Int)).bind fun v11 => spec_b10Pairs_l2 K a0 K v11.1 v11.2.1 v11.2.2 v3.1.Bones x8)

def spec_b10Pairs (K : Nat) (a0 : l00Src) : Option (Skeleton × (List Int) × Int × Int) :=
  (spec_l00Src_pick K a0 (3 : Int)).bind fun v1 => (spec_l03DrawSized K (l00Src.mk a0.code v1.2.1 v1.2.2) (IntKind.i64.wrap ((1 : Int) + v1.1))).bind fun v3 => spec_b10Pairs_l1 K a0 v3 K (0 : Int) ([] : List Int)

theorem ok_spec_b10Pairs (K : Nat) (a0 : l00Src) (o : (Skeleton × (List Int) × Int × Int)) (h : spec_b10Pairs K a0 = some o) : MutOK Try.prog 20 [(.box 3 (fun j => [true, false, false].getD j true) (fun j => (cs_l00Src a0).getD j .nilptr) (fun j => [.nilptr, (.int .i64 o.2.2.1), (.int .u64 o.2.2.2)].getD j .nilptr))] [.agg (cs_Skeleton o.1), .one (sl 1 (csI .i64) o.2.1)] := by
  refine mutOK_of_AW 1 Try.func20 rfl (by kernel_rfl) (Nat.le_of_ble_eq_true (by kernel_rfl)) (by kernel_rfl) (by kernel_rfl) ?_
  intro w0 K0 v0 s0
  unfold spec_b10Pairs at h
  let z3 := sl 1 (csI .u8) a0.code
  refine AW.weak (s' := ⟨[(0, (vp 0 0))], [(0, (.box [(.fx 0 0 z3), (cI a0.at_), (.c (.int .u64 a0.seed))]))]⟩) (subUnfx 0 [1, 2] (by kernel_rfl)) ?_
  refine AW.sC (T2 Tt) [.box 1] [0, 2] [0, 1] ⟨tr, tr, tr⟩ ?_
  refine AW.seq ?_
  obtain ⟨v1, e2, h⟩ := bind_some h
  obtain ⟨v3, e4, h⟩ := bind_some h
  let z9 := IntKind.i64.wrap ((1 : Int) + v1.1)
  let z15 := l00Src.mk a0.code v1.2.1 v1.2.2
  refine AW.tC (T2 (((((Eqc z3) ∧ (eI a0.at_) ∧ (Eqc (.int .u64 a0.seed)) ∧ Tt) ∧ (eI (3 : Int)) ∧ Tt) ∧ MutOK Try.prog 45 [(.box 3 (fun j => [true, false, false].getD j true) (fun j => (cs_l00Src a0).getD j .nilptr) (fun j => [.nilptr, (.int .i64 v1.2.1), (.int .u64 v1.2.2)].getD j .nilptr)), .one (.ro (.int .i64 (3 : Int)))] [.one (.int .i64 v1.1)]) ∧ Tt ∧ ((((Eqc z3) ∧ (eI v1.2.1) ∧ (Eqc (.int .u64 v1.2.2)) ∧ Tt) ∧ (eI z9) ∧ Tt) ∧ MutOK Try.prog 44 [(.box 3 (fun j => [true, false, false].getD j true) (fun j => (cs_l00Src z15).getD j .nilptr) (fun j => [.nilptr, (.int .i64 v3.2.1), (.int .u64 v3.2.2)].getD j .nilptr)), .one (.ro (.int .i64 z9))] [.agg (cs_Skeleton v3.1)]) ∧ T2 Tt)) [.no, .no, .callM [(.box 3 (fun j => [true, false, false].getD j true) (fun j => (cs_l00Src a0).getD j .nilptr) (fun j => [.nilptr, (.int .i64 v1.2.1), (.int .u64 v1.2.2)].getD j .nilptr)), .one (.ro (.int .i64 (3 : Int)))] [.one (.int .i64 v1.1)] [[.view]] none, .no, .callM [(.box 3 (fun j => [true, false, false].getD j true) (fun j => (cs_l00Src z15).getD j .nilptr) (fun j => [.nilptr, (.int .i64 v3.2.1), (.int .u64 v3.2.2)].getD j .nilptr)), .one (.ro (.int .i64 z9))] [.agg (cs_Skeleton v3.1)] [[.lst 2]] none, .box 3] [0, 2, 4] [0, 1, 2, 3] ⟨tr, tr, ⟨⟨⟨rfl, rfl, rfl, tr⟩, rfl, tr⟩, ok_spec_l00Src_pick K a0 (3 : Int) v1 e2⟩, tr, ⟨⟨⟨rfl, rfl, rfl, tr⟩, rfl, tr⟩, ok_spec_l03DrawSized K z15 z9 v3 e4⟩, tr, tr, tr⟩ ?_
  refine AW.sC ((([] : List Int).length = 0 ∧ Tt) ∧ Tt ∧ Tt) [.obj 4 ([] : List Int).length (gl (csI .i64) ([] : List Int))] [0, 2, 4, 5] [0, 1, 2, 3, 4] ⟨⟨rfl, tr⟩, tr, tr⟩ ?_
  refine AW.seq ?_
  let z4 := xL 2 4 cs_Bone v3.1.Bones
  let z5 := vI (v3.1.Bones.length : Int)
  let z6 := oL 4 cs_Bone v3.1.Bones
  refine AW.sA ⟨[(0, (vp 0 0)), (2, (vp 1 0)), (4, (vp 3 0)), (5, (vL 4 1 (csI .i64) ([] : List Int))), (18, z5), (19, (vI (0 : Int)))], [(0, (.box [(.fx 0 0 z3), (cI v3.2.1), (.c (.int .u64 v3.2.2))])), (1, (.box [.nils])), (2, z6), (3, (.box [z4])), (4, (oL 1 (csI .i64) ([] : List Int)))]⟩ (T4 Tt) [] [0, 2, 4, 5, 18, 19] [0, 1, 2, 3, 4] ⟨tr, tr, tr, tr, tr⟩ ?_
  refine AW.block ?_
  refine AW.loopQ (σ := Nat × Int × (List Int)) (fun p => ⟨[(0, (vp 0 0)), (2, (vp 1 0)), (4, (vp 3 0)), (5, (vL 4 1 (csI .i64) p.2.2)), (18, z5), (19, (vI p.2.1))], [(0, (.box [(.fx 0 0 z3), (cI v3.2.1), (.c (.int .u64 v3.2.2))])), (1, (.box [.nils])), (2, z6), (3, (.box [z4])), (4, (oL 1 (csI .i64) p.2.2))]⟩) (fun p => spec_b10Pairs_l1 K a0 v3 p.1 p.2.1 p.2.2 = some o) (fun p => p.1) (K, (0 : Int), ([] : List Int)) h ?_
  clear h
  rintro ⟨k, x7, x8⟩ h
  replace h : spec_b10Pairs_l1 K a0 v3 k x7 x8 = some o := h
  let z23 := vL 4 1 (csI .i64) x8
  let z24 := oL 1 (csI .i64) x8
  show AW _ _ (⟨[(0, (vp 0 0)), (2, (vp 1 0)), (4, (vp 3 0)), (5, z23), (18, z5), (19, (vI x7))], [(0, (.box [(.fx 0 0 z3), (cI v3.2.1), (.c (.int .u64 v3.2.2))])), (1, (.box [.nils])), (2, z6), (3, (.box [z4])), (4, z24)]⟩ : St) _
  obtain _ | k := k
  · rw [spec_b10Pairs_l1] at h; cases h
  rw [spec_b10Pairs_l1] at h
  refine AW.sA ⟨[(0, (vp 0 0)), (2, (vp 1 0)), (4, (vp 3 0)), (5, z23), (18, z5), (19, (vI x7)), (20, (vB (decide (x7 < (v3.1.Bones.length : Int)))))], [(0, (.box [(.fx 0 0 z3), (cI v3.2.1), (.c (.int .u64 v3.2.2))])), (1, (.box [.nils])), (2, z6), (3, (.box [z4])), (4, z24)]⟩ (Tt ∧ Tt) [] [0, 2, 4, 5, 18, 19, 20] [0, 1, 2, 3, 4] ⟨tr, tr⟩ ?_
  refine AW.seq ?_
  rcases ite2_cases h with ⟨b9, h⟩ | ⟨b9, h⟩
  · refine AW.cond_t rfl b9 ?_
    refine AW.skip ?_
    refine thenQ_normal ?_
    refine AW.seq ?_
    refine AW.block ?_
    refine AW.sC (T2 Tt) [] [0, 2, 4, 5, 6, 18, 19] [0, 1, 2, 3, 4] ⟨tr, tr, tr⟩ ?_
    obtain ⟨c10, h⟩ := chk_some h
    let z13 := x8 ++ ([x7])
    refine AW.rA ⟨[(0, (vp 0 0)), (2, (vp 1 0)), (4, (vp 3 0)), (5, (vL 10 1 (csI .i64) z13)), (18, z5), (19, (vI x7))], [(0, (.box [(.fx 0 0 z3), (cI v3.2.1), (.c (.int .u64 v3.2.2))])), (1, (.box [.nils])), (2, z6), (3, (.box [z4])), (10, (oL 1 (csI .i64) z13))]⟩ (T2 ((([x7]).length = 1 ∧ (((.int .i64 x7) : C) = (.int .i64 x7) ∧ Tt) ∧ Tt) ∧ (z13.length = x8.length + ([x7]).length ∧ AppOb (x8.length) (([x7]).length) 1 (gl (csI .i64) x8) (gl (csI .i64) ([x7])) (gl (csI .i64) z13) ∧ (∀ i j, i < ([x7]).length → j < 1 → scalarC (gl (csI .i64) ([x7]) i j)) ∧ (x8.length + ([x7]).length) * 8 ≤ 140737488355328) ∧ Tt ∧ Tt)) [.no, .no, .obj 9 ([x7]).length (gl (csI .i64) ([x7])), .objK 10 z13.length (gl (csI .i64) z13)] [0, 2, 4, 5, 18, 19] [0, 1, 2, 3, 10] ⟨tr, tr, ⟨rfl, ⟨⟨rfl, tr⟩, tr⟩⟩, ⟨List.length_append, gl_append, gl_scalar scI _, c10⟩, tr, tr⟩ ?_
    refine blockQ_normal ?_
    refine thenQ_normal ?_
    let z25 := IntKind.i64.wrap (x7 + (1 : Int))
    refine AW.rA ⟨[(0, (vp 0 0)), (2, (vp 1 0)), (4, (vp 3 0)), (5, (vL 10 1 (csI .i64) z13)), (18, z5), (19, (vI z25))], [(0, (.box [(.fx 0 0 z3), (cI v3.2.1), (.c (.int .u64 v3.2.2))])), (1, (.box [.nils])), (2, z6), (3, (.box [z4])), (10, (oL 1 (csI .i64) z13))]⟩ (T2 Tt) [] [0, 2, 4, 5, 18, 19] [0, 1, 2, 3, 10] ⟨tr, tr, tr⟩ ?_
    exact loopQ_normal (k, z25, z13) h (Nat.lt_succ_self k) (Sub.trans (Sub.swap 4 10 _ (by kernel_rfl) (by kernel_rfl)) (Sub.keep [0, 2, 4, 5, 18, 19] [0, 1, 2, 3, 4] (by kernel_rfl) (by kernel_rfl)))
  · refine AW.cond_f rfl b9 ?_
    refine AW.exit ?_
    refine thenQ_exit ?_
    refine loopQ_exit ?_
    refine blockQ_exit ?_
    refine thenQ_normal ?_
    refine AW.seq ?_
    refine AW.seq ?_
    obtain ⟨v11, e12, h⟩ := bind_some h
    let z18 := l00Src.mk a0.code v3.2.1 v3.2.2
    refine AW.tA ⟨[(0, (vp 0 0)), (2, (vp 1 0)), (4, (vp 3 0)), (5, z23), (7, (vI v11.1))], [(0, (.box [(.fx 0 0 z3), (cI v11.2.1), (.c (.int .u64 v11.2.2))])), (1, (.box [.nils])), (2, z6), (3, (.box [z4])), (4, z24)]⟩ (Tt ∧ ((((Eqc z3) ∧ (eI v3.2.1) ∧ (Eqc (.int .u64 v3.2.2)) ∧ Tt) ∧ (eI (4 : Int)) ∧ Tt) ∧ MutOK Try.prog 45 [(.box 3 (fun j => [true, false, false].getD j true) (fun j => (cs_l00Src z18).getD j .nilptr) (fun j => [.nilptr, (.int .i64 v11.2.1), (.int .u64 v11.2.2)].getD j .nilptr)), .one (.ro (.int .i64 (4 : Int)))] [.one (.int .i64 v11.1)]) ∧ Tt ∧ Tt) [.no, .callM [(.box 3 (fun j => [true, false, false].getD j true) (fun j => (cs_l00Src z18).getD j .nilptr) (fun j => [.nilptr, (.int .i64 v11.2.1), (.int .u64 v11.2.2)].getD j .nilptr)), .one (.ro (.int .i64 (4 : Int)))] [.one (.int .i64 v11.1)] [[.view]] none] [0, 2, 4, 5, 7] [0, 1, 2, 3, 4] ⟨tr, ⟨⟨⟨rfl, rfl, rfl, tr⟩, rfl, tr⟩, ok_spec_l00Src_pick K z18 (4 : Int) v11 e12⟩, tr, tr⟩ ?_
    refine AW.block ?_
    refine AW.loopQ (σ := Nat × Int × Int × Int × (List Bone) × (List Int)) (fun p => ⟨[(0, (vp 0 0)), (2, (vp 1 0)), (4, (vp 3 0)), (5, (vL 4 1 (csI .i64) p.2.2.2.2.2)), (7, (vI p.2.1))], [(0, (.box [(.fx 0 0 z3), (cI p.2.2.1), (.c (.int .u64 p.2.2.2.1))])), (1, (.box [.nils])), (2, (oL 4 cs_Bone p.2.2.2.2.1)), (3, (.box [(xL 2 4 cs_Bone p.2.2.2.2.1)])), (4, (oL 1 (csI .i64) p.2.2.2.2.2))]⟩) (fun p => spec_b10Pairs_l2 K a0 p.1 p.2.1 p.2.2.1 p.2.2.2.1 p.2.2.2.2.1 p.2.2.2.2.2 = some o) (fun p => p.1) (K, v11.1, v11.2.1, v11.2.2, v3.1.Bones, x8) h ?_
    clear h
    rintro ⟨k, x18, x19, x20, x21, x22⟩ h
    replace h : spec_b10Pairs_l2 K a0 k x18 x19 x20 x21 x22 = some o := h
    let z7 := vL 4 1 (csI .i64) x22
    let z8 := oL 1 (csI .i64) x22
    let z14 := xL 2 4 cs_Bone x21
    let z22 := oL 4 cs_Bone x21
    show AW _ _ (⟨[(0, (vp 0 0)), (2, (vp 1 0)), (4, (vp 3 0)), (5, z7), (7, (vI x18))], [(0, (.box [(.fx 0 0 z3), (cI x19), (.c (.int .u64 x20))])), (1, (.box [.nils])), (2, z22), (3, (.box [z14])), (4, z8)]⟩ : St) _
    obtain _ | k := k
    · rw [spec_b10Pairs_l2] at h; cases h
    rw [spec_b10Pairs_l2] at h
    refine AW.seq ?_
    refine AW.sA ⟨[(0, (vp 0 0)), (2, (vp 1 0)), (4, (vp 3 0)), (5, z7), (7, (vI x18)), (30, (vB (decide (x18 > (0 : Int)))))], [(0, (.box [(.fx 0 0 z3), (cI x19), (.c (.int .u64 x20))])), (1, (.box [.nils])), (2, z22), (3, (.box [z14])), (4, z8)]⟩ (T2 Tt) [] [0, 2, 4, 5, 7, 30] [0, 1, 2, 3, 4] ⟨tr, tr, tr⟩ ?_
    rcases ite2_cases h with ⟨b23, h⟩ | ⟨b23, h⟩
    · refine AW.cond_t rfl b23 ?_
      refine AW.skip ?_
      refine thenQ_normal ?_
      refine AW.seq ?_
      refine AW.block ?_
      refine AW.seq ?_
      obtain ⟨v24, e25, h⟩ := bind_some h
      let z21 := l00Src.mk a0.code x19 x20
      refine AW.tC (T4 (((((Eqc z3) ∧ (eI x19) ∧ (Eqc (.int .u64 x20)) ∧ Tt) ∧ (eI (x21.length : Int)) ∧ Tt) ∧ MutOK Try.prog 45 [(.box 3 (fun j => [true, false, false].getD j true) (fun j => (cs_l00Src z21).getD j .nilptr) (fun j => [.nilptr, (.int .i64 v24.2.1), (.int .u64 v24.2.2)].getD j .nilptr)), .one (.ro (.int .i64 (x21.length : Int)))] [.one (.int .i64 v24.1)]) ∧ Tt ∧ Tt)) [.no, .no, .no, .no, .callM [(.box 3 (fun j => [true, false, false].getD j true) (fun j => (cs_l00Src z21).getD j .nilptr) (fun j => [.nilptr, (.int .i64 v24.2.1), (.int .u64 v24.2.2)].getD j .nilptr)), .one (.ro (.int .i64 (x21.length : Int)))] [.one (.int .i64 v24.1)] [[.view]] none] [0, 2, 4, 5, 7, 8] [0, 1, 2, 3, 4] ⟨tr, tr, tr, tr, ⟨⟨⟨rfl, rfl, rfl, tr⟩, rfl, tr⟩, ok_spec_l00Src_pick K z21 (x21.length : Int) v24 e25⟩, tr, tr⟩ ?_
      let z19 := vI (x21.length : Int)
      refine AW.sA ⟨[(0, (vp 0 0)), (2, (vp 1 0)), (4, (vp 3 0)), (5, z7), (7, (vI x18)), (8, (vI v24.1)), (9, z19)], [(0, (.box [(.fx 0 0 z3), (cI v24.2.1), (.c (.int .u64 v24.2.2))])), (1, (.box [.nils])), (2, z22), (3, (.box [z14])), (4, z8)]⟩ (T4 Tt) [] [0, 2, 4, 5, 7, 8, 9] [0, 1, 2, 3, 4] ⟨tr, tr, tr, tr, tr⟩ ?_
      refine AW.seq ?_
      obtain ⟨v26, e27, h⟩ := bind_some h
      obtain ⟨c28, h⟩ := chk_some h
      obtain ⟨v29, e30, h⟩ := bind_some h
      obtain ⟨c31, h⟩ := chk_some h
      let z20 := x22.getD v24.1.toNat default
      let z1 := [(Bone.mk v24.1 v26.1), (Bone.mk z20 v29.1)]
      let z10 := xL 20 4 cs_Bone (x21 ++ z1)
      let z12 := oL 4 cs_Bone (x21 ++ z1)
      let z16 := l00Src.mk a0.code v24.2.1 v24.2.2
      let z17 := l00Src.mk a0.code v26.2.1 v26.2.2
      refine AW.firstA (by kernel_rfl) [0, 2, 3, 6, 7, 10] [.no, .no, .no, .no, .callM [(.box 3 (fun j => [true, false, false].getD j true) (fun j => (cs_l00Src z16).getD j .nilptr) (fun j => [.nilptr, (.int .i64 v26.2.1), (.int .u64 v26.2.2)].getD j .nilptr))] [.agg (cs_Vector v26.1)] [[.view, .view, .view]] none, .no, .no, .no, .no, .no, .no, .callM [(.box 3 (fun j => [true, false, false].getD j true) (fun j => (cs_l00Src z17).getD j .nilptr) (fun j => [.nilptr, (.int .i64 v29.2.1), (.int .u64 v29.2.2)].getD j .nilptr))] [.agg (cs_Vector v29.1)] [[.view, .view, .view]] none, .no, .obj 19 z1.length (gl cs_Bone z1), .objK 20 (x21 ++ z1).length (gl cs_Bone (x21 ++ z1))] [0, 2, 4, 5, 7, 9] [0, 1, 3, 4, 20] (s' := ⟨[(0, (vp 0 0)), (2, (vp 1 0)), (4, (vp 3 0)), (5, z7), (7, (vI x18)), (9, z19)], [(0, (.box [(.fx 0 0 z3), (cI v29.2.1), (.c (.int .u64 v29.2.2))])), (1, (.box [.nils])), (3, (.box [z10])), (4, z8), (20, z12)]⟩) (ob := (Zt27 ((⟨[(0, (vp 0 0)), (2, (vp 1 0)), (4, (vp 3 0)), (5, z7), (7, (vI x18)), (9, z19)], [(0, (.box [(.fx 0 0 z3), (cI v29.2.1), (.c (.int .u64 v29.2.2))])), (1, (.box [.nils])), (3, (.box [z10])), (4, z8), (20, z12)]⟩ : St) = ⟨[(0, (vp 0 0)), (2, (vp 1 0)), (4, (vp 3 0)), (5, z7), (7, (vI x18)), (9, z19)], [(0, (.box [(.fx 0 0 z3), (cI v29.2.1), (.c (.int .u64 v29.2.2))])), (1, (.box [.nils])), (3, (.box [z10])), (4, z8), (20, z12)]⟩) (((((Eqc z3) ∧ (eI v24.2.1) ∧ (Eqc (.int .u64 v24.2.2)) ∧ Tt) ∧ Tt) ∧ MutOK Try.prog 46 [(.box 3 (fun j => [true, false, false].getD j true) (fun j => (cs_l00Src z16).getD j .nilptr) (fun j => [.nilptr, (.int .i64 v26.2.1), (.int .u64 v26.2.2)].getD j .nilptr))] [.agg (cs_Vector v26.1)])) ((0 ≤ v24.1 ∧ v24.1 < (x22.length : Int))) (((((Eqc z3) ∧ (eI v26.2.1) ∧ (Eqc (.int .u64 v26.2.2)) ∧ Tt) ∧ Tt) ∧ MutOK Try.prog 46 [(.box 3 (fun j => [true, false, false].getD j true) (fun j => (cs_l00Src z17).getD j .nilptr) (fun j => [.nilptr, (.int .i64 v29.2.1), (.int .u64 v29.2.2)].getD j .nilptr))] [.agg (cs_Vector v29.1)])) ((z1.length = 2 ∧ (((.int .i64 v24.1) : C) = (.int .i64 v24.1) ∧ Tt) ∧ (((.flt .f32 v26.1.X.bits) : C) = (.flt .f32 v26.1.X.bits) ∧ Tt) ∧ (((.flt .f32 v26.1.Y.bits) : C) = (.flt .f32 v26.1.Y.bits) ∧ Tt) ∧ (((.flt .f32 v26.1.Z.bits) : C) = (.flt .f32 v26.1.Z.bits) ∧ Tt) ∧ (((.int .i64 z20) : C) = (.int .i64 z20) ∧ Tt) ∧ (((.flt .f32 v29.1.X.bits) : C) = (.flt .f32 v29.1.X.bits) ∧ Tt) ∧ (((.flt .f32 v29.1.Y.bits) : C) = (.flt .f32 v29.1.Y.bits) ∧ Tt) ∧ (((.flt .f32 v29.1.Z.bits) : C) = (.flt .f32 v29.1.Z.bits) ∧ Tt) ∧ Tt)) (((x21 ++ z1).length = x21.length + z1.length ∧ AppOb (x21.length) (z1.length) 4 (gl cs_Bone x21) (gl cs_Bone z1) (gl cs_Bone (x21 ++ z1)) ∧ (∀ i j, i < z1.length → j < 4 → scalarC (gl cs_Bone z1 i j)) ∧ (x21.length + z1.length) * 24 ≤ 140737488355328)))) (by kernel_rfl) (zt27 rfl ⟨⟨⟨rfl, rfl, rfl, tr⟩, tr⟩, ok_spec_l01DrawVector K z16 v26 e27⟩ (c28) ⟨⟨⟨rfl, rfl, rfl, tr⟩, tr⟩, ok_spec_l01DrawVector K z17 v29 e30⟩ ⟨rfl, ⟨⟨rfl, tr⟩, ⟨rfl, tr⟩, ⟨rfl, tr⟩, ⟨rfl, tr⟩, ⟨rfl, tr⟩, ⟨rfl, tr⟩, ⟨rfl, tr⟩, ⟨rfl, tr⟩, tr⟩⟩ ⟨List.length_append, gl_append, gl_scalar sc_Bone _, c31⟩) ?_
      refine thenQ_normal ?_
      obtain ⟨c32, h⟩ := chk_some h
      let z11 := IntKind.i64.wrap ((x21.length : Int) + (1 : Int))
      let z2 := [z11, (x21.length : Int)]
      let z27 := vL 22 1 (csI .i64) (x22 ++ z2)
      refine AW.rA ⟨[(0, (vp 0 0)), (2, (vp 1 0)), (4, (vp 3 0)), (5, z27), (7, (vI x18))], [(0, (.box [(.fx 0 0 z3), (cI v29.2.1), (.c (.int .u64 v29.2.2))])), (1, (.box [.nils])), (3, (.box [z10])), (20, z12), (22, (oL 1 (csI .i64) (x22 ++ z2)))]⟩ (T4 ((z2.length = 2 ∧ (((.int .i64 z11) : C) = (.int .i64 z11) ∧ Tt) ∧ (((.int .i64 (x21.length : Int)) : C) = (.int .i64 (x21.length : Int)) ∧ Tt) ∧ Tt) ∧ ((x22 ++ z2).length = x22.length + z2.length ∧ AppOb (x22.length) (z2.length) 1 (gl (csI .i64) x22) (gl (csI .i64) z2) (gl (csI .i64) (x22 ++ z2)) ∧ (∀ i j, i < z2.length → j < 1 → scalarC (gl (csI .i64) z2 i j)) ∧ (x22.length + z2.length) * 8 ≤ 140737488355328) ∧ Tt ∧ Tt)) [.no, .no, .no, .no, .obj 21 z2.length (gl (csI .i64) z2), .objK 22 (x22 ++ z2).length (gl (csI .i64) (x22 ++ z2))] [0, 2, 4, 5, 7] [0, 1, 3, 20, 22] ⟨tr, tr, tr, tr, ⟨rfl, ⟨⟨rfl, tr⟩, ⟨rfl, tr⟩, tr⟩⟩, ⟨List.length_append, gl_append, gl_scalar scI _, c32⟩, tr, tr⟩ ?_
      refine blockQ_normal ?_
      refine thenQ_normal ?_
      let z26 := IntKind.i64.wrap (x18 - (1 : Int))
      refine AW.rA ⟨[(0, (vp 0 0)), (2, (vp 1 0)), (4, (vp 3 0)), (5, z27), (7, (vI z26))], [(0, (.box [(.fx 0 0 z3), (cI v29.2.1), (.c (.int .u64 v29.2.2))])), (1, (.box [.nils])), (3, (.box [z10])), (20, z12), (22, (oL 1 (csI .i64) (x22 ++ z2)))]⟩ (Tt ∧ T2 Tt) [] [0, 2, 4, 5, 7] [0, 1, 3, 20, 22] ⟨tr, tr, tr, tr⟩ ?_
      exact loopQ_normal (k, z26, v29.2.1, v29.2.2, (x21 ++ z1), (x22 ++ z2)) h (Nat.lt_succ_self k) (Sub.trans (Sub.swap 4 22 _ (by kernel_rfl) (by kernel_rfl)) (Sub.trans (Sub.swap 2 20 _ (by kernel_rfl) (by kernel_rfl)) (Sub.keep [0, 2, 4, 5, 7] [0, 1, 2, 3, 4] (by kernel_rfl) (by kernel_rfl))))
    · refine AW.cond_f rfl b23 ?_
      refine AW.exit ?_
      refine thenQ_exit ?_
      refine loopQ_exit ?_
      refine blockQ_exit ?_
      refine thenQ_normal ?_
      refine AW.sA ⟨[(0, (vp 0 0)), (2, (vp 1 0)), (3, z7)], [(0, (.box [(.fx 0 0 z3), (cI x19), (.c (.int .u64 x20))])), (1, (.box [z14])), (2, z22), (4, z8)]⟩ (T4 Tt) [] [0, 2, 3] [0, 1, 2, 4] ⟨tr, tr, tr, tr, tr⟩ ?_
      refine AW.ret ?_
      replace h := some_eq h
      subst h
      exact ⟨.inr rfl, retOK_of [(.agg [z14]), (.one (xL 4 1 (csI .i64) x22))] (by kernel_rfl) ⟨⟨rfl, tr⟩, rfl, tr⟩ (of_decide_eq_true (by kernel_rfl)), by kernel_rfl, ⟨⟨rfl, ⟨⟨rfl, rfl⟩, ⟨rfl, rfl⟩, ⟨rfl, rfl⟩, tr⟩⟩, tr⟩⟩

/-! spec.B10Pairs -/
def spec_B10Pairs (K : Nat) (a0 : (List Int)) : Option (Skeleton) :=
  (spec_b10Pairs K (l00Src.mk a0 (0 : Int) (0 : Int))).bind fun v1 => some v1.1

theorem ok_spec_B10Pairs (K : Nat) (a0 : (List Int)) (o : (Skeleton)) (h : spec_B10Pairs K a0 = some o) : CallOK Try.prog 5 [.one (sl 1 (csI .u8) a0)] [.agg (cs_Skeleton o)] := by
  refine callOK_of_AW Try.func5 rfl (by kernel_rfl) (Nat.le_of_ble_eq_true (by kernel_rfl)) ?_
  intro w0
  unfold spec_B10Pairs at h
  let z3 := sl 1 (csI .u8) a0
  refine AW.sA ⟨[(0, (vc z3)), (2, (vp 1 0))], [(1, (.box [.nils]))]⟩ (Tt ∧ Tt) [.box 1] [0, 2] [1] ⟨tr, tr⟩ ?_
  refine AW.seq (AW.mkA 1 2 [(.i64, 0), (.u64, 0)] [.no] [] [2, 3] [1, 2] (s' := ⟨[(2, (vp 1 0)), (3, (vp 2 0))], [(1, (.box [.nils])), (2, (.box [(.c z3), (cI (0 : Int)), (.c (.int .u64 (0 : Int)))]))]⟩) (ob := (Tt ∧ Tt) ∧ Tt ∧ (Tt ∧ Tt)) (by kernel_rfl) ⟨⟨tr, tr⟩, tr, ⟨tr, tr⟩⟩ mk_spec_l00From (thenQ_normal ?_))
  refine AW.seq ?_
  obtain ⟨v1, e2, h⟩ := bind_some h
  let z1 := l00Src.mk a0 (0 : Int) (0 : Int)
  let z2 : List CT := [.agg (cs_Skeleton v1.1), .one (sl 1 (csI .i64) v1.2.1)]
  refine AW.tC (Tt ∧ ((((Eqc z3) ∧ (eI (0 : Int)) ∧ (Eqc (.int .u64 (0 : Int))) ∧ Tt) ∧ Tt) ∧ MutOK Try.prog 20 [(.box 3 (fun j => [true, false, false].getD j true) (fun j => (cs_l00Src z1).getD j .nilptr) (fun j => [.nilptr, (.int .i64 v1.2.2.1), (.int .u64 v1.2.2.2)].getD j .nilptr))] z2) ∧ T2 (T4 Tt)) [.no, .callM [(.box 3 (fun j => [true, false, false].getD j true) (fun j => (cs_l00Src z1).getD j .nilptr) (fun j => [.nilptr, (.int .i64 v1.2.2.1), (.int .u64 v1.2.2.2)].getD j .nilptr))] z2 [[.lst 3], [.lst 4]] none, .no, .no, .no, .box 5] [2, 4] [1, 3, 5] ⟨tr, ⟨⟨⟨rfl, rfl, rfl, tr⟩, tr⟩, ok_spec_b10Pairs K z1 v1 e2⟩, tr, tr, tr, tr, tr, tr, tr⟩ ?_
  refine AW.sA ⟨[(2, (vp 1 0))], [(1, (.box [(xL 3 4 cs_Bone v1.1.Bones)])), (3, (oL 4 cs_Bone v1.1.Bones))]⟩ (T2 Tt) [] [2] [1, 3] ⟨tr, tr, tr⟩ ?_
  refine AW.ret ?_
  replace h := some_eq h
  subst h
  exact ⟨.inr rfl, retOK_of [(.agg [(xL 3 4 cs_Bone v1.1.Bones)])] (by kernel_rfl) ⟨⟨rfl, tr⟩, tr⟩ (of_decide_eq_true (by kernel_rfl))⟩

/-! spec.B10Pairing -/
def spec_B10Pairing (K : Nat) (a0 : (List Int)) : Option ((List Int)) :=
  (spec_b10Pairs K (l00Src.mk a0 (0 : Int) (0 : Int))).bind fun v1 => some v1.2.1

theorem ok_spec_B10Pairing (K : Nat) (a0 : (List Int)) (o : ((List Int))) (h : spec_B10Pairing K a0 = some o) : CallOK Try.prog 6 [.one (sl 1 (csI .u8) a0)] [.one (sl 1 (csI .i64) o)] := by
  refine callOK_of_AW Try.func6 rfl (by kernel_rfl) (Nat.le_of_ble_eq_true (by kernel_rfl)) ?_
  intro w0
  unfold spec_B10Pairing at h
  let z3 := sl 1 (csI .u8) a0
  refine AW.sA ⟨[(0, (vc z3))], []⟩ (Tt ∧ Tt) [] [0] [] ⟨tr, tr⟩ ?_
  refine AW.seq (AW.mkA 1 1 [(.i64, 0), (.u64, 0)] [.no] [] [3] [1] (s' := ⟨[(3, (vp 1 0))], [(1, (.box [(.c z3), (cI (0 : Int)), (.c (.int .u64 (0 : Int)))]))]⟩) (ob := (Tt ∧ Tt) ∧ Tt ∧ (Tt ∧ Tt)) (by kernel_rfl) ⟨⟨tr, tr⟩, tr, ⟨tr, tr⟩⟩ mk_spec_l00From (thenQ_normal ?_))
  refine AW.seq ?_
  obtain ⟨v1, e2, h⟩ := bind_some h
  let z1 := l00Src.mk a0 (0 : Int) (0 : Int)
  let z2 : List CT := [.agg (cs_Skeleton v1.1), .one (sl 1 (csI .i64) v1.2.1)]
  refine AW.tC (Tt ∧ ((((Eqc z3) ∧ (eI (0 : Int)) ∧ (Eqc (.int .u64 (0 : Int))) ∧ Tt) ∧ Tt) ∧ MutOK Try.prog 20 [(.box 3 (fun j => [true, false, false].getD j true) (fun j => (cs_l00Src z1).getD j .nilptr) (fun j => [.nilptr, (.int .i64 v1.2.2.1), (.int .u64 v1.2.2.2)].getD j .nilptr))] z2) ∧ T2 (T4 Tt)) [.no, .callM [(.box 3 (fun j => [true, false, false].getD j true) (fun j => (cs_l00Src z1).getD j .nilptr) (fun j => [.nilptr, (.int .i64 v1.2.2.1), (.int .u64 v1.2.2.2)].getD j .nilptr))] z2 [[.lst 2], [.lst 3]] none, .no, .no, .no, .box 4] [5] [3] ⟨tr, ⟨⟨⟨rfl, rfl, rfl, tr⟩, tr⟩, ok_spec_b10Pairs K z1 v1 e2⟩, tr, tr, tr, tr, tr, tr, tr⟩ ?_
  refine AW.sA ⟨[(2, (vL 3 1 (csI .i64) v1.2.1))], [(3, (oL 1 (csI .i64) v1.2.1))]⟩ (T2 Tt) [] [2] [3] ⟨tr, tr, tr⟩ ?_
  refine AW.ret ?_
  replace h := some_eq h
  subst h
  exact ⟨.inr rfl, retOK_of [(.one (xL 3 1 (csI .i64) v1.2.1))] (by kernel_rfl) ⟨rfl, tr⟩ (of_decide_eq_true (by kernel_rfl))⟩

/-! spec.l02DrawExact -/
def spec_l02DrawExact (K : Nat) (a0 : l00Src) : Option (Turn × Int × Int) :=
  (spec_l00Src_pick K a0 (24 : Int)).bind fun v1 => ite2 ((decide (v1.1 < (8 : Int)))) (ite2 ((decide (v1.1 ≥ (4 : Int)))) (chk ((4 : Int) ≠ 0) (ite2 (((v1.1.tmod (4 : Int)) == (0 : Int))) (some ((Turn.mk (Fl.mk (k := .f32) 3212836864 (by decide)) (default : F32) (default : F32) (default : F32)), v1.2.1, v1.2.2)) (ite2 (((v1.1.tmod (4 : Int)) == (1 : Int))) (some ((Turn.mk (default : F32) (Fl.mk (k := .f32) 3212836864 (by decide)) (default : F32) (default : F32)), v1.2.1, v1.2.2)) (ite2 (((v1.1.tmod (4 : Int)) == (2 : Int))) (some ((Turn.mk (default : F32) (default : F32) (Fl.mk (k := .f32) 3212836864 (by decide)) (default : F32)), v1.2.1, v1.2.2)) (some ((Turn.mk (default : F32) (default : F32) (default : F32) (Fl.mk (k := .f32) 3212836864 (by decide))), v1.2.1, v1.2.2)))))) (chk ((4 : Int) ≠ 0) (ite2 (((v1.1.tmod (4 : Int)) == (0 : Int))) (some ((Turn.mk (Fl.mk (k := .f32) 1065353216 (by decide)) (default : F32) (default : F32) (default : F32)), v1.2.1, v1.2.2)) (ite2 (((v1.1.tmod (4 : Int)) == (1 : Int))) (some ((Turn.mk (default : F32) (Fl.mk (k := .f32) 1065353216 (by decide)) (default : F32) (default : F32)), v1.2.1, v1.2.2)) (ite2 (((v1.1.tmod (4 : Int)) == (2 : Int))) (some ((Turn.mk (default : F32) (default : F32) (Fl.mk (k := .f32) 1065353216 (by decide)) (default : F32)), v1.2.1, v1.2.2)) (some ((Turn.mk (default : F32) (default : F32) (default : F32) (Fl.mk (k := .f32) 1065353216 (by decide))), v1.2.1, v1.2.2))))))) (chk (0 ≤ (1 : Int)) (chk (0 ≤ (2 : Int)) (chk (0 ≤ (3 : Int)) (some ((Turn.mk ((Fl.ofInt .f32 (bits .and .i64 (IntKind.i64.wrap (v1.1 - (8 : Int))) (1 : Int))).sub (Fl.mk (k := .f32) 1056964608 (by decide))) ((Fl.ofInt .f32 (bits .and .i64 ((IntKind.i64.wrap (v1.1 - (8 : Int))).fdiv (2 ^ (min (1 : Int).toNat (IntKind.bits .i64)))) (1 : Int))).sub (Fl.mk (k := .f32) 1056964608 (by decide))) ((Fl.ofInt .f32 (bits .and .i64 ((IntKind.i64.wrap (v1.1 - (8 : Int))).fdiv (2 ^ (min (2 : Int).toNat (IntKind.bits .i64)))) (1 : Int))).sub (Fl.mk (k := .f32) 1056964608 (by decide))) ((Fl.ofInt .f32 (bits .and .i64 ((IntKind.i64.wrap (v1.1 - (8 : Int))).fdiv (2 ^ (min (3 : Int).toNat (IntKind.bits .i64)))) (1 : Int))).sub (Fl.mk (k := .f32) 1056964608 (by decide)))), v1.2.1, v1.2.2)))))

theorem ok_spec_l02DrawExact (K : Nat) (a0 : l00Src) (o : (Turn × Int × Int)) (h : spec_l02DrawExact K a0 = some o) : MutOK Try.prog 64 [(.box 3 (fun j => [true, false, false].getD j true) (fun j => (cs_l00Src a0).getD j .nilptr) (fun j => [.nilptr, (.int .i64 o.2.1), (.int .u64 o.2.2)].getD j .nilptr))] [.agg (cs_Turn o.1)] := by
  refine mutOK_of_AW 1 Try.func64 rfl (by kernel_rfl) (Nat.le_of_ble_eq_true (by kernel_rfl)) (by kernel_rfl) (by kernel_rfl) ?_
  intro w0 K0 v0 s0
  unfold spec_l02DrawExact at h
  let z4 := sl 1 (csI .u8) a0.code
  refine AW.weak (s' := ⟨[(0, (vp 0 0))], [(0, (.box [(.fx 0 0 z4), (cI a0.at_), (.c (.int .u64 a0.seed))]))]⟩) (subUnfx 0 [1, 2] (by kernel_rfl)) ?_
  refine AW.sC (Tt ∧ Tt) [.box 1] [0, 2] [0, 1] ⟨tr, tr⟩ ?_
  refine AW.seq ?_
  obtain ⟨v1, e2, h⟩ := bind_some h
  refine AW.tC (Tt ∧ ((((Eqc z4) ∧ (eI a0.at_) ∧ (Eqc (.int .u64 a0.seed)) ∧ Tt) ∧ (eI (24 : Int)) ∧ Tt) ∧ MutOK Try.prog 45 [(.box 3 (fun j => [true, false, false].getD j true) (fun j => (cs_l00Src a0).getD j .nilptr) (fun j => [.nilptr, (.int .i64 v1.2.1), (.int .u64 v1.2.2)].getD j .nilptr)), .one (.ro (.int .i64 (24 : Int)))] [.one (.int .i64 v1.1)]) ∧ Tt ∧ Tt) [.no, .callM [(.box 3 (fun j => [true, false, false].getD j true) (fun j => (cs_l00Src a0).getD j .nilptr) (fun j => [.nilptr, (.int .i64 v1.2.1), (.int .u64 v1.2.2)].getD j .nilptr)), .one (.ro (.int .i64 (24 : Int)))] [.one (.int .i64 v1.1)] [[.view]] none] [0, 2, 3] [0, 1] ⟨tr, ⟨⟨⟨rfl, rfl, rfl, tr⟩, rfl, tr⟩, ok_spec_l00Src_pick K a0 (24 : Int) v1 e2⟩, tr, tr⟩ ?_
  refine AW.seq ?_
  let z1 := cF (default : F32)
  refine AW.sA ⟨[(0, (vp 0 0)), (2, (vp 1 0)), (3, (vI v1.1)), (8, (vB (decide (v1.1 < (8 : Int)))))], [(0, (.box [(.fx 0 0 z4), (cI v1.2.1), (.c (.int .u64 v1.2.2))])), (1, (.box [z1, z1, z1, z1]))]⟩ (T2 Tt) [] [0, 2, 3, 8] [0, 1] ⟨tr, tr, tr⟩ ?_
  rcases ite2_cases h with ⟨b3, h⟩ | ⟨b3, h⟩
  · refine AW.cond_t rfl b3 ?_
    refine AW.sC (Tt ∧ Tt) [] [0, 2, 3, 4] [0, 1] ⟨tr, tr⟩ ?_
    refine AW.seq ?_
    let z2 := Fl.mk (k := .f32) 1065353216 (by decide)
    let z12 := vc (.flt .f32 z2.bits)
    refine AW.sA ⟨[(0, (vp 0 0)), (2, (vp 1 0)), (3, (vI v1.1)), (4, z12), (10, (vB (decide (v1.1 ≥ (4 : Int)))))], [(0, (.box [(.fx 0 0 z4), (cI v1.2.1), (.c (.int .u64 v1.2.2))])), (1, (.box [z1, z1, z1, z1]))]⟩ (T2 Tt) [] [0, 2, 3, 4, 10] [0, 1] ⟨tr, tr, tr⟩ ?_
    rcases ite2_cases h with ⟨b4, h⟩ | ⟨b4, h⟩
    · refine AW.cond_t rfl b4 ?_
      refine AW.tC (Tt ∧ Tt) [] [0, 2, 3, 4] [0, 1] ⟨tr, tr⟩ ?_
      refine AW.seq ?_
      refine AW.seq ?_
      obtain ⟨c5, h⟩ := chk_some h
      let z3 := Fl.mk (k := .f32) 3212836864 (by decide)
      let z10 := v1.1.tmod (4 : Int)
      let z13 := vc (.flt .f32 z3.bits)
      refine AW.tA ⟨[(0, (vp 0 0)), (2, (vp 1 0)), (4, z13), (12, (vI z10))], [(0, (.box [(.fx 0 0 z4), (cI v1.2.1), (.c (.int .u64 v1.2.2))])), (1, (.box [z1, z1, z1, z1]))]⟩ (Tt ∧ ((4 : Int) ≠ 0) ∧ Tt) [] [0, 2, 4, 12] [0, 1] ⟨tr, c5, tr⟩ ?_
      refine AW.block ?_
      refine AW.sA ⟨[(0, (vp 0 0)), (2, (vp 1 0)), (4, z13), (12, (vI z10)), (13, (vB (z10 == (0 : Int))))], [(0, (.box [(.fx 0 0 z4), (cI v1.2.1), (.c (.int .u64 v1.2.2))])), (1, (.box [z1, z1, z1, z1]))]⟩ (T2 Tt) [] [0, 2, 4, 12, 13] [0, 1] ⟨tr, tr, tr⟩ ?_
      rcases ite2_cases h with ⟨b6, h⟩ | ⟨b6, h⟩
      · refine AW.cond_t rfl b6 ?_
        refine AW.sA ⟨[(0, (vp 0 0)), (2, (vp 1 0))], [(0, (.box [(.fx 0 0 z4), (cI v1.2.1), (.c (.int .u64 v1.2.2))])), (1, (.box [(cF z3), z1, z1, z1]))]⟩ (Tt ∧ T2 Tt) [] [0, 2] [0, 1] ⟨tr, tr, tr, tr⟩ ?_
        refine AW.ret ?_
        refine blockQ_ret ?_
        refine thenQ_ret ?_
        refine thenQ_ret ?_
        replace h := some_eq h
        subst h
        exact ⟨.inr rfl, retOK_of [(.agg [(cF z3), z1, z1, z1])] (by kernel_rfl) ⟨⟨⟨rfl, tr⟩, ⟨rfl, tr⟩, ⟨rfl, tr⟩, ⟨rfl, tr⟩, tr⟩, tr⟩ (of_decide_eq_true (by kernel_rfl)), by kernel_rfl, ⟨⟨rfl, ⟨⟨rfl, rfl⟩, ⟨rfl, rfl⟩, ⟨rfl, rfl⟩, tr⟩⟩, tr⟩⟩
      · refine AW.cond_f rfl b6 ?_
        refine AW.sA ⟨[(0, (vp 0 0)), (2, (vp 1 0)), (4, z13), (12, (vI z10)), (17, (vB (z10 == (1 : Int))))], [(0, (.box [(.fx 0 0 z4), (cI v1.2.1), (.c (.int .u64 v1.2.2))])), (1, (.box [z1, z1, z1, z1]))]⟩ (T2 Tt) [] [0, 2, 4, 12, 17] [0, 1] ⟨tr, tr, tr⟩ ?_
        rcases ite2_cases h with ⟨b7, h⟩ | ⟨b7, h⟩
        · refine AW.cond_t rfl b7 ?_
          refine AW.sA ⟨[(0, (vp 0 0)), (2, (vp 1 0))], [(0, (.box [(.fx 0 0 z4), (cI v1.2.1), (.c (.int .u64 v1.2.2))])), (1, (.box [z1, (cF z3), z1, z1]))]⟩ (Tt ∧ T2 Tt) [] [0, 2] [0, 1] ⟨tr, tr, tr, tr⟩ ?_
          refine AW.ret ?_
          refine blockQ_ret ?_
          refine thenQ_ret ?_
          refine thenQ_ret ?_
          replace h := some_eq h
          subst h
          exact ⟨.inr rfl, retOK_of [(.agg [z1, (cF z3), z1, z1])] (by kernel_rfl) ⟨⟨⟨rfl, tr⟩, ⟨rfl, tr⟩, ⟨rfl, tr⟩, ⟨rfl, tr⟩, tr⟩, tr⟩ (of_decide_eq_true (by kernel_rfl)), by kernel_rfl, ⟨⟨rfl, ⟨⟨rfl, rfl⟩, ⟨rfl, rfl⟩, ⟨rfl, rfl⟩, tr⟩⟩, tr⟩⟩
        · refine AW.cond_f rfl b7 ?_
          refine AW.sA ⟨[(0, (vp 0 0)), (2, (vp 1 0)), (4, z13), (21, (vB (z10 == (2 : Int))))], [(0, (.box [(.fx 0 0 z4), (cI v1.2.1), (.c (.int .u64 v1.2.2))])), (1, (.box [z1, z1, z1, z1]))]⟩ (T2 Tt) [] [0, 2, 4, 21] [0, 1] ⟨tr, tr, tr⟩ ?_
          rcases ite2_cases h with ⟨b8, h⟩ | ⟨b8, h⟩
          · refine AW.cond_t rfl b8 ?_
            refine AW.sA ⟨[(0, (vp 0 0)), (2, (vp 1 0))], [(0, (.box [(.fx 0 0 z4), (cI v1.2.1), (.c (.int .u64 v1.2.2))])), (1, (.box [z1, z1, (cF z3), z1]))]⟩ (Tt ∧ T2 Tt) [] [0, 2] [0, 1] ⟨tr, tr, tr, tr⟩ ?_
            refine AW.ret ?_
            refine blockQ_ret ?_
            refine thenQ_ret ?_
            refine thenQ_ret ?_
            replace h := some_eq h
            subst h
            exact ⟨.inr rfl, retOK_of [(.agg [z1, z1, (cF z3), z1])] (by kernel_rfl) ⟨⟨⟨rfl, tr⟩, ⟨rfl, tr⟩, ⟨rfl, tr⟩, ⟨rfl, tr⟩, tr⟩, tr⟩ (of_decide_eq_true (by kernel_rfl)), by kernel_rfl, ⟨⟨rfl, ⟨⟨rfl, rfl⟩, ⟨rfl, rfl⟩, ⟨rfl, rfl⟩, tr⟩⟩, tr⟩⟩
          · refine AW.cond_f rfl b8 ?_
            refine AW.skip ?_
            refine blockQ_normal ?_
            refine thenQ_normal ?_
            refine AW.sA ⟨[(0, (vp 0 0)), (2, (vp 1 0))], [(0, (.box [(.fx 0 0 z4), (cI v1.2.1), (.c (.int .u64 v1.2.2))])), (1, (.box [z1, z1, z1, (cF z3)]))]⟩ (Tt ∧ T2 Tt) [] [0, 2] [0, 1] ⟨tr, tr, tr, tr⟩ ?_
            refine AW.ret ?_
            refine thenQ_ret ?_
            replace h := some_eq h
            subst h
            exact ⟨.inr rfl, retOK_of [(.agg [z1, z1, z1, (cF z3)])] (by kernel_rfl) ⟨⟨⟨rfl, tr⟩, ⟨rfl, tr⟩, ⟨rfl, tr⟩, ⟨rfl, tr⟩, tr⟩, tr⟩ (of_decide_eq_true (by kernel_rfl)), by kernel_rfl, ⟨⟨rfl, ⟨⟨rfl, rfl⟩, ⟨rfl, rfl⟩, ⟨rfl, rfl⟩, tr⟩⟩, tr⟩⟩
    · refine AW.cond_f rfl b4 ?_
      refine AW.skip ?_
      refine thenQ_normal ?_
      refine AW.seq ?_
      refine AW.seq ?_
      obtain ⟨c9, h⟩ := chk_some h
      let z11 := v1.1.tmod (4 : Int)
      refine AW.tA ⟨[(0, (vp 0 0)), (2, (vp 1 0)), (4, z12), (12, (vI z11))], [(0, (.box [(.fx 0 0 z4), (cI v1.2.1), (.c (.int .u64 v1.2.2))])), (1, (.box [z1, z1, z1, z1]))]⟩ (Tt ∧ ((4 : Int) ≠ 0) ∧ Tt) [] [0, 2, 4, 12] [0, 1] ⟨tr, c9, tr⟩ ?_
      refine AW.block ?_
      refine AW.sA ⟨[(0, (vp 0 0)), (2, (vp 1 0)), (4, z12), (12, (vI z11)), (13, (vB (z11 == (0 : Int))))], [(0, (.box [(.fx 0 0 z4), (cI v1.2.1), (.c (.int .u64 v1.2.2))])), (1, (.box [z1, z1, z1, z1]))]⟩ (T2 Tt) [] [0, 2, 4, 12, 13] [0, 1] ⟨tr, tr, tr⟩ ?_
      rcases ite2_cases h with ⟨b10, h⟩ | ⟨b10, h⟩
      · refine AW.cond_t rfl b10 ?_
        refine AW.sA ⟨[(0, (vp 0 0)), (2, (vp 1 0))], [(0, (.box [(.fx 0 0 z4), (cI v1.2.1), (.c (.int .u64 v1.2.2))])), (1, (.box [(cF z2), z1, z1, z1]))]⟩ (Tt ∧ T2 Tt) [] [0, 2] [0, 1] ⟨tr, tr, tr, tr⟩ ?_
        refine AW.ret ?_
        refine blockQ_ret ?_
        refine thenQ_ret ?_
        refine thenQ_ret ?_
        replace h := some_eq h
        subst h
        exact ⟨.inr rfl, retOK_of [(.agg [(cF z2), z1, z1, z1])] (by kernel_rfl) ⟨⟨⟨rfl, tr⟩, ⟨rfl, tr⟩, ⟨rfl, tr⟩, ⟨rfl, tr⟩, tr⟩, tr⟩ (of_decide_eq_true (by kernel_rfl)), by kernel_rfl, ⟨⟨rfl, ⟨⟨rfl, rfl⟩, ⟨rfl, rfl⟩, ⟨rfl, rfl⟩, tr⟩⟩, tr⟩⟩
      · refine AW.cond_f rfl b10 ?_
        refine AW.sA ⟨[(0, (vp 0 0)), (2, (vp 1 0)), (4, z12), (12, (vI z11)), (17, (vB (z11 == (1 : Int))))], [(0, (.box [(.fx 0 0 z4), (cI v1.2.1), (.c (.int .u64 v1.2.2))])), (1, (.box [z1, z1, z1, z1]))]⟩ (T2 Tt) [] [0, 2, 4, 12, 17] [0, 1] ⟨tr, tr, tr⟩ ?_
        rcases ite2_cases h with ⟨b11, h⟩ | ⟨b11, h⟩
        · refine AW.cond_t rfl b11 ?_
          refine AW.sA ⟨[(0, (vp 0 0)), (2, (vp 1 0))], [(0, (.box [(.fx 0 0 z4), (cI v1.2.1), (.c (.int .u64 v1.2.2))])), (1, (.box [z1, (cF z2), z1, z1]))]⟩ (Tt ∧ T2 Tt) [] [0, 2] [0, 1] ⟨tr, tr, tr, tr⟩ ?_
          refine AW.ret ?_
          refine blockQ_ret ?_
          refine thenQ_ret ?_
          refine thenQ_ret ?_
          replace h := some_eq h
          subst h
          exact ⟨.inr rfl, retOK_of [(.agg [z1, (cF z2), z1, z1])] (by kernel_rfl) ⟨⟨⟨rfl, tr⟩, ⟨rfl, tr⟩, ⟨rfl, tr⟩, ⟨rfl, tr⟩, tr⟩, tr⟩ (of_decide_eq_true (by kernel_rfl)), by kernel_rfl, ⟨⟨rfl, ⟨⟨rfl, rfl⟩, ⟨rfl, rfl⟩, ⟨rfl, rfl⟩, tr⟩⟩, tr⟩⟩
        · refine AW.cond_f rfl b11 ?_
          refine AW.sA ⟨[(0, (vp 0 0)), (2, (vp 1 0)), (4, z12), (21, (vB (z11 == (2 : Int))))], [(0, (.box [(.fx 0 0 z4), (cI v1.2.1), (.c (.int .u64 v1.2.2))])), (1, (.box [z1, z1, z1, z1]))]⟩ (T2 Tt) [] [0, 2, 4, 21] [0, 1] ⟨tr, tr, tr⟩ ?_
          rcases ite2_cases h with ⟨b12, h⟩ | ⟨b12, h⟩
          · refine AW.cond_t rfl b12 ?_
            refine AW.sA ⟨[(0, (vp 0 0)), (2, (vp 1 0))], [(0, (.box [(.fx 0 0 z4), (cI v1.2.1), (.c (.int .u64 v1.2.2))])), (1, (.box [z1, z1, (cF z2), z1]))]⟩ (Tt ∧ T2 Tt) [] [0, 2] [0, 1] ⟨tr, tr, tr, tr⟩ ?_
            refine AW.ret ?_
            refine blockQ_ret ?_
            refine thenQ_ret ?_
            refine thenQ_ret ?_
            replace h := some_eq h
            subst h
            exact ⟨.inr rfl, retOK_of [(.agg [z1, z1, (cF z2), z1])] (by kernel_rfl) ⟨⟨⟨rfl, tr⟩, ⟨rfl, tr⟩, ⟨rfl, tr⟩, ⟨rfl, tr⟩, tr⟩, tr⟩ (of_decide_eq_true (by kernel_rfl)), by kernel_rfl, ⟨⟨rfl, ⟨⟨rfl, rfl⟩, ⟨rfl, rfl⟩, ⟨rfl, rfl⟩, tr⟩⟩, tr⟩⟩
          · refine AW.cond_f rfl b12 ?_
            refine AW.skip ?_
            refine blockQ_normal ?_
            refine thenQ_normal ?_
            refine AW.sA ⟨[(0, (vp 0 0)), (2, (vp 1 0))], [(0, (.box [(.fx 0 0 z4), (cI v1.2.1), (.c (.int .u64 v1.2.2))])), (1, (.box [z1, z1, z1, (cF z2)]))]⟩ (Tt ∧ T2 Tt) [] [0, 2] [0, 1] ⟨tr, tr, tr, tr⟩ ?_
            refine AW.ret ?_
            refine thenQ_ret ?_
            replace h := some_eq h
            subst h
            exact ⟨.inr rfl, retOK_of [(.agg [z1, z1, z1, (cF z2)])] (by kernel_rfl) ⟨⟨⟨rfl, tr⟩, ⟨rfl, tr⟩, ⟨rfl, tr⟩, ⟨rfl, tr⟩, tr⟩, tr⟩ (of_decide_eq_true (by kernel_rfl)), by kernel_rfl, ⟨⟨rfl, ⟨⟨rfl, rfl⟩, ⟨rfl, rfl⟩, ⟨rfl, rfl⟩, tr⟩⟩, tr⟩⟩
  · refine AW.cond_f rfl b3 ?_
    refine AW.skip ?_
    refine thenQ_normal ?_
    refine AW.sC (Tt ∧ T2 Tt) [] [0, 2, 3] [0, 1] ⟨tr, tr, tr, tr⟩ ?_
    refine AW.seq ?_
    obtain ⟨c13, h⟩ := chk_some h
    obtain ⟨c14, h⟩ := chk_some h
    obtain ⟨c15, h⟩ := chk_some h
    let z5 := Fl.mk (k := .f32) 1056964608 (by decide)
    let z6 := IntKind.i64.wrap (v1.1 - (8 : Int))
    let z15 := IntKind.bits .i64
    let z7 := cF ((Fl.ofInt .f32 (bits .and .i64 (z6.fdiv (2 ^ (min (1 : Int).toNat z15))) (1 : Int))).sub z5)
    let z8 := cF ((Fl.ofInt .f32 (bits .and .i64 (z6.fdiv (2 ^ (min (2 : Int).toNat z15))) (1 : Int))).sub z5)
    let z9 := cF ((Fl.ofInt .f32 (bits .and .i64 (z6.fdiv (2 ^ (min (3 : Int).toNat z15))) (1 : Int))).sub z5)
    let z14 := cF ((Fl.ofInt .f32 (bits .and .i64 z6 (1 : Int))).sub z5)
    refine AW.tA ⟨[(0, (vp 0 0)), (2, (vp 1 0))], [(0, (.box [(.fx 0 0 z4), (cI v1.2.1), (.c (.int .u64 v1.2.2))])), (1, (.box [z14, z7, z8, z9]))]⟩ (Tt ∧ T4 ((0 ≤ (1 : Int)) ∧ T4 ((0 ≤ (2 : Int)) ∧ T4 ((0 ≤ (3 : Int)) ∧ Tt ∧ T4 Tt)))) [] [0, 2] [0, 1] ⟨tr, tr, tr, tr, tr, c13, tr, tr, tr, tr, c14, tr, tr, tr, tr, c15, tr, tr, tr, tr, tr, tr⟩ ?_
    refine AW.ret ?_
    replace h := some_eq h
    subst h
    exact ⟨.inr rfl, retOK_of [(.agg [z14, z7, z8, z9])] (by kernel_rfl) ⟨⟨⟨rfl, tr⟩, ⟨rfl, tr⟩, ⟨rfl, tr⟩, ⟨rfl, tr⟩, tr⟩, tr⟩ (of_decide_eq_true (by kernel_rfl)), by kernel_rfl, ⟨⟨rfl, ⟨⟨rfl, rfl⟩, ⟨rfl, rfl⟩, ⟨rfl, rfl⟩, tr⟩⟩, tr⟩⟩

/-! spec.l02Inner -/
def spec_l02Inner (_K : Nat) (a0 : Turn) (a1 : Turn) : Option (F32) :=
  some ((((a0.W.mul a1.W).add (a0.X.mul a1.X)).add (a0.Y.mul a1.Y)).add (a0.Z.mul a1.Z))

theorem ok_spec_l02Inner (K : Nat) (a0 : Turn) (a1 : Turn) (o : (F32)) (h : spec_l02Inner K a0 a1 = some o) : CallOK Try.prog 83 [.agg (cs_Turn a0), .agg (cs_Turn a1)] [.one (.flt .f32 o.bits)] := by
  refine callOK_of_AW Try.func83 rfl (by kernel_rfl) (Nat.le_of_ble_eq_true (by kernel_rfl)) ?_
  intro w0
  unfold spec_l02Inner at h
  refine AW.sC (Tt ∧ T2 Tt) [.box 1, .box 2] [2, 3] [1, 2] ⟨tr, tr, tr, tr⟩ ?_
  refine AW.sC (T4 (T4 (T4 Tt))) [] [2, 3, 5] [1, 2] ⟨tr, tr, tr, tr, tr, tr, tr, tr, tr, tr, tr, tr, tr⟩ ?_
  refine AW.sC (T4 (T4 Tt)) [] [2, 3, 5] [1, 2] ⟨tr, tr, tr, tr, tr, tr, tr, tr, tr⟩ ?_
  let z1 := (((a0.W.mul a1.W).add (a0.X.mul a1.X)).add (a0.Y.mul a1.Y)).add (a0.Z.mul a1.Z)
  refine AW.sA ⟨[(4, (vc (.flt .f32 z1.bits)))], []⟩ (T4 (T4 Tt)) [] [4] [] ⟨tr, tr, tr, tr, tr, tr, tr, tr, tr⟩ ?_
  refine AW.ret ?_
  replace h := some_eq h
  subst h
  exact ⟨.inr rfl, retOK_of [(.one (cF z1))] (by kernel_rfl) ⟨⟨rfl, tr⟩, tr⟩ (of_decide_eq_true (by kernel_rfl))⟩

/-! math.sqrt -/
def math_sqrt (_K : Nat) (a0 : F64) : Option (F64) :=
  some a0.sqrt

theorem ok_math_sqrt (K : Nat) (a0 : F64) (o : F64) (h : math_sqrt K a0 = some o) : CallOK Try.prog 101 [.one (.flt .f64 a0.bits)] [.one (.flt .f64 o.bits)] :=
  hand_sqrt (e := Extern.MathSqrt.sqrt) Try.func101 (by kernel_rfl) (by kernel_rfl) (by kernel_rfl) (by kernel_rfl) (fun _ => rfl) a0 o h

/-! math.Sqrt -/
def math_Sqrt (K : Nat) (a0 : F64) : Option (F64) :=
  (math_sqrt K a0).bind fun v1 => some v1

theorem ok_math_Sqrt (K : Nat) (a0 : F64) (o : (F64)) (h : math_Sqrt K a0 = some o) : CallOK Try.prog 97 [.one (.flt .f64 a0.bits)] [.one (.flt .f64 o.bits)] := by
  refine callOK_of_AW Try.func97 rfl (by kernel_rfl) (Nat.le_of_ble_eq_true (by kernel_rfl)) ?_
  intro w0
  unfold math_Sqrt at h
  refine AW.sC (Tt ∧ Tt) [] [0] [] ⟨tr, tr⟩ ?_
  refine AW.seq ?_
  obtain ⟨v1, e2, h⟩ := bind_some h
  refine AW.tA ⟨[(2, (vc (.flt .f64 v1.bits)))], []⟩ (Tt ∧ (((Eqc (.flt .f64 a0.bits)) ∧ Tt) ∧ CallOK Try.prog 101 [.one (.flt .f64 a0.bits)] [.one (.flt .f64 v1.bits)]) ∧ Tt ∧ Tt) [.no, .call [.one (.flt .f64 a0.bits)] [.one (.flt .f64 v1.bits)] [[.view]]] [2] [] ⟨tr, ⟨⟨rfl, tr⟩, ok_math_sqrt K a0 v1 e2⟩, tr, tr⟩ ?_
  refine AW.ret ?_
  replace h := some_eq h
  subst h
  exact ⟨.inr rfl, retOK_of [(.one (.c (.flt .f64 v1.bits)))] (by kernel_rfl) ⟨⟨rfl, tr⟩, tr⟩ (of_decide_eq_true (by kernel_rfl))⟩

/-! spec.l01Narrow -/
def spec_l01Narrow (_K : Nat) (a0 : F64) : Option (F32) :=
  chk ((convBits .f64 a0.bits .f32).isSome = true) (some (Fl.cv .f64 .f32 a0))

theorem ok_spec_l01Narrow (K : Nat) (a0 : F64) (o : (F32)) (h : spec_l01Narrow K a0 = some o) : CallOK Try.prog 96 [.one (.flt .f64 a0.bits)] [.one (.flt .f32 o.bits)] := by
  refine callOK_of_AW Try.func96 rfl (by kernel_rfl) (Nat.le_of_ble_eq_true (by kernel_rfl)) ?_
  intro w0
  unfold spec_l01Narrow at h
  refine AW.sC (Tt ∧ Tt) [] [0] [] ⟨tr, tr⟩ ?_
  refine AW.seq ?_
  obtain ⟨c1, h⟩ := chk_some h
  refine AW.tA ⟨[(2, (vc (.flt .f32 (Fl.cv .f64 .f32 a0).bits)))], []⟩ (Tt ∧ ((convBits .f64 a0.bits .f32).isSome = true) ∧ Tt ∧ Tt) [] [2] [] ⟨tr, c1, tr, tr⟩ ?_
  refine AW.ret ?_
  replace h := some_eq h
  subst h
  exact ⟨.inr rfl, retOK_of [(.one (cF (Fl.cv .f64 .f32 a0)))] (by kernel_rfl) ⟨⟨rfl, tr⟩, tr⟩ (of_decide_eq_true (by kernel_rfl))⟩

/-! spec.l01Sqrt -/
def spec_l01Sqrt (K : Nat) (a0 : F32) : Option (F32) :=
  (math_Sqrt K (Fl.cv .f32 .f64 a0)).bind fun v1 => (spec_l01Narrow K v1).bind fun v3 => some v3

theorem ok_spec_l01Sqrt (K : Nat) (a0 : F32) (o : (F32)) (h : spec_l01Sqrt K a0 = some o) : CallOK Try.prog 82 [.one (.flt .f32 a0.bits)] [.one (.flt .f32 o.bits)] := by
  refine callOK_of_AW Try.func82 rfl (by kernel_rfl) (Nat.le_of_ble_eq_true (by kernel_rfl)) ?_
  intro w0
  unfold spec_l01Sqrt at h
  refine AW.sC (Tt ∧ Tt) [] [0] [] ⟨tr, tr⟩ ?_
  refine AW.seq ?_
  obtain ⟨v1, e2, h⟩ := bind_some h
  obtain ⟨v3, e4, h⟩ := bind_some h
  let z1 : List CT := [.one (.flt .f64 v1.bits)]
  let z2 := Fl.cv .f32 .f64 a0
  refine AW.tA ⟨[(2, (vc (.flt .f32 v3.bits)))], []⟩ (Tt ∧ ((convBits .f32 a0.bits .f64).isSome = true) ∧ (((Eqc (.flt .f64 z2.bits)) ∧ Tt) ∧ CallOK Try.prog 97 [.one (.flt .f64 z2.bits)] z1) ∧ (((Eqc (.flt .f64 v1.bits)) ∧ Tt) ∧ CallOK Try.prog 96 z1 [.one (.flt .f32 v3.bits)]) ∧ Tt ∧ Tt) [.no, .no, .call [.one (.flt .f64 z2.bits)] z1 [[.view]], .call z1 [.one (.flt .f32 v3.bits)] [[.view]]] [2] [] ⟨tr, cv_wide a0, ⟨⟨rfl, tr⟩, ok_math_Sqrt K z2 v1 e2⟩, ⟨⟨rfl, tr⟩, ok_spec_l01Narrow K v1 v3 e4⟩, tr, tr⟩ ?_
  refine AW.ret ?_
  replace h := some_eq h
  subst h
  exact ⟨.inr rfl, retOK_of [(.one (cF v3))] (by kernel_rfl) ⟨⟨rfl, tr⟩, tr⟩ (of_decide_eq_true (by kernel_rfl))⟩

/-! spec.l01Finite -/
def spec_l01Finite (_K : Nat) (a0 : F32) : Option (Bool) :=
  some ((a0.sub a0).eq (Fl.mk (k := .f32) 0 (by decide)))

theorem ok_spec_l01Finite (K : Nat) (a0 : F32) (o : (Bool)) (h : spec_l01Finite K a0 = some o) : CallOK Try.prog 84 [.one (.flt .f32 a0.bits)] [.one (.bool o)] := by
  refine callOK_of_AW Try.func84 rfl (by kernel_rfl) (Nat.le_of_ble_eq_true (by kernel_rfl)) ?_
  intro w0
  unfold spec_l01Finite at h
  refine AW.sC (Tt ∧ Tt) [] [0] [] ⟨tr, tr⟩ ?_
  let z1 := (a0.sub a0).eq (Fl.mk (k := .f32) 0 (by decide))
  refine AW.sA ⟨[(2, (vB z1))], []⟩ (Tt ∧ T4 Tt) [] [2] [] ⟨tr, tr, tr, tr, tr, tr⟩ ?_
  refine AW.ret ?_
  replace h := some_eq h
  subst h
  exact ⟨.inr rfl, retOK_of [(.one (.c (.bool z1)))] (by kernel_rfl) ⟨⟨rfl, tr⟩, tr⟩ (of_decide_eq_true (by kernel_rfl))⟩

/-! spec.l02No -/
def spec_l02No (_K : Nat) : Option (Turn) :=
  some (Turn.mk (Fl.mk (k := .f32) 1065353216 (by decide)) (default : F32) (default : F32) (default : F32))

theorem ok_spec_l02No (K : Nat) (o : (Turn)) (h : spec_l02No K  = some o) : CallOK Try.prog 85 [] [.agg (cs_Turn o)] := by
  refine callOK_of_AW Try.func85 rfl (by kernel_rfl) (Nat.le_of_ble_eq_true (by kernel_rfl)) ?_
  intro w0
  unfold spec_l02No at h
  refine AW.sC (Tt ∧ Tt) [.box 1] [0] [1] ⟨tr, tr⟩ ?_
  let z1 := cF (default : F32)
  let z2 := cF (Fl.mk (k := .f32) 1065353216 (by decide))
  refine AW.sA ⟨[(0, (vp 1 0))], [(1, (.box [z2, z1, z1, z1]))]⟩ (T2 Tt) [] [0] [1] ⟨tr, tr, tr⟩ ?_
  refine AW.ret ?_
  replace h := some_eq h
  subst h
  exact ⟨.inr rfl, retOK_of [(.agg [z2, z1, z1, z1])] (by kernel_rfl) ⟨⟨⟨rfl, tr⟩, ⟨rfl, tr⟩, ⟨rfl, tr⟩, ⟨rfl, tr⟩, tr⟩, tr⟩ (of_decide_eq_true (by kernel_rfl))⟩

/-! spec.l02Mend -/
def spec_l02Mend (K : Nat) (a0 : Turn) : Option (Turn) :=
  (spec_l02Inner K a0 a0).bind fun v1 => (spec_l01Sqrt K v1).bind fun v3 => (ite2 ((v3.eq (Fl.mk (k := .f32) 0 (by decide)))) (some true) ((spec_l01Finite K v3).bind fun v6 => some (!v6))).bind fun j8 => ite2 (j8) ((spec_l02No K ).bind fun v11 => some v11) (some (Turn.mk (a0.W.div v3) (a0.X.div v3) (a0.Y.div v3) (a0.Z.div v3)))

theorem ok_spec_l02Mend (K : Nat) (a0 : Turn) (o : (Turn)) (h : spec_l02Mend K a0 = some o) : CallOK Try.prog 65 [.agg (cs_Turn a0)] [.agg (cs_Turn o)] := by
  refine callOK_of_AW Try.func65 rfl (by kernel_rfl) (Nat.le_of_ble_eq_true (by kernel_rfl)) ?_
  intro w0
  unfold spec_l02Mend at h
  refine AW.sC (T2 Tt) [.box 1, .box 2] [1, 2] [1, 2] ⟨tr, tr, tr⟩ ?_
  refine AW.seq ?_
  obtain ⟨v1, e2, h⟩ := bind_some h
  obtain ⟨v3, e4, h⟩ := bind_some h
  let z1 := cF (default : F32)
  let z2 := vc (.flt .f32 v3.bits)
  let z3 : List CT := [.one (.flt .f32 v1.bits)]
  let z4 : List CT := [.one (.flt .f32 v3.bits)]
  let z5 := (eF a0.W) ∧ (eF a0.X) ∧ (eF a0.Y) ∧ (eF a0.Z) ∧ Tt
  let z6 : List CT := [.agg (cs_Turn a0), .agg (cs_Turn a0)]
  refine AW.tA ⟨[(1, (vp 1 0)), (2, (vp 2 0)), (3, z2)], [(1, (.box [(cF a0.W), (cF a0.X), (cF a0.Y), (cF a0.Z)])), (2, (.box [z1, z1, z1, z1]))]⟩ (T2 (((z5 ∧ z5 ∧ Tt) ∧ CallOK Try.prog 83 z6 z3) ∧ (((eF v1) ∧ Tt) ∧ CallOK Try.prog 82 z3 z4) ∧ Tt ∧ Tt)) [.no, .no, .call z6 z3 [[.view]], .call z3 z4 [[.view]]] [1, 2, 3] [1, 2] ⟨tr, tr, ⟨⟨⟨rfl, rfl, rfl, rfl, tr⟩, ⟨rfl, rfl, rfl, rfl, tr⟩, tr⟩, ok_spec_l02Inner K a0 a0 v1 e2⟩, ⟨⟨rfl, tr⟩, ok_spec_l01Sqrt K v1 v3 e4⟩, tr, tr⟩ ?_
  refine AW.seq ?_
  refine AW.seq ?_
  obtain ⟨j8, e9, h⟩ := bind_some h
  refine AW.join1 (s2 := ⟨[(1, (vp 1 0)), (2, (vp 2 0)), (3, z2), (14, (vB j8))], [(1, (.box [(cF a0.W), (cF a0.X), (cF a0.Y), (cF a0.Z)])), (2, (.box [z1, z1, z1, z1]))]⟩) ?_ ?_
  · rcases ite2_cases e9 with ⟨b5, e9⟩ | ⟨b5, e9⟩
    · replace e9 := some_eq e9
      subst e9
      exact AW.rA ⟨[(1, (vp 1 0)), (2, (vp 2 0)), (3, z2), (14, (vB true))], [(1, (.box [(cF a0.W), (cF a0.X), (cF a0.Y), (cF a0.Z)])), (2, (.box [z1, z1, z1, z1]))]⟩ (T2 ((Tt ∧ (v3.eq (Fl.mk (k := .f32) 0 (by decide))) = true) ∧ T4 Tt)) [.no, .no, .dec true] [1, 2, 3, 14] [1, 2] ⟨tr, tr, ⟨tr, b5⟩, tr, tr, tr, tr, tr⟩ ⟨rfl, rfl⟩
    · obtain ⟨v6, e7, e9⟩ := bind_some e9
      replace e9 := some_eq e9
      subst e9
      exact AW.rA ⟨[(1, (vp 1 0)), (2, (vp 2 0)), (3, z2), (14, (vB (!v6)))], [(1, (.box [(cF a0.W), (cF a0.X), (cF a0.Y), (cF a0.Z)])), (2, (.box [z1, z1, z1, z1]))]⟩ (T2 ((Tt ∧ (v3.eq (Fl.mk (k := .f32) 0 (by decide))) = false) ∧ Tt ∧ (((eF v3) ∧ Tt) ∧ CallOK Try.prog 84 z4 [.one (.bool v6)]) ∧ T2 Tt)) [.no, .no, .dec false, .no, .call z4 [.one (.bool v6)] [[.view]]] [1, 2, 3, 14] [1, 2] ⟨tr, tr, ⟨tr, b5⟩, tr, ⟨⟨rfl, tr⟩, ok_spec_l01Finite K v3 v6 e7⟩, tr, tr, tr⟩ ⟨rfl, rfl⟩
  refine thenQ_normal ?_
  rcases ite2_cases h with ⟨b10, h⟩ | ⟨b10, h⟩
  · refine AW.cond_t rfl b10 ?_
    refine AW.seq ?_
    obtain ⟨v11, e12, h⟩ := bind_some h
    refine AW.tA ⟨[(2, (vp 2 0))], [(2, (.box [(cF v11.W), (cF v11.X), (cF v11.Y), (cF v11.Z)]))]⟩ (((Tt) ∧ CallOK Try.prog 85 [] [.agg (cs_Turn v11)]) ∧ Tt ∧ Tt) [.call [] [.agg (cs_Turn v11)] [[.view, .view, .view, .view]]] [2] [2] ⟨⟨tr, ok_spec_l02No K v11 e12⟩, tr, tr⟩ ?_
    refine AW.ret ?_
    refine thenQ_ret ?_
    replace h := some_eq h
    subst h
    exact ⟨.inr rfl, retOK_of [(.agg [(cF v11.W), (cF v11.X), (cF v11.Y), (cF v11.Z)])] (by kernel_rfl) ⟨⟨⟨rfl, tr⟩, ⟨rfl, tr⟩, ⟨rfl, tr⟩, ⟨rfl, tr⟩, tr⟩, tr⟩ (of_decide_eq_true (by kernel_rfl))⟩
  · refine AW.cond_f rfl b10 ?_
    refine AW.skip ?_
    refine thenQ_normal ?_
    refine AW.sA ⟨[(2, (vp 2 0))], [(2, (.box [(cF (a0.W.div v3)), (cF (a0.X.div v3)), (cF (a0.Y.div v3)), (cF (a0.Z.div v3))]))]⟩ (T2 (T4 (T4 (T4 (T4 Tt))))) [] [2] [2] ⟨tr, tr, tr, tr, tr, tr, tr, tr, tr, tr, tr, tr, tr, tr, tr, tr, tr, tr, tr⟩ ?_
    refine AW.ret ?_
    replace h := some_eq h
    subst h
    exact ⟨.inr rfl, retOK_of [(.agg [(cF (a0.W.div v3)), (cF (a0.X.div v3)), (cF (a0.Y.div v3)), (cF (a0.Z.div v3))])] (by kernel_rfl) ⟨⟨⟨rfl, tr⟩, ⟨rfl, tr⟩, ⟨rfl, tr⟩, ⟨rfl, tr⟩, tr⟩, tr⟩ (of_decide_eq_true (by kernel_rfl))⟩

/-! spec.l02DrawTurn -/
def spec_l02DrawTurn (K : Nat) (a0 : l00Src) : Option (Turn × Int × Int) :=
  (spec_l00Src_one K a0 (2 : Int)).bind fun v1 => ite2 (v1.1) ((spec_l02DrawExact K (l00Src.mk a0.code v1.2.1 v1.2.2)).bind fun v4 => some (v4.1, v4.2.1, v4.2.2)) ((spec_l01DrawSmall K (l00Src.mk a0.code v1.2.1 v1.2.2)).bind fun v6 => (spec_l01DrawSmall K (l00Src.mk a0.code v6.2.1 v6.2.2)).bind fun v8 => (spec_l01DrawSmall K (l00Src.mk a0.code v8.2.1 v8.2.2)).bind fun v10 => (spec_l01DrawSmall K (l00Src.mk a0.code v10.2.1 v10.2.2)).bind fun v12 => (spec_l02Mend K (Turn.mk v6.1 v8.1 v10.1 v12.1)).bind fun v14 => some (v14, v12.2.1, v12.2.2))

theorem ok_spec_l02DrawTurn (K : Nat) (a0 : l00Src) (o : (Turn × Int × Int)) (h : spec_l02DrawTurn K a0 = some o) : MutOK Try.prog 47 [(.box 3 (fun j => [true, false, false].getD j true) (fun j => (cs_l00Src a0).getD j .nilptr) (fun j => [.nilptr, (.int .i64 o.2.1), (.int .u64 o.2.2)].getD j .nilptr))] [.agg (cs_Turn o.1)] := by
  refine mutOK_of_AW 1 Try.func47 rfl (by kernel_rfl) (Nat.le_of_ble_eq_true (by kernel_rfl)) (by kernel_rfl) (by kernel_rfl) ?_
  intro w0 K0 v0 s0
  unfold spec_l02DrawTurn at h
  let z1 := sl 1 (csI .u8) a0.code
  refine AW.weak (s' := ⟨[(0, (vp 0 0))], [(0, (.box [(.fx 0 0 z1), (cI a0.at_), (.c (.int .u64 a0.seed))]))]⟩) (subUnfx 0 [1, 2] (by kernel_rfl)) ?_
  refine AW.sC (Tt ∧ Tt) [.box 1] [0, 2] [0, 1] ⟨tr, tr⟩ ?_
  refine AW.seq ?_
  refine AW.seq ?_
  obtain ⟨v1, e2, h⟩ := bind_some h
  let z8 := cF (default : F32)
  refine AW.tA ⟨[(0, (vp 0 0)), (2, (vp 1 0)), (5, (vB v1.1))], [(0, (.box [(.fx 0 0 z1), (cI v1.2.1), (.c (.int .u64 v1.2.2))])), (1, (.box [z8, z8, z8, z8]))]⟩ (Tt ∧ ((((Eqc z1) ∧ (eI a0.at_) ∧ (Eqc (.int .u64 a0.seed)) ∧ Tt) ∧ (eI (2 : Int)) ∧ Tt) ∧ MutOK Try.prog 60 [(.box 3 (fun j => [true, false, false].getD j true) (fun j => (cs_l00Src a0).getD j .nilptr) (fun j => [.nilptr, (.int .i64 v1.2.1), (.int .u64 v1.2.2)].getD j .nilptr)), .one (.ro (.int .i64 (2 : Int)))] [.one (.bool v1.1)]) ∧ Tt) [.no, .callM [(.box 3 (fun j => [true, false, false].getD j true) (fun j => (cs_l00Src a0).getD j .nilptr) (fun j => [.nilptr, (.int .i64 v1.2.1), (.int .u64 v1.2.2)].getD j .nilptr)), .one (.ro (.int .i64 (2 : Int)))] [.one (.bool v1.1)] [[.view]] none] [0, 2, 5] [0, 1] ⟨tr, ⟨⟨⟨rfl, rfl, rfl, tr⟩, rfl, tr⟩, ok_spec_l00Src_one K a0 (2 : Int) v1 e2⟩, tr⟩ ?_
  rcases ite2_cases h with ⟨b3, h⟩ | ⟨b3, h⟩
  · refine AW.cond_t rfl b3 ?_
    refine AW.seq ?_
    obtain ⟨v4, e5, h⟩ := bind_some h
    let z3 := l00Src.mk a0.code v1.2.1 v1.2.2
    refine AW.tA ⟨[(0, (vp 0 0)), (2, (vp 1 0))], [(0, (.box [(.fx 0 0 z1), (cI v4.2.1), (.c (.int .u64 v4.2.2))])), (1, (.box [(cF v4.1.W), (cF v4.1.X), (cF v4.1.Y), (cF v4.1.Z)]))]⟩ (Tt ∧ ((((Eqc z1) ∧ (eI v1.2.1) ∧ (Eqc (.int .u64 v1.2.2)) ∧ Tt) ∧ Tt) ∧ MutOK Try.prog 64 [(.box 3 (fun j => [true, false, false].getD j true) (fun j => (cs_l00Src z3).getD j .nilptr) (fun j => [.nilptr, (.int .i64 v4.2.1), (.int .u64 v4.2.2)].getD j .nilptr))] [.agg (cs_Turn v4.1)]) ∧ Tt ∧ Tt) [.no, .callM [(.box 3 (fun j => [true, false, false].getD j true) (fun j => (cs_l00Src z3).getD j .nilptr) (fun j => [.nilptr, (.int .i64 v4.2.1), (.int .u64 v4.2.2)].getD j .nilptr))] [.agg (cs_Turn v4.1)] [[.view, .view, .view, .view]] none] [0, 2] [0, 1] ⟨tr, ⟨⟨⟨rfl, rfl, rfl, tr⟩, tr⟩, ok_spec_l02DrawExact K z3 v4 e5⟩, tr, tr⟩ ?_
    refine AW.ret ?_
    refine thenQ_ret ?_
    replace h := some_eq h
    subst h
    exact ⟨.inr rfl, retOK_of [(.agg [(cF v4.1.W), (cF v4.1.X), (cF v4.1.Y), (cF v4.1.Z)])] (by kernel_rfl) ⟨⟨⟨rfl, tr⟩, ⟨rfl, tr⟩, ⟨rfl, tr⟩, ⟨rfl, tr⟩, tr⟩, tr⟩ (of_decide_eq_true (by kernel_rfl)), by kernel_rfl, ⟨⟨rfl, ⟨⟨rfl, rfl⟩, ⟨rfl, rfl⟩, ⟨rfl, rfl⟩, tr⟩⟩, tr⟩⟩
  · refine AW.cond_f rfl b3 ?_
    refine AW.skip ?_
    refine thenQ_normal ?_
    refine AW.seq ?_
    obtain ⟨v6, e7, h⟩ := bind_some h
    let z4 := l00Src.mk a0.code v1.2.1 v1.2.2
    refine AW.tC (Tt ∧ ((((Eqc z1) ∧ (eI v1.2.1) ∧ (Eqc (.int .u64 v1.2.2)) ∧ Tt) ∧ Tt) ∧ MutOK Try.prog 62 [(.box 3 (fun j => [true, false, false].getD j true) (fun j => (cs_l00Src z4).getD j .nilptr) (fun j => [.nilptr, (.int .i64 v6.2.1), (.int .u64 v6.2.2)].getD j .nilptr))] [.one (.flt .f32 v6.1.bits)]) ∧ Tt ∧ T2 Tt) [.no, .callM [(.box 3 (fun j => [true, false, false].getD j true) (fun j => (cs_l00Src z4).getD j .nilptr) (fun j => [.nilptr, (.int .i64 v6.2.1), (.int .u64 v6.2.2)].getD j .nilptr))] [.one (.flt .f32 v6.1.bits)] [[.view]] none, .no, .box 2] [0, 2, 3] [0, 1, 2] ⟨tr, ⟨⟨⟨rfl, rfl, rfl, tr⟩, tr⟩, ok_spec_l01DrawSmall K z4 v6 e7⟩, tr, tr, tr, tr⟩ ?_
    refine AW.seq ?_
    obtain ⟨v8, e9, h⟩ := bind_some h
    let z5 := l00Src.mk a0.code v6.2.1 v6.2.2
    refine AW.tC (Tt ∧ ((((Eqc z1) ∧ (eI v6.2.1) ∧ (Eqc (.int .u64 v6.2.2)) ∧ Tt) ∧ Tt) ∧ MutOK Try.prog 62 [(.box 3 (fun j => [true, false, false].getD j true) (fun j => (cs_l00Src z5).getD j .nilptr) (fun j => [.nilptr, (.int .i64 v8.2.1), (.int .u64 v8.2.2)].getD j .nilptr))] [.one (.flt .f32 v8.1.bits)]) ∧ T2 Tt) [.no, .callM [(.box 3 (fun j => [true, false, false].getD j true) (fun j => (cs_l00Src z5).getD j .nilptr) (fun j => [.nilptr, (.int .i64 v8.2.1), (.int .u64 v8.2.2)].getD j .nilptr))] [.one (.flt .f32 v8.1.bits)] [[.view]] none] [0, 2, 3] [0, 1, 2] ⟨tr, ⟨⟨⟨rfl, rfl, rfl, tr⟩, tr⟩, ok_spec_l01DrawSmall K z5 v8 e9⟩, tr, tr, tr⟩ ?_
    refine AW.seq ?_
    obtain ⟨v10, e11, h⟩ := bind_some h
    let z6 := l00Src.mk a0.code v8.2.1 v8.2.2
    refine AW.tC (Tt ∧ ((((Eqc z1) ∧ (eI v8.2.1) ∧ (Eqc (.int .u64 v8.2.2)) ∧ Tt) ∧ Tt) ∧ MutOK Try.prog 62 [(.box 3 (fun j => [true, false, false].getD j true) (fun j => (cs_l00Src z6).getD j .nilptr) (fun j => [.nilptr, (.int .i64 v10.2.1), (.int .u64 v10.2.2)].getD j .nilptr))] [.one (.flt .f32 v10.1.bits)]) ∧ T2 Tt) [.no, .callM [(.box 3 (fun j => [true, false, false].getD j true) (fun j => (cs_l00Src z6).getD j .nilptr) (fun j => [.nilptr, (.int .i64 v10.2.1), (.int .u64 v10.2.2)].getD j .nilptr))] [.one (.flt .f32 v10.1.bits)] [[.view]] none] [0, 2, 3] [0, 1, 2] ⟨tr, ⟨⟨⟨rfl, rfl, rfl, tr⟩, tr⟩, ok_spec_l01DrawSmall K z6 v10 e11⟩, tr, tr, tr⟩ ?_
    refine AW.seq ?_
    obtain ⟨v12, e13, h⟩ := bind_some h
    let z2 := l00Src.mk a0.code v10.2.1 v10.2.2
    refine AW.tC (Tt ∧ ((((Eqc z1) ∧ (eI v10.2.1) ∧ (Eqc (.int .u64 v10.2.2)) ∧ Tt) ∧ Tt) ∧ MutOK Try.prog 62 [(.box 3 (fun j => [true, false, false].getD j true) (fun j => (cs_l00Src z2).getD j .nilptr) (fun j => [.nilptr, (.int .i64 v12.2.1), (.int .u64 v12.2.2)].getD j .nilptr))] [.one (.flt .f32 v12.1.bits)]) ∧ T2 Tt) [.no, .callM [(.box 3 (fun j => [true, false, false].getD j true) (fun j => (cs_l00Src z2).getD j .nilptr) (fun j => [.nilptr, (.int .i64 v12.2.1), (.int .u64 v12.2.2)].getD j .nilptr))] [.one (.flt .f32 v12.1.bits)] [[.view]] none] [0, 2, 3] [0, 1, 2] ⟨tr, ⟨⟨⟨rfl, rfl, rfl, tr⟩, tr⟩, ok_spec_l01DrawSmall K z2 v12 e13⟩, tr, tr, tr⟩ ?_
    refine AW.seq ?_
    obtain ⟨v14, e15, h⟩ := bind_some h
    let z7 := Turn.mk v6.1 v8.1 v10.1 v12.1
    refine AW.tA ⟨[(0, (vp 0 0)), (2, (vp 1 0))], [(0, (.box [(.fx 0 0 z1), (cI v12.2.1), (.c (.int .u64 v12.2.2))])), (1, (.box [(cF v14.W), (cF v14.X), (cF v14.Y), (cF v14.Z)]))]⟩ (Tt ∧ ((((eF v6.1) ∧ (eF v8.1) ∧ (eF v10.1) ∧ (eF v12.1) ∧ Tt) ∧ Tt) ∧ CallOK Try.prog 65 [.agg (cs_Turn z7)] [.agg (cs_Turn v14)]) ∧ Tt ∧ Tt) [.no, .call [.agg (cs_Turn z7)] [.agg (cs_Turn v14)] [[.view, .view, .view, .view]]] [0, 2] [0, 1] ⟨tr, ⟨⟨⟨rfl, rfl, rfl, rfl, tr⟩, tr⟩, ok_spec_l02Mend K z7 v14 e15⟩, tr, tr⟩ ?_
    refine AW.ret ?_
    replace h := some_eq h
    subst h
    exact ⟨.inr rfl, retOK_of [(.agg [(cF v14.W), (cF v14.X), (cF v14.Y), (cF v14.Z)])] (by kernel_rfl) ⟨⟨⟨rfl, tr⟩, ⟨rfl, tr⟩, ⟨rfl, tr⟩, ⟨rfl, tr⟩, tr⟩, tr⟩ (of_decide_eq_true (by kernel_rfl)), by kernel_rfl, ⟨⟨rfl, ⟨⟨rfl, rfl⟩, ⟨rfl, rfl⟩, ⟨rfl, rfl⟩, tr⟩⟩, tr⟩⟩

/-! spec.l03DrawPose -/
def Zt28 (Q0 Q1 Q2 : Prop) : Prop := (Q0 ∧ (Q1 ∧ (Q2 ∧ (Tt ∧ (Tt ∧ Tt)))))
theorem zt28 {Q0 Q1 Q2 : Prop} (q0 : Q0) (q1 : Q1) (q2 : Q2) : Zt28 Q0 Q1 Q2 := ⟨q0, ⟨q1, ⟨q2, ⟨tr, ⟨tr, tr⟩⟩⟩⟩⟩
def Zt29 (QE Q1 Q2 : Prop) : Prop := ((Tt ∧ (Q1 ∧ (Q2 ∧ (Tt ∧ (Tt ∧ Tt))))) ∧ (Q1 ∧ (Tt ∧ (Q2 ∧ (Tt ∧ (Tt ∧ Tt))))) ∧ QE)
theorem zt29 {QE Q1 Q2 : Prop} (qe : QE) (q1 : Q1) (q2 : Q2) : Zt29 QE Q1 Q2 := ⟨⟨tr, ⟨q1, ⟨q2, ⟨tr, ⟨tr, tr⟩⟩⟩⟩⟩, ⟨q1, ⟨tr, ⟨q2, ⟨tr, ⟨tr, tr⟩⟩⟩⟩⟩, qe⟩
def Zt30 (QE Q0 Q1 Q2 : Prop) : Prop := ((Tt ∧ (Zt28 Q0 Q1 Q2)) ∧ (Q0 ∧ (Zt29 QE Q1 Q2)) ∧ QE)
theorem zt30 {QE Q0 Q1 Q2 : Prop} (qe : QE) (q0 : Q0) (q1 : Q1) (q2 : Q2) : Zt30 QE Q0 Q1 Q2 := ⟨⟨tr, (zt28 q0 q1 q2)⟩, ⟨q0, (zt29 qe q1 q2)⟩, qe⟩
def spec_l03DrawPose_l1 (K : Nat) (a0 : l00Src) (v1 : (Vector × Int × Int)) : Nat → Int → Int → Int → (List Turn) → Option (Pose × Int × Int)
  | 0, _, _, _, _ => none
  | k + 1, x7, x8, x9, x10 => ite2 ((decide (x7 > (0 : Int)))) ((spec_l02DrawTurn K (l00Src.mk a0.code x8 x9)).bind fun v12 => chk ((x10.length + ([v12.1]).length) * 16 ≤ 140737488355328) (spec_l03DrawPose_l1 K a0 v1 k (IntKind.i64.wrap (x7 - (1 : Int))) v12.2.1 v12.2.2 (x10 ++ ([v12.1])))) (some ((Pose.mk v1.1 x10), x8, x9))

def spec_l03DrawPose (K : Nat) (a0 : l00Src) (a1 : Int) : Option (Pose × Int × Int) :=
  (spec_l01DrawVector K a0).bind fun v1 => spec_l03DrawPose_l1 K a0 v1 K a1 v1.2.1 v1.2.2 ([] : List Turn)

theorem ok_spec_l03DrawPose (K : Nat) (a0 : l00Src) (a1 : Int) (o : (Pose × Int × Int)) (h : spec_l03DrawPose K a0 a1 = some o) : MutOK Try.prog 21 [(.box 3 (fun j => [true, false, false].getD j true) (fun j => (cs_l00Src a0).getD j .nilptr) (fun j => [.nilptr, (.int .i64 o.2.1), (.int .u64 o.2.2)].getD j .nilptr)), (.one (.ro (.int .i64 a1)))] [.agg (cs_Pose o.1)] := by
  refine mutOK_of_AW 1 Try.func21 rfl (by kernel_rfl) (Nat.le_of_ble_eq_true (by kernel_rfl)) (by kernel_rfl) (by kernel_rfl) ?_
  intro w0 K0 v0 s0
  unfold spec_l03DrawPose at h
  let z2 := sl 1 (csI .u8) a0.code
  refine AW.weak (s' := ⟨[(0, (vp 0 0)), (1, (vI a1))], [(0, (.box [(.fx 0 0 z2), (cI a0.at_), (.c (.int .u64 a0.seed))]))]⟩) (subUnfx 0 [1, 2] (by kernel_rfl)) ?_
  refine AW.sC (Tt ∧ Tt) [.box 1] [0, 1, 4] [0, 1] ⟨tr, tr⟩ ?_
  refine AW.seq ?_
  obtain ⟨v1, e2, h⟩ := bind_some h
  let z1 := cF (default : F32)
  refine AW.tA ⟨[(0, (vp 0 0)), (1, (vI a1)), (4, (vp 1 0)), (5, (vp 3 0))], [(0, (.box [(.fx 0 0 z2), (cI v1.2.1), (.c (.int .u64 v1.2.2))])), (1, (.box [z1, z1, z1, .nils])), (2, (oL 4 cs_Turn ([] : List Turn))), (3, (.box [(cF v1.1.X), (cF v1.1.Y), (cF v1.1.Z), (xL 2 4 cs_Turn ([] : List Turn))]))]⟩ (Tt ∧ ((((Eqc z2) ∧ (eI a0.at_) ∧ (Eqc (.int .u64 a0.seed)) ∧ Tt) ∧ Tt) ∧ MutOK Try.prog 46 [(.box 3 (fun j => [true, false, false].getD j true) (fun j => (cs_l00Src a0).getD j .nilptr) (fun j => [.nilptr, (.int .i64 v1.2.1), (.int .u64 v1.2.2)].getD j .nilptr))] [.agg (cs_Vector v1.1)]) ∧ (([] : List Turn).length = 0 ∧ Tt) ∧ Tt ∧ T2 Tt) [.no, .callM [(.box 3 (fun j => [true, false, false].getD j true) (fun j => (cs_l00Src a0).getD j .nilptr) (fun j => [.nilptr, (.int .i64 v1.2.1), (.int .u64 v1.2.2)].getD j .nilptr))] [.agg (cs_Vector v1.1)] [[.view, .view, .view]] none, .obj 2 ([] : List Turn).length (gl cs_Turn ([] : List Turn)), .no, .box 3] [0, 1, 4, 5] [0, 1, 2, 3] ⟨tr, ⟨⟨⟨rfl, rfl, rfl, tr⟩, tr⟩, ok_spec_l01DrawVector K a0 v1 e2⟩, ⟨rfl, tr⟩, tr, tr, tr, tr⟩ ?_
  refine AW.seq ?_
  refine AW.block ?_
  refine AW.loopQ (σ := Nat × Int × Int × Int × (List Turn)) (fun p => ⟨[(0, (vp 0 0)), (1, (vI p.2.1)), (4, (vp 1 0)), (5, (vp 3 0))], [(0, (.box [(.fx 0 0 z2), (cI p.2.2.1), (.c (.int .u64 p.2.2.2.1))])), (1, (.box [z1, z1, z1, .nils])), (2, (oL 4 cs_Turn p.2.2.2.2)), (3, (.box [(cF v1.1.X), (cF v1.1.Y), (cF v1.1.Z), (xL 2 4 cs_Turn p.2.2.2.2)]))]⟩) (fun p => spec_l03DrawPose_l1 K a0 v1 p.1 p.2.1 p.2.2.1 p.2.2.2.1 p.2.2.2.2 = some o) (fun p => p.1) (K, a1, v1.2.1, v1.2.2, ([] : List Turn)) h ?_
  clear h
  rintro ⟨k, x7, x8, x9, x10⟩ h
  replace h : spec_l03DrawPose_l1 K a0 v1 k x7 x8 x9 x10 = some o := h
  let z4 := xL 2 4 cs_Turn x10
  let z8 := oL 4 cs_Turn x10
  show AW _ _ (⟨[(0, (vp 0 0)), (1, (vI x7)), (4, (vp 1 0)), (5, (vp 3 0))], [(0, (.box [(.fx 0 0 z2), (cI x8), (.c (.int .u64 x9))])), (1, (.box [z1, z1, z1, .nils])), (2, z8), (3, (.box [(cF v1.1.X), (cF v1.1.Y), (cF v1.1.Z), z4]))]⟩ : St) _
  obtain _ | k := k
  · rw [spec_l03DrawPose_l1] at h; cases h
  rw [spec_l03DrawPose_l1] at h
  refine AW.seq ?_
  refine AW.sA ⟨[(0, (vp 0 0)), (1, (vI x7)), (4, (vp 1 0)), (5, (vp 3 0)), (11, (vB (decide (x7 > (0 : Int)))))], [(0, (.box [(.fx 0 0 z2), (cI x8), (.c (.int .u64 x9))])), (1, (.box [z1, z1, z1, .nils])), (2, z8), (3, (.box [(cF v1.1.X), (cF v1.1.Y), (cF v1.1.Z), z4]))]⟩ (T2 Tt) [] [0, 1, 4, 5, 11] [0, 1, 2, 3] ⟨tr, tr, tr⟩ ?_
  rcases ite2_cases h with ⟨b11, h⟩ | ⟨b11, h⟩
  · refine AW.cond_t rfl b11 ?_
    refine AW.skip ?_
    refine thenQ_normal ?_
    refine AW.seq ?_
    refine AW.block ?_
    obtain ⟨v12, e13, h⟩ := bind_some h
    obtain ⟨c14, h⟩ := chk_some h
    let z3 := x10 ++ ([v12.1])
    let z5 := xL 9 4 cs_Turn z3
    let z6 := l00Src.mk a0.code x8 x9
    let z7 := oL 4 cs_Turn z3
    refine AW.firstA (by kernel_rfl) [0, 2] [.no, .no, .no, .callM [(.box 3 (fun j => [true, false, false].getD j true) (fun j => (cs_l00Src z6).getD j .nilptr) (fun j => [.nilptr, (.int .i64 v12.2.1), (.int .u64 v12.2.2)].getD j .nilptr))] [.agg (cs_Turn v12.1)] [[.view, .view, .view, .view]] none, .obj 8 ([v12.1]).length (gl cs_Turn ([v12.1])), .objK 9 z3.length (gl cs_Turn z3)] [0, 1, 4, 5] [0, 1, 3, 9] (s' := ⟨[(0, (vp 0 0)), (1, (vI x7)), (4, (vp 1 0)), (5, (vp 3 0))], [(0, (.box [(.fx 0 0 z2), (cI v12.2.1), (.c (.int .u64 v12.2.2))])), (1, (.box [z1, z1, z1, .nils])), (3, (.box [(cF v1.1.X), (cF v1.1.Y), (cF v1.1.Z), z5])), (9, z7)]⟩) (ob := (Zt30 ((⟨[(0, (vp 0 0)), (1, (vI x7)), (4, (vp 1 0)), (5, (vp 3 0))], [(0, (.box [(.fx 0 0 z2), (cI v12.2.1), (.c (.int .u64 v12.2.2))])), (1, (.box [z1, z1, z1, .nils])), (3, (.box [(cF v1.1.X), (cF v1.1.Y), (cF v1.1.Z), z5])), (9, z7)]⟩ : St) = ⟨[(0, (vp 0 0)), (1, (vI x7)), (4, (vp 1 0)), (5, (vp 3 0))], [(0, (.box [(.fx 0 0 z2), (cI v12.2.1), (.c (.int .u64 v12.2.2))])), (1, (.box [z1, z1, z1, .nils])), (3, (.box [(cF v1.1.X), (cF v1.1.Y), (cF v1.1.Z), z5])), (9, z7)]⟩) (((((Eqc z2) ∧ (eI x8) ∧ (Eqc (.int .u64 x9)) ∧ Tt) ∧ Tt) ∧ MutOK Try.prog 47 [(.box 3 (fun j => [true, false, false].getD j true) (fun j => (cs_l00Src z6).getD j .nilptr) (fun j => [.nilptr, (.int .i64 v12.2.1), (.int .u64 v12.2.2)].getD j .nilptr))] [.agg (cs_Turn v12.1)])) ((([v12.1]).length = 1 ∧ (((.flt .f32 v12.1.W.bits) : C) = (.flt .f32 v12.1.W.bits) ∧ Tt) ∧ (((.flt .f32 v12.1.X.bits) : C) = (.flt .f32 v12.1.X.bits) ∧ Tt) ∧ (((.flt .f32 v12.1.Y.bits) : C) = (.flt .f32 v12.1.Y.bits) ∧ Tt) ∧ (((.flt .f32 v12.1.Z.bits) : C) = (.flt .f32 v12.1.Z.bits) ∧ Tt) ∧ Tt)) ((z3.length = x10.length + ([v12.1]).length ∧ AppOb (x10.length) (([v12.1]).length) 4 (gl cs_Turn x10) (gl cs_Turn ([v12.1])) (gl cs_Turn z3) ∧ (∀ i j, i < ([v12.1]).length → j < 4 → scalarC (gl cs_Turn ([v12.1]) i j)) ∧ (x10.length + ([v12.1]).length) * 16 ≤ 140737488355328)))) (by kernel_rfl) (zt30 rfl ⟨⟨⟨rfl, rfl, rfl, tr⟩, tr⟩, ok_spec_l02DrawTurn K z6 v12 e13⟩ ⟨rfl, ⟨⟨rfl, tr⟩, ⟨rfl, tr⟩, ⟨rfl, tr⟩, ⟨rfl, tr⟩, tr⟩⟩ ⟨List.length_append, gl_append, gl_scalar sc_Turn _, c14⟩) ?_
    refine blockQ_normal ?_
    refine thenQ_normal ?_
    let z9 := IntKind.i64.wrap (x7 - (1 : Int))
    refine AW.rA ⟨[(0, (vp 0 0)), (1, (vI z9)), (4, (vp 1 0)), (5, (vp 3 0))], [(0, (.box [(.fx 0 0 z2), (cI v12.2.1), (.c (.int .u64 v12.2.2))])), (1, (.box [z1, z1, z1, .nils])), (3, (.box [(cF v1.1.X), (cF v1.1.Y), (cF v1.1.Z), z5])), (9, z7)]⟩ (Tt ∧ T2 Tt) [] [0, 1, 4, 5] [0, 1, 3, 9] ⟨tr, tr, tr, tr⟩ ?_
    exact loopQ_normal (k, z9, v12.2.1, v12.2.2, z3) h (Nat.lt_succ_self k) (Sub.trans (Sub.swap 2 9 _ (by kernel_rfl) (by kernel_rfl)) (Sub.keep [0, 1, 4, 5] [0, 1, 2, 3] (by kernel_rfl) (by kernel_rfl)))
  · refine AW.cond_f rfl b11 ?_
    refine AW.exit ?_
    refine thenQ_exit ?_
    refine loopQ_exit ?_
    refine blockQ_exit ?_
    refine thenQ_normal ?_
    refine AW.sA ⟨[(0, (vp 0 0)), (1, (vI x7)), (4, (vp 1 0))], [(0, (.box [(.fx 0 0 z2), (cI x8), (.c (.int .u64 x9))])), (1, (.box [(cF v1.1.X), (cF v1.1.Y), (cF v1.1.Z), z4])), (2, z8)]⟩ (T2 Tt) [] [0, 1, 4] [0, 1, 2] ⟨tr, tr, tr⟩ ?_
    refine AW.ret ?_
    replace h := some_eq h
    subst h
    exact ⟨.inr rfl, retOK_of [(.agg [(cF v1.1.X), (cF v1.1.Y), (cF v1.1.Z), z4])] (by kernel_rfl) ⟨⟨⟨rfl, tr⟩, ⟨rfl, tr⟩, ⟨rfl, tr⟩, rfl, tr⟩, tr⟩ (of_decide_eq_true (by kernel_rfl)), by kernel_rfl, ⟨⟨rfl, ⟨⟨rfl, rfl⟩, ⟨rfl, rfl⟩, ⟨rfl, rfl⟩, tr⟩⟩, tr, tr⟩⟩

/-! spec.B10Pose -/
def spec_B10Pose (K : Nat) (a0 : (List Int)) (a1 : Int) : Option (Pose) :=
  (spec_l03DrawPose K (l00Src.mk a0 (0 : Int) (0 : Int)) a1).bind fun v1 => some v1.1

theorem ok_spec_B10Pose (K : Nat) (a0 : (List Int)) (a1 : Int) (o : (Pose)) (h : spec_B10Pose K a0 a1 = some o) : CallOK Try.prog 7 [.one (sl 1 (csI .u8) a0), .one (.int .i64 a1)] [.agg (cs_Pose o)] := by
  refine callOK_of_AW Try.func7 rfl (by kernel_rfl) (Nat.le_of_ble_eq_true (by kernel_rfl)) ?_
  intro w0
  unfold spec_B10Pose at h
  let z1 := cF (default : F32)
  let z3 := sl 1 (csI .u8) a0
  refine AW.sA ⟨[(0, (vc z3)), (1, (vI a1)), (4, (vp 1 0))], [(1, (.box [z1, z1, z1, .nils]))]⟩ (Tt ∧ Tt) [.box 1] [0, 1, 4] [1] ⟨tr, tr⟩ ?_
  refine AW.seq (AW.mkA 1 2 [(.i64, 0), (.u64, 0)] [.no] [] [1, 4, 5] [1, 2] (s' := ⟨[(1, (vI a1)), (4, (vp 1 0)), (5, (vp 2 0))], [(1, (.box [z1, z1, z1, .nils])), (2, (.box [(.c z3), (cI (0 : Int)), (.c (.int .u64 (0 : Int)))]))]⟩) (ob := (Tt ∧ Tt) ∧ Tt ∧ (Tt ∧ Tt)) (by kernel_rfl) ⟨⟨tr, tr⟩, tr, ⟨tr, tr⟩⟩ mk_spec_l00From (thenQ_normal ?_))
  refine AW.seq ?_
  obtain ⟨v1, e2, h⟩ := bind_some h
  let z2 := l00Src.mk a0 (0 : Int) (0 : Int)
  refine AW.tA ⟨[(4, (vp 1 0))], [(1, (.box [(cF v1.1.Root.X), (cF v1.1.Root.Y), (cF v1.1.Root.Z), (xL 3 4 cs_Turn v1.1.Turns)])), (3, (oL 4 cs_Turn v1.1.Turns))]⟩ (T2 (((((Eqc z3) ∧ (eI (0 : Int)) ∧ (Eqc (.int .u64 (0 : Int))) ∧ Tt) ∧ (eI a1) ∧ Tt) ∧ MutOK Try.prog 21 [(.box 3 (fun j => [true, false, false].getD j true) (fun j => (cs_l00Src z2).getD j .nilptr) (fun j => [.nilptr, (.int .i64 v1.2.1), (.int .u64 v1.2.2)].getD j .nilptr)), .one (.ro (.int .i64 a1))] [.agg (cs_Pose v1.1)]) ∧ Tt ∧ Tt)) [.no, .no, .callM [(.box 3 (fun j => [true, false, false].getD j true) (fun j => (cs_l00Src z2).getD j .nilptr) (fun j => [.nilptr, (.int .i64 v1.2.1), (.int .u64 v1.2.2)].getD j .nilptr)), .one (.ro (.int .i64 a1))] [.agg (cs_Pose v1.1)] [[.view, .view, .view, .lst 3]] none] [4] [1, 3] ⟨tr, tr, ⟨⟨⟨rfl, rfl, rfl, tr⟩, rfl, tr⟩, ok_spec_l03DrawPose K z2 a1 v1 e2⟩, tr, tr⟩ ?_
  refine AW.ret ?_
  replace h := some_eq h
  subst h
  exact ⟨.inr rfl, retOK_of [(.agg [(cF v1.1.Root.X), (cF v1.1.Root.Y), (cF v1.1.Root.Z), (xL 3 4 cs_Turn v1.1.Turns)])] (by kernel_rfl) ⟨⟨⟨rfl, tr⟩, ⟨rfl, tr⟩, ⟨rfl, tr⟩, rfl, tr⟩, tr⟩ (of_decide_eq_true (by kernel_rfl))⟩

/-! impl.ValidSkeleton -/
def impl_ValidSkeleton_l1 (K : Nat) (a0 : Skeleton) : Nat → Int → Option (Bool)
  | 0, _ => none
  | k + 1, x9 => ite2 ((decide (x9 < (((a0.Bones.drop (1 : Int).toNat).take ((a0.Bones.length : Int).toNat - (1 : Int).toNat)).length : Int)))) (chk (0 ≤ x9 ∧ x9 < (((a0.Bones.drop (1 : Int).toNat).take ((a0.Bones.length : Int).toNat - (1 : Int).toNat)).length : Int)) ((ite2 ((decide (((((a0.Bones.drop (1 : Int).toNat).take ((a0.Bones.length : Int).toNat - (1 : Int).toNat)).getD x9.toNat default).Parent) < (0 : Int)))) (some true) (some (decide (((((a0.Bones.drop (1 : Int).toNat).take ((a0.Bones.length : Int).toNat - (1 : Int).toNat)).getD x9.toNat default).Parent) > x9)))).bind fun j13 => ite2 (j13) (some false) (impl_ValidSkeleton_l1 K a0 k (IntKind.i64.wrap (x9 + (1 : Int)))))) (some true)

def impl_ValidSkeleton (K : Nat) (a0 : Skeleton) : Option (Bool) :=
  (ite2 ((decide ((a0.Bones.length : Int) < (1 : Int)))) (some true) (ite2 ((decide ((a0.Bones.length : Int) > (12 : Int)))) (some true) (chk (0 ≤ (0 : Int) ∧ (0 : Int) < (a0.Bones.length : Int)) (some (((a0.Bones.getD ((0 : Int).toNat) default).Parent) != ((-1) : Int)))))).bind fun j4 => ite2 (j4) (some false) (chk (0 ≤ (1 : Int) ∧ (1 : Int) ≤ (a0.Bones.length : Int) ∧ (a0.Bones.length : Int) ≤ (a0.Bones.length : Int)) (impl_ValidSkeleton_l1 K a0 K (0 : Int)))

theorem ok_impl_ValidSkeleton (K : Nat) (a0 : Skeleton) (o : (Bool)) (h : impl_ValidSkeleton K a0 = some o) : CallOK Try.prog 26 [.agg (cs_Skeleton a0)] [.one (.bool o)] := by
  refine callOK_of_AW Try.func26 rfl (by kernel_rfl) (Nat.le_of_ble_eq_true (by kernel_rfl)) ?_
  intro w0
  unfold impl_ValidSkeleton at h
  let z5 := sl 4 cs_Bone a0.Bones
  refine AW.sA ⟨[(1, (vp 1 0))], [(1, (.box [(.c z5)]))]⟩ (T2 Tt) [.box 1] [1] [1] ⟨tr, tr, tr⟩ ?_
  refine AW.seq ?_
  refine AW.seq ?_
  obtain ⟨j4, e5, h⟩ := bind_some h
  refine AW.join1 (s2 := ⟨[(1, (vp 1 0)), (22, (vB j4))], [(1, (.box [(.c z5)]))]⟩) ?_ ?_
  · rcases ite2_cases e5 with ⟨b1, e5⟩ | ⟨b1, e5⟩
    · replace e5 := some_eq e5
      subst e5
      exact AW.rA ⟨[(1, (vp 1 0)), (22, (vB true))], [(1, (.box [(.c z5)]))]⟩ (T4 ((Tt ∧ (decide ((a0.Bones.length : Int) < (1 : Int))) = true) ∧ Tt ∧ T4 (T4 (T4 Tt)))) [.no, .no, .no, .no, .dec true] [1, 22] [1] ⟨tr, tr, tr, tr, ⟨tr, b1⟩, tr, tr, tr, tr, tr, tr, tr, tr, tr, tr, tr, tr, tr, tr⟩ ⟨rfl, rfl⟩
    · rcases ite2_cases e5 with ⟨b2, e5⟩ | ⟨b2, e5⟩
      · replace e5 := some_eq e5
        subst e5
        exact AW.rA ⟨[(1, (vp 1 0)), (22, (vB true))], [(1, (.box [(.c z5)]))]⟩ (T4 ((Tt ∧ (decide ((a0.Bones.length : Int) < (1 : Int))) = false) ∧ Tt ∧ T4 ((Tt ∧ (decide ((a0.Bones.length : Int) > (12 : Int))) = true) ∧ Tt ∧ T2 (T4 Tt)))) [.no, .no, .no, .no, .dec false, .no, .no, .no, .no, .no, .dec true] [1, 22] [1] ⟨tr, tr, tr, tr, ⟨tr, b1⟩, tr, tr, tr, tr, tr, ⟨tr, b2⟩, tr, tr, tr, tr, tr, tr, tr, tr⟩ ⟨rfl, rfl⟩
      · obtain ⟨c3, e5⟩ := chk_some e5
        replace e5 := some_eq e5
        subst e5
        exact AW.rA ⟨[(1, (vp 1 0)), (22, (vB (((a0.Bones.getD ((0 : Int).toNat) default).Parent) != ((-1) : Int))))], [(1, (.box [(.c z5)]))]⟩ (T4 ((Tt ∧ (decide ((a0.Bones.length : Int) < (1 : Int))) = false) ∧ Tt ∧ T4 ((Tt ∧ (decide ((a0.Bones.length : Int) > (12 : Int))) = false) ∧ T2 ((0 ≤ (0 : Int) ∧ (0 : Int) < (a0.Bones.length : Int)) ∧ T4 Tt)))) [.no, .no, .no, .no, .dec false, .no, .no, .no, .no, .no, .dec false] [1, 22] [1] ⟨tr, tr, tr, tr, ⟨tr, b1⟩, tr, tr, tr, tr, tr, ⟨tr, b2⟩, tr, tr, c3, tr, tr, tr, tr, tr⟩ ⟨rfl, rfl⟩
  refine thenQ_normal ?_
  rcases ite2_cases h with ⟨b6, h⟩ | ⟨b6, h⟩
  · refine AW.cond_t rfl b6 ?_
    refine AW.sA ⟨[(2, (vB false))], []⟩ (Tt ∧ Tt) [] [2] [] ⟨tr, tr⟩ ?_
    refine AW.ret ?_
    refine thenQ_ret ?_
    replace h := some_eq h
    subst h
    exact ⟨.inr rfl, retOK_of [(.one (.c (.bool false)))] (by kernel_rfl) ⟨⟨rfl, tr⟩, tr⟩ (of_decide_eq_true (by kernel_rfl))⟩
  · refine AW.cond_f rfl b6 ?_
    refine AW.skip ?_
    refine thenQ_normal ?_
    refine AW.seq ?_
    refine AW.seq ?_
    obtain ⟨c7, h⟩ := chk_some h
    let z1 := (a0.Bones.drop (1 : Int).toNat).take ((a0.Bones.length : Int).toNat - (1 : Int).toNat)
    let z2 := vc (sl 4 cs_Bone z1)
    let z3 := vI (z1.length : Int)
    refine AW.tA ⟨[(25, z2), (26, z3), (27, (vI (0 : Int)))], []⟩ (T2 ((0 ≤ (1 : Int) ∧ (1 : Int) ≤ (a0.Bones.length : Int) ∧ (a0.Bones.length : Int) ≤ (a0.Bones.length : Int) ∧ ((z1.length : Nat) : Int) = (a0.Bones.length : Int) - (1 : Int) ∧ ∀ i j, i < z1.length → j < 4 → gl cs_Bone z1 i j = gl cs_Bone a0.Bones ((1 : Int).toNat + i) j) ∧ T2 Tt)) [.no, .no, .seq z1.length (gl cs_Bone z1)] [25, 26, 27] [] ⟨tr, tr, ⟨c7.1, c7.2.1, c7.2.2, (gl_drop (sz := 4) (cs := cs_Bone) c7.1 c7.2.1 c7.2.2).1, (gl_drop c7.1 c7.2.1 c7.2.2).2⟩, tr, tr, tr⟩ ?_
    refine AW.block ?_
    refine AW.loopQ (σ := Nat × Int) (fun p => ⟨[(25, z2), (26, z3), (27, (vI p.2))], []⟩) (fun p => impl_ValidSkeleton_l1 K a0 p.1 p.2 = some o) (fun p => p.1) (K, (0 : Int)) h ?_
    clear h
    rintro ⟨k, x9⟩ h
    replace h : impl_ValidSkeleton_l1 K a0 k x9 = some o := h
    show AW _ _ (⟨[(25, z2), (26, z3), (27, (vI x9))], []⟩ : St) _
    obtain _ | k := k
    · rw [impl_ValidSkeleton_l1] at h; cases h
    rw [impl_ValidSkeleton_l1] at h
    refine AW.sA ⟨[(25, z2), (26, z3), (27, (vI x9)), (28, (vB (decide (x9 < (z1.length : Int)))))], []⟩ (Tt ∧ Tt) [] [25, 26, 27, 28] [] ⟨tr, tr⟩ ?_
    refine AW.seq ?_
    rcases ite2_cases h with ⟨b10, h⟩ | ⟨b10, h⟩
    · refine AW.cond_t rfl b10 ?_
      refine AW.skip ?_
      refine thenQ_normal ?_
      refine AW.seq ?_
      refine AW.block ?_
      refine AW.seq ?_
      obtain ⟨c11, h⟩ := chk_some h
      let z4 := z1.getD x9.toNat default
      refine AW.tA ⟨[(3, (vI x9)), (4, (vp 4 0)), (25, z2), (26, z3), (27, (vI x9))], [(4, (.box [(cI (z4.Parent)), (cF ((z4.Offset).X)), (cF ((z4.Offset).Y)), (cF ((z4.Offset).Z))]))]⟩ (Tt ∧ (0 ≤ x9 ∧ x9 < (z1.length : Int)) ∧ T4 Tt) [.no, .no, .no, .box 4] [3, 4, 25, 26, 27] [4] ⟨tr, c11, tr, tr, tr, tr, tr⟩ ?_
      refine AW.seq ?_
      obtain ⟨j13, e14, h⟩ := bind_some h
      refine AW.join1 (s2 := ⟨[(25, z2), (26, z3), (27, (vI x9)), (40, (vB j13))], []⟩) ?_ ?_
      · rcases ite2_cases e14 with ⟨b12, e14⟩ | ⟨b12, e14⟩
        · replace e14 := some_eq e14
          subst e14
          exact AW.rA ⟨[(25, z2), (26, z3), (27, (vI x9)), (40, (vB true))], []⟩ (Tt ∧ T2 ((Tt ∧ (decide ((z4.Parent) < (0 : Int))) = true) ∧ Tt ∧ T4 Tt)) [.no, .no, .no, .dec true] [25, 26, 27, 40] [] ⟨tr, tr, tr, ⟨tr, b12⟩, tr, tr, tr, tr, tr, tr⟩ ⟨rfl, rfl⟩
        · replace e14 := some_eq e14
          subst e14
          exact AW.rA ⟨[(25, z2), (26, z3), (27, (vI x9)), (40, (vB (decide ((z4.Parent) > x9))))], []⟩ (Tt ∧ T2 ((Tt ∧ (decide ((z4.Parent) < (0 : Int))) = false) ∧ Tt ∧ T4 Tt)) [.no, .no, .no, .dec false] [25, 26, 27, 40] [] ⟨tr, tr, tr, ⟨tr, b12⟩, tr, tr, tr, tr, tr, tr⟩ ⟨rfl, rfl⟩
      refine thenQ_normal ?_
      rcases ite2_cases h with ⟨b15, h⟩ | ⟨b15, h⟩
      · refine AW.cond_t rfl b15 ?_
        refine AW.sA ⟨[(2, (vB false))], []⟩ (Tt ∧ Tt) [] [2] [] ⟨tr, tr⟩ ?_
        refine AW.ret ?_
        refine blockQ_ret ?_
        refine thenQ_ret ?_
        refine loopQ_ret ?_
        refine blockQ_ret ?_
        refine thenQ_ret ?_
        replace h := some_eq h
        subst h
        exact ⟨.inr rfl, retOK_of [(.one (.c (.bool false)))] (by kernel_rfl) ⟨⟨rfl, tr⟩, tr⟩ (of_decide_eq_true (by kernel_rfl))⟩
      · refine AW.cond_f rfl b15 ?_
        refine AW.skip ?_
        refine blockQ_normal ?_
        refine thenQ_normal ?_
        let z6 := IntKind.i64.wrap (x9 + (1 : Int))
        refine AW.rA ⟨[(25, z2), (26, z3), (27, (vI z6))], []⟩ (T2 Tt) [] [25, 26, 27] [] ⟨tr, tr, tr⟩ ?_
        exact loopQ_normal (k, z6) h (Nat.lt_succ_self k) (Sub.keep [25, 26, 27] [] (by kernel_rfl) (by kernel_rfl))
    · refine AW.cond_f rfl b10 ?_
      refine AW.exit ?_
      refine thenQ_exit ?_
      refine loopQ_exit ?_
      refine blockQ_exit ?_
      refine thenQ_normal ?_
      refine AW.sA ⟨[(2, (vB true))], []⟩ (Tt ∧ Tt) [] [2] [] ⟨tr, tr⟩ ?_
      refine AW.ret ?_
      replace h := some_eq h
      subst h
      exact ⟨.inr rfl, retOK_of [(.one (.c (.bool true)))] (by kernel_rfl) ⟨⟨rfl, tr⟩, tr⟩ (of_decide_eq_true (by kernel_rfl))⟩

/-! impl.IsPose -/
def impl_IsPose (K : Nat) (a0 : Skeleton) (a1 : Pose) : Option (Bool) :=
  (impl_ValidSkeleton K a0).bind fun v1 => (ite2 (v1) (some ((a1.Turns.length : Int) == (a0.Bones.length : Int))) (some false)).bind fun j4 => some j4

theorem ok_impl_IsPose (K : Nat) (a0 : Skeleton) (a1 : Pose) (o : (Bool)) (h : impl_IsPose K a0 a1 = some o) : CallOK Try.prog 22 [.agg (cs_Skeleton a0), .agg (cs_Pose a1)] [.one (.bool o)] := by
  refine callOK_of_AW Try.func22 rfl (by kernel_rfl) (Nat.le_of_ble_eq_true (by kernel_rfl)) ?_
  intro w0
  unfold impl_IsPose at h
  let z1 := sl 4 cs_Bone a0.Bones
  refine AW.sA ⟨[(2, (vp 1 0)), (3, (vp 2 0))], [(1, (.box [(.c z1)])), (2, (.box [(cF a1.Root.X), (cF a1.Root.Y), (cF a1.Root.Z), (.c (sl 4 cs_Turn a1.Turns))]))]⟩ (Tt ∧ T2 Tt) [.box 1, .box 2] [2, 3] [1, 2] ⟨tr, tr, tr, tr⟩ ?_
  refine AW.seq ?_
  obtain ⟨v1, e2, h⟩ := bind_some h
  obtain ⟨j4, e5, h⟩ := bind_some h
  refine AW.join1 (s2 := ⟨[(4, (vB j4))], []⟩) ?_ ?_
  · rcases ite2_cases e5 with ⟨b3, e5⟩ | ⟨b3, e5⟩
    · replace e5 := some_eq e5
      subst e5
      exact AW.rA ⟨[(4, (vB ((a1.Turns.length : Int) == (a0.Bones.length : Int))))], []⟩ (Tt ∧ ((((Eqc z1) ∧ Tt) ∧ Tt) ∧ CallOK Try.prog 26 [.agg (cs_Skeleton a0)] [.one (.bool v1)]) ∧ (Tt ∧ v1 = true) ∧ Tt ∧ T4 (T4 Tt)) [.no, .call [.agg (cs_Skeleton a0)] [.one (.bool v1)] [[.view]], .dec true] [4] [] ⟨tr, ⟨⟨⟨rfl, tr⟩, tr⟩, ok_impl_ValidSkeleton K a0 v1 e2⟩, ⟨tr, b3⟩, tr, tr, tr, tr, tr, tr, tr, tr, tr, tr⟩ ⟨rfl, rfl⟩
    · replace e5 := some_eq e5
      subst e5
      exact AW.rA ⟨[(4, (vB false))], []⟩ (Tt ∧ ((((Eqc z1) ∧ Tt) ∧ Tt) ∧ CallOK Try.prog 26 [.agg (cs_Skeleton a0)] [.one (.bool v1)]) ∧ (Tt ∧ v1 = false) ∧ Tt ∧ T4 (T4 Tt)) [.no, .call [.agg (cs_Skeleton a0)] [.one (.bool v1)] [[.view]], .dec false] [4] [] ⟨tr, ⟨⟨⟨rfl, tr⟩, tr⟩, ok_impl_ValidSkeleton K a0 v1 e2⟩, ⟨tr, b3⟩, tr, tr, tr, tr, tr, tr, tr, tr, tr, tr⟩ ⟨rfl, rfl⟩
  refine thenQ_normal ?_
  refine AW.ret ?_
  replace h := some_eq h
  subst h
  exact ⟨.inr rfl, retOK_of [(.one (.c (.bool j4)))] (by kernel_rfl) ⟨⟨rfl, tr⟩, tr⟩ (of_decide_eq_true (by kernel_rfl))⟩

/-! impl.IsPairing$1 -/
def impl_IsPairing_1 (_K : Nat) (a0 : Int) (a1 : Int) : Option (Bool) :=
  (ite2 ((decide (a0 < (0 : Int)))) (some true) (some (decide (a0 ≥ a1)))).bind fun j2 => some j2

theorem ok_impl_IsPairing_1 (K : Nat) (a0 : Int) (a1 : Int) (o : (Bool)) (h : impl_IsPairing_1 K a0 a1 = some o) : CallOK Try.prog 28 [.one (.int .i64 a0), .one (pl 1 (csI .i64) a1)] [.one (.bool o)] := by
  refine callOK_of_AW Try.func28 rfl (by kernel_rfl) (Nat.le_of_ble_eq_true (by kernel_rfl)) ?_
  intro w0
  unfold impl_IsPairing_1 at h
  refine AW.sA ⟨[(0, (vI a0)), (1, (vc (pl 1 (csI .i64) a1)))], []⟩ (Tt ∧ Tt) [] [0, 1] [] ⟨tr, tr⟩ ?_
  refine AW.seq ?_
  obtain ⟨j2, e3, h⟩ := bind_some h
  refine AW.join1 (s2 := ⟨[(3, (vB j2))], []⟩) ?_ ?_
  · rcases ite2_cases e3 with ⟨b1, e3⟩ | ⟨b1, e3⟩
    · replace e3 := some_eq e3
      subst e3
      exact AW.rA ⟨[(3, (vB true))], []⟩ (T2 ((Tt ∧ (decide (a0 < (0 : Int))) = true) ∧ Tt ∧ T4 Tt)) [.no, .no, .dec true] [3] [] ⟨tr, tr, ⟨tr, b1⟩, tr, tr, tr, tr, tr, tr⟩ ⟨rfl, rfl⟩
    · replace e3 := some_eq e3
      subst e3
      exact AW.rA ⟨[(3, (vB (decide (a0 ≥ a1))))], []⟩ (T2 ((Tt ∧ (decide (a0 < (0 : Int))) = false) ∧ Tt ∧ T4 Tt)) [.no, .no, .dec false] [3] [] ⟨tr, tr, ⟨tr, b1⟩, tr, tr, tr, tr, tr, tr⟩ ⟨rfl, rfl⟩
  refine thenQ_normal ?_
  refine AW.ret ?_
  replace h := some_eq h
  subst h
  exact ⟨.inr rfl, retOK_of [(.one (.c (.bool j2)))] (by kernel_rfl) ⟨⟨rfl, tr⟩, tr⟩ (of_decide_eq_true (by kernel_rfl))⟩

/-! slices.IndexFunc[[]int64,int64] -/
def slices_IndexFunc_int64_int64_l1 (K : Nat) (a0 : (List Int)) (a1_0_0 : Int) : Nat → Int → Option (Int)
  | 0, _ => none
  | k + 1, x2 => ite2 ((decide (x2 < (a0.length : Int)))) (chk (0 ≤ x2 ∧ x2 < (a0.length : Int)) ((impl_IsPairing_1 K (a0.getD x2.toNat default) a1_0_0).bind fun v5 => ite2 (v5) (some x2) (slices_IndexFunc_int64_int64_l1 K a0 a1_0_0 k (IntKind.i64.wrap (x2 + (1 : Int)))))) (some ((-1) : Int))

def slices_IndexFunc_int64_int64 (K : Nat) (a0 : (List Int)) (a1_0_0 : Int) : Option (Int) :=
  slices_IndexFunc_int64_int64_l1 K a0 a1_0_0 K (0 : Int)

theorem ok_slices_IndexFunc_int64_int64 (K : Nat) (a0 : (List Int)) (a1_0_0 : Int) (o : (Int)) (h : slices_IndexFunc_int64_int64 K a0 a1_0_0 = some o) : CallOK Try.prog 48 [.one (sl 1 (csI .i64) a0), .one (.fn 28 1 fun j => [(pl 1 (csI .i64) a1_0_0)].getD j .nilptr)] [.one (.int .i64 o)] := by
  refine callOK_of_AW Try.func48 rfl (by kernel_rfl) (Nat.le_of_ble_eq_true (by kernel_rfl)) ?_
  intro w0
  unfold slices_IndexFunc_int64_int64 at h
  refine AW.sC (Tt ∧ Tt) [] [0, 1] [] ⟨tr, tr⟩ ?_
  refine AW.seq ?_
  let z1 := pl 1 (csI .i64) a1_0_0
  let z2 := vc (sl 1 (csI .i64) a0)
  let z3 := vI (a0.length : Int)
  refine AW.sA ⟨[(0, z2), (1, (vc (.fn 28 1 fun j => [z1].getD j .nilptr))), (7, z3), (8, (vI (0 : Int)))], []⟩ (Tt ∧ T2 Tt) [] [0, 1, 7, 8] [] ⟨tr, tr, tr, tr⟩ ?_
  refine AW.block ?_
  refine AW.loopQ (σ := Nat × Int) (fun p => ⟨[(0, z2), (1, (vc (.fn 28 1 fun j => [z1].getD j .nilptr))), (7, z3), (8, (vI p.2))], []⟩) (fun p => slices_IndexFunc_int64_int64_l1 K a0 a1_0_0 p.1 p.2 = some o) (fun p => p.1) (K, (0 : Int)) h ?_
  clear h
  rintro ⟨k, x2⟩ h
  replace h : slices_IndexFunc_int64_int64_l1 K a0 a1_0_0 k x2 = some o := h
  show AW _ _ (⟨[(0, z2), (1, (vc (.fn 28 1 fun j => [z1].getD j .nilptr))), (7, z3), (8, (vI x2))], []⟩ : St) _
  obtain _ | k := k
  · rw [slices_IndexFunc_int64_int64_l1] at h; cases h
  rw [slices_IndexFunc_int64_int64_l1] at h
  refine AW.sA ⟨[(0, z2), (1, (vc (.fn 28 1 fun j => [z1].getD j .nilptr))), (7, z3), (8, (vI x2)), (9, (vB (decide (x2 < (a0.length : Int)))))], []⟩ (Tt ∧ Tt) [] [0, 1, 7, 8, 9] [] ⟨tr, tr⟩ ?_
  refine AW.seq ?_
  rcases ite2_cases h with ⟨b3, h⟩ | ⟨b3, h⟩
  · refine AW.cond_t rfl b3 ?_
    refine AW.skip ?_
    refine thenQ_normal ?_
    refine AW.seq ?_
    refine AW.block ?_
    refine AW.sC (T2 Tt) [] [0, 1, 5, 7, 8] [] ⟨tr, tr, tr⟩ ?_
    refine AW.seq ?_
    obtain ⟨c4, h⟩ := chk_some h
    obtain ⟨v5, e6, h⟩ := bind_some h
    let z4 := a0.getD x2.toNat default
    refine AW.tA ⟨[(0, z2), (1, (vc (.fn 28 1 fun j => [z1].getD j .nilptr))), (5, (vI x2)), (7, z3), (8, (vI x2)), (16, (vB v5))], []⟩ (Tt ∧ T2 ((0 ≤ x2 ∧ x2 < (a0.length : Int)) ∧ Tt ∧ (((eI z4) ∧ (1 = 1 ∧ ∀ j, j < 1 → ((csI .i64) a1_0_0).getD j .nilptr = ((csI .i64) a1_0_0).getD j .nilptr) ∧ Tt) ∧ CallOK Try.prog 28 [.one (.int .i64 z4), .one z1] [.one (.bool v5)]) ∧ Tt)) [.no, .no, .no, .no, .no, .call [.one (.int .i64 z4), .one z1] [.one (.bool v5)] [[.view]]] [0, 1, 5, 7, 8, 16] [] ⟨tr, tr, tr, c4, tr, ⟨⟨rfl, ⟨rfl, fun j hj => rfl⟩, tr⟩, ok_impl_IsPairing_1 K z4 a1_0_0 v5 e6⟩, tr⟩ ?_
    rcases ite2_cases h with ⟨b7, h⟩ | ⟨b7, h⟩
    · refine AW.cond_t rfl b7 ?_
      refine AW.sA ⟨[(4, (vI x2))], []⟩ (T2 Tt) [] [4] [] ⟨tr, tr, tr⟩ ?_
      refine AW.ret ?_
      refine blockQ_ret ?_
      refine thenQ_ret ?_
      refine loopQ_ret ?_
      refine blockQ_ret ?_
      refine thenQ_ret ?_
      replace h := some_eq h
      subst h
      exact ⟨.inr rfl, retOK_of [(.one (cI x2))] (by kernel_rfl) ⟨⟨rfl, tr⟩, tr⟩ (of_decide_eq_true (by kernel_rfl))⟩
    · refine AW.cond_f rfl b7 ?_
      refine AW.skip ?_
      refine blockQ_normal ?_
      refine thenQ_normal ?_
      let z5 := IntKind.i64.wrap (x2 + (1 : Int))
      refine AW.rA ⟨[(0, z2), (1, (vc (.fn 28 1 fun j => [z1].getD j .nilptr))), (7, z3), (8, (vI z5))], []⟩ (T2 Tt) [] [0, 1, 7, 8] [] ⟨tr, tr, tr⟩ ?_
      exact loopQ_normal (k, z5) h (Nat.lt_succ_self k) (Sub.keep [0, 1, 7, 8] [] (by kernel_rfl) (by kernel_rfl))
  · refine AW.cond_f rfl b3 ?_
    refine AW.exit ?_
    refine thenQ_exit ?_
    refine loopQ_exit ?_
    refine blockQ_exit ?_
    refine thenQ_normal ?_
    refine AW.sA ⟨[(4, (vI ((-1) : Int)))], []⟩ (Tt ∧ Tt) [] [4] [] ⟨tr, tr⟩ ?_
    refine AW.ret ?_
    replace h := some_eq h
    subst h
    exact ⟨.inr rfl, retOK_of [(.one (cI ((-1) : Int)))] (by kernel_rfl) ⟨⟨rfl, tr⟩, tr⟩ (of_decide_eq_true (by kernel_rfl))⟩

/-! slices.ContainsFunc[[]int64,int64] -/
def slices_ContainsFunc_int64_int64 (K : Nat) (a0 : (List Int)) (a1_0_0 : Int) : Option (Bool) :=
  (slices_IndexFunc_int64_int64 K a0 a1_0_0).bind fun v1 => some (decide (v1 ≥ (0 : Int)))

theorem ok_slices_ContainsFunc_int64_int64 (K : Nat) (a0 : (List Int)) (a1_0_0 : Int) (o : (Bool)) (h : slices_ContainsFunc_int64_int64 K a0 a1_0_0 = some o) : CallOK Try.prog 27 [.one (sl 1 (csI .i64) a0), .one (.fn 28 1 fun j => [(pl 1 (csI .i64) a1_0_0)].getD j .nilptr)] [.one (.bool o)] := by
  refine callOK_of_AW Try.func27 rfl (by kernel_rfl) (Nat.le_of_ble_eq_true (by kernel_rfl)) ?_
  intro w0
  unfold slices_ContainsFunc_int64_int64 at h
  refine AW.sC (Tt ∧ Tt) [] [0, 1] [] ⟨tr, tr⟩ ?_
  refine AW.seq ?_
  obtain ⟨v1, e2, h⟩ := bind_some h
  let z1 := pl 1 (csI .i64) a1_0_0
  let z2 := sl 1 (csI .i64) a0
  refine AW.tA ⟨[(4, (vB (decide (v1 ≥ (0 : Int)))))], []⟩ (T2 ((((Eqc z2) ∧ (Eqc (.fn 28 1 fun j => [z1].getD j .nilptr)) ∧ Tt) ∧ CallOK Try.prog 48 [.one z2, .one (.fn 28 1 fun j => [z1].getD j .nilptr)] [.one (.int .i64 v1)]) ∧ T2 Tt)) [.no, .no, .call [.one z2, .one (.fn 28 1 fun j => [z1].getD j .nilptr)] [.one (.int .i64 v1)] [[.view]]] [4] [] ⟨tr, tr, ⟨⟨rfl, rfl, tr⟩, ok_slices_IndexFunc_int64_int64 K a0 a1_0_0 v1 e2⟩, tr, tr, tr⟩ ?_
  refine AW.ret ?_
  replace h := some_eq h
  subst h
  exact ⟨.inr rfl, retOK_of [(.one (.c (.bool (decide (v1 ≥ (0 : Int))))))] (by kernel_rfl) ⟨⟨rfl, tr⟩, tr⟩ (of_decide_eq_true (by kernel_rfl))⟩

/-! impl.IsPairing -/
def impl_IsPairing_l1 (K : Nat) (a0 : Skeleton) (a1 : (List Int)) : Nat → Int → Option (Bool)
  | 0, _ => none
  | k + 1, x11 => ite2 ((decide (x11 < (a1.length : Int)))) (chk (0 ≤ x11 ∧ x11 < (a1.length : Int)) (chk (0 ≤ (a1.getD x11.toNat default) ∧ (a1.getD x11.toNat default) < (a1.length : Int)) ((ite2 (((a1.getD ((a1.getD x11.toNat default).toNat) default) != x11)) (some true) (ite2 ((decide (x11 > (0 : Int)))) (chk (0 ≤ (a1.getD x11.toNat default) ∧ (a1.getD x11.toNat default) < (a0.Bones.length : Int)) (chk (0 ≤ x11 ∧ x11 < (a0.Bones.length : Int)) (chk (0 ≤ ((a0.Bones.getD x11.toNat default).Parent) ∧ ((a0.Bones.getD x11.toNat default).Parent) < (a1.length : Int)) (some (((a0.Bones.getD ((a1.getD x11.toNat default).toNat) default).Parent) != (a1.getD (((a0.Bones.getD x11.toNat default).Parent).toNat) default)))))) (some false))).bind fun j20 => ite2 (j20) (some false) (impl_IsPairing_l1 K a0 a1 k (IntKind.i64.wrap (x11 + (1 : Int))))))) (some true)

def impl_IsPairing (K : Nat) (a0 : Skeleton) (a1 : (List Int)) : Option (Bool) :=
  (impl_ValidSkeleton K a0).bind fun v1 => (ite2 ((!v1)) (some true) (some ((a1.length : Int) != (a0.Bones.length : Int)))).bind fun j4 => ite2 (j4) (some false) ((slices_ContainsFunc_int64_int64 K a1 (a0.Bones.length : Int)).bind fun v7 => ite2 (v7) (some false) (impl_IsPairing_l1 K a0 a1 K (0 : Int)))

theorem ok_impl_IsPairing (K : Nat) (a0 : Skeleton) (a1 : (List Int)) (o : (Bool)) (h : impl_IsPairing K a0 a1 = some o) : CallOK Try.prog 10 [.agg (cs_Skeleton a0), .one (sl 1 (csI .i64) a1)] [.one (.bool o)] := by
  refine callOK_of_AW Try.func10 rfl (by kernel_rfl) (Nat.le_of_ble_eq_true (by kernel_rfl)) ?_
  intro w0
  unfold impl_IsPairing at h
  refine AW.sC (T2 Tt) [.box 1] [1, 2] [1] ⟨tr, tr, tr⟩ ?_
  let z7 := sl 1 (csI .i64) a1
  let z1 := vc z7
  let z2 := sl 4 cs_Bone a0.Bones
  let z5 := cI (a0.Bones.length : Int)
  refine AW.sA ⟨[(1, z1), (2, (vp 1 0)), (5, (vp 2 0))], [(1, (.box [(.c z2)])), (2, (.box [z5]))]⟩ (Tt ∧ T4 Tt) [.no, .no, .no, .box 2] [1, 2, 5] [1, 2] ⟨tr, tr, tr, tr, tr, tr⟩ ?_
  refine AW.seq ?_
  refine AW.seq ?_
  obtain ⟨v1, e2, h⟩ := bind_some h
  obtain ⟨j4, e5, h⟩ := bind_some h
  refine AW.join1 (s2 := ⟨[(1, z1), (2, (vp 1 0)), (5, (vp 2 0)), (19, (vB j4))], [(1, (.box [(.c z2)])), (2, (.box [z5]))]⟩) ?_ ?_
  · rcases ite2_cases e5 with ⟨b3, e5⟩ | ⟨b3, e5⟩
    · replace e5 := some_eq e5
      subst e5
      exact AW.rA ⟨[(1, z1), (2, (vp 1 0)), (5, (vp 2 0)), (19, (vB true))], [(1, (.box [(.c z2)])), (2, (.box [z5]))]⟩ (Tt ∧ ((((Eqc z2) ∧ Tt) ∧ Tt) ∧ CallOK Try.prog 26 [.agg (cs_Skeleton a0)] [.one (.bool v1)]) ∧ Tt ∧ (Tt ∧ (!v1) = true) ∧ Tt ∧ T4 Tt) [.no, .call [.agg (cs_Skeleton a0)] [.one (.bool v1)] [[.view]], .no, .dec true] [1, 2, 5, 19] [1, 2] ⟨tr, ⟨⟨⟨rfl, tr⟩, tr⟩, ok_impl_ValidSkeleton K a0 v1 e2⟩, tr, ⟨tr, b3⟩, tr, tr, tr, tr, tr, tr⟩ ⟨rfl, rfl⟩
    · replace e5 := some_eq e5
      subst e5
      exact AW.rA ⟨[(1, z1), (2, (vp 1 0)), (5, (vp 2 0)), (19, (vB ((a1.length : Int) != (a0.Bones.length : Int))))], [(1, (.box [(.c z2)])), (2, (.box [z5]))]⟩ (Tt ∧ ((((Eqc z2) ∧ Tt) ∧ Tt) ∧ CallOK Try.prog 26 [.agg (cs_Skeleton a0)] [.one (.bool v1)]) ∧ Tt ∧ (Tt ∧ (!v1) = false) ∧ Tt ∧ T4 Tt) [.no, .call [.agg (cs_Skeleton a0)] [.one (.bool v1)] [[.view]], .no, .dec false] [1, 2, 5, 19] [1, 2] ⟨tr, ⟨⟨⟨rfl, tr⟩, tr⟩, ok_impl_ValidSkeleton K a0 v1 e2⟩, tr, ⟨tr, b3⟩, tr, tr, tr, tr, tr, tr⟩ ⟨rfl, rfl⟩
  refine thenQ_normal ?_
  rcases ite2_cases h with ⟨b6, h⟩ | ⟨b6, h⟩
  · refine AW.cond_t rfl b6 ?_
    refine AW.sA ⟨[(4, (vB false))], []⟩ (Tt ∧ Tt) [] [4] [] ⟨tr, tr⟩ ?_
    refine AW.ret ?_
    refine thenQ_ret ?_
    replace h := some_eq h
    subst h
    exact ⟨.inr rfl, retOK_of [(.one (.c (.bool false)))] (by kernel_rfl) ⟨⟨rfl, tr⟩, tr⟩ (of_decide_eq_true (by kernel_rfl))⟩
  · refine AW.cond_f rfl b6 ?_
    refine AW.skip ?_
    refine thenQ_normal ?_
    refine AW.seq ?_
    refine AW.seq ?_
    obtain ⟨v7, e8, h⟩ := bind_some h
    let z8 := pl 1 (csI .i64) (a0.Bones.length : Int)
    refine AW.tA ⟨[(1, z1), (2, (vp 1 0)), (22, (vB v7))], [(1, (.box [(.c z2)]))]⟩ (T2 ((((Eqc z7) ∧ (28 = 28 ∧ 1 = 1 ∧ ((eI (a0.Bones.length : Int)) ∧ Tt) ∧ Tt) ∧ Tt) ∧ CallOK Try.prog 27 [.one z7, .one (.fn 28 1 fun j => [z8].getD j .nilptr)] [.one (.bool v7)]) ∧ Tt)) [.no, .no, .call [.one z7, .one (.fn 28 1 fun j => [z8].getD j .nilptr)] [.one (.bool v7)] [[.view]]] [1, 2, 22] [1] ⟨tr, tr, ⟨⟨rfl, ⟨rfl, rfl, ⟨⟨rfl, tr⟩, tr⟩⟩, tr⟩, ok_slices_ContainsFunc_int64_int64 K a1 (a0.Bones.length : Int) v7 e8⟩, tr⟩ ?_
    rcases ite2_cases h with ⟨b9, h⟩ | ⟨b9, h⟩
    · refine AW.cond_t rfl b9 ?_
      refine AW.sA ⟨[(4, (vB false))], []⟩ (Tt ∧ Tt) [] [4] [] ⟨tr, tr⟩ ?_
      refine AW.ret ?_
      refine thenQ_ret ?_
      replace h := some_eq h
      subst h
      exact ⟨.inr rfl, retOK_of [(.one (.c (.bool false)))] (by kernel_rfl) ⟨⟨rfl, tr⟩, tr⟩ (of_decide_eq_true (by kernel_rfl))⟩
    · refine AW.cond_f rfl b9 ?_
      refine AW.skip ?_
      refine thenQ_normal ?_
      refine AW.seq ?_
      let z4 := vI (a1.length : Int)
      refine AW.sA ⟨[(1, z1), (2, (vp 1 0)), (23, z1), (24, z4), (25, (vI (0 : Int)))], [(1, (.box [(.c z2)]))]⟩ (Tt ∧ T2 Tt) [] [1, 2, 23, 24, 25] [1] ⟨tr, tr, tr, tr⟩ ?_
      refine AW.block ?_
      refine AW.loopQ (σ := Nat × Int) (fun p => ⟨[(1, z1), (2, (vp 1 0)), (23, z1), (24, z4), (25, (vI p.2))], [(1, (.box [(.c z2)]))]⟩) (fun p => impl_IsPairing_l1 K a0 a1 p.1 p.2 = some o) (fun p => p.1) (K, (0 : Int)) h ?_
      clear h
      rintro ⟨k, x11⟩ h
      replace h : impl_IsPairing_l1 K a0 a1 k x11 = some o := h
      show AW _ _ (⟨[(1, z1), (2, (vp 1 0)), (23, z1), (24, z4), (25, (vI x11))], [(1, (.box [(.c z2)]))]⟩ : St) _
      obtain _ | k := k
      · rw [impl_IsPairing_l1] at h; cases h
      rw [impl_IsPairing_l1] at h
      refine AW.sA ⟨[(1, z1), (2, (vp 1 0)), (23, z1), (24, z4), (25, (vI x11)), (26, (vB (decide (x11 < (a1.length : Int)))))], [(1, (.box [(.c z2)]))]⟩ (Tt ∧ Tt) [] [1, 2, 23, 24, 25, 26] [1] ⟨tr, tr⟩ ?_
      refine AW.seq ?_
      rcases ite2_cases h with ⟨b12, h⟩ | ⟨b12, h⟩
      · refine AW.cond_t rfl b12 ?_
        refine AW.skip ?_
        refine thenQ_normal ?_
        refine AW.seq ?_
        refine AW.block ?_
        refine AW.seq ?_
        obtain ⟨c13, h⟩ := chk_some h
        let z3 := a1.getD x11.toNat default
        refine AW.tA ⟨[(1, z1), (2, (vp 1 0)), (6, (vI x11)), (7, (vI z3)), (23, z1), (24, z4), (25, (vI x11))], [(1, (.box [(.c z2)]))]⟩ (Tt ∧ (0 ≤ x11 ∧ x11 < (a1.length : Int)) ∧ Tt ∧ T2 Tt) [] [1, 2, 6, 7, 23, 24, 25] [1] ⟨tr, c13, tr, tr, tr, tr⟩ ?_
        refine AW.seq ?_
        obtain ⟨c14, h⟩ := chk_some h
        obtain ⟨j20, e21, h⟩ := bind_some h
        refine AW.join1 (s2 := ⟨[(1, z1), (2, (vp 1 0)), (23, z1), (24, z4), (25, (vI x11)), (57, (vB j20))], [(1, (.box [(.c z2)]))]⟩) ?_ ?_
        · rcases ite2_cases e21 with ⟨b15, e21⟩ | ⟨b15, e21⟩
          · replace e21 := some_eq e21
            subst e21
            exact AW.dA ⟨[(1, z1), (2, (vp 1 0)), (23, z1), (24, z4), (25, (vI x11)), (57, (vB true))], [(1, (.box [(.c z2)]))]⟩ ((T2 ((0 ≤ z3 ∧ z3 < (a1.length : Int)) ∧ Tt ∧ T2 ((Tt ∧ ((a1.getD (z3.toNat) default) != x11) = true) ∧ Tt ∧ T4 (T4 (T4 (T4 (T4 Tt))))))) ∧ (Tt)) 28 [.no, .no, .no, .no, .no, .no, .dec true] [1, 2, 23, 24, 25, 57] [1] ⟨⟨tr, tr, c14, tr, tr, tr, ⟨tr, b15⟩, tr, tr, tr, tr, tr, tr, tr, tr, tr, tr, tr, tr, tr, tr, tr, tr, tr, tr, tr, tr, tr, tr⟩, tr⟩ ⟨rfl, rfl⟩
          · rcases ite2_cases e21 with ⟨b16, e21⟩ | ⟨b16, e21⟩
            · obtain ⟨c17, e21⟩ := chk_some e21
              obtain ⟨c18, e21⟩ := chk_some e21
              obtain ⟨c19, e21⟩ := chk_some e21
              replace e21 := some_eq e21
              subst e21
              let z6 := (a0.Bones.getD x11.toNat default).Parent
              exact AW.dA ⟨[(1, z1), (2, (vp 1 0)), (23, z1), (24, z4), (25, (vI x11)), (57, (vB (((a0.Bones.getD (z3.toNat) default).Parent) != (a1.getD (z6.toNat) default))))], [(1, (.box [(.c z2)]))]⟩ ((T2 ((0 ≤ z3 ∧ z3 < (a1.length : Int)) ∧ Tt ∧ T2 ((Tt ∧ ((a1.getD (z3.toNat) default) != x11) = false) ∧ T2 ((Tt ∧ (decide (x11 > (0 : Int))) = true) ∧ Tt ∧ T2 ((0 ≤ z3 ∧ z3 < (a0.Bones.length : Int)) ∧ T2 (T4 ((0 ≤ x11 ∧ x11 < (a0.Bones.length : Int)) ∧ T2 ((0 ≤ z6 ∧ z6 < (a1.length : Int)) ∧ T4 Tt)))))))) ∧ (Tt)) 28 [.no, .no, .no, .no, .no, .no, .dec false, .no, .no, .dec true] [1, 2, 23, 24, 25, 57] [1] ⟨⟨tr, tr, c14, tr, tr, tr, ⟨tr, b15⟩, tr, tr, ⟨tr, b16⟩, tr, tr, tr, c17, tr, tr, tr, tr, tr, tr, c18, tr, tr, c19, tr, tr, tr, tr, tr⟩, tr⟩ ⟨rfl, rfl⟩
            · replace e21 := some_eq e21
              subst e21
              exact AW.dA ⟨[(1, z1), (2, (vp 1 0)), (23, z1), (24, z4), (25, (vI x11)), (57, (vB false))], [(1, (.box [(.c z2)]))]⟩ ((T2 ((0 ≤ z3 ∧ z3 < (a1.length : Int)) ∧ Tt ∧ T2 ((Tt ∧ ((a1.getD (z3.toNat) default) != x11) = false) ∧ T2 ((Tt ∧ (decide (x11 > (0 : Int))) = false) ∧ T2 (T4 (T4 (T4 (T4 Tt)))))))) ∧ (Tt)) 28 [.no, .no, .no, .no, .no, .no, .dec false, .no, .no, .dec false] [1, 2, 23, 24, 25, 57] [1] ⟨⟨tr, tr, c14, tr, tr, tr, ⟨tr, b15⟩, tr, tr, ⟨tr, b16⟩, tr, tr, tr, tr, tr, tr, tr, tr, tr, tr, tr, tr, tr, tr, tr, tr, tr, tr, tr⟩, tr⟩ ⟨rfl, rfl⟩
        refine thenQ_normal ?_
        rcases ite2_cases h with ⟨b22, h⟩ | ⟨b22, h⟩
        · refine AW.cond_t rfl b22 ?_
          refine AW.sA ⟨[(4, (vB false))], []⟩ (Tt ∧ Tt) [] [4] [] ⟨tr, tr⟩ ?_
          refine AW.ret ?_
          refine blockQ_ret ?_
          refine thenQ_ret ?_
          refine loopQ_ret ?_
          refine blockQ_ret ?_
          refine thenQ_ret ?_
          replace h := some_eq h
          subst h
          exact ⟨.inr rfl, retOK_of [(.one (.c (.bool false)))] (by kernel_rfl) ⟨⟨rfl, tr⟩, tr⟩ (of_decide_eq_true (by kernel_rfl))⟩
        · refine AW.cond_f rfl b22 ?_
          refine AW.skip ?_
          refine blockQ_normal ?_
          refine thenQ_normal ?_
          let z9 := IntKind.i64.wrap (x11 + (1 : Int))
          refine AW.rA ⟨[(1, z1), (2, (vp 1 0)), (23, z1), (24, z4), (25, (vI z9))], [(1, (.box [(.c z2)]))]⟩ (T2 Tt) [] [1, 2, 23, 24, 25] [1] ⟨tr, tr, tr⟩ ?_
          exact loopQ_normal (k, z9) h (Nat.lt_succ_self k) (Sub.keep [1, 2, 23, 24, 25] [1] (by kernel_rfl) (by kernel_rfl))
      · refine AW.cond_f rfl b12 ?_
        refine AW.exit ?_
        refine thenQ_exit ?_
        refine loopQ_exit ?_
        refine blockQ_exit ?_
        refine thenQ_normal ?_
        refine AW.sA ⟨[(4, (vB true))], []⟩ (Tt ∧ Tt) [] [4] [] ⟨tr, tr⟩ ?_
        refine AW.ret ?_
        replace h := some_eq h
        subst h
        exact ⟨.inr rfl, retOK_of [(.one (.c (.bool true)))] (by kernel_rfl) ⟨⟨rfl, tr⟩, tr⟩ (of_decide_eq_true (by kernel_rfl))⟩

/-! (impl.Vector).mirrored -/
def impl_Vector_mirrored (_K : Nat) (a0 : Vector) : Option (Vector) :=
  some (Vector.mk (a0.X.neg) a0.Y a0.Z)

theorem ok_impl_Vector_mirrored (K : Nat) (a0 : Vector) (o : (Vector)) (h : impl_Vector_mirrored K a0 = some o) : CallOK Try.prog 23 [.agg (cs_Vector a0)] [.agg (cs_Vector o)] := by
  refine callOK_of_AW Try.func23 rfl (by kernel_rfl) (Nat.le_of_ble_eq_true (by kernel_rfl)) ?_
  intro w0
  unfold impl_Vector_mirrored at h
  refine AW.sC (T2 Tt) [.box 1, .box 2] [1, 2] [1, 2] ⟨tr, tr, tr⟩ ?_
  refine AW.sA ⟨[(2, (vp 2 0))], [(2, (.box [(cF (a0.X.neg)), (cF a0.Y), (cF a0.Z)]))]⟩ (Tt ∧ T4 (T4 Tt)) [] [2] [2] ⟨tr, tr, tr, tr, tr, tr, tr, tr, tr, tr⟩ ?_
  refine AW.ret ?_
  replace h := some_eq h
  subst h
  exact ⟨.inr rfl, retOK_of [(.agg [(cF (a0.X.neg)), (cF a0.Y), (cF a0.Z)])] (by kernel_rfl) ⟨⟨⟨rfl, tr⟩, ⟨rfl, tr⟩, ⟨rfl, tr⟩, tr⟩, tr⟩ (of_decide_eq_true (by kernel_rfl))⟩

/-! (impl.Turn).mirrored -/
def impl_Turn_mirrored (_K : Nat) (a0 : Turn) : Option (Turn) :=
  some (Turn.mk a0.W a0.X (a0.Y.neg) (a0.Z.neg))

theorem ok_impl_Turn_mirrored (K : Nat) (a0 : Turn) (o : (Turn)) (h : impl_Turn_mirrored K a0 = some o) : CallOK Try.prog 24 [.agg (cs_Turn a0)] [.agg (cs_Turn o)] := by
  refine callOK_of_AW Try.func24 rfl (by kernel_rfl) (Nat.le_of_ble_eq_true (by kernel_rfl)) ?_
  intro w0
  unfold impl_Turn_mirrored at h
  refine AW.sC (T2 Tt) [.box 1, .box 2] [1, 2] [1, 2] ⟨tr, tr, tr⟩ ?_
  refine AW.sA ⟨[(2, (vp 2 0))], [(2, (.box [(cF a0.W), (cF a0.X), (cF (a0.Y.neg)), (cF (a0.Z.neg))]))]⟩ (T4 (T4 (T4 Tt))) [] [2] [2] ⟨tr, tr, tr, tr, tr, tr, tr, tr, tr, tr, tr, tr, tr⟩ ?_
  refine AW.ret ?_
  replace h := some_eq h
  subst h
  exact ⟨.inr rfl, retOK_of [(.agg [(cF a0.W), (cF a0.X), (cF (a0.Y.neg)), (cF (a0.Z.neg))])] (by kernel_rfl) ⟨⟨⟨rfl, tr⟩, ⟨rfl, tr⟩, ⟨rfl, tr⟩, ⟨rfl, tr⟩, tr⟩, tr⟩ (of_decide_eq_true (by kernel_rfl))⟩

/-! impl.MirrorPose -/
def impl_MirrorPose_l1 (K : Nat) (a1 : Pose) (a2 : (List Int)) (v9 : (Vector)) : Nat → Int → (List Turn) → Option (Pose × Bool)
  | 0, _, _ => none
  | k + 1, x14, x15 => ite2 ((decide (x14 < (a2.length : Int)))) (chk (0 ≤ x14 ∧ x14 < (a2.length : Int)) (chk (0 ≤ (a2.getD x14.toNat default) ∧ (a2.getD x14.toNat default) < (a1.Turns.length : Int)) ((impl_Turn_mirrored K (a1.Turns.getD ((a2.getD x14.toNat default).toNat) default)).bind fun v19 => chk (0 ≤ x14 ∧ x14 < (x15.length : Int)) (impl_MirrorPose_l1 K a1 a2 v9 k (IntKind.i64.wrap (x14 + (1 : Int))) (x15.set x14.toNat v19))))) (some ((Pose.mk v9 x15), true))

def impl_MirrorPose (K : Nat) (a0 : Skeleton) (a1 : Pose) (a2 : (List Int)) : Option (Pose × Bool) :=
  (impl_IsPose K a0 a1).bind fun v1 => (ite2 ((!v1)) (some true) ((impl_IsPairing K a0 a2).bind fun v4 => some (!v4))).bind fun j6 => ite2 (j6) (some ((Pose.mk (Vector.mk (default : F32) (default : F32) (default : F32)) ([] : (List Turn))), false)) ((impl_Vector_mirrored K a1.Root).bind fun v9 => chk (0 ≤ (a2.length : Int) ∧ (a2.length : Int).toNat * 16 ≤ 140737488355328) (impl_MirrorPose_l1 K a1 a2 v9 K (0 : Int) (List.replicate (a2.length : Int).toNat (default : Turn))))

theorem ok_impl_MirrorPose (K : Nat) (a0 : Skeleton) (a1 : Pose) (a2 : (List Int)) (o : (Pose × Bool)) (h : impl_MirrorPose K a0 a1 a2 = some o) : CallOK Try.prog 8 [.agg (cs_Skeleton a0), .agg (cs_Pose a1), .one (sl 1 (csI .i64) a2)] [.agg (cs_Pose o.1), .one (.bool o.2)] := by
  refine callOK_of_AW Try.func8 rfl (by kernel_rfl) (Nat.le_of_ble_eq_true (by kernel_rfl)) ?_
  intro w0
  unfold impl_MirrorPose at h
  let z1 := cF (default : F32)
  let z3 := sl 4 cs_Turn a1.Turns
  let z4 := sl 1 (csI .i64) a2
  let z5 := cF a1.Root.X
  let z6 := cF a1.Root.Y
  let z7 := cF a1.Root.Z
  let z9 := sl 4 cs_Bone a0.Bones
  refine AW.sA ⟨[(2, (vc z4)), (3, (vp 1 0)), (4, (vp 2 0)), (6, (vp 3 0))], [(1, (.box [(.c z9)])), (2, (.box [z5, z6, z7, (.c z3)])), (3, (.box [z1, z1, z1, .nils]))]⟩ (T4 Tt) [.box 1, .box 2, .box 3] [2, 3, 4, 6] [1, 2, 3] ⟨tr, tr, tr, tr, tr⟩ ?_
  refine AW.seq ?_
  refine AW.seq ?_
  obtain ⟨v1, e2, h⟩ := bind_some h
  obtain ⟨j6, e7, h⟩ := bind_some h
  refine AW.join1 (s2 := ⟨[(2, (vc z4)), (4, (vp 2 0)), (6, (vp 3 0)), (20, (vB j6))], [(2, (.box [z5, z6, z7, (.c z3)])), (3, (.box [z1, z1, z1, .nils]))]⟩) ?_ ?_
  · rcases ite2_cases e7 with ⟨b3, e7⟩ | ⟨b3, e7⟩
    · replace e7 := some_eq e7
      subst e7
      let z14 : List CT := [.agg (cs_Skeleton a0), .agg (cs_Pose a1)]
      exact AW.rA ⟨[(2, (vc z4)), (4, (vp 2 0)), (6, (vp 3 0)), (20, (vB true))], [(2, (.box [z5, z6, z7, (.c z3)])), (3, (.box [z1, z1, z1, .nils]))]⟩ (T2 (((((Eqc z9) ∧ Tt) ∧ ((eF a1.Root.X) ∧ (eF a1.Root.Y) ∧ (eF a1.Root.Z) ∧ (Eqc z3) ∧ Tt) ∧ Tt) ∧ CallOK Try.prog 22 z14 [.one (.bool v1)]) ∧ Tt ∧ (Tt ∧ (!v1) = true) ∧ Tt ∧ T4 Tt)) [.no, .no, .call z14 [.one (.bool v1)] [[.view]], .no, .dec true] [2, 4, 6, 20] [2, 3] ⟨tr, tr, ⟨⟨⟨rfl, tr⟩, ⟨rfl, rfl, rfl, rfl, tr⟩, tr⟩, ok_impl_IsPose K a0 a1 v1 e2⟩, tr, ⟨tr, b3⟩, tr, tr, tr, tr, tr, tr⟩ ⟨rfl, rfl⟩
    · obtain ⟨v4, e5, e7⟩ := bind_some e7
      replace e7 := some_eq e7
      subst e7
      let z12 := cs_Skeleton a0
      exact AW.rA ⟨[(2, (vc z4)), (4, (vp 2 0)), (6, (vp 3 0)), (20, (vB (!v4)))], [(2, (.box [z5, z6, z7, (.c z3)])), (3, (.box [z1, z1, z1, .nils]))]⟩ (T2 (((((Eqc z9) ∧ Tt) ∧ ((eF a1.Root.X) ∧ (eF a1.Root.Y) ∧ (eF a1.Root.Z) ∧ (Eqc z3) ∧ Tt) ∧ Tt) ∧ CallOK Try.prog 22 [.agg z12, .agg (cs_Pose a1)] [.one (.bool v1)]) ∧ Tt ∧ (Tt ∧ (!v1) = false) ∧ T2 (((((Eqc z9) ∧ Tt) ∧ (Eqc z4) ∧ Tt) ∧ CallOK Try.prog 10 [.agg z12, .one z4] [.one (.bool v4)]) ∧ T2 Tt))) [.no, .no, .call [.agg z12, .agg (cs_Pose a1)] [.one (.bool v1)] [[.view]], .no, .dec false, .no, .no, .call [.agg z12, .one z4] [.one (.bool v4)] [[.view]]] [2, 4, 6, 20] [2, 3] ⟨tr, tr, ⟨⟨⟨rfl, tr⟩, ⟨rfl, rfl, rfl, rfl, tr⟩, tr⟩, ok_impl_IsPose K a0 a1 v1 e2⟩, tr, ⟨tr, b3⟩, tr, tr, ⟨⟨⟨rfl, tr⟩, rfl, tr⟩, ok_impl_IsPairing K a0 a2 v4 e5⟩, tr, tr, tr⟩ ⟨rfl, rfl⟩
  refine thenQ_normal ?_
  rcases ite2_cases h with ⟨b8, h⟩ | ⟨b8, h⟩
  · refine AW.cond_t rfl b8 ?_
    refine AW.sA ⟨[(6, (vp 3 0)), (7, (vB false))], [(3, (.box [z1, z1, z1, .nils]))]⟩ (Tt ∧ T2 Tt) [] [6, 7] [3] ⟨tr, tr, tr, tr⟩ ?_
    refine AW.ret ?_
    refine thenQ_ret ?_
    replace h := some_eq h
    subst h
    exact ⟨.inr rfl, retOK_of [(.agg [z1, z1, z1, .nils]), (.one (.c (.bool false)))] (by kernel_rfl) ⟨⟨⟨rfl, tr⟩, ⟨rfl, tr⟩, ⟨rfl, tr⟩, rfl, tr⟩, ⟨rfl, tr⟩, tr⟩ (of_decide_eq_true (by kernel_rfl))⟩
  · refine AW.cond_f rfl b8 ?_
    refine AW.skip ?_
    refine thenQ_normal ?_
    refine AW.seq ?_
    obtain ⟨v9, e10, h⟩ := bind_some h
    obtain ⟨c11, h⟩ := chk_some h
    let z2 := List.replicate (a2.length : Int).toNat (default : Turn)
    refine AW.dA ⟨[(2, (vc z4)), (4, (vp 2 0)), (6, (vp 3 0)), (8, (vp 5 0))], [(2, (.box [z5, z6, z7, (.c z3)])), (3, (.box [z1, z1, z1, .nils])), (4, (.arr false z2.length 4 (gl cs_Turn z2))), (5, (.box [(cF v9.X), (cF v9.Y), (cF v9.Z), (.arr 4)]))]⟩ ((T2 (((((eF a1.Root.X) ∧ (eF a1.Root.Y) ∧ (eF a1.Root.Z) ∧ Tt) ∧ Tt) ∧ CallOK Try.prog 23 [.agg (cs_Vector a1.Root)] [.agg (cs_Vector v9)]) ∧ T2 ((0 ≤ (a2.length : Int) ∧ (a2.length : Int) = (a2.length : Int) ∧ ((z2.length : Nat) : Int) = (a2.length : Int) ∧ z2.length * 16 ≤ 140737488355328 ∧ ∀ i, i < z2.length → zeroRow (fun _ => none) [z1, z1, z1, z1] (gl cs_Turn z2 i)) ∧ T2 Tt))) ∧ (Tt ∧ Tt)) 8 [.no, .no, .call [.agg (cs_Vector a1.Root)] [.agg (cs_Vector v9)] [[.view, .view, .view]], .no, .no, .objA 4 z2.length (gl cs_Turn z2), .no, .box 5] [2, 4, 6, 8] [2, 3, 4, 5] ⟨⟨tr, tr, ⟨⟨⟨rfl, rfl, rfl, tr⟩, tr⟩, ok_impl_Vector_mirrored K a1.Root v9 e10⟩, tr, tr, ⟨c11.1, rfl, len_rep c11.1, rep_bytes c11.2, fun i hi => gl_zero (cs := cs_Turn) (zs := [z1, z1, z1, z1]) (n := (a2.length : Int).toNat) ⟨⟨rfl, tr⟩, ⟨rfl, tr⟩, ⟨rfl, tr⟩, ⟨rfl, tr⟩, tr⟩ i (rep_lt hi)⟩, tr, tr, tr⟩, ⟨tr, tr⟩⟩ ?_
    refine thenQ_normal ?_
    refine AW.seq ?_
    let z8 := vI (a2.length : Int)
    refine AW.sA ⟨[(4, (vp 2 0)), (6, (vp 3 0)), (8, (vp 5 0)), (29, (vc z4)), (30, z8), (31, (vI (0 : Int)))], [(2, (.box [z5, z6, z7, (.c z3)])), (3, (.box [z1, z1, z1, .nils])), (4, (.arr false z2.length 4 (gl cs_Turn z2))), (5, (.box [(cF v9.X), (cF v9.Y), (cF v9.Z), (.arr 4)]))]⟩ (Tt ∧ T2 Tt) [] [4, 6, 8, 29, 30, 31] [2, 3, 4, 5] ⟨tr, tr, tr, tr⟩ ?_
    refine AW.block ?_
    refine AW.loopQ (σ := Nat × Int × (List Turn)) (fun p => ⟨[(4, (vp 2 0)), (6, (vp 3 0)), (8, (vp 5 0)), (29, (vc z4)), (30, z8), (31, (vI p.2.1))], [(2, (.box [z5, z6, z7, (.c z3)])), (3, (.box [z1, z1, z1, .nils])), (4, (.arr false p.2.2.length 4 (gl cs_Turn p.2.2))), (5, (.box [(cF v9.X), (cF v9.Y), (cF v9.Z), (.arr 4)]))]⟩) (fun p => impl_MirrorPose_l1 K a1 a2 v9 p.1 p.2.1 p.2.2 = some o) (fun p => p.1) (K, (0 : Int), z2) h ?_
    clear h
    rintro ⟨k, x14, x15⟩ h
    replace h : impl_MirrorPose_l1 K a1 a2 v9 k x14 x15 = some o := h
    let z10 := gl cs_Turn x15
    show AW _ _ (⟨[(4, (vp 2 0)), (6, (vp 3 0)), (8, (vp 5 0)), (29, (vc z4)), (30, z8), (31, (vI x14))], [(2, (.box [z5, z6, z7, (.c z3)])), (3, (.box [z1, z1, z1, .nils])), (4, (.arr false x15.length 4 z10)), (5, (.box [(cF v9.X), (cF v9.Y), (cF v9.Z), (.arr 4)]))]⟩ : St) _
    obtain _ | k := k
    · rw [impl_MirrorPose_l1] at h; cases h
    rw [impl_MirrorPose_l1] at h
    refine AW.sA ⟨[(4, (vp 2 0)), (6, (vp 3 0)), (8, (vp 5 0)), (29, (vc z4)), (30, z8), (31, (vI x14)), (32, (vB (decide (x14 < (a2.length : Int)))))], [(2, (.box [z5, z6, z7, (.c z3)])), (3, (.box [z1, z1, z1, .nils])), (4, (.arr false x15.length 4 z10)), (5, (.box [(cF v9.X), (cF v9.Y), (cF v9.Z), (.arr 4)]))]⟩ (Tt ∧ Tt) [] [4, 6, 8, 29, 30, 31, 32] [2, 3, 4, 5] ⟨tr, tr⟩ ?_
    refine AW.seq ?_
    rcases ite2_cases h with ⟨b16, h⟩ | ⟨b16, h⟩
    · refine AW.cond_t rfl b16 ?_
      refine AW.skip ?_
      refine thenQ_normal ?_
      refine AW.seq ?_
      refine AW.block ?_
      refine AW.seq ?_
      obtain ⟨c17, h⟩ := chk_some h
      refine AW.tA ⟨[(4, (vp 2 0)), (6, (vp 3 0)), (8, (vp 5 0)), (9, (vI x14)), (10, (vI (a2.getD x14.toNat default))), (29, (vc z4)), (30, z8), (31, (vI x14))], [(2, (.box [z5, z6, z7, (.c z3)])), (3, (.box [z1, z1, z1, .nils])), (4, (.arr false x15.length 4 z10)), (5, (.box [(cF v9.X), (cF v9.Y), (cF v9.Z), (.arr 4)]))]⟩ (Tt ∧ (0 ≤ x14 ∧ x14 < (a2.length : Int)) ∧ Tt ∧ T2 Tt) [] [4, 6, 8, 9, 10, 29, 30, 31] [2, 3, 4, 5] ⟨tr, c17, tr, tr, tr, tr⟩ ?_
      obtain ⟨c18, h⟩ := chk_some h
      obtain ⟨v19, e20, h⟩ := bind_some h
      obtain ⟨c21, h⟩ := chk_some h
      refine AW.dA ⟨[(4, (vp 2 0)), (6, (vp 3 0)), (8, (vp 5 0)), (29, (vc (sl 1 (csI .i64) a2))), (30, (vI (a2.length : Int))), (31, (vI x14))], [(2, (.box [(cF a1.Root.X), (cF a1.Root.Y), (cF a1.Root.Z), (.c (sl 4 cs_Turn a1.Turns))])), (3, (.box [(cF (default : F32)), (cF (default : F32)), (cF (default : F32)), .nils])), (4, (.arr false (x15.set x14.toNat v19).length 4 (gl cs_Turn (x15.set x14.toNat v19)))), (5, (.box [(cF v9.X), (cF v9.Y), (cF v9.Z), (.arr 4)]))]⟩ ((T2 (T4 ((0 ≤ (a2.getD x14.toNat default) ∧ (a2.getD x14.toNat default) < (a1.Turns.length : Int)) ∧ Tt ∧ ((((eF ((a1.Turns.getD ((a2.getD x14.toNat default).toNat) default).W)) ∧ (eF ((a1.Turns.getD ((a2.getD x14.toNat default).toNat) default).X)) ∧ (eF ((a1.Turns.getD ((a2.getD x14.toNat default).toNat) default).Y)) ∧ (eF ((a1.Turns.getD ((a2.getD x14.toNat default).toNat) default).Z)) ∧ Tt) ∧ Tt) ∧ CallOK Try.prog 24 [.agg (cs_Turn (a1.Turns.getD ((a2.getD x14.toNat default).toNat) default))] [.agg (cs_Turn v19)]) ∧ (0 ≤ x14 ∧ x14 < (x15.length : Int)) ∧ Tt))) ∧ (((x15.set x14.toNat v19).length = x15.length ∧ SetOb x15.length 4 x14.toNat 0 4 (gl cs_Turn x15) (gl cs_Turn (x15.set x14.toNat v19)) ∧ ((List.range 4).map fun j => (cs_Turn v19).getD (0 + j) .nilptr) = ((List.range 4).map fun j => gl cs_Turn (x15.set x14.toNat v19) x14.toNat (0 + j)) ∧ ((((.flt .f32 v19.W.bits) : C) = (.flt .f32 v19.W.bits) ∧ Tt) ∧ (((.flt .f32 v19.X.bits) : C) = (.flt .f32 v19.X.bits) ∧ Tt) ∧ (((.flt .f32 v19.Y.bits) : C) = (.flt .f32 v19.Y.bits) ∧ Tt) ∧ (((.flt .f32 v19.Z.bits) : C) = (.flt .f32 v19.Z.bits) ∧ Tt) ∧ Tt) ∧ (false = true → ∀ j, j < 4 → isSeq (gl cs_Turn x15 x14.toNat (0 + j)) = false ∧ isSeq (gl cs_Turn (x15.set x14.toNat v19) x14.toNat (0 + j)) = false)) ∧ Tt)) 10 [.no, .no, .no, .no, .no, .no, .no, .no, .call [.agg (cs_Turn (a1.Turns.getD ((a2.getD x14.toNat default).toNat) default))] [.agg (cs_Turn v19)] [[.view, .view, .view, .view]], .no, .set (x15.set x14.toNat v19).length (gl cs_Turn (x15.set x14.toNat v19)) ((List.range 4).map fun j => (cs_Turn v19).getD (0 + j) .nilptr)] [4, 6, 8, 29, 30, 31] [2, 3, 4, 5] ⟨⟨tr, tr, tr, tr, tr, tr, c18, tr, ⟨⟨⟨rfl, rfl, rfl, rfl, tr⟩, tr⟩, ok_impl_Turn_mirrored K (a1.Turns.getD ((a2.getD x14.toNat default).toNat) default) v19 e20⟩, c21, tr⟩, ⟨⟨List.length_set, gl_set, (gl_atp (lt_of_bound c21)).symm, ⟨⟨rfl, tr⟩, ⟨rfl, tr⟩, ⟨rfl, tr⟩, ⟨rfl, tr⟩, tr⟩, (fun h => nomatch h)⟩, tr⟩⟩ ?_
      refine blockQ_normal ?_
      refine thenQ_normal ?_
      let z11 := x15.set x14.toNat v19
      let z13 := IntKind.i64.wrap (x14 + (1 : Int))
      refine AW.rA ⟨[(4, (vp 2 0)), (6, (vp 3 0)), (8, (vp 5 0)), (29, (vc z4)), (30, z8), (31, (vI z13))], [(2, (.box [z5, z6, z7, (.c z3)])), (3, (.box [z1, z1, z1, .nils])), (4, (.arr false z11.length 4 (gl cs_Turn z11))), (5, (.box [(cF v9.X), (cF v9.Y), (cF v9.Z), (.arr 4)]))]⟩ (T2 Tt) [] [4, 6, 8, 29, 30, 31] [2, 3, 4, 5] ⟨tr, tr, tr⟩ ?_
      exact loopQ_normal (k, z13, z11) h (Nat.lt_succ_self k) (Sub.keep [4, 6, 8, 29, 30, 31] [2, 3, 4, 5] (by kernel_rfl) (by kernel_rfl))
    · refine AW.cond_f rfl b16 ?_
      refine AW.exit ?_
      refine thenQ_exit ?_
      refine loopQ_exit ?_
      refine blockQ_exit ?_
      refine thenQ_normal ?_
      refine AW.sA ⟨[(6, (vp 3 0)), (7, (vB true))], [(3, (.box [(cF v9.X), (cF v9.Y), (cF v9.Z), (.arr 4)])), (4, (.arr false x15.length 4 z10))]⟩ (Tt ∧ T2 Tt) [] [6, 7] [3, 4] ⟨tr, tr, tr, tr⟩ ?_
      refine AW.ret ?_
      replace h := some_eq h
      subst h
      exact ⟨.inr rfl, retOK_of [(.agg [(cF v9.X), (cF v9.Y), (cF v9.Z), (.arr 4)]), (.one (.c (.bool true)))] (by kernel_rfl) ⟨⟨⟨rfl, tr⟩, ⟨rfl, tr⟩, ⟨rfl, tr⟩, rfl, tr⟩, ⟨rfl, tr⟩, tr⟩ (of_decide_eq_true (by kernel_rfl))⟩

/-! slices.Clone[[]impl.Bone,impl.Bone] -/
def slices_Clone_impl_Bone_impl_Bone (_K : Nat) (a0 : (List Bone)) : Option ((List Bone)) :=
  chk ((([] : List Bone).length + a0.length) * 24 ≤ 140737488355328) (some (([] : List Bone) ++ a0))

theorem ok_slices_Clone_impl_Bone_impl_Bone (K : Nat) (a0 : (List Bone)) (o : ((List Bone))) (h : slices_Clone_impl_Bone_impl_Bone K a0 = some o) : CallOK Try.prog 25 [.one (sl 4 cs_Bone a0)] [.one (sl 4 cs_Bone o)] := by
  refine callOK_of_AW Try.func25 rfl (by kernel_rfl) (Nat.le_of_ble_eq_true (by kernel_rfl)) ?_
  intro w0
  unfold slices_Clone_impl_Bone_impl_Bone at h
  refine AW.sA ⟨[(0, (vc (sl 4 cs_Bone a0)))], []⟩ (Tt ∧ Tt) [] [0] [] ⟨tr, tr⟩ ?_
  refine AW.seq ?_
  refine AW.seq ?_
  refine AW.nilA (d := 4) (n := a0.length) 1 [.no] [0] [] (s' := ⟨[(0, (vc (sl 4 cs_Bone a0)))], []⟩) (ob := Tt ∧ Tt) (by kernel_rfl) ⟨tr, tr⟩ ?_
  intro b2 b1
  cases b2
  · refine thenQ_normal ?_
    refine AW.cond_f (b := false) rfl rfl ?_
    refine AW.skip ?_
    refine thenQ_normal ?_
    refine AW.seq ?_
    obtain ⟨c3, h⟩ := chk_some h
    refine AW.tA ⟨[(2, (vL 2 4 cs_Bone (([] : List Bone) ++ a0)))], [(2, (oL 4 cs_Bone (([] : List Bone) ++ a0)))]⟩ ((([] : List Bone).length = 0 ∧ Tt) ∧ Tt ∧ ((([] : List Bone) ++ a0).length = ([] : List Bone).length + a0.length ∧ AppOb (([] : List Bone).length) (a0.length) 4 (gl cs_Bone ([] : List Bone)) (gl cs_Bone a0) (gl cs_Bone (([] : List Bone) ++ a0)) ∧ (∀ i j, i < a0.length → j < 4 → scalarC (gl cs_Bone a0 i j)) ∧ (([] : List Bone).length + a0.length) * 24 ≤ 140737488355328) ∧ Tt ∧ Tt) [.obj 1 ([] : List Bone).length (gl cs_Bone ([] : List Bone)), .no, .obj 2 (([] : List Bone) ++ a0).length (gl cs_Bone (([] : List Bone) ++ a0))] [2] [2] ⟨⟨rfl, tr⟩, tr, ⟨List.length_append, gl_append, gl_scalar sc_Bone _, c3⟩, tr, tr⟩ ?_
    refine AW.ret ?_
    replace h := some_eq h
    subst h
    exact ⟨.inr rfl, retOK_of [(.one (xL 2 4 cs_Bone (([] : List Bone) ++ a0)))] (by kernel_rfl) ⟨rfl, tr⟩ (of_decide_eq_true (by kernel_rfl))⟩
  · obtain rfl := List.eq_nil_of_length_eq_zero (b1 rfl)
    replace h : some ([] : (List Bone)) = some o := by simpa [chk] using h
    refine thenQ_normal ?_
    refine AW.cond_t (b := true) rfl rfl ?_
    refine AW.sA ⟨[(2, (.v (.one .nils)))], []⟩ (Tt ∧ Tt) [] [2] [] ⟨tr, tr⟩ ?_
    refine AW.ret ?_
    refine thenQ_ret ?_
    replace h := some_eq h
    subst h
    exact ⟨.inr rfl, retOK_of [(.one .nils)] (by kernel_rfl) ⟨rfl, tr⟩ (of_decide_eq_true (by kernel_rfl))⟩

/-! impl.MirrorSkeleton -/
def impl_MirrorSkeleton_l1 (K : Nat) (a0 : Skeleton) (a1 : (List Int)) : Nat → Int → (List Bone) → Option (Skeleton × Bool)
  | 0, _, _ => none
  | k + 1, x8, x9 => ite2 ((decide (x8 < (a1.length : Int)))) (chk (0 ≤ x8 ∧ x8 < (a1.length : Int)) (chk (0 ≤ (a1.getD x8.toNat default) ∧ (a1.getD x8.toNat default) < (a0.Bones.length : Int)) ((impl_Vector_mirrored K ((a0.Bones.getD ((a1.getD x8.toNat default).toNat) default).Offset)).bind fun v13 => chk (0 ≤ x8 ∧ x8 < (x9.length : Int)) ((some (x9.set x8.toNat (Bone.mk ((x9.getD x8.toNat default).Parent) v13))).bind fun y16 => impl_MirrorSkeleton_l1 K a0 a1 k (IntKind.i64.wrap (x8 + (1 : Int))) y16)))) (some ((Skeleton.mk x9), true))

def impl_MirrorSkeleton (K : Nat) (a0 : Skeleton) (a1 : (List Int)) : Option (Skeleton × Bool) :=
  (impl_IsPairing K a0 a1).bind fun v1 => ite2 ((!v1)) (some ((Skeleton.mk ([] : (List Bone))), false)) ((slices_Clone_impl_Bone_impl_Bone K a0.Bones).bind fun v4 => impl_MirrorSkeleton_l1 K a0 a1 K (0 : Int) v4)

theorem ok_impl_MirrorSkeleton (K : Nat) (a0 : Skeleton) (a1 : (List Int)) (o : (Skeleton × Bool)) (h : impl_MirrorSkeleton K a0 a1 = some o) : CallOK Try.prog 9 [.agg (cs_Skeleton a0), .one (sl 1 (csI .i64) a1)] [.agg (cs_Skeleton o.1), .one (.bool o.2)] := by
  refine callOK_of_AW Try.func9 rfl (by kernel_rfl) (Nat.le_of_ble_eq_true (by kernel_rfl)) ?_
  intro w0
  unfold impl_MirrorSkeleton at h
  refine AW.sC (Tt ∧ T2 Tt) [.box 1, .box 2] [1, 2, 4] [1, 2] ⟨tr, tr, tr, tr⟩ ?_
  refine AW.seq ?_
  refine AW.seq ?_
  obtain ⟨v1, e2, h⟩ := bind_some h
  let z1 := sl 4 cs_Bone a0.Bones
  let z2 := sl 1 (csI .i64) a1
  refine AW.tA ⟨[(1, (vc z2)), (2, (vp 1 0)), (4, (vp 2 0)), (12, (vB (!v1)))], [(1, (.box [(.c z1)])), (2, (.box [.nils]))]⟩ (T2 (((((Eqc z1) ∧ Tt) ∧ (Eqc z2) ∧ Tt) ∧ CallOK Try.prog 10 [.agg (cs_Skeleton a0), .one z2] [.one (.bool v1)]) ∧ Tt ∧ Tt)) [.no, .no, .call [.agg (cs_Skeleton a0), .one z2] [.one (.bool v1)] [[.view]]] [1, 2, 4, 12] [1, 2] ⟨tr, tr, ⟨⟨⟨rfl, tr⟩, rfl, tr⟩, ok_impl_IsPairing K a0 a1 v1 e2⟩, tr, tr⟩ ?_
  rcases ite2_cases h with ⟨b3, h⟩ | ⟨b3, h⟩
  · refine AW.cond_t rfl b3 ?_
    refine AW.sA ⟨[(4, (vp 2 0)), (5, (vB false))], [(2, (.box [.nils]))]⟩ (Tt ∧ T2 Tt) [] [4, 5] [2] ⟨tr, tr, tr, tr⟩ ?_
    refine AW.ret ?_
    refine thenQ_ret ?_
    replace h := some_eq h
    subst h
    exact ⟨.inr rfl, retOK_of [(.agg [.nils]), (.one (.c (.bool false)))] (by kernel_rfl) ⟨⟨rfl, tr⟩, ⟨rfl, tr⟩, tr⟩ (of_decide_eq_true (by kernel_rfl))⟩
  · refine AW.cond_f rfl b3 ?_
    refine AW.skip ?_
    refine thenQ_normal ?_
    refine AW.seq ?_
    obtain ⟨v4, e5, h⟩ := bind_some h
    refine AW.tC (T2 ((((Eqc z1) ∧ Tt) ∧ CallOK Try.prog 25 [.one z1] [.one (sl 4 cs_Bone v4)]) ∧ Tt ∧ T2 Tt)) [.no, .no, .call [.one z1] [.one (sl 4 cs_Bone v4)] [[.own 3]], .no, .box 4] [1, 2, 4, 6] [1, 2, 3, 4] ⟨tr, tr, ⟨⟨rfl, tr⟩, ok_slices_Clone_impl_Bone_impl_Bone K a0.Bones v4 e5⟩, tr, tr, tr, tr⟩ ?_
    refine AW.seq ?_
    let z3 := vI (a1.length : Int)
    refine AW.sA ⟨[(2, (vp 1 0)), (4, (vp 2 0)), (6, (vp 4 0)), (18, (vc z2)), (19, z3), (20, (vI (0 : Int)))], [(1, (.box [(.c z1)])), (2, (.box [.nils])), (3, (oA 4 cs_Bone v4)), (4, (.box [(.arr 3)]))]⟩ (Tt ∧ T2 Tt) [] [2, 4, 6, 18, 19, 20] [1, 2, 3, 4] ⟨tr, tr, tr, tr⟩ ?_
    refine AW.block ?_
    refine AW.loopQ (σ := Nat × Int × (List Bone)) (fun p => ⟨[(2, (vp 1 0)), (4, (vp 2 0)), (6, (vp 4 0)), (18, (vc z2)), (19, z3), (20, (vI p.2.1))], [(1, (.box [(.c z1)])), (2, (.box [.nils])), (3, (oA 4 cs_Bone p.2.2)), (4, (.box [(.arr 3)]))]⟩) (fun p => impl_MirrorSkeleton_l1 K a0 a1 p.1 p.2.1 p.2.2 = some o) (fun p => p.1) (K, (0 : Int), v4) h ?_
    clear h
    rintro ⟨k, x8, x9⟩ h
    replace h : impl_MirrorSkeleton_l1 K a0 a1 k x8 x9 = some o := h
    let z4 := oA 4 cs_Bone x9
    show AW _ _ (⟨[(2, (vp 1 0)), (4, (vp 2 0)), (6, (vp 4 0)), (18, (vc z2)), (19, z3), (20, (vI x8))], [(1, (.box [(.c z1)])), (2, (.box [.nils])), (3, z4), (4, (.box [(.arr 3)]))]⟩ : St) _
    obtain _ | k := k
    · rw [impl_MirrorSkeleton_l1] at h; cases h
    rw [impl_MirrorSkeleton_l1] at h
    refine AW.sA ⟨[(2, (vp 1 0)), (4, (vp 2 0)), (6, (vp 4 0)), (18, (vc z2)), (19, z3), (20, (vI x8)), (21, (vB (decide (x8 < (a1.length : Int)))))], [(1, (.box [(.c z1)])), (2, (.box [.nils])), (3, z4), (4, (.box [(.arr 3)]))]⟩ (Tt ∧ Tt) [] [2, 4, 6, 18, 19, 20, 21] [1, 2, 3, 4] ⟨tr, tr⟩ ?_
    refine AW.seq ?_
    rcases ite2_cases h with ⟨b10, h⟩ | ⟨b10, h⟩
    · refine AW.cond_t rfl b10 ?_
      refine AW.skip ?_
      refine thenQ_normal ?_
      refine AW.seq ?_
      refine AW.block ?_
      refine AW.seq ?_
      obtain ⟨c11, h⟩ := chk_some h
      refine AW.tA ⟨[(2, (vp 1 0)), (4, (vp 2 0)), (6, (vp 4 0)), (7, (vI x8)), (8, (vI (a1.getD x8.toNat default))), (18, (vc z2)), (19, z3), (20, (vI x8))], [(1, (.box [(.c z1)])), (2, (.box [.nils])), (3, z4), (4, (.box [(.arr 3)]))]⟩ (Tt ∧ (0 ≤ x8 ∧ x8 < (a1.length : Int)) ∧ Tt ∧ T2 Tt) [] [2, 4, 6, 7, 8, 18, 19, 20] [1, 2, 3, 4] ⟨tr, c11, tr, tr, tr, tr⟩ ?_
      obtain ⟨c12, h⟩ := chk_some h
      obtain ⟨v13, e14, h⟩ := bind_some h
      obtain ⟨c15, h⟩ := chk_some h
      obtain ⟨y16, e17, h⟩ := bind_some h
      refine AW.dA ⟨[(2, (vp 1 0)), (4, (vp 2 0)), (6, (vp 4 0)), (18, (vc (sl 1 (csI .i64) a1))), (19, (vI (a1.length : Int))), (20, (vI x8))], [(1, (.box [(.c (sl 4 cs_Bone a0.Bones))])), (2, (.box [.nils])), (3, (oA 4 cs_Bone y16)), (4, (.box [(.arr 3)]))]⟩ ((T2 (T4 ((0 ≤ (a1.getD x8.toNat default) ∧ (a1.getD x8.toNat default) < (a0.Bones.length : Int)) ∧ T2 (((((((.flt .f32 (((a0.Bones.getD ((a1.getD x8.toNat default).toNat) default).Offset).X).bits) : C) = (.flt .f32 (((a0.Bones.getD ((a1.getD x8.toNat default).toNat) default).Offset).X).bits)) ∧ (((.flt .f32 (((a0.Bones.getD ((a1.getD x8.toNat default).toNat) default).Offset).Y).bits) : C) = (.flt .f32 (((a0.Bones.getD ((a1.getD x8.toNat default).toNat) default).Offset).Y).bits)) ∧ (((.flt .f32 (((a0.Bones.getD ((a1.getD x8.toNat default).toNat) default).Offset).Z).bits) : C) = (.flt .f32 (((a0.Bones.getD ((a1.getD x8.toNat default).toNat) default).Offset).Z).bits)) ∧ Tt) ∧ Tt) ∧ CallOK Try.prog 23 [.agg (cs_Vector ((a0.Bones.getD ((a1.getD x8.toNat default).toNat) default).Offset))] [.agg (cs_Vector v13)]) ∧ (0 ≤ x8 ∧ x8 < (x9.length : Int)) ∧ Tt ∧ Tt)))) ∧ ((y16.length = x9.length ∧ SetOb x9.length 4 x8.toNat 1 3 (gl cs_Bone x9) (gl cs_Bone y16) ∧ ((List.range 3).map fun j => (cs_Bone (Bone.mk ((x9.getD x8.toNat default).Parent) v13)).getD (1 + j) .nilptr) = ((List.range 3).map fun j => gl cs_Bone y16 x8.toNat (1 + j)) ∧ ((((.flt .f32 v13.X.bits) : C) = (.flt .f32 v13.X.bits) ∧ Tt) ∧ (((.flt .f32 v13.Y.bits) : C) = (.flt .f32 v13.Y.bits) ∧ Tt) ∧ (((.flt .f32 v13.Z.bits) : C) = (.flt .f32 v13.Z.bits) ∧ Tt) ∧ Tt) ∧ (true = true → ∀ j, j < 3 → isSeq (gl cs_Bone x9 x8.toNat (1 + j)) = false ∧ isSeq (gl cs_Bone y16 x8.toNat (1 + j)) = false)) ∧ Tt)) 12 [.no, .no, .no, .no, .no, .no, .no, .no, .no, .call [.agg (cs_Vector ((a0.Bones.getD ((a1.getD x8.toNat default).toNat) default).Offset))] [.agg (cs_Vector v13)] [[.view, .view, .view]], .no, .no, .set y16.length (gl cs_Bone y16) ((List.range 3).map fun j => (cs_Bone (Bone.mk ((x9.getD x8.toNat default).Parent) v13)).getD (1 + j) .nilptr)] [2, 4, 6, 18, 19, 20] [1, 2, 3, 4] ⟨⟨tr, tr, tr, tr, tr, tr, c12, tr, tr, ⟨⟨⟨rfl, rfl, rfl, tr⟩, tr⟩, ok_impl_Vector_mirrored K ((a0.Bones.getD ((a1.getD x8.toNat default).toNat) default).Offset) v13 e14⟩, c15, tr, tr⟩, ⟨(letP (some_eq e17) (fun z => (z.length = x9.length ∧ SetOb x9.length 4 x8.toNat 1 3 (gl cs_Bone x9) (gl cs_Bone z) ∧ ((List.range 3).map fun j => (cs_Bone (Bone.mk ((x9.getD x8.toNat default).Parent) v13)).getD (1 + j) .nilptr) = ((List.range 3).map fun j => gl cs_Bone z x8.toNat (1 + j)) ∧ ((((.flt .f32 v13.X.bits) : C) = (.flt .f32 v13.X.bits) ∧ Tt) ∧ (((.flt .f32 v13.Y.bits) : C) = (.flt .f32 v13.Y.bits) ∧ Tt) ∧ (((.flt .f32 v13.Z.bits) : C) = (.flt .f32 v13.Z.bits) ∧ Tt) ∧ Tt) ∧ (true = true → ∀ j, j < 3 → isSeq (gl cs_Bone x9 x8.toNat (1 + j)) = false ∧ isSeq (gl cs_Bone z x8.toNat (1 + j)) = false))) ⟨List.length_set, gl_setp (fun j hj hn => match j, hj, hn with | 0, _, _ => rfl | 1, _, hn => absurd ⟨by decide, by decide⟩ hn | 2, _, hn => absurd ⟨by decide, by decide⟩ hn | 3, _, hn => absurd ⟨by decide, by decide⟩ hn) (lt_of_bound c15), (gl_atp (lt_of_bound c15)).symm, ⟨⟨rfl, tr⟩, ⟨rfl, tr⟩, ⟨rfl, tr⟩, tr⟩, (fun _ j hj => match j, hj with | 0, _ => ⟨rfl, rfl⟩ | 1, _ => ⟨rfl, rfl⟩ | 2, _ => ⟨rfl, rfl⟩)⟩), tr⟩⟩ ?_
      refine blockQ_normal ?_
      refine thenQ_normal ?_
      let z5 := IntKind.i64.wrap (x8 + (1 : Int))
      refine AW.rA ⟨[(2, (vp 1 0)), (4, (vp 2 0)), (6, (vp 4 0)), (18, (vc z2)), (19, z3), (20, (vI z5))], [(1, (.box [(.c z1)])), (2, (.box [.nils])), (3, (oA 4 cs_Bone y16)), (4, (.box [(.arr 3)]))]⟩ (T2 Tt) [] [2, 4, 6, 18, 19, 20] [1, 2, 3, 4] ⟨tr, tr, tr⟩ ?_
      exact loopQ_normal (k, z5, y16) h (Nat.lt_succ_self k) (Sub.keep [2, 4, 6, 18, 19, 20] [1, 2, 3, 4] (by kernel_rfl) (by kernel_rfl))
    · refine AW.cond_f rfl b10 ?_
      refine AW.exit ?_
      refine thenQ_exit ?_
      refine loopQ_exit ?_
      refine blockQ_exit ?_
      refine thenQ_normal ?_
      refine AW.sA ⟨[(4, (vp 2 0)), (5, (vB true))], [(2, (.box [(.arr 3)])), (3, z4)]⟩ (Tt ∧ T2 Tt) [] [4, 5] [2, 3] ⟨tr, tr, tr, tr⟩ ?_
      refine AW.ret ?_
      replace h := some_eq h
      subst h
      exact ⟨.inr rfl, retOK_of [(.agg [(.arr 3)]), (.one (.c (.bool true)))] (by kernel_rfl) ⟨⟨rfl, tr⟩, ⟨rfl, tr⟩, tr⟩ (of_decide_eq_true (by kernel_rfl))⟩

/-! math.Float64bits -/
def math_Float64bits (_K : Nat) (a0 : F64) : Option (Int) :=
  a0.toBits

theorem ok_math_Float64bits (K : Nat) (a0 : F64) (o : Int) (h : math_Float64bits K a0 = some o) : CallOK Try.prog 86 [.one (.flt .f64 a0.bits)] [.one (.int .u64 o)] :=
  hand_toBits (e := Extern.MathFloatBits.float64bits) Try.func86 (by kernel_rfl) (by kernel_rfl) (by kernel_rfl) (by kernel_rfl) (fun _ _ => rfl) a0 o h

/-! math.Signbit -/
def math_Signbit (K : Nat) (a0 : F64) : Option (Bool) :=
  (math_Float64bits K a0).bind fun v1 => some (decide ((IntKind.i64.wrap v1) < (0 : Int)))

theorem ok_math_Signbit (K : Nat) (a0 : F64) (o : (Bool)) (h : math_Signbit K a0 = some o) : CallOK Try.prog 66 [.one (.flt .f64 a0.bits)] [.one (.bool o)] := by
  refine callOK_of_AW Try.func66 rfl (by kernel_rfl) (Nat.le_of_ble_eq_true (by kernel_rfl)) ?_
  intro w0
  unfold math_Signbit at h
  refine AW.sC (Tt ∧ Tt) [] [0] [] ⟨tr, tr⟩ ?_
  refine AW.seq ?_
  obtain ⟨v1, e2, h⟩ := bind_some h
  let z1 := decide ((IntKind.i64.wrap v1) < (0 : Int))
  refine AW.tA ⟨[(2, (vB z1))], []⟩ (Tt ∧ (((Eqc (.flt .f64 a0.bits)) ∧ Tt) ∧ CallOK Try.prog 86 [.one (.flt .f64 a0.bits)] [.one (.int .u64 v1)]) ∧ Tt ∧ T2 Tt) [.no, .call [.one (.flt .f64 a0.bits)] [.one (.int .u64 v1)] [[.view]]] [2] [] ⟨tr, ⟨⟨rfl, tr⟩, ok_math_Float64bits K a0 v1 e2⟩, tr, tr, tr, tr⟩ ?_
  refine AW.ret ?_
  replace h := some_eq h
  subst h
  exact ⟨.inr rfl, retOK_of [(.one (.c (.bool z1)))] (by kernel_rfl) ⟨⟨rfl, tr⟩, tr⟩ (of_decide_eq_true (by kernel_rfl))⟩

end
end Go.Fw
