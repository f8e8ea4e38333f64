/- Functions of the program: what each computes, and that it computes just that. -/
import Derived.Test.YtcgakaboochpaadGreatFwTy
import Derived.Test.YtcgakaboochpaadGreatFwH
import Derived.Test.YtcgakaboochpaadGreatFwV
import Derived.Test.YtcgakaboochpaadGreatFwHF
import Derived.Test.YtcgakaboochpaadGreatFwMK
import Derived.Test.YtcgakaboochpaadGreatFwAB
import Derived.Test.YtcgakaboochpaadGreatFwLB
import Derived.Test.YtcgakaboochpaadGreatFwSh
import Derived.Test.YtcgakaboochpaadGreatFwSO
import Derived.Test.YtcgakaboochpaadGreatFwU
import Derived.Test.YtcgakaboochpaadGreatFwUB
import Derived.Test.YtcgakaboochpaadGreatProg
import Derived.KernelRfl
namespace Go.Fw
open Go Go.Proofs
noncomputable section
set_option maxRecDepth 10000

/-! laws.b10Long -/
def laws_b10Long (_K : Nat) (a0 : (List Int)) (a1 : (List Int)) : Option (Bool) :=
 (ite2 ((decide ((a0.length : Int) > (1048576 : Int)))) (some true) (some (decide ((a1.length : Int) > (1048576 : Int))))).bind fun j2 => some j2

theorem ok_laws_b10Long (K : Nat) (a0 : (List Int)) (a1 : (List Int)) (o : (Bool)) (h : laws_b10Long K a0 a1 = some o) : CallOK Tryz.prog 4 [.one (sl 1 (csI .u8) a0), .one (sl 1 (csI .u8) a1)] [.one (.bool o)] := by
 refine zqh Tryz.func4 rfl (by kernel_rfl) (Nat.le_of_ble_eq_true (by kernel_rfl)) ?_
 intro w0
 unfold laws_b10Long at h
 refine AW.sA ⟨[(0, (vc (sl 1 (csI .u8) a0))), (1, (vc (sl 1 (csI .u8) a1)))], []⟩ (Tt ∧ Tt) [] [0, 1] [] ⟨tr, tr⟩ ?_
 refine AW.seq ?_
 obtain ⟨j2, e3, h⟩ := zqb h
 refine AW.join1 (s2 := ⟨[(4, (vB j2))], []⟩) ?_ ?_
 ·rcases zqc e3 with ⟨b1, e3⟩ | ⟨b1, e3⟩
  ·replace e3 := zqd e3
   subst e3
   exact AW.rA ⟨[(4, (vB true))], []⟩ (Tt ∧ T2 ((Tt ∧ (decide ((a0.length : Int) > (1048576 : Int))) = true) ∧ Tt ∧ T4 Tt)) [.no, .no, .no, .dec true] [4] [] ⟨tr, tr, tr, ⟨tr, b1⟩, tr, tr, tr, tr, tr, tr⟩ ⟨rfl, rfl⟩
  ·replace e3 := zqd e3
   subst e3
   exact AW.rA ⟨[(4, (vB (decide ((a1.length : Int) > (1048576 : Int)))))], []⟩ (Tt ∧ T2 ((Tt ∧ (decide ((a0.length : Int) > (1048576 : Int))) = false) ∧ Tt ∧ T4 Tt)) [.no, .no, .no, .dec false] [4] [] ⟨tr, tr, tr, ⟨tr, b1⟩, tr, tr, tr, tr, tr, tr⟩ ⟨rfl, rfl⟩
 refine zqa ?_
 refine AW.ret ?_
 replace h := zqd h
 subst h
 exact ⟨.inr rfl, zqe [(.one (.c (.bool j2)))] (by kernel_rfl) ⟨⟨rfl, tr⟩, tr⟩ (of_decide_eq_true (by kernel_rfl))⟩

/-! spec.l00From -/
theorem mk_spec_l00From : MkOK Tryz.prog 17 86 [(.i64, 0), (.u64, 0)] := by
 refine mkOK_of Tryz.func17 rfl (by kernel_rfl) fun w ad n cap => ?_
 refine wp_seq (wp_region_lit (zy8 (x := (.pointer none)) (w' := w) rfl (by kernel_rfl) (wpList_nil ?_)))
 refine wp_seq (wp_region_lit (zy8 (x := (.slice ad n cap)) (w' := w) rfl (by kernel_rfl) (zy8 (x := (.agg #[(.slice ad n cap), .int .i64 0, .int .u64 0])) (w' := w) rfl (by kernel_rfl) (zy8 (x := (.pointer (some ⟨w.heap.size, 0, none⟩))) (w' := (w.alloc (.cells #[(.slice ad n cap), .int .i64 0, .int .u64 0] 86))) rfl (by kernel_rfl) (zy8 (x := (.pointer (some ⟨w.heap.size, 0, none⟩))) (w' := (w.alloc (.cells #[(.slice ad n cap), .int .i64 0, .int .u64 0] 86))) rfl (by kernel_rfl) (wpList_nil ?_))))))
 exact wp_ret ⟨rfl, (.pointer (some ⟨w.heap.size, 0, none⟩)), (by kernel_rfl), _, rfl, rfl, rfl⟩



/-! (*spec.l00Src).next -/
def zjf (_K : Nat) (a0 : l00Src) : Option (Int × Int × Int) :=
 ite2 ((decide (a0.at_ < (a0.code.length : Int)))) (chk (0 ≤ a0.at_ ∧ a0.at_ < (a0.code.length : Int)) (ite2 ((decide ((IntKind.i64.wrap (a0.at_ + (1 : Int))) ≤ (a0.code.length : Int)))) (some ((IntKind.i64.wrap (a0.code.getD a0.at_.toNat default)), (IntKind.i64.wrap (a0.at_ + (1 : Int))), (IntKind.u64.wrap ((IntKind.u64.wrap ((IntKind.u64.wrap (a0.seed * (6364136223846793005 : Int))) + (IntKind.u64.wrap (IntKind.i64.wrap (a0.code.getD a0.at_.toNat default))))) + (1442695040888963407 : Int))))) (chk (0 ≤ (40 : Int)) (some ((IntKind.i64.wrap (bits .and .u64 ((IntKind.u64.wrap ((IntKind.u64.wrap ((IntKind.u64.wrap (a0.seed * (6364136223846793005 : Int))) + (IntKind.u64.wrap (IntKind.i64.wrap (a0.code.getD a0.at_.toNat default))))) + (1442695040888963407 : Int))).fdiv (2 ^ (min (40 : Int).toNat (IntKind.bits .u64)))) (255 : Int))), (IntKind.i64.wrap (a0.at_ + (1 : Int))), (IntKind.u64.wrap ((IntKind.u64.wrap ((IntKind.u64.wrap (a0.seed * (6364136223846793005 : Int))) + (IntKind.u64.wrap (IntKind.i64.wrap (a0.code.getD a0.at_.toNat default))))) + (1442695040888963407 : Int)))))))) (ite2 ((decide ((IntKind.i64.wrap (a0.at_ + (1 : Int))) ≤ (a0.code.length : Int)))) (some ((0 : Int), (IntKind.i64.wrap (a0.at_ + (1 : Int))), (IntKind.u64.wrap ((IntKind.u64.wrap ((IntKind.u64.wrap (a0.seed * (6364136223846793005 : Int))) + (IntKind.u64.wrap (0 : Int)))) + (1442695040888963407 : Int))))) (chk (0 ≤ (40 : Int)) (some ((IntKind.i64.wrap (bits .and .u64 ((IntKind.u64.wrap ((IntKind.u64.wrap ((IntKind.u64.wrap (a0.seed * (6364136223846793005 : Int))) + (IntKind.u64.wrap (0 : Int)))) + (1442695040888963407 : Int))).fdiv (2 ^ (min (40 : Int).toNat (IntKind.bits .u64)))) (255 : Int))), (IntKind.i64.wrap (a0.at_ + (1 : Int))), (IntKind.u64.wrap ((IntKind.u64.wrap ((IntKind.u64.wrap (a0.seed * (6364136223846793005 : Int))) + (IntKind.u64.wrap (0 : Int)))) + (1442695040888963407 : Int)))))))

theorem ok_spec_l00Src_next (K : Nat) (a0 : l00Src) (o : (Int × Int × Int)) (h : zjf K a0 = some o) : MutOK Tryz.prog 58 [(.box 3 (fun j => [true, false, false].getD j true) (fun j => (zqj a0).getD j .nilptr) (fun j => [.nilptr, (.int .i64 o.2.1), (.int .u64 o.2.2)].getD j .nilptr))] [.one (.int .i64 o.1)] := by
 refine zxe 1 Tryz.func58 rfl (by kernel_rfl) (Nat.le_of_ble_eq_true (by kernel_rfl)) (by kernel_rfl) (by kernel_rfl) ?_
 intro w0 K0 v0 s0
 unfold zjf at h
 let z4 := sl 1 (csI .u8) a0.code
 refine AW.weak (s' := ⟨[(0, (vp 0 0))], [(0, (.box [(.fx 0 0 z4), (cI a0.at_), (.c (.int .u64 a0.seed))]))]⟩) (zkt 0 [1, 2] (by kernel_rfl)) ?_
 refine AW.sC (Tt ∧ Tt) [] [0] [0] ⟨tr, tr⟩ ?_
 let z10 := vI (0 : Int)
 refine AW.sA ⟨[(0, (vp 0 0)), (3, z10)], [(0, (.box [(.fx 0 0 z4), (cI a0.at_), (.c (.int .u64 a0.seed))]))]⟩ (Tt ∧ Tt) [] [0, 3] [0] ⟨tr, tr⟩ ?_
 refine AW.seq ?_
 let z9 := (T2 (T4 (T4 Tt))) ∧ (Tt)
 refine AW.seq (AW.dA ⟨[(0, (vp 0 0)), (3, z10), (13, (vB (decide (a0.at_ < (a0.code.length : Int)))))], [(0, (.box [(.fx 0 0 z4), (cI a0.at_), (.c (.int .u64 a0.seed))]))]⟩ z9 10 [] [0, 3, 13] [0] ⟨⟨tr, tr, tr, tr, tr, tr, tr, tr, tr, tr, tr⟩, tr⟩ (zqa ?_))
 rcases zqc h with ⟨b1, h⟩ | ⟨b1, h⟩
 ·refine AW.cond_t rfl b1 ?_
  obtain ⟨c2, h⟩ := zqn h
  let z3 := IntKind.i64.wrap (a0.code.getD a0.at_.toNat default)
  refine AW.dA ⟨[(0, (vp 0 0)), (3, (vI z3))], [(0, (.box [(.fx 0 0 z4), (cI a0.at_), (.c (.int .u64 a0.seed))]))]⟩ ((T4 (T4 ((0 ≤ a0.at_ ∧ a0.at_ < (a0.code.length : Int)) ∧ Tt ∧ T2 Tt))) ∧ (Tt)) 12 [] [0, 3] [0] ⟨⟨tr, tr, tr, tr, tr, tr, tr, tr, c2, tr, tr, tr, tr⟩, tr⟩ ?_
  refine zqa ?_
  refine AW.sC (T4 (T4 Tt)) [] [0, 3] [0] ⟨tr, tr, tr, tr, tr, tr, tr, tr, tr⟩ ?_
  let z1 := IntKind.u64.wrap ((IntKind.u64.wrap ((IntKind.u64.wrap (a0.seed * (6364136223846793005 : Int))) + (IntKind.u64.wrap z3))) + (1442695040888963407 : Int))
  let z5 := IntKind.i64.wrap (a0.at_ + (1 : Int))
  refine AW.sA ⟨[(0, (vp 0 0)), (3, (vI z3))], [(0, (.box [(.fx 0 0 z4), (cI z5), (.c (.int .u64 z1))]))]⟩ (Tt ∧ T4 (T4 (T4 Tt))) [] [0, 3] [0] ⟨tr, tr, tr, tr, tr, tr, tr, tr, tr, tr, tr, tr, tr, tr⟩ ?_
  refine AW.seq ?_
  refine AW.seq (AW.dA ⟨[(0, (vp 0 0)), (3, (vI z3)), (53, (vB (decide (z5 ≤ (a0.code.length : Int)))))], [(0, (.box [(.fx 0 0 z4), (cI z5), (.c (.int .u64 z1))]))]⟩ z9 10 [] [0, 3, 53] [0] ⟨⟨tr, tr, tr, tr, tr, tr, tr, tr, tr, tr, tr⟩, tr⟩ (zqa ?_))
  rcases zqc h with ⟨b3, h⟩ | ⟨b3, h⟩
  ·refine AW.cond_t rfl b3 ?_
   refine AW.sA ⟨[(0, (vp 0 0)), (2, (vI z3))], [(0, (.box [(.fx 0 0 z4), (cI z5), (.c (.int .u64 z1))]))]⟩ (T2 Tt) [] [0, 2] [0] ⟨tr, tr, tr⟩ ?_
   refine AW.ret ?_
   refine zqm ?_
   replace h := zqd h
   subst h
   exact ⟨.inr rfl, zqe [(.one (cI z3))] (by kernel_rfl) ⟨⟨rfl, tr⟩, tr⟩ (of_decide_eq_true (by kernel_rfl)), by kernel_rfl, ⟨⟨rfl, ⟨⟨rfl, rfl⟩, ⟨rfl, rfl⟩, ⟨rfl, rfl⟩, tr⟩⟩, tr⟩⟩
  ·refine AW.cond_f rfl b3 ?_
   refine AW.skip ?_
   refine zqa ?_
   refine AW.seq ?_
   obtain ⟨c4, h⟩ := zqn h
   let z7 := IntKind.i64.wrap (bits .and .u64 (z1.fdiv (2 ^ (min (40 : Int).toNat (IntKind.bits .u64)))) (255 : Int))
   refine AW.tA ⟨[(0, (vp 0 0)), (2, (vI z7))], [(0, (.box [(.fx 0 0 z4), (cI z5), (.c (.int .u64 z1))]))]⟩ (T4 ((0 ≤ (40 : Int)) ∧ Tt ∧ T2 Tt)) [] [0, 2] [0] ⟨tr, tr, tr, tr, c4, tr, tr, tr, tr⟩ ?_
   refine AW.ret ?_
   replace h := zqd h
   subst h
   exact ⟨.inr rfl, zqe [(.one (cI z7))] (by kernel_rfl) ⟨⟨rfl, tr⟩, tr⟩ (of_decide_eq_true (by kernel_rfl)), by kernel_rfl, ⟨⟨rfl, ⟨⟨rfl, rfl⟩, ⟨rfl, rfl⟩, ⟨rfl, rfl⟩, tr⟩⟩, tr⟩⟩
 ·refine AW.cond_f rfl b1 ?_
  refine AW.skip ?_
  refine zqa ?_
  refine AW.sC (T4 (T4 Tt)) [] [0, 3] [0] ⟨tr, tr, tr, tr, tr, tr, tr, tr, tr⟩ ?_
  let z2 := IntKind.u64.wrap ((IntKind.u64.wrap ((IntKind.u64.wrap (a0.seed * (6364136223846793005 : Int))) + (IntKind.u64.wrap (0 : Int)))) + (1442695040888963407 : Int))
  let z6 := IntKind.i64.wrap (a0.at_ + (1 : Int))
  refine AW.sA ⟨[(0, (vp 0 0)), (3, z10)], [(0, (.box [(.fx 0 0 z4), (cI z6), (.c (.int .u64 z2))]))]⟩ (Tt ∧ T4 (T4 (T4 Tt))) [] [0, 3] [0] ⟨tr, tr, tr, tr, tr, tr, tr, tr, tr, tr, tr, tr, tr, tr⟩ ?_
  refine AW.seq ?_
  refine AW.seq (AW.dA ⟨[(0, (vp 0 0)), (3, z10), (53, (vB (decide (z6 ≤ (a0.code.length : Int)))))], [(0, (.box [(.fx 0 0 z4), (cI z6), (.c (.int .u64 z2))]))]⟩ z9 10 [] [0, 3, 53] [0] ⟨⟨tr, tr, tr, tr, tr, tr, tr, tr, tr, tr, tr⟩, tr⟩ (zqa ?_))
  rcases zqc h with ⟨b5, h⟩ | ⟨b5, h⟩
  ·refine AW.cond_t rfl b5 ?_
   refine AW.sA ⟨[(0, (vp 0 0)), (2, z10)], [(0, (.box [(.fx 0 0 z4), (cI z6), (.c (.int .u64 z2))]))]⟩ (T2 Tt) [] [0, 2] [0] ⟨tr, tr, tr⟩ ?_
   refine AW.ret ?_
   refine zqm ?_
   replace h := zqd h
   subst h
   exact ⟨.inr rfl, zqe [(.one (cI (0 : Int)))] (by kernel_rfl) ⟨⟨rfl, tr⟩, tr⟩ (of_decide_eq_true (by kernel_rfl)), by kernel_rfl, ⟨⟨rfl, ⟨⟨rfl, rfl⟩, ⟨rfl, rfl⟩, ⟨rfl, rfl⟩, tr⟩⟩, tr⟩⟩
  ·refine AW.cond_f rfl b5 ?_
   refine AW.skip ?_
   refine zqa ?_
   refine AW.seq ?_
   obtain ⟨c6, h⟩ := zqn h
   let z8 := IntKind.i64.wrap (bits .and .u64 (z2.fdiv (2 ^ (min (40 : Int).toNat (IntKind.bits .u64)))) (255 : Int))
   refine AW.tA ⟨[(0, (vp 0 0)), (2, (vI z8))], [(0, (.box [(.fx 0 0 z4), (cI z6), (.c (.int .u64 z2))]))]⟩ (T4 ((0 ≤ (40 : Int)) ∧ Tt ∧ T2 Tt)) [] [0, 2] [0] ⟨tr, tr, tr, tr, c6, tr, tr, tr, tr⟩ ?_
   refine AW.ret ?_
   replace h := zqd h
   subst h
   exact ⟨.inr rfl, zqe [(.one (cI z8))] (by kernel_rfl) ⟨⟨rfl, tr⟩, tr⟩ (of_decide_eq_true (by kernel_rfl)), by kernel_rfl, ⟨⟨rfl, ⟨⟨rfl, rfl⟩, ⟨rfl, rfl⟩, ⟨rfl, rfl⟩, tr⟩⟩, tr⟩⟩

/-! (*spec.l00Src).pick -/
def zq7 (K : Nat) (a0 : l00Src) (a1 : Int) : Option (Int × Int × Int) :=
 ite2 ((decide (a1 ≤ (1 : Int)))) (some ((0 : Int), a0.at_, a0.seed)) ((zjf K a0).bind fun v2 => ite2 ((decide (a1 > (200 : Int)))) ((zjf K (l00Src.mk a0.code v2.2.1 v2.2.2)).bind fun v5 => chk (a1 ≠ 0) (some (((IntKind.i64.wrap ((IntKind.i64.wrap (v2.1 * (256 : Int))) + v5.1)).tmod a1), v5.2.1, v5.2.2))) (chk (a1 ≠ 0) (some ((v2.1.tmod a1), v2.2.1, v2.2.2))))

theorem zq8 (K : Nat) (a0 : l00Src) (a1 : Int) (o : (Int × Int × Int)) (h : zq7 K a0 a1 = some o) : MutOK Tryz.prog 38 [(.box 3 (fun j => [true, false, false].getD j true) (fun j => (zqj a0).getD j .nilptr) (fun j => [.nilptr, (.int .i64 o.2.1), (.int .u64 o.2.2)].getD j .nilptr)), (.one (.ro (.int .i64 a1)))] [.one (.int .i64 o.1)] := by
 refine zxe 1 Tryz.func38 rfl (by kernel_rfl) (Nat.le_of_ble_eq_true (by kernel_rfl)) (by kernel_rfl) (by kernel_rfl) ?_
 intro w0 K0 v0 s0
 unfold zq7 at h
 let z1 := sl 1 (csI .u8) a0.code
 refine AW.weak (s' := ⟨[(0, (vp 0 0)), (1, (vI a1))], [(0, (.box [(.fx 0 0 z1), (cI a0.at_), (.c (.int .u64 a0.seed))]))]⟩) (zkt 0 [1, 2] (by kernel_rfl)) ?_
 refine AW.sC (Tt ∧ Tt) [] [0, 1] [0] ⟨tr, tr⟩ ?_
 refine AW.seq ?_
 refine AW.sA ⟨[(0, (vp 0 0)), (1, (vI a1)), (7, (vB (decide (a1 ≤ (1 : Int)))))], [(0, (.box [(.fx 0 0 z1), (cI a0.at_), (.c (.int .u64 a0.seed))]))]⟩ (T2 Tt) [] [0, 1, 7] [0] ⟨tr, tr, tr⟩ ?_
 rcases zqc h with ⟨b1, h⟩ | ⟨b1, h⟩
 ·refine AW.cond_t rfl b1 ?_
  refine AW.sA ⟨[(0, (vp 0 0)), (1, (vI a1)), (4, (vI (0 : Int)))], [(0, (.box [(.fx 0 0 z1), (cI a0.at_), (.c (.int .u64 a0.seed))]))]⟩ (Tt ∧ Tt) [] [0, 1, 4] [0] ⟨tr, tr⟩ ?_
  refine AW.ret ?_
  refine zqm ?_
  replace h := zqd h
  subst h
  exact ⟨.inr rfl, zqe [(.one (cI (0 : Int)))] (by kernel_rfl) ⟨⟨rfl, tr⟩, tr⟩ (of_decide_eq_true (by kernel_rfl)), by kernel_rfl, ⟨⟨rfl, ⟨⟨rfl, rfl⟩, ⟨rfl, rfl⟩, ⟨rfl, rfl⟩, tr⟩⟩, tr, tr⟩⟩
 ·refine AW.cond_f rfl b1 ?_
  refine AW.skip ?_
  refine zqa ?_
  refine AW.seq ?_
  obtain ⟨v2, e3, h⟩ := zqb h
  refine AW.tC (Tt ∧ ((((Eqc z1) ∧ (eI a0.at_) ∧ (Eqc (.int .u64 a0.seed)) ∧ Tt) ∧ Tt) ∧ MutOK Tryz.prog 58 [(.box 3 (fun j => [true, false, false].getD j true) (fun j => (zqj a0).getD j .nilptr) (fun j => [.nilptr, (.int .i64 v2.2.1), (.int .u64 v2.2.2)].getD j .nilptr))] [.one (.int .i64 v2.1)]) ∧ Tt ∧ Tt) [.no, .callM [(.box 3 (fun j => [true, false, false].getD j true) (fun j => (zqj a0).getD j .nilptr) (fun j => [.nilptr, (.int .i64 v2.2.1), (.int .u64 v2.2.2)].getD j .nilptr))] [.one (.int .i64 v2.1)] [[.view]] none] [0, 1, 5] [0] ⟨tr, ⟨⟨⟨rfl, rfl, rfl, tr⟩, tr⟩, ok_spec_l00Src_next K a0 v2 e3⟩, tr, tr⟩ ?_
  refine AW.seq ?_
  refine AW.sA ⟨[(0, (vp 0 0)), (1, (vI a1)), (5, (vI v2.1)), (11, (vB (decide (a1 > (200 : Int)))))], [(0, (.box [(.fx 0 0 z1), (cI v2.2.1), (.c (.int .u64 v2.2.2))]))]⟩ (T2 Tt) [] [0, 1, 5, 11] [0] ⟨tr, tr, tr⟩ ?_
  rcases zqc h with ⟨b4, h⟩ | ⟨b4, h⟩
  ·refine AW.cond_t rfl b4 ?_
   obtain ⟨v5, e6, h⟩ := zqb h
   let z3 := l00Src.mk a0.code v2.2.1 v2.2.2
   refine AW.tC (Tt ∧ T2 (((((Eqc z1) ∧ (eI v2.2.1) ∧ (Eqc (.int .u64 v2.2.2)) ∧ Tt) ∧ Tt) ∧ MutOK Tryz.prog 58 [(.box 3 (fun j => [true, false, false].getD j true) (fun j => (zqj z3).getD j .nilptr) (fun j => [.nilptr, (.int .i64 v5.2.1), (.int .u64 v5.2.2)].getD j .nilptr))] [.one (.int .i64 v5.1)]) ∧ T2 Tt)) [.no, .no, .no, .callM [(.box 3 (fun j => [true, false, false].getD j true) (fun j => (zqj z3).getD j .nilptr) (fun j => [.nilptr, (.int .i64 v5.2.1), (.int .u64 v5.2.2)].getD j .nilptr))] [.one (.int .i64 v5.1)] [[.view]] none] [0, 1, 5] [0] ⟨tr, tr, tr, ⟨⟨⟨rfl, rfl, rfl, tr⟩, tr⟩, ok_spec_l00Src_next K z3 v5 e6⟩, tr, tr, tr⟩ ?_
   refine AW.seq ?_
   obtain ⟨c7, h⟩ := zqn h
   let z2 := (IntKind.i64.wrap ((IntKind.i64.wrap (v2.1 * (256 : Int))) + v5.1)).tmod a1
   refine AW.tA ⟨[(0, (vp 0 0)), (1, (vI a1)), (4, (vI z2))], [(0, (.box [(.fx 0 0 z1), (cI v5.2.1), (.c (.int .u64 v5.2.2))]))]⟩ (T2 ((a1 ≠ 0) ∧ Tt ∧ Tt)) [] [0, 1, 4] [0] ⟨tr, tr, c7, tr, tr⟩ ?_
   refine AW.ret ?_
   replace h := zqd h
   subst h
   exact ⟨.inr rfl, zqe [(.one (cI z2))] (by kernel_rfl) ⟨⟨rfl, tr⟩, tr⟩ (of_decide_eq_true (by kernel_rfl)), by kernel_rfl, ⟨⟨rfl, ⟨⟨rfl, rfl⟩, ⟨rfl, rfl⟩, ⟨rfl, rfl⟩, tr⟩⟩, tr, tr⟩⟩
  ·refine AW.cond_f rfl b4 ?_
   refine AW.skip ?_
   refine zqa ?_
   refine AW.seq ?_
   obtain ⟨c8, h⟩ := zqn h
   refine AW.tA ⟨[(0, (vp 0 0)), (1, (vI a1)), (4, (vI (v2.1.tmod a1)))], [(0, (.box [(.fx 0 0 z1), (cI v2.2.1), (.c (.int .u64 v2.2.2))]))]⟩ (T2 ((a1 ≠ 0) ∧ Tt ∧ Tt)) [] [0, 1, 4] [0] ⟨tr, tr, c8, tr, tr⟩ ?_
   refine AW.ret ?_
   replace h := zqd h
   subst h
   exact ⟨.inr rfl, zqe [(.one (cI (v2.1.tmod a1)))] (by kernel_rfl) ⟨⟨rfl, tr⟩, tr⟩ (of_decide_eq_true (by kernel_rfl)), by kernel_rfl, ⟨⟨rfl, ⟨⟨rfl, rfl⟩, ⟨rfl, rfl⟩, ⟨rfl, rfl⟩, tr⟩⟩, tr, tr⟩⟩

/-! spec.l00Put -/
def zw9 (K : Nat) (a0 : (List Int)) (a1 : Int) : Nat → Bool → Int → (List Int) → Option ((List Int))
 | 0, _, _, _ => none
 | k + 1, x4, x5, x6 => ite2 ((decide (x5 < (a0.length : Int)))) ((ite2 ((!x4)) (chk (0 ≤ x5 ∧ x5 < (a0.length : Int)) (some (decide ((a0.getD x5.toNat default) ≥ a1)))) (some false)).bind fun j10 => ite2 (j10) (chk (0 ≤ x5 ∧ x5 < (a0.length : Int)) (ite2 ((decide ((a0.getD x5.toNat default) > a1))) (chk ((x6.length + ([a1]).length) * 8 ≤ 140737488355328) (chk (((x6 ++ ([a1])).length + ([(a0.getD x5.toNat default)]).length) * 8 ≤ 140737488355328) (zw9 K a0 a1 k true (IntKind.i64.wrap (x5 + (1 : Int))) ((x6 ++ ([a1])) ++ ([(a0.getD x5.toNat default)]))))) (chk ((x6.length + ([(a0.getD x5.toNat default)]).length) * 8 ≤ 140737488355328) (zw9 K a0 a1 k true (IntKind.i64.wrap (x5 + (1 : Int))) (x6 ++ ([(a0.getD x5.toNat default)])))))) (chk (0 ≤ x5 ∧ x5 < (a0.length : Int)) (chk ((x6.length + ([(a0.getD x5.toNat default)]).length) * 8 ≤ 140737488355328) (zw9 K a0 a1 k x4 (IntKind.i64.wrap (x5 + (1 : Int))) (x6 ++ ([(a0.getD x5.toNat default)])))))) (ite2 ((!x4)) (chk ((x6.length + ([a1]).length) * 8 ≤ 140737488355328) (some (x6 ++ ([a1])))) (some x6))

def zks (K : Nat) (a0 : (List Int)) (a1 : Int) : Option ((List Int)) :=
 zw9 K a0 a1 K false (0 : Int) ([] : List Int)

theorem zy2 (K : Nat) (a0 : (List Int)) (a1 : Int) (o : ((List Int))) (h : zks K a0 a1 = some o) : CallOK Tryz.prog 86 [.one (sl 1 (csI .i64) a0), .one (.int .i64 a1)] [.one (sl 1 (csI .i64) o)] := by
 refine zqh Tryz.func86 rfl (by kernel_rfl) (Nat.le_of_ble_eq_true (by kernel_rfl)) ?_
 intro w0
 unfold zks at h
 refine AW.sC (Tt ∧ Tt) [] [0, 1] [] ⟨tr, tr⟩ ?_
 refine AW.sC ((([] : List Int).length = 0 ∧ Tt) ∧ Tt ∧ Tt) [.obj 1 ([] : List Int).length (gl (csI .i64) ([] : List Int))] [0, 1, 5] [1] ⟨⟨rfl, tr⟩, tr, tr⟩ ?_
 refine AW.sC (Tt ∧ Tt) [] [0, 1, 5, 6] [1] ⟨tr, tr⟩ ?_
 refine AW.seq ?_
 let z3 := vc (sl 1 (csI .i64) a0)
 refine AW.sA ⟨[(0, z3), (1, (vI a1)), (5, (vL 1 1 (csI .i64) ([] : List Int))), (6, (vB false)), (7, (vI (0 : Int)))], [(1, (oL 1 (csI .i64) ([] : List Int)))]⟩ (Tt ∧ Tt) [] [0, 1, 5, 6, 7] [1] ⟨tr, tr⟩ ?_
 refine AW.block ?_
 refine AW.loopQ (σ := Nat × Bool × Int × (List Int)) (fun p => ⟨[(0, z3), (1, (vI a1)), (5, (vL 1 1 (csI .i64) p.2.2.2)), (6, (vB p.2.1)), (7, (vI p.2.2.1))], [(1, (oL 1 (csI .i64) p.2.2.2))]⟩) (fun p => zw9 K a0 a1 p.1 p.2.1 p.2.2.1 p.2.2.2 = some o) (fun p => p.1) (K, false, (0 : Int), ([] : List Int)) h ?_
 clear h
 rintro ⟨k, x4, x5, x6⟩ h
 replace h : zw9 K a0 a1 k x4 x5 x6 = some o := h
 let z5 := vL 1 1 (csI .i64) x6
 let z6 := oL 1 (csI .i64) x6
 show AW _ _ (⟨[(0, z3), (1, (vI a1)), (5, z5), (6, (vB x4)), (7, (vI x5))], [(1, z6)]⟩ : St) _
 obtain _ | k := k
 ·rw [zw9] at h; cases h
 rw [zw9] at h
 refine AW.seq ?_
 refine AW.sA ⟨[(0, z3), (1, (vI a1)), (5, z5), (6, (vB x4)), (7, (vI x5)), (12, (vB (decide (x5 < (a0.length : Int)))))], [(1, z6)]⟩ (T4 Tt) [] [0, 1, 5, 6, 7, 12] [1] ⟨tr, tr, tr, tr, tr⟩ ?_
 rcases zqc h with ⟨b7, h⟩ | ⟨b7, h⟩
 ·refine AW.cond_t rfl b7 ?_
  refine AW.skip ?_
  refine zqa ?_
  refine AW.seq ?_
  refine AW.block ?_
  refine AW.seq ?_
  refine AW.seq ?_
  obtain ⟨j10, e11, h⟩ := zqb h
  refine AW.join1 (s2 := ⟨[(0, z3), (1, (vI a1)), (5, z5), (6, (vB x4)), (7, (vI x5)), (24, (vB j10))], [(1, z6)]⟩) ?_ ?_
  ·rcases zqc e11 with ⟨b8, e11⟩ | ⟨b8, e11⟩
   ·obtain ⟨c9, e11⟩ := zqn e11
    replace e11 := zqd e11
    subst e11
    exact AW.rA ⟨[(0, z3), (1, (vI a1)), (5, z5), (6, (vB x4)), (7, (vI x5)), (24, (vB (decide ((a0.getD x5.toNat default) ≥ a1))))], [(1, z6)]⟩ (T2 ((Tt ∧ (!x4) = true) ∧ T2 ((0 ≤ x5 ∧ x5 < (a0.length : Int)) ∧ T4 Tt))) [.no, .no, .dec true] [0, 1, 5, 6, 7, 24] [1] ⟨tr, tr, ⟨tr, b8⟩, tr, tr, c9, tr, tr, tr, tr, tr⟩ ⟨rfl, rfl⟩
   ·replace e11 := zqd e11
    subst e11
    exact AW.rA ⟨[(0, z3), (1, (vI a1)), (5, z5), (6, (vB x4)), (7, (vI x5)), (24, (vB false))], [(1, z6)]⟩ (T2 ((Tt ∧ (!x4) = false) ∧ Tt ∧ T2 (T4 Tt))) [.no, .no, .dec false] [0, 1, 5, 6, 7, 24] [1] ⟨tr, tr, ⟨tr, b8⟩, tr, tr, tr, tr, tr, tr, tr, tr⟩ ⟨rfl, rfl⟩
  refine zqa ?_
  rcases zqc h with ⟨b12, h⟩ | ⟨b12, h⟩
  ·refine AW.cond_t rfl b12 ?_
   refine AW.sC (Tt ∧ Tt) [] [0, 1, 5, 6, 7] [1] ⟨tr, tr⟩ ?_
   refine AW.seq ?_
   obtain ⟨c13, h⟩ := zqn h
   let z1 := a0.getD x5.toNat default
   let z10 := 0 ≤ x5 ∧ x5 < (a0.length : Int)
   refine AW.tA ⟨[(0, z3), (1, (vI a1)), (5, z5), (6, (vB true)), (7, (vI x5)), (30, (vB (decide (z1 > a1))))], [(1, z6)]⟩ (T2 (z10 ∧ Tt ∧ T2 Tt)) [] [0, 1, 5, 6, 7, 30] [1] ⟨tr, tr, c13, tr, tr, tr, tr⟩ ?_
   rcases zqc h with ⟨b14, h⟩ | ⟨b14, h⟩
   ·refine AW.cond_t rfl b14 ?_
    obtain ⟨c15, h⟩ := zqn h
    let z7 := x6 ++ ([a1])
    refine AW.tC (T2 ((([a1]).length = 1 ∧ (((.int .i64 a1) : C) = (.int .i64 a1) ∧ Tt) ∧ Tt) ∧ (z7.length = x6.length + ([a1]).length ∧ AppOb (x6.length) (([a1]).length) 1 (gl (csI .i64) x6) (gl (csI .i64) ([a1])) (gl (csI .i64) z7) ∧ (∀ i j, i < ([a1]).length → j < 1 → zjc (gl (csI .i64) ([a1]) i j)) ∧ (x6.length + ([a1]).length) * 8 ≤ 140737488355328) ∧ Tt ∧ Tt)) [.no, .no, .obj 18 ([a1]).length (gl (csI .i64) ([a1])), .objK 19 z7.length (gl (csI .i64) z7)] [0, 1, 5, 6, 7] [19] ⟨tr, tr, ⟨rfl, ⟨⟨rfl, tr⟩, tr⟩⟩, ⟨List.length_append, zx9, zvx scI _, c15⟩, tr, tr⟩ ?_
    obtain ⟨c16, h⟩ := zqn h
    let z4 := z7 ++ ([z1])
    refine AW.rA ⟨[(0, z3), (1, (vI a1)), (5, (vL 21 1 (csI .i64) z4)), (6, (vB true)), (7, (vI x5))], [(21, (oL 1 (csI .i64) z4))]⟩ (Tt ∧ T2 (z10 ∧ Tt ∧ (([z1]).length = 1 ∧ (((.int .i64 z1) : C) = (.int .i64 z1) ∧ Tt) ∧ Tt) ∧ (z4.length = z7.length + ([z1]).length ∧ AppOb (z7.length) (([z1]).length) 1 (gl (csI .i64) z7) (gl (csI .i64) ([z1])) (gl (csI .i64) z4) ∧ (∀ i j, i < ([z1]).length → j < 1 → zjc (gl (csI .i64) ([z1]) i j)) ∧ (z7.length + ([z1]).length) * 8 ≤ 140737488355328) ∧ Tt ∧ Tt)) [.no, .no, .no, .no, .no, .obj 20 ([z1]).length (gl (csI .i64) ([z1])), .objK 21 z4.length (gl (csI .i64) z4)] [0, 1, 5, 6, 7] [21] ⟨tr, tr, tr, c13, tr, ⟨rfl, ⟨⟨rfl, tr⟩, tr⟩⟩, ⟨List.length_append, zx9, zvx scI _, c16⟩, tr, tr⟩ ?_
    refine zqr ?_
    refine zqa ?_
    let z13 := IntKind.i64.wrap (x5 + (1 : Int))
    refine AW.rA ⟨[(0, z3), (1, (vI a1)), (5, (vL 21 1 (csI .i64) z4)), (6, (vB true)), (7, (vI z13))], [(21, (oL 1 (csI .i64) z4))]⟩ (Tt ∧ T2 Tt) [] [0, 1, 5, 6, 7] [21] ⟨tr, tr, tr, tr⟩ ?_
    exact zqu (k, true, z13, z4) h (Nat.lt_succ_self k) (Sub.trans (Sub.swap 1 21 _ (by kernel_rfl) (by kernel_rfl)) (Sub.keep [0, 1, 5, 6, 7] [1] (by kernel_rfl) (by kernel_rfl)))
   ·refine AW.cond_f rfl b14 ?_
    refine AW.skip ?_
    refine zqa ?_
    obtain ⟨c17, h⟩ := zqn h
    let z8 := x6 ++ ([z1])
    refine AW.rA ⟨[(0, z3), (1, (vI a1)), (5, (vL 23 1 (csI .i64) z8)), (6, (vB true)), (7, (vI x5))], [(23, (oL 1 (csI .i64) z8))]⟩ (Tt ∧ T2 (z10 ∧ Tt ∧ (([z1]).length = 1 ∧ (((.int .i64 z1) : C) = (.int .i64 z1) ∧ Tt) ∧ Tt) ∧ (z8.length = x6.length + ([z1]).length ∧ AppOb (x6.length) (([z1]).length) 1 (gl (csI .i64) x6) (gl (csI .i64) ([z1])) (gl (csI .i64) z8) ∧ (∀ i j, i < ([z1]).length → j < 1 → zjc (gl (csI .i64) ([z1]) i j)) ∧ (x6.length + ([z1]).length) * 8 ≤ 140737488355328) ∧ Tt ∧ Tt)) [.no, .no, .no, .no, .no, .obj 22 ([z1]).length (gl (csI .i64) ([z1])), .objK 23 z8.length (gl (csI .i64) z8)] [0, 1, 5, 6, 7] [23] ⟨tr, tr, tr, c13, tr, ⟨rfl, ⟨⟨rfl, tr⟩, tr⟩⟩, ⟨List.length_append, zx9, zvx scI _, c17⟩, tr, tr⟩ ?_
    refine zqr ?_
    refine zqa ?_
    let z14 := IntKind.i64.wrap (x5 + (1 : Int))
    refine AW.rA ⟨[(0, z3), (1, (vI a1)), (5, (vL 23 1 (csI .i64) z8)), (6, (vB true)), (7, (vI z14))], [(23, (oL 1 (csI .i64) z8))]⟩ (Tt ∧ T2 Tt) [] [0, 1, 5, 6, 7] [23] ⟨tr, tr, tr, tr⟩ ?_
    exact zqu (k, true, z14, z8) h (Nat.lt_succ_self k) (Sub.trans (Sub.swap 1 23 _ (by kernel_rfl) (by kernel_rfl)) (Sub.keep [0, 1, 5, 6, 7] [1] (by kernel_rfl) (by kernel_rfl)))
  ·refine AW.cond_f rfl b12 ?_
   refine AW.skip ?_
   refine zqa ?_
   obtain ⟨c18, h⟩ := zqn h
   obtain ⟨c19, h⟩ := zqn h
   let z11 := a0.getD x5.toNat default
   let z2 := [z11]
   refine AW.rA ⟨[(0, z3), (1, (vI a1)), (5, (vL 25 1 (csI .i64) (x6 ++ z2))), (6, (vB x4)), (7, (vI x5))], [(25, (oL 1 (csI .i64) (x6 ++ z2)))]⟩ (Tt ∧ T2 ((0 ≤ x5 ∧ x5 < (a0.length : Int)) ∧ Tt ∧ (z2.length = 1 ∧ (((.int .i64 z11) : C) = (.int .i64 z11) ∧ Tt) ∧ Tt) ∧ ((x6 ++ z2).length = x6.length + z2.length ∧ AppOb (x6.length) (z2.length) 1 (gl (csI .i64) x6) (gl (csI .i64) z2) (gl (csI .i64) (x6 ++ z2)) ∧ (∀ i j, i < z2.length → j < 1 → zjc (gl (csI .i64) z2 i j)) ∧ (x6.length + z2.length) * 8 ≤ 140737488355328) ∧ Tt ∧ Tt)) [.no, .no, .no, .no, .no, .obj 24 z2.length (gl (csI .i64) z2), .objK 25 (x6 ++ z2).length (gl (csI .i64) (x6 ++ z2))] [0, 1, 5, 6, 7] [25] ⟨tr, tr, tr, c18, tr, ⟨rfl, ⟨⟨rfl, tr⟩, tr⟩⟩, ⟨List.length_append, zx9, zvx scI _, c19⟩, tr, tr⟩ ?_
   refine zqr ?_
   refine zqa ?_
   let z12 := IntKind.i64.wrap (x5 + (1 : Int))
   refine AW.rA ⟨[(0, z3), (1, (vI a1)), (5, (vL 25 1 (csI .i64) (x6 ++ z2))), (6, (vB x4)), (7, (vI z12))], [(25, (oL 1 (csI .i64) (x6 ++ z2)))]⟩ (Tt ∧ T2 Tt) [] [0, 1, 5, 6, 7] [25] ⟨tr, tr, tr, tr⟩ ?_
   exact zqu (k, x4, z12, (x6 ++ z2)) h (Nat.lt_succ_self k) (Sub.trans (Sub.swap 1 25 _ (by kernel_rfl) (by kernel_rfl)) (Sub.keep [0, 1, 5, 6, 7] [1] (by kernel_rfl) (by kernel_rfl)))
 ·refine AW.cond_f rfl b7 ?_
  refine AW.exit ?_
  refine zwc ?_
  refine zwd ?_
  refine zq4 ?_
  refine zqa ?_
  refine AW.seq ?_
  refine AW.sA ⟨[(1, (vI a1)), (5, z5), (43, (vB (!x4)))], [(1, z6)]⟩ (T2 Tt) [] [1, 5, 43] [1] ⟨tr, tr, tr⟩ ?_
  rcases zqc h with ⟨b20, h⟩ | ⟨b20, h⟩
  ·refine AW.cond_t rfl b20 ?_
   obtain ⟨c21, h⟩ := zqn h
   let z9 := x6 ++ ([a1])
   refine AW.tC (T2 ((([a1]).length = 1 ∧ (((.int .i64 a1) : C) = (.int .i64 a1) ∧ Tt) ∧ Tt) ∧ (z9.length = x6.length + ([a1]).length ∧ AppOb (x6.length) (([a1]).length) 1 (gl (csI .i64) x6) (gl (csI .i64) ([a1])) (gl (csI .i64) z9) ∧ (∀ i j, i < ([a1]).length → j < 1 → zjc (gl (csI .i64) ([a1]) i j)) ∧ (x6.length + ([a1]).length) * 8 ≤ 140737488355328) ∧ Tt ∧ Tt)) [.no, .no, .obj 26 ([a1]).length (gl (csI .i64) ([a1])), .objK 27 z9.length (gl (csI .i64) z9)] [5] [27] ⟨tr, tr, ⟨rfl, ⟨⟨rfl, tr⟩, tr⟩⟩, ⟨List.length_append, zx9, zvx scI _, c21⟩, tr, tr⟩ ?_
   refine AW.sA ⟨[(4, (vL 27 1 (csI .i64) z9))], [(27, (oL 1 (csI .i64) z9))]⟩ (T2 Tt) [] [4] [27] ⟨tr, tr, tr⟩ ?_
   refine AW.ret ?_
   replace h := zqd h
   subst h
   exact ⟨.inr rfl, zqe [(.one (xL 27 1 (csI .i64) z9))] (by kernel_rfl) ⟨rfl, tr⟩ (of_decide_eq_true (by kernel_rfl))⟩
  ·refine AW.cond_f rfl b20 ?_
   refine AW.skip ?_
   refine zqa ?_
   refine AW.sA ⟨[(4, z5)], [(1, z6)]⟩ (T2 Tt) [] [4] [1] ⟨tr, tr, tr⟩ ?_
   refine AW.ret ?_
   replace h := zqd h
   subst h
   exact ⟨.inr rfl, zqe [(.one (xL 1 1 (csI .i64) x6))] (by kernel_rfl) ⟨rfl, tr⟩ (of_decide_eq_true (by kernel_rfl))⟩

/-! (*spec.l00Src).one -/
def zxc (K : Nat) (a0 : l00Src) (a1 : Int) : Option (Bool × Int × Int) :=
 (zq7 K a0 a1).bind fun v1 => some ((v1.1 == (0 : Int)), v1.2.1, v1.2.2)

theorem zjj (K : Nat) (a0 : l00Src) (a1 : Int) (o : (Bool × Int × Int)) (h : zxc K a0 a1 = some o) : MutOK Tryz.prog 87 [(.box 3 (fun j => [true, false, false].getD j true) (fun j => (zqj a0).getD j .nilptr) (fun j => [.nilptr, (.int .i64 o.2.1), (.int .u64 o.2.2)].getD j .nilptr)), (.one (.ro (.int .i64 a1)))] [.one (.bool o.1)] := by
 refine zxe 1 Tryz.func87 rfl (by kernel_rfl) (Nat.le_of_ble_eq_true (by kernel_rfl)) (by kernel_rfl) (by kernel_rfl) ?_
 intro w0 K0 v0 s0
 unfold zxc at h
 let z1 := sl 1 (csI .u8) a0.code
 refine AW.weak (s' := ⟨[(0, (vp 0 0)), (1, (vI a1))], [(0, (.box [(.fx 0 0 z1), (cI a0.at_), (.c (.int .u64 a0.seed))]))]⟩) (zkt 0 [1, 2] (by kernel_rfl)) ?_
 refine AW.sC (Tt ∧ Tt) [] [0, 1] [0] ⟨tr, tr⟩ ?_
 refine AW.seq ?_
 obtain ⟨v1, e2, h⟩ := zqb h
 refine AW.tA ⟨[(0, (vp 0 0)), (1, (vI a1)), (4, (vB (v1.1 == (0 : Int))))], [(0, (.box [(.fx 0 0 z1), (cI v1.2.1), (.c (.int .u64 v1.2.2))]))]⟩ (T2 (((((Eqc z1) ∧ (eI a0.at_) ∧ (Eqc (.int .u64 a0.seed)) ∧ Tt) ∧ (eI a1) ∧ Tt) ∧ MutOK Tryz.prog 38 [(.box 3 (fun j => [true, false, false].getD j true) (fun j => (zqj a0).getD j .nilptr) (fun j => [.nilptr, (.int .i64 v1.2.1), (.int .u64 v1.2.2)].getD j .nilptr)), .one (.ro (.int .i64 a1))] [.one (.int .i64 v1.1)]) ∧ T2 Tt)) [.no, .no, .callM [(.box 3 (fun j => [true, false, false].getD j true) (fun j => (zqj a0).getD j .nilptr) (fun j => [.nilptr, (.int .i64 v1.2.1), (.int .u64 v1.2.2)].getD j .nilptr)), .one (.ro (.int .i64 a1))] [.one (.int .i64 v1.1)] [[.view]] none] [0, 1, 4] [0] ⟨tr, tr, ⟨⟨⟨rfl, rfl, rfl, tr⟩, rfl, tr⟩, zq8 K a0 a1 v1 e2⟩, tr, tr, tr⟩ ?_
 refine AW.ret ?_
 replace h := zqd h
 subst h
 exact ⟨.inr rfl, zqe [(.one (.c (.bool (v1.1 == (0 : Int)))))] (by kernel_rfl) ⟨⟨rfl, tr⟩, tr⟩ (of_decide_eq_true (by kernel_rfl)), by kernel_rfl, ⟨⟨rfl, ⟨⟨rfl, rfl⟩, ⟨rfl, rfl⟩, ⟨rfl, rfl⟩, tr⟩⟩, tr, tr⟩⟩

/-! spec.l05DrawTimes -/
def zwu (K : Nat) (a0 : l00Src) (a1 : Int) : Nat → Int → Int → Int → (List Int) → Option ((List Int) × Int × Int)
 | 0, _, _, _, _ => none
 | k + 1, x7, x8, x9, x10 => ite2 ((decide (x7 > (0 : Int)))) ((zq7 K (l00Src.mk a0.code x8 x9) (IntKind.i64.wrap (a1 + (1 : Int)))).bind fun v12 => (zks K x10 v12.1).bind fun v14 => zwu K a0 a1 k (IntKind.i64.wrap (x7 - (1 : Int))) v12.2.1 v12.2.2 v14) ((zxc K (l00Src.mk a0.code x8 x9) (3 : Int)).bind fun v16 => ite2 (v16.1) ((zks K x10 (0 : Int)).bind fun v19 => (zks K v19 a1).bind fun v21 => some (v21, v16.2.1, v16.2.2)) (some (x10, v16.2.1, v16.2.2)))

def zx1 (K : Nat) (a0 : l00Src) (a1 : Int) : Option ((List Int) × Int × Int) :=
 (zq7 K a0 (4 : Int)).bind fun v1 => zwu K a0 a1 K (IntKind.i64.wrap ((1 : Int) + v1.1)) v1.2.1 v1.2.2 ([] : List Int)

theorem ok_spec_l05DrawTimes (K : Nat) (a0 : l00Src) (a1 : Int) (o : ((List Int) × Int × Int)) (h : zx1 K a0 a1 = some o) : MutOK Tryz.prog 59 [(.box 3 (fun j => [true, false, false].getD j true) (fun j => (zqj a0).getD j .nilptr) (fun j => [.nilptr, (.int .i64 o.2.1), (.int .u64 o.2.2)].getD j .nilptr)), (.one (.ro (.int .i64 a1)))] [.one (sl 1 (csI .i64) o.1)] := by
 refine zxe 1 Tryz.func59 rfl (by kernel_rfl) (Nat.le_of_ble_eq_true (by kernel_rfl)) (by kernel_rfl) (by kernel_rfl) ?_
 intro w0 K0 v0 s0
 unfold zx1 at h
 let z1 := sl 1 (csI .u8) a0.code
 refine AW.weak (s' := ⟨[(0, (vp 0 0)), (1, (vI a1))], [(0, (.box [(.fx 0 0 z1), (cI a0.at_), (.c (.int .u64 a0.seed))]))]⟩) (zkt 0 [1, 2] (by kernel_rfl)) ?_
 refine AW.sC (Tt ∧ Tt) [] [0, 1] [0] ⟨tr, tr⟩ ?_
 refine AW.sC ((([] : List Int).length = 0 ∧ Tt) ∧ Tt ∧ Tt) [.obj 1 ([] : List Int).length (gl (csI .i64) ([] : List Int))] [0, 1, 5] [0, 1] ⟨⟨rfl, tr⟩, tr, tr⟩ ?_
 refine AW.seq ?_
 refine AW.seq ?_
 obtain ⟨v1, e2, h⟩ := zqb h
 let z10 := IntKind.i64.wrap ((1 : Int) + v1.1)
 refine AW.tA ⟨[(0, (vp 0 0)), (1, (vI a1)), (5, (vL 1 1 (csI .i64) ([] : List Int))), (6, (vI z10))], [(0, (.box [(.fx 0 0 z1), (cI v1.2.1), (.c (.int .u64 v1.2.2))])), (1, (oL 1 (csI .i64) ([] : List Int)))]⟩ (Tt ∧ ((((Eqc z1) ∧ (eI a0.at_) ∧ (Eqc (.int .u64 a0.seed)) ∧ Tt) ∧ (eI (4 : Int)) ∧ Tt) ∧ MutOK Tryz.prog 38 [(.box 3 (fun j => [true, false, false].getD j true) (fun j => (zqj a0).getD j .nilptr) (fun j => [.nilptr, (.int .i64 v1.2.1), (.int .u64 v1.2.2)].getD j .nilptr)), .one (.ro (.int .i64 (4 : Int)))] [.one (.int .i64 v1.1)]) ∧ T2 Tt) [.no, .callM [(.box 3 (fun j => [true, false, false].getD j true) (fun j => (zqj a0).getD j .nilptr) (fun j => [.nilptr, (.int .i64 v1.2.1), (.int .u64 v1.2.2)].getD j .nilptr)), .one (.ro (.int .i64 (4 : Int)))] [.one (.int .i64 v1.1)] [[.view]] none] [0, 1, 5, 6] [0, 1] ⟨tr, ⟨⟨⟨rfl, rfl, rfl, tr⟩, rfl, tr⟩, zq8 K a0 (4 : Int) v1 e2⟩, tr, tr, tr⟩ ?_
 refine AW.block ?_
 refine AW.loopQ (σ := Nat × Int × Int × Int × (List Int)) (fun p => ⟨[(0, (vp 0 0)), (1, (vI a1)), (5, (vL 1 1 (csI .i64) p.2.2.2.2)), (6, (vI p.2.1))], [(0, (.box [(.fx 0 0 z1), (cI p.2.2.1), (.c (.int .u64 p.2.2.2.1))])), (1, (oL 1 (csI .i64) p.2.2.2.2))]⟩) (fun p => zwu K a0 a1 p.1 p.2.1 p.2.2.1 p.2.2.2.1 p.2.2.2.2 = some o) (fun p => p.1) (K, z10, v1.2.1, v1.2.2, ([] : List Int)) h ?_
 clear h
 rintro ⟨k, x7, x8, x9, x10⟩ h
 replace h : zwu K a0 a1 k x7 x8 x9 x10 = some o := h
 let z4 := vL 1 1 (csI .i64) x10
 let z5 := oL 1 (csI .i64) x10
 show AW _ _ (⟨[(0, (vp 0 0)), (1, (vI a1)), (5, z4), (6, (vI x7))], [(0, (.box [(.fx 0 0 z1), (cI x8), (.c (.int .u64 x9))])), (1, z5)]⟩ : St) _
 obtain _ | k := k
 ·rw [zwu] at h; cases h
 rw [zwu] at h
 refine AW.seq ?_
 refine AW.sA ⟨[(0, (vp 0 0)), (1, (vI a1)), (5, z4), (6, (vI x7)), (12, (vB (decide (x7 > (0 : Int)))))], [(0, (.box [(.fx 0 0 z1), (cI x8), (.c (.int .u64 x9))])), (1, z5)]⟩ (T2 Tt) [] [0, 1, 5, 6, 12] [0, 1] ⟨tr, tr, tr⟩ ?_
 rcases zqc h with ⟨b11, h⟩ | ⟨b11, h⟩
 ·refine AW.cond_t rfl b11 ?_
  refine AW.skip ?_
  refine zqa ?_
  refine AW.seq ?_
  refine AW.block ?_
  obtain ⟨v12, e13, h⟩ := zqb h
  obtain ⟨v14, e15, h⟩ := zqb h
  let z2 := IntKind.i64.wrap (a1 + (1 : Int))
  let z6 := l00Src.mk a0.code x8 x9
  let z9 : List CT := [.one (sl 1 (csI .i64) x10), .one (.int .i64 v12.1)]
  refine AW.rA ⟨[(0, (vp 0 0)), (1, (vI a1)), (5, (vL 4 1 (csI .i64) v14)), (6, (vI x7))], [(0, (.box [(.fx 0 0 z1), (cI v12.2.1), (.c (.int .u64 v12.2.2))])), (4, (oL 1 (csI .i64) v14))]⟩ (T4 (((((Eqc z1) ∧ (eI x8) ∧ (Eqc (.int .u64 x9)) ∧ Tt) ∧ (eI z2) ∧ Tt) ∧ MutOK Tryz.prog 38 [(.box 3 (fun j => [true, false, false].getD j true) (fun j => (zqj z6).getD j .nilptr) (fun j => [.nilptr, (.int .i64 v12.2.1), (.int .u64 v12.2.2)].getD j .nilptr)), .one (.ro (.int .i64 z2))] [.one (.int .i64 v12.1)]) ∧ (((Eqc (sl 1 (csI .i64) x10)) ∧ (eI v12.1) ∧ Tt) ∧ CallOK Tryz.prog 86 z9 [.one (sl 1 (csI .i64) v14)]) ∧ Tt ∧ Tt)) [.no, .no, .no, .no, .callM [(.box 3 (fun j => [true, false, false].getD j true) (fun j => (zqj z6).getD j .nilptr) (fun j => [.nilptr, (.int .i64 v12.2.1), (.int .u64 v12.2.2)].getD j .nilptr)), .one (.ro (.int .i64 z2))] [.one (.int .i64 v12.1)] [[.view]] none, .call z9 [.one (sl 1 (csI .i64) v14)] [[.lst 4]]] [0, 1, 5, 6] [0, 4] ⟨tr, tr, tr, tr, ⟨⟨⟨rfl, rfl, rfl, tr⟩, rfl, tr⟩, zq8 K z6 z2 v12 e13⟩, ⟨⟨rfl, rfl, tr⟩, zy2 K x10 v12.1 v14 e15⟩, tr, tr⟩ ?_
  refine zqr ?_
  refine zqa ?_
  let z11 := IntKind.i64.wrap (x7 - (1 : Int))
  refine AW.rA ⟨[(0, (vp 0 0)), (1, (vI a1)), (5, (vL 4 1 (csI .i64) v14)), (6, (vI z11))], [(0, (.box [(.fx 0 0 z1), (cI v12.2.1), (.c (.int .u64 v12.2.2))])), (4, (oL 1 (csI .i64) v14))]⟩ (Tt ∧ T2 Tt) [] [0, 1, 5, 6] [0, 4] ⟨tr, tr, tr, tr⟩ ?_
  exact zqu (k, z11, v12.2.1, v12.2.2, v14) h (Nat.lt_succ_self k) (Sub.trans (Sub.swap 1 4 _ (by kernel_rfl) (by kernel_rfl)) (Sub.keep [0, 1, 5, 6] [0, 1] (by kernel_rfl) (by kernel_rfl)))
 ·refine AW.cond_f rfl b11 ?_
  refine AW.exit ?_
  refine zwc ?_
  refine zwd ?_
  refine zq4 ?_
  refine zqa ?_
  refine AW.seq ?_
  refine AW.seq ?_
  obtain ⟨v16, e17, h⟩ := zqb h
  let z7 := l00Src.mk a0.code x8 x9
  refine AW.tA ⟨[(0, (vp 0 0)), (1, (vI a1)), (5, z4), (22, (vB v16.1))], [(0, (.box [(.fx 0 0 z1), (cI v16.2.1), (.c (.int .u64 v16.2.2))])), (1, z5)]⟩ (Tt ∧ ((((Eqc z1) ∧ (eI x8) ∧ (Eqc (.int .u64 x9)) ∧ Tt) ∧ (eI (3 : Int)) ∧ Tt) ∧ MutOK Tryz.prog 87 [(.box 3 (fun j => [true, false, false].getD j true) (fun j => (zqj z7).getD j .nilptr) (fun j => [.nilptr, (.int .i64 v16.2.1), (.int .u64 v16.2.2)].getD j .nilptr)), .one (.ro (.int .i64 (3 : Int)))] [.one (.bool v16.1)]) ∧ Tt) [.no, .callM [(.box 3 (fun j => [true, false, false].getD j true) (fun j => (zqj z7).getD j .nilptr) (fun j => [.nilptr, (.int .i64 v16.2.1), (.int .u64 v16.2.2)].getD j .nilptr)), .one (.ro (.int .i64 (3 : Int)))] [.one (.bool v16.1)] [[.view]] none] [0, 1, 5, 22] [0, 1] ⟨tr, ⟨⟨⟨rfl, rfl, rfl, tr⟩, rfl, tr⟩, zjj K z7 (3 : Int) v16 e17⟩, tr⟩ ?_
  rcases zqc h with ⟨b18, h⟩ | ⟨b18, h⟩
  ·refine AW.cond_t rfl b18 ?_
   refine AW.seq ?_
   obtain ⟨v19, e20, h⟩ := zqb h
   let z3 := sl 1 (csI .i64) v19
   let z8 : List CT := [.one (sl 1 (csI .i64) x10), .one (.int .i64 (0 : Int))]
   refine AW.tC (Tt ∧ (((Eqc (sl 1 (csI .i64) x10)) ∧ (eI (0 : Int)) ∧ Tt) ∧ CallOK Tryz.prog 86 z8 [.one z3]) ∧ Tt ∧ Tt) [.no, .call z8 [.one z3] [[.lst 5]]] [0, 1, 5] [0, 5] ⟨tr, ⟨⟨rfl, rfl, tr⟩, zy2 K x10 (0 : Int) v19 e20⟩, tr, tr⟩ ?_
   obtain ⟨v21, e22, h⟩ := zqb h
   refine AW.tC (T2 ((((Eqc z3) ∧ (eI a1) ∧ Tt) ∧ CallOK Tryz.prog 86 [.one z3, .one (.int .i64 a1)] [.one (sl 1 (csI .i64) v21)]) ∧ Tt ∧ Tt)) [.no, .no, .call [.one z3, .one (.int .i64 a1)] [.one (sl 1 (csI .i64) v21)] [[.lst 6]]] [0, 1, 5] [0, 6] ⟨tr, tr, ⟨⟨rfl, rfl, tr⟩, zy2 K v19 a1 v21 e22⟩, tr, tr⟩ ?_
   refine AW.sA ⟨[(0, (vp 0 0)), (1, (vI a1)), (4, (vL 6 1 (csI .i64) v21))], [(0, (.box [(.fx 0 0 z1), (cI v16.2.1), (.c (.int .u64 v16.2.2))])), (6, (oL 1 (csI .i64) v21))]⟩ (T2 Tt) [] [0, 1, 4] [0, 6] ⟨tr, tr, tr⟩ ?_
   refine AW.ret ?_
   replace h := zqd h
   subst h
   exact ⟨.inr rfl, zqe [(.one (xL 6 1 (csI .i64) v21))] (by kernel_rfl) ⟨rfl, tr⟩ (of_decide_eq_true (by kernel_rfl)), by kernel_rfl, ⟨⟨rfl, ⟨⟨rfl, rfl⟩, ⟨rfl, rfl⟩, ⟨rfl, rfl⟩, tr⟩⟩, tr, tr⟩⟩
  ·refine AW.cond_f rfl b18 ?_
   refine AW.skip ?_
   refine zqa ?_
   refine AW.sA ⟨[(0, (vp 0 0)), (1, (vI a1)), (4, z4)], [(0, (.box [(.fx 0 0 z1), (cI v16.2.1), (.c (.int .u64 v16.2.2))])), (1, z5)]⟩ (T2 Tt) [] [0, 1, 4] [0, 1] ⟨tr, tr, tr⟩ ?_
   refine AW.ret ?_
   replace h := zqd h
   subst h
   exact ⟨.inr rfl, zqe [(.one (xL 1 1 (csI .i64) x10))] (by kernel_rfl) ⟨rfl, tr⟩ (of_decide_eq_true (by kernel_rfl)), by kernel_rfl, ⟨⟨rfl, ⟨⟨rfl, rfl⟩, ⟨rfl, rfl⟩, ⟨rfl, rfl⟩, tr⟩⟩, tr, tr⟩⟩

/-! spec.l02DrawExact -/
def zjv (K : Nat) (a0 : l00Src) : Option (Turn × Int × Int) :=
 (zq7 K a0 (24 : Int)).bind fun v1 => ite2 ((decide (v1.1 < (8 : Int)))) (ite2 ((decide (v1.1 ≥ (4 : Int)))) (chk ((4 : Int) ≠ 0) (ite2 (((v1.1.tmod (4 : Int)) == (0 : Int))) (some ((Turn.mk (Fl.mk (k := .f32) 3212836864 (by decide)) (default : F32) (default : F32) (default : F32)), v1.2.1, v1.2.2)) (ite2 (((v1.1.tmod (4 : Int)) == (1 : Int))) (some ((Turn.mk (default : F32) (Fl.mk (k := .f32) 3212836864 (by decide)) (default : F32) (default : F32)), v1.2.1, v1.2.2)) (ite2 (((v1.1.tmod (4 : Int)) == (2 : Int))) (some ((Turn.mk (default : F32) (default : F32) (Fl.mk (k := .f32) 3212836864 (by decide)) (default : F32)), v1.2.1, v1.2.2)) (some ((Turn.mk (default : F32) (default : F32) (default : F32) (Fl.mk (k := .f32) 3212836864 (by decide))), v1.2.1, v1.2.2)))))) (chk ((4 : Int) ≠ 0) (ite2 (((v1.1.tmod (4 : Int)) == (0 : Int))) (some ((Turn.mk (Fl.mk (k := .f32) 1065353216 (by decide)) (default : F32) (default : F32) (default : F32)), v1.2.1, v1.2.2)) (ite2 (((v1.1.tmod (4 : Int)) == (1 : Int))) (some ((Turn.mk (default : F32) (Fl.mk (k := .f32) 1065353216 (by decide)) (default : F32) (default : F32)), v1.2.1, v1.2.2)) (ite2 (((v1.1.tmod (4 : Int)) == (2 : Int))) (some ((Turn.mk (default : F32) (default : F32) (Fl.mk (k := .f32) 1065353216 (by decide)) (default : F32)), v1.2.1, v1.2.2)) (some ((Turn.mk (default : F32) (default : F32) (default : F32) (Fl.mk (k := .f32) 1065353216 (by decide))), v1.2.1, v1.2.2))))))) (chk (0 ≤ (1 : Int)) (chk (0 ≤ (2 : Int)) (chk (0 ≤ (3 : Int)) (some ((Turn.mk ((Fl.ofInt .f32 (bits .and .i64 (IntKind.i64.wrap (v1.1 - (8 : Int))) (1 : Int))).sub (Fl.mk (k := .f32) 1056964608 (by decide))) ((Fl.ofInt .f32 (bits .and .i64 ((IntKind.i64.wrap (v1.1 - (8 : Int))).fdiv (2 ^ (min (1 : Int).toNat (IntKind.bits .i64)))) (1 : Int))).sub (Fl.mk (k := .f32) 1056964608 (by decide))) ((Fl.ofInt .f32 (bits .and .i64 ((IntKind.i64.wrap (v1.1 - (8 : Int))).fdiv (2 ^ (min (2 : Int).toNat (IntKind.bits .i64)))) (1 : Int))).sub (Fl.mk (k := .f32) 1056964608 (by decide))) ((Fl.ofInt .f32 (bits .and .i64 ((IntKind.i64.wrap (v1.1 - (8 : Int))).fdiv (2 ^ (min (3 : Int).toNat (IntKind.bits .i64)))) (1 : Int))).sub (Fl.mk (k := .f32) 1056964608 (by decide)))), v1.2.1, v1.2.2)))))

theorem ok_spec_l02DrawExact (K : Nat) (a0 : l00Src) (o : (Turn × Int × Int)) (h : zjv K a0 = some o) : MutOK Tryz.prog 88 [(.box 3 (fun j => [true, false, false].getD j true) (fun j => (zqj a0).getD j .nilptr) (fun j => [.nilptr, (.int .i64 o.2.1), (.int .u64 o.2.2)].getD j .nilptr))] [.agg (zqi o.1)] := by
 refine zxe 1 Tryz.func88 rfl (by kernel_rfl) (Nat.le_of_ble_eq_true (by kernel_rfl)) (by kernel_rfl) (by kernel_rfl) ?_
 intro w0 K0 v0 s0
 unfold zjv at h
 let z4 := sl 1 (csI .u8) a0.code
 refine AW.weak (s' := ⟨[(0, (vp 0 0))], [(0, (.box [(.fx 0 0 z4), (cI a0.at_), (.c (.int .u64 a0.seed))]))]⟩) (zkt 0 [1, 2] (by kernel_rfl)) ?_
 refine AW.sC (Tt ∧ Tt) [.box 1] [0, 2] [0, 1] ⟨tr, tr⟩ ?_
 refine AW.seq ?_
 obtain ⟨v1, e2, h⟩ := zqb h
 refine AW.tC (Tt ∧ ((((Eqc z4) ∧ (eI a0.at_) ∧ (Eqc (.int .u64 a0.seed)) ∧ Tt) ∧ (eI (24 : Int)) ∧ Tt) ∧ MutOK Tryz.prog 38 [(.box 3 (fun j => [true, false, false].getD j true) (fun j => (zqj a0).getD j .nilptr) (fun j => [.nilptr, (.int .i64 v1.2.1), (.int .u64 v1.2.2)].getD j .nilptr)), .one (.ro (.int .i64 (24 : Int)))] [.one (.int .i64 v1.1)]) ∧ Tt ∧ Tt) [.no, .callM [(.box 3 (fun j => [true, false, false].getD j true) (fun j => (zqj a0).getD j .nilptr) (fun j => [.nilptr, (.int .i64 v1.2.1), (.int .u64 v1.2.2)].getD j .nilptr)), .one (.ro (.int .i64 (24 : Int)))] [.one (.int .i64 v1.1)] [[.view]] none] [0, 2, 3] [0, 1] ⟨tr, ⟨⟨⟨rfl, rfl, rfl, tr⟩, rfl, tr⟩, zq8 K a0 (24 : Int) v1 e2⟩, tr, tr⟩ ?_
 refine AW.seq ?_
 let z1 := cF (default : F32)
 refine AW.sA ⟨[(0, (vp 0 0)), (2, (vp 1 0)), (3, (vI v1.1)), (8, (vB (decide (v1.1 < (8 : Int)))))], [(0, (.box [(.fx 0 0 z4), (cI v1.2.1), (.c (.int .u64 v1.2.2))])), (1, (.box [z1, z1, z1, z1]))]⟩ (T2 Tt) [] [0, 2, 3, 8] [0, 1] ⟨tr, tr, tr⟩ ?_
 rcases zqc h with ⟨b3, h⟩ | ⟨b3, h⟩
 ·refine AW.cond_t rfl b3 ?_
  refine AW.sC (Tt ∧ Tt) [] [0, 2, 3, 4] [0, 1] ⟨tr, tr⟩ ?_
  refine AW.seq ?_
  let z2 := Fl.mk (k := .f32) 1065353216 (by decide)
  let z12 := vc (.flt .f32 z2.bits)
  refine AW.sA ⟨[(0, (vp 0 0)), (2, (vp 1 0)), (3, (vI v1.1)), (4, z12), (10, (vB (decide (v1.1 ≥ (4 : Int)))))], [(0, (.box [(.fx 0 0 z4), (cI v1.2.1), (.c (.int .u64 v1.2.2))])), (1, (.box [z1, z1, z1, z1]))]⟩ (T2 Tt) [] [0, 2, 3, 4, 10] [0, 1] ⟨tr, tr, tr⟩ ?_
  rcases zqc h with ⟨b4, h⟩ | ⟨b4, h⟩
  ·refine AW.cond_t rfl b4 ?_
   refine AW.tC (Tt ∧ Tt) [] [0, 2, 3, 4] [0, 1] ⟨tr, tr⟩ ?_
   refine AW.seq ?_
   refine AW.seq ?_
   obtain ⟨c5, h⟩ := zqn h
   let z3 := Fl.mk (k := .f32) 3212836864 (by decide)
   let z10 := v1.1.tmod (4 : Int)
   let z13 := vc (.flt .f32 z3.bits)
   refine AW.tA ⟨[(0, (vp 0 0)), (2, (vp 1 0)), (4, z13), (12, (vI z10))], [(0, (.box [(.fx 0 0 z4), (cI v1.2.1), (.c (.int .u64 v1.2.2))])), (1, (.box [z1, z1, z1, z1]))]⟩ (Tt ∧ ((4 : Int) ≠ 0) ∧ Tt) [] [0, 2, 4, 12] [0, 1] ⟨tr, c5, tr⟩ ?_
   refine AW.block ?_
   refine AW.sA ⟨[(0, (vp 0 0)), (2, (vp 1 0)), (4, z13), (12, (vI z10)), (13, (vB (z10 == (0 : Int))))], [(0, (.box [(.fx 0 0 z4), (cI v1.2.1), (.c (.int .u64 v1.2.2))])), (1, (.box [z1, z1, z1, z1]))]⟩ (T2 Tt) [] [0, 2, 4, 12, 13] [0, 1] ⟨tr, tr, tr⟩ ?_
   rcases zqc h with ⟨b6, h⟩ | ⟨b6, h⟩
   ·refine AW.cond_t rfl b6 ?_
    refine AW.sA ⟨[(0, (vp 0 0)), (2, (vp 1 0))], [(0, (.box [(.fx 0 0 z4), (cI v1.2.1), (.c (.int .u64 v1.2.2))])), (1, (.box [(cF z3), z1, z1, z1]))]⟩ (Tt ∧ T2 Tt) [] [0, 2] [0, 1] ⟨tr, tr, tr, tr⟩ ?_
    refine AW.ret ?_
    refine zqz ?_
    refine zqm ?_
    refine zqm ?_
    replace h := zqd h
    subst h
    exact ⟨.inr rfl, zqe [(.agg [(cF z3), z1, z1, z1])] (by kernel_rfl) ⟨⟨⟨rfl, tr⟩, ⟨rfl, tr⟩, ⟨rfl, tr⟩, ⟨rfl, tr⟩, tr⟩, tr⟩ (of_decide_eq_true (by kernel_rfl)), by kernel_rfl, ⟨⟨rfl, ⟨⟨rfl, rfl⟩, ⟨rfl, rfl⟩, ⟨rfl, rfl⟩, tr⟩⟩, tr⟩⟩
   ·refine AW.cond_f rfl b6 ?_
    refine AW.sA ⟨[(0, (vp 0 0)), (2, (vp 1 0)), (4, z13), (12, (vI z10)), (17, (vB (z10 == (1 : Int))))], [(0, (.box [(.fx 0 0 z4), (cI v1.2.1), (.c (.int .u64 v1.2.2))])), (1, (.box [z1, z1, z1, z1]))]⟩ (T2 Tt) [] [0, 2, 4, 12, 17] [0, 1] ⟨tr, tr, tr⟩ ?_
    rcases zqc h with ⟨b7, h⟩ | ⟨b7, h⟩
    ·refine AW.cond_t rfl b7 ?_
     refine AW.sA ⟨[(0, (vp 0 0)), (2, (vp 1 0))], [(0, (.box [(.fx 0 0 z4), (cI v1.2.1), (.c (.int .u64 v1.2.2))])), (1, (.box [z1, (cF z3), z1, z1]))]⟩ (Tt ∧ T2 Tt) [] [0, 2] [0, 1] ⟨tr, tr, tr, tr⟩ ?_
     refine AW.ret ?_
     refine zqz ?_
     refine zqm ?_
     refine zqm ?_
     replace h := zqd h
     subst h
     exact ⟨.inr rfl, zqe [(.agg [z1, (cF z3), z1, z1])] (by kernel_rfl) ⟨⟨⟨rfl, tr⟩, ⟨rfl, tr⟩, ⟨rfl, tr⟩, ⟨rfl, tr⟩, tr⟩, tr⟩ (of_decide_eq_true (by kernel_rfl)), by kernel_rfl, ⟨⟨rfl, ⟨⟨rfl, rfl⟩, ⟨rfl, rfl⟩, ⟨rfl, rfl⟩, tr⟩⟩, tr⟩⟩
    ·refine AW.cond_f rfl b7 ?_
     refine AW.sA ⟨[(0, (vp 0 0)), (2, (vp 1 0)), (4, z13), (21, (vB (z10 == (2 : Int))))], [(0, (.box [(.fx 0 0 z4), (cI v1.2.1), (.c (.int .u64 v1.2.2))])), (1, (.box [z1, z1, z1, z1]))]⟩ (T2 Tt) [] [0, 2, 4, 21] [0, 1] ⟨tr, tr, tr⟩ ?_
     rcases zqc h with ⟨b8, h⟩ | ⟨b8, h⟩
     ·refine AW.cond_t rfl b8 ?_
      refine AW.sA ⟨[(0, (vp 0 0)), (2, (vp 1 0))], [(0, (.box [(.fx 0 0 z4), (cI v1.2.1), (.c (.int .u64 v1.2.2))])), (1, (.box [z1, z1, (cF z3), z1]))]⟩ (Tt ∧ T2 Tt) [] [0, 2] [0, 1] ⟨tr, tr, tr, tr⟩ ?_
      refine AW.ret ?_
      refine zqz ?_
      refine zqm ?_
      refine zqm ?_
      replace h := zqd h
      subst h
      exact ⟨.inr rfl, zqe [(.agg [z1, z1, (cF z3), z1])] (by kernel_rfl) ⟨⟨⟨rfl, tr⟩, ⟨rfl, tr⟩, ⟨rfl, tr⟩, ⟨rfl, tr⟩, tr⟩, tr⟩ (of_decide_eq_true (by kernel_rfl)), by kernel_rfl, ⟨⟨rfl, ⟨⟨rfl, rfl⟩, ⟨rfl, rfl⟩, ⟨rfl, rfl⟩, tr⟩⟩, tr⟩⟩
     ·refine AW.cond_f rfl b8 ?_
      refine AW.skip ?_
      refine zqr ?_
      refine zqa ?_
      refine AW.sA ⟨[(0, (vp 0 0)), (2, (vp 1 0))], [(0, (.box [(.fx 0 0 z4), (cI v1.2.1), (.c (.int .u64 v1.2.2))])), (1, (.box [z1, z1, z1, (cF z3)]))]⟩ (Tt ∧ T2 Tt) [] [0, 2] [0, 1] ⟨tr, tr, tr, tr⟩ ?_
      refine AW.ret ?_
      refine zqm ?_
      replace h := zqd h
      subst h
      exact ⟨.inr rfl, zqe [(.agg [z1, z1, z1, (cF z3)])] (by kernel_rfl) ⟨⟨⟨rfl, tr⟩, ⟨rfl, tr⟩, ⟨rfl, tr⟩, ⟨rfl, tr⟩, tr⟩, tr⟩ (of_decide_eq_true (by kernel_rfl)), by kernel_rfl, ⟨⟨rfl, ⟨⟨rfl, rfl⟩, ⟨rfl, rfl⟩, ⟨rfl, rfl⟩, tr⟩⟩, tr⟩⟩
  ·refine AW.cond_f rfl b4 ?_
   refine AW.skip ?_
   refine zqa ?_
   refine AW.seq ?_
   refine AW.seq ?_
   obtain ⟨c9, h⟩ := zqn h
   let z11 := v1.1.tmod (4 : Int)
   refine AW.tA ⟨[(0, (vp 0 0)), (2, (vp 1 0)), (4, z12), (12, (vI z11))], [(0, (.box [(.fx 0 0 z4), (cI v1.2.1), (.c (.int .u64 v1.2.2))])), (1, (.box [z1, z1, z1, z1]))]⟩ (Tt ∧ ((4 : Int) ≠ 0) ∧ Tt) [] [0, 2, 4, 12] [0, 1] ⟨tr, c9, tr⟩ ?_
   refine AW.block ?_
   refine AW.sA ⟨[(0, (vp 0 0)), (2, (vp 1 0)), (4, z12), (12, (vI z11)), (13, (vB (z11 == (0 : Int))))], [(0, (.box [(.fx 0 0 z4), (cI v1.2.1), (.c (.int .u64 v1.2.2))])), (1, (.box [z1, z1, z1, z1]))]⟩ (T2 Tt) [] [0, 2, 4, 12, 13] [0, 1] ⟨tr, tr, tr⟩ ?_
   rcases zqc h with ⟨b10, h⟩ | ⟨b10, h⟩
   ·refine AW.cond_t rfl b10 ?_
    refine AW.sA ⟨[(0, (vp 0 0)), (2, (vp 1 0))], [(0, (.box [(.fx 0 0 z4), (cI v1.2.1), (.c (.int .u64 v1.2.2))])), (1, (.box [(cF z2), z1, z1, z1]))]⟩ (Tt ∧ T2 Tt) [] [0, 2] [0, 1] ⟨tr, tr, tr, tr⟩ ?_
    refine AW.ret ?_
    refine zqz ?_
    refine zqm ?_
    refine zqm ?_
    replace h := zqd h
    subst h
    exact ⟨.inr rfl, zqe [(.agg [(cF z2), z1, z1, z1])] (by kernel_rfl) ⟨⟨⟨rfl, tr⟩, ⟨rfl, tr⟩, ⟨rfl, tr⟩, ⟨rfl, tr⟩, tr⟩, tr⟩ (of_decide_eq_true (by kernel_rfl)), by kernel_rfl, ⟨⟨rfl, ⟨⟨rfl, rfl⟩, ⟨rfl, rfl⟩, ⟨rfl, rfl⟩, tr⟩⟩, tr⟩⟩
   ·refine AW.cond_f rfl b10 ?_
    refine AW.sA ⟨[(0, (vp 0 0)), (2, (vp 1 0)), (4, z12), (12, (vI z11)), (17, (vB (z11 == (1 : Int))))], [(0, (.box [(.fx 0 0 z4), (cI v1.2.1), (.c (.int .u64 v1.2.2))])), (1, (.box [z1, z1, z1, z1]))]⟩ (T2 Tt) [] [0, 2, 4, 12, 17] [0, 1] ⟨tr, tr, tr⟩ ?_
    rcases zqc h with ⟨b11, h⟩ | ⟨b11, h⟩
    ·refine AW.cond_t rfl b11 ?_
     refine AW.sA ⟨[(0, (vp 0 0)), (2, (vp 1 0))], [(0, (.box [(.fx 0 0 z4), (cI v1.2.1), (.c (.int .u64 v1.2.2))])), (1, (.box [z1, (cF z2), z1, z1]))]⟩ (Tt ∧ T2 Tt) [] [0, 2] [0, 1] ⟨tr, tr, tr, tr⟩ ?_
     refine AW.ret ?_
     refine zqz ?_
     refine zqm ?_
     refine zqm ?_
     replace h := zqd h
     subst h
     exact ⟨.inr rfl, zqe [(.agg [z1, (cF z2), z1, z1])] (by kernel_rfl) ⟨⟨⟨rfl, tr⟩, ⟨rfl, tr⟩, ⟨rfl, tr⟩, ⟨rfl, tr⟩, tr⟩, tr⟩ (of_decide_eq_true (by kernel_rfl)), by kernel_rfl, ⟨⟨rfl, ⟨⟨rfl, rfl⟩, ⟨rfl, rfl⟩, ⟨rfl, rfl⟩, tr⟩⟩, tr⟩⟩
    ·refine AW.cond_f rfl b11 ?_
     refine AW.sA ⟨[(0, (vp 0 0)), (2, (vp 1 0)), (4, z12), (21, (vB (z11 == (2 : Int))))], [(0, (.box [(.fx 0 0 z4), (cI v1.2.1), (.c (.int .u64 v1.2.2))])), (1, (.box [z1, z1, z1, z1]))]⟩ (T2 Tt) [] [0, 2, 4, 21] [0, 1] ⟨tr, tr, tr⟩ ?_
     rcases zqc h with ⟨b12, h⟩ | ⟨b12, h⟩
     ·refine AW.cond_t rfl b12 ?_
      refine AW.sA ⟨[(0, (vp 0 0)), (2, (vp 1 0))], [(0, (.box [(.fx 0 0 z4), (cI v1.2.1), (.c (.int .u64 v1.2.2))])), (1, (.box [z1, z1, (cF z2), z1]))]⟩ (Tt ∧ T2 Tt) [] [0, 2] [0, 1] ⟨tr, tr, tr, tr⟩ ?_
      refine AW.ret ?_
      refine zqz ?_
      refine zqm ?_
      refine zqm ?_
      replace h := zqd h
      subst h
      exact ⟨.inr rfl, zqe [(.agg [z1, z1, (cF z2), z1])] (by kernel_rfl) ⟨⟨⟨rfl, tr⟩, ⟨rfl, tr⟩, ⟨rfl, tr⟩, ⟨rfl, tr⟩, tr⟩, tr⟩ (of_decide_eq_true (by kernel_rfl)), by kernel_rfl, ⟨⟨rfl, ⟨⟨rfl, rfl⟩, ⟨rfl, rfl⟩, ⟨rfl, rfl⟩, tr⟩⟩, tr⟩⟩
     ·refine AW.cond_f rfl b12 ?_
      refine AW.skip ?_
      refine zqr ?_
      refine zqa ?_
      refine AW.sA ⟨[(0, (vp 0 0)), (2, (vp 1 0))], [(0, (.box [(.fx 0 0 z4), (cI v1.2.1), (.c (.int .u64 v1.2.2))])), (1, (.box [z1, z1, z1, (cF z2)]))]⟩ (Tt ∧ T2 Tt) [] [0, 2] [0, 1] ⟨tr, tr, tr, tr⟩ ?_
      refine AW.ret ?_
      refine zqm ?_
      replace h := zqd h
      subst h
      exact ⟨.inr rfl, zqe [(.agg [z1, z1, z1, (cF z2)])] (by kernel_rfl) ⟨⟨⟨rfl, tr⟩, ⟨rfl, tr⟩, ⟨rfl, tr⟩, ⟨rfl, tr⟩, tr⟩, tr⟩ (of_decide_eq_true (by kernel_rfl)), by kernel_rfl, ⟨⟨rfl, ⟨⟨rfl, rfl⟩, ⟨rfl, rfl⟩, ⟨rfl, rfl⟩, tr⟩⟩, tr⟩⟩
 ·refine AW.cond_f rfl b3 ?_
  refine AW.skip ?_
  refine zqa ?_
  refine AW.sC (Tt ∧ T2 Tt) [] [0, 2, 3] [0, 1] ⟨tr, tr, tr, tr⟩ ?_
  refine AW.seq ?_
  obtain ⟨c13, h⟩ := zqn h
  obtain ⟨c14, h⟩ := zqn h
  obtain ⟨c15, h⟩ := zqn h
  let z5 := Fl.mk (k := .f32) 1056964608 (by decide)
  let z6 := IntKind.i64.wrap (v1.1 - (8 : Int))
  let z15 := IntKind.bits .i64
  let z7 := cF ((Fl.ofInt .f32 (bits .and .i64 (z6.fdiv (2 ^ (min (1 : Int).toNat z15))) (1 : Int))).sub z5)
  let z8 := cF ((Fl.ofInt .f32 (bits .and .i64 (z6.fdiv (2 ^ (min (2 : Int).toNat z15))) (1 : Int))).sub z5)
  let z9 := cF ((Fl.ofInt .f32 (bits .and .i64 (z6.fdiv (2 ^ (min (3 : Int).toNat z15))) (1 : Int))).sub z5)
  let z14 := cF ((Fl.ofInt .f32 (bits .and .i64 z6 (1 : Int))).sub z5)
  refine AW.tA ⟨[(0, (vp 0 0)), (2, (vp 1 0))], [(0, (.box [(.fx 0 0 z4), (cI v1.2.1), (.c (.int .u64 v1.2.2))])), (1, (.box [z14, z7, z8, z9]))]⟩ (Tt ∧ T4 ((0 ≤ (1 : Int)) ∧ T4 ((0 ≤ (2 : Int)) ∧ T4 ((0 ≤ (3 : Int)) ∧ Tt ∧ T4 Tt)))) [] [0, 2] [0, 1] ⟨tr, tr, tr, tr, tr, c13, tr, tr, tr, tr, c14, tr, tr, tr, tr, c15, tr, tr, tr, tr, tr, tr⟩ ?_
  refine AW.ret ?_
  replace h := zqd h
  subst h
  exact ⟨.inr rfl, zqe [(.agg [z14, z7, z8, z9])] (by kernel_rfl) ⟨⟨⟨rfl, tr⟩, ⟨rfl, tr⟩, ⟨rfl, tr⟩, ⟨rfl, tr⟩, tr⟩, tr⟩ (of_decide_eq_true (by kernel_rfl)), by kernel_rfl, ⟨⟨rfl, ⟨⟨rfl, rfl⟩, ⟨rfl, rfl⟩, ⟨rfl, rfl⟩, tr⟩⟩, tr⟩⟩

/-! spec.l01DrawSmall -/
def zwp (K : Nat) (a0 : l00Src) : Option (F32 × Int × Int) :=
 (zq7 K a0 (33 : Int)).bind fun v1 => some (((Fl.ofInt .f32 (IntKind.i64.wrap (v1.1 - (16 : Int)))).div (Fl.mk (k := .f32) 1082130432 (by decide))), v1.2.1, v1.2.2)

theorem zw0 (K : Nat) (a0 : l00Src) (o : (F32 × Int × Int)) (h : zwp K a0 = some o) : MutOK Tryz.prog 89 [(.box 3 (fun j => [true, false, false].getD j true) (fun j => (zqj a0).getD j .nilptr) (fun j => [.nilptr, (.int .i64 o.2.1), (.int .u64 o.2.2)].getD j .nilptr))] [.one (.flt .f32 o.1.bits)] := by
 refine zxe 1 Tryz.func89 rfl (by kernel_rfl) (Nat.le_of_ble_eq_true (by kernel_rfl)) (by kernel_rfl) (by kernel_rfl) ?_
 intro w0 K0 v0 s0
 unfold zwp at h
 let z2 := sl 1 (csI .u8) a0.code
 refine AW.weak (s' := ⟨[(0, (vp 0 0))], [(0, (.box [(.fx 0 0 z2), (cI a0.at_), (.c (.int .u64 a0.seed))]))]⟩) (zkt 0 [1, 2] (by kernel_rfl)) ?_
 refine AW.sC (Tt ∧ Tt) [] [0] [0] ⟨tr, tr⟩ ?_
 refine AW.seq ?_
 obtain ⟨v1, e2, h⟩ := zqb h
 let z1 := (Fl.ofInt .f32 (IntKind.i64.wrap (v1.1 - (16 : Int)))).div (Fl.mk (k := .f32) 1082130432 (by decide))
 refine AW.tA ⟨[(0, (vp 0 0)), (2, (vc (.flt .f32 z1.bits)))], [(0, (.box [(.fx 0 0 z2), (cI v1.2.1), (.c (.int .u64 v1.2.2))]))]⟩ (Tt ∧ ((((Eqc z2) ∧ (eI a0.at_) ∧ (Eqc (.int .u64 a0.seed)) ∧ Tt) ∧ (eI (33 : Int)) ∧ Tt) ∧ MutOK Tryz.prog 38 [(.box 3 (fun j => [true, false, false].getD j true) (fun j => (zqj a0).getD j .nilptr) (fun j => [.nilptr, (.int .i64 v1.2.1), (.int .u64 v1.2.2)].getD j .nilptr)), .one (.ro (.int .i64 (33 : Int)))] [.one (.int .i64 v1.1)]) ∧ T4 Tt) [.no, .callM [(.box 3 (fun j => [true, false, false].getD j true) (fun j => (zqj a0).getD j .nilptr) (fun j => [.nilptr, (.int .i64 v1.2.1), (.int .u64 v1.2.2)].getD j .nilptr)), .one (.ro (.int .i64 (33 : Int)))] [.one (.int .i64 v1.1)] [[.view]] none] [0, 2] [0] ⟨tr, ⟨⟨⟨rfl, rfl, rfl, tr⟩, rfl, tr⟩, zq8 K a0 (33 : Int) v1 e2⟩, tr, tr, tr, tr, tr⟩ ?_
 refine AW.ret ?_
 replace h := zqd h
 subst h
 exact ⟨.inr rfl, zqe [(.one (cF z1))] (by kernel_rfl) ⟨⟨rfl, tr⟩, tr⟩ (of_decide_eq_true (by kernel_rfl)), by kernel_rfl, ⟨⟨rfl, ⟨⟨rfl, rfl⟩, ⟨rfl, rfl⟩, ⟨rfl, rfl⟩, tr⟩⟩, tr⟩⟩

/-! spec.l02Inner -/
def zye (_K : Nat) (a0 : Turn) (a1 : Turn) : Option (F32) :=
 some ((((a0.W.mul a1.W).add (a0.X.mul a1.X)).add (a0.Y.mul a1.Y)).add (a0.Z.mul a1.Z))

theorem ok_spec_l02Inner (K : Nat) (a0 : Turn) (a1 : Turn) (o : (F32)) (h : zye K a0 a1 = some o) : CallOK Tryz.prog 108 [.agg (zqi a0), .agg (zqi a1)] [.one (.flt .f32 o.bits)] := by
 refine zqh Tryz.func108 rfl (by kernel_rfl) (Nat.le_of_ble_eq_true (by kernel_rfl)) ?_
 intro w0
 unfold zye at h
 refine AW.sC (Tt ∧ T2 Tt) [.box 1, .box 2] [2, 3] [1, 2] ⟨tr, tr, tr, tr⟩ ?_
 refine AW.sC (T4 (T4 (T4 Tt))) [] [2, 3, 5] [1, 2] ⟨tr, tr, tr, tr, tr, tr, tr, tr, tr, tr, tr, tr, tr⟩ ?_
 refine AW.sC (T4 (T4 Tt)) [] [2, 3, 5] [1, 2] ⟨tr, tr, tr, tr, tr, tr, tr, tr, tr⟩ ?_
 let z1 := (((a0.W.mul a1.W).add (a0.X.mul a1.X)).add (a0.Y.mul a1.Y)).add (a0.Z.mul a1.Z)
 refine AW.sA ⟨[(4, (vc (.flt .f32 z1.bits)))], []⟩ (T4 (T4 Tt)) [] [4] [] ⟨tr, tr, tr, tr, tr, tr, tr, tr, tr⟩ ?_
 refine AW.ret ?_
 replace h := zqd h
 subst h
 exact ⟨.inr rfl, zqe [(.one (cF z1))] (by kernel_rfl) ⟨⟨rfl, tr⟩, tr⟩ (of_decide_eq_true (by kernel_rfl))⟩

/-! math.sqrt -/
def zk7 (_K : Nat) (a0 : F64) : Option (F64) :=
 some a0.sqrt

theorem ok_math_sqrt (K : Nat) (a0 : F64) (o : F64) (h : zk7 K a0 = some o) : CallOK Tryz.prog 126 [.one (.flt .f64 a0.bits)] [.one (.flt .f64 o.bits)] :=
 hand_sqrt (e := Extern.MathSqrt.sqrt) Tryz.func126 (by kernel_rfl) (by kernel_rfl) (by kernel_rfl) (by kernel_rfl) (fun _ => rfl) a0 o h

/-! math.Sqrt -/
def zj5 (K : Nat) (a0 : F64) : Option (F64) :=
 (zk7 K a0).bind fun v1 => some v1

theorem zyw (K : Nat) (a0 : F64) (o : (F64)) (h : zj5 K a0 = some o) : CallOK Tryz.prog 122 [.one (.flt .f64 a0.bits)] [.one (.flt .f64 o.bits)] := by
 refine zqh Tryz.func122 rfl (by kernel_rfl) (Nat.le_of_ble_eq_true (by kernel_rfl)) ?_
 intro w0
 unfold zj5 at h
 refine AW.sC (Tt ∧ Tt) [] [0] [] ⟨tr, tr⟩ ?_
 refine AW.seq ?_
 obtain ⟨v1, e2, h⟩ := zqb h
 refine AW.tA ⟨[(2, (vc (.flt .f64 v1.bits)))], []⟩ (Tt ∧ (((Eqc (.flt .f64 a0.bits)) ∧ Tt) ∧ CallOK Tryz.prog 126 [.one (.flt .f64 a0.bits)] [.one (.flt .f64 v1.bits)]) ∧ Tt ∧ Tt) [.no, .call [.one (.flt .f64 a0.bits)] [.one (.flt .f64 v1.bits)] [[.view]]] [2] [] ⟨tr, ⟨⟨rfl, tr⟩, ok_math_sqrt K a0 v1 e2⟩, tr, tr⟩ ?_
 refine AW.ret ?_
 replace h := zqd h
 subst h
 exact ⟨.inr rfl, zqe [(.one (.c (.flt .f64 v1.bits)))] (by kernel_rfl) ⟨⟨rfl, tr⟩, tr⟩ (of_decide_eq_true (by kernel_rfl))⟩

/-! spec.l01Narrow -/
def zk3 (_K : Nat) (a0 : F64) : Option (F32) :=
 chk ((zqw .f64 a0.bits .f32).isSome = true) (some (Fl.cv .f64 .f32 a0))

theorem ok_spec_l01Narrow (K : Nat) (a0 : F64) (o : (F32)) (h : zk3 K a0 = some o) : CallOK Tryz.prog 121 [.one (.flt .f64 a0.bits)] [.one (.flt .f32 o.bits)] := by
 refine zqh Tryz.func121 rfl (by kernel_rfl) (Nat.le_of_ble_eq_true (by kernel_rfl)) ?_
 intro w0
 unfold zk3 at h
 refine AW.sC (Tt ∧ Tt) [] [0] [] ⟨tr, tr⟩ ?_
 refine AW.seq ?_
 obtain ⟨c1, h⟩ := zqn h
 refine AW.tA ⟨[(2, (vc (.flt .f32 (Fl.cv .f64 .f32 a0).bits)))], []⟩ (Tt ∧ ((zqw .f64 a0.bits .f32).isSome = true) ∧ Tt ∧ Tt) [] [2] [] ⟨tr, c1, tr, tr⟩ ?_
 refine AW.ret ?_
 replace h := zqd h
 subst h
 exact ⟨.inr rfl, zqe [(.one (cF (Fl.cv .f64 .f32 a0)))] (by kernel_rfl) ⟨⟨rfl, tr⟩, tr⟩ (of_decide_eq_true (by kernel_rfl))⟩

/-! spec.l01Sqrt -/
def zk9 (K : Nat) (a0 : F32) : Option (F32) :=
 (zj5 K (Fl.cv .f32 .f64 a0)).bind fun v1 => (zk3 K v1).bind fun v3 => some v3

theorem ok_spec_l01Sqrt (K : Nat) (a0 : F32) (o : (F32)) (h : zk9 K a0 = some o) : CallOK Tryz.prog 107 [.one (.flt .f32 a0.bits)] [.one (.flt .f32 o.bits)] := by
 refine zqh Tryz.func107 rfl (by kernel_rfl) (Nat.le_of_ble_eq_true (by kernel_rfl)) ?_
 intro w0
 unfold zk9 at h
 refine AW.sC (Tt ∧ Tt) [] [0] [] ⟨tr, tr⟩ ?_
 refine AW.seq ?_
 obtain ⟨v1, e2, h⟩ := zqb h
 obtain ⟨v3, e4, h⟩ := zqb h
 let z1 : List CT := [.one (.flt .f64 v1.bits)]
 let z2 := Fl.cv .f32 .f64 a0
 refine AW.tA ⟨[(2, (vc (.flt .f32 v3.bits)))], []⟩ (Tt ∧ ((zqw .f32 a0.bits .f64).isSome = true) ∧ (((Eqc (.flt .f64 z2.bits)) ∧ Tt) ∧ CallOK Tryz.prog 122 [.one (.flt .f64 z2.bits)] z1) ∧ (((Eqc (.flt .f64 v1.bits)) ∧ Tt) ∧ CallOK Tryz.prog 121 z1 [.one (.flt .f32 v3.bits)]) ∧ Tt ∧ Tt) [.no, .no, .call [.one (.flt .f64 z2.bits)] z1 [[.view]], .call z1 [.one (.flt .f32 v3.bits)] [[.view]]] [2] [] ⟨tr, zbb a0, ⟨⟨rfl, tr⟩, zyw K z2 v1 e2⟩, ⟨⟨rfl, tr⟩, ok_spec_l01Narrow K v1 v3 e4⟩, tr, tr⟩ ?_
 refine AW.ret ?_
 replace h := zqd h
 subst h
 exact ⟨.inr rfl, zqe [(.one (cF v3))] (by kernel_rfl) ⟨⟨rfl, tr⟩, tr⟩ (of_decide_eq_true (by kernel_rfl))⟩

/-! spec.l01Finite -/
def zk0 (_K : Nat) (a0 : F32) : Option (Bool) :=
 some ((a0.sub a0).eq (Fl.mk (k := .f32) 0 (by decide)))

theorem ok_spec_l01Finite (K : Nat) (a0 : F32) (o : (Bool)) (h : zk0 K a0 = some o) : CallOK Tryz.prog 109 [.one (.flt .f32 a0.bits)] [.one (.bool o)] := by
 refine zqh Tryz.func109 rfl (by kernel_rfl) (Nat.le_of_ble_eq_true (by kernel_rfl)) ?_
 intro w0
 unfold zk0 at h
 refine AW.sC (Tt ∧ Tt) [] [0] [] ⟨tr, tr⟩ ?_
 let z1 := (a0.sub a0).eq (Fl.mk (k := .f32) 0 (by decide))
 refine AW.sA ⟨[(2, (vB z1))], []⟩ (Tt ∧ T4 Tt) [] [2] [] ⟨tr, tr, tr, tr, tr, tr⟩ ?_
 refine AW.ret ?_
 replace h := zqd h
 subst h
 exact ⟨.inr rfl, zqe [(.one (.c (.bool z1)))] (by kernel_rfl) ⟨⟨rfl, tr⟩, tr⟩ (of_decide_eq_true (by kernel_rfl))⟩

/-! spec.l02No -/
def zcc (_K : Nat) : Option (Turn) :=
 some (Turn.mk (Fl.mk (k := .f32) 1065353216 (by decide)) (default : F32) (default : F32) (default : F32))

theorem ok_spec_l02No (K : Nat) (o : (Turn)) (h : zcc K  = some o) : CallOK Tryz.prog 110 [] [.agg (zqi o)] := by
 refine zqh Tryz.func110 rfl (by kernel_rfl) (Nat.le_of_ble_eq_true (by kernel_rfl)) ?_
 intro w0
 unfold zcc at h
 refine AW.sC (Tt ∧ Tt) [.box 1] [0] [1] ⟨tr, tr⟩ ?_
 let z1 := cF (default : F32)
 let z2 := cF (Fl.mk (k := .f32) 1065353216 (by decide))
 refine AW.sA ⟨[(0, (vp 1 0))], [(1, (.box [z2, z1, z1, z1]))]⟩ (T2 Tt) [] [0] [1] ⟨tr, tr, tr⟩ ?_
 refine AW.ret ?_
 replace h := zqd h
 subst h
 exact ⟨.inr rfl, zqe [(.agg [z2, z1, z1, z1])] (by kernel_rfl) ⟨⟨⟨rfl, tr⟩, ⟨rfl, tr⟩, ⟨rfl, tr⟩, ⟨rfl, tr⟩, tr⟩, tr⟩ (of_decide_eq_true (by kernel_rfl))⟩

/-! spec.l02Mend -/
def zk6 (K : Nat) (a0 : Turn) : Option (Turn) :=
 (zye K a0 a0).bind fun v1 => (zk9 K v1).bind fun v3 => (ite2 ((v3.eq (Fl.mk (k := .f32) 0 (by decide)))) (some true) ((zk0 K v3).bind fun v6 => some (!v6))).bind fun j8 => ite2 (j8) ((zcc K ).bind fun v11 => some v11) (some (Turn.mk (a0.W.div v3) (a0.X.div v3) (a0.Y.div v3) (a0.Z.div v3)))

theorem ok_spec_l02Mend (K : Nat) (a0 : Turn) (o : (Turn)) (h : zk6 K a0 = some o) : CallOK Tryz.prog 90 [.agg (zqi a0)] [.agg (zqi o)] := by
 refine zqh Tryz.func90 rfl (by kernel_rfl) (Nat.le_of_ble_eq_true (by kernel_rfl)) ?_
 intro w0
 unfold zk6 at h
 refine AW.sC (T2 Tt) [.box 1, .box 2] [1, 2] [1, 2] ⟨tr, tr, tr⟩ ?_
 refine AW.seq ?_
 obtain ⟨v1, e2, h⟩ := zqb h
 obtain ⟨v3, e4, h⟩ := zqb h
 let z1 := cF (default : F32)
 let z2 := vc (.flt .f32 v3.bits)
 let z3 : List CT := [.one (.flt .f32 v1.bits)]
 let z4 : List CT := [.one (.flt .f32 v3.bits)]
 let z5 := (eF a0.W) ∧ (eF a0.X) ∧ (eF a0.Y) ∧ (eF a0.Z) ∧ Tt
 let z6 : List CT := [.agg (zqi a0), .agg (zqi a0)]
 refine AW.tA ⟨[(1, (vp 1 0)), (2, (vp 2 0)), (3, z2)], [(1, (.box [(cF a0.W), (cF a0.X), (cF a0.Y), (cF a0.Z)])), (2, (.box [z1, z1, z1, z1]))]⟩ (T2 (((z5 ∧ z5 ∧ Tt) ∧ CallOK Tryz.prog 108 z6 z3) ∧ (((eF v1) ∧ Tt) ∧ CallOK Tryz.prog 107 z3 z4) ∧ Tt ∧ Tt)) [.no, .no, .call z6 z3 [[.view]], .call z3 z4 [[.view]]] [1, 2, 3] [1, 2] ⟨tr, tr, ⟨⟨⟨rfl, rfl, rfl, rfl, tr⟩, ⟨rfl, rfl, rfl, rfl, tr⟩, tr⟩, ok_spec_l02Inner K a0 a0 v1 e2⟩, ⟨⟨rfl, tr⟩, ok_spec_l01Sqrt K v1 v3 e4⟩, tr, tr⟩ ?_
 refine AW.seq ?_
 refine AW.seq ?_
 obtain ⟨j8, e9, h⟩ := zqb h
 refine AW.join1 (s2 := ⟨[(1, (vp 1 0)), (2, (vp 2 0)), (3, z2), (14, (vB j8))], [(1, (.box [(cF a0.W), (cF a0.X), (cF a0.Y), (cF a0.Z)])), (2, (.box [z1, z1, z1, z1]))]⟩) ?_ ?_
 ·rcases zqc e9 with ⟨b5, e9⟩ | ⟨b5, e9⟩
  ·replace e9 := zqd e9
   subst e9
   exact AW.rA ⟨[(1, (vp 1 0)), (2, (vp 2 0)), (3, z2), (14, (vB true))], [(1, (.box [(cF a0.W), (cF a0.X), (cF a0.Y), (cF a0.Z)])), (2, (.box [z1, z1, z1, z1]))]⟩ (T2 ((Tt ∧ (v3.eq (Fl.mk (k := .f32) 0 (by decide))) = true) ∧ T4 Tt)) [.no, .no, .dec true] [1, 2, 3, 14] [1, 2] ⟨tr, tr, ⟨tr, b5⟩, tr, tr, tr, tr, tr⟩ ⟨rfl, rfl⟩
  ·obtain ⟨v6, e7, e9⟩ := zqb e9
   replace e9 := zqd e9
   subst e9
   exact AW.rA ⟨[(1, (vp 1 0)), (2, (vp 2 0)), (3, z2), (14, (vB (!v6)))], [(1, (.box [(cF a0.W), (cF a0.X), (cF a0.Y), (cF a0.Z)])), (2, (.box [z1, z1, z1, z1]))]⟩ (T2 ((Tt ∧ (v3.eq (Fl.mk (k := .f32) 0 (by decide))) = false) ∧ Tt ∧ (((eF v3) ∧ Tt) ∧ CallOK Tryz.prog 109 z4 [.one (.bool v6)]) ∧ T2 Tt)) [.no, .no, .dec false, .no, .call z4 [.one (.bool v6)] [[.view]]] [1, 2, 3, 14] [1, 2] ⟨tr, tr, ⟨tr, b5⟩, tr, ⟨⟨rfl, tr⟩, ok_spec_l01Finite K v3 v6 e7⟩, tr, tr, tr⟩ ⟨rfl, rfl⟩
 refine zqa ?_
 rcases zqc h with ⟨b10, h⟩ | ⟨b10, h⟩
 ·refine AW.cond_t rfl b10 ?_
  refine AW.seq ?_
  obtain ⟨v11, e12, h⟩ := zqb h
  refine AW.tA ⟨[(2, (vp 2 0))], [(2, (.box [(cF v11.W), (cF v11.X), (cF v11.Y), (cF v11.Z)]))]⟩ (((Tt) ∧ CallOK Tryz.prog 110 [] [.agg (zqi v11)]) ∧ Tt ∧ Tt) [.call [] [.agg (zqi v11)] [[.view, .view, .view, .view]]] [2] [2] ⟨⟨tr, ok_spec_l02No K v11 e12⟩, tr, tr⟩ ?_
  refine AW.ret ?_
  refine zqm ?_
  replace h := zqd h
  subst h
  exact ⟨.inr rfl, zqe [(.agg [(cF v11.W), (cF v11.X), (cF v11.Y), (cF v11.Z)])] (by kernel_rfl) ⟨⟨⟨rfl, tr⟩, ⟨rfl, tr⟩, ⟨rfl, tr⟩, ⟨rfl, tr⟩, tr⟩, tr⟩ (of_decide_eq_true (by kernel_rfl))⟩
 ·refine AW.cond_f rfl b10 ?_
  refine AW.skip ?_
  refine zqa ?_
  refine AW.sA ⟨[(2, (vp 2 0))], [(2, (.box [(cF (a0.W.div v3)), (cF (a0.X.div v3)), (cF (a0.Y.div v3)), (cF (a0.Z.div v3))]))]⟩ (T2 (T4 (T4 (T4 (T4 Tt))))) [] [2] [2] ⟨tr, tr, tr, tr, tr, tr, tr, tr, tr, tr, tr, tr, tr, tr, tr, tr, tr, tr, tr⟩ ?_
  refine AW.ret ?_
  replace h := zqd h
  subst h
  exact ⟨.inr rfl, zqe [(.agg [(cF (a0.W.div v3)), (cF (a0.X.div v3)), (cF (a0.Y.div v3)), (cF (a0.Z.div v3))])] (by kernel_rfl) ⟨⟨⟨rfl, tr⟩, ⟨rfl, tr⟩, ⟨rfl, tr⟩, ⟨rfl, tr⟩, tr⟩, tr⟩ (of_decide_eq_true (by kernel_rfl))⟩

/-! spec.l02DrawTurn -/
def zj4 (K : Nat) (a0 : l00Src) : Option (Turn × Int × Int) :=
 (zxc K a0 (2 : Int)).bind fun v1 => ite2 (v1.1) ((zjv K (l00Src.mk a0.code v1.2.1 v1.2.2)).bind fun v4 => some (v4.1, v4.2.1, v4.2.2)) ((zwp K (l00Src.mk a0.code v1.2.1 v1.2.2)).bind fun v6 => (zwp K (l00Src.mk a0.code v6.2.1 v6.2.2)).bind fun v8 => (zwp K (l00Src.mk a0.code v8.2.1 v8.2.2)).bind fun v10 => (zwp K (l00Src.mk a0.code v10.2.1 v10.2.2)).bind fun v12 => (zk6 K (Turn.mk v6.1 v8.1 v10.1 v12.1)).bind fun v14 => some (v14, v12.2.1, v12.2.2))

theorem ok_spec_l02DrawTurn (K : Nat) (a0 : l00Src) (o : (Turn × Int × Int)) (h : zj4 K a0 = some o) : MutOK Tryz.prog 60 [(.box 3 (fun j => [true, false, false].getD j true) (fun j => (zqj a0).getD j .nilptr) (fun j => [.nilptr, (.int .i64 o.2.1), (.int .u64 o.2.2)].getD j .nilptr))] [.agg (zqi o.1)] := by
 refine zxe 1 Tryz.func60 rfl (by kernel_rfl) (Nat.le_of_ble_eq_true (by kernel_rfl)) (by kernel_rfl) (by kernel_rfl) ?_
 intro w0 K0 v0 s0
 unfold zj4 at h
 let z1 := sl 1 (csI .u8) a0.code
 refine AW.weak (s' := ⟨[(0, (vp 0 0))], [(0, (.box [(.fx 0 0 z1), (cI a0.at_), (.c (.int .u64 a0.seed))]))]⟩) (zkt 0 [1, 2] (by kernel_rfl)) ?_
 refine AW.sC (Tt ∧ Tt) [.box 1] [0, 2] [0, 1] ⟨tr, tr⟩ ?_
 refine AW.seq ?_
 refine AW.seq ?_
 obtain ⟨v1, e2, h⟩ := zqb h
 let z8 := cF (default : F32)
 refine AW.tA ⟨[(0, (vp 0 0)), (2, (vp 1 0)), (5, (vB v1.1))], [(0, (.box [(.fx 0 0 z1), (cI v1.2.1), (.c (.int .u64 v1.2.2))])), (1, (.box [z8, z8, z8, z8]))]⟩ (Tt ∧ ((((Eqc z1) ∧ (eI a0.at_) ∧ (Eqc (.int .u64 a0.seed)) ∧ Tt) ∧ (eI (2 : Int)) ∧ Tt) ∧ MutOK Tryz.prog 87 [(.box 3 (fun j => [true, false, false].getD j true) (fun j => (zqj a0).getD j .nilptr) (fun j => [.nilptr, (.int .i64 v1.2.1), (.int .u64 v1.2.2)].getD j .nilptr)), .one (.ro (.int .i64 (2 : Int)))] [.one (.bool v1.1)]) ∧ Tt) [.no, .callM [(.box 3 (fun j => [true, false, false].getD j true) (fun j => (zqj a0).getD j .nilptr) (fun j => [.nilptr, (.int .i64 v1.2.1), (.int .u64 v1.2.2)].getD j .nilptr)), .one (.ro (.int .i64 (2 : Int)))] [.one (.bool v1.1)] [[.view]] none] [0, 2, 5] [0, 1] ⟨tr, ⟨⟨⟨rfl, rfl, rfl, tr⟩, rfl, tr⟩, zjj K a0 (2 : Int) v1 e2⟩, tr⟩ ?_
 rcases zqc h with ⟨b3, h⟩ | ⟨b3, h⟩
 ·refine AW.cond_t rfl b3 ?_
  refine AW.seq ?_
  obtain ⟨v4, e5, h⟩ := zqb h
  let z3 := l00Src.mk a0.code v1.2.1 v1.2.2
  refine AW.tA ⟨[(0, (vp 0 0)), (2, (vp 1 0))], [(0, (.box [(.fx 0 0 z1), (cI v4.2.1), (.c (.int .u64 v4.2.2))])), (1, (.box [(cF v4.1.W), (cF v4.1.X), (cF v4.1.Y), (cF v4.1.Z)]))]⟩ (Tt ∧ ((((Eqc z1) ∧ (eI v1.2.1) ∧ (Eqc (.int .u64 v1.2.2)) ∧ Tt) ∧ Tt) ∧ MutOK Tryz.prog 88 [(.box 3 (fun j => [true, false, false].getD j true) (fun j => (zqj z3).getD j .nilptr) (fun j => [.nilptr, (.int .i64 v4.2.1), (.int .u64 v4.2.2)].getD j .nilptr))] [.agg (zqi v4.1)]) ∧ Tt ∧ Tt) [.no, .callM [(.box 3 (fun j => [true, false, false].getD j true) (fun j => (zqj z3).getD j .nilptr) (fun j => [.nilptr, (.int .i64 v4.2.1), (.int .u64 v4.2.2)].getD j .nilptr))] [.agg (zqi v4.1)] [[.view, .view, .view, .view]] none] [0, 2] [0, 1] ⟨tr, ⟨⟨⟨rfl, rfl, rfl, tr⟩, tr⟩, ok_spec_l02DrawExact K z3 v4 e5⟩, tr, tr⟩ ?_
  refine AW.ret ?_
  refine zqm ?_
  replace h := zqd h
  subst h
  exact ⟨.inr rfl, zqe [(.agg [(cF v4.1.W), (cF v4.1.X), (cF v4.1.Y), (cF v4.1.Z)])] (by kernel_rfl) ⟨⟨⟨rfl, tr⟩, ⟨rfl, tr⟩, ⟨rfl, tr⟩, ⟨rfl, tr⟩, tr⟩, tr⟩ (of_decide_eq_true (by kernel_rfl)), by kernel_rfl, ⟨⟨rfl, ⟨⟨rfl, rfl⟩, ⟨rfl, rfl⟩, ⟨rfl, rfl⟩, tr⟩⟩, tr⟩⟩
 ·refine AW.cond_f rfl b3 ?_
  refine AW.skip ?_
  refine zqa ?_
  refine AW.seq ?_
  obtain ⟨v6, e7, h⟩ := zqb h
  let z4 := l00Src.mk a0.code v1.2.1 v1.2.2
  refine AW.tC (Tt ∧ ((((Eqc z1) ∧ (eI v1.2.1) ∧ (Eqc (.int .u64 v1.2.2)) ∧ Tt) ∧ Tt) ∧ MutOK Tryz.prog 89 [(.box 3 (fun j => [true, false, false].getD j true) (fun j => (zqj z4).getD j .nilptr) (fun j => [.nilptr, (.int .i64 v6.2.1), (.int .u64 v6.2.2)].getD j .nilptr))] [.one (.flt .f32 v6.1.bits)]) ∧ Tt ∧ T2 Tt) [.no, .callM [(.box 3 (fun j => [true, false, false].getD j true) (fun j => (zqj z4).getD j .nilptr) (fun j => [.nilptr, (.int .i64 v6.2.1), (.int .u64 v6.2.2)].getD j .nilptr))] [.one (.flt .f32 v6.1.bits)] [[.view]] none, .no, .box 2] [0, 2, 3] [0, 1, 2] ⟨tr, ⟨⟨⟨rfl, rfl, rfl, tr⟩, tr⟩, zw0 K z4 v6 e7⟩, tr, tr, tr, tr⟩ ?_
  refine AW.seq ?_
  obtain ⟨v8, e9, h⟩ := zqb h
  let z5 := l00Src.mk a0.code v6.2.1 v6.2.2
  refine AW.tC (Tt ∧ ((((Eqc z1) ∧ (eI v6.2.1) ∧ (Eqc (.int .u64 v6.2.2)) ∧ Tt) ∧ Tt) ∧ MutOK Tryz.prog 89 [(.box 3 (fun j => [true, false, false].getD j true) (fun j => (zqj z5).getD j .nilptr) (fun j => [.nilptr, (.int .i64 v8.2.1), (.int .u64 v8.2.2)].getD j .nilptr))] [.one (.flt .f32 v8.1.bits)]) ∧ T2 Tt) [.no, .callM [(.box 3 (fun j => [true, false, false].getD j true) (fun j => (zqj z5).getD j .nilptr) (fun j => [.nilptr, (.int .i64 v8.2.1), (.int .u64 v8.2.2)].getD j .nilptr))] [.one (.flt .f32 v8.1.bits)] [[.view]] none] [0, 2, 3] [0, 1, 2] ⟨tr, ⟨⟨⟨rfl, rfl, rfl, tr⟩, tr⟩, zw0 K z5 v8 e9⟩, tr, tr, tr⟩ ?_
  refine AW.seq ?_
  obtain ⟨v10, e11, h⟩ := zqb h
  let z6 := l00Src.mk a0.code v8.2.1 v8.2.2
  refine AW.tC (Tt ∧ ((((Eqc z1) ∧ (eI v8.2.1) ∧ (Eqc (.int .u64 v8.2.2)) ∧ Tt) ∧ Tt) ∧ MutOK Tryz.prog 89 [(.box 3 (fun j => [true, false, false].getD j true) (fun j => (zqj z6).getD j .nilptr) (fun j => [.nilptr, (.int .i64 v10.2.1), (.int .u64 v10.2.2)].getD j .nilptr))] [.one (.flt .f32 v10.1.bits)]) ∧ T2 Tt) [.no, .callM [(.box 3 (fun j => [true, false, false].getD j true) (fun j => (zqj z6).getD j .nilptr) (fun j => [.nilptr, (.int .i64 v10.2.1), (.int .u64 v10.2.2)].getD j .nilptr))] [.one (.flt .f32 v10.1.bits)] [[.view]] none] [0, 2, 3] [0, 1, 2] ⟨tr, ⟨⟨⟨rfl, rfl, rfl, tr⟩, tr⟩, zw0 K z6 v10 e11⟩, tr, tr, tr⟩ ?_
  refine AW.seq ?_
  obtain ⟨v12, e13, h⟩ := zqb h
  let z2 := l00Src.mk a0.code v10.2.1 v10.2.2
  refine AW.tC (Tt ∧ ((((Eqc z1) ∧ (eI v10.2.1) ∧ (Eqc (.int .u64 v10.2.2)) ∧ Tt) ∧ Tt) ∧ MutOK Tryz.prog 89 [(.box 3 (fun j => [true, false, false].getD j true) (fun j => (zqj z2).getD j .nilptr) (fun j => [.nilptr, (.int .i64 v12.2.1), (.int .u64 v12.2.2)].getD j .nilptr))] [.one (.flt .f32 v12.1.bits)]) ∧ T2 Tt) [.no, .callM [(.box 3 (fun j => [true, false, false].getD j true) (fun j => (zqj z2).getD j .nilptr) (fun j => [.nilptr, (.int .i64 v12.2.1), (.int .u64 v12.2.2)].getD j .nilptr))] [.one (.flt .f32 v12.1.bits)] [[.view]] none] [0, 2, 3] [0, 1, 2] ⟨tr, ⟨⟨⟨rfl, rfl, rfl, tr⟩, tr⟩, zw0 K z2 v12 e13⟩, tr, tr, tr⟩ ?_
  refine AW.seq ?_
  obtain ⟨v14, e15, h⟩ := zqb h
  let z7 := Turn.mk v6.1 v8.1 v10.1 v12.1
  refine AW.tA ⟨[(0, (vp 0 0)), (2, (vp 1 0))], [(0, (.box [(.fx 0 0 z1), (cI v12.2.1), (.c (.int .u64 v12.2.2))])), (1, (.box [(cF v14.W), (cF v14.X), (cF v14.Y), (cF v14.Z)]))]⟩ (Tt ∧ ((((eF v6.1) ∧ (eF v8.1) ∧ (eF v10.1) ∧ (eF v12.1) ∧ Tt) ∧ Tt) ∧ CallOK Tryz.prog 90 [.agg (zqi z7)] [.agg (zqi v14)]) ∧ Tt ∧ Tt) [.no, .call [.agg (zqi z7)] [.agg (zqi v14)] [[.view, .view, .view, .view]]] [0, 2] [0, 1] ⟨tr, ⟨⟨⟨rfl, rfl, rfl, rfl, tr⟩, tr⟩, ok_spec_l02Mend K z7 v14 e15⟩, tr, tr⟩ ?_
  refine AW.ret ?_
  replace h := zqd h
  subst h
  exact ⟨.inr rfl, zqe [(.agg [(cF v14.W), (cF v14.X), (cF v14.Y), (cF v14.Z)])] (by kernel_rfl) ⟨⟨⟨rfl, tr⟩, ⟨rfl, tr⟩, ⟨rfl, tr⟩, ⟨rfl, tr⟩, tr⟩, tr⟩ (of_decide_eq_true (by kernel_rfl)), by kernel_rfl, ⟨⟨rfl, ⟨⟨rfl, rfl⟩, ⟨rfl, rfl⟩, ⟨rfl, rfl⟩, tr⟩⟩, tr⟩⟩

/-! spec.l01DrawPlain -/
def zx4 (K : Nat) (a0 : l00Src) : Option (F32 × Int × Int) :=
 (zq7 K a0 (129 : Int)).bind fun v1 => (zxc K (l00Src.mk a0.code v1.2.1 v1.2.2) (4 : Int)).bind fun v3 => ite2 (v3.1) (some (((Fl.ofInt .f32 (IntKind.i64.wrap (v1.1 - (64 : Int)))).div (Fl.mk (k := .f32) 1088421888 (by decide))), v3.2.1, v3.2.2)) (some (((Fl.ofInt .f32 (IntKind.i64.wrap (v1.1 - (64 : Int)))).div (Fl.mk (k := .f32) 1098907648 (by decide))), v3.2.1, v3.2.2))

theorem ok_spec_l01DrawPlain (K : Nat) (a0 : l00Src) (o : (F32 × Int × Int)) (h : zx4 K a0 = some o) : MutOK Tryz.prog 111 [(.box 3 (fun j => [true, false, false].getD j true) (fun j => (zqj a0).getD j .nilptr) (fun j => [.nilptr, (.int .i64 o.2.1), (.int .u64 o.2.2)].getD j .nilptr))] [.one (.flt .f32 o.1.bits)] := by
 refine zxe 1 Tryz.func111 rfl (by kernel_rfl) (Nat.le_of_ble_eq_true (by kernel_rfl)) (by kernel_rfl) (by kernel_rfl) ?_
 intro w0 K0 v0 s0
 unfold zx4 at h
 let z2 := sl 1 (csI .u8) a0.code
 refine AW.weak (s' := ⟨[(0, (vp 0 0))], [(0, (.box [(.fx 0 0 z2), (cI a0.at_), (.c (.int .u64 a0.seed))]))]⟩) (zkt 0 [1, 2] (by kernel_rfl)) ?_
 refine AW.sC (Tt ∧ Tt) [] [0] [0] ⟨tr, tr⟩ ?_
 refine AW.seq ?_
 obtain ⟨v1, e2, h⟩ := zqb h
 refine AW.tC (Tt ∧ ((((Eqc z2) ∧ (eI a0.at_) ∧ (Eqc (.int .u64 a0.seed)) ∧ Tt) ∧ (eI (129 : Int)) ∧ Tt) ∧ MutOK Tryz.prog 38 [(.box 3 (fun j => [true, false, false].getD j true) (fun j => (zqj a0).getD j .nilptr) (fun j => [.nilptr, (.int .i64 v1.2.1), (.int .u64 v1.2.2)].getD j .nilptr)), .one (.ro (.int .i64 (129 : Int)))] [.one (.int .i64 v1.1)]) ∧ T2 Tt) [.no, .callM [(.box 3 (fun j => [true, false, false].getD j true) (fun j => (zqj a0).getD j .nilptr) (fun j => [.nilptr, (.int .i64 v1.2.1), (.int .u64 v1.2.2)].getD j .nilptr)), .one (.ro (.int .i64 (129 : Int)))] [.one (.int .i64 v1.1)] [[.view]] none] [0, 3] [0] ⟨tr, ⟨⟨⟨rfl, rfl, rfl, tr⟩, rfl, tr⟩, zq8 K a0 (129 : Int) v1 e2⟩, tr, tr, tr⟩ ?_
 refine AW.seq ?_
 refine AW.seq ?_
 obtain ⟨v3, e4, h⟩ := zqb h
 let z1 := IntKind.i64.wrap (v1.1 - (64 : Int))
 let z5 := l00Src.mk a0.code v1.2.1 v1.2.2
 refine AW.tA ⟨[(0, (vp 0 0)), (3, (vI z1)), (8, (vB v3.1))], [(0, (.box [(.fx 0 0 z2), (cI v3.2.1), (.c (.int .u64 v3.2.2))]))]⟩ (Tt ∧ ((((Eqc z2) ∧ (eI v1.2.1) ∧ (Eqc (.int .u64 v1.2.2)) ∧ Tt) ∧ (eI (4 : Int)) ∧ Tt) ∧ MutOK Tryz.prog 87 [(.box 3 (fun j => [true, false, false].getD j true) (fun j => (zqj z5).getD j .nilptr) (fun j => [.nilptr, (.int .i64 v3.2.1), (.int .u64 v3.2.2)].getD j .nilptr)), .one (.ro (.int .i64 (4 : Int)))] [.one (.bool v3.1)]) ∧ Tt) [.no, .callM [(.box 3 (fun j => [true, false, false].getD j true) (fun j => (zqj z5).getD j .nilptr) (fun j => [.nilptr, (.int .i64 v3.2.1), (.int .u64 v3.2.2)].getD j .nilptr)), .one (.ro (.int .i64 (4 : Int)))] [.one (.bool v3.1)] [[.view]] none] [0, 3, 8] [0] ⟨tr, ⟨⟨⟨rfl, rfl, rfl, tr⟩, rfl, tr⟩, zjj K z5 (4 : Int) v3 e4⟩, tr⟩ ?_
 rcases zqc h with ⟨b5, h⟩ | ⟨b5, h⟩
 ·refine AW.cond_t rfl b5 ?_
  let z3 := (Fl.ofInt .f32 z1).div (Fl.mk (k := .f32) 1088421888 (by decide))
  refine AW.sA ⟨[(0, (vp 0 0)), (2, (vc (.flt .f32 z3.bits)))], [(0, (.box [(.fx 0 0 z2), (cI v3.2.1), (.c (.int .u64 v3.2.2))]))]⟩ (T4 Tt) [] [0, 2] [0] ⟨tr, tr, tr, tr, tr⟩ ?_
  refine AW.ret ?_
  refine zqm ?_
  replace h := zqd h
  subst h
  exact ⟨.inr rfl, zqe [(.one (cF z3))] (by kernel_rfl) ⟨⟨rfl, tr⟩, tr⟩ (of_decide_eq_true (by kernel_rfl)), by kernel_rfl, ⟨⟨rfl, ⟨⟨rfl, rfl⟩, ⟨rfl, rfl⟩, ⟨rfl, rfl⟩, tr⟩⟩, tr⟩⟩
 ·refine AW.cond_f rfl b5 ?_
  refine AW.skip ?_
  refine zqa ?_
  let z4 := (Fl.ofInt .f32 z1).div (Fl.mk (k := .f32) 1098907648 (by decide))
  refine AW.sA ⟨[(0, (vp 0 0)), (2, (vc (.flt .f32 z4.bits)))], [(0, (.box [(.fx 0 0 z2), (cI v3.2.1), (.c (.int .u64 v3.2.2))]))]⟩ (T4 Tt) [] [0, 2] [0] ⟨tr, tr, tr, tr, tr⟩ ?_
  refine AW.ret ?_
  replace h := zqd h
  subst h
  exact ⟨.inr rfl, zqe [(.one (cF z4))] (by kernel_rfl) ⟨⟨rfl, tr⟩, tr⟩ (of_decide_eq_true (by kernel_rfl)), by kernel_rfl, ⟨⟨rfl, ⟨⟨rfl, rfl⟩, ⟨rfl, rfl⟩, ⟨rfl, rfl⟩, tr⟩⟩, tr⟩⟩

/-! (*spec.l00Src).among -/
def zx5 (K : Nat) (a0 : l00Src) (a1 : (List Int)) : Option (Int × Int × Int) :=
 (zq7 K a0 (a1.length : Int)).bind fun v1 => chk (0 ≤ v1.1 ∧ v1.1 < (a1.length : Int)) (some ((a1.getD v1.1.toNat default), v1.2.1, v1.2.2))

theorem ok_spec_l00Src_among (K : Nat) (a0 : l00Src) (a1 : (List Int)) (o : (Int × Int × Int)) (h : zx5 K a0 a1 = some o) : MutOK Tryz.prog 113 [(.box 3 (fun j => [true, false, false].getD j true) (fun j => (zqj a0).getD j .nilptr) (fun j => [.nilptr, (.int .i64 o.2.1), (.int .u64 o.2.2)].getD j .nilptr)), (.one (.ro (sl 1 (csI .i64) a1)))] [.one (.int .i64 o.1)] := by
 refine zxe 1 Tryz.func113 rfl (by kernel_rfl) (Nat.le_of_ble_eq_true (by kernel_rfl)) (by kernel_rfl) (by kernel_rfl) ?_
 intro w0 K0 v0 s0
 unfold zx5 at h
 let z1 := sl 1 (csI .u8) a0.code
 refine AW.weak (s' := ⟨[(0, (vp 0 0)), (1, (vc (sl 1 (csI .i64) a1)))], [(0, (.box [(.fx 0 0 z1), (cI a0.at_), (.c (.int .u64 a0.seed))]))]⟩) (zkt 0 [1, 2] (by kernel_rfl)) ?_
 refine AW.sC (Tt ∧ Tt) [] [0, 1] [0] ⟨tr, tr⟩ ?_
 refine AW.seq ?_
 obtain ⟨v1, e2, h⟩ := zqb h
 obtain ⟨c3, h⟩ := zqn h
 let z2 := a1.getD v1.1.toNat default
 refine AW.tA ⟨[(0, (vp 0 0)), (1, (vc (sl 1 (csI .i64) a1))), (4, (vI z2))], [(0, (.box [(.fx 0 0 z1), (cI v1.2.1), (.c (.int .u64 v1.2.2))]))]⟩ (T4 (((((Eqc z1) ∧ (eI a0.at_) ∧ (Eqc (.int .u64 a0.seed)) ∧ Tt) ∧ (eI (a1.length : Int)) ∧ Tt) ∧ MutOK Tryz.prog 38 [(.box 3 (fun j => [true, false, false].getD j true) (fun j => (zqj a0).getD j .nilptr) (fun j => [.nilptr, (.int .i64 v1.2.1), (.int .u64 v1.2.2)].getD j .nilptr)), .one (.ro (.int .i64 (a1.length : Int)))] [.one (.int .i64 v1.1)]) ∧ (0 ≤ v1.1 ∧ v1.1 < (a1.length : Int)) ∧ T2 Tt)) [.no, .no, .no, .no, .callM [(.box 3 (fun j => [true, false, false].getD j true) (fun j => (zqj a0).getD j .nilptr) (fun j => [.nilptr, (.int .i64 v1.2.1), (.int .u64 v1.2.2)].getD j .nilptr)), .one (.ro (.int .i64 (a1.length : Int)))] [.one (.int .i64 v1.1)] [[.view]] none] [0, 1, 4] [0] ⟨tr, tr, tr, tr, ⟨⟨⟨rfl, rfl, rfl, tr⟩, rfl, tr⟩, zq8 K a0 (a1.length : Int) v1 e2⟩, c3, tr, tr, tr⟩ ?_
 refine AW.ret ?_
 replace h := zqd h
 subst h
 exact ⟨.inr rfl, zqe [(.one (cI z2))] (by kernel_rfl) ⟨⟨rfl, tr⟩, tr⟩ (of_decide_eq_true (by kernel_rfl)), by kernel_rfl, ⟨⟨rfl, ⟨⟨rfl, rfl⟩, ⟨rfl, rfl⟩, ⟨rfl, rfl⟩, tr⟩⟩, tr, tr⟩⟩

/-! math.Float32frombits -/
def zvt (_K : Nat) (a0 : Int) : Option (F32) :=
 Fl.ofBits .f32 a0

theorem ok_math_Float32frombits (K : Nat) (a0 : Int) (o : F32) (h : zvt K a0 = some o) : CallOK Tryz.prog 123 [.one (.int .u32 a0)] [.one (.flt .f32 o.bits)] :=
 hand_ofBits (e := Extern.MathFloatBits.float32frombits) Tryz.func123 (by kernel_rfl) (by kernel_rfl) (by kernel_rfl) (by kernel_rfl) (fun _ _ => rfl) a0 o h

/-! spec.l01From -/
def zjy (K : Nat) (a0 : Int) : Option (F32) :=
 (zvt K (IntKind.u32.wrap a0)).bind fun v1 => some v1

theorem zkd (K : Nat) (a0 : Int) (o : (F32)) (h : zjy K a0 = some o) : CallOK Tryz.prog 112 [.one (.int .i64 a0)] [.one (.flt .f32 o.bits)] := by
 refine zqh Tryz.func112 rfl (by kernel_rfl) (Nat.le_of_ble_eq_true (by kernel_rfl)) ?_
 intro w0
 unfold zjy at h
 refine AW.sC (Tt ∧ Tt) [] [0] [] ⟨tr, tr⟩ ?_
 refine AW.seq ?_
 obtain ⟨v1, e2, h⟩ := zqb h
 let z1 := IntKind.u32.wrap a0
 refine AW.tA ⟨[(2, (vc (.flt .f32 v1.bits)))], []⟩ (T2 ((((Eqc (.int .u32 z1)) ∧ Tt) ∧ CallOK Tryz.prog 123 [.one (.int .u32 z1)] [.one (.flt .f32 v1.bits)]) ∧ Tt ∧ Tt)) [.no, .no, .call [.one (.int .u32 z1)] [.one (.flt .f32 v1.bits)] [[.view]]] [2] [] ⟨tr, tr, ⟨⟨rfl, tr⟩, ok_math_Float32frombits K z1 v1 e2⟩, tr, tr⟩ ?_
 refine AW.ret ?_
 replace h := zqd h
 subst h
 exact ⟨.inr rfl, zqe [(.one (cF v1))] (by kernel_rfl) ⟨⟨rfl, tr⟩, tr⟩ (of_decide_eq_true (by kernel_rfl))⟩

/-! spec.l01DrawFloat -/
def zjx (K : Nat) (a0 : l00Src) : Option (F32 × Int × Int) :=
 (zxc K a0 (12 : Int)).bind fun v1 => ite2 ((!v1.1)) ((zx4 K (l00Src.mk a0.code v1.2.1 v1.2.2)).bind fun v4 => some (v4.1, v4.2.1, v4.2.2)) ((zq7 K (l00Src.mk a0.code v1.2.1 v1.2.2) (4 : Int)).bind fun v6 => ite2 ((v6.1 == (0 : Int))) ((zx5 K (l00Src.mk a0.code v6.2.1 v6.2.2) ([(0 : Int), (2147483648 : Int), (2139095040 : Int), (4286578688 : Int), (2143289344 : Int), (1 : Int), (2139095039 : Int), (8388608 : Int), (8388607 : Int), (2147483649 : Int)])).bind fun v9 => (zjy K v9.1).bind fun v11 => some (v11, v9.2.1, v9.2.2)) (ite2 ((v6.1 == (1 : Int))) ((zq7 K (l00Src.mk a0.code v6.2.1 v6.2.2) (65536 : Int)).bind fun v14 => (zq7 K (l00Src.mk a0.code v14.2.1 v14.2.2) (65536 : Int)).bind fun v16 => (zjy K (IntKind.i64.wrap ((IntKind.i64.wrap (v14.1 * (65536 : Int))) + v16.1))).bind fun v18 => some (v18, v16.2.1, v16.2.2)) (ite2 ((v6.1 == (2 : Int))) ((zq7 K (l00Src.mk a0.code v6.2.1 v6.2.2) (65536 : Int)).bind fun v21 => (zjy K (IntKind.i64.wrap (v21.1 * (65536 : Int)))).bind fun v23 => some (v23, v21.2.1, v21.2.2)) ((zx4 K (l00Src.mk a0.code v6.2.1 v6.2.2)).bind fun v25 => (zx5 K (l00Src.mk a0.code v25.2.1 v25.2.2) ([(8388608 : Int), (2130706432 : Int), (1610612736 : Int), (536870912 : Int)])).bind fun v27 => (zjy K v27.1).bind fun v29 => some ((v25.1.mul v29), v27.2.1, v27.2.2)))))

theorem ok_spec_l01DrawFloat (K : Nat) (a0 : l00Src) (o : (F32 × Int × Int)) (h : zjx K a0 = some o) : MutOK Tryz.prog 91 [(.box 3 (fun j => [true, false, false].getD j true) (fun j => (zqj a0).getD j .nilptr) (fun j => [.nilptr, (.int .i64 o.2.1), (.int .u64 o.2.2)].getD j .nilptr))] [.one (.flt .f32 o.1.bits)] := by
 refine zxe 1 Tryz.func91 rfl (by kernel_rfl) (Nat.le_of_ble_eq_true (by kernel_rfl)) (by kernel_rfl) (by kernel_rfl) ?_
 intro w0 K0 v0 s0
 unfold zjx at h
 let z3 := sl 1 (csI .u8) a0.code
 refine AW.weak (s' := ⟨[(0, (vp 0 0))], [(0, (.box [(.fx 0 0 z3), (cI a0.at_), (.c (.int .u64 a0.seed))]))]⟩) (zkt 0 [1, 2] (by kernel_rfl)) ?_
 refine AW.sC (Tt ∧ Tt) [] [0] [0] ⟨tr, tr⟩ ?_
 refine AW.seq ?_
 refine AW.seq ?_
 obtain ⟨v1, e2, h⟩ := zqb h
 refine AW.tA ⟨[(0, (vp 0 0)), (6, (vB (!v1.1)))], [(0, (.box [(.fx 0 0 z3), (cI v1.2.1), (.c (.int .u64 v1.2.2))]))]⟩ (Tt ∧ ((((Eqc z3) ∧ (eI a0.at_) ∧ (Eqc (.int .u64 a0.seed)) ∧ Tt) ∧ (eI (12 : Int)) ∧ Tt) ∧ MutOK Tryz.prog 87 [(.box 3 (fun j => [true, false, false].getD j true) (fun j => (zqj a0).getD j .nilptr) (fun j => [.nilptr, (.int .i64 v1.2.1), (.int .u64 v1.2.2)].getD j .nilptr)), .one (.ro (.int .i64 (12 : Int)))] [.one (.bool v1.1)]) ∧ Tt ∧ Tt) [.no, .callM [(.box 3 (fun j => [true, false, false].getD j true) (fun j => (zqj a0).getD j .nilptr) (fun j => [.nilptr, (.int .i64 v1.2.1), (.int .u64 v1.2.2)].getD j .nilptr)), .one (.ro (.int .i64 (12 : Int)))] [.one (.bool v1.1)] [[.view]] none] [0, 6] [0] ⟨tr, ⟨⟨⟨rfl, rfl, rfl, tr⟩, rfl, tr⟩, zjj K a0 (12 : Int) v1 e2⟩, tr, tr⟩ ?_
 rcases zqc h with ⟨b3, h⟩ | ⟨b3, h⟩
 ·refine AW.cond_t rfl b3 ?_
  refine AW.seq ?_
  obtain ⟨v4, e5, h⟩ := zqb h
  let z6 := l00Src.mk a0.code v1.2.1 v1.2.2
  refine AW.tA ⟨[(0, (vp 0 0)), (2, (vc (.flt .f32 v4.1.bits)))], [(0, (.box [(.fx 0 0 z3), (cI v4.2.1), (.c (.int .u64 v4.2.2))]))]⟩ (Tt ∧ ((((Eqc z3) ∧ (eI v1.2.1) ∧ (Eqc (.int .u64 v1.2.2)) ∧ Tt) ∧ Tt) ∧ MutOK Tryz.prog 111 [(.box 3 (fun j => [true, false, false].getD j true) (fun j => (zqj z6).getD j .nilptr) (fun j => [.nilptr, (.int .i64 v4.2.1), (.int .u64 v4.2.2)].getD j .nilptr))] [.one (.flt .f32 v4.1.bits)]) ∧ Tt ∧ Tt) [.no, .callM [(.box 3 (fun j => [true, false, false].getD j true) (fun j => (zqj z6).getD j .nilptr) (fun j => [.nilptr, (.int .i64 v4.2.1), (.int .u64 v4.2.2)].getD j .nilptr))] [.one (.flt .f32 v4.1.bits)] [[.view]] none] [0, 2] [0] ⟨tr, ⟨⟨⟨rfl, rfl, rfl, tr⟩, tr⟩, ok_spec_l01DrawPlain K z6 v4 e5⟩, tr, tr⟩ ?_
  refine AW.ret ?_
  refine zqm ?_
  replace h := zqd h
  subst h
  exact ⟨.inr rfl, zqe [(.one (cF v4.1))] (by kernel_rfl) ⟨⟨rfl, tr⟩, tr⟩ (of_decide_eq_true (by kernel_rfl)), by kernel_rfl, ⟨⟨rfl, ⟨⟨rfl, rfl⟩, ⟨rfl, rfl⟩, ⟨rfl, rfl⟩, tr⟩⟩, tr⟩⟩
 ·refine AW.cond_f rfl b3 ?_
  refine AW.skip ?_
  refine zqa ?_
  refine AW.seq ?_
  refine AW.seq ?_
  obtain ⟨v6, e7, h⟩ := zqb h
  let z7 := l00Src.mk a0.code v1.2.1 v1.2.2
  refine AW.tA ⟨[(0, (vp 0 0)), (10, (vI v6.1))], [(0, (.box [(.fx 0 0 z3), (cI v6.2.1), (.c (.int .u64 v6.2.2))]))]⟩ (Tt ∧ ((((Eqc z3) ∧ (eI v1.2.1) ∧ (Eqc (.int .u64 v1.2.2)) ∧ Tt) ∧ (eI (4 : Int)) ∧ Tt) ∧ MutOK Tryz.prog 38 [(.box 3 (fun j => [true, false, false].getD j true) (fun j => (zqj z7).getD j .nilptr) (fun j => [.nilptr, (.int .i64 v6.2.1), (.int .u64 v6.2.2)].getD j .nilptr)), .one (.ro (.int .i64 (4 : Int)))] [.one (.int .i64 v6.1)]) ∧ Tt) [.no, .callM [(.box 3 (fun j => [true, false, false].getD j true) (fun j => (zqj z7).getD j .nilptr) (fun j => [.nilptr, (.int .i64 v6.2.1), (.int .u64 v6.2.2)].getD j .nilptr)), .one (.ro (.int .i64 (4 : Int)))] [.one (.int .i64 v6.1)] [[.view]] none] [0, 10] [0] ⟨tr, ⟨⟨⟨rfl, rfl, rfl, tr⟩, rfl, tr⟩, zq8 K z7 (4 : Int) v6 e7⟩, tr⟩ ?_
  refine AW.block ?_
  refine AW.sA ⟨[(0, (vp 0 0)), (10, (vI v6.1)), (11, (vB (v6.1 == (0 : Int))))], [(0, (.box [(.fx 0 0 z3), (cI v6.2.1), (.c (.int .u64 v6.2.2))]))]⟩ (T2 Tt) [] [0, 10, 11] [0] ⟨tr, tr, tr⟩ ?_
  rcases zqc h with ⟨b8, h⟩ | ⟨b8, h⟩
  ·refine AW.cond_t rfl b8 ?_
   refine AW.seq ?_
   obtain ⟨v9, e10, h⟩ := zqb h
   obtain ⟨v11, e12, h⟩ := zqb h
   let z1 := [(0 : Int), (2147483648 : Int), (2139095040 : Int), (4286578688 : Int), (2143289344 : Int), (1 : Int), (2139095039 : Int), (8388608 : Int), (8388607 : Int), (2147483649 : Int)]
   let z9 := l00Src.mk a0.code v6.2.1 v6.2.2
   let z14 : List CT := [.one (.int .i64 v9.1)]
   let z16 := sl 1 (csI .i64) z1
   refine AW.tA ⟨[(0, (vp 0 0)), (2, (vc (.flt .f32 v11.bits)))], [(0, (.box [(.fx 0 0 z3), (cI v9.2.1), (.c (.int .u64 v9.2.2))]))]⟩ (Tt ∧ (z1.length = 10 ∧ (((.int .i64 (0 : Int)) : C) = (.int .i64 (0 : Int)) ∧ Tt) ∧ (((.int .i64 (2147483648 : Int)) : C) = (.int .i64 (2147483648 : Int)) ∧ Tt) ∧ (((.int .i64 (2139095040 : Int)) : C) = (.int .i64 (2139095040 : Int)) ∧ Tt) ∧ (((.int .i64 (4286578688 : Int)) : C) = (.int .i64 (4286578688 : Int)) ∧ Tt) ∧ (((.int .i64 (2143289344 : Int)) : C) = (.int .i64 (2143289344 : Int)) ∧ Tt) ∧ (((.int .i64 (1 : Int)) : C) = (.int .i64 (1 : Int)) ∧ Tt) ∧ (((.int .i64 (2139095039 : Int)) : C) = (.int .i64 (2139095039 : Int)) ∧ Tt) ∧ (((.int .i64 (8388608 : Int)) : C) = (.int .i64 (8388608 : Int)) ∧ Tt) ∧ (((.int .i64 (8388607 : Int)) : C) = (.int .i64 (8388607 : Int)) ∧ Tt) ∧ (((.int .i64 (2147483649 : Int)) : C) = (.int .i64 (2147483649 : Int)) ∧ Tt) ∧ Tt) ∧ ((((Eqc z3) ∧ (eI v6.2.1) ∧ (Eqc (.int .u64 v6.2.2)) ∧ Tt) ∧ (Eqc z16) ∧ Tt) ∧ MutOK Tryz.prog 113 [(.box 3 (fun j => [true, false, false].getD j true) (fun j => (zqj z9).getD j .nilptr) (fun j => [.nilptr, (.int .i64 v9.2.1), (.int .u64 v9.2.2)].getD j .nilptr)), .one (.ro z16)] z14) ∧ (((eI v9.1) ∧ Tt) ∧ CallOK Tryz.prog 112 z14 [.one (.flt .f32 v11.bits)]) ∧ Tt ∧ Tt) [.no, .obj 1 z1.length (gl (csI .i64) z1), .callM [(.box 3 (fun j => [true, false, false].getD j true) (fun j => (zqj z9).getD j .nilptr) (fun j => [.nilptr, (.int .i64 v9.2.1), (.int .u64 v9.2.2)].getD j .nilptr)), .one (.ro z16)] z14 [[.view]] none, .call z14 [.one (.flt .f32 v11.bits)] [[.view]]] [0, 2] [0] ⟨tr, ⟨rfl, ⟨⟨rfl, tr⟩, ⟨rfl, tr⟩, ⟨rfl, tr⟩, ⟨rfl, tr⟩, ⟨rfl, tr⟩, ⟨rfl, tr⟩, ⟨rfl, tr⟩, ⟨rfl, tr⟩, ⟨rfl, tr⟩, ⟨rfl, tr⟩, tr⟩⟩, ⟨⟨⟨rfl, rfl, rfl, tr⟩, rfl, tr⟩, ok_spec_l00Src_among K z9 z1 v9 e10⟩, ⟨⟨rfl, tr⟩, zkd K v9.1 v11 e12⟩, tr, tr⟩ ?_
   refine AW.ret ?_
   refine zqz ?_
   refine zqm ?_
   replace h := zqd h
   subst h
   exact ⟨.inr rfl, zqe [(.one (cF v11))] (by kernel_rfl) ⟨⟨rfl, tr⟩, tr⟩ (of_decide_eq_true (by kernel_rfl)), by kernel_rfl, ⟨⟨rfl, ⟨⟨rfl, rfl⟩, ⟨rfl, rfl⟩, ⟨rfl, rfl⟩, tr⟩⟩, tr⟩⟩
  ·refine AW.cond_f rfl b8 ?_
   refine AW.sA ⟨[(0, (vp 0 0)), (10, (vI v6.1)), (17, (vB (v6.1 == (1 : Int))))], [(0, (.box [(.fx 0 0 z3), (cI v6.2.1), (.c (.int .u64 v6.2.2))]))]⟩ (T2 Tt) [] [0, 10, 17] [0] ⟨tr, tr, tr⟩ ?_
   rcases zqc h with ⟨b13, h⟩ | ⟨b13, h⟩
   ·refine AW.cond_t rfl b13 ?_
    refine AW.seq ?_
    obtain ⟨v14, e15, h⟩ := zqb h
    let z11 := l00Src.mk a0.code v6.2.1 v6.2.2
    refine AW.tC (Tt ∧ ((((Eqc z3) ∧ (eI v6.2.1) ∧ (Eqc (.int .u64 v6.2.2)) ∧ Tt) ∧ (eI (65536 : Int)) ∧ Tt) ∧ MutOK Tryz.prog 38 [(.box 3 (fun j => [true, false, false].getD j true) (fun j => (zqj z11).getD j .nilptr) (fun j => [.nilptr, (.int .i64 v14.2.1), (.int .u64 v14.2.2)].getD j .nilptr)), .one (.ro (.int .i64 (65536 : Int)))] [.one (.int .i64 v14.1)]) ∧ T2 Tt) [.no, .callM [(.box 3 (fun j => [true, false, false].getD j true) (fun j => (zqj z11).getD j .nilptr) (fun j => [.nilptr, (.int .i64 v14.2.1), (.int .u64 v14.2.2)].getD j .nilptr)), .one (.ro (.int .i64 (65536 : Int)))] [.one (.int .i64 v14.1)] [[.view]] none] [0, 3] [0] ⟨tr, ⟨⟨⟨rfl, rfl, rfl, tr⟩, rfl, tr⟩, zq8 K z11 (65536 : Int) v14 e15⟩, tr, tr, tr⟩ ?_
    refine AW.seq ?_
    obtain ⟨v16, e17, h⟩ := zqb h
    obtain ⟨v18, e19, h⟩ := zqb h
    let z4 := IntKind.i64.wrap ((IntKind.i64.wrap (v14.1 * (65536 : Int))) + v16.1)
    let z8 := l00Src.mk a0.code v14.2.1 v14.2.2
    refine AW.tA ⟨[(0, (vp 0 0)), (2, (vc (.flt .f32 v18.bits)))], [(0, (.box [(.fx 0 0 z3), (cI v16.2.1), (.c (.int .u64 v16.2.2))]))]⟩ (T2 (((((Eqc z3) ∧ (eI v14.2.1) ∧ (Eqc (.int .u64 v14.2.2)) ∧ Tt) ∧ (eI (65536 : Int)) ∧ Tt) ∧ MutOK Tryz.prog 38 [(.box 3 (fun j => [true, false, false].getD j true) (fun j => (zqj z8).getD j .nilptr) (fun j => [.nilptr, (.int .i64 v16.2.1), (.int .u64 v16.2.2)].getD j .nilptr)), .one (.ro (.int .i64 (65536 : Int)))] [.one (.int .i64 v16.1)]) ∧ Tt ∧ (((((.int .i64 z4) : C) = (.int .i64 z4)) ∧ Tt) ∧ CallOK Tryz.prog 112 [.one (.int .i64 z4)] [.one (.flt .f32 v18.bits)]) ∧ Tt ∧ Tt)) [.no, .no, .callM [(.box 3 (fun j => [true, false, false].getD j true) (fun j => (zqj z8).getD j .nilptr) (fun j => [.nilptr, (.int .i64 v16.2.1), (.int .u64 v16.2.2)].getD j .nilptr)), .one (.ro (.int .i64 (65536 : Int)))] [.one (.int .i64 v16.1)] [[.view]] none, .no, .call [.one (.int .i64 z4)] [.one (.flt .f32 v18.bits)] [[.view]]] [0, 2] [0] ⟨tr, tr, ⟨⟨⟨rfl, rfl, rfl, tr⟩, rfl, tr⟩, zq8 K z8 (65536 : Int) v16 e17⟩, tr, ⟨⟨rfl, tr⟩, zkd K z4 v18 e19⟩, tr, tr⟩ ?_
    refine AW.ret ?_
    refine zqz ?_
    refine zqm ?_
    replace h := zqd h
    subst h
    exact ⟨.inr rfl, zqe [(.one (cF v18))] (by kernel_rfl) ⟨⟨rfl, tr⟩, tr⟩ (of_decide_eq_true (by kernel_rfl)), by kernel_rfl, ⟨⟨rfl, ⟨⟨rfl, rfl⟩, ⟨rfl, rfl⟩, ⟨rfl, rfl⟩, tr⟩⟩, tr⟩⟩
   ·refine AW.cond_f rfl b13 ?_
    refine AW.sA ⟨[(0, (vp 0 0)), (27, (vB (v6.1 == (2 : Int))))], [(0, (.box [(.fx 0 0 z3), (cI v6.2.1), (.c (.int .u64 v6.2.2))]))]⟩ (T2 Tt) [] [0, 27] [0] ⟨tr, tr, tr⟩ ?_
    rcases zqc h with ⟨b20, h⟩ | ⟨b20, h⟩
    ·refine AW.cond_t rfl b20 ?_
     refine AW.seq ?_
     obtain ⟨v21, e22, h⟩ := zqb h
     obtain ⟨v23, e24, h⟩ := zqb h
     let z5 := IntKind.i64.wrap (v21.1 * (65536 : Int))
     let z12 := l00Src.mk a0.code v6.2.1 v6.2.2
     refine AW.tA ⟨[(0, (vp 0 0)), (2, (vc (.flt .f32 v23.bits)))], [(0, (.box [(.fx 0 0 z3), (cI v21.2.1), (.c (.int .u64 v21.2.2))]))]⟩ (Tt ∧ ((((Eqc z3) ∧ (eI v6.2.1) ∧ (Eqc (.int .u64 v6.2.2)) ∧ Tt) ∧ (eI (65536 : Int)) ∧ Tt) ∧ MutOK Tryz.prog 38 [(.box 3 (fun j => [true, false, false].getD j true) (fun j => (zqj z12).getD j .nilptr) (fun j => [.nilptr, (.int .i64 v21.2.1), (.int .u64 v21.2.2)].getD j .nilptr)), .one (.ro (.int .i64 (65536 : Int)))] [.one (.int .i64 v21.1)]) ∧ Tt ∧ (((eI z5) ∧ Tt) ∧ CallOK Tryz.prog 112 [.one (.int .i64 z5)] [.one (.flt .f32 v23.bits)]) ∧ Tt ∧ Tt) [.no, .callM [(.box 3 (fun j => [true, false, false].getD j true) (fun j => (zqj z12).getD j .nilptr) (fun j => [.nilptr, (.int .i64 v21.2.1), (.int .u64 v21.2.2)].getD j .nilptr)), .one (.ro (.int .i64 (65536 : Int)))] [.one (.int .i64 v21.1)] [[.view]] none, .no, .call [.one (.int .i64 z5)] [.one (.flt .f32 v23.bits)] [[.view]]] [0, 2] [0] ⟨tr, ⟨⟨⟨rfl, rfl, rfl, tr⟩, rfl, tr⟩, zq8 K z12 (65536 : Int) v21 e22⟩, tr, ⟨⟨rfl, tr⟩, zkd K z5 v23 e24⟩, tr, tr⟩ ?_
     refine AW.ret ?_
     refine zqz ?_
     refine zqm ?_
     replace h := zqd h
     subst h
     exact ⟨.inr rfl, zqe [(.one (cF v23))] (by kernel_rfl) ⟨⟨rfl, tr⟩, tr⟩ (of_decide_eq_true (by kernel_rfl)), by kernel_rfl, ⟨⟨rfl, ⟨⟨rfl, rfl⟩, ⟨rfl, rfl⟩, ⟨rfl, rfl⟩, tr⟩⟩, tr⟩⟩
    ·refine AW.cond_f rfl b20 ?_
     refine AW.skip ?_
     refine zqr ?_
     refine zqa ?_
     refine AW.seq ?_
     obtain ⟨v25, e26, h⟩ := zqb h
     obtain ⟨v27, e28, h⟩ := zqb h
     obtain ⟨v29, e30, h⟩ := zqb h
     let z2 := [(8388608 : Int), (2130706432 : Int), (1610612736 : Int), (536870912 : Int)]
     let z10 := l00Src.mk a0.code v25.2.1 v25.2.2
     let z13 := l00Src.mk a0.code v6.2.1 v6.2.2
     let z15 : List CT := [.one (.int .i64 v27.1)]
     let z17 := sl 1 (csI .i64) z2
     refine AW.tA ⟨[(0, (vp 0 0)), (2, (vc (.flt .f32 (v25.1.mul v29).bits)))], [(0, (.box [(.fx 0 0 z3), (cI v27.2.1), (.c (.int .u64 v27.2.2))]))]⟩ (Tt ∧ ((((Eqc z3) ∧ (eI v6.2.1) ∧ (Eqc (.int .u64 v6.2.2)) ∧ Tt) ∧ Tt) ∧ MutOK Tryz.prog 111 [(.box 3 (fun j => [true, false, false].getD j true) (fun j => (zqj z13).getD j .nilptr) (fun j => [.nilptr, (.int .i64 v25.2.1), (.int .u64 v25.2.2)].getD j .nilptr))] [.one (.flt .f32 v25.1.bits)]) ∧ Tt ∧ (z2.length = 4 ∧ (((.int .i64 (8388608 : Int)) : C) = (.int .i64 (8388608 : Int)) ∧ Tt) ∧ (((.int .i64 (2130706432 : Int)) : C) = (.int .i64 (2130706432 : Int)) ∧ Tt) ∧ (((.int .i64 (1610612736 : Int)) : C) = (.int .i64 (1610612736 : Int)) ∧ Tt) ∧ (((.int .i64 (536870912 : Int)) : C) = (.int .i64 (536870912 : Int)) ∧ Tt) ∧ Tt) ∧ ((((Eqc z3) ∧ (eI v25.2.1) ∧ (Eqc (.int .u64 v25.2.2)) ∧ Tt) ∧ (Eqc z17) ∧ Tt) ∧ MutOK Tryz.prog 113 [(.box 3 (fun j => [true, false, false].getD j true) (fun j => (zqj z10).getD j .nilptr) (fun j => [.nilptr, (.int .i64 v27.2.1), (.int .u64 v27.2.2)].getD j .nilptr)), .one (.ro z17)] z15) ∧ (((eI v27.1) ∧ Tt) ∧ CallOK Tryz.prog 112 z15 [.one (.flt .f32 v29.bits)]) ∧ T2 Tt) [.no, .callM [(.box 3 (fun j => [true, false, false].getD j true) (fun j => (zqj z13).getD j .nilptr) (fun j => [.nilptr, (.int .i64 v25.2.1), (.int .u64 v25.2.2)].getD j .nilptr))] [.one (.flt .f32 v25.1.bits)] [[.view]] none, .no, .obj 2 z2.length (gl (csI .i64) z2), .callM [(.box 3 (fun j => [true, false, false].getD j true) (fun j => (zqj z10).getD j .nilptr) (fun j => [.nilptr, (.int .i64 v27.2.1), (.int .u64 v27.2.2)].getD j .nilptr)), .one (.ro z17)] z15 [[.view]] none, .call z15 [.one (.flt .f32 v29.bits)] [[.view]]] [0, 2] [0] ⟨tr, ⟨⟨⟨rfl, rfl, rfl, tr⟩, tr⟩, ok_spec_l01DrawPlain K z13 v25 e26⟩, tr, ⟨rfl, ⟨⟨rfl, tr⟩, ⟨rfl, tr⟩, ⟨rfl, tr⟩, ⟨rfl, tr⟩, tr⟩⟩, ⟨⟨⟨rfl, rfl, rfl, tr⟩, rfl, tr⟩, ok_spec_l00Src_among K z10 z2 v27 e28⟩, ⟨⟨rfl, tr⟩, zkd K v27.1 v29 e30⟩, tr, tr, tr⟩ ?_
     refine AW.ret ?_
     replace h := zqd h
     subst h
     exact ⟨.inr rfl, zqe [(.one (cF (v25.1.mul v29)))] (by kernel_rfl) ⟨⟨rfl, tr⟩, tr⟩ (of_decide_eq_true (by kernel_rfl)), by kernel_rfl, ⟨⟨rfl, ⟨⟨rfl, rfl⟩, ⟨rfl, rfl⟩, ⟨rfl, rfl⟩, tr⟩⟩, tr⟩⟩

/-! spec.l01DrawVector -/
def zjk (K : Nat) (a0 : l00Src) : Option (Vector × Int × Int) :=
 (zxc K a0 (10 : Int)).bind fun v1 => (zwp K (l00Src.mk a0.code v1.2.1 v1.2.2)).bind fun v3 => (zwp K (l00Src.mk a0.code v3.2.1 v3.2.2)).bind fun v5 => (zwp K (l00Src.mk a0.code v5.2.1 v5.2.2)).bind fun v7 => ite2 (v1.1) ((zjx K (l00Src.mk a0.code v7.2.1 v7.2.2)).bind fun v10 => some ((Vector.mk v3.1 v10.1 v7.1), v10.2.1, v10.2.2)) (some ((Vector.mk v3.1 v5.1 v7.1), v7.2.1, v7.2.2))

theorem ok_spec_l01DrawVector (K : Nat) (a0 : l00Src) (o : (Vector × Int × Int)) (h : zjk K a0 = some o) : MutOK Tryz.prog 61 [(.box 3 (fun j => [true, false, false].getD j true) (fun j => (zqj a0).getD j .nilptr) (fun j => [.nilptr, (.int .i64 o.2.1), (.int .u64 o.2.2)].getD j .nilptr))] [.agg (zqs o.1)] := by
 refine zxe 1 Tryz.func61 rfl (by kernel_rfl) (Nat.le_of_ble_eq_true (by kernel_rfl)) (by kernel_rfl) (by kernel_rfl) ?_
 intro w0 K0 v0 s0
 unfold zjk at h
 let z1 := sl 1 (csI .u8) a0.code
 refine AW.weak (s' := ⟨[(0, (vp 0 0))], [(0, (.box [(.fx 0 0 z1), (cI a0.at_), (.c (.int .u64 a0.seed))]))]⟩) (zkt 0 [1, 2] (by kernel_rfl)) ?_
 refine AW.sC (Tt ∧ Tt) [.box 1] [0, 2] [0, 1] ⟨tr, tr⟩ ?_
 refine AW.seq ?_
 obtain ⟨v1, e2, h⟩ := zqb h
 refine AW.tC (Tt ∧ ((((Eqc z1) ∧ (eI a0.at_) ∧ (Eqc (.int .u64 a0.seed)) ∧ Tt) ∧ (eI (10 : Int)) ∧ Tt) ∧ MutOK Tryz.prog 87 [(.box 3 (fun j => [true, false, false].getD j true) (fun j => (zqj a0).getD j .nilptr) (fun j => [.nilptr, (.int .i64 v1.2.1), (.int .u64 v1.2.2)].getD j .nilptr)), .one (.ro (.int .i64 (10 : Int)))] [.one (.bool v1.1)]) ∧ Tt ∧ Tt) [.no, .callM [(.box 3 (fun j => [true, false, false].getD j true) (fun j => (zqj a0).getD j .nilptr) (fun j => [.nilptr, (.int .i64 v1.2.1), (.int .u64 v1.2.2)].getD j .nilptr)), .one (.ro (.int .i64 (10 : Int)))] [.one (.bool v1.1)] [[.view]] none] [0, 2, 3] [0, 1] ⟨tr, ⟨⟨⟨rfl, rfl, rfl, tr⟩, rfl, tr⟩, zjj K a0 (10 : Int) v1 e2⟩, tr, tr⟩ ?_
 refine AW.seq ?_
 obtain ⟨v3, e4, h⟩ := zqb h
 let z2 := l00Src.mk a0.code v1.2.1 v1.2.2
 refine AW.tC (Tt ∧ ((((Eqc z1) ∧ (eI v1.2.1) ∧ (Eqc (.int .u64 v1.2.2)) ∧ Tt) ∧ Tt) ∧ MutOK Tryz.prog 89 [(.box 3 (fun j => [true, false, false].getD j true) (fun j => (zqj z2).getD j .nilptr) (fun j => [.nilptr, (.int .i64 v3.2.1), (.int .u64 v3.2.2)].getD j .nilptr))] [.one (.flt .f32 v3.1.bits)]) ∧ Tt ∧ T2 Tt) [.no, .callM [(.box 3 (fun j => [true, false, false].getD j true) (fun j => (zqj z2).getD j .nilptr) (fun j => [.nilptr, (.int .i64 v3.2.1), (.int .u64 v3.2.2)].getD j .nilptr))] [.one (.flt .f32 v3.1.bits)] [[.view]] none, .no, .box 2] [0, 2, 3, 4] [0, 1, 2] ⟨tr, ⟨⟨⟨rfl, rfl, rfl, tr⟩, tr⟩, zw0 K z2 v3 e4⟩, tr, tr, tr, tr⟩ ?_
 refine AW.seq ?_
 obtain ⟨v5, e6, h⟩ := zqb h
 let z3 := l00Src.mk a0.code v3.2.1 v3.2.2
 refine AW.tC (Tt ∧ ((((Eqc z1) ∧ (eI v3.2.1) ∧ (Eqc (.int .u64 v3.2.2)) ∧ Tt) ∧ Tt) ∧ MutOK Tryz.prog 89 [(.box 3 (fun j => [true, false, false].getD j true) (fun j => (zqj z3).getD j .nilptr) (fun j => [.nilptr, (.int .i64 v5.2.1), (.int .u64 v5.2.2)].getD j .nilptr))] [.one (.flt .f32 v5.1.bits)]) ∧ T2 Tt) [.no, .callM [(.box 3 (fun j => [true, false, false].getD j true) (fun j => (zqj z3).getD j .nilptr) (fun j => [.nilptr, (.int .i64 v5.2.1), (.int .u64 v5.2.2)].getD j .nilptr))] [.one (.flt .f32 v5.1.bits)] [[.view]] none] [0, 2, 3, 4] [0, 1, 2] ⟨tr, ⟨⟨⟨rfl, rfl, rfl, tr⟩, tr⟩, zw0 K z3 v5 e6⟩, tr, tr, tr⟩ ?_
 refine AW.seq ?_
 obtain ⟨v7, e8, h⟩ := zqb h
 let z4 := l00Src.mk a0.code v5.2.1 v5.2.2
 refine AW.tC (Tt ∧ ((((Eqc z1) ∧ (eI v5.2.1) ∧ (Eqc (.int .u64 v5.2.2)) ∧ Tt) ∧ Tt) ∧ MutOK Tryz.prog 89 [(.box 3 (fun j => [true, false, false].getD j true) (fun j => (zqj z4).getD j .nilptr) (fun j => [.nilptr, (.int .i64 v7.2.1), (.int .u64 v7.2.2)].getD j .nilptr))] [.one (.flt .f32 v7.1.bits)]) ∧ T2 Tt) [.no, .callM [(.box 3 (fun j => [true, false, false].getD j true) (fun j => (zqj z4).getD j .nilptr) (fun j => [.nilptr, (.int .i64 v7.2.1), (.int .u64 v7.2.2)].getD j .nilptr))] [.one (.flt .f32 v7.1.bits)] [[.view]] none] [0, 2, 3, 4] [0, 1, 2] ⟨tr, ⟨⟨⟨rfl, rfl, rfl, tr⟩, tr⟩, zw0 K z4 v7 e8⟩, tr, tr, tr⟩ ?_
 refine AW.seq ?_
 let z6 := cF (default : F32)
 refine AW.sA ⟨[(0, (vp 0 0)), (2, (vp 1 0)), (4, (vp 2 0)), (16, (vB v1.1))], [(0, (.box [(.fx 0 0 z1), (cI v7.2.1), (.c (.int .u64 v7.2.2))])), (1, (.box [z6, z6, z6])), (2, (.box [(cF v3.1), (cF v5.1), (cF v7.1)]))]⟩ (Tt ∧ Tt) [] [0, 2, 4, 16] [0, 1, 2] ⟨tr, tr⟩ ?_
 rcases zqc h with ⟨b9, h⟩ | ⟨b9, h⟩
 ·refine AW.cond_t rfl b9 ?_
  obtain ⟨v10, e11, h⟩ := zqb h
  let z5 := l00Src.mk a0.code v7.2.1 v7.2.2
  refine AW.tC (Tt ∧ ((((Eqc z1) ∧ (eI v7.2.1) ∧ (Eqc (.int .u64 v7.2.2)) ∧ Tt) ∧ Tt) ∧ MutOK Tryz.prog 91 [(.box 3 (fun j => [true, false, false].getD j true) (fun j => (zqj z5).getD j .nilptr) (fun j => [.nilptr, (.int .i64 v10.2.1), (.int .u64 v10.2.2)].getD j .nilptr))] [.one (.flt .f32 v10.1.bits)]) ∧ T2 Tt) [.no, .callM [(.box 3 (fun j => [true, false, false].getD j true) (fun j => (zqj z5).getD j .nilptr) (fun j => [.nilptr, (.int .i64 v10.2.1), (.int .u64 v10.2.2)].getD j .nilptr))] [.one (.flt .f32 v10.1.bits)] [[.view]] none] [0, 2, 4] [0, 1, 2] ⟨tr, ⟨⟨⟨rfl, rfl, rfl, tr⟩, tr⟩, ok_spec_l01DrawFloat K z5 v10 e11⟩, tr, tr, tr⟩ ?_
  refine AW.sA ⟨[(0, (vp 0 0)), (2, (vp 1 0))], [(0, (.box [(.fx 0 0 z1), (cI v10.2.1), (.c (.int .u64 v10.2.2))])), (1, (.box [(cF v3.1), (cF v10.1), (cF v7.1)]))]⟩ (T2 Tt) [] [0, 2] [0, 1] ⟨tr, tr, tr⟩ ?_
  refine AW.ret ?_
  replace h := zqd h
  subst h
  exact ⟨.inr rfl, zqe [(.agg [(cF v3.1), (cF v10.1), (cF v7.1)])] (by kernel_rfl) ⟨⟨⟨rfl, tr⟩, ⟨rfl, tr⟩, ⟨rfl, tr⟩, tr⟩, tr⟩ (of_decide_eq_true (by kernel_rfl)), by kernel_rfl, ⟨⟨rfl, ⟨⟨rfl, rfl⟩, ⟨rfl, rfl⟩, ⟨rfl, rfl⟩, tr⟩⟩, tr⟩⟩
 ·refine AW.cond_f rfl b9 ?_
  refine AW.skip ?_
  refine zqa ?_
  refine AW.sA ⟨[(0, (vp 0 0)), (2, (vp 1 0))], [(0, (.box [(.fx 0 0 z1), (cI v7.2.1), (.c (.int .u64 v7.2.2))])), (1, (.box [(cF v3.1), (cF v5.1), (cF v7.1)]))]⟩ (T2 Tt) [] [0, 2] [0, 1] ⟨tr, tr, tr⟩ ?_
  refine AW.ret ?_
  replace h := zqd h
  subst h
  exact ⟨.inr rfl, zqe [(.agg [(cF v3.1), (cF v5.1), (cF v7.1)])] (by kernel_rfl) ⟨⟨⟨rfl, tr⟩, ⟨rfl, tr⟩, ⟨rfl, tr⟩, tr⟩, tr⟩ (of_decide_eq_true (by kernel_rfl)), by kernel_rfl, ⟨⟨rfl, ⟨⟨rfl, rfl⟩, ⟨rfl, rfl⟩, ⟨rfl, rfl⟩, tr⟩⟩, tr⟩⟩

/-! spec.l05DrawSized -/
def Zt1 (Q1 Q2 Q3 : Prop) : Prop := (Q1 ∧ (Tt ∧ (Q2 ∧ (Q3 ∧ (Tt ∧ Tt)))))
theorem zt1 {Q1 Q2 Q3 : Prop} (q1 : Q1) (q2 : Q2) (q3 : Q3) : Zt1 Q1 Q2 Q3 := ⟨q1, ⟨tr, ⟨q2, ⟨q3, ⟨tr, tr⟩⟩⟩⟩⟩
def Zt2 (Q2 Q3 : Prop) : Prop := (Tt ∧ (Tt ∧ (Q2 ∧ (Q3 ∧ (Tt ∧ Tt)))))
theorem zt2 {Q2 Q3 : Prop} (q2 : Q2) (q3 : Q3) : Zt2 Q2 Q3 := ⟨tr, ⟨tr, ⟨q2, ⟨q3, ⟨tr, tr⟩⟩⟩⟩⟩
def Zt3 (QE Q1 Q2 Q3 : Prop) : Prop := ((Tt ∧ (Zt1 Q1 Q2 Q3)) ∧ (Q1 ∧ (Zt2 Q2 Q3)) ∧ QE)
theorem zt3 {QE Q1 Q2 Q3 : Prop} (qe : QE) (q1 : Q1) (q2 : Q2) (q3 : Q3) : Zt3 QE Q1 Q2 Q3 := ⟨⟨tr, (zt1 q1 q2 q3)⟩, ⟨q1, (zt2 q2 q3)⟩, qe⟩
def Zt4 (QE Q0 Q1 Q2 Q3 : Prop) : Prop := ((Q0 ∧ (Zt3 QE Q1 Q2 Q3)) ∧ (Q1 ∧ (Q0 ∧ (Zt2 Q2 Q3))) ∧ QE)
theorem zt4 {QE Q0 Q1 Q2 Q3 : Prop} (qe : QE) (q0 : Q0) (q1 : Q1) (q2 : Q2) (q3 : Q3) : Zt4 QE Q0 Q1 Q2 Q3 := ⟨⟨q0, (zt3 qe q1 q2 q3)⟩, ⟨q1, ⟨q0, (zt2 q2 q3)⟩⟩, qe⟩
def Zt5 (Q2 Q3 : Prop) : Prop := (Tt ∧ (Q2 ∧ (Q3 ∧ (Tt ∧ (Tt ∧ Tt)))))
theorem zt5 {Q2 Q3 : Prop} (q2 : Q2) (q3 : Q3) : Zt5 Q2 Q3 := ⟨tr, ⟨q2, ⟨q3, ⟨tr, ⟨tr, tr⟩⟩⟩⟩⟩
def Zt6 (QE Q1 Q2 Q3 : Prop) : Prop := ((Tt ∧ (Q1 ∧ (Zt5 Q2 Q3))) ∧ (Q1 ∧ (Tt ∧ (Zt5 Q2 Q3))) ∧ QE)
theorem zt6 {QE Q1 Q2 Q3 : Prop} (qe : QE) (q1 : Q1) (q2 : Q2) (q3 : Q3) : Zt6 QE Q1 Q2 Q3 := ⟨⟨tr, ⟨q1, (zt5 q2 q3)⟩⟩, ⟨q1, ⟨tr, (zt5 q2 q3)⟩⟩, qe⟩
def Zt7 (QE Q0 Q1 Q2 Q3 : Prop) : Prop := ((Q0 ∧ (Zt6 QE Q1 Q2 Q3)) ∧ (Q1 ∧ (Q0 ∧ (Tt ∧ (Zt5 Q2 Q3)))) ∧ QE)
theorem zt7 {QE Q0 Q1 Q2 Q3 : Prop} (qe : QE) (q0 : Q0) (q1 : Q1) (q2 : Q2) (q3 : Q3) : Zt7 QE Q0 Q1 Q2 Q3 := ⟨⟨q0, (zt6 qe q1 q2 q3)⟩, ⟨q1, ⟨q0, ⟨tr, (zt5 q2 q3)⟩⟩⟩, qe⟩
def Zt8 (QE Q2 Q3 : Prop) : Prop := ((Tt ∧ (Q2 ∧ (Q3 ∧ (Tt ∧ (Tt ∧ Tt))))) ∧ (Q2 ∧ (Tt ∧ (Q3 ∧ (Tt ∧ (Tt ∧ Tt))))) ∧ QE)
theorem zt8 {QE Q2 Q3 : Prop} (qe : QE) (q2 : Q2) (q3 : Q3) : Zt8 QE Q2 Q3 := ⟨⟨tr, ⟨q2, ⟨q3, ⟨tr, ⟨tr, tr⟩⟩⟩⟩⟩, ⟨q2, ⟨tr, ⟨q3, ⟨tr, ⟨tr, tr⟩⟩⟩⟩⟩, qe⟩
def Zt9 (QE Q2 Q3 : Prop) : Prop := ((Tt ∧ (Zt5 Q2 Q3)) ∧ (Tt ∧ (Zt8 QE Q2 Q3)) ∧ QE)
theorem zt9 {QE Q2 Q3 : Prop} (qe : QE) (q2 : Q2) (q3 : Q3) : Zt9 QE Q2 Q3 := ⟨⟨tr, (zt5 q2 q3)⟩, ⟨tr, (zt8 qe q2 q3)⟩, qe⟩
def Zt10 (QE Q1 Q2 Q3 : Prop) : Prop := ((Tt ∧ (Q1 ∧ (Zt5 Q2 Q3))) ∧ (Q1 ∧ (Zt9 QE Q2 Q3)) ∧ QE)
theorem zt10 {QE Q1 Q2 Q3 : Prop} (qe : QE) (q1 : Q1) (q2 : Q2) (q3 : Q3) : Zt10 QE Q1 Q2 Q3 := ⟨⟨tr, ⟨q1, (zt5 q2 q3)⟩⟩, ⟨q1, (zt9 qe q2 q3)⟩, qe⟩
def Zt11 (QE Q2 Q3 : Prop) : Prop := ((Tt ∧ (Tt ∧ (Zt5 Q2 Q3))) ∧ (Tt ∧ (Zt9 QE Q2 Q3)) ∧ QE)
theorem zt11 {QE Q2 Q3 : Prop} (qe : QE) (q2 : Q2) (q3 : Q3) : Zt11 QE Q2 Q3 := ⟨⟨tr, ⟨tr, (zt5 q2 q3)⟩⟩, ⟨tr, (zt9 qe q2 q3)⟩, qe⟩
def Zt12 (QE Q1 Q2 Q3 : Prop) : Prop := ((Tt ∧ (Zt6 QE Q1 Q2 Q3)) ∧ ((Tt ∧ (Zt10 QE Q1 Q2 Q3)) ∧ (Q1 ∧ (Zt11 QE Q2 Q3)) ∧ QE) ∧ QE)
theorem zt12 {QE Q1 Q2 Q3 : Prop} (qe : QE) (q1 : Q1) (q2 : Q2) (q3 : Q3) : Zt12 QE Q1 Q2 Q3 := ⟨⟨tr, (zt6 qe q1 q2 q3)⟩, ⟨⟨tr, (zt10 qe q1 q2 q3)⟩, ⟨q1, (zt11 qe q2 q3)⟩, qe⟩, qe⟩
def Zt13 (QE Q0 Q2 Q3 : Prop) : Prop := ((Tt ∧ (Q0 ∧ (Tt ∧ (Zt5 Q2 Q3)))) ∧ (Q0 ∧ (Zt11 QE Q2 Q3)) ∧ QE)
theorem zt13 {QE Q0 Q2 Q3 : Prop} (qe : QE) (q0 : Q0) (q2 : Q2) (q3 : Q3) : Zt13 QE Q0 Q2 Q3 := ⟨⟨tr, ⟨q0, ⟨tr, (zt5 q2 q3)⟩⟩⟩, ⟨q0, (zt11 qe q2 q3)⟩, qe⟩
def Zt14 (QE Q0 Q1 Q2 Q3 : Prop) : Prop := ((Tt ∧ (Zt7 QE Q0 Q1 Q2 Q3)) ∧ ((Q0 ∧ (Zt12 QE Q1 Q2 Q3)) ∧ (Q1 ∧ (Zt13 QE Q0 Q2 Q3)) ∧ QE) ∧ QE)
theorem zt14 {QE Q0 Q1 Q2 Q3 : Prop} (qe : QE) (q0 : Q0) (q1 : Q1) (q2 : Q2) (q3 : Q3) : Zt14 QE Q0 Q1 Q2 Q3 := ⟨⟨tr, (zt7 qe q0 q1 q2 q3)⟩, ⟨⟨q0, (zt12 qe q1 q2 q3)⟩, ⟨q1, (zt13 qe q0 q2 q3)⟩, qe⟩, qe⟩
def zww (K : Nat) (a0 : l00Src) (v12 : ((List Int) × Int × Int)) : Nat → Int → Int → Int → (List Key) → Option (Int × Int × (List Key))
 | 0, _, _, _, _ => none
 | k + 1, x33, x34, x35, x36 => ite2 ((decide (x33 < (v12.1.length : Int)))) (chk (0 ≤ x33 ∧ x33 < (v12.1.length : Int)) ((zj4 K (l00Src.mk a0.code x34 x35)).bind fun v39 => chk ((x36.length + ([(Key.mk (v12.1.getD x33.toNat default) v39.1)]).length) * 24 ≤ 140737488355328) (zww K a0 v12 k (IntKind.i64.wrap (x33 + (1 : Int))) v39.2.1 v39.2.2 (x36 ++ ([(Key.mk (v12.1.getD x33.toNat default) v39.1)]))))) (some (x34, x35, x36))

def zwt (K : Nat) (a0 : l00Src) (a2 : Int) (v1 : (Int × Int × Int)) (x10 : (List (List Key))) (v43 : ((List Int) × Int × Int)) : Nat → Int → Int → Int → (List RootKey) → Option (Clip × Int × Int)
 | 0, _, _, _, _ => none
 | k + 1, x49, x50, x51, x52 => ite2 ((decide (x49 < (v43.1.length : Int)))) (chk (0 ≤ x49 ∧ x49 < (v43.1.length : Int)) ((zjk K (l00Src.mk a0.code x50 x51)).bind fun v55 => chk ((x52.length + ([(RootKey.mk (v43.1.getD x49.toNat default) v55.1)]).length) * 24 ≤ 140737488355328) (zwt K a0 a2 v1 x10 v43 k (IntKind.i64.wrap (x49 + (1 : Int))) v55.2.1 v55.2.2 (x52 ++ ([(RootKey.mk (v43.1.getD x49.toNat default) v55.1)]))))) (some ((Clip.mk (IntKind.i64.wrap ((1 : Int) + v1.1)) a2 x10 x52), x50, x51))

def zwv (K : Nat) (a0 : l00Src) (a2 : Int) (v1 : (Int × Int × Int)) : Nat → Int → Int → Int → (List (List Key)) → Option (Clip × Int × Int)
 | 0, _, _, _, _ => none
 | k + 1, x7, x8, x9, x10 => ite2 ((decide (x7 > (0 : Int)))) ((zx1 K (l00Src.mk a0.code x8 x9) (IntKind.i64.wrap ((1 : Int) + v1.1))).bind fun v12 => (zww K a0 v12 K (0 : Int) v12.2.1 v12.2.2 ([] : List Key)).bind fun j28 => chk ((x10.length + ([j28.2.2]).length) * 24 ≤ 140737488355328) (zwv K a0 a2 v1 k (IntKind.i64.wrap (x7 - (1 : Int))) j28.1 j28.2.1 (x10 ++ ([j28.2.2])))) ((zx1 K (l00Src.mk a0.code x8 x9) (IntKind.i64.wrap ((1 : Int) + v1.1))).bind fun v43 => zwt K a0 a2 v1 x10 v43 K (0 : Int) v43.2.1 v43.2.2 ([] : (List RootKey)))

def zvo (K : Nat) (a0 : l00Src) (a1 : Int) (a2 : Int) : Option (Clip × Int × Int) :=
 (zq7 K a0 (16 : Int)).bind fun v1 => zwv K a0 a2 v1 K a1 v1.2.1 v1.2.2 ([] : (List (List Key)))

theorem ok_spec_l05DrawSized (K : Nat) (a0 : l00Src) (a1 : Int) (a2 : Int) (o : (Clip × Int × Int)) (h : zvo K a0 a1 a2 = some o) : MutOK Tryz.prog 39 [(.box 3 (fun j => [true, false, false].getD j true) (fun j => (zqj a0).getD j .nilptr) (fun j => [.nilptr, (.int .i64 o.2.1), (.int .u64 o.2.2)].getD j .nilptr)), (.one (.ro (.int .i64 a1))), (.one (.ro (.int .i64 a2)))] [.agg (zqp o.1)] := by
 refine zxe 1 Tryz.func39 rfl (by kernel_rfl) (Nat.le_of_ble_eq_true (by kernel_rfl)) (by kernel_rfl) (by kernel_rfl) ?_
 intro w0 K0 v0 s0
 unfold zvo at h
 let z4 := sl 1 (csI .u8) a0.code
 refine AW.weak (s' := ⟨[(0, (vp 0 0)), (1, (vI a1)), (2, (vI a2))], [(0, (.box [(.fx 0 0 z4), (cI a0.at_), (.c (.int .u64 a0.seed))]))]⟩) (zkt 0 [1, 2] (by kernel_rfl)) ?_
 refine AW.sC (Tt ∧ Tt) [.box 1] [0, 1, 2, 6] [0, 1] ⟨tr, tr⟩ ?_
 refine AW.seq ?_
 obtain ⟨v1, e2, h⟩ := zqb h
 let z1 := IntKind.i64.wrap ((1 : Int) + v1.1)
 let z6 := cI (0 : Int)
 refine AW.tA ⟨[(0, (vp 0 0)), (1, (vI a1)), (2, (vI a2)), (6, (vp 1 0)), (7, (vp 2 0))], [(0, (.box [(.fx 0 0 z4), (cI v1.2.1), (.c (.int .u64 v1.2.2))])), (1, (.box [z6, z6, .nils, .nils])), (2, (.box [(cI z1), (cI a2), .nils, .nils]))]⟩ (Tt ∧ ((((Eqc z4) ∧ (eI a0.at_) ∧ (Eqc (.int .u64 a0.seed)) ∧ Tt) ∧ (eI (16 : Int)) ∧ Tt) ∧ MutOK Tryz.prog 38 [(.box 3 (fun j => [true, false, false].getD j true) (fun j => (zqj a0).getD j .nilptr) (fun j => [.nilptr, (.int .i64 v1.2.1), (.int .u64 v1.2.2)].getD j .nilptr)), .one (.ro (.int .i64 (16 : Int)))] [.one (.int .i64 v1.1)]) ∧ Tt ∧ T4 Tt) [.no, .callM [(.box 3 (fun j => [true, false, false].getD j true) (fun j => (zqj a0).getD j .nilptr) (fun j => [.nilptr, (.int .i64 v1.2.1), (.int .u64 v1.2.2)].getD j .nilptr)), .one (.ro (.int .i64 (16 : Int)))] [.one (.int .i64 v1.1)] [[.view]] none, .no, .no, .no, .box 2] [0, 1, 2, 6, 7] [0, 1, 2] ⟨tr, ⟨⟨⟨rfl, rfl, rfl, tr⟩, rfl, tr⟩, zq8 K a0 (16 : Int) v1 e2⟩, tr, tr, tr, tr, tr, tr⟩ ?_
 refine AW.seq ?_
 refine AW.block ?_
 let z5 := csL 5 zqo
 let z20 := List (List Key)
 refine AW.weak (s' := ⟨[(0, (vp 0 0)), (1, (vI a1)), (2, (vI a2)), (6, (vp 1 0)), (7, (vp 2 0))], [(0, (.box [(.fx 0 0 z4), (cI v1.2.1), (.c (.int .u64 v1.2.2))])), (1, (.box [z6, z6, .nils, .nils])), (2, (.box [(cI z1), (cI a2), (xL 13 1 z5 ([] : z20)), .nils])), (13, (oL 1 z5 ([] : z20)))]⟩) (Sub.trans (Sub.unnil 13 1 (gl z5 ([] : z20)) [] [(2, 2)] _ (by kernel_rfl) (by kernel_rfl)) (Sub.keep [0, 1, 2, 6, 7] [0, 1, 2, 13] (by kernel_rfl) (by kernel_rfl))) ?_
 refine AW.loopQ (σ := Nat × Int × Int × Int × z20) (fun p => ⟨[(0, (vp 0 0)), (1, (vI p.2.1)), (2, (vI a2)), (6, (vp 1 0)), (7, (vp 2 0))], [(0, (.box [(.fx 0 0 z4), (cI p.2.2.1), (.c (.int .u64 p.2.2.2.1))])), (1, (.box [z6, z6, .nils, .nils])), (2, (.box [(cI z1), (cI a2), (xL 13 1 z5 p.2.2.2.2), .nils])), (13, (oL 1 z5 p.2.2.2.2))]⟩) (fun p => zwv K a0 a2 v1 p.1 p.2.1 p.2.2.1 p.2.2.2.1 p.2.2.2.2 = some o) (fun p => p.1) (K, a1, v1.2.1, v1.2.2, ([] : z20)) h ?_
 clear h
 rintro ⟨k, x7, x8, x9, x10⟩ h
 replace h : zwv K a0 a2 v1 k x7 x8 x9 x10 = some o := h
 let z7 := xL 13 1 z5 x10
 show AW _ _ (⟨[(0, (vp 0 0)), (1, (vI x7)), (2, (vI a2)), (6, (vp 1 0)), (7, (vp 2 0))], [(0, (.box [(.fx 0 0 z4), (cI x8), (.c (.int .u64 x9))])), (1, (.box [z6, z6, .nils, .nils])), (2, (.box [(cI z1), (cI a2), z7, .nils])), (13, (oL 1 z5 x10))]⟩ : St) _
 obtain _ | k := k
 ·rw [zwv] at h; cases h
 rw [zwv] at h
 refine AW.seq ?_
 refine AW.sA ⟨[(0, (vp 0 0)), (1, (vI x7)), (2, (vI a2)), (6, (vp 1 0)), (7, (vp 2 0)), (19, (vB (decide (x7 > (0 : Int)))))], [(0, (.box [(.fx 0 0 z4), (cI x8), (.c (.int .u64 x9))])), (1, (.box [z6, z6, .nils, .nils])), (2, (.box [(cI z1), (cI a2), z7, .nils])), (13, (oL 1 z5 x10))]⟩ (T2 Tt) [] [0, 1, 2, 6, 7, 19] [0, 1, 2, 13] ⟨tr, tr, tr⟩ ?_
 rcases zqc h with ⟨b11, h⟩ | ⟨b11, h⟩
 ·refine AW.cond_t rfl b11 ?_
  refine AW.skip ?_
  refine zqa ?_
  refine AW.seq ?_
  refine AW.block ?_
  refine AW.sC ((([] : List Key).length = 0 ∧ Tt) ∧ Tt ∧ Tt) [.obj 34 ([] : List Key).length (gl zqo ([] : List Key))] [0, 1, 2, 6, 7, 8] [0, 1, 2, 13, 34] ⟨⟨rfl, tr⟩, tr, tr⟩ ?_
  refine AW.seq ?_
  obtain ⟨v12, e13, h⟩ := zqb h
  let z25 := l00Src.mk a0.code x8 x9
  refine AW.tC (Tt ∧ T2 (((((Eqc z4) ∧ (eI x8) ∧ (Eqc (.int .u64 x9)) ∧ Tt) ∧ (eI z1) ∧ Tt) ∧ MutOK Tryz.prog 59 [(.box 3 (fun j => [true, false, false].getD j true) (fun j => (zqj z25).getD j .nilptr) (fun j => [.nilptr, (.int .i64 v12.2.1), (.int .u64 v12.2.2)].getD j .nilptr)), .one (.ro (.int .i64 z1))] [.one (sl 1 (csI .i64) v12.1)]) ∧ Tt ∧ Tt)) [.no, .no, .no, .callM [(.box 3 (fun j => [true, false, false].getD j true) (fun j => (zqj z25).getD j .nilptr) (fun j => [.nilptr, (.int .i64 v12.2.1), (.int .u64 v12.2.2)].getD j .nilptr)), .one (.ro (.int .i64 z1))] [.one (sl 1 (csI .i64) v12.1)] [[.lst 35]] none] [0, 1, 2, 6, 7, 8, 9] [0, 1, 2, 13, 34, 35] ⟨tr, tr, tr, ⟨⟨⟨rfl, rfl, rfl, tr⟩, rfl, tr⟩, ok_spec_l05DrawTimes K z25 z1 v12 e13⟩, tr, tr⟩ ?_
  refine AW.seq ?_
  let z10 := vL 35 1 (csI .i64) v12.1
  let z12 := vI (v12.1.length : Int)
  let z13 := oL 1 (csI .i64) v12.1
  refine AW.sA ⟨[(0, (vp 0 0)), (1, (vI x7)), (2, (vI a2)), (6, (vp 1 0)), (7, (vp 2 0)), (8, (vL 34 5 zqo ([] : List Key))), (9, z10), (28, z12), (29, (vI (0 : Int)))], [(0, (.box [(.fx 0 0 z4), (cI v12.2.1), (.c (.int .u64 v12.2.2))])), (1, (.box [z6, z6, .nils, .nils])), (2, (.box [(cI z1), (cI a2), z7, .nils])), (13, (oL 1 z5 x10)), (34, (oL 5 zqo ([] : List Key))), (35, z13)]⟩ (Tt ∧ T2 Tt) [] [0, 1, 2, 6, 7, 8, 9, 28, 29] [0, 1, 2, 13, 34, 35] ⟨tr, tr, tr, tr⟩ ?_
  obtain ⟨j28, e27, h⟩ := zqb h
  refine AW.joinS (s2 := ⟨[(0, (vp 0 0)), (1, (vI x7)), (2, (vI a2)), (6, (vp 1 0)), (7, (vp 2 0)), (8, (vL 34 5 zqo j28.2.2))], [(0, (.box [(.fx 0 0 z4), (cI j28.1), (.c (.int .u64 j28.2.1))])), (1, (.box [z6, z6, .nils, .nils])), (2, (.box [(cI z1), (cI a2), z7, .nils])), (13, (oL 1 z5 x10)), (34, (oL 5 zqo j28.2.2))]⟩) ?_ ?_
  ·replace h := e27
   refine AW.block ?_
   refine AW.loopQ (σ := Nat × Int × Int × Int × (List Key)) (fun p => ⟨[(0, (vp 0 0)), (1, (vI x7)), (2, (vI a2)), (6, (vp 1 0)), (7, (vp 2 0)), (8, (vL 34 5 zqo p.2.2.2.2)), (9, z10), (28, z12), (29, (vI p.2.1))], [(0, (.box [(.fx 0 0 z4), (cI p.2.2.1), (.c (.int .u64 p.2.2.2.1))])), (1, (.box [z6, z6, .nils, .nils])), (2, (.box [(cI z1), (cI a2), z7, .nils])), (13, (oL 1 z5 x10)), (34, (oL 5 zqo p.2.2.2.2)), (35, z13)]⟩) (fun p => zww K a0 v12 p.1 p.2.1 p.2.2.1 p.2.2.2.1 p.2.2.2.2 = some j28) (fun p => p.1) (K, (0 : Int), v12.2.1, v12.2.2, ([] : List Key)) h ?_
   clear h
   rintro ⟨k, x33, x34, x35, x36⟩ h
   replace h : zww K a0 v12 k x33 x34 x35 x36 = some j28 := h
   let z29 := vL 34 5 zqo x36
   show AW _ _ (⟨[(0, (vp 0 0)), (1, (vI x7)), (2, (vI a2)), (6, (vp 1 0)), (7, (vp 2 0)), (8, z29), (9, z10), (28, z12), (29, (vI x33))], [(0, (.box [(.fx 0 0 z4), (cI x34), (.c (.int .u64 x35))])), (1, (.box [z6, z6, .nils, .nils])), (2, (.box [(cI z1), (cI a2), z7, .nils])), (13, (oL 1 z5 x10)), (34, (oL 5 zqo x36)), (35, z13)]⟩ : St) _
   obtain _ | k := k
   ·rw [zww] at h; cases h
   rw [zww] at h
   refine AW.sA ⟨[(0, (vp 0 0)), (1, (vI x7)), (2, (vI a2)), (6, (vp 1 0)), (7, (vp 2 0)), (8, z29), (9, z10), (28, z12), (29, (vI x33)), (30, (vB (decide (x33 < (v12.1.length : Int)))))], [(0, (.box [(.fx 0 0 z4), (cI x34), (.c (.int .u64 x35))])), (1, (.box [z6, z6, .nils, .nils])), (2, (.box [(cI z1), (cI a2), z7, .nils])), (13, (oL 1 z5 x10)), (34, (oL 5 zqo x36)), (35, z13)]⟩ (Tt ∧ Tt) [] [0, 1, 2, 6, 7, 8, 9, 28, 29, 30] [0, 1, 2, 13, 34, 35] ⟨tr, tr⟩ ?_
   refine AW.seq ?_
   rcases zqc h with ⟨b37, h⟩ | ⟨b37, h⟩
   ·refine AW.cond_t rfl b37 ?_
    refine AW.skip ?_
    refine zqa ?_
    refine AW.seq ?_
    refine AW.block ?_
    refine AW.sA ⟨[(0, (vp 0 0)), (1, (vI x7)), (2, (vI a2)), (6, (vp 1 0)), (7, (vp 2 0)), (8, z29), (9, z10), (10, (vI x33)), (28, z12), (29, (vI x33))], [(0, (.box [(.fx 0 0 z4), (cI x34), (.c (.int .u64 x35))])), (1, (.box [z6, z6, .nils, .nils])), (2, (.box [(cI z1), (cI a2), z7, .nils])), (13, (oL 1 z5 x10)), (34, (oL 5 zqo x36)), (35, z13)]⟩ (T2 Tt) [] [0, 1, 2, 6, 7, 8, 9, 10, 28, 29] [0, 1, 2, 13, 34, 35] ⟨tr, tr, tr⟩ ?_
    obtain ⟨c38, h⟩ := zqn h
    obtain ⟨v39, e40, h⟩ := zqb h
    obtain ⟨c41, h⟩ := zqn h
    let z23 := v12.1.getD x33.toNat default
    let z3 := [(Key.mk z23 v39.1)]
    let z18 := vL 41 5 zqo (x36 ++ z3)
    let z19 := oL 5 zqo (x36 ++ z3)
    let z26 := l00Src.mk a0.code x34 x35
    refine AW.firstA (by kernel_rfl) [0, 1, 2, 5] [.no, .no, .no, .no, .no, .no, .callM [(.box 3 (fun j => [true, false, false].getD j true) (fun j => (zqj z26).getD j .nilptr) (fun j => [.nilptr, (.int .i64 v39.2.1), (.int .u64 v39.2.2)].getD j .nilptr))] [.agg (zqi v39.1)] [[.view, .view, .view, .view]] none, .no, .obj 40 z3.length (gl zqo z3), .objK 41 (x36 ++ z3).length (gl zqo (x36 ++ z3))] [0, 1, 2, 6, 7, 8, 9, 28, 29] [0, 1, 2, 13, 35, 41] (s' := ⟨[(0, (vp 0 0)), (1, (vI x7)), (2, (vI a2)), (6, (vp 1 0)), (7, (vp 2 0)), (8, z18), (9, z10), (28, z12), (29, (vI x33))], [(0, (.box [(.fx 0 0 z4), (cI v39.2.1), (.c (.int .u64 v39.2.2))])), (1, (.box [z6, z6, .nils, .nils])), (2, (.box [(cI z1), (cI a2), z7, .nils])), (13, (oL 1 z5 x10)), (35, z13), (41, z19)]⟩) (ob := (Zt4 ((⟨[(0, (vp 0 0)), (1, (vI x7)), (2, (vI a2)), (6, (vp 1 0)), (7, (vp 2 0)), (8, z18), (9, z10), (28, z12), (29, (vI x33))], [(0, (.box [(.fx 0 0 z4), (cI v39.2.1), (.c (.int .u64 v39.2.2))])), (1, (.box [z6, z6, .nils, .nils])), (2, (.box [(cI z1), (cI a2), z7, .nils])), (13, (oL 1 z5 x10)), (35, z13), (41, z19)]⟩ : St) = ⟨[(0, (vp 0 0)), (1, (vI x7)), (2, (vI a2)), (6, (vp 1 0)), (7, (vp 2 0)), (8, z18), (9, z10), (28, z12), (29, (vI x33))], [(0, (.box [(.fx 0 0 z4), (cI v39.2.1), (.c (.int .u64 v39.2.2))])), (1, (.box [z6, z6, .nils, .nils])), (2, (.box [(cI z1), (cI a2), z7, .nils])), (13, (oL 1 z5 x10)), (35, z13), (41, z19)]⟩) ((0 ≤ x33 ∧ x33 < (v12.1.length : Int))) (((((Eqc z4) ∧ (eI x34) ∧ (Eqc (.int .u64 x35)) ∧ Tt) ∧ Tt) ∧ MutOK Tryz.prog 60 [(.box 3 (fun j => [true, false, false].getD j true) (fun j => (zqj z26).getD j .nilptr) (fun j => [.nilptr, (.int .i64 v39.2.1), (.int .u64 v39.2.2)].getD j .nilptr))] [.agg (zqi v39.1)])) ((z3.length = 1 ∧ (((.int .i64 z23) : C) = (.int .i64 z23) ∧ Tt) ∧ (((.flt .f32 v39.1.W.bits) : C) = (.flt .f32 v39.1.W.bits) ∧ Tt) ∧ (((.flt .f32 v39.1.X.bits) : C) = (.flt .f32 v39.1.X.bits) ∧ Tt) ∧ (((.flt .f32 v39.1.Y.bits) : C) = (.flt .f32 v39.1.Y.bits) ∧ Tt) ∧ (((.flt .f32 v39.1.Z.bits) : C) = (.flt .f32 v39.1.Z.bits) ∧ Tt) ∧ Tt)) (((x36 ++ z3).length = x36.length + z3.length ∧ AppOb (x36.length) (z3.length) 5 (gl zqo x36) (gl zqo z3) (gl zqo (x36 ++ z3)) ∧ (∀ i j, i < z3.length → j < 5 → zjc (gl zqo z3 i j)) ∧ (x36.length + z3.length) * 24 ≤ 140737488355328)))) (by kernel_rfl) (zt4 rfl (c38) ⟨⟨⟨rfl, rfl, rfl, tr⟩, tr⟩, ok_spec_l02DrawTurn K z26 v39 e40⟩ ⟨rfl, ⟨⟨rfl, tr⟩, ⟨rfl, tr⟩, ⟨rfl, tr⟩, ⟨rfl, tr⟩, ⟨rfl, tr⟩, tr⟩⟩ ⟨List.length_append, zx9, zvx zhs _, c41⟩) ?_
    refine zqr ?_
    refine zqa ?_
    let z32 := IntKind.i64.wrap (x33 + (1 : Int))
    refine AW.rA ⟨[(0, (vp 0 0)), (1, (vI x7)), (2, (vI a2)), (6, (vp 1 0)), (7, (vp 2 0)), (8, z18), (9, z10), (28, z12), (29, (vI z32))], [(0, (.box [(.fx 0 0 z4), (cI v39.2.1), (.c (.int .u64 v39.2.2))])), (1, (.box [z6, z6, .nils, .nils])), (2, (.box [(cI z1), (cI a2), z7, .nils])), (13, (oL 1 z5 x10)), (35, z13), (41, z19)]⟩ (T2 Tt) [] [0, 1, 2, 6, 7, 8, 9, 28, 29] [0, 1, 2, 13, 35, 41] ⟨tr, tr, tr⟩ ?_
    exact zqu (k, z32, v39.2.1, v39.2.2, (x36 ++ z3)) h (Nat.lt_succ_self k) (Sub.trans (Sub.swap 34 41 _ (by kernel_rfl) (by kernel_rfl)) (Sub.keep [0, 1, 2, 6, 7, 8, 9, 28, 29] [0, 1, 2, 13, 34, 35] (by kernel_rfl) (by kernel_rfl)))
   ·refine AW.cond_f rfl b37 ?_
    refine AW.exit ?_
    refine zwc ?_
    refine zwd ?_
    refine zq4 ?_
    replace h := zqd h
    subst h
    exact ⟨rfl, Sub.keep [0, 1, 2, 6, 7, 8] [0, 1, 2, 13, 34] (by kernel_rfl) (by kernel_rfl)⟩
  refine zqa ?_
  obtain ⟨c42, h⟩ := zqn h
  let z14 := x10 ++ ([j28.2.2])
  refine AW.rA ⟨[(0, (vp 0 0)), (1, (vI x7)), (2, (vI a2)), (6, (vp 1 0)), (7, (vp 2 0))], [(0, (.box [(.fx 0 0 z4), (cI j28.1), (.c (.int .u64 j28.2.1))])), (1, (.box [z6, z6, .nils, .nils])), (2, (.box [(cI z1), (cI a2), (xL 43 1 z5 z14), .nils])), (43, (oL 1 z5 z14))]⟩ (Tt ∧ T2 ((([j28.2.2]).length = 1 ∧ (Eqc (sl 5 zqo j28.2.2)) ∧ Tt) ∧ (z14.length = x10.length + ([j28.2.2]).length ∧ AppOb (x10.length) (([j28.2.2]).length) 1 (gl z5 x10) (gl z5 ([j28.2.2])) (gl z5 z14) ∧ Tt ∧ (x10.length + ([j28.2.2]).length) * 24 ≤ 140737488355328) ∧ T2 Tt)) [.no, .no, .no, .obj 42 ([j28.2.2]).length (gl z5 ([j28.2.2])), .obj 43 z14.length (gl z5 z14)] [0, 1, 2, 6, 7] [0, 1, 2, 43] ⟨tr, tr, tr, ⟨rfl, ⟨rfl, tr⟩⟩, ⟨List.length_append, zx9, tr, c42⟩, tr, tr, tr⟩ ?_
  refine zqr ?_
  refine zqa ?_
  let z30 := IntKind.i64.wrap (x7 - (1 : Int))
  refine AW.rA ⟨[(0, (vp 0 0)), (1, (vI z30)), (2, (vI a2)), (6, (vp 1 0)), (7, (vp 2 0))], [(0, (.box [(.fx 0 0 z4), (cI j28.1), (.c (.int .u64 j28.2.1))])), (1, (.box [z6, z6, .nils, .nils])), (2, (.box [(cI z1), (cI a2), (xL 43 1 z5 z14), .nils])), (43, (oL 1 z5 z14))]⟩ (Tt ∧ T2 Tt) [] [0, 1, 2, 6, 7] [0, 1, 2, 43] ⟨tr, tr, tr, tr⟩ ?_
  exact zqu (k, z30, j28.1, j28.2.1, z14) h (Nat.lt_succ_self k) (Sub.trans (Sub.swap 13 43 _ (by kernel_rfl) (by kernel_rfl)) (Sub.keep [0, 1, 2, 6, 7] [0, 1, 2, 13] (by kernel_rfl) (by kernel_rfl)))
 ·refine AW.cond_f rfl b11 ?_
  refine AW.exit ?_
  refine zwc ?_
  refine zwd ?_
  refine zq4 ?_
  refine zqa ?_
  refine AW.seq ?_
  obtain ⟨v43, e44, h⟩ := zqb h
  let z27 := l00Src.mk a0.code x8 x9
  refine AW.tC (Tt ∧ T2 (((((Eqc z4) ∧ (eI x8) ∧ (Eqc (.int .u64 x9)) ∧ Tt) ∧ (eI z1) ∧ Tt) ∧ MutOK Tryz.prog 59 [(.box 3 (fun j => [true, false, false].getD j true) (fun j => (zqj z27).getD j .nilptr) (fun j => [.nilptr, (.int .i64 v43.2.1), (.int .u64 v43.2.2)].getD j .nilptr)), .one (.ro (.int .i64 z1))] [.one (sl 1 (csI .i64) v43.1)]) ∧ Tt ∧ Tt)) [.no, .no, .no, .callM [(.box 3 (fun j => [true, false, false].getD j true) (fun j => (zqj z27).getD j .nilptr) (fun j => [.nilptr, (.int .i64 v43.2.1), (.int .u64 v43.2.2)].getD j .nilptr)), .one (.ro (.int .i64 z1))] [.one (sl 1 (csI .i64) v43.1)] [[.lst 44]] none] [0, 1, 2, 6, 7, 11] [0, 1, 2, 13, 44] ⟨tr, tr, tr, ⟨⟨⟨rfl, rfl, rfl, tr⟩, rfl, tr⟩, ok_spec_l05DrawTimes K z27 z1 v43 e44⟩, tr, tr⟩ ?_
  refine AW.seq ?_
  let z8 := vL 44 1 (csI .i64) v43.1
  let z9 := vI (v43.1.length : Int)
  let z11 := oL 1 (csI .i64) v43.1
  refine AW.sA ⟨[(0, (vp 0 0)), (1, (vI x7)), (2, (vI a2)), (6, (vp 1 0)), (7, (vp 2 0)), (11, z8), (54, z9), (55, (vI (0 : Int)))], [(0, (.box [(.fx 0 0 z4), (cI v43.2.1), (.c (.int .u64 v43.2.2))])), (1, (.box [z6, z6, .nils, .nils])), (2, (.box [(cI z1), (cI a2), z7, .nils])), (13, (oL 1 z5 x10)), (44, z11)]⟩ (Tt ∧ T2 Tt) [] [0, 1, 2, 6, 7, 11, 54, 55] [0, 1, 2, 13, 44] ⟨tr, tr, tr, tr⟩ ?_
  refine AW.block ?_
  let z28 := List RootKey
  refine AW.weak (s' := ⟨[(0, (vp 0 0)), (1, (vI x7)), (2, (vI a2)), (6, (vp 1 0)), (7, (vp 2 0)), (11, z8), (54, z9), (55, (vI (0 : Int)))], [(0, (.box [(.fx 0 0 z4), (cI v43.2.1), (.c (.int .u64 v43.2.2))])), (1, (.box [z6, z6, .nils, .nils])), (2, (.box [(cI z1), (cI a2), z7, (xL 47 4 zqg ([] : z28))])), (13, (oL 1 z5 x10)), (44, z11), (47, (oL 4 zqg ([] : z28)))]⟩) (Sub.trans (Sub.unnil 47 4 (gl zqg ([] : z28)) [] [(2, 3)] _ (by kernel_rfl) (by kernel_rfl)) (Sub.keep [0, 1, 2, 6, 7, 11, 54, 55] [0, 1, 2, 13, 44, 47] (by kernel_rfl) (by kernel_rfl))) ?_
  refine AW.loopQ (σ := Nat × Int × Int × Int × z28) (fun p => ⟨[(0, (vp 0 0)), (1, (vI x7)), (2, (vI a2)), (6, (vp 1 0)), (7, (vp 2 0)), (11, z8), (54, z9), (55, (vI p.2.1))], [(0, (.box [(.fx 0 0 z4), (cI p.2.2.1), (.c (.int .u64 p.2.2.2.1))])), (1, (.box [z6, z6, .nils, .nils])), (2, (.box [(cI z1), (cI a2), z7, (xL 47 4 zqg p.2.2.2.2)])), (13, (oL 1 z5 x10)), (44, z11), (47, (oL 4 zqg p.2.2.2.2))]⟩) (fun p => zwt K a0 a2 v1 x10 v43 p.1 p.2.1 p.2.2.1 p.2.2.2.1 p.2.2.2.2 = some o) (fun p => p.1) (K, (0 : Int), v43.2.1, v43.2.2, ([] : z28)) h ?_
  clear h
  rintro ⟨k, x49, x50, x51, x52⟩ h
  replace h : zwt K a0 a2 v1 x10 v43 k x49 x50 x51 x52 = some o := h
  let z16 := xL 47 4 zqg x52
  let z21 := oL 4 zqg x52
  show AW _ _ (⟨[(0, (vp 0 0)), (1, (vI x7)), (2, (vI a2)), (6, (vp 1 0)), (7, (vp 2 0)), (11, z8), (54, z9), (55, (vI x49))], [(0, (.box [(.fx 0 0 z4), (cI x50), (.c (.int .u64 x51))])), (1, (.box [z6, z6, .nils, .nils])), (2, (.box [(cI z1), (cI a2), z7, z16])), (13, (oL 1 z5 x10)), (44, z11), (47, z21)]⟩ : St) _
  obtain _ | k := k
  ·rw [zwt] at h; cases h
  rw [zwt] at h
  refine AW.sA ⟨[(0, (vp 0 0)), (1, (vI x7)), (2, (vI a2)), (6, (vp 1 0)), (7, (vp 2 0)), (11, z8), (54, z9), (55, (vI x49)), (56, (vB (decide (x49 < (v43.1.length : Int)))))], [(0, (.box [(.fx 0 0 z4), (cI x50), (.c (.int .u64 x51))])), (1, (.box [z6, z6, .nils, .nils])), (2, (.box [(cI z1), (cI a2), z7, z16])), (13, (oL 1 z5 x10)), (44, z11), (47, z21)]⟩ (Tt ∧ Tt) [] [0, 1, 2, 6, 7, 11, 54, 55, 56] [0, 1, 2, 13, 44, 47] ⟨tr, tr⟩ ?_
  refine AW.seq ?_
  rcases zqc h with ⟨b53, h⟩ | ⟨b53, h⟩
  ·refine AW.cond_t rfl b53 ?_
   refine AW.skip ?_
   refine zqa ?_
   refine AW.seq ?_
   refine AW.block ?_
   refine AW.sA ⟨[(0, (vp 0 0)), (1, (vI x7)), (2, (vI a2)), (6, (vp 1 0)), (7, (vp 2 0)), (11, z8), (12, (vI x49)), (54, z9), (55, (vI x49))], [(0, (.box [(.fx 0 0 z4), (cI x50), (.c (.int .u64 x51))])), (1, (.box [z6, z6, .nils, .nils])), (2, (.box [(cI z1), (cI a2), z7, z16])), (13, (oL 1 z5 x10)), (44, z11), (47, z21)]⟩ (T2 Tt) [] [0, 1, 2, 6, 7, 11, 12, 54, 55] [0, 1, 2, 13, 44, 47] ⟨tr, tr, tr⟩ ?_
   obtain ⟨c54, h⟩ := zqn h
   obtain ⟨v55, e56, h⟩ := zqb h
   obtain ⟨c57, h⟩ := zqn h
   let z22 := v43.1.getD x49.toNat default
   let z2 := [(RootKey.mk z22 v55.1)]
   let z15 := xL 53 4 zqg (x52 ++ z2)
   let z17 := oL 4 zqg (x52 ++ z2)
   let z24 := l00Src.mk a0.code x50 x51
   refine AW.firstA (by kernel_rfl) [0, 2, 3, 6] [.no, .no, .no, .no, .no, .no, .no, .callM [(.box 3 (fun j => [true, false, false].getD j true) (fun j => (zqj z24).getD j .nilptr) (fun j => [.nilptr, (.int .i64 v55.2.1), (.int .u64 v55.2.2)].getD j .nilptr))] [.agg (zqs v55.1)] [[.view, .view, .view]] none, .no, .obj 52 z2.length (gl zqg z2), .objK 53 (x52 ++ z2).length (gl zqg (x52 ++ z2))] [0, 1, 2, 6, 7, 11, 54, 55] [0, 1, 2, 13, 44, 53] (s' := ⟨[(0, (vp 0 0)), (1, (vI x7)), (2, (vI a2)), (6, (vp 1 0)), (7, (vp 2 0)), (11, z8), (54, z9), (55, (vI x49))], [(0, (.box [(.fx 0 0 z4), (cI v55.2.1), (.c (.int .u64 v55.2.2))])), (1, (.box [z6, z6, .nils, .nils])), (2, (.box [(cI z1), (cI a2), z7, z15])), (13, (oL 1 z5 x10)), (44, z11), (53, z17)]⟩) (ob := (Zt14 ((⟨[(0, (vp 0 0)), (1, (vI x7)), (2, (vI a2)), (6, (vp 1 0)), (7, (vp 2 0)), (11, z8), (54, z9), (55, (vI x49))], [(0, (.box [(.fx 0 0 z4), (cI v55.2.1), (.c (.int .u64 v55.2.2))])), (1, (.box [z6, z6, .nils, .nils])), (2, (.box [(cI z1), (cI a2), z7, z15])), (13, (oL 1 z5 x10)), (44, z11), (53, z17)]⟩ : St) = ⟨[(0, (vp 0 0)), (1, (vI x7)), (2, (vI a2)), (6, (vp 1 0)), (7, (vp 2 0)), (11, z8), (54, z9), (55, (vI x49))], [(0, (.box [(.fx 0 0 z4), (cI v55.2.1), (.c (.int .u64 v55.2.2))])), (1, (.box [z6, z6, .nils, .nils])), (2, (.box [(cI z1), (cI a2), z7, z15])), (13, (oL 1 z5 x10)), (44, z11), (53, z17)]⟩) ((0 ≤ x49 ∧ x49 < (v43.1.length : Int))) (((((Eqc z4) ∧ (eI x50) ∧ (Eqc (.int .u64 x51)) ∧ Tt) ∧ Tt) ∧ MutOK Tryz.prog 61 [(.box 3 (fun j => [true, false, false].getD j true) (fun j => (zqj z24).getD j .nilptr) (fun j => [.nilptr, (.int .i64 v55.2.1), (.int .u64 v55.2.2)].getD j .nilptr))] [.agg (zqs v55.1)])) ((z2.length = 1 ∧ (((.int .i64 z22) : C) = (.int .i64 z22) ∧ Tt) ∧ (((.flt .f32 v55.1.X.bits) : C) = (.flt .f32 v55.1.X.bits) ∧ Tt) ∧ (((.flt .f32 v55.1.Y.bits) : C) = (.flt .f32 v55.1.Y.bits) ∧ Tt) ∧ (((.flt .f32 v55.1.Z.bits) : C) = (.flt .f32 v55.1.Z.bits) ∧ Tt) ∧ Tt)) (((x52 ++ z2).length = x52.length + z2.length ∧ AppOb (x52.length) (z2.length) 4 (gl zqg x52) (gl zqg z2) (gl zqg (x52 ++ z2)) ∧ (∀ i j, i < z2.length → j < 4 → zjc (gl zqg z2 i j)) ∧ (x52.length + z2.length) * 24 ≤ 140737488355328)))) (by kernel_rfl) (zt14 rfl (c54) ⟨⟨⟨rfl, rfl, rfl, tr⟩, tr⟩, ok_spec_l01DrawVector K z24 v55 e56⟩ ⟨rfl, ⟨⟨rfl, tr⟩, ⟨rfl, tr⟩, ⟨rfl, tr⟩, ⟨rfl, tr⟩, tr⟩⟩ ⟨List.length_append, zx9, zvx sc_RootKey _, c57⟩) ?_
   refine zqr ?_
   refine zqa ?_
   let z31 := IntKind.i64.wrap (x49 + (1 : Int))
   refine AW.rA ⟨[(0, (vp 0 0)), (1, (vI x7)), (2, (vI a2)), (6, (vp 1 0)), (7, (vp 2 0)), (11, z8), (54, z9), (55, (vI z31))], [(0, (.box [(.fx 0 0 z4), (cI v55.2.1), (.c (.int .u64 v55.2.2))])), (1, (.box [z6, z6, .nils, .nils])), (2, (.box [(cI z1), (cI a2), z7, z15])), (13, (oL 1 z5 x10)), (44, z11), (53, z17)]⟩ (T2 Tt) [] [0, 1, 2, 6, 7, 11, 54, 55] [0, 1, 2, 13, 44, 53] ⟨tr, tr, tr⟩ ?_
   exact zqu (k, z31, v55.2.1, v55.2.2, (x52 ++ z2)) h (Nat.lt_succ_self k) (Sub.trans (Sub.swap 47 53 _ (by kernel_rfl) (by kernel_rfl)) (Sub.keep [0, 1, 2, 6, 7, 11, 54, 55] [0, 1, 2, 13, 44, 47] (by kernel_rfl) (by kernel_rfl)))
  ·refine AW.cond_f rfl b53 ?_
   refine AW.exit ?_
   refine zwc ?_
   refine zwd ?_
   refine zq4 ?_
   refine zqa ?_
   refine AW.sA ⟨[(0, (vp 0 0)), (1, (vI x7)), (2, (vI a2)), (6, (vp 1 0))], [(0, (.box [(.fx 0 0 z4), (cI x50), (.c (.int .u64 x51))])), (1, (.box [(cI z1), (cI a2), z7, z16])), (13, (oL 1 z5 x10)), (47, z21)]⟩ (T2 Tt) [] [0, 1, 2, 6] [0, 1, 13, 47] ⟨tr, tr, tr⟩ ?_
   refine AW.ret ?_
   replace h := zqd h
   subst h
   exact ⟨.inr rfl, zqe [(.agg [(cI z1), (cI a2), z7, z16])] (by kernel_rfl) ⟨⟨⟨rfl, tr⟩, ⟨rfl, tr⟩, rfl, rfl, tr⟩, tr⟩ (of_decide_eq_true (by kernel_rfl)), by kernel_rfl, ⟨⟨rfl, ⟨⟨rfl, rfl⟩, ⟨rfl, rfl⟩, ⟨rfl, rfl⟩, tr⟩⟩, tr, tr, tr⟩⟩

/-! spec.l05DrawOk -/
def zk1 (K : Nat) (a0 : l00Src) : Option (Clip × Int × Int) :=
 (zq7 K a0 (3 : Int)).bind fun v1 => (zq7 K (l00Src.mk a0.code v1.2.1 v1.2.2) (3 : Int)).bind fun v3 => (zvo K (l00Src.mk a0.code v3.2.1 v3.2.2) (IntKind.i64.wrap ((1 : Int) + v1.1)) v3.1).bind fun v5 => some (v5.1, v5.2.1, v5.2.2)

theorem ok_spec_l05DrawOk (K : Nat) (a0 : l00Src) (o : (Clip × Int × Int)) (h : zk1 K a0 = some o) : MutOK Tryz.prog 18 [(.box 3 (fun j => [true, false, false].getD j true) (fun j => (zqj a0).getD j .nilptr) (fun j => [.nilptr, (.int .i64 o.2.1), (.int .u64 o.2.2)].getD j .nilptr))] [.agg (zqp o.1)] := by
 refine zxe 1 Tryz.func18 rfl (by kernel_rfl) (Nat.le_of_ble_eq_true (by kernel_rfl)) (by kernel_rfl) (by kernel_rfl) ?_
 intro w0 K0 v0 s0
 unfold zk1 at h
 let z2 := sl 1 (csI .u8) a0.code
 refine AW.weak (s' := ⟨[(0, (vp 0 0))], [(0, (.box [(.fx 0 0 z2), (cI a0.at_), (.c (.int .u64 a0.seed))]))]⟩) (zkt 0 [1, 2] (by kernel_rfl)) ?_
 refine AW.sC (Tt ∧ Tt) [.box 1] [0, 2] [0, 1] ⟨tr, tr⟩ ?_
 refine AW.seq ?_
 obtain ⟨v1, e2, h⟩ := zqb h
 refine AW.tC (Tt ∧ ((((Eqc z2) ∧ (eI a0.at_) ∧ (Eqc (.int .u64 a0.seed)) ∧ Tt) ∧ (eI (3 : Int)) ∧ Tt) ∧ MutOK Tryz.prog 38 [(.box 3 (fun j => [true, false, false].getD j true) (fun j => (zqj a0).getD j .nilptr) (fun j => [.nilptr, (.int .i64 v1.2.1), (.int .u64 v1.2.2)].getD j .nilptr)), .one (.ro (.int .i64 (3 : Int)))] [.one (.int .i64 v1.1)]) ∧ T2 Tt) [.no, .callM [(.box 3 (fun j => [true, false, false].getD j true) (fun j => (zqj a0).getD j .nilptr) (fun j => [.nilptr, (.int .i64 v1.2.1), (.int .u64 v1.2.2)].getD j .nilptr)), .one (.ro (.int .i64 (3 : Int)))] [.one (.int .i64 v1.1)] [[.view]] none] [0, 2, 3] [0, 1] ⟨tr, ⟨⟨⟨rfl, rfl, rfl, tr⟩, rfl, tr⟩, zq8 K a0 (3 : Int) v1 e2⟩, tr, tr, tr⟩ ?_
 refine AW.seq ?_
 obtain ⟨v3, e4, h⟩ := zqb h
 obtain ⟨v5, e6, h⟩ := zqb h
 let z1 := IntKind.i64.wrap ((1 : Int) + v1.1)
 let z3 := l00Src.mk a0.code v1.2.1 v1.2.2
 let z4 := l00Src.mk a0.code v3.2.1 v3.2.2
 let z5 := xL 2 1 (csL 5 zqo) v5.1.Tracks
 let z6 := xL 3 4 zqg v5.1.Roots
 refine AW.tA ⟨[(0, (vp 0 0)), (2, (vp 1 0))], [(0, (.box [(.fx 0 0 z2), (cI v5.2.1), (.c (.int .u64 v5.2.2))])), (1, (.box [(cI v5.1.Length), (cI v5.1.Kind), z5, z6])), (2, (oL 1 (csL 5 zqo) v5.1.Tracks)), (3, (oL 4 zqg v5.1.Roots))]⟩ (Tt ∧ T2 (((((Eqc z2) ∧ (eI v1.2.1) ∧ (Eqc (.int .u64 v1.2.2)) ∧ Tt) ∧ (eI (3 : Int)) ∧ Tt) ∧ MutOK Tryz.prog 38 [(.box 3 (fun j => [true, false, false].getD j true) (fun j => (zqj z3).getD j .nilptr) (fun j => [.nilptr, (.int .i64 v3.2.1), (.int .u64 v3.2.2)].getD j .nilptr)), .one (.ro (.int .i64 (3 : Int)))] [.one (.int .i64 v3.1)]) ∧ ((((Eqc z2) ∧ (eI v3.2.1) ∧ (Eqc (.int .u64 v3.2.2)) ∧ Tt) ∧ (eI z1) ∧ (eI v3.1) ∧ Tt) ∧ MutOK Tryz.prog 39 [(.box 3 (fun j => [true, false, false].getD j true) (fun j => (zqj z4).getD j .nilptr) (fun j => [.nilptr, (.int .i64 v5.2.1), (.int .u64 v5.2.2)].getD j .nilptr)), .one (.ro (.int .i64 z1)), .one (.ro (.int .i64 v3.1))] [.agg (zqp v5.1)]) ∧ Tt ∧ Tt)) [.no, .no, .no, .callM [(.box 3 (fun j => [true, false, false].getD j true) (fun j => (zqj z3).getD j .nilptr) (fun j => [.nilptr, (.int .i64 v3.2.1), (.int .u64 v3.2.2)].getD j .nilptr)), .one (.ro (.int .i64 (3 : Int)))] [.one (.int .i64 v3.1)] [[.view]] none, .callM [(.box 3 (fun j => [true, false, false].getD j true) (fun j => (zqj z4).getD j .nilptr) (fun j => [.nilptr, (.int .i64 v5.2.1), (.int .u64 v5.2.2)].getD j .nilptr)), .one (.ro (.int .i64 z1)), .one (.ro (.int .i64 v3.1))] [.agg (zqp v5.1)] [[.view, .view, .lst 2, .lst 3]] none] [0, 2] [0, 1, 2, 3] ⟨tr, tr, tr, ⟨⟨⟨rfl, rfl, rfl, tr⟩, rfl, tr⟩, zq8 K z3 (3 : Int) v3 e4⟩, ⟨⟨⟨rfl, rfl, rfl, tr⟩, rfl, rfl, tr⟩, ok_spec_l05DrawSized K z4 z1 v3.1 v5 e6⟩, tr, tr⟩ ?_
 refine AW.ret ?_
 replace h := zqd h
 subst h
 exact ⟨.inr rfl, zqe [(.agg [(cI v5.1.Length), (cI v5.1.Kind), z5, z6])] (by kernel_rfl) ⟨⟨⟨rfl, tr⟩, ⟨rfl, tr⟩, rfl, rfl, tr⟩, tr⟩ (of_decide_eq_true (by kernel_rfl)), by kernel_rfl, ⟨⟨rfl, ⟨⟨rfl, rfl⟩, ⟨rfl, rfl⟩, ⟨rfl, rfl⟩, tr⟩⟩, tr⟩⟩

/-! spec.B10Clip -/
def zk8 (K : Nat) (a0 : (List Int)) : Option (Clip) :=
 (zk1 K (l00Src.mk a0 (0 : Int) (0 : Int))).bind fun v1 => some v1.1

theorem ok_spec_B10Clip (K : Nat) (a0 : (List Int)) (o : (Clip)) (h : zk8 K a0 = some o) : CallOK Tryz.prog 5 [.one (sl 1 (csI .u8) a0)] [.agg (zqp o)] := by
 refine zqh Tryz.func5 rfl (by kernel_rfl) (Nat.le_of_ble_eq_true (by kernel_rfl)) ?_
 intro w0
 unfold zk8 at h
 let z2 := cI (0 : Int)
 let z3 := sl 1 (csI .u8) a0
 refine AW.sA ⟨[(0, (vc z3)), (2, (vp 1 0))], [(1, (.box [z2, z2, .nils, .nils]))]⟩ (Tt ∧ Tt) [.box 1] [0, 2] [1] ⟨tr, tr⟩ ?_
 refine AW.seq (AW.mkA 1 2 [(.i64, 0), (.u64, 0)] [.no] [] [2, 3] [1, 2] (s' := ⟨[(2, (vp 1 0)), (3, (vp 2 0))], [(1, (.box [z2, z2, .nils, .nils])), (2, (.box [(.c z3), z2, (.c (.int .u64 (0 : Int)))]))]⟩) (ob := (Tt ∧ Tt) ∧ Tt ∧ (Tt ∧ Tt)) (by kernel_rfl) ⟨⟨tr, tr⟩, tr, ⟨tr, tr⟩⟩ mk_spec_l00From (zqa ?_))
 refine AW.seq ?_
 obtain ⟨v1, e2, h⟩ := zqb h
 let z1 := l00Src.mk a0 (0 : Int) (0 : Int)
 let z4 := xL 3 1 (csL 5 zqo) v1.1.Tracks
 let z5 := xL 4 4 zqg v1.1.Roots
 refine AW.tA ⟨[(2, (vp 1 0))], [(1, (.box [(cI v1.1.Length), (cI v1.1.Kind), z4, z5])), (3, (oL 1 (csL 5 zqo) v1.1.Tracks)), (4, (oL 4 zqg v1.1.Roots))]⟩ (Tt ∧ ((((Eqc z3) ∧ (eI (0 : Int)) ∧ (Eqc (.int .u64 (0 : Int))) ∧ Tt) ∧ Tt) ∧ MutOK Tryz.prog 18 [(.box 3 (fun j => [true, false, false].getD j true) (fun j => (zqj z1).getD j .nilptr) (fun j => [.nilptr, (.int .i64 v1.2.1), (.int .u64 v1.2.2)].getD j .nilptr))] [.agg (zqp v1.1)]) ∧ Tt ∧ Tt) [.no, .callM [(.box 3 (fun j => [true, false, false].getD j true) (fun j => (zqj z1).getD j .nilptr) (fun j => [.nilptr, (.int .i64 v1.2.1), (.int .u64 v1.2.2)].getD j .nilptr))] [.agg (zqp v1.1)] [[.view, .view, .lst 3, .lst 4]] none] [2] [1, 3, 4] ⟨tr, ⟨⟨⟨rfl, rfl, rfl, tr⟩, tr⟩, ok_spec_l05DrawOk K z1 v1 e2⟩, tr, tr⟩ ?_
 refine AW.ret ?_
 replace h := zqd h
 subst h
 exact ⟨.inr rfl, zqe [(.agg [(cI v1.1.Length), (cI v1.1.Kind), z4, z5])] (by kernel_rfl) ⟨⟨⟨rfl, tr⟩, ⟨rfl, tr⟩, rfl, rfl, tr⟩, tr⟩ (of_decide_eq_true (by kernel_rfl))⟩

/-! impl.turnTrack -/
def zjo (_K : Nat) : Option (Unit) :=
 some ()

theorem ok_impl_turnTrack (K : Nat) (o : (Unit)) (h : zjo K  = some o) : CallOK Tryz.prog 21 [] [.agg [(.fn 42 0 fun _ => .nilptr), (.fn 43 0 fun _ => .nilptr), (.fn 44 0 fun _ => .nilptr)]] := by
 refine zqh Tryz.func21 rfl (by kernel_rfl) (Nat.le_of_ble_eq_true (by kernel_rfl)) ?_
 intro w0
 unfold zjo at h
 refine AW.sC (Tt ∧ Tt) [.box 1] [0] [1] ⟨tr, tr⟩ ?_
 refine AW.sA ⟨[(0, (vp 1 0))], [(1, (.box [(.c (.fn 42 0 fun _ => .nilptr)), (.c (.fn 43 0 fun _ => .nilptr)), (.c (.fn 44 0 fun _ => .nilptr))]))]⟩ (T2 Tt) [] [0] [1] ⟨tr, tr, tr⟩ ?_
 refine AW.ret ?_
 replace h := zqd h
 subst h
 exact ⟨.inr rfl, zqe [(.agg [(.c (.fn 42 0 fun _ => .nilptr)), (.c (.fn 43 0 fun _ => .nilptr)), (.c (.fn 44 0 fun _ => .nilptr))])] (by kernel_rfl) ⟨⟨⟨rfl, rfl⟩, ⟨rfl, rfl⟩, ⟨rfl, rfl⟩, tr⟩, tr⟩ (of_decide_eq_true (by kernel_rfl))⟩

/-! impl.turnTrack$1 -/
def zwo (_K : Nat) (a0 : Key) : Option (Int) :=
 some a0.At

theorem zw5 (K : Nat) (a0 : Key) (o : (Int)) (h : zwo K a0 = some o) : CallOK Tryz.prog 42 [.agg (zqo a0)] [.one (.int .i64 o)] := by
 refine zqh Tryz.func42 rfl (by kernel_rfl) (Nat.le_of_ble_eq_true (by kernel_rfl)) ?_
 intro w0
 unfold zwo at h
 refine AW.sC (T2 Tt) [.box 1] [1] [1] ⟨tr, tr, tr⟩ ?_
 refine AW.sA ⟨[(2, (vI a0.At))], []⟩ (Tt ∧ T2 Tt) [] [2] [] ⟨tr, tr, tr, tr⟩ ?_
 refine AW.ret ?_
 replace h := zqd h
 subst h
 exact ⟨.inr rfl, zqe [(.one (cI a0.At))] (by kernel_rfl) ⟨⟨rfl, tr⟩, tr⟩ (of_decide_eq_true (by kernel_rfl))⟩

/-! (impl.track[impl.Key]).valid -/
def zq9 (K : Nat) (a1 : (List Key)) (a2 : Int) : Nat → Int → Int → Option (Bool)
 | 0, _, _ => none
 | k + 1, x3, x4 => ite2 ((decide (x4 < (a1.length : Int)))) (chk (0 ≤ x4 ∧ x4 < (a1.length : Int)) ((zwo K (a1.getD x4.toNat default)).bind fun v7 => (ite2 ((decide (v7 ≤ x3))) (some true) (some (decide (v7 > a2)))).bind fun j10 => ite2 (j10) (some false) ((zwo K (a1.getD x4.toNat default)).bind fun v13 => zq9 K a1 a2 k v13 (IntKind.i64.wrap (x4 + (1 : Int)))))) ((ite2 ((decide ((a1.length : Int) ≥ (1 : Int)))) (some (decide ((a1.length : Int) ≤ (12 : Int)))) (some false)).bind fun j16 => some j16)

def zw3 (K : Nat) (a1 : (List Key)) (a2 : Int) : Option (Bool) :=
 zq9 K a1 a2 K ((-1) : Int) (0 : Int)

theorem ok_impl_track_impl_Key_valid (K : Nat) (a1 : (List Key)) (a2 : Int) (o : (Bool)) (h : zw3 K a1 a2 = some o) : CallOK Tryz.prog 22 [.agg [(.fn 42 0 fun _ => .nilptr), (.fn 43 0 fun _ => .nilptr), (.fn 44 0 fun _ => .nilptr)], .one (sl 5 zqo a1), .one (.int .i64 a2)] [.one (.bool o)] := by
 refine zqh Tryz.func22 rfl (by kernel_rfl) (Nat.le_of_ble_eq_true (by kernel_rfl)) ?_
 intro w0
 unfold zw3 at h
 refine AW.sC (T2 Tt) [.box 1] [1, 2, 3] [1] ⟨tr, tr, tr⟩ ?_
 refine AW.sC (Tt ∧ Tt) [] [1, 2, 3, 7] [1] ⟨tr, tr⟩ ?_
 refine AW.seq ?_
 let z2 := vc (sl 5 zqo a1)
 let z3 := vI (a1.length : Int)
 refine AW.sA ⟨[(1, z2), (2, (vI a2)), (3, (vp 1 0)), (7, (vI ((-1) : Int))), (11, z2), (12, z3), (13, (vI (0 : Int)))], [(1, (.box [(.c (.fn 42 0 fun _ => .nilptr)), (.c (.fn 43 0 fun _ => .nilptr)), (.c (.fn 44 0 fun _ => .nilptr))]))]⟩ (Tt ∧ T2 Tt) [] [1, 2, 3, 7, 11, 12, 13] [1] ⟨tr, tr, tr, tr⟩ ?_
 refine AW.block ?_
 refine AW.loopQ (σ := Nat × Int × Int) (fun p => ⟨[(1, z2), (2, (vI a2)), (3, (vp 1 0)), (7, (vI p.2.1)), (11, z2), (12, z3), (13, (vI p.2.2))], [(1, (.box [(.c (.fn 42 0 fun _ => .nilptr)), (.c (.fn 43 0 fun _ => .nilptr)), (.c (.fn 44 0 fun _ => .nilptr))]))]⟩) (fun p => zq9 K a1 a2 p.1 p.2.1 p.2.2 = some o) (fun p => p.1) (K, ((-1) : Int), (0 : Int)) h ?_
 clear h
 rintro ⟨k, x3, x4⟩ h
 replace h : zq9 K a1 a2 k x3 x4 = some o := h
 show AW _ _ (⟨[(1, z2), (2, (vI a2)), (3, (vp 1 0)), (7, (vI x3)), (11, z2), (12, z3), (13, (vI x4))], [(1, (.box [(.c (.fn 42 0 fun _ => .nilptr)), (.c (.fn 43 0 fun _ => .nilptr)), (.c (.fn 44 0 fun _ => .nilptr))]))]⟩ : St) _
 obtain _ | k := k
 ·rw [zq9] at h; cases h
 rw [zq9] at h
 refine AW.sA ⟨[(1, z2), (2, (vI a2)), (3, (vp 1 0)), (7, (vI x3)), (11, z2), (12, z3), (13, (vI x4)), (14, (vB (decide (x4 < (a1.length : Int)))))], [(1, (.box [(.c (.fn 42 0 fun _ => .nilptr)), (.c (.fn 43 0 fun _ => .nilptr)), (.c (.fn 44 0 fun _ => .nilptr))]))]⟩ (Tt ∧ Tt) [] [1, 2, 3, 7, 11, 12, 13, 14] [1] ⟨tr, tr⟩ ?_
 refine AW.seq ?_
 rcases zqc h with ⟨b5, h⟩ | ⟨b5, h⟩
 ·refine AW.cond_t rfl b5 ?_
  refine AW.skip ?_
  refine zqa ?_
  refine AW.seq ?_
  refine AW.block ?_
  refine AW.seq ?_
  obtain ⟨c6, h⟩ := zqn h
  refine AW.tC ((0 ≤ x4 ∧ x4 < (a1.length : Int)) ∧ Tt ∧ T2 Tt) [.no, .no, .box 4] [1, 2, 3, 7, 9, 11, 12, 13] [1, 4] ⟨c6, tr, tr, tr, tr⟩ ?_
  refine AW.seq ?_
  refine AW.seq ?_
  obtain ⟨v7, e8, h⟩ := zqb h
  let z1 := a1.getD x4.toNat default
  let z4 := ((eI (z1.At)) ∧ (eF ((z1.Turn).W)) ∧ (eF ((z1.Turn).X)) ∧ (eF ((z1.Turn).Y)) ∧ (eF ((z1.Turn).Z)) ∧ Tt) ∧ Tt
  let z5 := cF ((z1.Turn).W)
  let z6 := cF ((z1.Turn).X)
  let z7 := cF ((z1.Turn).Y)
  let z8 := cF ((z1.Turn).Z)
  let z9 : List CT := [.agg (zqo z1)]
  refine AW.tA ⟨[(1, z2), (2, (vI a2)), (3, (vp 1 0)), (7, (vI x3)), (9, (vp 4 0)), (10, (vI v7)), (11, z2), (12, z3), (13, (vI x4))], [(1, (.box [(.c (.fn 42 0 fun _ => .nilptr)), (.c (.fn 43 0 fun _ => .nilptr)), (.c (.fn 44 0 fun _ => .nilptr))])), (4, (.box [(cI (z1.At)), z5, z6, z7, z8]))]⟩ (Tt ∧ T2 ((z4 ∧ CallOK Tryz.prog 42 z9 [.one (.int .i64 v7)]) ∧ Tt ∧ Tt)) [.no, .no, .no, .call z9 [.one (.int .i64 v7)] [[.view]]] [1, 2, 3, 7, 9, 10, 11, 12, 13] [1, 4] ⟨tr, tr, tr, ⟨⟨⟨rfl, rfl, rfl, rfl, rfl, tr⟩, tr⟩, zw5 K z1 v7 e8⟩, tr, tr⟩ ?_
  refine AW.seq ?_
  obtain ⟨j10, e11, h⟩ := zqb h
  refine AW.join1 (s2 := ⟨[(1, z2), (2, (vI a2)), (3, (vp 1 0)), (9, (vp 4 0)), (11, z2), (12, z3), (13, (vI x4)), (28, (vB j10))], [(1, (.box [(.c (.fn 42 0 fun _ => .nilptr)), (.c (.fn 43 0 fun _ => .nilptr)), (.c (.fn 44 0 fun _ => .nilptr))])), (4, (.box [(cI (z1.At)), z5, z6, z7, z8]))]⟩) ?_ ?_
  ·rcases zqc e11 with ⟨b9, e11⟩ | ⟨b9, e11⟩
   ·replace e11 := zqd e11
    subst e11
    exact AW.rA ⟨[(1, z2), (2, (vI a2)), (3, (vp 1 0)), (9, (vp 4 0)), (11, z2), (12, z3), (13, (vI x4)), (28, (vB true))], [(1, (.box [(.c (.fn 42 0 fun _ => .nilptr)), (.c (.fn 43 0 fun _ => .nilptr)), (.c (.fn 44 0 fun _ => .nilptr))])), (4, (.box [(cI (z1.At)), z5, z6, z7, z8]))]⟩ (Tt ∧ T2 ((Tt ∧ (decide (v7 ≤ x3)) = true) ∧ T4 Tt)) [.no, .no, .no, .dec true] [1, 2, 3, 9, 11, 12, 13, 28] [1, 4] ⟨tr, tr, tr, ⟨tr, b9⟩, tr, tr, tr, tr, tr⟩ ⟨rfl, rfl⟩
   ·replace e11 := zqd e11
    subst e11
    exact AW.rA ⟨[(1, z2), (2, (vI a2)), (3, (vp 1 0)), (9, (vp 4 0)), (11, z2), (12, z3), (13, (vI x4)), (28, (vB (decide (v7 > a2))))], [(1, (.box [(.c (.fn 42 0 fun _ => .nilptr)), (.c (.fn 43 0 fun _ => .nilptr)), (.c (.fn 44 0 fun _ => .nilptr))])), (4, (.box [(cI (z1.At)), z5, z6, z7, z8]))]⟩ (Tt ∧ T2 ((Tt ∧ (decide (v7 ≤ x3)) = false) ∧ T4 Tt)) [.no, .no, .no, .dec false] [1, 2, 3, 9, 11, 12, 13, 28] [1, 4] ⟨tr, tr, tr, ⟨tr, b9⟩, tr, tr, tr, tr, tr⟩ ⟨rfl, rfl⟩
  refine zqa ?_
  rcases zqc h with ⟨b12, h⟩ | ⟨b12, h⟩
  ·refine AW.cond_t rfl b12 ?_
   refine AW.sA ⟨[(6, (vB false))], []⟩ (Tt ∧ Tt) [] [6] [] ⟨tr, tr⟩ ?_
   refine AW.ret ?_
   refine zqm ?_
   refine zqz ?_
   refine zqm ?_
   refine zjs ?_
   refine zqz ?_
   refine zqm ?_
   replace h := zqd h
   subst h
   exact ⟨.inr rfl, zqe [(.one (.c (.bool false)))] (by kernel_rfl) ⟨⟨rfl, tr⟩, tr⟩ (of_decide_eq_true (by kernel_rfl))⟩
  ·refine AW.cond_f rfl b12 ?_
   refine AW.skip ?_
   refine zqa ?_
   obtain ⟨v13, e14, h⟩ := zqb h
   refine AW.rA ⟨[(1, z2), (2, (vI a2)), (3, (vp 1 0)), (7, (vI v13)), (11, z2), (12, z3), (13, (vI x4))], [(1, (.box [(.c (.fn 42 0 fun _ => .nilptr)), (.c (.fn 43 0 fun _ => .nilptr)), (.c (.fn 44 0 fun _ => .nilptr))]))]⟩ (Tt ∧ T2 ((z4 ∧ CallOK Tryz.prog 42 z9 [.one (.int .i64 v13)]) ∧ Tt ∧ Tt)) [.no, .no, .no, .call z9 [.one (.int .i64 v13)] [[.view]]] [1, 2, 3, 7, 11, 12, 13] [1] ⟨tr, tr, tr, ⟨⟨⟨rfl, rfl, rfl, rfl, rfl, tr⟩, tr⟩, zw5 K z1 v13 e14⟩, tr, tr⟩ ?_
   refine zqr ?_
   refine zqa ?_
   let z10 := IntKind.i64.wrap (x4 + (1 : Int))
   refine AW.rA ⟨[(1, z2), (2, (vI a2)), (3, (vp 1 0)), (7, (vI v13)), (11, z2), (12, z3), (13, (vI z10))], [(1, (.box [(.c (.fn 42 0 fun _ => .nilptr)), (.c (.fn 43 0 fun _ => .nilptr)), (.c (.fn 44 0 fun _ => .nilptr))]))]⟩ (T2 Tt) [] [1, 2, 3, 7, 11, 12, 13] [1] ⟨tr, tr, tr⟩ ?_
   exact zqu (k, v13, z10) h (Nat.lt_succ_self k) (Sub.keep [1, 2, 3, 7, 11, 12, 13] [1] (by kernel_rfl) (by kernel_rfl))
 ·refine AW.cond_f rfl b5 ?_
  refine AW.exit ?_
  refine zwc ?_
  refine zwd ?_
  refine zq4 ?_
  refine zqa ?_
  refine AW.seq ?_
  obtain ⟨j16, e17, h⟩ := zqb h
  refine AW.join1 (s2 := ⟨[(6, (vB j16))], []⟩) ?_ ?_
  ·rcases zqc e17 with ⟨b15, e17⟩ | ⟨b15, e17⟩
   ·replace e17 := zqd e17
    subst e17
    exact AW.rA ⟨[(6, (vB (decide ((a1.length : Int) ≤ (12 : Int)))))], []⟩ (Tt ∧ T2 ((Tt ∧ (decide ((a1.length : Int) ≥ (1 : Int))) = true) ∧ Tt ∧ T4 Tt)) [.no, .no, .no, .dec true] [6] [] ⟨tr, tr, tr, ⟨tr, b15⟩, tr, tr, tr, tr, tr, tr⟩ ⟨rfl, rfl⟩
   ·replace e17 := zqd e17
    subst e17
    exact AW.rA ⟨[(6, (vB false))], []⟩ (Tt ∧ T2 ((Tt ∧ (decide ((a1.length : Int) ≥ (1 : Int))) = false) ∧ Tt ∧ T4 Tt)) [.no, .no, .no, .dec false] [6] [] ⟨tr, tr, tr, ⟨tr, b15⟩, tr, tr, tr, tr, tr, tr⟩ ⟨rfl, rfl⟩
  refine zqa ?_
  refine AW.ret ?_
  replace h := zqd h
  subst h
  exact ⟨.inr rfl, zqe [(.one (.c (.bool j16)))] (by kernel_rfl) ⟨⟨rfl, tr⟩, tr⟩ (of_decide_eq_true (by kernel_rfl))⟩

/-! impl.rootTrack -/
def zjl (_K : Nat) : Option (Unit) :=
 some ()

theorem ok_impl_rootTrack (K : Nat) (o : (Unit)) (h : zjl K  = some o) : CallOK Tryz.prog 23 [] [.agg [(.fn 46 0 fun _ => .nilptr), (.fn 47 0 fun _ => .nilptr), (.fn 48 0 fun _ => .nilptr)]] := by
 refine zqh Tryz.func23 rfl (by kernel_rfl) (Nat.le_of_ble_eq_true (by kernel_rfl)) ?_
 intro w0
 unfold zjl at h
 refine AW.sC (Tt ∧ Tt) [.box 1] [0] [1] ⟨tr, tr⟩ ?_
 refine AW.sA ⟨[(0, (vp 1 0))], [(1, (.box [(.c (.fn 46 0 fun _ => .nilptr)), (.c (.fn 47 0 fun _ => .nilptr)), (.c (.fn 48 0 fun _ => .nilptr))]))]⟩ (T2 Tt) [] [0] [1] ⟨tr, tr, tr⟩ ?_
 refine AW.ret ?_
 replace h := zqd h
 subst h
 exact ⟨.inr rfl, zqe [(.agg [(.c (.fn 46 0 fun _ => .nilptr)), (.c (.fn 47 0 fun _ => .nilptr)), (.c (.fn 48 0 fun _ => .nilptr))])] (by kernel_rfl) ⟨⟨⟨rfl, rfl⟩, ⟨rfl, rfl⟩, ⟨rfl, rfl⟩, tr⟩, tr⟩ (of_decide_eq_true (by kernel_rfl))⟩

/-! impl.rootTrack$1 -/
def zwn (_K : Nat) (a0 : RootKey) : Option (Int) :=
 some a0.At

theorem zw6 (K : Nat) (a0 : RootKey) (o : (Int)) (h : zwn K a0 = some o) : CallOK Tryz.prog 46 [.agg (zqg a0)] [.one (.int .i64 o)] := by
 refine zqh Tryz.func46 rfl (by kernel_rfl) (Nat.le_of_ble_eq_true (by kernel_rfl)) ?_
 intro w0
 unfold zwn at h
 refine AW.sC (T2 Tt) [.box 1] [1] [1] ⟨tr, tr, tr⟩ ?_
 refine AW.sA ⟨[(2, (vI a0.At))], []⟩ (Tt ∧ T2 Tt) [] [2] [] ⟨tr, tr, tr, tr⟩ ?_
 refine AW.ret ?_
 replace h := zqd h
 subst h
 exact ⟨.inr rfl, zqe [(.one (cI a0.At))] (by kernel_rfl) ⟨⟨rfl, tr⟩, tr⟩ (of_decide_eq_true (by kernel_rfl))⟩

/-! (impl.track[impl.RootKey]).valid -/
def zq3 (K : Nat) (a1 : (List RootKey)) (a2 : Int) : Nat → Int → Int → Option (Bool)
 | 0, _, _ => none
 | k + 1, x3, x4 => ite2 ((decide (x4 < (a1.length : Int)))) (chk (0 ≤ x4 ∧ x4 < (a1.length : Int)) ((zwn K (a1.getD x4.toNat default)).bind fun v7 => (ite2 ((decide (v7 ≤ x3))) (some true) (some (decide (v7 > a2)))).bind fun j10 => ite2 (j10) (some false) ((zwn K (a1.getD x4.toNat default)).bind fun v13 => zq3 K a1 a2 k v13 (IntKind.i64.wrap (x4 + (1 : Int)))))) ((ite2 ((decide ((a1.length : Int) ≥ (1 : Int)))) (some (decide ((a1.length : Int) ≤ (12 : Int)))) (some false)).bind fun j16 => some j16)

def zws (K : Nat) (a1 : (List RootKey)) (a2 : Int) : Option (Bool) :=
 zq3 K a1 a2 K ((-1) : Int) (0 : Int)

theorem ok_impl_track_impl_RootKey_valid (K : Nat) (a1 : (List RootKey)) (a2 : Int) (o : (Bool)) (h : zws K a1 a2 = some o) : CallOK Tryz.prog 24 [.agg [(.fn 46 0 fun _ => .nilptr), (.fn 47 0 fun _ => .nilptr), (.fn 48 0 fun _ => .nilptr)], .one (sl 4 zqg a1), .one (.int .i64 a2)] [.one (.bool o)] := by
 refine zqh Tryz.func24 rfl (by kernel_rfl) (Nat.le_of_ble_eq_true (by kernel_rfl)) ?_
 intro w0
 unfold zws at h
 refine AW.sC (T2 Tt) [.box 1] [1, 2, 3] [1] ⟨tr, tr, tr⟩ ?_
 refine AW.sC (Tt ∧ Tt) [] [1, 2, 3, 7] [1] ⟨tr, tr⟩ ?_
 refine AW.seq ?_
 let z2 := vc (sl 4 zqg a1)
 let z3 := vI (a1.length : Int)
 refine AW.sA ⟨[(1, z2), (2, (vI a2)), (3, (vp 1 0)), (7, (vI ((-1) : Int))), (11, z2), (12, z3), (13, (vI (0 : Int)))], [(1, (.box [(.c (.fn 46 0 fun _ => .nilptr)), (.c (.fn 47 0 fun _ => .nilptr)), (.c (.fn 48 0 fun _ => .nilptr))]))]⟩ (Tt ∧ T2 Tt) [] [1, 2, 3, 7, 11, 12, 13] [1] ⟨tr, tr, tr, tr⟩ ?_
 refine AW.block ?_
 refine AW.loopQ (σ := Nat × Int × Int) (fun p => ⟨[(1, z2), (2, (vI a2)), (3, (vp 1 0)), (7, (vI p.2.1)), (11, z2), (12, z3), (13, (vI p.2.2))], [(1, (.box [(.c (.fn 46 0 fun _ => .nilptr)), (.c (.fn 47 0 fun _ => .nilptr)), (.c (.fn 48 0 fun _ => .nilptr))]))]⟩) (fun p => zq3 K a1 a2 p.1 p.2.1 p.2.2 = some o) (fun p => p.1) (K, ((-1) : Int), (0 : Int)) h ?_
 clear h
 rintro ⟨k, x3, x4⟩ h
 replace h : zq3 K a1 a2 k x3 x4 = some o := h
 show AW _ _ (⟨[(1, z2), (2, (vI a2)), (3, (vp 1 0)), (7, (vI x3)), (11, z2), (12, z3), (13, (vI x4))], [(1, (.box [(.c (.fn 46 0 fun _ => .nilptr)), (.c (.fn 47 0 fun _ => .nilptr)), (.c (.fn 48 0 fun _ => .nilptr))]))]⟩ : St) _
 obtain _ | k := k
 ·rw [zq3] at h; cases h
 rw [zq3] at h
 refine AW.sA ⟨[(1, z2), (2, (vI a2)), (3, (vp 1 0)), (7, (vI x3)), (11, z2), (12, z3), (13, (vI x4)), (14, (vB (decide (x4 < (a1.length : Int)))))], [(1, (.box [(.c (.fn 46 0 fun _ => .nilptr)), (.c (.fn 47 0 fun _ => .nilptr)), (.c (.fn 48 0 fun _ => .nilptr))]))]⟩ (Tt ∧ Tt) [] [1, 2, 3, 7, 11, 12, 13, 14] [1] ⟨tr, tr⟩ ?_
 refine AW.seq ?_
 rcases zqc h with ⟨b5, h⟩ | ⟨b5, h⟩
 ·refine AW.cond_t rfl b5 ?_
  refine AW.skip ?_
  refine zqa ?_
  refine AW.seq ?_
  refine AW.block ?_
  refine AW.seq ?_
  obtain ⟨c6, h⟩ := zqn h
  refine AW.tC ((0 ≤ x4 ∧ x4 < (a1.length : Int)) ∧ Tt ∧ T2 Tt) [.no, .no, .box 4] [1, 2, 3, 7, 9, 11, 12, 13] [1, 4] ⟨c6, tr, tr, tr, tr⟩ ?_
  refine AW.seq ?_
  refine AW.seq ?_
  obtain ⟨v7, e8, h⟩ := zqb h
  let z1 := a1.getD x4.toNat default
  let z4 := ((eI (z1.At)) ∧ (eF ((z1.Place).X)) ∧ (eF ((z1.Place).Y)) ∧ (eF ((z1.Place).Z)) ∧ Tt) ∧ Tt
  let z5 := cF ((z1.Place).X)
  let z6 := cF ((z1.Place).Y)
  let z7 := cF ((z1.Place).Z)
  let z8 : List CT := [.agg (zqg z1)]
  refine AW.tA ⟨[(1, z2), (2, (vI a2)), (3, (vp 1 0)), (7, (vI x3)), (9, (vp 4 0)), (10, (vI v7)), (11, z2), (12, z3), (13, (vI x4))], [(1, (.box [(.c (.fn 46 0 fun _ => .nilptr)), (.c (.fn 47 0 fun _ => .nilptr)), (.c (.fn 48 0 fun _ => .nilptr))])), (4, (.box [(cI (z1.At)), z5, z6, z7]))]⟩ (Tt ∧ T2 ((z4 ∧ CallOK Tryz.prog 46 z8 [.one (.int .i64 v7)]) ∧ Tt ∧ Tt)) [.no, .no, .no, .call z8 [.one (.int .i64 v7)] [[.view]]] [1, 2, 3, 7, 9, 10, 11, 12, 13] [1, 4] ⟨tr, tr, tr, ⟨⟨⟨rfl, rfl, rfl, rfl, tr⟩, tr⟩, zw6 K z1 v7 e8⟩, tr, tr⟩ ?_
  refine AW.seq ?_
  obtain ⟨j10, e11, h⟩ := zqb h
  refine AW.join1 (s2 := ⟨[(1, z2), (2, (vI a2)), (3, (vp 1 0)), (9, (vp 4 0)), (11, z2), (12, z3), (13, (vI x4)), (28, (vB j10))], [(1, (.box [(.c (.fn 46 0 fun _ => .nilptr)), (.c (.fn 47 0 fun _ => .nilptr)), (.c (.fn 48 0 fun _ => .nilptr))])), (4, (.box [(cI (z1.At)), z5, z6, z7]))]⟩) ?_ ?_
  ·rcases zqc e11 with ⟨b9, e11⟩ | ⟨b9, e11⟩
   ·replace e11 := zqd e11
    subst e11
    exact AW.rA ⟨[(1, z2), (2, (vI a2)), (3, (vp 1 0)), (9, (vp 4 0)), (11, z2), (12, z3), (13, (vI x4)), (28, (vB true))], [(1, (.box [(.c (.fn 46 0 fun _ => .nilptr)), (.c (.fn 47 0 fun _ => .nilptr)), (.c (.fn 48 0 fun _ => .nilptr))])), (4, (.box [(cI (z1.At)), z5, z6, z7]))]⟩ (Tt ∧ T2 ((Tt ∧ (decide (v7 ≤ x3)) = true) ∧ T4 Tt)) [.no, .no, .no, .dec true] [1, 2, 3, 9, 11, 12, 13, 28] [1, 4] ⟨tr, tr, tr, ⟨tr, b9⟩, tr, tr, tr, tr, tr⟩ ⟨rfl, rfl⟩
   ·replace e11 := zqd e11
    subst e11
    exact AW.rA ⟨[(1, z2), (2, (vI a2)), (3, (vp 1 0)), (9, (vp 4 0)), (11, z2), (12, z3), (13, (vI x4)), (28, (vB (decide (v7 > a2))))], [(1, (.box [(.c (.fn 46 0 fun _ => .nilptr)), (.c (.fn 47 0 fun _ => .nilptr)), (.c (.fn 48 0 fun _ => .nilptr))])), (4, (.box [(cI (z1.At)), z5, z6, z7]))]⟩ (Tt ∧ T2 ((Tt ∧ (decide (v7 ≤ x3)) = false) ∧ T4 Tt)) [.no, .no, .no, .dec false] [1, 2, 3, 9, 11, 12, 13, 28] [1, 4] ⟨tr, tr, tr, ⟨tr, b9⟩, tr, tr, tr, tr, tr⟩ ⟨rfl, rfl⟩
  refine zqa ?_
  rcases zqc h with ⟨b12, h⟩ | ⟨b12, h⟩
  ·refine AW.cond_t rfl b12 ?_
   refine AW.sA ⟨[(6, (vB false))], []⟩ (Tt ∧ Tt) [] [6] [] ⟨tr, tr⟩ ?_
   refine AW.ret ?_
   refine zqm ?_
   refine zqz ?_
   refine zqm ?_
   refine zjs ?_
   refine zqz ?_
   refine zqm ?_
   replace h := zqd h
   subst h
   exact ⟨.inr rfl, zqe [(.one (.c (.bool false)))] (by kernel_rfl) ⟨⟨rfl, tr⟩, tr⟩ (of_decide_eq_true (by kernel_rfl))⟩
  ·refine AW.cond_f rfl b12 ?_
   refine AW.skip ?_
   refine zqa ?_
   obtain ⟨v13, e14, h⟩ := zqb h
   refine AW.rA ⟨[(1, z2), (2, (vI a2)), (3, (vp 1 0)), (7, (vI v13)), (11, z2), (12, z3), (13, (vI x4))], [(1, (.box [(.c (.fn 46 0 fun _ => .nilptr)), (.c (.fn 47 0 fun _ => .nilptr)), (.c (.fn 48 0 fun _ => .nilptr))]))]⟩ (Tt ∧ T2 ((z4 ∧ CallOK Tryz.prog 46 z8 [.one (.int .i64 v13)]) ∧ Tt ∧ Tt)) [.no, .no, .no, .call z8 [.one (.int .i64 v13)] [[.view]]] [1, 2, 3, 7, 11, 12, 13] [1] ⟨tr, tr, tr, ⟨⟨⟨rfl, rfl, rfl, rfl, tr⟩, tr⟩, zw6 K z1 v13 e14⟩, tr, tr⟩ ?_
   refine zqr ?_
   refine zqa ?_
   let z9 := IntKind.i64.wrap (x4 + (1 : Int))
   refine AW.rA ⟨[(1, z2), (2, (vI a2)), (3, (vp 1 0)), (7, (vI v13)), (11, z2), (12, z3), (13, (vI z9))], [(1, (.box [(.c (.fn 46 0 fun _ => .nilptr)), (.c (.fn 47 0 fun _ => .nilptr)), (.c (.fn 48 0 fun _ => .nilptr))]))]⟩ (T2 Tt) [] [1, 2, 3, 7, 11, 12, 13] [1] ⟨tr, tr, tr⟩ ?_
   exact zqu (k, v13, z9) h (Nat.lt_succ_self k) (Sub.keep [1, 2, 3, 7, 11, 12, 13] [1] (by kernel_rfl) (by kernel_rfl))
 ·refine AW.cond_f rfl b5 ?_
  refine AW.exit ?_
  refine zwc ?_
  refine zwd ?_
  refine zq4 ?_
  refine zqa ?_
  refine AW.seq ?_
  obtain ⟨j16, e17, h⟩ := zqb h
  refine AW.join1 (s2 := ⟨[(6, (vB j16))], []⟩) ?_ ?_
  ·rcases zqc e17 with ⟨b15, e17⟩ | ⟨b15, e17⟩
   ·replace e17 := zqd e17
    subst e17
    exact AW.rA ⟨[(6, (vB (decide ((a1.length : Int) ≤ (12 : Int)))))], []⟩ (Tt ∧ T2 ((Tt ∧ (decide ((a1.length : Int) ≥ (1 : Int))) = true) ∧ Tt ∧ T4 Tt)) [.no, .no, .no, .dec true] [6] [] ⟨tr, tr, tr, ⟨tr, b15⟩, tr, tr, tr, tr, tr, tr⟩ ⟨rfl, rfl⟩
   ·replace e17 := zqd e17
    subst e17
    exact AW.rA ⟨[(6, (vB false))], []⟩ (Tt ∧ T2 ((Tt ∧ (decide ((a1.length : Int) ≥ (1 : Int))) = false) ∧ Tt ∧ T4 Tt)) [.no, .no, .no, .dec false] [6] [] ⟨tr, tr, tr, ⟨tr, b15⟩, tr, tr, tr, tr, tr, tr⟩ ⟨rfl, rfl⟩
  refine zqa ?_
  refine AW.ret ?_
  replace h := zqd h
  subst h
  exact ⟨.inr rfl, zqe [(.one (.c (.bool j16)))] (by kernel_rfl) ⟨⟨rfl, tr⟩, tr⟩ (of_decide_eq_true (by kernel_rfl))⟩

/-! impl.ValidClip -/
def zwy (K : Nat) (a0 : Clip) : Nat → Int → Option (Bool)
 | 0, _ => none
 | k + 1, x10 => ite2 ((decide (x10 < (a0.Tracks.length : Int)))) (chk (0 ≤ x10 ∧ x10 < (a0.Tracks.length : Int)) ((zjo K ).bind fun v13 => (zw3 K (a0.Tracks.getD x10.toNat default) a0.Length).bind fun v15 => ite2 ((!v15)) (some false) (zwy K a0 k (IntKind.i64.wrap (x10 + (1 : Int)))))) ((zjl K ).bind fun v18 => (zws K a0.Roots a0.Length).bind fun v20 => some v20)

def zw4 (K : Nat) (a0 : Clip) : Option (Bool) :=
 (ite2 ((decide (a0.Length < (1 : Int)))) (some true) (ite2 ((decide (a0.Length > (1000 : Int)))) (some true) (ite2 ((decide (a0.Kind < (0 : Int)))) (some true) (ite2 ((decide (a0.Kind > (2 : Int)))) (some true) (ite2 ((decide ((a0.Tracks.length : Int) < (1 : Int)))) (some true) (some (decide ((a0.Tracks.length : Int) > (12 : Int))))))))).bind fun j6 => ite2 (j6) (some false) (zwy K a0 K (0 : Int))

theorem zq0 (K : Nat) (a0 : Clip) (o : (Bool)) (h : zw4 K a0 = some o) : CallOK Tryz.prog 7 [.agg (zqp a0)] [.one (.bool o)] := by
 refine zqh Tryz.func7 rfl (by kernel_rfl) (Nat.le_of_ble_eq_true (by kernel_rfl)) ?_
 intro w0
 unfold zw4 at h
 let z1 := sl 1 (csL 5 zqo) a0.Tracks
 let z2 := sl 4 zqg a0.Roots
 let z4 := cI a0.Length
 refine AW.sA ⟨[(1, (vp 1 0))], [(1, (.box [z4, (cI a0.Kind), (.c z1), (.c z2)]))]⟩ (T2 Tt) [.box 1] [1] [1] ⟨tr, tr, tr⟩ ?_
 refine AW.seq ?_
 refine AW.seq ?_
 obtain ⟨j6, e7, h⟩ := zqb h
 refine AW.join1 (s2 := ⟨[(1, (vp 1 0)), (34, (vB j6))], [(1, (.box [z4, (cI a0.Kind), (.c z1), (.c z2)]))]⟩) ?_ ?_
 ·rcases zqc e7 with ⟨b1, e7⟩ | ⟨b1, e7⟩
  ·replace e7 := zqd e7
   subst e7
   exact AW.rA ⟨[(1, (vp 1 0)), (34, (vB true))], [(1, (.box [z4, (cI a0.Kind), (.c z1), (.c z2)]))]⟩ (Tt ∧ T2 ((Tt ∧ (decide (a0.Length < (1 : Int))) = true) ∧ T2 (T4 (T4 (T4 (T4 (T4 (T4 Tt)))))))) [.no, .no, .no, .dec true] [1, 34] [1] ⟨tr, tr, tr, ⟨tr, b1⟩, tr, tr, tr, tr, tr, tr, tr, tr, tr, tr, tr, tr, tr, tr, tr, tr, tr, tr, tr, tr, tr, tr, tr, tr, tr, tr, tr⟩ ⟨rfl, rfl⟩
  ·rcases zqc e7 with ⟨b2, e7⟩ | ⟨b2, e7⟩
   ·replace e7 := zqd e7
    subst e7
    exact AW.rA ⟨[(1, (vp 1 0)), (34, (vB true))], [(1, (.box [z4, (cI a0.Kind), (.c z1), (.c z2)]))]⟩ (Tt ∧ T2 ((Tt ∧ (decide (a0.Length < (1 : Int))) = false) ∧ T4 ((Tt ∧ (decide (a0.Length > (1000 : Int))) = true) ∧ Tt ∧ T4 (T4 (T4 (T4 (T4 Tt))))))) [.no, .no, .no, .dec false, .no, .no, .no, .no, .dec true] [1, 34] [1] ⟨tr, tr, tr, ⟨tr, b1⟩, tr, tr, tr, tr, ⟨tr, b2⟩, tr, tr, tr, tr, tr, tr, tr, tr, tr, tr, tr, tr, tr, tr, tr, tr, tr, tr, tr, tr, tr, tr⟩ ⟨rfl, rfl⟩
   ·rcases zqc e7 with ⟨b3, e7⟩ | ⟨b3, e7⟩
    ·replace e7 := zqd e7
     subst e7
     exact AW.rA ⟨[(1, (vp 1 0)), (34, (vB true))], [(1, (.box [z4, (cI a0.Kind), (.c z1), (.c z2)]))]⟩ (Tt ∧ T2 ((Tt ∧ (decide (a0.Length < (1 : Int))) = false) ∧ T4 ((Tt ∧ (decide (a0.Length > (1000 : Int))) = false) ∧ T4 ((Tt ∧ (decide (a0.Kind < (0 : Int))) = true) ∧ T4 (T4 (T4 (T4 Tt))))))) [.no, .no, .no, .dec false, .no, .no, .no, .no, .dec false, .no, .no, .no, .no, .dec true] [1, 34] [1] ⟨tr, tr, tr, ⟨tr, b1⟩, tr, tr, tr, tr, ⟨tr, b2⟩, tr, tr, tr, tr, ⟨tr, b3⟩, tr, tr, tr, tr, tr, tr, tr, tr, tr, tr, tr, tr, tr, tr, tr, tr, tr⟩ ⟨rfl, rfl⟩
    ·rcases zqc e7 with ⟨b4, e7⟩ | ⟨b4, e7⟩
     ·replace e7 := zqd e7
      subst e7
      exact AW.rA ⟨[(1, (vp 1 0)), (34, (vB true))], [(1, (.box [z4, (cI a0.Kind), (.c z1), (.c z2)]))]⟩ (Tt ∧ T2 ((Tt ∧ (decide (a0.Length < (1 : Int))) = false) ∧ T4 ((Tt ∧ (decide (a0.Length > (1000 : Int))) = false) ∧ T4 ((Tt ∧ (decide (a0.Kind < (0 : Int))) = false) ∧ T4 ((Tt ∧ (decide (a0.Kind > (2 : Int))) = true) ∧ Tt ∧ T2 (T4 (T4 Tt))))))) [.no, .no, .no, .dec false, .no, .no, .no, .no, .dec false, .no, .no, .no, .no, .dec false, .no, .no, .no, .no, .dec true] [1, 34] [1] ⟨tr, tr, tr, ⟨tr, b1⟩, tr, tr, tr, tr, ⟨tr, b2⟩, tr, tr, tr, tr, ⟨tr, b3⟩, tr, tr, tr, tr, ⟨tr, b4⟩, tr, tr, tr, tr, tr, tr, tr, tr, tr, tr, tr, tr⟩ ⟨rfl, rfl⟩
     ·rcases zqc e7 with ⟨b5, e7⟩ | ⟨b5, e7⟩
      ·replace e7 := zqd e7
       subst e7
       exact AW.rA ⟨[(1, (vp 1 0)), (34, (vB true))], [(1, (.box [z4, (cI a0.Kind), (.c z1), (.c z2)]))]⟩ (Tt ∧ T2 ((Tt ∧ (decide (a0.Length < (1 : Int))) = false) ∧ T4 ((Tt ∧ (decide (a0.Length > (1000 : Int))) = false) ∧ T4 ((Tt ∧ (decide (a0.Kind < (0 : Int))) = false) ∧ T4 ((Tt ∧ (decide (a0.Kind > (2 : Int))) = false) ∧ Tt ∧ T4 ((Tt ∧ (decide ((a0.Tracks.length : Int) < (1 : Int))) = true) ∧ Tt ∧ T4 Tt)))))) [.no, .no, .no, .dec false, .no, .no, .no, .no, .dec false, .no, .no, .no, .no, .dec false, .no, .no, .no, .no, .dec false, .no, .no, .no, .no, .no, .dec true] [1, 34] [1] ⟨tr, tr, tr, ⟨tr, b1⟩, tr, tr, tr, tr, ⟨tr, b2⟩, tr, tr, tr, tr, ⟨tr, b3⟩, tr, tr, tr, tr, ⟨tr, b4⟩, tr, tr, tr, tr, tr, ⟨tr, b5⟩, tr, tr, tr, tr, tr, tr⟩ ⟨rfl, rfl⟩
      ·replace e7 := zqd e7
       subst e7
       exact AW.rA ⟨[(1, (vp 1 0)), (34, (vB (decide ((a0.Tracks.length : Int) > (12 : Int)))))], [(1, (.box [z4, (cI a0.Kind), (.c z1), (.c z2)]))]⟩ (Tt ∧ T2 ((Tt ∧ (decide (a0.Length < (1 : Int))) = false) ∧ T4 ((Tt ∧ (decide (a0.Length > (1000 : Int))) = false) ∧ T4 ((Tt ∧ (decide (a0.Kind < (0 : Int))) = false) ∧ T4 ((Tt ∧ (decide (a0.Kind > (2 : Int))) = false) ∧ Tt ∧ T4 ((Tt ∧ (decide ((a0.Tracks.length : Int) < (1 : Int))) = false) ∧ Tt ∧ T4 Tt)))))) [.no, .no, .no, .dec false, .no, .no, .no, .no, .dec false, .no, .no, .no, .no, .dec false, .no, .no, .no, .no, .dec false, .no, .no, .no, .no, .no, .dec false] [1, 34] [1] ⟨tr, tr, tr, ⟨tr, b1⟩, tr, tr, tr, tr, ⟨tr, b2⟩, tr, tr, tr, tr, ⟨tr, b3⟩, tr, tr, tr, tr, ⟨tr, b4⟩, tr, tr, tr, tr, tr, ⟨tr, b5⟩, tr, tr, tr, tr, tr, tr⟩ ⟨rfl, rfl⟩
 refine zqa ?_
 rcases zqc h with ⟨b8, h⟩ | ⟨b8, h⟩
 ·refine AW.cond_t rfl b8 ?_
  refine AW.sA ⟨[(2, (vB false))], []⟩ (Tt ∧ Tt) [] [2] [] ⟨tr, tr⟩ ?_
  refine AW.ret ?_
  refine zqm ?_
  replace h := zqd h
  subst h
  exact ⟨.inr rfl, zqe [(.one (.c (.bool false)))] (by kernel_rfl) ⟨⟨rfl, tr⟩, tr⟩ (of_decide_eq_true (by kernel_rfl))⟩
 ·refine AW.cond_f rfl b8 ?_
  refine AW.skip ?_
  refine zqa ?_
  refine AW.seq ?_
  let z3 := (a0.Tracks.length : Int)
  refine AW.sA ⟨[(1, (vp 1 0)), (36, (vc z1)), (37, (vI z3)), (38, (vI (0 : Int)))], [(1, (.box [z4, (cI a0.Kind), (.c z1), (.c z2)]))]⟩ (T4 Tt) [] [1, 36, 37, 38] [1] ⟨tr, tr, tr, tr, tr⟩ ?_
  refine AW.block ?_
  refine AW.loopQ (σ := Nat × Int) (fun p => ⟨[(1, (vp 1 0)), (36, (vc z1)), (37, (vI z3)), (38, (vI p.2))], [(1, (.box [z4, (cI a0.Kind), (.c z1), (.c z2)]))]⟩) (fun p => zwy K a0 p.1 p.2 = some o) (fun p => p.1) (K, (0 : Int)) h ?_
  clear h
  rintro ⟨k, x10⟩ h
  replace h : zwy K a0 k x10 = some o := h
  show AW _ _ (⟨[(1, (vp 1 0)), (36, (vc z1)), (37, (vI z3)), (38, (vI x10))], [(1, (.box [z4, (cI a0.Kind), (.c z1), (.c z2)]))]⟩ : St) _
  obtain _ | k := k
  ·rw [zwy] at h; cases h
  rw [zwy] at h
  refine AW.sA ⟨[(1, (vp 1 0)), (36, (vc z1)), (37, (vI z3)), (38, (vI x10)), (39, (vB (decide (x10 < z3))))], [(1, (.box [z4, (cI a0.Kind), (.c z1), (.c z2)]))]⟩ (Tt ∧ Tt) [] [1, 36, 37, 38, 39] [1] ⟨tr, tr⟩ ?_
  refine AW.seq ?_
  rcases zqc h with ⟨b11, h⟩ | ⟨b11, h⟩
  ·refine AW.cond_t rfl b11 ?_
   refine AW.skip ?_
   refine zqa ?_
   refine AW.seq ?_
   refine AW.block ?_
   refine AW.seq ?_
   obtain ⟨c12, h⟩ := zqn h
   let z6 := a0.Tracks.getD x10.toNat default
   let z5 := sl 5 zqo z6
   refine AW.tA ⟨[(1, (vp 1 0)), (4, (vc z5)), (36, (vc z1)), (37, (vI z3)), (38, (vI x10))], [(1, (.box [z4, (cI a0.Kind), (.c z1), (.c z2)]))]⟩ ((0 ≤ x10 ∧ x10 < z3) ∧ T2 Tt) [] [1, 4, 36, 37, 38] [1] ⟨c12, tr, tr, tr⟩ ?_
   refine AW.seq ?_
   obtain ⟨v13, e14, h⟩ := zqb h
   obtain ⟨v15, e16, h⟩ := zqb h
   refine AW.dA ⟨[(1, (vp 1 0)), (36, (vc z1)), (37, (vI z3)), (38, (vI x10)), (47, (vB (!v15)))], [(1, (.box [z4, (cI a0.Kind), (.c z1), (.c z2)]))]⟩ ((((Tt) ∧ CallOK Tryz.prog 21 [] [.agg [(.fn 42 0 fun _ => .nilptr), (.fn 43 0 fun _ => .nilptr), (.fn 44 0 fun _ => .nilptr)]]) ∧ Tt ∧ T2 (((((Eqc (.fn 42 0 fun _ => .nilptr)) ∧ (Eqc (.fn 43 0 fun _ => .nilptr)) ∧ (Eqc (.fn 44 0 fun _ => .nilptr)) ∧ Tt) ∧ (Eqc z5) ∧ (eI a0.Length) ∧ Tt) ∧ CallOK Tryz.prog 22 [.agg [(.fn 42 0 fun _ => .nilptr), (.fn 43 0 fun _ => .nilptr), (.fn 44 0 fun _ => .nilptr)], .one z5, .one (.int .i64 a0.Length)] [.one (.bool v15)]) ∧ Tt ∧ Tt)) ∧ (Tt)) 6 [.call [] [.agg [(.fn 42 0 fun _ => .nilptr), (.fn 43 0 fun _ => .nilptr), (.fn 44 0 fun _ => .nilptr)]] [[.view, .view, .view]], .no, .no, .no, .call [.agg [(.fn 42 0 fun _ => .nilptr), (.fn 43 0 fun _ => .nilptr), (.fn 44 0 fun _ => .nilptr)], .one z5, .one (.int .i64 a0.Length)] [.one (.bool v15)] [[.view]]] [1, 36, 37, 38, 47] [1] ⟨⟨⟨tr, ok_impl_turnTrack K v13 e14⟩, tr, tr, tr, ⟨⟨⟨rfl, rfl, rfl, tr⟩, rfl, rfl, tr⟩, ok_impl_track_impl_Key_valid K z6 a0.Length v15 e16⟩, tr, tr⟩, tr⟩ ?_
   refine zqa ?_
   rcases zqc h with ⟨b17, h⟩ | ⟨b17, h⟩
   ·refine AW.cond_t rfl b17 ?_
    refine AW.sA ⟨[(2, (vB false))], []⟩ (Tt ∧ Tt) [] [2] [] ⟨tr, tr⟩ ?_
    refine AW.ret ?_
    refine zqz ?_
    refine zqm ?_
    refine zjs ?_
    refine zqz ?_
    refine zqm ?_
    replace h := zqd h
    subst h
    exact ⟨.inr rfl, zqe [(.one (.c (.bool false)))] (by kernel_rfl) ⟨⟨rfl, tr⟩, tr⟩ (of_decide_eq_true (by kernel_rfl))⟩
   ·refine AW.cond_f rfl b17 ?_
    refine AW.skip ?_
    refine zqr ?_
    refine zqa ?_
    let z7 := IntKind.i64.wrap (x10 + (1 : Int))
    refine AW.rA ⟨[(1, (vp 1 0)), (36, (vc z1)), (37, (vI z3)), (38, (vI z7))], [(1, (.box [z4, (cI a0.Kind), (.c z1), (.c z2)]))]⟩ (T2 Tt) [] [1, 36, 37, 38] [1] ⟨tr, tr, tr⟩ ?_
    exact zqu (k, z7) h (Nat.lt_succ_self k) (Sub.keep [1, 36, 37, 38] [1] (by kernel_rfl) (by kernel_rfl))
  ·refine AW.cond_f rfl b11 ?_
   refine AW.exit ?_
   refine zwc ?_
   refine zwd ?_
   refine zq4 ?_
   refine zqa ?_
   refine AW.seq ?_
   obtain ⟨v18, e19, h⟩ := zqb h
   obtain ⟨v20, e21, h⟩ := zqb h
   refine AW.dA ⟨[(2, (vB v20))], []⟩ ((((Tt) ∧ CallOK Tryz.prog 23 [] [.agg [(.fn 46 0 fun _ => .nilptr), (.fn 47 0 fun _ => .nilptr), (.fn 48 0 fun _ => .nilptr)]]) ∧ T4 (((((Eqc (.fn 46 0 fun _ => .nilptr)) ∧ (Eqc (.fn 47 0 fun _ => .nilptr)) ∧ (Eqc (.fn 48 0 fun _ => .nilptr)) ∧ Tt) ∧ (Eqc z2) ∧ (eI a0.Length) ∧ Tt) ∧ CallOK Tryz.prog 24 [.agg [(.fn 46 0 fun _ => .nilptr), (.fn 47 0 fun _ => .nilptr), (.fn 48 0 fun _ => .nilptr)], .one z2, .one (.int .i64 a0.Length)] [.one (.bool v20)]) ∧ Tt ∧ Tt)) ∧ (Tt)) 7 [.call [] [.agg [(.fn 46 0 fun _ => .nilptr), (.fn 47 0 fun _ => .nilptr), (.fn 48 0 fun _ => .nilptr)]] [[.view, .view, .view]], .no, .no, .no, .no, .call [.agg [(.fn 46 0 fun _ => .nilptr), (.fn 47 0 fun _ => .nilptr), (.fn 48 0 fun _ => .nilptr)], .one z2, .one (.int .i64 a0.Length)] [.one (.bool v20)] [[.view]]] [2] [] ⟨⟨⟨tr, ok_impl_rootTrack K v18 e19⟩, tr, tr, tr, tr, ⟨⟨⟨rfl, rfl, rfl, tr⟩, rfl, rfl, tr⟩, ok_impl_track_impl_RootKey_valid K a0.Roots a0.Length v20 e21⟩, tr, tr⟩, tr⟩ ?_
   refine zqa ?_
   refine AW.ret ?_
   replace h := zqd h
   subst h
   exact ⟨.inr rfl, zqe [(.one (.c (.bool v20)))] (by kernel_rfl) ⟨⟨rfl, tr⟩, tr⟩ (of_decide_eq_true (by kernel_rfl))⟩

/-! slices.Sort[[]int64,int64] -/
def zxx (_K : Nat) (a0 : (List Int)) : Option ((List Int)) :=
 sortI a0

theorem ok_slices_Sort_int64_int64 (K : Nat) (a0 : (List Int)) (o : (List Int)) (h : zxx K a0 = some o) : MutOK Tryz.prog 19 [(.one (.mu (sl 1 (csI .i64) a0) (sl 1 (csI .i64) o)))] [] :=
 mut_sort (enter_of Tryz.func19 (by kernel_rfl) (by kernel_rfl)) (fun blk off cap zs w h1 h2 h3 => Tryz.slices_Sort_int blk off cap zs w h1 h2 h3) (fun p cap w => Tryz.slices_Sort_int_none p cap w) a0 o h

/-! slices.Compact[[]int64,int64] -/
def zxk (_K : Nat) (a0 : (List Int)) : Option ((List Int)) :=
 zc5 a0

theorem ok_slices_Compact_int64_int64 (K : Nat) (a0 : (List Int)) (o : (List Int)) (h : zxk K a0 = some o) : MutOK Tryz.prog 20 [(.one (.mv (sl 1 (csI .i64) a0)))] [.one (sl 1 (csI .i64) o)] :=
 mut_compact (enter_of Tryz.func20 (by kernel_rfl) (by kernel_rfl)) (fun blk off cap zs w h1 h2 h3 => Tryz.slices_Compact_int blk off cap zs w h1 h2 h3) (fun a cap w => Tryz.slices_Compact_int_empty a cap w) a0 o h

/-! impl.KeysOf -/
def zxn (K : Nat) (a0 : Clip) (x6 : Int) : Nat → Int → (List Int) → Option ((List Int))
 | 0, _, _ => none
 | k + 1, x21, x22 => ite2 ((decide (x21 < ((a0.Tracks.getD x6.toNat default).length : Int)))) (chk (0 ≤ x21 ∧ x21 < ((a0.Tracks.getD x6.toNat default).length : Int)) (chk ((x22.length + ([((a0.Tracks.getD x6.toNat default).getD x21.toNat default).At]).length) * 8 ≤ 140737488355328) (zxn K a0 x6 k (IntKind.i64.wrap (x21 + (1 : Int))) (x22 ++ ([((a0.Tracks.getD x6.toNat default).getD x21.toNat default).At]))))) (some x22)

def zxy (K : Nat) (a0 : Clip) : Nat → Int → (List Int) → Option ((List Int) × Bool)
 | 0, _, _ => none
 | k + 1, x28, x29 => ite2 ((decide (x28 < (a0.Roots.length : Int)))) (chk (0 ≤ x28 ∧ x28 < (a0.Roots.length : Int)) (chk ((x29.length + ([(a0.Roots.getD x28.toNat default).At]).length) * 8 ≤ 140737488355328) (zxy K a0 k (IntKind.i64.wrap (x28 + (1 : Int))) (x29 ++ ([(a0.Roots.getD x28.toNat default).At]))))) ((zxx K x29).bind fun v33 => chk (v33.length = x29.length) ((zxk K v33).bind fun v36 => some (v36, true)))

def zxz (K : Nat) (a0 : Clip) : Nat → Int → (List Int) → Option ((List Int) × Bool)
 | 0, _, _ => none
 | k + 1, x6, x7 => ite2 ((decide (x6 < (a0.Tracks.length : Int)))) (chk (0 ≤ x6 ∧ x6 < (a0.Tracks.length : Int)) ((zxn K a0 x6 K (0 : Int) x7).bind fun j18 => zxz K a0 k (IntKind.i64.wrap (x6 + (1 : Int))) j18)) (zxy K a0 K (0 : Int) x7)

def zyk (K : Nat) (a0 : Clip) : Option ((List Int) × Bool) :=
 (zw4 K a0).bind fun v1 => ite2 ((!v1)) (some (([] : (List Int)), false)) (zxz K a0 K (0 : Int) ([] : (List Int)))

theorem ok_impl_KeysOf (K : Nat) (a0 : Clip) (o : ((List Int) × Bool)) (h : zyk K a0 = some o) : CallOK Tryz.prog 6 [.agg (zqp a0)] [.one (sl 1 (csI .i64) o.1), .one (.bool o.2)] := by
 refine zqh Tryz.func6 rfl (by kernel_rfl) (Nat.le_of_ble_eq_true (by kernel_rfl)) ?_
 intro w0
 unfold zyk at h
 refine AW.sC (Tt ∧ T2 Tt) [.box 1] [1] [1] ⟨tr, tr, tr, tr⟩ ?_
 refine AW.seq ?_
 refine AW.seq ?_
 obtain ⟨v1, e2, h⟩ := zqb h
 let z2 := sl 1 (csL 5 zqo) a0.Tracks
 let z4 := sl 4 zqg a0.Roots
 let z7 := cI a0.Length
 refine AW.tA ⟨[(1, (vp 1 0)), (13, (vB (!v1)))], [(1, (.box [z7, (cI a0.Kind), (.c z2), (.c z4)]))]⟩ (Tt ∧ ((((eI a0.Length) ∧ (eI a0.Kind) ∧ (Eqc z2) ∧ (Eqc z4) ∧ Tt) ∧ Tt) ∧ CallOK Tryz.prog 7 [.agg (zqp a0)] [.one (.bool v1)]) ∧ Tt ∧ Tt) [.no, .call [.agg (zqp a0)] [.one (.bool v1)] [[.view]]] [1, 13] [1] ⟨tr, ⟨⟨⟨rfl, rfl, rfl, rfl, tr⟩, tr⟩, zq0 K a0 v1 e2⟩, tr, tr⟩ ?_
 rcases zqc h with ⟨b3, h⟩ | ⟨b3, h⟩
 ·refine AW.cond_t rfl b3 ?_
  refine AW.sA ⟨[(2, (.v (.one .nils))), (3, (vB false))], []⟩ (T2 Tt) [] [2, 3] [] ⟨tr, tr, tr⟩ ?_
  refine AW.ret ?_
  refine zqm ?_
  replace h := zqd h
  subst h
  exact ⟨.inr rfl, zqe [(.one .nils), (.one (.c (.bool false)))] (by kernel_rfl) ⟨rfl, ⟨rfl, tr⟩, tr⟩ (of_decide_eq_true (by kernel_rfl))⟩
 ·refine AW.cond_f rfl b3 ?_
  refine AW.skip ?_
  refine zqa ?_
  refine AW.sC (Tt ∧ Tt) [] [1, 4] [1] ⟨tr, tr⟩ ?_
  refine AW.seq ?_
  let z15 := (a0.Tracks.length : Int)
  let z6 := vI z15
  let z17 := vI (0 : Int)
  refine AW.sA ⟨[(1, (vp 1 0)), (4, (.v (.one .nils))), (15, (vc z2)), (16, z6), (17, z17)], [(1, (.box [z7, (cI a0.Kind), (.c z2), (.c z4)]))]⟩ (T4 Tt) [] [1, 4, 15, 16, 17] [1] ⟨tr, tr, tr, tr, tr⟩ ?_
  refine AW.block ?_
  refine AW.weak (s' := ⟨[(1, (vp 1 0)), (4, (.v (.one (.arr 15)))), (15, (vc z2)), (16, z6), (17, z17)], [(1, (.box [z7, (cI a0.Kind), (.c z2), (.c z4)])), (15, (oA 1 (csI .i64) ([] : (List Int))))]⟩) (Sub.trans (Sub.unnilA true 15 1 (gl (csI .i64) ([] : (List Int))) [4] [] _ (by kernel_rfl) (by kernel_rfl)) (Sub.keep [1, 4, 15, 16, 17] [1, 15] (by kernel_rfl) (by kernel_rfl))) ?_
  refine AW.loopQ (σ := Nat × Int × (List Int)) (fun p => ⟨[(1, (vp 1 0)), (4, (.v (.one (.arr 15)))), (15, (vc z2)), (16, z6), (17, (vI p.2.1))], [(1, (.box [z7, (cI a0.Kind), (.c z2), (.c z4)])), (15, (oA 1 (csI .i64) p.2.2))]⟩) (fun p => zxz K a0 p.1 p.2.1 p.2.2 = some o) (fun p => p.1) (K, (0 : Int), ([] : (List Int))) h ?_
  clear h
  rintro ⟨k, x6, x7⟩ h
  replace h : zxz K a0 k x6 x7 = some o := h
  let z13 := oA 1 (csI .i64) x7
  show AW _ _ (⟨[(1, (vp 1 0)), (4, (.v (.one (.arr 15)))), (15, (vc z2)), (16, z6), (17, (vI x6))], [(1, (.box [z7, (cI a0.Kind), (.c z2), (.c z4)])), (15, z13)]⟩ : St) _
  obtain _ | k := k
  ·rw [zxz] at h; cases h
  rw [zxz] at h
  refine AW.sA ⟨[(1, (vp 1 0)), (4, (.v (.one (.arr 15)))), (15, (vc z2)), (16, z6), (17, (vI x6)), (18, (vB (decide (x6 < z15))))], [(1, (.box [z7, (cI a0.Kind), (.c z2), (.c z4)])), (15, z13)]⟩ (Tt ∧ Tt) [] [1, 4, 15, 16, 17, 18] [1, 15] ⟨tr, tr⟩ ?_
  refine AW.seq ?_
  rcases zqc h with ⟨b8, h⟩ | ⟨b8, h⟩
  ·refine AW.cond_t rfl b8 ?_
   refine AW.skip ?_
   refine zqa ?_
   refine AW.seq ?_
   refine AW.block ?_
   refine AW.seq ?_
   obtain ⟨c9, h⟩ := zqn h
   refine AW.tC ((0 ≤ x6 ∧ x6 < z15) ∧ T2 Tt) [] [1, 4, 6, 15, 16, 17] [1, 15] ⟨c9, tr, tr, tr⟩ ?_
   let z1 := a0.Tracks.getD x6.toNat default
   let z9 := vI (z1.length : Int)
   let z10 := vc (sl 5 zqo z1)
   refine AW.sA ⟨[(1, (vp 1 0)), (4, (.v (.one (.arr 15)))), (15, (vc z2)), (16, z6), (17, (vI x6)), (21, z10), (22, z9), (23, z17)], [(1, (.box [z7, (cI a0.Kind), (.c z2), (.c z4)])), (15, z13)]⟩ (Tt ∧ T2 Tt) [] [1, 4, 15, 16, 17, 21, 22, 23] [1, 15] ⟨tr, tr, tr, tr⟩ ?_
   obtain ⟨j18, e17, h⟩ := zqb h
   refine AW.joinS (s2 := ⟨[(1, (vp 1 0)), (4, (.v (.one (.arr 15)))), (15, (vc z2)), (16, z6), (17, (vI x6))], [(1, (.box [z7, (cI a0.Kind), (.c z2), (.c z4)])), (15, (oA 1 (csI .i64) j18))]⟩) ?_ ?_
   ·replace h := e17
    refine AW.block ?_
    refine AW.loopQ (σ := Nat × Int × (List Int)) (fun p => ⟨[(1, (vp 1 0)), (4, (.v (.one (.arr 15)))), (15, (vc z2)), (16, z6), (17, (vI x6)), (21, z10), (22, z9), (23, (vI p.2.1))], [(1, (.box [z7, (cI a0.Kind), (.c z2), (.c z4)])), (15, (oA 1 (csI .i64) p.2.2))]⟩) (fun p => zxn K a0 x6 p.1 p.2.1 p.2.2 = some j18) (fun p => p.1) (K, (0 : Int), x7) h ?_
    clear h
    rintro ⟨k, x21, x22⟩ h
    replace h : zxn K a0 x6 k x21 x22 = some j18 := h
    show AW _ _ (⟨[(1, (vp 1 0)), (4, (.v (.one (.arr 15)))), (15, (vc z2)), (16, z6), (17, (vI x6)), (21, z10), (22, z9), (23, (vI x21))], [(1, (.box [z7, (cI a0.Kind), (.c z2), (.c z4)])), (15, (oA 1 (csI .i64) x22))]⟩ : St) _
    obtain _ | k := k
    ·rw [zxn] at h; cases h
    rw [zxn] at h
    refine AW.sA ⟨[(1, (vp 1 0)), (4, (.v (.one (.arr 15)))), (15, (vc z2)), (16, z6), (17, (vI x6)), (21, z10), (22, z9), (23, (vI x21)), (24, (vB (decide (x21 < (z1.length : Int)))))], [(1, (.box [z7, (cI a0.Kind), (.c z2), (.c z4)])), (15, (oA 1 (csI .i64) x22))]⟩ (Tt ∧ Tt) [] [1, 4, 15, 16, 17, 21, 22, 23, 24] [1, 15] ⟨tr, tr⟩ ?_
    refine AW.seq ?_
    rcases zqc h with ⟨b23, h⟩ | ⟨b23, h⟩
    ·refine AW.cond_t rfl b23 ?_
     refine AW.skip ?_
     refine zqa ?_
     refine AW.seq ?_
     refine AW.block ?_
     refine AW.seq ?_
     obtain ⟨c24, h⟩ := zqn h
     refine AW.tC ((0 ≤ x21 ∧ x21 < (z1.length : Int)) ∧ Tt ∧ T2 Tt) [.no, .no, .box 40] [1, 4, 8, 15, 16, 17, 21, 22, 23] [1, 15, 40] ⟨c24, tr, tr, tr, tr⟩ ?_
     obtain ⟨c25, h⟩ := zqn h
     let z16 := z1.getD x21.toNat default
     let z5 := [z16.At]
     refine AW.rA ⟨[(1, (vp 1 0)), (4, (.v (.one (.arr 42)))), (15, (vc z2)), (16, z6), (17, (vI x6)), (21, z10), (22, z9), (23, (vI x21))], [(1, (.box [z7, (cI a0.Kind), (.c z2), (.c z4)])), (42, (oA 1 (csI .i64) (x22 ++ z5)))]⟩ (Tt ∧ T2 ((z5.length = 1 ∧ (((.int .i64 (z16.At)) : C) = (.int .i64 (z16.At)) ∧ Tt) ∧ Tt) ∧ ((x22 ++ z5).length = x22.length + z5.length ∧ AppOb (x22.length) (z5.length) 1 (gl (csI .i64) x22) (gl (csI .i64) z5) (gl (csI .i64) (x22 ++ z5)) ∧ Tt ∧ (x22.length + z5.length) * 8 ≤ 140737488355328) ∧ Tt ∧ Tt)) [.no, .no, .no, .objD 41 z5.length (gl (csI .i64) z5), .objD 42 (x22 ++ z5).length (gl (csI .i64) (x22 ++ z5))] [1, 4, 15, 16, 17, 21, 22, 23] [1, 42] ⟨tr, tr, tr, ⟨rfl, ⟨⟨rfl, tr⟩, tr⟩⟩, ⟨List.length_append, zx9, tr, c25⟩, tr, tr⟩ ?_
     refine zqr ?_
     refine zqa ?_
     let z20 := IntKind.i64.wrap (x21 + (1 : Int))
     refine AW.rA ⟨[(1, (vp 1 0)), (4, (.v (.one (.arr 42)))), (15, (vc z2)), (16, z6), (17, (vI x6)), (21, z10), (22, z9), (23, (vI z20))], [(1, (.box [z7, (cI a0.Kind), (.c z2), (.c z4)])), (42, (oA 1 (csI .i64) (x22 ++ z5)))]⟩ (T2 Tt) [] [1, 4, 15, 16, 17, 21, 22, 23] [1, 42] ⟨tr, tr, tr⟩ ?_
     exact zqu (k, z20, (x22 ++ z5)) h (Nat.lt_succ_self k) (Sub.trans (Sub.swap 15 42 _ (by kernel_rfl) (by kernel_rfl)) (Sub.keep [1, 4, 15, 16, 17, 21, 22, 23] [1, 15] (by kernel_rfl) (by kernel_rfl)))
    ·refine AW.cond_f rfl b23 ?_
     refine AW.exit ?_
     refine zwc ?_
     refine zwd ?_
     refine zq4 ?_
     replace h := zqd h
     subst h
     exact ⟨rfl, Sub.keep [1, 4, 15, 16, 17] [1, 15] (by kernel_rfl) (by kernel_rfl)⟩
   refine zqr ?_
   refine zqa ?_
   let z18 := IntKind.i64.wrap (x6 + (1 : Int))
   refine AW.rA ⟨[(1, (vp 1 0)), (4, (.v (.one (.arr 15)))), (15, (vc z2)), (16, z6), (17, (vI z18))], [(1, (.box [z7, (cI a0.Kind), (.c z2), (.c z4)])), (15, (oA 1 (csI .i64) j18))]⟩ (T2 Tt) [] [1, 4, 15, 16, 17] [1, 15] ⟨tr, tr, tr⟩ ?_
   exact zqu (k, z18, j18) h (Nat.lt_succ_self k) (Sub.keep [1, 4, 15, 16, 17] [1, 15] (by kernel_rfl) (by kernel_rfl))
  ·refine AW.cond_f rfl b8 ?_
   refine AW.exit ?_
   refine zwc ?_
   refine zwd ?_
   refine zq4 ?_
   refine zqa ?_
   refine AW.seq ?_
   let z8 := vI (a0.Roots.length : Int)
   refine AW.sA ⟨[(4, (.v (.one (.arr 15)))), (35, (vc z4)), (36, z8), (37, z17)], [(15, z13)]⟩ (T4 Tt) [] [4, 35, 36, 37] [15] ⟨tr, tr, tr, tr, tr⟩ ?_
   refine AW.block ?_
   refine AW.loopQ (σ := Nat × Int × (List Int)) (fun p => ⟨[(4, (.v (.one (.arr 15)))), (35, (vc z4)), (36, z8), (37, (vI p.2.1))], [(15, (oA 1 (csI .i64) p.2.2))]⟩) (fun p => zxy K a0 p.1 p.2.1 p.2.2 = some o) (fun p => p.1) (K, (0 : Int), x7) h ?_
   clear h
   rintro ⟨k, x28, x29⟩ h
   replace h : zxy K a0 k x28 x29 = some o := h
   show AW _ _ (⟨[(4, (.v (.one (.arr 15)))), (35, (vc z4)), (36, z8), (37, (vI x28))], [(15, (oA 1 (csI .i64) x29))]⟩ : St) _
   obtain _ | k := k
   ·rw [zxy] at h; cases h
   rw [zxy] at h
   refine AW.sA ⟨[(4, (.v (.one (.arr 15)))), (35, (vc z4)), (36, z8), (37, (vI x28)), (38, (vB (decide (x28 < (a0.Roots.length : Int)))))], [(15, (oA 1 (csI .i64) x29))]⟩ (Tt ∧ Tt) [] [4, 35, 36, 37, 38] [15] ⟨tr, tr⟩ ?_
   refine AW.seq ?_
   rcases zqc h with ⟨b30, h⟩ | ⟨b30, h⟩
   ·refine AW.cond_t rfl b30 ?_
    refine AW.skip ?_
    refine zqa ?_
    refine AW.seq ?_
    refine AW.block ?_
    refine AW.seq ?_
    obtain ⟨c31, h⟩ := zqn h
    refine AW.tC ((0 ≤ x28 ∧ x28 < (a0.Roots.length : Int)) ∧ Tt ∧ T2 Tt) [.no, .no, .box 49] [4, 10, 35, 36, 37] [15, 49] ⟨c31, tr, tr, tr, tr⟩ ?_
    obtain ⟨c32, h⟩ := zqn h
    let z12 := a0.Roots.getD x28.toNat default
    let z3 := [z12.At]
    refine AW.rA ⟨[(4, (.v (.one (.arr 51)))), (35, (vc z4)), (36, z8), (37, (vI x28))], [(51, (oA 1 (csI .i64) (x29 ++ z3)))]⟩ (Tt ∧ T2 ((z3.length = 1 ∧ (((.int .i64 (z12.At)) : C) = (.int .i64 (z12.At)) ∧ Tt) ∧ Tt) ∧ ((x29 ++ z3).length = x29.length + z3.length ∧ AppOb (x29.length) (z3.length) 1 (gl (csI .i64) x29) (gl (csI .i64) z3) (gl (csI .i64) (x29 ++ z3)) ∧ Tt ∧ (x29.length + z3.length) * 8 ≤ 140737488355328) ∧ Tt ∧ Tt)) [.no, .no, .no, .objD 50 z3.length (gl (csI .i64) z3), .objD 51 (x29 ++ z3).length (gl (csI .i64) (x29 ++ z3))] [4, 35, 36, 37] [51] ⟨tr, tr, tr, ⟨rfl, ⟨⟨rfl, tr⟩, tr⟩⟩, ⟨List.length_append, zx9, tr, c32⟩, tr, tr⟩ ?_
    refine zqr ?_
    refine zqa ?_
    let z19 := IntKind.i64.wrap (x28 + (1 : Int))
    refine AW.rA ⟨[(4, (.v (.one (.arr 51)))), (35, (vc z4)), (36, z8), (37, (vI z19))], [(51, (oA 1 (csI .i64) (x29 ++ z3)))]⟩ (T2 Tt) [] [4, 35, 36, 37] [51] ⟨tr, tr, tr⟩ ?_
    exact zqu (k, z19, (x29 ++ z3)) h (Nat.lt_succ_self k) (Sub.trans (Sub.swap 15 51 _ (by kernel_rfl) (by kernel_rfl)) (Sub.keep [4, 35, 36, 37] [15] (by kernel_rfl) (by kernel_rfl)))
   ·refine AW.cond_f rfl b30 ?_
    refine AW.exit ?_
    refine zwc ?_
    refine zwd ?_
    refine zq4 ?_
    refine zqa ?_
    refine AW.seq ?_
    obtain ⟨v33, e34, h⟩ := zqb h
    obtain ⟨c35, h⟩ := zqn h
    let z11 := sl 1 (csI .i64) v33
    let z14 := sl 1 (csI .i64) x29
    refine AW.tC (Tt ∧ ((((z14 : C) = z14 ∧ v33.length = x29.length ∧ 1 = 1 ∧ ∀ i j, i < x29.length → j < 1 → isSeq (gl (csI .i64) v33 i j) = isSeq (gl (csI .i64) x29 i j)) ∧ Tt) ∧ MutOK Tryz.prog 19 [(.one (.mu z14 z11))] []) ∧ Tt) [.no, .callM [(.one (.mu z14 z11))] [] [] none] [4] [15] ⟨tr, ⟨⟨⟨rfl, c35, rfl, gl_seq sqI⟩, tr⟩, ok_slices_Sort_int64_int64 K x29 v33 e34⟩, tr⟩ ?_
    refine AW.seq ?_
    obtain ⟨v36, e37, h⟩ := zqb h
    refine AW.tA ⟨[(2, (vL 52 1 (csI .i64) v36)), (3, (vB true))], [(52, (oL 1 (csI .i64) v36))]⟩ (Tt ∧ (((Eqc z11) ∧ Tt) ∧ MutOK Tryz.prog 20 [(.one (.mv z11))] [.one (sl 1 (csI .i64) v36)]) ∧ T2 Tt) [.no, .callM [(.one (.mv z11))] [.one (sl 1 (csI .i64) v36)] [[.lst 52]] none] [2, 3] [52] ⟨tr, ⟨⟨rfl, tr⟩, ok_slices_Compact_int64_int64 K v33 v36 e37⟩, tr, tr, tr⟩ ?_
    refine AW.ret ?_
    replace h := zqd h
    subst h
    exact ⟨.inr rfl, zqe [(.one (xL 52 1 (csI .i64) v36)), (.one (.c (.bool true)))] (by kernel_rfl) ⟨rfl, ⟨rfl, tr⟩, tr⟩ (of_decide_eq_true (by kernel_rfl))⟩

/-! impl.hasTime -/
def zyy (K : Nat) (a0 : Clip) (a1 : Int) : Option (Bool) :=
 (zw4 K a0).bind fun v1 => (ite2 (v1) (ite2 ((decide (a1 ≥ (0 : Int)))) (some (decide (a1 ≤ a0.Length))) (some false)) (some false)).bind fun j5 => some j5

theorem ok_impl_hasTime (K : Nat) (a0 : Clip) (a1 : Int) (o : (Bool)) (h : zyy K a0 a1 = some o) : CallOK Tryz.prog 25 [.agg (zqp a0), .one (.int .i64 a1)] [.one (.bool o)] := by
 refine zqh Tryz.func25 rfl (by kernel_rfl) (Nat.le_of_ble_eq_true (by kernel_rfl)) ?_
 intro w0
 unfold zyy at h
 let z1 := sl 1 (csL 5 zqo) a0.Tracks
 let z2 := sl 4 zqg a0.Roots
 refine AW.sA ⟨[(1, (vI a1)), (2, (vp 1 0))], [(1, (.box [(cI a0.Length), (cI a0.Kind), (.c z1), (.c z2)]))]⟩ (T2 Tt) [.box 1] [1, 2] [1] ⟨tr, tr, tr⟩ ?_
 refine AW.seq ?_
 obtain ⟨v1, e2, h⟩ := zqb h
 obtain ⟨j5, e6, h⟩ := zqb h
 refine AW.join1 (s2 := ⟨[(4, (vB j5))], []⟩) ?_ ?_
 ·rcases zqc e6 with ⟨b3, e6⟩ | ⟨b3, e6⟩
  ·rcases zqc e6 with ⟨b4, e6⟩ | ⟨b4, e6⟩
   ·replace e6 := zqd e6
    subst e6
    exact AW.rA ⟨[(4, (vB (decide (a1 ≤ a0.Length))))], []⟩ (Tt ∧ ((((eI a0.Length) ∧ (eI a0.Kind) ∧ (Eqc z1) ∧ (Eqc z2) ∧ Tt) ∧ Tt) ∧ CallOK Tryz.prog 7 [.agg (zqp a0)] [.one (.bool v1)]) ∧ (Tt ∧ v1 = true) ∧ Tt ∧ T2 ((Tt ∧ (decide (a1 ≥ (0 : Int))) = true) ∧ T2 (T4 Tt))) [.no, .call [.agg (zqp a0)] [.one (.bool v1)] [[.view]], .dec true, .no, .no, .no, .dec true] [4] [] ⟨tr, ⟨⟨⟨rfl, rfl, rfl, rfl, tr⟩, tr⟩, zq0 K a0 v1 e2⟩, ⟨tr, b3⟩, tr, tr, tr, ⟨tr, b4⟩, tr, tr, tr, tr, tr, tr, tr⟩ ⟨rfl, rfl⟩
   ·replace e6 := zqd e6
    subst e6
    exact AW.rA ⟨[(4, (vB false))], []⟩ (Tt ∧ ((((eI a0.Length) ∧ (eI a0.Kind) ∧ (Eqc z1) ∧ (Eqc z2) ∧ Tt) ∧ Tt) ∧ CallOK Tryz.prog 7 [.agg (zqp a0)] [.one (.bool v1)]) ∧ (Tt ∧ v1 = true) ∧ Tt ∧ T2 ((Tt ∧ (decide (a1 ≥ (0 : Int))) = false) ∧ T2 (T4 Tt))) [.no, .call [.agg (zqp a0)] [.one (.bool v1)] [[.view]], .dec true, .no, .no, .no, .dec false] [4] [] ⟨tr, ⟨⟨⟨rfl, rfl, rfl, rfl, tr⟩, tr⟩, zq0 K a0 v1 e2⟩, ⟨tr, b3⟩, tr, tr, tr, ⟨tr, b4⟩, tr, tr, tr, tr, tr, tr, tr⟩ ⟨rfl, rfl⟩
  ·replace e6 := zqd e6
   subst e6
   exact AW.rA ⟨[(4, (vB false))], []⟩ (Tt ∧ ((((eI a0.Length) ∧ (eI a0.Kind) ∧ (Eqc z1) ∧ (Eqc z2) ∧ Tt) ∧ Tt) ∧ CallOK Tryz.prog 7 [.agg (zqp a0)] [.one (.bool v1)]) ∧ (Tt ∧ v1 = false) ∧ T2 (T4 (T4 Tt))) [.no, .call [.agg (zqp a0)] [.one (.bool v1)] [[.view]], .dec false] [4] [] ⟨tr, ⟨⟨⟨rfl, rfl, rfl, rfl, tr⟩, tr⟩, zq0 K a0 v1 e2⟩, ⟨tr, b3⟩, tr, tr, tr, tr, tr, tr, tr, tr, tr, tr, tr⟩ ⟨rfl, rfl⟩
 refine zqa ?_
 refine AW.ret ?_
 replace h := zqd h
 subst h
 exact ⟨.inr rfl, zqe [(.one (.c (.bool j5)))] (by kernel_rfl) ⟨⟨rfl, tr⟩, tr⟩ (of_decide_eq_true (by kernel_rfl))⟩

/-! impl.rootTrack$2 -/
def zxw (_K : Nat) (a0 : RootKey) (a1 : Int) : Option (RootKey) :=
 some (RootKey.mk a1 a0.Place)

theorem zj1 (K : Nat) (a0 : RootKey) (a1 : Int) (o : (RootKey)) (h : zxw K a0 a1 = some o) : CallOK Tryz.prog 47 [.agg (zqg a0), .one (.int .i64 a1)] [.agg (zqg o)] := by
 refine zqh Tryz.func47 rfl (by kernel_rfl) (Nat.le_of_ble_eq_true (by kernel_rfl)) ?_
 intro w0
 unfold zxw at h
 refine AW.sC (T2 Tt) [.box 1, .box 2] [1, 2, 4] [1, 2] ⟨tr, tr, tr⟩ ?_
 refine AW.sC (Tt ∧ T2 Tt) [] [2, 4] [1, 2] ⟨tr, tr, tr, tr⟩ ?_
 refine AW.sA ⟨[(4, (vp 2 0))], [(2, (.box [(cI a1), (cF a0.Place.X), (cF a0.Place.Y), (cF a0.Place.Z)]))]⟩ (T2 Tt) [] [4] [2] ⟨tr, tr, tr⟩ ?_
 refine AW.ret ?_
 replace h := zqd h
 subst h
 exact ⟨.inr rfl, zqe [(.agg [(cI a1), (cF a0.Place.X), (cF a0.Place.Y), (cF a0.Place.Z)])] (by kernel_rfl) ⟨⟨⟨rfl, tr⟩, ⟨rfl, tr⟩, ⟨rfl, tr⟩, ⟨rfl, tr⟩, tr⟩, tr⟩ (of_decide_eq_true (by kernel_rfl))⟩

/-! impl.share -/
def zvn (_K : Nat) (a0 : Int) (a1 : Int) (a2 : Int) : Option (F32) :=
 some ((Fl.ofInt .f32 (IntKind.i64.wrap (a1 - a0))).div (Fl.ofInt .f32 (IntKind.i64.wrap (a2 - a0))))

theorem zbk (K : Nat) (a0 : Int) (a1 : Int) (a2 : Int) (o : (F32)) (h : zvn K a0 a1 a2 = some o) : CallOK Tryz.prog 56 [.one (.int .i64 a0), .one (.int .i64 a1), .one (.int .i64 a2)] [.one (.flt .f32 o.bits)] := by
 refine zqh Tryz.func56 rfl (by kernel_rfl) (Nat.le_of_ble_eq_true (by kernel_rfl)) ?_
 intro w0
 unfold zvn at h
 refine AW.sC (Tt ∧ Tt) [] [0, 1, 2] [] ⟨tr, tr⟩ ?_
 let z1 := (Fl.ofInt .f32 (IntKind.i64.wrap (a1 - a0))).div (Fl.ofInt .f32 (IntKind.i64.wrap (a2 - a0)))
 refine AW.sA ⟨[(6, (vc (.flt .f32 z1.bits)))], []⟩ (T2 (T4 (T4 Tt))) [] [6] [] ⟨tr, tr, tr, tr, tr, tr, tr, tr, tr, tr, tr⟩ ?_
 refine AW.ret ?_
 replace h := zqd h
 subst h
 exact ⟨.inr rfl, zqe [(.one (cF z1))] (by kernel_rfl) ⟨⟨rfl, tr⟩, tr⟩ (of_decide_eq_true (by kernel_rfl))⟩

/-! impl.LessVectors -/
def zv2 (_K : Nat) (a0 : Vector) (a1 : Vector) : Option (Vector) :=
 some (Vector.mk (a0.X.sub a1.X) (a0.Y.sub a1.Y) (a0.Z.sub a1.Z))

theorem ok_impl_LessVectors (K : Nat) (a0 : Vector) (a1 : Vector) (o : (Vector)) (h : zv2 K a0 a1 = some o) : CallOK Tryz.prog 79 [.agg (zqs a0), .agg (zqs a1)] [.agg (zqs o)] := by
 refine zqh Tryz.func79 rfl (by kernel_rfl) (Nat.le_of_ble_eq_true (by kernel_rfl)) ?_
 intro w0
 unfold zv2 at h
 refine AW.sC (Tt ∧ T2 Tt) [.box 1, .box 2, .box 3] [2, 3, 4] [1, 2, 3] ⟨tr, tr, tr, tr⟩ ?_
 refine AW.sA ⟨[(4, (vp 3 0))], [(3, (.box [(cF (a0.X.sub a1.X)), (cF (a0.Y.sub a1.Y)), (cF (a0.Z.sub a1.Z))]))]⟩ (Tt ∧ T4 (T4 (T4 (T4 Tt)))) [] [4] [3] ⟨tr, tr, tr, tr, tr, tr, tr, tr, tr, tr, tr, tr, tr, tr, tr, tr, tr, tr⟩ ?_
 refine AW.ret ?_
 replace h := zqd h
 subst h
 exact ⟨.inr rfl, zqe [(.agg [(cF (a0.X.sub a1.X)), (cF (a0.Y.sub a1.Y)), (cF (a0.Z.sub a1.Z))])] (by kernel_rfl) ⟨⟨⟨rfl, tr⟩, ⟨rfl, tr⟩, ⟨rfl, tr⟩, tr⟩, tr⟩ (of_decide_eq_true (by kernel_rfl))⟩

/-! impl.ScaleVector -/
def zv0 (_K : Nat) (a0 : Vector) (a1 : F32) : Option (Vector) :=
 some (Vector.mk (a0.X.mul a1) (a0.Y.mul a1) (a0.Z.mul a1))

theorem ok_impl_ScaleVector (K : Nat) (a0 : Vector) (a1 : F32) (o : (Vector)) (h : zv0 K a0 a1 = some o) : CallOK Tryz.prog 78 [.agg (zqs a0), .one (.flt .f32 a1.bits)] [.agg (zqs o)] := by
 refine zqh Tryz.func78 rfl (by kernel_rfl) (Nat.le_of_ble_eq_true (by kernel_rfl)) ?_
 intro w0
 unfold zv0 at h
 refine AW.sC (T2 Tt) [.box 1, .box 2] [1, 2, 4] [1, 2] ⟨tr, tr, tr⟩ ?_
 refine AW.sA ⟨[(4, (vp 2 0))], [(2, (.box [(cF (a0.X.mul a1)), (cF (a0.Y.mul a1)), (cF (a0.Z.mul a1))]))]⟩ (T2 (T4 (T4 (T4 Tt)))) [] [4] [2] ⟨tr, tr, tr, tr, tr, tr, tr, tr, tr, tr, tr, tr, tr, tr, tr⟩ ?_
 refine AW.ret ?_
 replace h := zqd h
 subst h
 exact ⟨.inr rfl, zqe [(.agg [(cF (a0.X.mul a1)), (cF (a0.Y.mul a1)), (cF (a0.Z.mul a1))])] (by kernel_rfl) ⟨⟨⟨rfl, tr⟩, ⟨rfl, tr⟩, ⟨rfl, tr⟩, tr⟩, tr⟩ (of_decide_eq_true (by kernel_rfl))⟩

/-! impl.AddVectors -/
def zkc (_K : Nat) (a0 : Vector) (a1 : Vector) : Option (Vector) :=
 some (Vector.mk (a0.X.add a1.X) (a0.Y.add a1.Y) (a0.Z.add a1.Z))

theorem ok_impl_AddVectors (K : Nat) (a0 : Vector) (a1 : Vector) (o : (Vector)) (h : zkc K a0 a1 = some o) : CallOK Tryz.prog 77 [.agg (zqs a0), .agg (zqs a1)] [.agg (zqs o)] := by
 refine zqh Tryz.func77 rfl (by kernel_rfl) (Nat.le_of_ble_eq_true (by kernel_rfl)) ?_
 intro w0
 unfold zkc at h
 refine AW.sC (Tt ∧ T2 Tt) [.box 1, .box 2, .box 3] [2, 3, 4] [1, 2, 3] ⟨tr, tr, tr, tr⟩ ?_
 refine AW.sA ⟨[(4, (vp 3 0))], [(3, (.box [(cF (a0.X.add a1.X)), (cF (a0.Y.add a1.Y)), (cF (a0.Z.add a1.Z))]))]⟩ (Tt ∧ T4 (T4 (T4 (T4 Tt)))) [] [4] [3] ⟨tr, tr, tr, tr, tr, tr, tr, tr, tr, tr, tr, tr, tr, tr, tr, tr, tr, tr⟩ ?_
 refine AW.ret ?_
 replace h := zqd h
 subst h
 exact ⟨.inr rfl, zqe [(.agg [(cF (a0.X.add a1.X)), (cF (a0.Y.add a1.Y)), (cF (a0.Z.add a1.Z))])] (by kernel_rfl) ⟨⟨⟨rfl, tr⟩, ⟨rfl, tr⟩, ⟨rfl, tr⟩, tr⟩, tr⟩ (of_decide_eq_true (by kernel_rfl))⟩

/-! impl.BetweenVectors -/
def zx8 (K : Nat) (a0 : Vector) (a1 : Vector) (a2 : F32) : Option (Vector) :=
 (zv2 K a1 a0).bind fun v1 => (zv0 K v1 a2).bind fun v3 => (zkc K a0 v3).bind fun v5 => some v5

theorem ok_impl_BetweenVectors (K : Nat) (a0 : Vector) (a1 : Vector) (a2 : F32) (o : (Vector)) (h : zx8 K a0 a1 a2 = some o) : CallOK Tryz.prog 49 [.agg (zqs a0), .agg (zqs a1), .one (.flt .f32 a2.bits)] [.agg (zqs o)] := by
 refine zqh Tryz.func49 rfl (by kernel_rfl) (Nat.le_of_ble_eq_true (by kernel_rfl)) ?_
 intro w0
 unfold zx8 at h
 let z2 := cF (default : F32)
 refine AW.sA ⟨[(2, (vc (.flt .f32 a2.bits))), (3, (vp 1 0)), (4, (vp 2 0)), (6, (vp 3 0))], [(1, (.box [(cF a0.X), (cF a0.Y), (cF a0.Z)])), (2, (.box [(cF a1.X), (cF a1.Y), (cF a1.Z)])), (3, (.box [z2, z2, z2]))]⟩ (Tt ∧ T2 Tt) [.box 1, .box 2, .box 3] [2, 3, 4, 6] [1, 2, 3] ⟨tr, tr, tr, tr⟩ ?_
 refine AW.seq ?_
 obtain ⟨v1, e2, h⟩ := zqb h
 obtain ⟨v3, e4, h⟩ := zqb h
 obtain ⟨v5, e6, h⟩ := zqb h
 let z1 := (eF a0.X) ∧ (eF a0.Y) ∧ (eF a0.Z) ∧ Tt
 let z3 : List CT := [.agg (zqs v1), .one (.flt .f32 a2.bits)]
 let z4 := zqs a0
 let z5 := zqs v3
 refine AW.dA ⟨[(6, (vp 3 0))], [(3, (.box [(cF v5.X), (cF v5.Y), (cF v5.Z)]))]⟩ ((Tt ∧ T2 (((((eF a1.X) ∧ (eF a1.Y) ∧ (eF a1.Z) ∧ Tt) ∧ z1 ∧ Tt) ∧ CallOK Tryz.prog 79 [.agg (zqs a1), .agg z4] [.agg (zqs v1)]) ∧ Tt ∧ ((((eF v1.X) ∧ (eF v1.Y) ∧ (eF v1.Z) ∧ Tt) ∧ (eF a2) ∧ Tt) ∧ CallOK Tryz.prog 78 z3 [.agg z5]) ∧ ((z1 ∧ ((eF v3.X) ∧ (eF v3.Y) ∧ (eF v3.Z) ∧ Tt) ∧ Tt) ∧ CallOK Tryz.prog 77 [.agg z4, .agg z5] [.agg (zqs v5)]) ∧ Tt)) ∧ (Tt ∧ Tt)) 7 [.no, .no, .no, .call [.agg (zqs a1), .agg z4] [.agg (zqs v1)] [[.view, .view, .view]], .no, .call z3 [.agg z5] [[.view, .view, .view]], .call [.agg z4, .agg z5] [.agg (zqs v5)] [[.view, .view, .view]]] [6] [3] ⟨⟨tr, tr, tr, ⟨⟨⟨rfl, rfl, rfl, tr⟩, ⟨rfl, rfl, rfl, tr⟩, tr⟩, ok_impl_LessVectors K a1 a0 v1 e2⟩, tr, ⟨⟨⟨rfl, rfl, rfl, tr⟩, rfl, tr⟩, ok_impl_ScaleVector K v1 a2 v3 e4⟩, ⟨⟨⟨rfl, rfl, rfl, tr⟩, ⟨rfl, rfl, rfl, tr⟩, tr⟩, ok_impl_AddVectors K a0 v3 v5 e6⟩, tr⟩, ⟨tr, tr⟩⟩ ?_
 refine zqa ?_
 refine AW.ret ?_
 replace h := zqd h
 subst h
 exact ⟨.inr rfl, zqe [(.agg [(cF v5.X), (cF v5.Y), (cF v5.Z)])] (by kernel_rfl) ⟨⟨⟨rfl, tr⟩, ⟨rfl, tr⟩, ⟨rfl, tr⟩, tr⟩, tr⟩ (of_decide_eq_true (by kernel_rfl))⟩

end
end Go.Fw
