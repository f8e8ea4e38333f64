/- Functions of the program: what each computes, and that it computes just that. -/
import Derived.Test.YtgejobicepefkaaFwTy
import Derived.Test.YtgejobicepefkaaFwH
import Derived.Test.YtgejobicepefkaaFwV
import Derived.Test.YtgejobicepefkaaFwMO1
import Derived.Test.YtgejobicepefkaaFwAB
import Derived.Test.YtgejobicepefkaaProg
import Derived.KernelRfl
namespace Go.Fw
open Go Go.Proofs
noncomputable section
set_option maxRecDepth 10000

/-! impl.wideAngle -/
def impl_wideAngle_l2 (K : Nat) (a0 : F64) (a1 : F64) (v1 : (F64)) (v3 : (F64)) (x8 : F64) : Nat → F64 → Int → Option (F64)
  | 0, _, _ => none
  | k + 1, x15, x16 => ite2 ((decide (x16 ≥ (1 : Int)))) (impl_wideAngle_l2 K a0 a1 v1 v3 x8 k (((Fl.mk (k := .f64) 4607182418800017408 (by decide)).div (Fl.ofInt .f64 x16)).sub ((x8.mul x8).mul x15)) (IntKind.i64.wrap (x16 - (2 : Int)))) (ite2 ((v1.gt v3)) (ite2 ((a1.lt' (Fl.mk (k := .f64) 0 (by decide)))) (ite2 ((a0.lt' (Fl.mk (k := .f64) 0 (by decide)))) (some (((Fl.mk (k := .f64) 4602678819172646912 (by decide)).sub ((Fl.mk (k := .f64) 4598175219545276416 (by decide)).sub (((Fl.mk (k := .f64) 4620693217682128896 (by decide)).mul (x8.mul x15)).div (Fl.mk (k := .f64) 4618760256179416344 (by decide))))).neg)) (some ((Fl.mk (k := .f64) 4602678819172646912 (by decide)).sub ((Fl.mk (k := .f64) 4598175219545276416 (by decide)).sub (((Fl.mk (k := .f64) 4620693217682128896 (by decide)).mul (x8.mul x15)).div (Fl.mk (k := .f64) 4618760256179416344 (by decide))))))) (ite2 ((a0.lt' (Fl.mk (k := .f64) 0 (by decide)))) (some (((Fl.mk (k := .f64) 4598175219545276416 (by decide)).sub (((Fl.mk (k := .f64) 4620693217682128896 (by decide)).mul (x8.mul x15)).div (Fl.mk (k := .f64) 4618760256179416344 (by decide)))).neg)) (some ((Fl.mk (k := .f64) 4598175219545276416 (by decide)).sub (((Fl.mk (k := .f64) 4620693217682128896 (by decide)).mul (x8.mul x15)).div (Fl.mk (k := .f64) 4618760256179416344 (by decide))))))) (ite2 ((a1.lt' (Fl.mk (k := .f64) 0 (by decide)))) (ite2 ((a0.lt' (Fl.mk (k := .f64) 0 (by decide)))) (some (((Fl.mk (k := .f64) 4602678819172646912 (by decide)).sub (((Fl.mk (k := .f64) 4620693217682128896 (by decide)).mul (x8.mul x15)).div (Fl.mk (k := .f64) 4618760256179416344 (by decide)))).neg)) (some ((Fl.mk (k := .f64) 4602678819172646912 (by decide)).sub (((Fl.mk (k := .f64) 4620693217682128896 (by decide)).mul (x8.mul x15)).div (Fl.mk (k := .f64) 4618760256179416344 (by decide)))))) (ite2 ((a0.lt' (Fl.mk (k := .f64) 0 (by decide)))) (some ((((Fl.mk (k := .f64) 4620693217682128896 (by decide)).mul (x8.mul x15)).div (Fl.mk (k := .f64) 4618760256179416344 (by decide))).neg)) (some (((Fl.mk (k := .f64) 4620693217682128896 (by decide)).mul (x8.mul x15)).div (Fl.mk (k := .f64) 4618760256179416344 (by decide)))))))

def impl_wideAngle_l1 (K : Nat) (a0 : F64) (a1 : F64) (v1 : (F64)) (v3 : (F64)) : Nat → F64 → Int → Option (F64)
  | 0, _, _ => none
  | k + 1, x8, x9 => ite2 ((decide (x9 < (3 : Int)))) ((math_Sqrt K ((Fl.mk (k := .f64) 4607182418800017408 (by decide)).add (x8.mul x8))).bind fun v11 => impl_wideAngle_l1 K a0 a1 v1 v3 k (x8.div ((Fl.mk (k := .f64) 4607182418800017408 (by decide)).add v11)) (IntKind.i64.wrap (x9 + (1 : Int)))) (impl_wideAngle_l2 K a0 a1 v1 v3 x8 K (Fl.mk (k := .f64) 0 (by decide)) (15 : Int))

def impl_wideAngle_l4 (K : Nat) (a0 : F64) (a1 : F64) (v1 : (F64)) (v3 : (F64)) (x27 : F64) : Nat → F64 → Int → Option (F64)
  | 0, _, _ => none
  | k + 1, x34, x35 => ite2 ((decide (x35 ≥ (1 : Int)))) (impl_wideAngle_l4 K a0 a1 v1 v3 x27 k (((Fl.mk (k := .f64) 4607182418800017408 (by decide)).div (Fl.ofInt .f64 x35)).sub ((x27.mul x27).mul x34)) (IntKind.i64.wrap (x35 - (2 : Int)))) (ite2 ((v1.gt v3)) (ite2 ((a1.lt' (Fl.mk (k := .f64) 0 (by decide)))) (ite2 ((a0.lt' (Fl.mk (k := .f64) 0 (by decide)))) (some (((Fl.mk (k := .f64) 4602678819172646912 (by decide)).sub ((Fl.mk (k := .f64) 4598175219545276416 (by decide)).sub (((Fl.mk (k := .f64) 4620693217682128896 (by decide)).mul (x27.mul x34)).div (Fl.mk (k := .f64) 4618760256179416344 (by decide))))).neg)) (some ((Fl.mk (k := .f64) 4602678819172646912 (by decide)).sub ((Fl.mk (k := .f64) 4598175219545276416 (by decide)).sub (((Fl.mk (k := .f64) 4620693217682128896 (by decide)).mul (x27.mul x34)).div (Fl.mk (k := .f64) 4618760256179416344 (by decide))))))) (ite2 ((a0.lt' (Fl.mk (k := .f64) 0 (by decide)))) (some (((Fl.mk (k := .f64) 4598175219545276416 (by decide)).sub (((Fl.mk (k := .f64) 4620693217682128896 (by decide)).mul (x27.mul x34)).div (Fl.mk (k := .f64) 4618760256179416344 (by decide)))).neg)) (some ((Fl.mk (k := .f64) 4598175219545276416 (by decide)).sub (((Fl.mk (k := .f64) 4620693217682128896 (by decide)).mul (x27.mul x34)).div (Fl.mk (k := .f64) 4618760256179416344 (by decide))))))) (ite2 ((a1.lt' (Fl.mk (k := .f64) 0 (by decide)))) (ite2 ((a0.lt' (Fl.mk (k := .f64) 0 (by decide)))) (some (((Fl.mk (k := .f64) 4602678819172646912 (by decide)).sub (((Fl.mk (k := .f64) 4620693217682128896 (by decide)).mul (x27.mul x34)).div (Fl.mk (k := .f64) 4618760256179416344 (by decide)))).neg)) (some ((Fl.mk (k := .f64) 4602678819172646912 (by decide)).sub (((Fl.mk (k := .f64) 4620693217682128896 (by decide)).mul (x27.mul x34)).div (Fl.mk (k := .f64) 4618760256179416344 (by decide)))))) (ite2 ((a0.lt' (Fl.mk (k := .f64) 0 (by decide)))) (some ((((Fl.mk (k := .f64) 4620693217682128896 (by decide)).mul (x27.mul x34)).div (Fl.mk (k := .f64) 4618760256179416344 (by decide))).neg)) (some (((Fl.mk (k := .f64) 4620693217682128896 (by decide)).mul (x27.mul x34)).div (Fl.mk (k := .f64) 4618760256179416344 (by decide)))))))

def impl_wideAngle_l3 (K : Nat) (a0 : F64) (a1 : F64) (v1 : (F64)) (v3 : (F64)) : Nat → F64 → Int → Option (F64)
  | 0, _, _ => none
  | k + 1, x27, x28 => ite2 ((decide (x28 < (3 : Int)))) ((math_Sqrt K ((Fl.mk (k := .f64) 4607182418800017408 (by decide)).add (x27.mul x27))).bind fun v30 => impl_wideAngle_l3 K a0 a1 v1 v3 k (x27.div ((Fl.mk (k := .f64) 4607182418800017408 (by decide)).add v30)) (IntKind.i64.wrap (x28 + (1 : Int)))) (impl_wideAngle_l4 K a0 a1 v1 v3 x27 K (Fl.mk (k := .f64) 0 (by decide)) (15 : Int))

def impl_wideAngle (K : Nat) (a0 : F64) (a1 : F64) : Option (F64) :=
  (math_Abs K a0).bind fun v1 => (math_Abs K a1).bind fun v3 => ite2 ((v1.gt v3)) (impl_wideAngle_l1 K a0 a1 v1 v3 K (v3.div v1) (0 : Int)) (impl_wideAngle_l3 K a0 a1 v1 v3 K (v1.div v3) (0 : Int))

theorem ok_impl_wideAngle (K : Nat) (a0 : F64) (a1 : F64) (o : (F64)) (h : impl_wideAngle K a0 a1 = some o) : CallOK Try.prog 192 [.one (.flt .f64 a0.bits), .one (.flt .f64 a1.bits)] [.one (.flt .f64 o.bits)] := by
  refine callOK_of_AW Try.func192 rfl (by kernel_rfl) (Nat.le_of_ble_eq_true (by kernel_rfl)) ?_
  intro w0
  unfold impl_wideAngle at h
  refine AW.seq ?_
  refine AW.regionA [] [0, 1] [] (s' := ⟨[(0, (.v (.one (.c (.flt .f64 a0.bits))))), (1, (.v (.one (.c (.flt .f64 a1.bits)))))], []⟩) (ob := True ∧ True) (by kernel_rfl) ⟨trivial, trivial⟩ ?_
  refine thenQ_normal ?_
  refine AW.seq ?_
  obtain ⟨v1, e2, h⟩ := bind_some h
  obtain ⟨v3, e4, h⟩ := bind_some h
  refine AW.regionA [.no, .call [.one (.flt .f64 a0.bits)] [.one (.flt .f64 v1.bits)] [[.view]], .no, .call [.one (.flt .f64 a1.bits)] [.one (.flt .f64 v3.bits)] [[.view]]] [0, 1, 5, 6] [] (s' := ⟨[(0, (.v (.one (.c (.flt .f64 a0.bits))))), (1, (.v (.one (.c (.flt .f64 a1.bits))))), (5, (.v (.one (.c (.flt .f64 v1.bits))))), (6, (.v (.one (.c (.flt .f64 v3.bits)))))], []⟩) (ob := True ∧ (((((.flt .f64 a0.bits) : C) = (.flt .f64 a0.bits)) ∧ True) ∧ CallOK Try.prog 195 [.one (.flt .f64 a0.bits)] [.one (.flt .f64 v1.bits)]) ∧ True ∧ (((((.flt .f64 a1.bits) : C) = (.flt .f64 a1.bits)) ∧ True) ∧ CallOK Try.prog 195 [.one (.flt .f64 a1.bits)] [.one (.flt .f64 v3.bits)]) ∧ True ∧ True ∧ True) (by kernel_rfl) ⟨trivial, ⟨⟨rfl, trivial⟩, ok_math_Abs K a0 v1 e2⟩, trivial, ⟨⟨rfl, trivial⟩, ok_math_Abs K a1 v3 e4⟩, trivial, trivial, trivial⟩ ?_
  refine thenQ_normal ?_
  refine AW.seq ?_
  refine AW.regionA [] [0, 1, 5, 6, 7] [] (s' := ⟨[(0, (.v (.one (.c (.flt .f64 a0.bits))))), (1, (.v (.one (.c (.flt .f64 a1.bits))))), (5, (.v (.one (.c (.flt .f64 v1.bits))))), (6, (.v (.one (.c (.flt .f64 v3.bits))))), (7, (.v (.one (.c (.flt .f64 (v1.div v3).bits)))))], []⟩) (ob := True ∧ True ∧ True ∧ True ∧ True) (by kernel_rfl) ⟨trivial, trivial, trivial, trivial, trivial⟩ ?_
  refine thenQ_normal ?_
  refine AW.seq ?_
  refine AW.seq ?_
  refine AW.regionA [] [0, 1, 5, 6, 7, 21] [] (s' := ⟨[(0, (.v (.one (.c (.flt .f64 a0.bits))))), (1, (.v (.one (.c (.flt .f64 a1.bits))))), (5, (.v (.one (.c (.flt .f64 v1.bits))))), (6, (.v (.one (.c (.flt .f64 v3.bits))))), (7, (.v (.one (.c (.flt .f64 (v1.div v3).bits))))), (21, (.v (.one (.c (.bool (v1.gt v3))))))], []⟩) (ob := True ∧ True ∧ True ∧ True) (by kernel_rfl) ⟨trivial, trivial, trivial, trivial⟩ ?_
  refine thenQ_normal ?_
  rcases ite2_cases h with ⟨b5, h⟩ | ⟨b5, h⟩
  · refine AW.cond_t rfl b5 ?_
    refine AW.regionA [] [0, 1, 5, 6, 7] [] (s' := ⟨[(0, (.v (.one (.c (.flt .f64 a0.bits))))), (1, (.v (.one (.c (.flt .f64 a1.bits))))), (5, (.v (.one (.c (.flt .f64 v1.bits))))), (6, (.v (.one (.c (.flt .f64 v3.bits))))), (7, (.v (.one (.c (.flt .f64 (v3.div v1).bits)))))], []⟩) (ob := True ∧ True ∧ True ∧ True ∧ True) (by kernel_rfl) ⟨trivial, trivial, trivial, trivial, trivial⟩ ?_
    refine thenQ_normal ?_
    refine AW.seq ?_
    refine AW.seq ?_
    refine AW.regionA [] [0, 1, 5, 6, 7, 25] [] (s' := ⟨[(0, (.v (.one (.c (.flt .f64 a0.bits))))), (1, (.v (.one (.c (.flt .f64 a1.bits))))), (5, (.v (.one (.c (.flt .f64 v1.bits))))), (6, (.v (.one (.c (.flt .f64 v3.bits))))), (7, (.v (.one (.c (.flt .f64 (v3.div v1).bits))))), (25, (.v (.one (.c (.int .i64 (0 : Int))))))], []⟩) (ob := True ∧ True) (by kernel_rfl) ⟨trivial, trivial⟩ ?_
    refine thenQ_normal ?_
    refine AW.block ?_
    refine AW.loopQ (σ := Nat × F64 × Int) (fun p => ⟨[(0, (.v (.one (.c (.flt .f64 a0.bits))))), (1, (.v (.one (.c (.flt .f64 a1.bits))))), (5, (.v (.one (.c (.flt .f64 v1.bits))))), (6, (.v (.one (.c (.flt .f64 v3.bits))))), (7, (.v (.one (.c (.flt .f64 p.2.1.bits))))), (25, (.v (.one (.c (.int .i64 p.2.2)))))], []⟩) (fun p => impl_wideAngle_l1 K a0 a1 v1 v3 p.1 p.2.1 p.2.2 = some o) (fun p => p.1) (K, (v3.div v1), (0 : Int)) h ?_
    clear h
    rintro ⟨k, x8, x9⟩ h
    replace h : impl_wideAngle_l1 K a0 a1 v1 v3 k x8 x9 = some o := h
    show AW _ _ (⟨[(0, (.v (.one (.c (.flt .f64 a0.bits))))), (1, (.v (.one (.c (.flt .f64 a1.bits))))), (5, (.v (.one (.c (.flt .f64 v1.bits))))), (6, (.v (.one (.c (.flt .f64 v3.bits))))), (7, (.v (.one (.c (.flt .f64 x8.bits))))), (25, (.v (.one (.c (.int .i64 x9)))))], []⟩ : St) _
    obtain _ | k := k
    · rw [impl_wideAngle_l1] at h; cases h
    rw [impl_wideAngle_l1] at h
    refine AW.seq ?_
    refine AW.regionA [] [0, 1, 5, 6, 7, 25, 26] [] (s' := ⟨[(0, (.v (.one (.c (.flt .f64 a0.bits))))), (1, (.v (.one (.c (.flt .f64 a1.bits))))), (5, (.v (.one (.c (.flt .f64 v1.bits))))), (6, (.v (.one (.c (.flt .f64 v3.bits))))), (7, (.v (.one (.c (.flt .f64 x8.bits))))), (25, (.v (.one (.c (.int .i64 x9))))), (26, (.v (.one (.c (.bool (decide (x9 < (3 : Int))))))))], []⟩) (ob := True ∧ True) (by kernel_rfl) ⟨trivial, trivial⟩ ?_
    refine thenQ_normal ?_
    refine AW.seq ?_
    rcases ite2_cases h with ⟨b10, h⟩ | ⟨b10, h⟩
    · refine AW.cond_t rfl b10 ?_
      refine AW.skip ?_
      refine thenQ_normal ?_
      refine AW.seq ?_
      refine AW.block ?_
      obtain ⟨v11, e12, h⟩ := bind_some h
      refine AW.regionA [.no, .no, .no, .no, .no, .call [.one (.flt .f64 ((Fl.mk (k := .f64) 4607182418800017408 (by decide)).add (x8.mul x8)).bits)] [.one (.flt .f64 v11.bits)] [[.view]]] [0, 1, 5, 6, 7, 25] [] (s' := ⟨[(0, (.v (.one (.c (.flt .f64 a0.bits))))), (1, (.v (.one (.c (.flt .f64 a1.bits))))), (5, (.v (.one (.c (.flt .f64 v1.bits))))), (6, (.v (.one (.c (.flt .f64 v3.bits))))), (7, (.v (.one (.c (.flt .f64 (x8.div ((Fl.mk (k := .f64) 4607182418800017408 (by decide)).add v11)).bits))))), (25, (.v (.one (.c (.int .i64 x9)))))], []⟩) (ob := True ∧ True ∧ True ∧ True ∧ True ∧ (((((.flt .f64 ((Fl.mk (k := .f64) 4607182418800017408 (by decide)).add (x8.mul x8)).bits) : C) = (.flt .f64 ((Fl.mk (k := .f64) 4607182418800017408 (by decide)).add (x8.mul x8)).bits)) ∧ True) ∧ CallOK Try.prog 200 [.one (.flt .f64 ((Fl.mk (k := .f64) 4607182418800017408 (by decide)).add (x8.mul x8)).bits)] [.one (.flt .f64 v11.bits)]) ∧ True ∧ True ∧ True ∧ True) (by kernel_rfl) ⟨trivial, trivial, trivial, trivial, trivial, ⟨⟨rfl, trivial⟩, ok_math_Sqrt K ((Fl.mk (k := .f64) 4607182418800017408 (by decide)).add (x8.mul x8)) v11 e12⟩, trivial, trivial, trivial, trivial⟩ ?_
      refine blockQ_normal ?_
      refine thenQ_normal ?_
      refine AW.regionA [] [0, 1, 5, 6, 7, 25] [] (s' := ⟨[(0, (.v (.one (.c (.flt .f64 a0.bits))))), (1, (.v (.one (.c (.flt .f64 a1.bits))))), (5, (.v (.one (.c (.flt .f64 v1.bits))))), (6, (.v (.one (.c (.flt .f64 v3.bits))))), (7, (.v (.one (.c (.flt .f64 (x8.div ((Fl.mk (k := .f64) 4607182418800017408 (by decide)).add v11)).bits))))), (25, (.v (.one (.c (.int .i64 (IntKind.i64.wrap (x9 + (1 : Int))))))))], []⟩) (ob := True ∧ True ∧ True) (by kernel_rfl) ⟨trivial, trivial, trivial⟩ ?_
      exact loopQ_normal (k, (x8.div ((Fl.mk (k := .f64) 4607182418800017408 (by decide)).add v11)), (IntKind.i64.wrap (x9 + (1 : Int)))) h (Nat.lt_succ_self k) (Sub.keep [0, 1, 5, 6, 7, 25] [] (by kernel_rfl) (by kernel_rfl))
    · refine AW.cond_f rfl b10 ?_
      refine AW.exit ?_
      refine thenQ_exit ?_
      refine loopQ_exit ?_
      refine blockQ_exit ?_
      refine thenQ_normal ?_
      refine AW.seq ?_
      refine AW.regionA [] [0, 1, 5, 6, 7, 8] [] (s' := ⟨[(0, (.v (.one (.c (.flt .f64 a0.bits))))), (1, (.v (.one (.c (.flt .f64 a1.bits))))), (5, (.v (.one (.c (.flt .f64 v1.bits))))), (6, (.v (.one (.c (.flt .f64 v3.bits))))), (7, (.v (.one (.c (.flt .f64 x8.bits))))), (8, (.v (.one (.c (.flt .f64 (x8.mul x8).bits)))))], []⟩) (ob := True ∧ True ∧ True ∧ True ∧ True) (by kernel_rfl) ⟨trivial, trivial, trivial, trivial, trivial⟩ ?_
      refine thenQ_normal ?_
      refine AW.seq ?_
      refine AW.regionA [] [0, 1, 5, 6, 7, 8, 9] [] (s' := ⟨[(0, (.v (.one (.c (.flt .f64 a0.bits))))), (1, (.v (.one (.c (.flt .f64 a1.bits))))), (5, (.v (.one (.c (.flt .f64 v1.bits))))), (6, (.v (.one (.c (.flt .f64 v3.bits))))), (7, (.v (.one (.c (.flt .f64 x8.bits))))), (8, (.v (.one (.c (.flt .f64 (x8.mul x8).bits))))), (9, (.v (.one (.c (.flt .f64 (Fl.mk (k := .f64) 0 (by decide)).bits)))))], []⟩) (ob := True ∧ True) (by kernel_rfl) ⟨trivial, trivial⟩ ?_
      refine thenQ_normal ?_
      refine AW.seq ?_
      refine AW.seq ?_
      refine AW.regionA [] [0, 1, 5, 6, 7, 8, 9, 10] [] (s' := ⟨[(0, (.v (.one (.c (.flt .f64 a0.bits))))), (1, (.v (.one (.c (.flt .f64 a1.bits))))), (5, (.v (.one (.c (.flt .f64 v1.bits))))), (6, (.v (.one (.c (.flt .f64 v3.bits))))), (7, (.v (.one (.c (.flt .f64 x8.bits))))), (8, (.v (.one (.c (.flt .f64 (x8.mul x8).bits))))), (9, (.v (.one (.c (.flt .f64 (Fl.mk (k := .f64) 0 (by decide)).bits))))), (10, (.v (.one (.c (.int .i64 (15 : Int))))))], []⟩) (ob := True ∧ True) (by kernel_rfl) ⟨trivial, trivial⟩ ?_
      refine thenQ_normal ?_
      refine AW.block ?_
      refine AW.loopQ (σ := Nat × F64 × Int) (fun p => ⟨[(0, (.v (.one (.c (.flt .f64 a0.bits))))), (1, (.v (.one (.c (.flt .f64 a1.bits))))), (5, (.v (.one (.c (.flt .f64 v1.bits))))), (6, (.v (.one (.c (.flt .f64 v3.bits))))), (7, (.v (.one (.c (.flt .f64 x8.bits))))), (8, (.v (.one (.c (.flt .f64 (x8.mul x8).bits))))), (9, (.v (.one (.c (.flt .f64 p.2.1.bits))))), (10, (.v (.one (.c (.int .i64 p.2.2)))))], []⟩) (fun p => impl_wideAngle_l2 K a0 a1 v1 v3 x8 p.1 p.2.1 p.2.2 = some o) (fun p => p.1) (K, (Fl.mk (k := .f64) 0 (by decide)), (15 : Int)) h ?_
      clear h
      rintro ⟨k, x15, x16⟩ h
      replace h : impl_wideAngle_l2 K a0 a1 v1 v3 x8 k x15 x16 = some o := h
      show AW _ _ (⟨[(0, (.v (.one (.c (.flt .f64 a0.bits))))), (1, (.v (.one (.c (.flt .f64 a1.bits))))), (5, (.v (.one (.c (.flt .f64 v1.bits))))), (6, (.v (.one (.c (.flt .f64 v3.bits))))), (7, (.v (.one (.c (.flt .f64 x8.bits))))), (8, (.v (.one (.c (.flt .f64 (x8.mul x8).bits))))), (9, (.v (.one (.c (.flt .f64 x15.bits))))), (10, (.v (.one (.c (.int .i64 x16)))))], []⟩ : St) _
      obtain _ | k := k
      · rw [impl_wideAngle_l2] at h; cases h
      rw [impl_wideAngle_l2] at h
      refine AW.seq ?_
      refine AW.seq ?_
      refine AW.regionA [] [0, 1, 5, 6, 7, 8, 9, 10, 40] [] (s' := ⟨[(0, (.v (.one (.c (.flt .f64 a0.bits))))), (1, (.v (.one (.c (.flt .f64 a1.bits))))), (5, (.v (.one (.c (.flt .f64 v1.bits))))), (6, (.v (.one (.c (.flt .f64 v3.bits))))), (7, (.v (.one (.c (.flt .f64 x8.bits))))), (8, (.v (.one (.c (.flt .f64 (x8.mul x8).bits))))), (9, (.v (.one (.c (.flt .f64 x15.bits))))), (10, (.v (.one (.c (.int .i64 x16))))), (40, (.v (.one (.c (.bool (decide (x16 ≥ (1 : Int))))))))], []⟩) (ob := True ∧ True ∧ True) (by kernel_rfl) ⟨trivial, trivial, trivial⟩ ?_
      refine thenQ_normal ?_
      rcases ite2_cases h with ⟨b17, h⟩ | ⟨b17, h⟩
      · refine AW.cond_t rfl b17 ?_
        refine AW.skip ?_
        refine thenQ_normal ?_
        refine AW.seq ?_
        refine AW.block ?_
        refine AW.regionA [] [0, 1, 5, 6, 7, 8, 9, 10] [] (s' := ⟨[(0, (.v (.one (.c (.flt .f64 a0.bits))))), (1, (.v (.one (.c (.flt .f64 a1.bits))))), (5, (.v (.one (.c (.flt .f64 v1.bits))))), (6, (.v (.one (.c (.flt .f64 v3.bits))))), (7, (.v (.one (.c (.flt .f64 x8.bits))))), (8, (.v (.one (.c (.flt .f64 (x8.mul x8).bits))))), (9, (.v (.one (.c (.flt .f64 (((Fl.mk (k := .f64) 4607182418800017408 (by decide)).div (Fl.ofInt .f64 x16)).sub ((x8.mul x8).mul x15)).bits))))), (10, (.v (.one (.c (.int .i64 x16)))))], []⟩) (ob := True ∧ True ∧ True ∧ True ∧ True ∧ True ∧ True ∧ True ∧ True) (by kernel_rfl) ⟨trivial, trivial, trivial, trivial, trivial, trivial, trivial, trivial, trivial⟩ ?_
        refine blockQ_normal ?_
        refine thenQ_normal ?_
        refine AW.regionA [] [0, 1, 5, 6, 7, 8, 9, 10] [] (s' := ⟨[(0, (.v (.one (.c (.flt .f64 a0.bits))))), (1, (.v (.one (.c (.flt .f64 a1.bits))))), (5, (.v (.one (.c (.flt .f64 v1.bits))))), (6, (.v (.one (.c (.flt .f64 v3.bits))))), (7, (.v (.one (.c (.flt .f64 x8.bits))))), (8, (.v (.one (.c (.flt .f64 (x8.mul x8).bits))))), (9, (.v (.one (.c (.flt .f64 (((Fl.mk (k := .f64) 4607182418800017408 (by decide)).div (Fl.ofInt .f64 x16)).sub ((x8.mul x8).mul x15)).bits))))), (10, (.v (.one (.c (.int .i64 (IntKind.i64.wrap (x16 - (2 : Int))))))))], []⟩) (ob := True ∧ True ∧ True ∧ True) (by kernel_rfl) ⟨trivial, trivial, trivial, trivial⟩ ?_
        exact loopQ_normal (k, (((Fl.mk (k := .f64) 4607182418800017408 (by decide)).div (Fl.ofInt .f64 x16)).sub ((x8.mul x8).mul x15)), (IntKind.i64.wrap (x16 - (2 : Int)))) h (Nat.lt_succ_self k) (Sub.keep [0, 1, 5, 6, 7, 8, 9, 10] [] (by kernel_rfl) (by kernel_rfl))
      · refine AW.cond_f rfl b17 ?_
        refine AW.exit ?_
        refine thenQ_exit ?_
        refine loopQ_exit ?_
        refine blockQ_exit ?_
        refine thenQ_normal ?_
        refine AW.seq ?_
        refine AW.regionA [] [0, 1, 5, 6, 11] [] (s' := ⟨[(0, (.v (.one (.c (.flt .f64 a0.bits))))), (1, (.v (.one (.c (.flt .f64 a1.bits))))), (5, (.v (.one (.c (.flt .f64 v1.bits))))), (6, (.v (.one (.c (.flt .f64 v3.bits))))), (11, (.v (.one (.c (.flt .f64 (((Fl.mk (k := .f64) 4620693217682128896 (by decide)).mul (x8.mul x15)).div (Fl.mk (k := .f64) 4618760256179416344 (by decide))).bits)))))], []⟩) (ob := True ∧ True ∧ True ∧ True ∧ True ∧ True ∧ True) (by kernel_rfl) ⟨trivial, trivial, trivial, trivial, trivial, trivial, trivial⟩ ?_
        refine thenQ_normal ?_
        refine AW.seq ?_
        refine AW.seq ?_
        refine AW.regionA [] [0, 1, 11, 57] [] (s' := ⟨[(0, (.v (.one (.c (.flt .f64 a0.bits))))), (1, (.v (.one (.c (.flt .f64 a1.bits))))), (11, (.v (.one (.c (.flt .f64 (((Fl.mk (k := .f64) 4620693217682128896 (by decide)).mul (x8.mul x15)).div (Fl.mk (k := .f64) 4618760256179416344 (by decide))).bits))))), (57, (.v (.one (.c (.bool (v1.gt v3))))))], []⟩) (ob := True ∧ True ∧ True ∧ True) (by kernel_rfl) ⟨trivial, trivial, trivial, trivial⟩ ?_
        refine thenQ_normal ?_
        rcases ite2_cases h with ⟨b18, h⟩ | ⟨b18, h⟩
        · refine AW.cond_t rfl b18 ?_
          refine AW.regionA [] [0, 1, 11] [] (s' := ⟨[(0, (.v (.one (.c (.flt .f64 a0.bits))))), (1, (.v (.one (.c (.flt .f64 a1.bits))))), (11, (.v (.one (.c (.flt .f64 ((Fl.mk (k := .f64) 4598175219545276416 (by decide)).sub (((Fl.mk (k := .f64) 4620693217682128896 (by decide)).mul (x8.mul x15)).div (Fl.mk (k := .f64) 4618760256179416344 (by decide)))).bits)))))], []⟩) (ob := True ∧ True ∧ True ∧ True) (by kernel_rfl) ⟨trivial, trivial, trivial, trivial⟩ ?_
          refine thenQ_normal ?_
          refine AW.seq ?_
          refine AW.seq ?_
          refine AW.regionA [] [0, 11, 61] [] (s' := ⟨[(0, (.v (.one (.c (.flt .f64 a0.bits))))), (11, (.v (.one (.c (.flt .f64 ((Fl.mk (k := .f64) 4598175219545276416 (by decide)).sub (((Fl.mk (k := .f64) 4620693217682128896 (by decide)).mul (x8.mul x15)).div (Fl.mk (k := .f64) 4618760256179416344 (by decide)))).bits))))), (61, (.v (.one (.c (.bool (a1.lt' (Fl.mk (k := .f64) 0 (by decide))))))))], []⟩) (ob := True ∧ True ∧ True) (by kernel_rfl) ⟨trivial, trivial, trivial⟩ ?_
          refine thenQ_normal ?_
          rcases ite2_cases h with ⟨b19, h⟩ | ⟨b19, h⟩
          · refine AW.cond_t rfl b19 ?_
            refine AW.regionA [] [0, 11] [] (s' := ⟨[(0, (.v (.one (.c (.flt .f64 a0.bits))))), (11, (.v (.one (.c (.flt .f64 ((Fl.mk (k := .f64) 4602678819172646912 (by decide)).sub ((Fl.mk (k := .f64) 4598175219545276416 (by decide)).sub (((Fl.mk (k := .f64) 4620693217682128896 (by decide)).mul (x8.mul x15)).div (Fl.mk (k := .f64) 4618760256179416344 (by decide))))).bits)))))], []⟩) (ob := True ∧ True ∧ True ∧ True) (by kernel_rfl) ⟨trivial, trivial, trivial, trivial⟩ ?_
            refine thenQ_normal ?_
            refine AW.seq ?_
            refine AW.seq ?_
            refine AW.regionA [] [11, 65] [] (s' := ⟨[(11, (.v (.one (.c (.flt .f64 ((Fl.mk (k := .f64) 4602678819172646912 (by decide)).sub ((Fl.mk (k := .f64) 4598175219545276416 (by decide)).sub (((Fl.mk (k := .f64) 4620693217682128896 (by decide)).mul (x8.mul x15)).div (Fl.mk (k := .f64) 4618760256179416344 (by decide))))).bits))))), (65, (.v (.one (.c (.bool (a0.lt' (Fl.mk (k := .f64) 0 (by decide))))))))], []⟩) (ob := True ∧ True ∧ True) (by kernel_rfl) ⟨trivial, trivial, trivial⟩ ?_
            refine thenQ_normal ?_
            rcases ite2_cases h with ⟨b20, h⟩ | ⟨b20, h⟩
            · refine AW.cond_t rfl b20 ?_
              refine AW.regionA [] [11] [] (s' := ⟨[(11, (.v (.one (.c (.flt .f64 (((Fl.mk (k := .f64) 4602678819172646912 (by decide)).sub ((Fl.mk (k := .f64) 4598175219545276416 (by decide)).sub (((Fl.mk (k := .f64) 4620693217682128896 (by decide)).mul (x8.mul x15)).div (Fl.mk (k := .f64) 4618760256179416344 (by decide))))).neg).bits)))))], []⟩) (ob := True ∧ True ∧ True ∧ True) (by kernel_rfl) ⟨trivial, trivial, trivial, trivial⟩ ?_
              refine thenQ_normal ?_
              refine AW.seq ?_
              refine AW.regionA [] [4] [] (s' := ⟨[(4, (.v (.one (.c (.flt .f64 (((Fl.mk (k := .f64) 4602678819172646912 (by decide)).sub ((Fl.mk (k := .f64) 4598175219545276416 (by decide)).sub (((Fl.mk (k := .f64) 4620693217682128896 (by decide)).mul (x8.mul x15)).div (Fl.mk (k := .f64) 4618760256179416344 (by decide))))).neg).bits)))))], []⟩) (ob := True ∧ True ∧ True) (by kernel_rfl) ⟨trivial, trivial, trivial⟩ ?_
              refine thenQ_normal ?_
              refine AW.ret ?_
              replace h := some_eq h
              subst h
              exact ⟨.inr rfl, retOK_of [(.one (.c (.flt .f64 (((Fl.mk (k := .f64) 4602678819172646912 (by decide)).sub ((Fl.mk (k := .f64) 4598175219545276416 (by decide)).sub (((Fl.mk (k := .f64) 4620693217682128896 (by decide)).mul (x8.mul x15)).div (Fl.mk (k := .f64) 4618760256179416344 (by decide))))).neg).bits)))] (by kernel_rfl) ⟨⟨rfl, trivial⟩, trivial⟩ (of_decide_eq_true (by kernel_rfl))⟩
            · refine AW.cond_f rfl b20 ?_
              refine AW.skip ?_
              refine thenQ_normal ?_
              refine AW.seq ?_
              refine AW.regionA [] [4] [] (s' := ⟨[(4, (.v (.one (.c (.flt .f64 ((Fl.mk (k := .f64) 4602678819172646912 (by decide)).sub ((Fl.mk (k := .f64) 4598175219545276416 (by decide)).sub (((Fl.mk (k := .f64) 4620693217682128896 (by decide)).mul (x8.mul x15)).div (Fl.mk (k := .f64) 4618760256179416344 (by decide))))).bits)))))], []⟩) (ob := True ∧ True ∧ True) (by kernel_rfl) ⟨trivial, trivial, trivial⟩ ?_
              refine thenQ_normal ?_
              refine AW.ret ?_
              replace h := some_eq h
              subst h
              exact ⟨.inr rfl, retOK_of [(.one (.c (.flt .f64 ((Fl.mk (k := .f64) 4602678819172646912 (by decide)).sub ((Fl.mk (k := .f64) 4598175219545276416 (by decide)).sub (((Fl.mk (k := .f64) 4620693217682128896 (by decide)).mul (x8.mul x15)).div (Fl.mk (k := .f64) 4618760256179416344 (by decide))))).bits)))] (by kernel_rfl) ⟨⟨rfl, trivial⟩, trivial⟩ (of_decide_eq_true (by kernel_rfl))⟩
          · refine AW.cond_f rfl b19 ?_
            refine AW.skip ?_
            refine thenQ_normal ?_
            refine AW.seq ?_
            refine AW.seq ?_
            refine AW.regionA [] [11, 65] [] (s' := ⟨[(11, (.v (.one (.c (.flt .f64 ((Fl.mk (k := .f64) 4598175219545276416 (by decide)).sub (((Fl.mk (k := .f64) 4620693217682128896 (by decide)).mul (x8.mul x15)).div (Fl.mk (k := .f64) 4618760256179416344 (by decide)))).bits))))), (65, (.v (.one (.c (.bool (a0.lt' (Fl.mk (k := .f64) 0 (by decide))))))))], []⟩) (ob := True ∧ True ∧ True) (by kernel_rfl) ⟨trivial, trivial, trivial⟩ ?_
            refine thenQ_normal ?_
            rcases ite2_cases h with ⟨b21, h⟩ | ⟨b21, h⟩
            · refine AW.cond_t rfl b21 ?_
              refine AW.regionA [] [11] [] (s' := ⟨[(11, (.v (.one (.c (.flt .f64 (((Fl.mk (k := .f64) 4598175219545276416 (by decide)).sub (((Fl.mk (k := .f64) 4620693217682128896 (by decide)).mul (x8.mul x15)).div (Fl.mk (k := .f64) 4618760256179416344 (by decide)))).neg).bits)))))], []⟩) (ob := True ∧ True ∧ True ∧ True) (by kernel_rfl) ⟨trivial, trivial, trivial, trivial⟩ ?_
              refine thenQ_normal ?_
              refine AW.seq ?_
              refine AW.regionA [] [4] [] (s' := ⟨[(4, (.v (.one (.c (.flt .f64 (((Fl.mk (k := .f64) 4598175219545276416 (by decide)).sub (((Fl.mk (k := .f64) 4620693217682128896 (by decide)).mul (x8.mul x15)).div (Fl.mk (k := .f64) 4618760256179416344 (by decide)))).neg).bits)))))], []⟩) (ob := True ∧ True ∧ True) (by kernel_rfl) ⟨trivial, trivial, trivial⟩ ?_
              refine thenQ_normal ?_
              refine AW.ret ?_
              replace h := some_eq h
              subst h
              exact ⟨.inr rfl, retOK_of [(.one (.c (.flt .f64 (((Fl.mk (k := .f64) 4598175219545276416 (by decide)).sub (((Fl.mk (k := .f64) 4620693217682128896 (by decide)).mul (x8.mul x15)).div (Fl.mk (k := .f64) 4618760256179416344 (by decide)))).neg).bits)))] (by kernel_rfl) ⟨⟨rfl, trivial⟩, trivial⟩ (of_decide_eq_true (by kernel_rfl))⟩
            · refine AW.cond_f rfl b21 ?_
              refine AW.skip ?_
              refine thenQ_normal ?_
              refine AW.seq ?_
              refine AW.regionA [] [4] [] (s' := ⟨[(4, (.v (.one (.c (.flt .f64 ((Fl.mk (k := .f64) 4598175219545276416 (by decide)).sub (((Fl.mk (k := .f64) 4620693217682128896 (by decide)).mul (x8.mul x15)).div (Fl.mk (k := .f64) 4618760256179416344 (by decide)))).bits)))))], []⟩) (ob := True ∧ True ∧ True) (by kernel_rfl) ⟨trivial, trivial, trivial⟩ ?_
              refine thenQ_normal ?_
              refine AW.ret ?_
              replace h := some_eq h
              subst h
              exact ⟨.inr rfl, retOK_of [(.one (.c (.flt .f64 ((Fl.mk (k := .f64) 4598175219545276416 (by decide)).sub (((Fl.mk (k := .f64) 4620693217682128896 (by decide)).mul (x8.mul x15)).div (Fl.mk (k := .f64) 4618760256179416344 (by decide)))).bits)))] (by kernel_rfl) ⟨⟨rfl, trivial⟩, trivial⟩ (of_decide_eq_true (by kernel_rfl))⟩
        · refine AW.cond_f rfl b18 ?_
          refine AW.skip ?_
          refine thenQ_normal ?_
          refine AW.seq ?_
          refine AW.seq ?_
          refine AW.regionA [] [0, 11, 61] [] (s' := ⟨[(0, (.v (.one (.c (.flt .f64 a0.bits))))), (11, (.v (.one (.c (.flt .f64 (((Fl.mk (k := .f64) 4620693217682128896 (by decide)).mul (x8.mul x15)).div (Fl.mk (k := .f64) 4618760256179416344 (by decide))).bits))))), (61, (.v (.one (.c (.bool (a1.lt' (Fl.mk (k := .f64) 0 (by decide))))))))], []⟩) (ob := True ∧ True ∧ True) (by kernel_rfl) ⟨trivial, trivial, trivial⟩ ?_
          refine thenQ_normal ?_
          rcases ite2_cases h with ⟨b22, h⟩ | ⟨b22, h⟩
          · refine AW.cond_t rfl b22 ?_
            refine AW.regionA [] [0, 11] [] (s' := ⟨[(0, (.v (.one (.c (.flt .f64 a0.bits))))), (11, (.v (.one (.c (.flt .f64 ((Fl.mk (k := .f64) 4602678819172646912 (by decide)).sub (((Fl.mk (k := .f64) 4620693217682128896 (by decide)).mul (x8.mul x15)).div (Fl.mk (k := .f64) 4618760256179416344 (by decide)))).bits)))))], []⟩) (ob := True ∧ True ∧ True ∧ True) (by kernel_rfl) ⟨trivial, trivial, trivial, trivial⟩ ?_
            refine thenQ_normal ?_
            refine AW.seq ?_
            refine AW.seq ?_
            refine AW.regionA [] [11, 65] [] (s' := ⟨[(11, (.v (.one (.c (.flt .f64 ((Fl.mk (k := .f64) 4602678819172646912 (by decide)).sub (((Fl.mk (k := .f64) 4620693217682128896 (by decide)).mul (x8.mul x15)).div (Fl.mk (k := .f64) 4618760256179416344 (by decide)))).bits))))), (65, (.v (.one (.c (.bool (a0.lt' (Fl.mk (k := .f64) 0 (by decide))))))))], []⟩) (ob := True ∧ True ∧ True) (by kernel_rfl) ⟨trivial, trivial, trivial⟩ ?_
            refine thenQ_normal ?_
            rcases ite2_cases h with ⟨b23, h⟩ | ⟨b23, h⟩
            · refine AW.cond_t rfl b23 ?_
              refine AW.regionA [] [11] [] (s' := ⟨[(11, (.v (.one (.c (.flt .f64 (((Fl.mk (k := .f64) 4602678819172646912 (by decide)).sub (((Fl.mk (k := .f64) 4620693217682128896 (by decide)).mul (x8.mul x15)).div (Fl.mk (k := .f64) 4618760256179416344 (by decide)))).neg).bits)))))], []⟩) (ob := True ∧ True ∧ True ∧ True) (by kernel_rfl) ⟨trivial, trivial, trivial, trivial⟩ ?_
              refine thenQ_normal ?_
              refine AW.seq ?_
              refine AW.regionA [] [4] [] (s' := ⟨[(4, (.v (.one (.c (.flt .f64 (((Fl.mk (k := .f64) 4602678819172646912 (by decide)).sub (((Fl.mk (k := .f64) 4620693217682128896 (by decide)).mul (x8.mul x15)).div (Fl.mk (k := .f64) 4618760256179416344 (by decide)))).neg).bits)))))], []⟩) (ob := True ∧ True ∧ True) (by kernel_rfl) ⟨trivial, trivial, trivial⟩ ?_
              refine thenQ_normal ?_
              refine AW.ret ?_
              replace h := some_eq h
              subst h
              exact ⟨.inr rfl, retOK_of [(.one (.c (.flt .f64 (((Fl.mk (k := .f64) 4602678819172646912 (by decide)).sub (((Fl.mk (k := .f64) 4620693217682128896 (by decide)).mul (x8.mul x15)).div (Fl.mk (k := .f64) 4618760256179416344 (by decide)))).neg).bits)))] (by kernel_rfl) ⟨⟨rfl, trivial⟩, trivial⟩ (of_decide_eq_true (by kernel_rfl))⟩
            · refine AW.cond_f rfl b23 ?_
              refine AW.skip ?_
              refine thenQ_normal ?_
              refine AW.seq ?_
              refine AW.regionA [] [4] [] (s' := ⟨[(4, (.v (.one (.c (.flt .f64 ((Fl.mk (k := .f64) 4602678819172646912 (by decide)).sub (((Fl.mk (k := .f64) 4620693217682128896 (by decide)).mul (x8.mul x15)).div (Fl.mk (k := .f64) 4618760256179416344 (by decide)))).bits)))))], []⟩) (ob := True ∧ True ∧ True) (by kernel_rfl) ⟨trivial, trivial, trivial⟩ ?_
              refine thenQ_normal ?_
              refine AW.ret ?_
              replace h := some_eq h
              subst h
              exact ⟨.inr rfl, retOK_of [(.one (.c (.flt .f64 ((Fl.mk (k := .f64) 4602678819172646912 (by decide)).sub (((Fl.mk (k := .f64) 4620693217682128896 (by decide)).mul (x8.mul x15)).div (Fl.mk (k := .f64) 4618760256179416344 (by decide)))).bits)))] (by kernel_rfl) ⟨⟨rfl, trivial⟩, trivial⟩ (of_decide_eq_true (by kernel_rfl))⟩
          · refine AW.cond_f rfl b22 ?_
            refine AW.skip ?_
            refine thenQ_normal ?_
            refine AW.seq ?_
            refine AW.seq ?_
            refine AW.regionA [] [11, 65] [] (s' := ⟨[(11, (.v (.one (.c (.flt .f64 (((Fl.mk (k := .f64) 4620693217682128896 (by decide)).mul (x8.mul x15)).div (Fl.mk (k := .f64) 4618760256179416344 (by decide))).bits))))), (65, (.v (.one (.c (.bool (a0.lt' (Fl.mk (k := .f64) 0 (by decide))))))))], []⟩) (ob := True ∧ True ∧ True) (by kernel_rfl) ⟨trivial, trivial, trivial⟩ ?_
            refine thenQ_normal ?_
            rcases ite2_cases h with ⟨b24, h⟩ | ⟨b24, h⟩
            · refine AW.cond_t rfl b24 ?_
              refine AW.regionA [] [11] [] (s' := ⟨[(11, (.v (.one (.c (.flt .f64 ((((Fl.mk (k := .f64) 4620693217682128896 (by decide)).mul (x8.mul x15)).div (Fl.mk (k := .f64) 4618760256179416344 (by decide))).neg).bits)))))], []⟩) (ob := True ∧ True ∧ True ∧ True) (by kernel_rfl) ⟨trivial, trivial, trivial, trivial⟩ ?_
              refine thenQ_normal ?_
              refine AW.seq ?_
              refine AW.regionA [] [4] [] (s' := ⟨[(4, (.v (.one (.c (.flt .f64 ((((Fl.mk (k := .f64) 4620693217682128896 (by decide)).mul (x8.mul x15)).div (Fl.mk (k := .f64) 4618760256179416344 (by decide))).neg).bits)))))], []⟩) (ob := True ∧ True ∧ True) (by kernel_rfl) ⟨trivial, trivial, trivial⟩ ?_
              refine thenQ_normal ?_
              refine AW.ret ?_
              replace h := some_eq h
              subst h
              exact ⟨.inr rfl, retOK_of [(.one (.c (.flt .f64 ((((Fl.mk (k := .f64) 4620693217682128896 (by decide)).mul (x8.mul x15)).div (Fl.mk (k := .f64) 4618760256179416344 (by decide))).neg).bits)))] (by kernel_rfl) ⟨⟨rfl, trivial⟩, trivial⟩ (of_decide_eq_true (by kernel_rfl))⟩
            · refine AW.cond_f rfl b24 ?_
              refine AW.skip ?_
              refine thenQ_normal ?_
              refine AW.seq ?_
              refine AW.regionA [] [4] [] (s' := ⟨[(4, (.v (.one (.c (.flt .f64 (((Fl.mk (k := .f64) 4620693217682128896 (by decide)).mul (x8.mul x15)).div (Fl.mk (k := .f64) 4618760256179416344 (by decide))).bits)))))], []⟩) (ob := True ∧ True ∧ True) (by kernel_rfl) ⟨trivial, trivial, trivial⟩ ?_
              refine thenQ_normal ?_
              refine AW.ret ?_
              replace h := some_eq h
              subst h
              exact ⟨.inr rfl, retOK_of [(.one (.c (.flt .f64 (((Fl.mk (k := .f64) 4620693217682128896 (by decide)).mul (x8.mul x15)).div (Fl.mk (k := .f64) 4618760256179416344 (by decide))).bits)))] (by kernel_rfl) ⟨⟨rfl, trivial⟩, trivial⟩ (of_decide_eq_true (by kernel_rfl))⟩
  · refine AW.cond_f rfl b5 ?_
    refine AW.skip ?_
    refine thenQ_normal ?_
    refine AW.seq ?_
    refine AW.seq ?_
    refine AW.regionA [] [0, 1, 5, 6, 7, 25] [] (s' := ⟨[(0, (.v (.one (.c (.flt .f64 a0.bits))))), (1, (.v (.one (.c (.flt .f64 a1.bits))))), (5, (.v (.one (.c (.flt .f64 v1.bits))))), (6, (.v (.one (.c (.flt .f64 v3.bits))))), (7, (.v (.one (.c (.flt .f64 (v1.div v3).bits))))), (25, (.v (.one (.c (.int .i64 (0 : Int))))))], []⟩) (ob := True ∧ True) (by kernel_rfl) ⟨trivial, trivial⟩ ?_
    refine thenQ_normal ?_
    refine AW.block ?_
    refine AW.loopQ (σ := Nat × F64 × Int) (fun p => ⟨[(0, (.v (.one (.c (.flt .f64 a0.bits))))), (1, (.v (.one (.c (.flt .f64 a1.bits))))), (5, (.v (.one (.c (.flt .f64 v1.bits))))), (6, (.v (.one (.c (.flt .f64 v3.bits))))), (7, (.v (.one (.c (.flt .f64 p.2.1.bits))))), (25, (.v (.one (.c (.int .i64 p.2.2)))))], []⟩) (fun p => impl_wideAngle_l3 K a0 a1 v1 v3 p.1 p.2.1 p.2.2 = some o) (fun p => p.1) (K, (v1.div v3), (0 : Int)) h ?_
    clear h
    rintro ⟨k, x27, x28⟩ h
    replace h : impl_wideAngle_l3 K a0 a1 v1 v3 k x27 x28 = some o := h
    show AW _ _ (⟨[(0, (.v (.one (.c (.flt .f64 a0.bits))))), (1, (.v (.one (.c (.flt .f64 a1.bits))))), (5, (.v (.one (.c (.flt .f64 v1.bits))))), (6, (.v (.one (.c (.flt .f64 v3.bits))))), (7, (.v (.one (.c (.flt .f64 x27.bits))))), (25, (.v (.one (.c (.int .i64 x28)))))], []⟩ : St) _
    obtain _ | k := k
    · rw [impl_wideAngle_l3] at h; cases h
    rw [impl_wideAngle_l3] at h
    refine AW.seq ?_
    refine AW.regionA [] [0, 1, 5, 6, 7, 25, 26] [] (s' := ⟨[(0, (.v (.one (.c (.flt .f64 a0.bits))))), (1, (.v (.one (.c (.flt .f64 a1.bits))))), (5, (.v (.one (.c (.flt .f64 v1.bits))))), (6, (.v (.one (.c (.flt .f64 v3.bits))))), (7, (.v (.one (.c (.flt .f64 x27.bits))))), (25, (.v (.one (.c (.int .i64 x28))))), (26, (.v (.one (.c (.bool (decide (x28 < (3 : Int))))))))], []⟩) (ob := True ∧ True) (by kernel_rfl) ⟨trivial, trivial⟩ ?_
    refine thenQ_normal ?_
    refine AW.seq ?_
    rcases ite2_cases h with ⟨b29, h⟩ | ⟨b29, h⟩
    · refine AW.cond_t rfl b29 ?_
      refine AW.skip ?_
      refine thenQ_normal ?_
      refine AW.seq ?_
      refine AW.block ?_
      obtain ⟨v30, e31, h⟩ := bind_some h
      refine AW.regionA [.no, .no, .no, .no, .no, .call [.one (.flt .f64 ((Fl.mk (k := .f64) 4607182418800017408 (by decide)).add (x27.mul x27)).bits)] [.one (.flt .f64 v30.bits)] [[.view]]] [0, 1, 5, 6, 7, 25] [] (s' := ⟨[(0, (.v (.one (.c (.flt .f64 a0.bits))))), (1, (.v (.one (.c (.flt .f64 a1.bits))))), (5, (.v (.one (.c (.flt .f64 v1.bits))))), (6, (.v (.one (.c (.flt .f64 v3.bits))))), (7, (.v (.one (.c (.flt .f64 (x27.div ((Fl.mk (k := .f64) 4607182418800017408 (by decide)).add v30)).bits))))), (25, (.v (.one (.c (.int .i64 x28)))))], []⟩) (ob := True ∧ True ∧ True ∧ True ∧ True ∧ (((((.flt .f64 ((Fl.mk (k := .f64) 4607182418800017408 (by decide)).add (x27.mul x27)).bits) : C) = (.flt .f64 ((Fl.mk (k := .f64) 4607182418800017408 (by decide)).add (x27.mul x27)).bits)) ∧ True) ∧ CallOK Try.prog 200 [.one (.flt .f64 ((Fl.mk (k := .f64) 4607182418800017408 (by decide)).add (x27.mul x27)).bits)] [.one (.flt .f64 v30.bits)]) ∧ True ∧ True ∧ True ∧ True) (by kernel_rfl) ⟨trivial, trivial, trivial, trivial, trivial, ⟨⟨rfl, trivial⟩, ok_math_Sqrt K ((Fl.mk (k := .f64) 4607182418800017408 (by decide)).add (x27.mul x27)) v30 e31⟩, trivial, trivial, trivial, trivial⟩ ?_
      refine blockQ_normal ?_
      refine thenQ_normal ?_
      refine AW.regionA [] [0, 1, 5, 6, 7, 25] [] (s' := ⟨[(0, (.v (.one (.c (.flt .f64 a0.bits))))), (1, (.v (.one (.c (.flt .f64 a1.bits))))), (5, (.v (.one (.c (.flt .f64 v1.bits))))), (6, (.v (.one (.c (.flt .f64 v3.bits))))), (7, (.v (.one (.c (.flt .f64 (x27.div ((Fl.mk (k := .f64) 4607182418800017408 (by decide)).add v30)).bits))))), (25, (.v (.one (.c (.int .i64 (IntKind.i64.wrap (x28 + (1 : Int))))))))], []⟩) (ob := True ∧ True ∧ True) (by kernel_rfl) ⟨trivial, trivial, trivial⟩ ?_
      exact loopQ_normal (k, (x27.div ((Fl.mk (k := .f64) 4607182418800017408 (by decide)).add v30)), (IntKind.i64.wrap (x28 + (1 : Int)))) h (Nat.lt_succ_self k) (Sub.keep [0, 1, 5, 6, 7, 25] [] (by kernel_rfl) (by kernel_rfl))
    · refine AW.cond_f rfl b29 ?_
      refine AW.exit ?_
      refine thenQ_exit ?_
      refine loopQ_exit ?_
      refine blockQ_exit ?_
      refine thenQ_normal ?_
      refine AW.seq ?_
      refine AW.regionA [] [0, 1, 5, 6, 7, 8] [] (s' := ⟨[(0, (.v (.one (.c (.flt .f64 a0.bits))))), (1, (.v (.one (.c (.flt .f64 a1.bits))))), (5, (.v (.one (.c (.flt .f64 v1.bits))))), (6, (.v (.one (.c (.flt .f64 v3.bits))))), (7, (.v (.one (.c (.flt .f64 x27.bits))))), (8, (.v (.one (.c (.flt .f64 (x27.mul x27).bits)))))], []⟩) (ob := True ∧ True ∧ True ∧ True ∧ True) (by kernel_rfl) ⟨trivial, trivial, trivial, trivial, trivial⟩ ?_
      refine thenQ_normal ?_
      refine AW.seq ?_
      refine AW.regionA [] [0, 1, 5, 6, 7, 8, 9] [] (s' := ⟨[(0, (.v (.one (.c (.flt .f64 a0.bits))))), (1, (.v (.one (.c (.flt .f64 a1.bits))))), (5, (.v (.one (.c (.flt .f64 v1.bits))))), (6, (.v (.one (.c (.flt .f64 v3.bits))))), (7, (.v (.one (.c (.flt .f64 x27.bits))))), (8, (.v (.one (.c (.flt .f64 (x27.mul x27).bits))))), (9, (.v (.one (.c (.flt .f64 (Fl.mk (k := .f64) 0 (by decide)).bits)))))], []⟩) (ob := True ∧ True) (by kernel_rfl) ⟨trivial, trivial⟩ ?_
      refine thenQ_normal ?_
      refine AW.seq ?_
      refine AW.seq ?_
      refine AW.regionA [] [0, 1, 5, 6, 7, 8, 9, 10] [] (s' := ⟨[(0, (.v (.one (.c (.flt .f64 a0.bits))))), (1, (.v (.one (.c (.flt .f64 a1.bits))))), (5, (.v (.one (.c (.flt .f64 v1.bits))))), (6, (.v (.one (.c (.flt .f64 v3.bits))))), (7, (.v (.one (.c (.flt .f64 x27.bits))))), (8, (.v (.one (.c (.flt .f64 (x27.mul x27).bits))))), (9, (.v (.one (.c (.flt .f64 (Fl.mk (k := .f64) 0 (by decide)).bits))))), (10, (.v (.one (.c (.int .i64 (15 : Int))))))], []⟩) (ob := True ∧ True) (by kernel_rfl) ⟨trivial, trivial⟩ ?_
      refine thenQ_normal ?_
      refine AW.block ?_
      refine AW.loopQ (σ := Nat × F64 × Int) (fun p => ⟨[(0, (.v (.one (.c (.flt .f64 a0.bits))))), (1, (.v (.one (.c (.flt .f64 a1.bits))))), (5, (.v (.one (.c (.flt .f64 v1.bits))))), (6, (.v (.one (.c (.flt .f64 v3.bits))))), (7, (.v (.one (.c (.flt .f64 x27.bits))))), (8, (.v (.one (.c (.flt .f64 (x27.mul x27).bits))))), (9, (.v (.one (.c (.flt .f64 p.2.1.bits))))), (10, (.v (.one (.c (.int .i64 p.2.2)))))], []⟩) (fun p => impl_wideAngle_l4 K a0 a1 v1 v3 x27 p.1 p.2.1 p.2.2 = some o) (fun p => p.1) (K, (Fl.mk (k := .f64) 0 (by decide)), (15 : Int)) h ?_
      clear h
      rintro ⟨k, x34, x35⟩ h
      replace h : impl_wideAngle_l4 K a0 a1 v1 v3 x27 k x34 x35 = some o := h
      show AW _ _ (⟨[(0, (.v (.one (.c (.flt .f64 a0.bits))))), (1, (.v (.one (.c (.flt .f64 a1.bits))))), (5, (.v (.one (.c (.flt .f64 v1.bits))))), (6, (.v (.one (.c (.flt .f64 v3.bits))))), (7, (.v (.one (.c (.flt .f64 x27.bits))))), (8, (.v (.one (.c (.flt .f64 (x27.mul x27).bits))))), (9, (.v (.one (.c (.flt .f64 x34.bits))))), (10, (.v (.one (.c (.int .i64 x35)))))], []⟩ : St) _
      obtain _ | k := k
      · rw [impl_wideAngle_l4] at h; cases h
      rw [impl_wideAngle_l4] at h
      refine AW.seq ?_
      refine AW.seq ?_
      refine AW.regionA [] [0, 1, 5, 6, 7, 8, 9, 10, 40] [] (s' := ⟨[(0, (.v (.one (.c (.flt .f64 a0.bits))))), (1, (.v (.one (.c (.flt .f64 a1.bits))))), (5, (.v (.one (.c (.flt .f64 v1.bits))))), (6, (.v (.one (.c (.flt .f64 v3.bits))))), (7, (.v (.one (.c (.flt .f64 x27.bits))))), (8, (.v (.one (.c (.flt .f64 (x27.mul x27).bits))))), (9, (.v (.one (.c (.flt .f64 x34.bits))))), (10, (.v (.one (.c (.int .i64 x35))))), (40, (.v (.one (.c (.bool (decide (x35 ≥ (1 : Int))))))))], []⟩) (ob := True ∧ True ∧ True) (by kernel_rfl) ⟨trivial, trivial, trivial⟩ ?_
      refine thenQ_normal ?_
      rcases ite2_cases h with ⟨b36, h⟩ | ⟨b36, h⟩
      · refine AW.cond_t rfl b36 ?_
        refine AW.skip ?_
        refine thenQ_normal ?_
        refine AW.seq ?_
        refine AW.block ?_
        refine AW.regionA [] [0, 1, 5, 6, 7, 8, 9, 10] [] (s' := ⟨[(0, (.v (.one (.c (.flt .f64 a0.bits))))), (1, (.v (.one (.c (.flt .f64 a1.bits))))), (5, (.v (.one (.c (.flt .f64 v1.bits))))), (6, (.v (.one (.c (.flt .f64 v3.bits))))), (7, (.v (.one (.c (.flt .f64 x27.bits))))), (8, (.v (.one (.c (.flt .f64 (x27.mul x27).bits))))), (9, (.v (.one (.c (.flt .f64 (((Fl.mk (k := .f64) 4607182418800017408 (by decide)).div (Fl.ofInt .f64 x35)).sub ((x27.mul x27).mul x34)).bits))))), (10, (.v (.one (.c (.int .i64 x35)))))], []⟩) (ob := True ∧ True ∧ True ∧ True ∧ True ∧ True ∧ True ∧ True ∧ True) (by kernel_rfl) ⟨trivial, trivial, trivial, trivial, trivial, trivial, trivial, trivial, trivial⟩ ?_
        refine blockQ_normal ?_
        refine thenQ_normal ?_
        refine AW.regionA [] [0, 1, 5, 6, 7, 8, 9, 10] [] (s' := ⟨[(0, (.v (.one (.c (.flt .f64 a0.bits))))), (1, (.v (.one (.c (.flt .f64 a1.bits))))), (5, (.v (.one (.c (.flt .f64 v1.bits))))), (6, (.v (.one (.c (.flt .f64 v3.bits))))), (7, (.v (.one (.c (.flt .f64 x27.bits))))), (8, (.v (.one (.c (.flt .f64 (x27.mul x27).bits))))), (9, (.v (.one (.c (.flt .f64 (((Fl.mk (k := .f64) 4607182418800017408 (by decide)).div (Fl.ofInt .f64 x35)).sub ((x27.mul x27).mul x34)).bits))))), (10, (.v (.one (.c (.int .i64 (IntKind.i64.wrap (x35 - (2 : Int))))))))], []⟩) (ob := True ∧ True ∧ True ∧ True) (by kernel_rfl) ⟨trivial, trivial, trivial, trivial⟩ ?_
        exact loopQ_normal (k, (((Fl.mk (k := .f64) 4607182418800017408 (by decide)).div (Fl.ofInt .f64 x35)).sub ((x27.mul x27).mul x34)), (IntKind.i64.wrap (x35 - (2 : Int)))) h (Nat.lt_succ_self k) (Sub.keep [0, 1, 5, 6, 7, 8, 9, 10] [] (by kernel_rfl) (by kernel_rfl))
      · refine AW.cond_f rfl b36 ?_
        refine AW.exit ?_
        refine thenQ_exit ?_
        refine loopQ_exit ?_
        refine blockQ_exit ?_
        refine thenQ_normal ?_
        refine AW.seq ?_
        refine AW.regionA [] [0, 1, 5, 6, 11] [] (s' := ⟨[(0, (.v (.one (.c (.flt .f64 a0.bits))))), (1, (.v (.one (.c (.flt .f64 a1.bits))))), (5, (.v (.one (.c (.flt .f64 v1.bits))))), (6, (.v (.one (.c (.flt .f64 v3.bits))))), (11, (.v (.one (.c (.flt .f64 (((Fl.mk (k := .f64) 4620693217682128896 (by decide)).mul (x27.mul x34)).div (Fl.mk (k := .f64) 4618760256179416344 (by decide))).bits)))))], []⟩) (ob := True ∧ True ∧ True ∧ True ∧ True ∧ True ∧ True) (by kernel_rfl) ⟨trivial, trivial, trivial, trivial, trivial, trivial, trivial⟩ ?_
        refine thenQ_normal ?_
        refine AW.seq ?_
        refine AW.seq ?_
        refine AW.regionA [] [0, 1, 11, 57] [] (s' := ⟨[(0, (.v (.one (.c (.flt .f64 a0.bits))))), (1, (.v (.one (.c (.flt .f64 a1.bits))))), (11, (.v (.one (.c (.flt .f64 (((Fl.mk (k := .f64) 4620693217682128896 (by decide)).mul (x27.mul x34)).div (Fl.mk (k := .f64) 4618760256179416344 (by decide))).bits))))), (57, (.v (.one (.c (.bool (v1.gt v3))))))], []⟩) (ob := True ∧ True ∧ True ∧ True) (by kernel_rfl) ⟨trivial, trivial, trivial, trivial⟩ ?_
        refine thenQ_normal ?_
        rcases ite2_cases h with ⟨b37, h⟩ | ⟨b37, h⟩
        · refine AW.cond_t rfl b37 ?_
          refine AW.regionA [] [0, 1, 11] [] (s' := ⟨[(0, (.v (.one (.c (.flt .f64 a0.bits))))), (1, (.v (.one (.c (.flt .f64 a1.bits))))), (11, (.v (.one (.c (.flt .f64 ((Fl.mk (k := .f64) 4598175219545276416 (by decide)).sub (((Fl.mk (k := .f64) 4620693217682128896 (by decide)).mul (x27.mul x34)).div (Fl.mk (k := .f64) 4618760256179416344 (by decide)))).bits)))))], []⟩) (ob := True ∧ True ∧ True ∧ True) (by kernel_rfl) ⟨trivial, trivial, trivial, trivial⟩ ?_
          refine thenQ_normal ?_
          refine AW.seq ?_
          refine AW.seq ?_
          refine AW.regionA [] [0, 11, 61] [] (s' := ⟨[(0, (.v (.one (.c (.flt .f64 a0.bits))))), (11, (.v (.one (.c (.flt .f64 ((Fl.mk (k := .f64) 4598175219545276416 (by decide)).sub (((Fl.mk (k := .f64) 4620693217682128896 (by decide)).mul (x27.mul x34)).div (Fl.mk (k := .f64) 4618760256179416344 (by decide)))).bits))))), (61, (.v (.one (.c (.bool (a1.lt' (Fl.mk (k := .f64) 0 (by decide))))))))], []⟩) (ob := True ∧ True ∧ True) (by kernel_rfl) ⟨trivial, trivial, trivial⟩ ?_
          refine thenQ_normal ?_
          rcases ite2_cases h with ⟨b38, h⟩ | ⟨b38, h⟩
          · refine AW.cond_t rfl b38 ?_
            refine AW.regionA [] [0, 11] [] (s' := ⟨[(0, (.v (.one (.c (.flt .f64 a0.bits))))), (11, (.v (.one (.c (.flt .f64 ((Fl.mk (k := .f64) 4602678819172646912 (by decide)).sub ((Fl.mk (k := .f64) 4598175219545276416 (by decide)).sub (((Fl.mk (k := .f64) 4620693217682128896 (by decide)).mul (x27.mul x34)).div (Fl.mk (k := .f64) 4618760256179416344 (by decide))))).bits)))))], []⟩) (ob := True ∧ True ∧ True ∧ True) (by kernel_rfl) ⟨trivial, trivial, trivial, trivial⟩ ?_
            refine thenQ_normal ?_
            refine AW.seq ?_
            refine AW.seq ?_
            refine AW.regionA [] [11, 65] [] (s' := ⟨[(11, (.v (.one (.c (.flt .f64 ((Fl.mk (k := .f64) 4602678819172646912 (by decide)).sub ((Fl.mk (k := .f64) 4598175219545276416 (by decide)).sub (((Fl.mk (k := .f64) 4620693217682128896 (by decide)).mul (x27.mul x34)).div (Fl.mk (k := .f64) 4618760256179416344 (by decide))))).bits))))), (65, (.v (.one (.c (.bool (a0.lt' (Fl.mk (k := .f64) 0 (by decide))))))))], []⟩) (ob := True ∧ True ∧ True) (by kernel_rfl) ⟨trivial, trivial, trivial⟩ ?_
            refine thenQ_normal ?_
            rcases ite2_cases h with ⟨b39, h⟩ | ⟨b39, h⟩
            · refine AW.cond_t rfl b39 ?_
              refine AW.regionA [] [11] [] (s' := ⟨[(11, (.v (.one (.c (.flt .f64 (((Fl.mk (k := .f64) 4602678819172646912 (by decide)).sub ((Fl.mk (k := .f64) 4598175219545276416 (by decide)).sub (((Fl.mk (k := .f64) 4620693217682128896 (by decide)).mul (x27.mul x34)).div (Fl.mk (k := .f64) 4618760256179416344 (by decide))))).neg).bits)))))], []⟩) (ob := True ∧ True ∧ True ∧ True) (by kernel_rfl) ⟨trivial, trivial, trivial, trivial⟩ ?_
              refine thenQ_normal ?_
              refine AW.seq ?_
              refine AW.regionA [] [4] [] (s' := ⟨[(4, (.v (.one (.c (.flt .f64 (((Fl.mk (k := .f64) 4602678819172646912 (by decide)).sub ((Fl.mk (k := .f64) 4598175219545276416 (by decide)).sub (((Fl.mk (k := .f64) 4620693217682128896 (by decide)).mul (x27.mul x34)).div (Fl.mk (k := .f64) 4618760256179416344 (by decide))))).neg).bits)))))], []⟩) (ob := True ∧ True ∧ True) (by kernel_rfl) ⟨trivial, trivial, trivial⟩ ?_
              refine thenQ_normal ?_
              refine AW.ret ?_
              replace h := some_eq h
              subst h
              exact ⟨.inr rfl, retOK_of [(.one (.c (.flt .f64 (((Fl.mk (k := .f64) 4602678819172646912 (by decide)).sub ((Fl.mk (k := .f64) 4598175219545276416 (by decide)).sub (((Fl.mk (k := .f64) 4620693217682128896 (by decide)).mul (x27.mul x34)).div (Fl.mk (k := .f64) 4618760256179416344 (by decide))))).neg).bits)))] (by kernel_rfl) ⟨⟨rfl, trivial⟩, trivial⟩ (of_decide_eq_true (by kernel_rfl))⟩
            · refine AW.cond_f rfl b39 ?_
              refine AW.skip ?_
              refine thenQ_normal ?_
              refine AW.seq ?_
              refine AW.regionA [] [4] [] (s' := ⟨[(4, (.v (.one (.c (.flt .f64 ((Fl.mk (k := .f64) 4602678819172646912 (by decide)).sub ((Fl.mk (k := .f64) 4598175219545276416 (by decide)).sub (((Fl.mk (k := .f64) 4620693217682128896 (by decide)).mul (x27.mul x34)).div (Fl.mk (k := .f64) 4618760256179416344 (by decide))))).bits)))))], []⟩) (ob := True ∧ True ∧ True) (by kernel_rfl) ⟨trivial, trivial, trivial⟩ ?_
              refine thenQ_normal ?_
              refine AW.ret ?_
              replace h := some_eq h
              subst h
              exact ⟨.inr rfl, retOK_of [(.one (.c (.flt .f64 ((Fl.mk (k := .f64) 4602678819172646912 (by decide)).sub ((Fl.mk (k := .f64) 4598175219545276416 (by decide)).sub (((Fl.mk (k := .f64) 4620693217682128896 (by decide)).mul (x27.mul x34)).div (Fl.mk (k := .f64) 4618760256179416344 (by decide))))).bits)))] (by kernel_rfl) ⟨⟨rfl, trivial⟩, trivial⟩ (of_decide_eq_true (by kernel_rfl))⟩
          · refine AW.cond_f rfl b38 ?_
            refine AW.skip ?_
            refine thenQ_normal ?_
            refine AW.seq ?_
            refine AW.seq ?_
            refine AW.regionA [] [11, 65] [] (s' := ⟨[(11, (.v (.one (.c (.flt .f64 ((Fl.mk (k := .f64) 4598175219545276416 (by decide)).sub (((Fl.mk (k := .f64) 4620693217682128896 (by decide)).mul (x27.mul x34)).div (Fl.mk (k := .f64) 4618760256179416344 (by decide)))).bits))))), (65, (.v (.one (.c (.bool (a0.lt' (Fl.mk (k := .f64) 0 (by decide))))))))], []⟩) (ob := True ∧ True ∧ True) (by kernel_rfl) ⟨trivial, trivial, trivial⟩ ?_
            refine thenQ_normal ?_
            rcases ite2_cases h with ⟨b40, h⟩ | ⟨b40, h⟩
            · refine AW.cond_t rfl b40 ?_
              refine AW.regionA [] [11] [] (s' := ⟨[(11, (.v (.one (.c (.flt .f64 (((Fl.mk (k := .f64) 4598175219545276416 (by decide)).sub (((Fl.mk (k := .f64) 4620693217682128896 (by decide)).mul (x27.mul x34)).div (Fl.mk (k := .f64) 4618760256179416344 (by decide)))).neg).bits)))))], []⟩) (ob := True ∧ True ∧ True ∧ True) (by kernel_rfl) ⟨trivial, trivial, trivial, trivial⟩ ?_
              refine thenQ_normal ?_
              refine AW.seq ?_
              refine AW.regionA [] [4] [] (s' := ⟨[(4, (.v (.one (.c (.flt .f64 (((Fl.mk (k := .f64) 4598175219545276416 (by decide)).sub (((Fl.mk (k := .f64) 4620693217682128896 (by decide)).mul (x27.mul x34)).div (Fl.mk (k := .f64) 4618760256179416344 (by decide)))).neg).bits)))))], []⟩) (ob := True ∧ True ∧ True) (by kernel_rfl) ⟨trivial, trivial, trivial⟩ ?_
              refine thenQ_normal ?_
              refine AW.ret ?_
              replace h := some_eq h
              subst h
              exact ⟨.inr rfl, retOK_of [(.one (.c (.flt .f64 (((Fl.mk (k := .f64) 4598175219545276416 (by decide)).sub (((Fl.mk (k := .f64) 4620693217682128896 (by decide)).mul (x27.mul x34)).div (Fl.mk (k := .f64) 4618760256179416344 (by decide)))).neg).bits)))] (by kernel_rfl) ⟨⟨rfl, trivial⟩, trivial⟩ (of_decide_eq_true (by kernel_rfl))⟩
            · refine AW.cond_f rfl b40 ?_
              refine AW.skip ?_
              refine thenQ_normal ?_
              refine AW.seq ?_
              refine AW.regionA [] [4] [] (s' := ⟨[(4, (.v (.one (.c (.flt .f64 ((Fl.mk (k := .f64) 4598175219545276416 (by decide)).sub (((Fl.mk (k := .f64) 4620693217682128896 (by decide)).mul (x27.mul x34)).div (Fl.mk (k := .f64) 4618760256179416344 (by decide)))).bits)))))], []⟩) (ob := True ∧ True ∧ True) (by kernel_rfl) ⟨trivial, trivial, trivial⟩ ?_
              refine thenQ_normal ?_
              refine AW.ret ?_
              replace h := some_eq h
              subst h
              exact ⟨.inr rfl, retOK_of [(.one (.c (.flt .f64 ((Fl.mk (k := .f64) 4598175219545276416 (by decide)).sub (((Fl.mk (k := .f64) 4620693217682128896 (by decide)).mul (x27.mul x34)).div (Fl.mk (k := .f64) 4618760256179416344 (by decide)))).bits)))] (by kernel_rfl) ⟨⟨rfl, trivial⟩, trivial⟩ (of_decide_eq_true (by kernel_rfl))⟩
        · refine AW.cond_f rfl b37 ?_
          refine AW.skip ?_
          refine thenQ_normal ?_
          refine AW.seq ?_
          refine AW.seq ?_
          refine AW.regionA [] [0, 11, 61] [] (s' := ⟨[(0, (.v (.one (.c (.flt .f64 a0.bits))))), (11, (.v (.one (.c (.flt .f64 (((Fl.mk (k := .f64) 4620693217682128896 (by decide)).mul (x27.mul x34)).div (Fl.mk (k := .f64) 4618760256179416344 (by decide))).bits))))), (61, (.v (.one (.c (.bool (a1.lt' (Fl.mk (k := .f64) 0 (by decide))))))))], []⟩) (ob := True ∧ True ∧ True) (by kernel_rfl) ⟨trivial, trivial, trivial⟩ ?_
          refine thenQ_normal ?_
          rcases ite2_cases h with ⟨b41, h⟩ | ⟨b41, h⟩
          · refine AW.cond_t rfl b41 ?_
            refine AW.regionA [] [0, 11] [] (s' := ⟨[(0, (.v (.one (.c (.flt .f64 a0.bits))))), (11, (.v (.one (.c (.flt .f64 ((Fl.mk (k := .f64) 4602678819172646912 (by decide)).sub (((Fl.mk (k := .f64) 4620693217682128896 (by decide)).mul (x27.mul x34)).div (Fl.mk (k := .f64) 4618760256179416344 (by decide)))).bits)))))], []⟩) (ob := True ∧ True ∧ True ∧ True) (by kernel_rfl) ⟨trivial, trivial, trivial, trivial⟩ ?_
            refine thenQ_normal ?_
            refine AW.seq ?_
            refine AW.seq ?_
            refine AW.regionA [] [11, 65] [] (s' := ⟨[(11, (.v (.one (.c (.flt .f64 ((Fl.mk (k := .f64) 4602678819172646912 (by decide)).sub (((Fl.mk (k := .f64) 4620693217682128896 (by decide)).mul (x27.mul x34)).div (Fl.mk (k := .f64) 4618760256179416344 (by decide)))).bits))))), (65, (.v (.one (.c (.bool (a0.lt' (Fl.mk (k := .f64) 0 (by decide))))))))], []⟩) (ob := True ∧ True ∧ True) (by kernel_rfl) ⟨trivial, trivial, trivial⟩ ?_
            refine thenQ_normal ?_
            rcases ite2_cases h with ⟨b42, h⟩ | ⟨b42, h⟩
            · refine AW.cond_t rfl b42 ?_
              refine AW.regionA [] [11] [] (s' := ⟨[(11, (.v (.one (.c (.flt .f64 (((Fl.mk (k := .f64) 4602678819172646912 (by decide)).sub (((Fl.mk (k := .f64) 4620693217682128896 (by decide)).mul (x27.mul x34)).div (Fl.mk (k := .f64) 4618760256179416344 (by decide)))).neg).bits)))))], []⟩) (ob := True ∧ True ∧ True ∧ True) (by kernel_rfl) ⟨trivial, trivial, trivial, trivial⟩ ?_
              refine thenQ_normal ?_
              refine AW.seq ?_
              refine AW.regionA [] [4] [] (s' := ⟨[(4, (.v (.one (.c (.flt .f64 (((Fl.mk (k := .f64) 4602678819172646912 (by decide)).sub (((Fl.mk (k := .f64) 4620693217682128896 (by decide)).mul (x27.mul x34)).div (Fl.mk (k := .f64) 4618760256179416344 (by decide)))).neg).bits)))))], []⟩) (ob := True ∧ True ∧ True) (by kernel_rfl) ⟨trivial, trivial, trivial⟩ ?_
              refine thenQ_normal ?_
              refine AW.ret ?_
              replace h := some_eq h
              subst h
              exact ⟨.inr rfl, retOK_of [(.one (.c (.flt .f64 (((Fl.mk (k := .f64) 4602678819172646912 (by decide)).sub (((Fl.mk (k := .f64) 4620693217682128896 (by decide)).mul (x27.mul x34)).div (Fl.mk (k := .f64) 4618760256179416344 (by decide)))).neg).bits)))] (by kernel_rfl) ⟨⟨rfl, trivial⟩, trivial⟩ (of_decide_eq_true (by kernel_rfl))⟩
            · refine AW.cond_f rfl b42 ?_
              refine AW.skip ?_
              refine thenQ_normal ?_
              refine AW.seq ?_
              refine AW.regionA [] [4] [] (s' := ⟨[(4, (.v (.one (.c (.flt .f64 ((Fl.mk (k := .f64) 4602678819172646912 (by decide)).sub (((Fl.mk (k := .f64) 4620693217682128896 (by decide)).mul (x27.mul x34)).div (Fl.mk (k := .f64) 4618760256179416344 (by decide)))).bits)))))], []⟩) (ob := True ∧ True ∧ True) (by kernel_rfl) ⟨trivial, trivial, trivial⟩ ?_
              refine thenQ_normal ?_
              refine AW.ret ?_
              replace h := some_eq h
              subst h
              exact ⟨.inr rfl, retOK_of [(.one (.c (.flt .f64 ((Fl.mk (k := .f64) 4602678819172646912 (by decide)).sub (((Fl.mk (k := .f64) 4620693217682128896 (by decide)).mul (x27.mul x34)).div (Fl.mk (k := .f64) 4618760256179416344 (by decide)))).bits)))] (by kernel_rfl) ⟨⟨rfl, trivial⟩, trivial⟩ (of_decide_eq_true (by kernel_rfl))⟩
          · refine AW.cond_f rfl b41 ?_
            refine AW.skip ?_
            refine thenQ_normal ?_
            refine AW.seq ?_
            refine AW.seq ?_
            refine AW.regionA [] [11, 65] [] (s' := ⟨[(11, (.v (.one (.c (.flt .f64 (((Fl.mk (k := .f64) 4620693217682128896 (by decide)).mul (x27.mul x34)).div (Fl.mk (k := .f64) 4618760256179416344 (by decide))).bits))))), (65, (.v (.one (.c (.bool (a0.lt' (Fl.mk (k := .f64) 0 (by decide))))))))], []⟩) (ob := True ∧ True ∧ True) (by kernel_rfl) ⟨trivial, trivial, trivial⟩ ?_
            refine thenQ_normal ?_
            rcases ite2_cases h with ⟨b43, h⟩ | ⟨b43, h⟩
            · refine AW.cond_t rfl b43 ?_
              refine AW.regionA [] [11] [] (s' := ⟨[(11, (.v (.one (.c (.flt .f64 ((((Fl.mk (k := .f64) 4620693217682128896 (by decide)).mul (x27.mul x34)).div (Fl.mk (k := .f64) 4618760256179416344 (by decide))).neg).bits)))))], []⟩) (ob := True ∧ True ∧ True ∧ True) (by kernel_rfl) ⟨trivial, trivial, trivial, trivial⟩ ?_
              refine thenQ_normal ?_
              refine AW.seq ?_
              refine AW.regionA [] [4] [] (s' := ⟨[(4, (.v (.one (.c (.flt .f64 ((((Fl.mk (k := .f64) 4620693217682128896 (by decide)).mul (x27.mul x34)).div (Fl.mk (k := .f64) 4618760256179416344 (by decide))).neg).bits)))))], []⟩) (ob := True ∧ True ∧ True) (by kernel_rfl) ⟨trivial, trivial, trivial⟩ ?_
              refine thenQ_normal ?_
              refine AW.ret ?_
              replace h := some_eq h
              subst h
              exact ⟨.inr rfl, retOK_of [(.one (.c (.flt .f64 ((((Fl.mk (k := .f64) 4620693217682128896 (by decide)).mul (x27.mul x34)).div (Fl.mk (k := .f64) 4618760256179416344 (by decide))).neg).bits)))] (by kernel_rfl) ⟨⟨rfl, trivial⟩, trivial⟩ (of_decide_eq_true (by kernel_rfl))⟩
            · refine AW.cond_f rfl b43 ?_
              refine AW.skip ?_
              refine thenQ_normal ?_
              refine AW.seq ?_
              refine AW.regionA [] [4] [] (s' := ⟨[(4, (.v (.one (.c (.flt .f64 (((Fl.mk (k := .f64) 4620693217682128896 (by decide)).mul (x27.mul x34)).div (Fl.mk (k := .f64) 4618760256179416344 (by decide))).bits)))))], []⟩) (ob := True ∧ True ∧ True) (by kernel_rfl) ⟨trivial, trivial, trivial⟩ ?_
              refine thenQ_normal ?_
              refine AW.ret ?_
              replace h := some_eq h
              subst h
              exact ⟨.inr rfl, retOK_of [(.one (.c (.flt .f64 (((Fl.mk (k := .f64) 4620693217682128896 (by decide)).mul (x27.mul x34)).div (Fl.mk (k := .f64) 4618760256179416344 (by decide))).bits)))] (by kernel_rfl) ⟨⟨rfl, trivial⟩, trivial⟩ (of_decide_eq_true (by kernel_rfl))⟩

/-! impl.AngleTurns -/
def impl_AngleTurns (K : Nat) (a0 : F32) (a1 : F32) : Option (F32) :=
  (impl_IsFinite K a1).bind fun v1 => (ite2 ((!v1)) (some true) ((impl_IsFinite K a0).bind fun v4 => some (!v4))).bind fun j6 => ite2 (j6) ((impl_notNumber K ).bind fun v9 => some v9) ((ite2 ((a1.eq (Fl.mk (k := .f32) 0 (by decide)))) (some (a0.eq (Fl.mk (k := .f32) 0 (by decide)))) (some false)).bind fun j12 => ite2 (j12) (some (Fl.mk (k := .f32) 0 (by decide))) ((impl_wideAngle K (Fl.cv .f32 .f64 a0) (Fl.cv .f32 .f64 a1)).bind fun v15 => chk ((convBits .f64 v15.bits .f32).isSome = true) (some (Fl.cv .f64 .f32 v15))))

theorem ok_impl_AngleTurns (K : Nat) (a0 : F32) (a1 : F32) (o : (F32)) (h : impl_AngleTurns K a0 a1 = some o) : CallOK Try.prog 178 [.one (.flt .f32 a0.bits), .one (.flt .f32 a1.bits)] [.one (.flt .f32 o.bits)] := by
  refine callOK_of_AW Try.func178 rfl (by kernel_rfl) (Nat.le_of_ble_eq_true (by kernel_rfl)) ?_
  intro w0
  unfold impl_AngleTurns at h
  refine AW.seq ?_
  refine AW.regionA [] [0, 1] [] (s' := ⟨[(0, (.v (.one (.c (.flt .f32 a0.bits))))), (1, (.v (.one (.c (.flt .f32 a1.bits)))))], []⟩) (ob := True ∧ True) (by kernel_rfl) ⟨trivial, trivial⟩ ?_
  refine thenQ_normal ?_
  refine AW.seq ?_
  refine AW.seq ?_
  obtain ⟨v1, e2, h⟩ := bind_some h
  obtain ⟨j6, e7, h⟩ := bind_some h
  refine AW.join1 (s2 := ⟨[(0, (.v (.one (.c (.flt .f32 a0.bits))))), (1, (.v (.one (.c (.flt .f32 a1.bits))))), (12, (.v (.one (.c (.bool j6)))))], []⟩) ?_ ?_
  · rcases ite2_cases e7 with ⟨b3, e7⟩ | ⟨b3, e7⟩
    · replace e7 := some_eq e7
      subst e7
      exact AW.regionA [.no, .call [.one (.flt .f32 a1.bits)] [.one (.bool v1)] [[.view]], .no, .dec true] [0, 1, 12] [] (s' := ⟨[(0, (.v (.one (.c (.flt .f32 a0.bits))))), (1, (.v (.one (.c (.flt .f32 a1.bits))))), (12, (.v (.one (.c (.bool true)))))], []⟩) (ob := True ∧ (((((.flt .f32 a1.bits) : C) = (.flt .f32 a1.bits)) ∧ True) ∧ CallOK Try.prog 190 [.one (.flt .f32 a1.bits)] [.one (.bool v1)]) ∧ True ∧ (True ∧ (!v1) = true) ∧ True ∧ True ∧ True ∧ True ∧ True) (by kernel_rfl) ⟨trivial, ⟨⟨rfl, trivial⟩, ok_impl_IsFinite K a1 v1 e2⟩, trivial, ⟨trivial, b3⟩, trivial, trivial, trivial, trivial, trivial⟩ ⟨rfl, rfl⟩
    · obtain ⟨v4, e5, e7⟩ := bind_some e7
      replace e7 := some_eq e7
      subst e7
      exact AW.regionA [.no, .call [.one (.flt .f32 a1.bits)] [.one (.bool v1)] [[.view]], .no, .dec false, .no, .call [.one (.flt .f32 a0.bits)] [.one (.bool v4)] [[.view]]] [0, 1, 12] [] (s' := ⟨[(0, (.v (.one (.c (.flt .f32 a0.bits))))), (1, (.v (.one (.c (.flt .f32 a1.bits))))), (12, (.v (.one (.c (.bool (!v4))))))], []⟩) (ob := True ∧ (((((.flt .f32 a1.bits) : C) = (.flt .f32 a1.bits)) ∧ True) ∧ CallOK Try.prog 190 [.one (.flt .f32 a1.bits)] [.one (.bool v1)]) ∧ True ∧ (True ∧ (!v1) = false) ∧ True ∧ (((((.flt .f32 a0.bits) : C) = (.flt .f32 a0.bits)) ∧ True) ∧ CallOK Try.prog 190 [.one (.flt .f32 a0.bits)] [.one (.bool v4)]) ∧ True ∧ True ∧ True) (by kernel_rfl) ⟨trivial, ⟨⟨rfl, trivial⟩, ok_impl_IsFinite K a1 v1 e2⟩, trivial, ⟨trivial, b3⟩, trivial, ⟨⟨rfl, trivial⟩, ok_impl_IsFinite K a0 v4 e5⟩, trivial, trivial, trivial⟩ ⟨rfl, rfl⟩
  refine thenQ_normal ?_
  rcases ite2_cases h with ⟨b8, h⟩ | ⟨b8, h⟩
  · refine AW.cond_t rfl b8 ?_
    refine AW.seq ?_
    obtain ⟨v9, e10, h⟩ := bind_some h
    refine AW.regionA [.call [] [.one (.flt .f32 v9.bits)] [[.view]]] [4] [] (s' := ⟨[(4, (.v (.one (.c (.flt .f32 v9.bits)))))], []⟩) (ob := ((True) ∧ CallOK Try.prog 191 [] [.one (.flt .f32 v9.bits)]) ∧ True ∧ True) (by kernel_rfl) ⟨⟨trivial, ok_impl_notNumber K v9 e10⟩, trivial, trivial⟩ ?_
    refine thenQ_normal ?_
    refine AW.ret ?_
    refine thenQ_ret ?_
    replace h := some_eq h
    subst h
    exact ⟨.inr rfl, retOK_of [(.one (.c (.flt .f32 v9.bits)))] (by kernel_rfl) ⟨⟨rfl, trivial⟩, trivial⟩ (of_decide_eq_true (by kernel_rfl))⟩
  · refine AW.cond_f rfl b8 ?_
    refine AW.skip ?_
    refine thenQ_normal ?_
    refine AW.seq ?_
    refine AW.seq ?_
    obtain ⟨j12, e13, h⟩ := bind_some h
    refine AW.join1 (s2 := ⟨[(0, (.v (.one (.c (.flt .f32 a0.bits))))), (1, (.v (.one (.c (.flt .f32 a1.bits))))), (19, (.v (.one (.c (.bool j12)))))], []⟩) ?_ ?_
    · rcases ite2_cases e13 with ⟨b11, e13⟩ | ⟨b11, e13⟩
      · replace e13 := some_eq e13
        subst e13
        exact AW.regionA [.no, .no, .dec true] [0, 1, 19] [] (s' := ⟨[(0, (.v (.one (.c (.flt .f32 a0.bits))))), (1, (.v (.one (.c (.flt .f32 a1.bits))))), (19, (.v (.one (.c (.bool (a0.eq (Fl.mk (k := .f32) 0 (by decide))))))))], []⟩) (ob := True ∧ True ∧ (True ∧ (a1.eq (Fl.mk (k := .f32) 0 (by decide))) = true) ∧ True ∧ True ∧ True ∧ True) (by kernel_rfl) ⟨trivial, trivial, ⟨trivial, b11⟩, trivial, trivial, trivial, trivial⟩ ⟨rfl, rfl⟩
      · replace e13 := some_eq e13
        subst e13
        exact AW.regionA [.no, .no, .dec false] [0, 1, 19] [] (s' := ⟨[(0, (.v (.one (.c (.flt .f32 a0.bits))))), (1, (.v (.one (.c (.flt .f32 a1.bits))))), (19, (.v (.one (.c (.bool false)))))], []⟩) (ob := True ∧ True ∧ (True ∧ (a1.eq (Fl.mk (k := .f32) 0 (by decide))) = false) ∧ True ∧ True ∧ True ∧ True) (by kernel_rfl) ⟨trivial, trivial, ⟨trivial, b11⟩, trivial, trivial, trivial, trivial⟩ ⟨rfl, rfl⟩
    refine thenQ_normal ?_
    rcases ite2_cases h with ⟨b14, h⟩ | ⟨b14, h⟩
    · refine AW.cond_t rfl b14 ?_
      refine AW.seq ?_
      refine AW.regionA [] [4] [] (s' := ⟨[(4, (.v (.one (.c (.flt .f32 (Fl.mk (k := .f32) 0 (by decide)).bits)))))], []⟩) (ob := True ∧ True) (by kernel_rfl) ⟨trivial, trivial⟩ ?_
      refine thenQ_normal ?_
      refine AW.ret ?_
      refine thenQ_ret ?_
      replace h := some_eq h
      subst h
      exact ⟨.inr rfl, retOK_of [(.one (.c (.flt .f32 (Fl.mk (k := .f32) 0 (by decide)).bits)))] (by kernel_rfl) ⟨⟨rfl, trivial⟩, trivial⟩ (of_decide_eq_true (by kernel_rfl))⟩
    · refine AW.cond_f rfl b14 ?_
      refine AW.skip ?_
      refine thenQ_normal ?_
      refine AW.seq ?_
      obtain ⟨v15, e16, h⟩ := bind_some h
      obtain ⟨c17, h⟩ := chk_some h
      refine AW.regionA [.no, .no, .no, .no, .call [.one (.flt .f64 (Fl.cv .f32 .f64 a0).bits), .one (.flt .f64 (Fl.cv .f32 .f64 a1).bits)] [.one (.flt .f64 v15.bits)] [[.view]]] [4] [] (s' := ⟨[(4, (.v (.one (.c (.flt .f32 (Fl.cv .f64 .f32 v15).bits)))))], []⟩) (ob := True ∧ ((convBits .f32 a0.bits .f64).isSome = true) ∧ True ∧ ((convBits .f32 a1.bits .f64).isSome = true) ∧ (((((.flt .f64 (Fl.cv .f32 .f64 a0).bits) : C) = (.flt .f64 (Fl.cv .f32 .f64 a0).bits)) ∧ (((.flt .f64 (Fl.cv .f32 .f64 a1).bits) : C) = (.flt .f64 (Fl.cv .f32 .f64 a1).bits)) ∧ True) ∧ CallOK Try.prog 192 [.one (.flt .f64 (Fl.cv .f32 .f64 a0).bits), .one (.flt .f64 (Fl.cv .f32 .f64 a1).bits)] [.one (.flt .f64 v15.bits)]) ∧ ((convBits .f64 v15.bits .f32).isSome = true) ∧ True ∧ True) (by kernel_rfl) ⟨trivial, cv_wide a0, trivial, cv_wide a1, ⟨⟨rfl, rfl, trivial⟩, ok_impl_wideAngle K (Fl.cv .f32 .f64 a0) (Fl.cv .f32 .f64 a1) v15 e16⟩, c17, trivial, trivial⟩ ?_
      refine thenQ_normal ?_
      refine AW.ret ?_
      replace h := some_eq h
      subst h
      exact ⟨.inr rfl, retOK_of [(.one (.c (.flt .f32 (Fl.cv .f64 .f32 v15).bits)))] (by kernel_rfl) ⟨⟨rfl, trivial⟩, trivial⟩ (of_decide_eq_true (by kernel_rfl))⟩

/-! impl.AngleOf -/
def impl_AngleOf (K : Nat) (a0 : Turn) : Option (F32) :=
  (impl_Turn_vector K a0).bind fun v1 => (impl_LongOf K v1).bind fun v3 => (impl_size K a0.W).bind fun v5 => (impl_AngleTurns K v3 v5).bind fun v7 => some ((Fl.mk (k := .f32) 1073741824 (by decide)).mul v7)

theorem ok_impl_AngleOf (K : Nat) (a0 : Turn) (o : (F32)) (h : impl_AngleOf K a0 = some o) : CallOK Try.prog 162 [.agg (cs_Turn a0)] [.one (.flt .f32 o.bits)] := by
  refine callOK_of_AW Try.func162 rfl (by kernel_rfl) (Nat.le_of_ble_eq_true (by kernel_rfl)) ?_
  intro w0
  unfold impl_AngleOf at h
  refine AW.seq ?_
  refine AW.regionA [.box 1] [1] [1] (s' := ⟨[(1, (.v (.one (.ptr 1 0))))], [(1, (.box [(.c (.flt .f32 a0.W.bits)), (.c (.flt .f32 a0.X.bits)), (.c (.flt .f32 a0.Y.bits)), (.c (.flt .f32 a0.Z.bits))]))]⟩) (ob := True ∧ True ∧ True) (by kernel_rfl) ⟨trivial, trivial, trivial⟩ ?_
  refine thenQ_normal ?_
  refine AW.seq ?_
  obtain ⟨v1, e2, h⟩ := bind_some h
  obtain ⟨v3, e4, h⟩ := bind_some h
  obtain ⟨v5, e6, h⟩ := bind_some h
  obtain ⟨v7, e8, h⟩ := bind_some h
  refine AW.drawnA (by kernel_rfl) 9 [.no, .call [.agg (cs_Turn a0)] [.agg (cs_Vector v1)] [[.view, .view, .view]], .call [.agg (cs_Vector v1)] [.one (.flt .f32 v3.bits)] [[.view]], .no, .no, .call [.one (.flt .f32 a0.W.bits)] [.one (.flt .f32 v5.bits)] [[.view]], .call [.one (.flt .f32 v3.bits), .one (.flt .f32 v5.bits)] [.one (.flt .f32 v7.bits)] [[.view]]] [2] [] (s' := ⟨[(2, (.v (.one (.c (.flt .f32 ((Fl.mk (k := .f32) 1073741824 (by decide)).mul v7).bits)))))], []⟩) (ob := (True ∧ ((((((.flt .f32 a0.W.bits) : C) = (.flt .f32 a0.W.bits)) ∧ (((.flt .f32 a0.X.bits) : C) = (.flt .f32 a0.X.bits)) ∧ (((.flt .f32 a0.Y.bits) : C) = (.flt .f32 a0.Y.bits)) ∧ (((.flt .f32 a0.Z.bits) : C) = (.flt .f32 a0.Z.bits)) ∧ True) ∧ True) ∧ CallOK Try.prog 180 [.agg (cs_Turn a0)] [.agg (cs_Vector v1)]) ∧ ((((((.flt .f32 v1.X.bits) : C) = (.flt .f32 v1.X.bits)) ∧ (((.flt .f32 v1.Y.bits) : C) = (.flt .f32 v1.Y.bits)) ∧ (((.flt .f32 v1.Z.bits) : C) = (.flt .f32 v1.Z.bits)) ∧ True) ∧ True) ∧ CallOK Try.prog 179 [.agg (cs_Vector v1)] [.one (.flt .f32 v3.bits)]) ∧ True ∧ True ∧ (((((.flt .f32 a0.W.bits) : C) = (.flt .f32 a0.W.bits)) ∧ True) ∧ CallOK Try.prog 181 [.one (.flt .f32 a0.W.bits)] [.one (.flt .f32 v5.bits)]) ∧ (((((.flt .f32 v3.bits) : C) = (.flt .f32 v3.bits)) ∧ (((.flt .f32 v5.bits) : C) = (.flt .f32 v5.bits)) ∧ True) ∧ CallOK Try.prog 178 [.one (.flt .f32 v3.bits), .one (.flt .f32 v5.bits)] [.one (.flt .f32 v7.bits)]) ∧ True ∧ True ∧ True) ∧ (True)) (by kernel_rfl) ⟨⟨trivial, ⟨⟨⟨rfl, rfl, rfl, rfl, trivial⟩, trivial⟩, ok_impl_Turn_vector K a0 v1 e2⟩, ⟨⟨⟨rfl, rfl, rfl, trivial⟩, trivial⟩, ok_impl_LongOf K v1 v3 e4⟩, trivial, trivial, ⟨⟨rfl, trivial⟩, ok_impl_size K a0.W v5 e6⟩, ⟨⟨rfl, rfl, trivial⟩, ok_impl_AngleTurns K v3 v5 v7 e8⟩, trivial, trivial, trivial⟩, trivial⟩ ?_
  refine thenQ_normal ?_
  refine AW.ret ?_
  replace h := some_eq h
  subst h
  exact ⟨.inr rfl, retOK_of [(.one (.c (.flt .f32 ((Fl.mk (k := .f32) 1073741824 (by decide)).mul v7).bits)))] (by kernel_rfl) ⟨⟨rfl, trivial⟩, trivial⟩ (of_decide_eq_true (by kernel_rfl))⟩

/-! impl.ApartTurns -/
def impl_ApartTurns (K : Nat) (a0 : Turn) (a1 : Turn) : Option (F32) :=
  (impl_InverseOf K a0).bind fun v1 => (impl_MulTurns K v1 a1).bind fun v3 => (impl_AngleOf K v3).bind fun v5 => some v5

theorem ok_impl_ApartTurns (K : Nat) (a0 : Turn) (a1 : Turn) (o : (F32)) (h : impl_ApartTurns K a0 a1 = some o) : CallOK Try.prog 138 [.agg (cs_Turn a0), .agg (cs_Turn a1)] [.one (.flt .f32 o.bits)] := by
  refine callOK_of_AW Try.func138 rfl (by kernel_rfl) (Nat.le_of_ble_eq_true (by kernel_rfl)) ?_
  intro w0
  unfold impl_ApartTurns at h
  refine AW.seq ?_
  refine AW.regionA [.box 1, .box 2] [2, 3] [1, 2] (s' := ⟨[(2, (.v (.one (.ptr 1 0)))), (3, (.v (.one (.ptr 2 0))))], [(1, (.box [(.c (.flt .f32 a0.W.bits)), (.c (.flt .f32 a0.X.bits)), (.c (.flt .f32 a0.Y.bits)), (.c (.flt .f32 a0.Z.bits))])), (2, (.box [(.c (.flt .f32 a1.W.bits)), (.c (.flt .f32 a1.X.bits)), (.c (.flt .f32 a1.Y.bits)), (.c (.flt .f32 a1.Z.bits))]))]⟩) (ob := True ∧ True ∧ True ∧ True) (by kernel_rfl) ⟨trivial, trivial, trivial, trivial⟩ ?_
  refine thenQ_normal ?_
  refine AW.seq ?_
  obtain ⟨v1, e2, h⟩ := bind_some h
  obtain ⟨v3, e4, h⟩ := bind_some h
  obtain ⟨v5, e6, h⟩ := bind_some h
  refine AW.drawnA (by kernel_rfl) 6 [.no, .call [.agg (cs_Turn a0)] [.agg (cs_Turn v1)] [[.view, .view, .view, .view]], .no, .call [.agg (cs_Turn v1), .agg (cs_Turn a1)] [.agg (cs_Turn v3)] [[.view, .view, .view, .view]], .call [.agg (cs_Turn v3)] [.one (.flt .f32 v5.bits)] [[.view]]] [4] [] (s' := ⟨[(4, (.v (.one (.c (.flt .f32 v5.bits)))))], []⟩) (ob := (True ∧ ((((((.flt .f32 a0.W.bits) : C) = (.flt .f32 a0.W.bits)) ∧ (((.flt .f32 a0.X.bits) : C) = (.flt .f32 a0.X.bits)) ∧ (((.flt .f32 a0.Y.bits) : C) = (.flt .f32 a0.Y.bits)) ∧ (((.flt .f32 a0.Z.bits) : C) = (.flt .f32 a0.Z.bits)) ∧ True) ∧ True) ∧ CallOK Try.prog 164 [.agg (cs_Turn a0)] [.agg (cs_Turn v1)]) ∧ True ∧ ((((((.flt .f32 v1.W.bits) : C) = (.flt .f32 v1.W.bits)) ∧ (((.flt .f32 v1.X.bits) : C) = (.flt .f32 v1.X.bits)) ∧ (((.flt .f32 v1.Y.bits) : C) = (.flt .f32 v1.Y.bits)) ∧ (((.flt .f32 v1.Z.bits) : C) = (.flt .f32 v1.Z.bits)) ∧ True) ∧ ((((.flt .f32 a1.W.bits) : C) = (.flt .f32 a1.W.bits)) ∧ (((.flt .f32 a1.X.bits) : C) = (.flt .f32 a1.X.bits)) ∧ (((.flt .f32 a1.Y.bits) : C) = (.flt .f32 a1.Y.bits)) ∧ (((.flt .f32 a1.Z.bits) : C) = (.flt .f32 a1.Z.bits)) ∧ True) ∧ True) ∧ CallOK Try.prog 163 [.agg (cs_Turn v1), .agg (cs_Turn a1)] [.agg (cs_Turn v3)]) ∧ ((((((.flt .f32 v3.W.bits) : C) = (.flt .f32 v3.W.bits)) ∧ (((.flt .f32 v3.X.bits) : C) = (.flt .f32 v3.X.bits)) ∧ (((.flt .f32 v3.Y.bits) : C) = (.flt .f32 v3.Y.bits)) ∧ (((.flt .f32 v3.Z.bits) : C) = (.flt .f32 v3.Z.bits)) ∧ True) ∧ True) ∧ CallOK Try.prog 162 [.agg (cs_Turn v3)] [.one (.flt .f32 v5.bits)]) ∧ True ∧ True) ∧ (True)) (by kernel_rfl) ⟨⟨trivial, ⟨⟨⟨rfl, rfl, rfl, rfl, trivial⟩, trivial⟩, ok_impl_InverseOf K a0 v1 e2⟩, trivial, ⟨⟨⟨rfl, rfl, rfl, rfl, trivial⟩, ⟨rfl, rfl, rfl, rfl, trivial⟩, trivial⟩, ok_impl_MulTurns K v1 a1 v3 e4⟩, ⟨⟨⟨rfl, rfl, rfl, rfl, trivial⟩, trivial⟩, ok_impl_AngleOf K v3 v5 e6⟩, trivial, trivial⟩, trivial⟩ ?_
  refine thenQ_normal ?_
  refine AW.ret ?_
  replace h := some_eq h
  subst h
  exact ⟨.inr rfl, retOK_of [(.one (.c (.flt .f32 v5.bits)))] (by kernel_rfl) ⟨⟨rfl, trivial⟩, trivial⟩ (of_decide_eq_true (by kernel_rfl))⟩

/-! impl.sum -/
def impl_sum_l1 (K : Nat) (a0 : (List F32)) : Nat → F32 → Int → Option (F32)
  | 0, _, _ => none
  | k + 1, x3, x4 => ite2 ((decide (x4 < (a0.length : Int)))) (chk (0 ≤ x4 ∧ x4 < (a0.length : Int)) (impl_sum_l1 K a0 k (x3.add (a0.getD x4.toNat default)) (IntKind.i64.wrap (x4 + (1 : Int))))) (some x3)

def impl_sum (K : Nat) (a0 : (List F32)) : Option (F32) :=
  impl_sum_l1 K a0 K (Fl.mk (k := .f32) 0 (by decide)) (0 : Int)

theorem ok_impl_sum (K : Nat) (a0 : (List F32)) (o : (F32)) (h : impl_sum K a0 = some o) : CallOK Try.prog 139 [.one (sl 1 (csF .f32) a0)] [.one (.flt .f32 o.bits)] := by
  refine callOK_of_AW Try.func139 rfl (by kernel_rfl) (Nat.le_of_ble_eq_true (by kernel_rfl)) ?_
  intro w0
  unfold impl_sum at h
  refine AW.seq ?_
  refine AW.regionA [] [0] [] (s' := ⟨[(0, (.v (.one (.c (sl 1 (csF .f32) a0)))))], []⟩) (ob := True ∧ True) (by kernel_rfl) ⟨trivial, trivial⟩ ?_
  refine thenQ_normal ?_
  refine AW.seq ?_
  refine AW.regionA [] [0, 3] [] (s' := ⟨[(0, (.v (.one (.c (sl 1 (csF .f32) a0))))), (3, (.v (.one (.c (.flt .f32 (Fl.mk (k := .f32) 0 (by decide)).bits)))))], []⟩) (ob := True ∧ True) (by kernel_rfl) ⟨trivial, trivial⟩ ?_
  refine thenQ_normal ?_
  refine AW.seq ?_
  refine AW.seq ?_
  refine AW.regionA [] [3, 6, 7, 8] [] (s' := ⟨[(3, (.v (.one (.c (.flt .f32 (Fl.mk (k := .f32) 0 (by decide)).bits))))), (6, (.v (.one (.c (sl 1 (csF .f32) a0))))), (7, (.v (.one (.c (.int .i64 (a0.length : Int)))))), (8, (.v (.one (.c (.int .i64 (0 : Int))))))], []⟩) (ob := True ∧ True ∧ True ∧ True) (by kernel_rfl) ⟨trivial, trivial, trivial, trivial⟩ ?_
  refine thenQ_normal ?_
  refine AW.block ?_
  refine AW.loopQ (σ := Nat × F32 × Int) (fun p => ⟨[(3, (.v (.one (.c (.flt .f32 p.2.1.bits))))), (6, (.v (.one (.c (sl 1 (csF .f32) a0))))), (7, (.v (.one (.c (.int .i64 (a0.length : Int)))))), (8, (.v (.one (.c (.int .i64 p.2.2)))))], []⟩) (fun p => impl_sum_l1 K a0 p.1 p.2.1 p.2.2 = some o) (fun p => p.1) (K, (Fl.mk (k := .f32) 0 (by decide)), (0 : Int)) h ?_
  clear h
  rintro ⟨k, x3, x4⟩ h
  replace h : impl_sum_l1 K a0 k x3 x4 = some o := h
  show AW _ _ (⟨[(3, (.v (.one (.c (.flt .f32 x3.bits))))), (6, (.v (.one (.c (sl 1 (csF .f32) a0))))), (7, (.v (.one (.c (.int .i64 (a0.length : Int)))))), (8, (.v (.one (.c (.int .i64 x4)))))], []⟩ : St) _
  obtain _ | k := k
  · rw [impl_sum_l1] at h; cases h
  rw [impl_sum_l1] at h
  refine AW.seq ?_
  refine AW.regionA [] [3, 6, 7, 8, 9] [] (s' := ⟨[(3, (.v (.one (.c (.flt .f32 x3.bits))))), (6, (.v (.one (.c (sl 1 (csF .f32) a0))))), (7, (.v (.one (.c (.int .i64 (a0.length : Int)))))), (8, (.v (.one (.c (.int .i64 x4))))), (9, (.v (.one (.c (.bool (decide (x4 < (a0.length : Int))))))))], []⟩) (ob := True ∧ True) (by kernel_rfl) ⟨trivial, trivial⟩ ?_
  refine thenQ_normal ?_
  refine AW.seq ?_
  rcases ite2_cases h with ⟨b5, h⟩ | ⟨b5, h⟩
  · refine AW.cond_t rfl b5 ?_
    refine AW.skip ?_
    refine thenQ_normal ?_
    refine AW.seq ?_
    refine AW.block ?_
    refine AW.seq ?_
    obtain ⟨c6, h⟩ := chk_some h
    refine AW.regionA [] [3, 5, 6, 7, 8] [] (s' := ⟨[(3, (.v (.one (.c (.flt .f32 x3.bits))))), (5, (.v (.one (.c (.flt .f32 (a0.getD x4.toNat default).bits))))), (6, (.v (.one (.c (sl 1 (csF .f32) a0))))), (7, (.v (.one (.c (.int .i64 (a0.length : Int)))))), (8, (.v (.one (.c (.int .i64 x4)))))], []⟩) (ob := (0 ≤ x4 ∧ x4 < (a0.length : Int)) ∧ True ∧ True ∧ True) (by kernel_rfl) ⟨c6, trivial, trivial, trivial⟩ ?_
    refine thenQ_normal ?_
    refine AW.regionA [] [3, 6, 7, 8] [] (s' := ⟨[(3, (.v (.one (.c (.flt .f32 (x3.add (a0.getD x4.toNat default)).bits))))), (6, (.v (.one (.c (sl 1 (csF .f32) a0))))), (7, (.v (.one (.c (.int .i64 (a0.length : Int)))))), (8, (.v (.one (.c (.int .i64 x4)))))], []⟩) (ob := True ∧ True ∧ True ∧ True ∧ True) (by kernel_rfl) ⟨trivial, trivial, trivial, trivial, trivial⟩ ?_
    refine blockQ_normal ?_
    refine thenQ_normal ?_
    refine AW.regionA [] [3, 6, 7, 8] [] (s' := ⟨[(3, (.v (.one (.c (.flt .f32 (x3.add (a0.getD x4.toNat default)).bits))))), (6, (.v (.one (.c (sl 1 (csF .f32) a0))))), (7, (.v (.one (.c (.int .i64 (a0.length : Int)))))), (8, (.v (.one (.c (.int .i64 (IntKind.i64.wrap (x4 + (1 : Int))))))))], []⟩) (ob := True ∧ True ∧ True) (by kernel_rfl) ⟨trivial, trivial, trivial⟩ ?_
    exact loopQ_normal (k, (x3.add (a0.getD x4.toNat default)), (IntKind.i64.wrap (x4 + (1 : Int)))) h (Nat.lt_succ_self k) (Sub.keep [3, 6, 7, 8] [] (by kernel_rfl) (by kernel_rfl))
  · refine AW.cond_f rfl b5 ?_
    refine AW.exit ?_
    refine thenQ_exit ?_
    refine loopQ_exit ?_
    refine blockQ_exit ?_
    refine thenQ_normal ?_
    refine AW.seq ?_
    refine AW.regionA [] [2] [] (s' := ⟨[(2, (.v (.one (.c (.flt .f32 x3.bits)))))], []⟩) (ob := True ∧ True ∧ True) (by kernel_rfl) ⟨trivial, trivial, trivial⟩ ?_
    refine thenQ_normal ?_
    refine AW.ret ?_
    replace h := some_eq h
    subst h
    exact ⟨.inr rfl, retOK_of [(.one (.c (.flt .f32 x3.bits)))] (by kernel_rfl) ⟨⟨rfl, trivial⟩, trivial⟩ (of_decide_eq_true (by kernel_rfl))⟩

/-! impl.motion -/
def impl_motion_l5 (K : Nat) (a0 : (List Pose)) (x3 : Int) : Nat → Int → (List F32) → Option ((List F32))
  | 0, _, _ => none
  | k + 1, x23, x24 => ite2 ((decide (x23 < (((a0.getD x3.toNat default).Turns).length : Int)))) (chk (0 ≤ x23 ∧ x23 < (((a0.getD x3.toNat default).Turns).length : Int)) (chk (0 ≤ (IntKind.i64.wrap (x3 - (1 : Int))) ∧ (IntKind.i64.wrap (x3 - (1 : Int))) < (a0.length : Int)) (chk (0 ≤ x23 ∧ x23 < (((a0.getD ((IntKind.i64.wrap (x3 - (1 : Int))).toNat) default).Turns).length : Int)) ((impl_ApartTurns K (((a0.getD ((IntKind.i64.wrap (x3 - (1 : Int))).toNat) default).Turns).getD x23.toNat default) (((a0.getD x3.toNat default).Turns).getD x23.toNat default)).bind fun v29 => chk (0 ≤ x23 ∧ x23 < (x24.length : Int)) (impl_motion_l5 K a0 x3 k (IntKind.i64.wrap (x23 + (1 : Int))) (x24.set x23.toNat v29)))))) (some x24)

def impl_motion_l4 (K : Nat) (a0 : (List Pose)) : Nat → Int → (List F32) → Option ((List F32))
  | 0, _, _ => none
  | k + 1, x3, x4 => ite2 ((decide (x3 < (a0.length : Int)))) (chk (0 ≤ x3 ∧ x3 < (a0.length : Int)) (chk (0 ≤ (((a0.getD x3.toNat default).Turns).length : Int) ∧ (((a0.getD x3.toNat default).Turns).length : Int).toNat * 4 ≤ 140737488355328) ((impl_motion_l5 K a0 x3 K (0 : Int) (List.replicate (((a0.getD x3.toNat default).Turns).length : Int).toNat (default : F32))).bind fun j19 => (impl_sum K j19).bind fun v32 => chk ((x4.length + ([v32]).length) * 4 ≤ 140737488355328) (impl_motion_l4 K a0 k (IntKind.i64.wrap (x3 + (1 : Int))) (x4 ++ ([v32])))))) (some x4)

def impl_motion (K : Nat) (a0 : (List Pose)) : Option ((List F32)) :=
  impl_motion_l4 K a0 K (1 : Int) ([] : (List F32))

theorem ok_impl_motion (K : Nat) (a0 : (List Pose)) (o : ((List F32))) (h : impl_motion K a0 = some o) : CallOK Try.prog 97 [.one (sl 4 cs_Pose a0)] [.one (sl 1 (csF .f32) o)] := by
  refine callOK_of_AW Try.func97 rfl (by kernel_rfl) (Nat.le_of_ble_eq_true (by kernel_rfl)) ?_
  intro w0
  unfold impl_motion at h
  refine AW.seq ?_
  refine AW.regionA [] [0] [] (s' := ⟨[(0, (.v (.one (.c (sl 4 cs_Pose a0)))))], []⟩) (ob := True ∧ True) (by kernel_rfl) ⟨trivial, trivial⟩ ?_
  refine thenQ_normal ?_
  refine AW.seq ?_
  refine AW.regionA [] [0, 3] [] (s' := ⟨[(0, (.v (.one (.c (sl 4 cs_Pose a0))))), (3, (.v (.one .nils)))], []⟩) (ob := True ∧ True) (by kernel_rfl) ⟨trivial, trivial⟩ ?_
  refine thenQ_normal ?_
  refine AW.seq ?_
  refine AW.seq ?_
  refine AW.regionA [] [0, 3, 4] [] (s' := ⟨[(0, (.v (.one (.c (sl 4 cs_Pose a0))))), (3, (.v (.one .nils))), (4, (.v (.one (.c (.int .i64 (1 : Int))))))], []⟩) (ob := True ∧ True) (by kernel_rfl) ⟨trivial, trivial⟩ ?_
  refine thenQ_normal ?_
  refine AW.block ?_
  refine AW.weak (s' := ⟨[(0, (.v (.one (.c (sl 4 cs_Pose a0))))), (3, (.v (.one (.lst 10 ([] : (List F32)).length 1 (gl (csF .f32) ([] : (List F32))))))), (4, (.v (.one (.c (.int .i64 (1 : Int))))))], [(10, (.lst ([] : (List F32)).length 1 (gl (csF .f32) ([] : (List F32)))))]⟩) (Sub.trans (Sub.unnil 10 1 (gl (csF .f32) ([] : (List F32))) [3] [] _ (by kernel_rfl) (by kernel_rfl)) (Sub.keep [0, 3, 4] [10] (by kernel_rfl) (by kernel_rfl))) ?_
  refine AW.loopQ (σ := Nat × Int × (List F32)) (fun p => ⟨[(0, (.v (.one (.c (sl 4 cs_Pose a0))))), (3, (.v (.one (.lst 10 p.2.2.length 1 (gl (csF .f32) p.2.2))))), (4, (.v (.one (.c (.int .i64 p.2.1)))))], [(10, (.lst p.2.2.length 1 (gl (csF .f32) p.2.2)))]⟩) (fun p => impl_motion_l4 K a0 p.1 p.2.1 p.2.2 = some o) (fun p => p.1) (K, (1 : Int), ([] : (List F32))) h ?_
  clear h
  rintro ⟨k, x3, x4⟩ h
  replace h : impl_motion_l4 K a0 k x3 x4 = some o := h
  show AW _ _ (⟨[(0, (.v (.one (.c (sl 4 cs_Pose a0))))), (3, (.v (.one (.lst 10 x4.length 1 (gl (csF .f32) x4))))), (4, (.v (.one (.c (.int .i64 x3)))))], [(10, (.lst x4.length 1 (gl (csF .f32) x4)))]⟩ : St) _
  obtain _ | k := k
  · rw [impl_motion_l4] at h; cases h
  rw [impl_motion_l4] at h
  refine AW.seq ?_
  refine AW.seq ?_
  refine AW.regionA [] [0, 3, 4, 11] [10] (s' := ⟨[(0, (.v (.one (.c (sl 4 cs_Pose a0))))), (3, (.v (.one (.lst 10 x4.length 1 (gl (csF .f32) x4))))), (4, (.v (.one (.c (.int .i64 x3))))), (11, (.v (.one (.c (.bool (decide (x3 < (a0.length : Int))))))))], [(10, (.lst x4.length 1 (gl (csF .f32) x4)))]⟩) (ob := True ∧ True ∧ True ∧ True ∧ True) (by kernel_rfl) ⟨trivial, trivial, trivial, trivial, trivial⟩ ?_
  refine thenQ_normal ?_
  rcases ite2_cases h with ⟨b5, h⟩ | ⟨b5, h⟩
  · refine AW.cond_t rfl b5 ?_
    refine AW.skip ?_
    refine thenQ_normal ?_
    refine AW.seq ?_
    refine AW.block ?_
    refine AW.seq ?_
    obtain ⟨c6, h⟩ := chk_some h
    obtain ⟨c7, h⟩ := chk_some h
    refine AW.regionA [.no, .no, .no, .no, .no, .no, .objA 29 (List.replicate (((a0.getD x3.toNat default).Turns).length : Int).toNat (default : F32)).length (gl (csF .f32) (List.replicate (((a0.getD x3.toNat default).Turns).length : Int).toNat (default : F32)))] [0, 3, 4, 5] [10, 29] (s' := ⟨[(0, (.v (.one (.c (sl 4 cs_Pose a0))))), (3, (.v (.one (.lst 10 x4.length 1 (gl (csF .f32) x4))))), (4, (.v (.one (.c (.int .i64 x3))))), (5, (.v (.one (.arr 29))))], [(10, (.lst x4.length 1 (gl (csF .f32) x4))), (29, (.arr false (List.replicate (((a0.getD x3.toNat default).Turns).length : Int).toNat (default : F32)).length 1 (gl (csF .f32) (List.replicate (((a0.getD x3.toNat default).Turns).length : Int).toNat (default : F32)))))]⟩) (ob := True ∧ True ∧ (0 ≤ x3 ∧ x3 < (a0.length : Int)) ∧ True ∧ True ∧ True ∧ (0 ≤ (((a0.getD x3.toNat default).Turns).length : Int) ∧ (((a0.getD x3.toNat default).Turns).length : Int) = (((a0.getD x3.toNat default).Turns).length : Int) ∧ (((List.replicate (((a0.getD x3.toNat default).Turns).length : Int).toNat (default : F32)).length : Nat) : Int) = (((a0.getD x3.toNat default).Turns).length : Int) ∧ (List.replicate (((a0.getD x3.toNat default).Turns).length : Int).toNat (default : F32)).length * 4 ≤ 140737488355328 ∧ ∀ i, i < (List.replicate (((a0.getD x3.toNat default).Turns).length : Int).toNat (default : F32)).length → zeroRow (fun _ => none) [(.c (.flt .f32 (default : F32).bits))] (gl (csF .f32) (List.replicate (((a0.getD x3.toNat default).Turns).length : Int).toNat (default : F32)) i)) ∧ True ∧ True) (by kernel_rfl) ⟨trivial, trivial, c6, trivial, trivial, trivial, ⟨c7.1, rfl, len_rep c7.1, rep_bytes c7.2, fun i hi => gl_zero (cs := (csF .f32)) (zs := [(.c (.flt .f32 (default : F32).bits))]) (n := (((a0.getD x3.toNat default).Turns).length : Int).toNat) ⟨⟨rfl, trivial⟩, trivial⟩ i (rep_lt hi)⟩, trivial, trivial⟩ ?_
    refine thenQ_normal ?_
    refine AW.seq ?_
    refine AW.seq ?_
    refine AW.regionA [] [0, 3, 4, 5, 25, 26, 27] [10, 29] (s' := ⟨[(0, (.v (.one (.c (sl 4 cs_Pose a0))))), (3, (.v (.one (.lst 10 x4.length 1 (gl (csF .f32) x4))))), (4, (.v (.one (.c (.int .i64 x3))))), (5, (.v (.one (.arr 29)))), (25, (.v (.one (.c (sl 4 cs_Turn ((a0.getD x3.toNat default).Turns)))))), (26, (.v (.one (.c (.int .i64 (((a0.getD x3.toNat default).Turns).length : Int)))))), (27, (.v (.one (.c (.int .i64 (0 : Int))))))], [(10, (.lst x4.length 1 (gl (csF .f32) x4))), (29, (.arr false (List.replicate (((a0.getD x3.toNat default).Turns).length : Int).toNat (default : F32)).length 1 (gl (csF .f32) (List.replicate (((a0.getD x3.toNat default).Turns).length : Int).toNat (default : F32)))))]⟩) (ob := True ∧ True ∧ (0 ≤ x3 ∧ x3 < (a0.length : Int)) ∧ True ∧ True ∧ True ∧ True ∧ True) (by kernel_rfl) ⟨trivial, trivial, c6, trivial, trivial, trivial, trivial, trivial⟩ ?_
    refine thenQ_normal ?_
    obtain ⟨j19, e20, h⟩ := bind_some h
    refine AW.joinS (s2 := ⟨[(0, (.v (.one (.c (sl 4 cs_Pose a0))))), (3, (.v (.one (.lst 10 x4.length 1 (gl (csF .f32) x4))))), (4, (.v (.one (.c (.int .i64 x3))))), (5, (.v (.one (.arr 29))))], [(10, (.lst x4.length 1 (gl (csF .f32) x4))), (29, (.arr false j19.length 1 (gl (csF .f32) j19)))]⟩) ?_ ?_
    · replace h := e20
      refine AW.block ?_
      refine AW.loopQ (σ := Nat × Int × (List F32)) (fun p => ⟨[(0, (.v (.one (.c (sl 4 cs_Pose a0))))), (3, (.v (.one (.lst 10 x4.length 1 (gl (csF .f32) x4))))), (4, (.v (.one (.c (.int .i64 x3))))), (5, (.v (.one (.arr 29)))), (25, (.v (.one (.c (sl 4 cs_Turn ((a0.getD x3.toNat default).Turns)))))), (26, (.v (.one (.c (.int .i64 (((a0.getD x3.toNat default).Turns).length : Int)))))), (27, (.v (.one (.c (.int .i64 p.2.1)))))], [(10, (.lst x4.length 1 (gl (csF .f32) x4))), (29, (.arr false p.2.2.length 1 (gl (csF .f32) p.2.2)))]⟩) (fun p => impl_motion_l5 K a0 x3 p.1 p.2.1 p.2.2 = some j19) (fun p => p.1) (K, (0 : Int), (List.replicate (((a0.getD x3.toNat default).Turns).length : Int).toNat (default : F32))) h ?_
      clear h
      rintro ⟨k, x23, x24⟩ h
      replace h : impl_motion_l5 K a0 x3 k x23 x24 = some j19 := h
      show AW _ _ (⟨[(0, (.v (.one (.c (sl 4 cs_Pose a0))))), (3, (.v (.one (.lst 10 x4.length 1 (gl (csF .f32) x4))))), (4, (.v (.one (.c (.int .i64 x3))))), (5, (.v (.one (.arr 29)))), (25, (.v (.one (.c (sl 4 cs_Turn ((a0.getD x3.toNat default).Turns)))))), (26, (.v (.one (.c (.int .i64 (((a0.getD x3.toNat default).Turns).length : Int)))))), (27, (.v (.one (.c (.int .i64 x23)))))], [(10, (.lst x4.length 1 (gl (csF .f32) x4))), (29, (.arr false x24.length 1 (gl (csF .f32) x24)))]⟩ : St) _
      obtain _ | k := k
      · rw [impl_motion_l5] at h; cases h
      rw [impl_motion_l5] at h
      refine AW.seq ?_
      refine AW.regionA [] [0, 3, 4, 5, 25, 26, 27, 28] [10, 29] (s' := ⟨[(0, (.v (.one (.c (sl 4 cs_Pose a0))))), (3, (.v (.one (.lst 10 x4.length 1 (gl (csF .f32) x4))))), (4, (.v (.one (.c (.int .i64 x3))))), (5, (.v (.one (.arr 29)))), (25, (.v (.one (.c (sl 4 cs_Turn ((a0.getD x3.toNat default).Turns)))))), (26, (.v (.one (.c (.int .i64 (((a0.getD x3.toNat default).Turns).length : Int)))))), (27, (.v (.one (.c (.int .i64 x23))))), (28, (.v (.one (.c (.bool (decide (x23 < (((a0.getD x3.toNat default).Turns).length : Int))))))))], [(10, (.lst x4.length 1 (gl (csF .f32) x4))), (29, (.arr false x24.length 1 (gl (csF .f32) x24)))]⟩) (ob := True ∧ True) (by kernel_rfl) ⟨trivial, trivial⟩ ?_
      refine thenQ_normal ?_
      refine AW.seq ?_
      rcases ite2_cases h with ⟨b25, h⟩ | ⟨b25, h⟩
      · refine AW.cond_t rfl b25 ?_
        refine AW.skip ?_
        refine thenQ_normal ?_
        refine AW.seq ?_
        refine AW.block ?_
        refine AW.seq ?_
        obtain ⟨c26, h⟩ := chk_some h
        refine AW.regionA [.no, .no, .no, .box 35] [0, 3, 4, 5, 6, 7, 25, 26, 27] [10, 29, 35] (s' := ⟨[(0, (.v (.one (.c (sl 4 cs_Pose a0))))), (3, (.v (.one (.lst 10 x4.length 1 (gl (csF .f32) x4))))), (4, (.v (.one (.c (.int .i64 x3))))), (5, (.v (.one (.arr 29)))), (6, (.v (.one (.c (.int .i64 x23))))), (7, (.v (.one (.ptr 35 0)))), (25, (.v (.one (.c (sl 4 cs_Turn ((a0.getD x3.toNat default).Turns)))))), (26, (.v (.one (.c (.int .i64 (((a0.getD x3.toNat default).Turns).length : Int)))))), (27, (.v (.one (.c (.int .i64 x23)))))], [(10, (.lst x4.length 1 (gl (csF .f32) x4))), (29, (.arr false x24.length 1 (gl (csF .f32) x24))), (35, (.box [(.c (.flt .f32 ((((a0.getD x3.toNat default).Turns).getD x23.toNat default).W).bits)), (.c (.flt .f32 ((((a0.getD x3.toNat default).Turns).getD x23.toNat default).X).bits)), (.c (.flt .f32 ((((a0.getD x3.toNat default).Turns).getD x23.toNat default).Y).bits)), (.c (.flt .f32 ((((a0.getD x3.toNat default).Turns).getD x23.toNat default).Z).bits))]))]⟩) (ob := True ∧ (0 ≤ x23 ∧ x23 < (((a0.getD x3.toNat default).Turns).length : Int)) ∧ True ∧ True ∧ True ∧ True ∧ True) (by kernel_rfl) ⟨trivial, c26, trivial, trivial, trivial, trivial, trivial⟩ ?_
        refine thenQ_normal ?_
        obtain ⟨c27, h⟩ := chk_some h
        obtain ⟨c28, h⟩ := chk_some h
        obtain ⟨v29, e30, h⟩ := bind_some h
        obtain ⟨c31, h⟩ := chk_some h
        refine AW.drawnA (by kernel_rfl) 14 [.no, .no, .no, .no, .no, .no, .no, .no, .no, .no, .no, .no, .call [.agg (cs_Turn (((a0.getD ((IntKind.i64.wrap (x3 - (1 : Int))).toNat) default).Turns).getD x23.toNat default)), .agg (cs_Turn (((a0.getD x3.toNat default).Turns).getD x23.toNat default))] [.one (.flt .f32 v29.bits)] [[.view]], .no, .set (x24.set x23.toNat v29).length (gl (csF .f32) (x24.set x23.toNat v29)) ((List.range 1).map fun j => ((csF .f32) v29).getD (0 + j) .nilptr)] [0, 3, 4, 5, 25, 26, 27] [10, 29] (s' := ⟨[(0, (.v (.one (.c (sl 4 cs_Pose a0))))), (3, (.v (.one (.lst 10 x4.length 1 (gl (csF .f32) x4))))), (4, (.v (.one (.c (.int .i64 x3))))), (5, (.v (.one (.arr 29)))), (25, (.v (.one (.c (sl 4 cs_Turn ((a0.getD x3.toNat default).Turns)))))), (26, (.v (.one (.c (.int .i64 (((a0.getD x3.toNat default).Turns).length : Int)))))), (27, (.v (.one (.c (.int .i64 x23)))))], [(10, (.lst x4.length 1 (gl (csF .f32) x4))), (29, (.arr false (x24.set x23.toNat v29).length 1 (gl (csF .f32) (x24.set x23.toNat v29))))]⟩) (ob := (True ∧ True ∧ True ∧ True ∧ True ∧ (0 ≤ (IntKind.i64.wrap (x3 - (1 : Int))) ∧ (IntKind.i64.wrap (x3 - (1 : Int))) < (a0.length : Int)) ∧ True ∧ True ∧ True ∧ (0 ≤ x23 ∧ x23 < (((a0.getD ((IntKind.i64.wrap (x3 - (1 : Int))).toNat) default).Turns).length : Int)) ∧ True ∧ True ∧ ((((((.flt .f32 ((((a0.getD ((IntKind.i64.wrap (x3 - (1 : Int))).toNat) default).Turns).getD x23.toNat default).W).bits) : C) = (.flt .f32 ((((a0.getD ((IntKind.i64.wrap (x3 - (1 : Int))).toNat) default).Turns).getD x23.toNat default).W).bits)) ∧ (((.flt .f32 ((((a0.getD ((IntKind.i64.wrap (x3 - (1 : Int))).toNat) default).Turns).getD x23.toNat default).X).bits) : C) = (.flt .f32 ((((a0.getD ((IntKind.i64.wrap (x3 - (1 : Int))).toNat) default).Turns).getD x23.toNat default).X).bits)) ∧ (((.flt .f32 ((((a0.getD ((IntKind.i64.wrap (x3 - (1 : Int))).toNat) default).Turns).getD x23.toNat default).Y).bits) : C) = (.flt .f32 ((((a0.getD ((IntKind.i64.wrap (x3 - (1 : Int))).toNat) default).Turns).getD x23.toNat default).Y).bits)) ∧ (((.flt .f32 ((((a0.getD ((IntKind.i64.wrap (x3 - (1 : Int))).toNat) default).Turns).getD x23.toNat default).Z).bits) : C) = (.flt .f32 ((((a0.getD ((IntKind.i64.wrap (x3 - (1 : Int))).toNat) default).Turns).getD x23.toNat default).Z).bits)) ∧ True) ∧ ((((.flt .f32 ((((a0.getD x3.toNat default).Turns).getD x23.toNat default).W).bits) : C) = (.flt .f32 ((((a0.getD x3.toNat default).Turns).getD x23.toNat default).W).bits)) ∧ (((.flt .f32 ((((a0.getD x3.toNat default).Turns).getD x23.toNat default).X).bits) : C) = (.flt .f32 ((((a0.getD x3.toNat default).Turns).getD x23.toNat default).X).bits)) ∧ (((.flt .f32 ((((a0.getD x3.toNat default).Turns).getD x23.toNat default).Y).bits) : C) = (.flt .f32 ((((a0.getD x3.toNat default).Turns).getD x23.toNat default).Y).bits)) ∧ (((.flt .f32 ((((a0.getD x3.toNat default).Turns).getD x23.toNat default).Z).bits) : C) = (.flt .f32 ((((a0.getD x3.toNat default).Turns).getD x23.toNat default).Z).bits)) ∧ True) ∧ True) ∧ CallOK Try.prog 138 [.agg (cs_Turn (((a0.getD ((IntKind.i64.wrap (x3 - (1 : Int))).toNat) default).Turns).getD x23.toNat default)), .agg (cs_Turn (((a0.getD x3.toNat default).Turns).getD x23.toNat default))] [.one (.flt .f32 v29.bits)]) ∧ (0 ≤ x23 ∧ x23 < (x24.length : Int)) ∧ True) ∧ (((x24.set x23.toNat v29).length = x24.length ∧ SetOb x24.length 1 x23.toNat 0 1 (gl (csF .f32) x24) (gl (csF .f32) (x24.set x23.toNat v29)) ∧ ((List.range 1).map fun j => ((csF .f32) v29).getD (0 + j) .nilptr) = ((List.range 1).map fun j => gl (csF .f32) (x24.set x23.toNat v29) x23.toNat (0 + j)) ∧ ((((.flt .f32 v29.bits) : C) = (.flt .f32 v29.bits) ∧ True) ∧ True) ∧ (false = true → ∀ j, j < 1 → isSeq (gl (csF .f32) x24 x23.toNat (0 + j)) = false ∧ isSeq (gl (csF .f32) (x24.set x23.toNat v29) x23.toNat (0 + j)) = false)) ∧ True)) (by kernel_rfl) ⟨⟨trivial, trivial, trivial, trivial, trivial, c27, trivial, trivial, trivial, c28, trivial, trivial, ⟨⟨⟨rfl, rfl, rfl, rfl, trivial⟩, ⟨rfl, rfl, rfl, rfl, trivial⟩, trivial⟩, ok_impl_ApartTurns K (((a0.getD ((IntKind.i64.wrap (x3 - (1 : Int))).toNat) default).Turns).getD x23.toNat default) (((a0.getD x3.toNat default).Turns).getD x23.toNat default) v29 e30⟩, c31, trivial⟩, ⟨⟨List.length_set, gl_set, (gl_atp (lt_of_bound c31)).symm, ⟨⟨rfl, trivial⟩, trivial⟩, (fun h => nomatch h)⟩, trivial⟩⟩ ?_
        refine blockQ_normal ?_
        refine thenQ_normal ?_
        refine AW.regionA [] [0, 3, 4, 5, 25, 26, 27] [10, 29] (s' := ⟨[(0, (.v (.one (.c (sl 4 cs_Pose a0))))), (3, (.v (.one (.lst 10 x4.length 1 (gl (csF .f32) x4))))), (4, (.v (.one (.c (.int .i64 x3))))), (5, (.v (.one (.arr 29)))), (25, (.v (.one (.c (sl 4 cs_Turn ((a0.getD x3.toNat default).Turns)))))), (26, (.v (.one (.c (.int .i64 (((a0.getD x3.toNat default).Turns).length : Int)))))), (27, (.v (.one (.c (.int .i64 (IntKind.i64.wrap (x23 + (1 : Int))))))))], [(10, (.lst x4.length 1 (gl (csF .f32) x4))), (29, (.arr false (x24.set x23.toNat v29).length 1 (gl (csF .f32) (x24.set x23.toNat v29))))]⟩) (ob := True ∧ True ∧ True) (by kernel_rfl) ⟨trivial, trivial, trivial⟩ ?_
        exact loopQ_normal (k, (IntKind.i64.wrap (x23 + (1 : Int))), (x24.set x23.toNat v29)) h (Nat.lt_succ_self k) (Sub.keep [0, 3, 4, 5, 25, 26, 27] [10, 29] (by kernel_rfl) (by kernel_rfl))
      · refine AW.cond_f rfl b25 ?_
        refine AW.exit ?_
        refine thenQ_exit ?_
        refine loopQ_exit ?_
        refine blockQ_exit ?_
        replace h := some_eq h
        subst h
        exact ⟨rfl, Sub.keep [0, 3, 4, 5] [10, 29] (by kernel_rfl) (by kernel_rfl)⟩
    refine thenQ_normal ?_
    obtain ⟨v32, e33, h⟩ := bind_some h
    obtain ⟨c34, h⟩ := chk_some h
    refine AW.regionA [.no, .no, .call [.one (sl 1 (csF .f32) j19)] [.one (.flt .f32 v32.bits)] [[.view]], .obj 36 ([v32]).length (gl (csF .f32) ([v32])), .objK 37 (x4 ++ ([v32])).length (gl (csF .f32) (x4 ++ ([v32])))] [0, 3, 4] [37] (s' := ⟨[(0, (.v (.one (.c (sl 4 cs_Pose a0))))), (3, (.v (.one (.lst 37 (x4 ++ ([v32])).length 1 (gl (csF .f32) (x4 ++ ([v32]))))))), (4, (.v (.one (.c (.int .i64 x3)))))], [(37, (.lst (x4 ++ ([v32])).length 1 (gl (csF .f32) (x4 ++ ([v32])))))]⟩) (ob := True ∧ True ∧ (((((sl 1 (csF .f32) j19) : C) = (sl 1 (csF .f32) j19)) ∧ True) ∧ CallOK Try.prog 139 [.one (sl 1 (csF .f32) j19)] [.one (.flt .f32 v32.bits)]) ∧ (([v32]).length = 1 ∧ (((.flt .f32 v32.bits) : C) = (.flt .f32 v32.bits) ∧ True) ∧ True) ∧ ((x4 ++ ([v32])).length = x4.length + ([v32]).length ∧ AppOb (x4.length) (([v32]).length) 1 (gl (csF .f32) x4) (gl (csF .f32) ([v32])) (gl (csF .f32) (x4 ++ ([v32]))) ∧ (∀ i j, i < ([v32]).length → j < 1 → scalarC (gl (csF .f32) ([v32]) i j)) ∧ (x4.length + ([v32]).length) * 4 ≤ 140737488355328) ∧ True ∧ True) (by kernel_rfl) ⟨trivial, trivial, ⟨⟨rfl, trivial⟩, ok_impl_sum K j19 v32 e33⟩, ⟨rfl, ⟨⟨rfl, trivial⟩, trivial⟩⟩, ⟨List.length_append, gl_append, gl_scalar scF _, c34⟩, trivial, trivial⟩ ?_
    refine blockQ_normal ?_
    refine thenQ_normal ?_
    refine AW.regionA [] [0, 3, 4] [37] (s' := ⟨[(0, (.v (.one (.c (sl 4 cs_Pose a0))))), (3, (.v (.one (.lst 37 (x4 ++ ([v32])).length 1 (gl (csF .f32) (x4 ++ ([v32]))))))), (4, (.v (.one (.c (.int .i64 (IntKind.i64.wrap (x3 + (1 : Int))))))))], [(37, (.lst (x4 ++ ([v32])).length 1 (gl (csF .f32) (x4 ++ ([v32])))))]⟩) (ob := True ∧ True ∧ True ∧ True) (by kernel_rfl) ⟨trivial, trivial, trivial, trivial⟩ ?_
    exact loopQ_normal (k, (IntKind.i64.wrap (x3 + (1 : Int))), (x4 ++ ([v32]))) h (Nat.lt_succ_self k) (Sub.trans (Sub.swap 10 37 _ (by kernel_rfl) (by kernel_rfl)) (Sub.keep [0, 3, 4] [10] (by kernel_rfl) (by kernel_rfl)))
  · refine AW.cond_f rfl b5 ?_
    refine AW.exit ?_
    refine thenQ_exit ?_
    refine loopQ_exit ?_
    refine blockQ_exit ?_
    refine thenQ_normal ?_
    refine AW.seq ?_
    refine AW.regionA [] [2] [10] (s' := ⟨[(2, (.v (.one (.lst 10 x4.length 1 (gl (csF .f32) x4)))))], [(10, (.lst x4.length 1 (gl (csF .f32) x4)))]⟩) (ob := True ∧ True ∧ True) (by kernel_rfl) ⟨trivial, trivial, trivial⟩ ?_
    refine thenQ_normal ?_
    refine AW.ret ?_
    replace h := some_eq h
    subst h
    exact ⟨.inr rfl, retOK_of [(.one (.lst 10 x4.length 1 (gl (csF .f32) x4)))] (by kernel_rfl) ⟨rfl, trivial⟩ (of_decide_eq_true (by kernel_rfl))⟩

/-! impl.MotionOf -/
def impl_MotionOf (K : Nat) (a0 : Recording) : Option ((List F32) × Bool) :=
  (impl_ValidRecording K a0).bind fun v1 => ite2 ((!v1)) (some (([] : (List F32)), false)) ((impl_motion K a0.Frames).bind fun v4 => some (v4, true))

theorem ok_impl_MotionOf (K : Nat) (a0 : Recording) (o : ((List F32) × Bool)) (h : impl_MotionOf K a0 = some o) : CallOK Try.prog 45 [.agg (cs_Recording a0)] [.one (sl 1 (csF .f32) o.1), .one (.bool o.2)] := by
  refine callOK_of_AW Try.func45 rfl (by kernel_rfl) (Nat.le_of_ble_eq_true (by kernel_rfl)) ?_
  intro w0
  unfold impl_MotionOf at h
  refine AW.seq ?_
  refine AW.regionA [.box 1] [1] [1] (s' := ⟨[(1, (.v (.one (.ptr 1 0))))], [(1, (.box [(.c (.int .i64 a0.Bones)), (.c (sl 4 cs_Pose a0.Frames))]))]⟩) (ob := True ∧ True ∧ True ∧ True) (by kernel_rfl) ⟨trivial, trivial, trivial, trivial⟩ ?_
  refine thenQ_normal ?_
  refine AW.seq ?_
  refine AW.seq ?_
  obtain ⟨v1, e2, h⟩ := bind_some h
  refine AW.regionA [.no, .call [.agg (cs_Recording a0)] [.one (.bool v1)] [[.view]]] [1, 6] [1] (s' := ⟨[(1, (.v (.one (.ptr 1 0)))), (6, (.v (.one (.c (.bool (!v1))))))], [(1, (.box [(.c (.int .i64 a0.Bones)), (.c (sl 4 cs_Pose a0.Frames))]))]⟩) (ob := True ∧ ((((((.int .i64 a0.Bones) : C) = (.int .i64 a0.Bones)) ∧ (((sl 4 cs_Pose a0.Frames) : C) = (sl 4 cs_Pose a0.Frames)) ∧ True) ∧ True) ∧ CallOK Try.prog 53 [.agg (cs_Recording a0)] [.one (.bool v1)]) ∧ True ∧ True) (by kernel_rfl) ⟨trivial, ⟨⟨⟨rfl, rfl, trivial⟩, trivial⟩, ok_impl_ValidRecording K a0 v1 e2⟩, trivial, trivial⟩ ?_
  refine thenQ_normal ?_
  rcases ite2_cases h with ⟨b3, h⟩ | ⟨b3, h⟩
  · refine AW.cond_t rfl b3 ?_
    refine AW.seq ?_
    refine AW.regionA [] [2, 3] [] (s' := ⟨[(2, (.v (.one .nils))), (3, (.v (.one (.c (.bool false)))))], []⟩) (ob := True ∧ True ∧ True) (by kernel_rfl) ⟨trivial, trivial, trivial⟩ ?_
    refine thenQ_normal ?_
    refine AW.ret ?_
    refine thenQ_ret ?_
    replace h := some_eq h
    subst h
    exact ⟨.inr rfl, retOK_of [(.one .nils), (.one (.c (.bool false)))] (by kernel_rfl) ⟨rfl, ⟨rfl, trivial⟩, trivial⟩ (of_decide_eq_true (by kernel_rfl))⟩
  · refine AW.cond_f rfl b3 ?_
    refine AW.skip ?_
    refine thenQ_normal ?_
    refine AW.seq ?_
    obtain ⟨v4, e5, h⟩ := bind_some h
    refine AW.regionA [.no, .no, .call [.one (sl 4 cs_Pose a0.Frames)] [.one (sl 1 (csF .f32) v4)] [[.lst 2]]] [2, 3] [2] (s' := ⟨[(2, (.v (.one (.lst 2 v4.length 1 (gl (csF .f32) v4))))), (3, (.v (.one (.c (.bool true)))))], [(2, (.lst v4.length 1 (gl (csF .f32) v4)))]⟩) (ob := True ∧ True ∧ (((((sl 4 cs_Pose a0.Frames) : C) = (sl 4 cs_Pose a0.Frames)) ∧ True) ∧ CallOK Try.prog 97 [.one (sl 4 cs_Pose a0.Frames)] [.one (sl 1 (csF .f32) v4)]) ∧ True ∧ True ∧ True) (by kernel_rfl) ⟨trivial, trivial, ⟨⟨rfl, trivial⟩, ok_impl_motion K a0.Frames v4 e5⟩, trivial, trivial, trivial⟩ ?_
    refine thenQ_normal ?_
    refine AW.ret ?_
    replace h := some_eq h
    subst h
    exact ⟨.inr rfl, retOK_of [(.one (.lst 2 v4.length 1 (gl (csF .f32) v4))), (.one (.c (.bool true)))] (by kernel_rfl) ⟨rfl, ⟨rfl, trivial⟩, trivial⟩ (of_decide_eq_true (by kernel_rfl))⟩

/-! laws.sameFloat -/
def laws_sameFloat (_K : Nat) (a0 : F64) (a1 : F64) : Option (Bool) :=
  (ite2 ((a0.ne a0)) (some true) (some (a1.ne a1))).bind fun j2 => ite2 (j2) ((ite2 ((a0.ne a0)) (some (a1.ne a1)) (some false)).bind fun j6 => some j6) ((ite2 ((a0.eq (Fl.mk (k := .f64) 0 (by decide)))) (some (a1.eq (Fl.mk (k := .f64) 0 (by decide)))) (some false)).bind fun j9 => ite2 (j9) (some ((((Fl.mk (k := .f64) 4607182418800017408 (by decide)).div a0).gt (Fl.mk (k := .f64) 0 (by decide))) == (((Fl.mk (k := .f64) 4607182418800017408 (by decide)).div a1).gt (Fl.mk (k := .f64) 0 (by decide))))) (some (a0.eq a1)))

theorem ok_laws_sameFloat (K : Nat) (a0 : F64) (a1 : F64) (o : (Bool)) (h : laws_sameFloat K a0 a1 = some o) : CallOK Try.prog 98 [.one (.flt .f64 a0.bits), .one (.flt .f64 a1.bits)] [.one (.bool o)] := by
  refine callOK_of_AW Try.func98 rfl (by kernel_rfl) (Nat.le_of_ble_eq_true (by kernel_rfl)) ?_
  intro w0
  unfold laws_sameFloat at h
  refine AW.seq ?_
  refine AW.regionA [] [0, 1] [] (s' := ⟨[(0, (.v (.one (.c (.flt .f64 a0.bits))))), (1, (.v (.one (.c (.flt .f64 a1.bits)))))], []⟩) (ob := True ∧ True) (by kernel_rfl) ⟨trivial, trivial⟩ ?_
  refine thenQ_normal ?_
  refine AW.seq ?_
  refine AW.seq ?_
  obtain ⟨j2, e3, h⟩ := bind_some h
  refine AW.join1 (s2 := ⟨[(0, (.v (.one (.c (.flt .f64 a0.bits))))), (1, (.v (.one (.c (.flt .f64 a1.bits))))), (12, (.v (.one (.c (.bool j2)))))], []⟩) ?_ ?_
  · rcases ite2_cases e3 with ⟨b1, e3⟩ | ⟨b1, e3⟩
    · replace e3 := some_eq e3
      subst e3
      exact AW.regionA [.no, .no, .no, .dec true] [0, 1, 12] [] (s' := ⟨[(0, (.v (.one (.c (.flt .f64 a0.bits))))), (1, (.v (.one (.c (.flt .f64 a1.bits))))), (12, (.v (.one (.c (.bool true)))))], []⟩) (ob := True ∧ True ∧ True ∧ (True ∧ (a0.ne a0) = true) ∧ True ∧ True ∧ True ∧ True ∧ True) (by kernel_rfl) ⟨trivial, trivial, trivial, ⟨trivial, b1⟩, trivial, trivial, trivial, trivial, trivial⟩ ⟨rfl, rfl⟩
    · replace e3 := some_eq e3
      subst e3
      exact AW.regionA [.no, .no, .no, .dec false] [0, 1, 12] [] (s' := ⟨[(0, (.v (.one (.c (.flt .f64 a0.bits))))), (1, (.v (.one (.c (.flt .f64 a1.bits))))), (12, (.v (.one (.c (.bool (a1.ne a1))))))], []⟩) (ob := True ∧ True ∧ True ∧ (True ∧ (a0.ne a0) = false) ∧ True ∧ True ∧ True ∧ True ∧ True) (by kernel_rfl) ⟨trivial, trivial, trivial, ⟨trivial, b1⟩, trivial, trivial, trivial, trivial, trivial⟩ ⟨rfl, rfl⟩
  refine thenQ_normal ?_
  rcases ite2_cases h with ⟨b4, h⟩ | ⟨b4, h⟩
  · refine AW.cond_t rfl b4 ?_
    refine AW.seq ?_
    obtain ⟨j6, e7, h⟩ := bind_some h
    refine AW.join1 (s2 := ⟨[(4, (.v (.one (.c (.bool j6)))))], []⟩) ?_ ?_
    · rcases ite2_cases e7 with ⟨b5, e7⟩ | ⟨b5, e7⟩
      · replace e7 := some_eq e7
        subst e7
        exact AW.regionA [.no, .no, .no, .dec true] [4] [] (s' := ⟨[(4, (.v (.one (.c (.bool (a1.ne a1))))))], []⟩) (ob := True ∧ True ∧ True ∧ (True ∧ (a0.ne a0) = true) ∧ True ∧ True ∧ True ∧ True ∧ True ∧ True) (by kernel_rfl) ⟨trivial, trivial, trivial, ⟨trivial, b5⟩, trivial, trivial, trivial, trivial, trivial, trivial⟩ ⟨rfl, rfl⟩
      · replace e7 := some_eq e7
        subst e7
        exact AW.regionA [.no, .no, .no, .dec false] [4] [] (s' := ⟨[(4, (.v (.one (.c (.bool false)))))], []⟩) (ob := True ∧ True ∧ True ∧ (True ∧ (a0.ne a0) = false) ∧ True ∧ True ∧ True ∧ True ∧ True ∧ True) (by kernel_rfl) ⟨trivial, trivial, trivial, ⟨trivial, b5⟩, trivial, trivial, trivial, trivial, trivial, trivial⟩ ⟨rfl, rfl⟩
    refine thenQ_normal ?_
    refine AW.ret ?_
    refine thenQ_ret ?_
    replace h := some_eq h
    subst h
    exact ⟨.inr rfl, retOK_of [(.one (.c (.bool j6)))] (by kernel_rfl) ⟨⟨rfl, trivial⟩, trivial⟩ (of_decide_eq_true (by kernel_rfl))⟩
  · refine AW.cond_f rfl b4 ?_
    refine AW.skip ?_
    refine thenQ_normal ?_
    refine AW.seq ?_
    refine AW.seq ?_
    obtain ⟨j9, e10, h⟩ := bind_some h
    refine AW.join1 (s2 := ⟨[(0, (.v (.one (.c (.flt .f64 a0.bits))))), (1, (.v (.one (.c (.flt .f64 a1.bits))))), (26, (.v (.one (.c (.bool j9)))))], []⟩) ?_ ?_
    · rcases ite2_cases e10 with ⟨b8, e10⟩ | ⟨b8, e10⟩
      · replace e10 := some_eq e10
        subst e10
        exact AW.regionA [.no, .no, .dec true] [0, 1, 26] [] (s' := ⟨[(0, (.v (.one (.c (.flt .f64 a0.bits))))), (1, (.v (.one (.c (.flt .f64 a1.bits))))), (26, (.v (.one (.c (.bool (a1.eq (Fl.mk (k := .f64) 0 (by decide))))))))], []⟩) (ob := True ∧ True ∧ (True ∧ (a0.eq (Fl.mk (k := .f64) 0 (by decide))) = true) ∧ True ∧ True ∧ True ∧ True) (by kernel_rfl) ⟨trivial, trivial, ⟨trivial, b8⟩, trivial, trivial, trivial, trivial⟩ ⟨rfl, rfl⟩
      · replace e10 := some_eq e10
        subst e10
        exact AW.regionA [.no, .no, .dec false] [0, 1, 26] [] (s' := ⟨[(0, (.v (.one (.c (.flt .f64 a0.bits))))), (1, (.v (.one (.c (.flt .f64 a1.bits))))), (26, (.v (.one (.c (.bool false)))))], []⟩) (ob := True ∧ True ∧ (True ∧ (a0.eq (Fl.mk (k := .f64) 0 (by decide))) = false) ∧ True ∧ True ∧ True ∧ True) (by kernel_rfl) ⟨trivial, trivial, ⟨trivial, b8⟩, trivial, trivial, trivial, trivial⟩ ⟨rfl, rfl⟩
    refine thenQ_normal ?_
    rcases ite2_cases h with ⟨b11, h⟩ | ⟨b11, h⟩
    · refine AW.cond_t rfl b11 ?_
      refine AW.seq ?_
      refine AW.regionA [] [4] [] (s' := ⟨[(4, (.v (.one (.c (.bool ((((Fl.mk (k := .f64) 4607182418800017408 (by decide)).div a0).gt (Fl.mk (k := .f64) 0 (by decide))) == (((Fl.mk (k := .f64) 4607182418800017408 (by decide)).div a1).gt (Fl.mk (k := .f64) 0 (by decide)))))))))], []⟩) (ob := True ∧ True ∧ True ∧ True ∧ True ∧ True ∧ True ∧ True ∧ True) (by kernel_rfl) ⟨trivial, trivial, trivial, trivial, trivial, trivial, trivial, trivial, trivial⟩ ?_
      refine thenQ_normal ?_
      refine AW.ret ?_
      refine thenQ_ret ?_
      replace h := some_eq h
      subst h
      exact ⟨.inr rfl, retOK_of [(.one (.c (.bool ((((Fl.mk (k := .f64) 4607182418800017408 (by decide)).div a0).gt (Fl.mk (k := .f64) 0 (by decide))) == (((Fl.mk (k := .f64) 4607182418800017408 (by decide)).div a1).gt (Fl.mk (k := .f64) 0 (by decide)))))))] (by kernel_rfl) ⟨⟨rfl, trivial⟩, trivial⟩ (of_decide_eq_true (by kernel_rfl))⟩
    · refine AW.cond_f rfl b11 ?_
      refine AW.skip ?_
      refine thenQ_normal ?_
      refine AW.seq ?_
      refine AW.regionA [] [4] [] (s' := ⟨[(4, (.v (.one (.c (.bool (a0.eq a1))))))], []⟩) (ob := True ∧ True ∧ True ∧ True ∧ True) (by kernel_rfl) ⟨trivial, trivial, trivial, trivial, trivial⟩ ?_
      refine thenQ_normal ?_
      refine AW.ret ?_
      replace h := some_eq h
      subst h
      exact ⟨.inr rfl, retOK_of [(.one (.c (.bool (a0.eq a1))))] (by kernel_rfl) ⟨⟨rfl, trivial⟩, trivial⟩ (of_decide_eq_true (by kernel_rfl))⟩

/-! laws.eqFloat32S -/
def laws_eqFloat32S_l1 (K : Nat) (a0 : (List F32)) (a1 : (List F32)) : Nat → Int → Option (Bool)
  | 0, _ => none
  | k + 1, x3 => ite2 ((decide (x3 < (a0.length : Int)))) (chk (0 ≤ x3 ∧ x3 < (a0.length : Int)) (chk (0 ≤ x3 ∧ x3 < (a1.length : Int)) ((laws_sameFloat K (Fl.cv .f32 .f64 (a0.getD x3.toNat default)) (Fl.cv .f32 .f64 (a1.getD x3.toNat default))).bind fun v7 => ite2 ((!v7)) (some false) (laws_eqFloat32S_l1 K a0 a1 k (IntKind.i64.wrap (x3 + (1 : Int))))))) (some true)

def laws_eqFloat32S (K : Nat) (a0 : (List F32)) (a1 : (List F32)) : Option (Bool) :=
  ite2 (((a0.length : Int) != (a1.length : Int))) (some false) (laws_eqFloat32S_l1 K a0 a1 K (0 : Int))

theorem ok_laws_eqFloat32S (K : Nat) (a0 : (List F32)) (a1 : (List F32)) (o : (Bool)) (h : laws_eqFloat32S K a0 a1 = some o) : CallOK Try.prog 46 [.one (sl 1 (csF .f32) a0), .one (sl 1 (csF .f32) a1)] [.one (.bool o)] := by
  refine callOK_of_AW Try.func46 rfl (by kernel_rfl) (Nat.le_of_ble_eq_true (by kernel_rfl)) ?_
  intro w0
  unfold laws_eqFloat32S at h
  refine AW.seq ?_
  refine AW.regionA [] [0, 1] [] (s' := ⟨[(0, (.v (.one (.c (sl 1 (csF .f32) a0))))), (1, (.v (.one (.c (sl 1 (csF .f32) a1)))))], []⟩) (ob := True ∧ True) (by kernel_rfl) ⟨trivial, trivial⟩ ?_
  refine thenQ_normal ?_
  refine AW.seq ?_
  refine AW.seq ?_
  refine AW.regionA [] [0, 1, 10] [] (s' := ⟨[(0, (.v (.one (.c (sl 1 (csF .f32) a0))))), (1, (.v (.one (.c (sl 1 (csF .f32) a1))))), (10, (.v (.one (.c (.bool ((a0.length : Int) != (a1.length : Int)))))))], []⟩) (ob := True ∧ True ∧ True ∧ True ∧ True ∧ True) (by kernel_rfl) ⟨trivial, trivial, trivial, trivial, trivial, trivial⟩ ?_
  refine thenQ_normal ?_
  rcases ite2_cases h with ⟨b1, h⟩ | ⟨b1, h⟩
  · refine AW.cond_t rfl b1 ?_
    refine AW.seq ?_
    refine AW.regionA [] [4] [] (s' := ⟨[(4, (.v (.one (.c (.bool false)))))], []⟩) (ob := True ∧ True) (by kernel_rfl) ⟨trivial, trivial⟩ ?_
    refine thenQ_normal ?_
    refine AW.ret ?_
    refine thenQ_ret ?_
    replace h := some_eq h
    subst h
    exact ⟨.inr rfl, retOK_of [(.one (.c (.bool false)))] (by kernel_rfl) ⟨⟨rfl, trivial⟩, trivial⟩ (of_decide_eq_true (by kernel_rfl))⟩
  · refine AW.cond_f rfl b1 ?_
    refine AW.skip ?_
    refine thenQ_normal ?_
    refine AW.seq ?_
    refine AW.seq ?_
    refine AW.regionA [] [0, 1, 5] [] (s' := ⟨[(0, (.v (.one (.c (sl 1 (csF .f32) a0))))), (1, (.v (.one (.c (sl 1 (csF .f32) a1))))), (5, (.v (.one (.c (.int .i64 (0 : Int))))))], []⟩) (ob := True ∧ True) (by kernel_rfl) ⟨trivial, trivial⟩ ?_
    refine thenQ_normal ?_
    refine AW.block ?_
    refine AW.loopQ (σ := Nat × Int) (fun p => ⟨[(0, (.v (.one (.c (sl 1 (csF .f32) a0))))), (1, (.v (.one (.c (sl 1 (csF .f32) a1))))), (5, (.v (.one (.c (.int .i64 p.2)))))], []⟩) (fun p => laws_eqFloat32S_l1 K a0 a1 p.1 p.2 = some o) (fun p => p.1) (K, (0 : Int)) h ?_
    clear h
    rintro ⟨k, x3⟩ h
    replace h : laws_eqFloat32S_l1 K a0 a1 k x3 = some o := h
    show AW _ _ (⟨[(0, (.v (.one (.c (sl 1 (csF .f32) a0))))), (1, (.v (.one (.c (sl 1 (csF .f32) a1))))), (5, (.v (.one (.c (.int .i64 x3)))))], []⟩ : St) _
    obtain _ | k := k
    · rw [laws_eqFloat32S_l1] at h; cases h
    rw [laws_eqFloat32S_l1] at h
    refine AW.seq ?_
    refine AW.seq ?_
    refine AW.regionA [] [0, 1, 5, 14] [] (s' := ⟨[(0, (.v (.one (.c (sl 1 (csF .f32) a0))))), (1, (.v (.one (.c (sl 1 (csF .f32) a1))))), (5, (.v (.one (.c (.int .i64 x3))))), (14, (.v (.one (.c (.bool (decide (x3 < (a0.length : Int))))))))], []⟩) (ob := True ∧ True ∧ True ∧ True ∧ True) (by kernel_rfl) ⟨trivial, trivial, trivial, trivial, trivial⟩ ?_
    refine thenQ_normal ?_
    rcases ite2_cases h with ⟨b4, h⟩ | ⟨b4, h⟩
    · refine AW.cond_t rfl b4 ?_
      refine AW.skip ?_
      refine thenQ_normal ?_
      refine AW.seq ?_
      refine AW.block ?_
      refine AW.seq ?_
      obtain ⟨c5, h⟩ := chk_some h
      obtain ⟨c6, h⟩ := chk_some h
      obtain ⟨v7, e8, h⟩ := bind_some h
      refine AW.drawnA (by kernel_rfl) 12 [.no, .no, .no, .no, .no, .no, .no, .no, .no, .no, .call [.one (.flt .f64 (Fl.cv .f32 .f64 (a0.getD x3.toNat default)).bits), .one (.flt .f64 (Fl.cv .f32 .f64 (a1.getD x3.toNat default)).bits)] [.one (.bool v7)] [[.view]]] [0, 1, 5, 28] [] (s' := ⟨[(0, (.v (.one (.c (sl 1 (csF .f32) a0))))), (1, (.v (.one (.c (sl 1 (csF .f32) a1))))), (5, (.v (.one (.c (.int .i64 x3))))), (28, (.v (.one (.c (.bool (!v7))))))], []⟩) (ob := (True ∧ True ∧ (0 ≤ x3 ∧ x3 < (a0.length : Int)) ∧ True ∧ ((convBits .f32 (a0.getD x3.toNat default).bits .f64).isSome = true) ∧ True ∧ True ∧ (0 ≤ x3 ∧ x3 < (a1.length : Int)) ∧ True ∧ ((convBits .f32 (a1.getD x3.toNat default).bits .f64).isSome = true) ∧ (((((.flt .f64 (Fl.cv .f32 .f64 (a0.getD x3.toNat default)).bits) : C) = (.flt .f64 (Fl.cv .f32 .f64 (a0.getD x3.toNat default)).bits)) ∧ (((.flt .f64 (Fl.cv .f32 .f64 (a1.getD x3.toNat default)).bits) : C) = (.flt .f64 (Fl.cv .f32 .f64 (a1.getD x3.toNat default)).bits)) ∧ True) ∧ CallOK Try.prog 98 [.one (.flt .f64 (Fl.cv .f32 .f64 (a0.getD x3.toNat default)).bits), .one (.flt .f64 (Fl.cv .f32 .f64 (a1.getD x3.toNat default)).bits)] [.one (.bool v7)]) ∧ True ∧ True) ∧ (True)) (by kernel_rfl) ⟨⟨trivial, trivial, c5, trivial, cv_wide (a0.getD x3.toNat default), trivial, trivial, c6, trivial, cv_wide (a1.getD x3.toNat default), ⟨⟨rfl, rfl, trivial⟩, ok_laws_sameFloat K (Fl.cv .f32 .f64 (a0.getD x3.toNat default)) (Fl.cv .f32 .f64 (a1.getD x3.toNat default)) v7 e8⟩, trivial, trivial⟩, trivial⟩ ?_
      refine thenQ_normal ?_
      rcases ite2_cases h with ⟨b9, h⟩ | ⟨b9, h⟩
      · refine AW.cond_t rfl b9 ?_
        refine AW.seq ?_
        refine AW.regionA [] [4] [] (s' := ⟨[(4, (.v (.one (.c (.bool false)))))], []⟩) (ob := True ∧ True) (by kernel_rfl) ⟨trivial, trivial⟩ ?_
        refine thenQ_normal ?_
        refine AW.ret ?_
        refine blockQ_ret ?_
        refine thenQ_ret ?_
        refine loopQ_ret ?_
        refine blockQ_ret ?_
        refine thenQ_ret ?_
        replace h := some_eq h
        subst h
        exact ⟨.inr rfl, retOK_of [(.one (.c (.bool false)))] (by kernel_rfl) ⟨⟨rfl, trivial⟩, trivial⟩ (of_decide_eq_true (by kernel_rfl))⟩
      · refine AW.cond_f rfl b9 ?_
        refine AW.skip ?_
        refine blockQ_normal ?_
        refine thenQ_normal ?_
        refine AW.regionA [] [0, 1, 5] [] (s' := ⟨[(0, (.v (.one (.c (sl 1 (csF .f32) a0))))), (1, (.v (.one (.c (sl 1 (csF .f32) a1))))), (5, (.v (.one (.c (.int .i64 (IntKind.i64.wrap (x3 + (1 : Int))))))))], []⟩) (ob := True ∧ True ∧ True ∧ True) (by kernel_rfl) ⟨trivial, trivial, trivial, trivial⟩ ?_
        exact loopQ_normal (k, (IntKind.i64.wrap (x3 + (1 : Int)))) h (Nat.lt_succ_self k) (Sub.keep [0, 1, 5] [] (by kernel_rfl) (by kernel_rfl))
    · refine AW.cond_f rfl b4 ?_
      refine AW.exit ?_
      refine thenQ_exit ?_
      refine loopQ_exit ?_
      refine blockQ_exit ?_
      refine thenQ_normal ?_
      refine AW.seq ?_
      refine AW.regionA [] [4] [] (s' := ⟨[(4, (.v (.one (.c (.bool true)))))], []⟩) (ob := True ∧ True) (by kernel_rfl) ⟨trivial, trivial⟩ ?_
      refine thenQ_normal ?_
      refine AW.ret ?_
      replace h := some_eq h
      subst h
      exact ⟨.inr rfl, retOK_of [(.one (.c (.bool true)))] (by kernel_rfl) ⟨⟨rfl, trivial⟩, trivial⟩ (of_decide_eq_true (by kernel_rfl))⟩

/-! laws.eqVector -/
def laws_eqVector (K : Nat) (a0 : Vector) (a1 : Vector) : Option (Bool) :=
  (laws_sameFloat K (Fl.cv .f32 .f64 a0.X) (Fl.cv .f32 .f64 a1.X)).bind fun v1 => ite2 ((!v1)) (some false) ((laws_sameFloat K (Fl.cv .f32 .f64 a0.Y) (Fl.cv .f32 .f64 a1.Y)).bind fun v4 => ite2 ((!v4)) (some false) ((laws_sameFloat K (Fl.cv .f32 .f64 a0.Z) (Fl.cv .f32 .f64 a1.Z)).bind fun v7 => ite2 ((!v7)) (some false) (some true)))

theorem ok_laws_eqVector (K : Nat) (a0 : Vector) (a1 : Vector) (o : (Bool)) (h : laws_eqVector K a0 a1 = some o) : CallOK Try.prog 90 [.agg (cs_Vector a0), .agg (cs_Vector a1)] [.one (.bool o)] := by
  refine callOK_of_AW Try.func90 rfl (by kernel_rfl) (Nat.le_of_ble_eq_true (by kernel_rfl)) ?_
  intro w0
  unfold laws_eqVector at h
  refine AW.seq ?_
  refine AW.regionA [.box 1, .box 2] [2, 3] [1, 2] (s' := ⟨[(2, (.v (.one (.ptr 1 0)))), (3, (.v (.one (.ptr 2 0))))], [(1, (.box [(.c (.flt .f32 a0.X.bits)), (.c (.flt .f32 a0.Y.bits)), (.c (.flt .f32 a0.Z.bits))])), (2, (.box [(.c (.flt .f32 a1.X.bits)), (.c (.flt .f32 a1.Y.bits)), (.c (.flt .f32 a1.Z.bits))]))]⟩) (ob := True ∧ True ∧ True ∧ True) (by kernel_rfl) ⟨trivial, trivial, trivial, trivial⟩ ?_
  refine thenQ_normal ?_
  refine AW.seq ?_
  refine AW.seq ?_
  obtain ⟨v1, e2, h⟩ := bind_some h
  refine AW.regionA [.no, .no, .no, .no, .no, .no, .call [.one (.flt .f64 (Fl.cv .f32 .f64 a0.X).bits), .one (.flt .f64 (Fl.cv .f32 .f64 a1.X).bits)] [.one (.bool v1)] [[.view]]] [2, 3, 12] [1, 2] (s' := ⟨[(2, (.v (.one (.ptr 1 0)))), (3, (.v (.one (.ptr 2 0)))), (12, (.v (.one (.c (.bool (!v1))))))], [(1, (.box [(.c (.flt .f32 a0.X.bits)), (.c (.flt .f32 a0.Y.bits)), (.c (.flt .f32 a0.Z.bits))])), (2, (.box [(.c (.flt .f32 a1.X.bits)), (.c (.flt .f32 a1.Y.bits)), (.c (.flt .f32 a1.Z.bits))]))]⟩) (ob := True ∧ True ∧ ((convBits .f32 a0.X.bits .f64).isSome = true) ∧ True ∧ True ∧ ((convBits .f32 a1.X.bits .f64).isSome = true) ∧ (((((.flt .f64 (Fl.cv .f32 .f64 a0.X).bits) : C) = (.flt .f64 (Fl.cv .f32 .f64 a0.X).bits)) ∧ (((.flt .f64 (Fl.cv .f32 .f64 a1.X).bits) : C) = (.flt .f64 (Fl.cv .f32 .f64 a1.X).bits)) ∧ True) ∧ CallOK Try.prog 98 [.one (.flt .f64 (Fl.cv .f32 .f64 a0.X).bits), .one (.flt .f64 (Fl.cv .f32 .f64 a1.X).bits)] [.one (.bool v1)]) ∧ True ∧ True) (by kernel_rfl) ⟨trivial, trivial, cv_wide a0.X, trivial, trivial, cv_wide a1.X, ⟨⟨rfl, rfl, trivial⟩, ok_laws_sameFloat K (Fl.cv .f32 .f64 a0.X) (Fl.cv .f32 .f64 a1.X) v1 e2⟩, trivial, trivial⟩ ?_
  refine thenQ_normal ?_
  rcases ite2_cases h with ⟨b3, h⟩ | ⟨b3, h⟩
  · refine AW.cond_t rfl b3 ?_
    refine AW.seq ?_
    refine AW.regionA [] [4] [] (s' := ⟨[(4, (.v (.one (.c (.bool false)))))], []⟩) (ob := True ∧ True) (by kernel_rfl) ⟨trivial, trivial⟩ ?_
    refine thenQ_normal ?_
    refine AW.ret ?_
    refine thenQ_ret ?_
    replace h := some_eq h
    subst h
    exact ⟨.inr rfl, retOK_of [(.one (.c (.bool false)))] (by kernel_rfl) ⟨⟨rfl, trivial⟩, trivial⟩ (of_decide_eq_true (by kernel_rfl))⟩
  · refine AW.cond_f rfl b3 ?_
    refine AW.skip ?_
    refine thenQ_normal ?_
    refine AW.seq ?_
    refine AW.seq ?_
    obtain ⟨v4, e5, h⟩ := bind_some h
    refine AW.regionA [.no, .no, .no, .no, .no, .no, .call [.one (.flt .f64 (Fl.cv .f32 .f64 a0.Y).bits), .one (.flt .f64 (Fl.cv .f32 .f64 a1.Y).bits)] [.one (.bool v4)] [[.view]]] [2, 3, 20] [1, 2] (s' := ⟨[(2, (.v (.one (.ptr 1 0)))), (3, (.v (.one (.ptr 2 0)))), (20, (.v (.one (.c (.bool (!v4))))))], [(1, (.box [(.c (.flt .f32 a0.X.bits)), (.c (.flt .f32 a0.Y.bits)), (.c (.flt .f32 a0.Z.bits))])), (2, (.box [(.c (.flt .f32 a1.X.bits)), (.c (.flt .f32 a1.Y.bits)), (.c (.flt .f32 a1.Z.bits))]))]⟩) (ob := True ∧ True ∧ ((convBits .f32 a0.Y.bits .f64).isSome = true) ∧ True ∧ True ∧ ((convBits .f32 a1.Y.bits .f64).isSome = true) ∧ (((((.flt .f64 (Fl.cv .f32 .f64 a0.Y).bits) : C) = (.flt .f64 (Fl.cv .f32 .f64 a0.Y).bits)) ∧ (((.flt .f64 (Fl.cv .f32 .f64 a1.Y).bits) : C) = (.flt .f64 (Fl.cv .f32 .f64 a1.Y).bits)) ∧ True) ∧ CallOK Try.prog 98 [.one (.flt .f64 (Fl.cv .f32 .f64 a0.Y).bits), .one (.flt .f64 (Fl.cv .f32 .f64 a1.Y).bits)] [.one (.bool v4)]) ∧ True ∧ True) (by kernel_rfl) ⟨trivial, trivial, cv_wide a0.Y, trivial, trivial, cv_wide a1.Y, ⟨⟨rfl, rfl, trivial⟩, ok_laws_sameFloat K (Fl.cv .f32 .f64 a0.Y) (Fl.cv .f32 .f64 a1.Y) v4 e5⟩, trivial, trivial⟩ ?_
    refine thenQ_normal ?_
    rcases ite2_cases h with ⟨b6, h⟩ | ⟨b6, h⟩
    · refine AW.cond_t rfl b6 ?_
      refine AW.seq ?_
      refine AW.regionA [] [4] [] (s' := ⟨[(4, (.v (.one (.c (.bool false)))))], []⟩) (ob := True ∧ True) (by kernel_rfl) ⟨trivial, trivial⟩ ?_
      refine thenQ_normal ?_
      refine AW.ret ?_
      refine thenQ_ret ?_
      replace h := some_eq h
      subst h
      exact ⟨.inr rfl, retOK_of [(.one (.c (.bool false)))] (by kernel_rfl) ⟨⟨rfl, trivial⟩, trivial⟩ (of_decide_eq_true (by kernel_rfl))⟩
    · refine AW.cond_f rfl b6 ?_
      refine AW.skip ?_
      refine thenQ_normal ?_
      refine AW.seq ?_
      refine AW.seq ?_
      obtain ⟨v7, e8, h⟩ := bind_some h
      refine AW.regionA [.no, .no, .no, .no, .no, .no, .call [.one (.flt .f64 (Fl.cv .f32 .f64 a0.Z).bits), .one (.flt .f64 (Fl.cv .f32 .f64 a1.Z).bits)] [.one (.bool v7)] [[.view]]] [28] [] (s' := ⟨[(28, (.v (.one (.c (.bool (!v7))))))], []⟩) (ob := True ∧ True ∧ ((convBits .f32 a0.Z.bits .f64).isSome = true) ∧ True ∧ True ∧ ((convBits .f32 a1.Z.bits .f64).isSome = true) ∧ (((((.flt .f64 (Fl.cv .f32 .f64 a0.Z).bits) : C) = (.flt .f64 (Fl.cv .f32 .f64 a0.Z).bits)) ∧ (((.flt .f64 (Fl.cv .f32 .f64 a1.Z).bits) : C) = (.flt .f64 (Fl.cv .f32 .f64 a1.Z).bits)) ∧ True) ∧ CallOK Try.prog 98 [.one (.flt .f64 (Fl.cv .f32 .f64 a0.Z).bits), .one (.flt .f64 (Fl.cv .f32 .f64 a1.Z).bits)] [.one (.bool v7)]) ∧ True ∧ True) (by kernel_rfl) ⟨trivial, trivial, cv_wide a0.Z, trivial, trivial, cv_wide a1.Z, ⟨⟨rfl, rfl, trivial⟩, ok_laws_sameFloat K (Fl.cv .f32 .f64 a0.Z) (Fl.cv .f32 .f64 a1.Z) v7 e8⟩, trivial, trivial⟩ ?_
      refine thenQ_normal ?_
      rcases ite2_cases h with ⟨b9, h⟩ | ⟨b9, h⟩
      · refine AW.cond_t rfl b9 ?_
        refine AW.seq ?_
        refine AW.regionA [] [4] [] (s' := ⟨[(4, (.v (.one (.c (.bool false)))))], []⟩) (ob := True ∧ True) (by kernel_rfl) ⟨trivial, trivial⟩ ?_
        refine thenQ_normal ?_
        refine AW.ret ?_
        refine thenQ_ret ?_
        replace h := some_eq h
        subst h
        exact ⟨.inr rfl, retOK_of [(.one (.c (.bool false)))] (by kernel_rfl) ⟨⟨rfl, trivial⟩, trivial⟩ (of_decide_eq_true (by kernel_rfl))⟩
      · refine AW.cond_f rfl b9 ?_
        refine AW.skip ?_
        refine thenQ_normal ?_
        refine AW.seq ?_
        refine AW.regionA [] [4] [] (s' := ⟨[(4, (.v (.one (.c (.bool true)))))], []⟩) (ob := True ∧ True) (by kernel_rfl) ⟨trivial, trivial⟩ ?_
        refine thenQ_normal ?_
        refine AW.ret ?_
        replace h := some_eq h
        subst h
        exact ⟨.inr rfl, retOK_of [(.one (.c (.bool true)))] (by kernel_rfl) ⟨⟨rfl, trivial⟩, trivial⟩ (of_decide_eq_true (by kernel_rfl))⟩

/-! laws.eqTurn -/
def laws_eqTurn (K : Nat) (a0 : Turn) (a1 : Turn) : Option (Bool) :=
  (laws_sameFloat K (Fl.cv .f32 .f64 a0.W) (Fl.cv .f32 .f64 a1.W)).bind fun v1 => ite2 ((!v1)) (some false) ((laws_sameFloat K (Fl.cv .f32 .f64 a0.X) (Fl.cv .f32 .f64 a1.X)).bind fun v4 => ite2 ((!v4)) (some false) ((laws_sameFloat K (Fl.cv .f32 .f64 a0.Y) (Fl.cv .f32 .f64 a1.Y)).bind fun v7 => ite2 ((!v7)) (some false) ((laws_sameFloat K (Fl.cv .f32 .f64 a0.Z) (Fl.cv .f32 .f64 a1.Z)).bind fun v10 => ite2 ((!v10)) (some false) (some true))))

theorem ok_laws_eqTurn (K : Nat) (a0 : Turn) (a1 : Turn) (o : (Bool)) (h : laws_eqTurn K a0 a1 = some o) : CallOK Try.prog 131 [.agg (cs_Turn a0), .agg (cs_Turn a1)] [.one (.bool o)] := by
  refine callOK_of_AW Try.func131 rfl (by kernel_rfl) (Nat.le_of_ble_eq_true (by kernel_rfl)) ?_
  intro w0
  unfold laws_eqTurn at h
  refine AW.seq ?_
  refine AW.regionA [.box 1, .box 2] [2, 3] [1, 2] (s' := ⟨[(2, (.v (.one (.ptr 1 0)))), (3, (.v (.one (.ptr 2 0))))], [(1, (.box [(.c (.flt .f32 a0.W.bits)), (.c (.flt .f32 a0.X.bits)), (.c (.flt .f32 a0.Y.bits)), (.c (.flt .f32 a0.Z.bits))])), (2, (.box [(.c (.flt .f32 a1.W.bits)), (.c (.flt .f32 a1.X.bits)), (.c (.flt .f32 a1.Y.bits)), (.c (.flt .f32 a1.Z.bits))]))]⟩) (ob := True ∧ True ∧ True ∧ True) (by kernel_rfl) ⟨trivial, trivial, trivial, trivial⟩ ?_
  refine thenQ_normal ?_
  refine AW.seq ?_
  refine AW.seq ?_
  obtain ⟨v1, e2, h⟩ := bind_some h
  refine AW.regionA [.no, .no, .no, .no, .no, .no, .call [.one (.flt .f64 (Fl.cv .f32 .f64 a0.W).bits), .one (.flt .f64 (Fl.cv .f32 .f64 a1.W).bits)] [.one (.bool v1)] [[.view]]] [2, 3, 12] [1, 2] (s' := ⟨[(2, (.v (.one (.ptr 1 0)))), (3, (.v (.one (.ptr 2 0)))), (12, (.v (.one (.c (.bool (!v1))))))], [(1, (.box [(.c (.flt .f32 a0.W.bits)), (.c (.flt .f32 a0.X.bits)), (.c (.flt .f32 a0.Y.bits)), (.c (.flt .f32 a0.Z.bits))])), (2, (.box [(.c (.flt .f32 a1.W.bits)), (.c (.flt .f32 a1.X.bits)), (.c (.flt .f32 a1.Y.bits)), (.c (.flt .f32 a1.Z.bits))]))]⟩) (ob := True ∧ True ∧ ((convBits .f32 a0.W.bits .f64).isSome = true) ∧ True ∧ True ∧ ((convBits .f32 a1.W.bits .f64).isSome = true) ∧ (((((.flt .f64 (Fl.cv .f32 .f64 a0.W).bits) : C) = (.flt .f64 (Fl.cv .f32 .f64 a0.W).bits)) ∧ (((.flt .f64 (Fl.cv .f32 .f64 a1.W).bits) : C) = (.flt .f64 (Fl.cv .f32 .f64 a1.W).bits)) ∧ True) ∧ CallOK Try.prog 98 [.one (.flt .f64 (Fl.cv .f32 .f64 a0.W).bits), .one (.flt .f64 (Fl.cv .f32 .f64 a1.W).bits)] [.one (.bool v1)]) ∧ True ∧ True) (by kernel_rfl) ⟨trivial, trivial, cv_wide a0.W, trivial, trivial, cv_wide a1.W, ⟨⟨rfl, rfl, trivial⟩, ok_laws_sameFloat K (Fl.cv .f32 .f64 a0.W) (Fl.cv .f32 .f64 a1.W) v1 e2⟩, trivial, trivial⟩ ?_
  refine thenQ_normal ?_
  rcases ite2_cases h with ⟨b3, h⟩ | ⟨b3, h⟩
  · refine AW.cond_t rfl b3 ?_
    refine AW.seq ?_
    refine AW.regionA [] [4] [] (s' := ⟨[(4, (.v (.one (.c (.bool false)))))], []⟩) (ob := True ∧ True) (by kernel_rfl) ⟨trivial, trivial⟩ ?_
    refine thenQ_normal ?_
    refine AW.ret ?_
    refine thenQ_ret ?_
    replace h := some_eq h
    subst h
    exact ⟨.inr rfl, retOK_of [(.one (.c (.bool false)))] (by kernel_rfl) ⟨⟨rfl, trivial⟩, trivial⟩ (of_decide_eq_true (by kernel_rfl))⟩
  · refine AW.cond_f rfl b3 ?_
    refine AW.skip ?_
    refine thenQ_normal ?_
    refine AW.seq ?_
    refine AW.seq ?_
    obtain ⟨v4, e5, h⟩ := bind_some h
    refine AW.regionA [.no, .no, .no, .no, .no, .no, .call [.one (.flt .f64 (Fl.cv .f32 .f64 a0.X).bits), .one (.flt .f64 (Fl.cv .f32 .f64 a1.X).bits)] [.one (.bool v4)] [[.view]]] [2, 3, 20] [1, 2] (s' := ⟨[(2, (.v (.one (.ptr 1 0)))), (3, (.v (.one (.ptr 2 0)))), (20, (.v (.one (.c (.bool (!v4))))))], [(1, (.box [(.c (.flt .f32 a0.W.bits)), (.c (.flt .f32 a0.X.bits)), (.c (.flt .f32 a0.Y.bits)), (.c (.flt .f32 a0.Z.bits))])), (2, (.box [(.c (.flt .f32 a1.W.bits)), (.c (.flt .f32 a1.X.bits)), (.c (.flt .f32 a1.Y.bits)), (.c (.flt .f32 a1.Z.bits))]))]⟩) (ob := True ∧ True ∧ ((convBits .f32 a0.X.bits .f64).isSome = true) ∧ True ∧ True ∧ ((convBits .f32 a1.X.bits .f64).isSome = true) ∧ (((((.flt .f64 (Fl.cv .f32 .f64 a0.X).bits) : C) = (.flt .f64 (Fl.cv .f32 .f64 a0.X).bits)) ∧ (((.flt .f64 (Fl.cv .f32 .f64 a1.X).bits) : C) = (.flt .f64 (Fl.cv .f32 .f64 a1.X).bits)) ∧ True) ∧ CallOK Try.prog 98 [.one (.flt .f64 (Fl.cv .f32 .f64 a0.X).bits), .one (.flt .f64 (Fl.cv .f32 .f64 a1.X).bits)] [.one (.bool v4)]) ∧ True ∧ True) (by kernel_rfl) ⟨trivial, trivial, cv_wide a0.X, trivial, trivial, cv_wide a1.X, ⟨⟨rfl, rfl, trivial⟩, ok_laws_sameFloat K (Fl.cv .f32 .f64 a0.X) (Fl.cv .f32 .f64 a1.X) v4 e5⟩, trivial, trivial⟩ ?_
    refine thenQ_normal ?_
    rcases ite2_cases h with ⟨b6, h⟩ | ⟨b6, h⟩
    · refine AW.cond_t rfl b6 ?_
      refine AW.seq ?_
      refine AW.regionA [] [4] [] (s' := ⟨[(4, (.v (.one (.c (.bool false)))))], []⟩) (ob := True ∧ True) (by kernel_rfl) ⟨trivial, trivial⟩ ?_
      refine thenQ_normal ?_
      refine AW.ret ?_
      refine thenQ_ret ?_
      replace h := some_eq h
      subst h
      exact ⟨.inr rfl, retOK_of [(.one (.c (.bool false)))] (by kernel_rfl) ⟨⟨rfl, trivial⟩, trivial⟩ (of_decide_eq_true (by kernel_rfl))⟩
    · refine AW.cond_f rfl b6 ?_
      refine AW.skip ?_
      refine thenQ_normal ?_
      refine AW.seq ?_
      refine AW.seq ?_
      obtain ⟨v7, e8, h⟩ := bind_some h
      refine AW.regionA [.no, .no, .no, .no, .no, .no, .call [.one (.flt .f64 (Fl.cv .f32 .f64 a0.Y).bits), .one (.flt .f64 (Fl.cv .f32 .f64 a1.Y).bits)] [.one (.bool v7)] [[.view]]] [2, 3, 28] [1, 2] (s' := ⟨[(2, (.v (.one (.ptr 1 0)))), (3, (.v (.one (.ptr 2 0)))), (28, (.v (.one (.c (.bool (!v7))))))], [(1, (.box [(.c (.flt .f32 a0.W.bits)), (.c (.flt .f32 a0.X.bits)), (.c (.flt .f32 a0.Y.bits)), (.c (.flt .f32 a0.Z.bits))])), (2, (.box [(.c (.flt .f32 a1.W.bits)), (.c (.flt .f32 a1.X.bits)), (.c (.flt .f32 a1.Y.bits)), (.c (.flt .f32 a1.Z.bits))]))]⟩) (ob := True ∧ True ∧ ((convBits .f32 a0.Y.bits .f64).isSome = true) ∧ True ∧ True ∧ ((convBits .f32 a1.Y.bits .f64).isSome = true) ∧ (((((.flt .f64 (Fl.cv .f32 .f64 a0.Y).bits) : C) = (.flt .f64 (Fl.cv .f32 .f64 a0.Y).bits)) ∧ (((.flt .f64 (Fl.cv .f32 .f64 a1.Y).bits) : C) = (.flt .f64 (Fl.cv .f32 .f64 a1.Y).bits)) ∧ True) ∧ CallOK Try.prog 98 [.one (.flt .f64 (Fl.cv .f32 .f64 a0.Y).bits), .one (.flt .f64 (Fl.cv .f32 .f64 a1.Y).bits)] [.one (.bool v7)]) ∧ True ∧ True) (by kernel_rfl) ⟨trivial, trivial, cv_wide a0.Y, trivial, trivial, cv_wide a1.Y, ⟨⟨rfl, rfl, trivial⟩, ok_laws_sameFloat K (Fl.cv .f32 .f64 a0.Y) (Fl.cv .f32 .f64 a1.Y) v7 e8⟩, trivial, trivial⟩ ?_
      refine thenQ_normal ?_
      rcases ite2_cases h with ⟨b9, h⟩ | ⟨b9, h⟩
      · refine AW.cond_t rfl b9 ?_
        refine AW.seq ?_
        refine AW.regionA [] [4] [] (s' := ⟨[(4, (.v (.one (.c (.bool false)))))], []⟩) (ob := True ∧ True) (by kernel_rfl) ⟨trivial, trivial⟩ ?_
        refine thenQ_normal ?_
        refine AW.ret ?_
        refine thenQ_ret ?_
        replace h := some_eq h
        subst h
        exact ⟨.inr rfl, retOK_of [(.one (.c (.bool false)))] (by kernel_rfl) ⟨⟨rfl, trivial⟩, trivial⟩ (of_decide_eq_true (by kernel_rfl))⟩
      · refine AW.cond_f rfl b9 ?_
        refine AW.skip ?_
        refine thenQ_normal ?_
        refine AW.seq ?_
        refine AW.seq ?_
        obtain ⟨v10, e11, h⟩ := bind_some h
        refine AW.regionA [.no, .no, .no, .no, .no, .no, .call [.one (.flt .f64 (Fl.cv .f32 .f64 a0.Z).bits), .one (.flt .f64 (Fl.cv .f32 .f64 a1.Z).bits)] [.one (.bool v10)] [[.view]]] [36] [] (s' := ⟨[(36, (.v (.one (.c (.bool (!v10))))))], []⟩) (ob := True ∧ True ∧ ((convBits .f32 a0.Z.bits .f64).isSome = true) ∧ True ∧ True ∧ ((convBits .f32 a1.Z.bits .f64).isSome = true) ∧ (((((.flt .f64 (Fl.cv .f32 .f64 a0.Z).bits) : C) = (.flt .f64 (Fl.cv .f32 .f64 a0.Z).bits)) ∧ (((.flt .f64 (Fl.cv .f32 .f64 a1.Z).bits) : C) = (.flt .f64 (Fl.cv .f32 .f64 a1.Z).bits)) ∧ True) ∧ CallOK Try.prog 98 [.one (.flt .f64 (Fl.cv .f32 .f64 a0.Z).bits), .one (.flt .f64 (Fl.cv .f32 .f64 a1.Z).bits)] [.one (.bool v10)]) ∧ True ∧ True) (by kernel_rfl) ⟨trivial, trivial, cv_wide a0.Z, trivial, trivial, cv_wide a1.Z, ⟨⟨rfl, rfl, trivial⟩, ok_laws_sameFloat K (Fl.cv .f32 .f64 a0.Z) (Fl.cv .f32 .f64 a1.Z) v10 e11⟩, trivial, trivial⟩ ?_
        refine thenQ_normal ?_
        rcases ite2_cases h with ⟨b12, h⟩ | ⟨b12, h⟩
        · refine AW.cond_t rfl b12 ?_
          refine AW.seq ?_
          refine AW.regionA [] [4] [] (s' := ⟨[(4, (.v (.one (.c (.bool false)))))], []⟩) (ob := True ∧ True) (by kernel_rfl) ⟨trivial, trivial⟩ ?_
          refine thenQ_normal ?_
          refine AW.ret ?_
          refine thenQ_ret ?_
          replace h := some_eq h
          subst h
          exact ⟨.inr rfl, retOK_of [(.one (.c (.bool false)))] (by kernel_rfl) ⟨⟨rfl, trivial⟩, trivial⟩ (of_decide_eq_true (by kernel_rfl))⟩
        · refine AW.cond_f rfl b12 ?_
          refine AW.skip ?_
          refine thenQ_normal ?_
          refine AW.seq ?_
          refine AW.regionA [] [4] [] (s' := ⟨[(4, (.v (.one (.c (.bool true)))))], []⟩) (ob := True ∧ True) (by kernel_rfl) ⟨trivial, trivial⟩ ?_
          refine thenQ_normal ?_
          refine AW.ret ?_
          replace h := some_eq h
          subst h
          exact ⟨.inr rfl, retOK_of [(.one (.c (.bool true)))] (by kernel_rfl) ⟨⟨rfl, trivial⟩, trivial⟩ (of_decide_eq_true (by kernel_rfl))⟩

/-! laws.eqTurnS -/
def laws_eqTurnS_l1 (K : Nat) (a0 : (List Turn)) (a1 : (List Turn)) : Nat → Int → Option (Bool)
  | 0, _ => none
  | k + 1, x3 => ite2 ((decide (x3 < (a0.length : Int)))) (chk (0 ≤ x3 ∧ x3 < (a0.length : Int)) (chk (0 ≤ x3 ∧ x3 < (a1.length : Int)) ((laws_eqTurn K (a0.getD x3.toNat default) (a1.getD x3.toNat default)).bind fun v7 => ite2 ((!v7)) (some false) (laws_eqTurnS_l1 K a0 a1 k (IntKind.i64.wrap (x3 + (1 : Int))))))) (some true)

def laws_eqTurnS (K : Nat) (a0 : (List Turn)) (a1 : (List Turn)) : Option (Bool) :=
  ite2 (((a0.length : Int) != (a1.length : Int))) (some false) (laws_eqTurnS_l1 K a0 a1 K (0 : Int))

theorem ok_laws_eqTurnS (K : Nat) (a0 : (List Turn)) (a1 : (List Turn)) (o : (Bool)) (h : laws_eqTurnS K a0 a1 = some o) : CallOK Try.prog 91 [.one (sl 4 cs_Turn a0), .one (sl 4 cs_Turn a1)] [.one (.bool o)] := by
  refine callOK_of_AW Try.func91 rfl (by kernel_rfl) (Nat.le_of_ble_eq_true (by kernel_rfl)) ?_
  intro w0
  unfold laws_eqTurnS at h
  refine AW.seq ?_
  refine AW.regionA [] [0, 1] [] (s' := ⟨[(0, (.v (.one (.c (sl 4 cs_Turn a0))))), (1, (.v (.one (.c (sl 4 cs_Turn a1)))))], []⟩) (ob := True ∧ True) (by kernel_rfl) ⟨trivial, trivial⟩ ?_
  refine thenQ_normal ?_
  refine AW.seq ?_
  refine AW.seq ?_
  refine AW.regionA [] [0, 1, 10] [] (s' := ⟨[(0, (.v (.one (.c (sl 4 cs_Turn a0))))), (1, (.v (.one (.c (sl 4 cs_Turn a1))))), (10, (.v (.one (.c (.bool ((a0.length : Int) != (a1.length : Int)))))))], []⟩) (ob := True ∧ True ∧ True ∧ True ∧ True ∧ True) (by kernel_rfl) ⟨trivial, trivial, trivial, trivial, trivial, trivial⟩ ?_
  refine thenQ_normal ?_
  rcases ite2_cases h with ⟨b1, h⟩ | ⟨b1, h⟩
  · refine AW.cond_t rfl b1 ?_
    refine AW.seq ?_
    refine AW.regionA [] [4] [] (s' := ⟨[(4, (.v (.one (.c (.bool false)))))], []⟩) (ob := True ∧ True) (by kernel_rfl) ⟨trivial, trivial⟩ ?_
    refine thenQ_normal ?_
    refine AW.ret ?_
    refine thenQ_ret ?_
    replace h := some_eq h
    subst h
    exact ⟨.inr rfl, retOK_of [(.one (.c (.bool false)))] (by kernel_rfl) ⟨⟨rfl, trivial⟩, trivial⟩ (of_decide_eq_true (by kernel_rfl))⟩
  · refine AW.cond_f rfl b1 ?_
    refine AW.skip ?_
    refine thenQ_normal ?_
    refine AW.seq ?_
    refine AW.seq ?_
    refine AW.regionA [] [0, 1, 5] [] (s' := ⟨[(0, (.v (.one (.c (sl 4 cs_Turn a0))))), (1, (.v (.one (.c (sl 4 cs_Turn a1))))), (5, (.v (.one (.c (.int .i64 (0 : Int))))))], []⟩) (ob := True ∧ True) (by kernel_rfl) ⟨trivial, trivial⟩ ?_
    refine thenQ_normal ?_
    refine AW.block ?_
    refine AW.loopQ (σ := Nat × Int) (fun p => ⟨[(0, (.v (.one (.c (sl 4 cs_Turn a0))))), (1, (.v (.one (.c (sl 4 cs_Turn a1))))), (5, (.v (.one (.c (.int .i64 p.2)))))], []⟩) (fun p => laws_eqTurnS_l1 K a0 a1 p.1 p.2 = some o) (fun p => p.1) (K, (0 : Int)) h ?_
    clear h
    rintro ⟨k, x3⟩ h
    replace h : laws_eqTurnS_l1 K a0 a1 k x3 = some o := h
    show AW _ _ (⟨[(0, (.v (.one (.c (sl 4 cs_Turn a0))))), (1, (.v (.one (.c (sl 4 cs_Turn a1))))), (5, (.v (.one (.c (.int .i64 x3)))))], []⟩ : St) _
    obtain _ | k := k
    · rw [laws_eqTurnS_l1] at h; cases h
    rw [laws_eqTurnS_l1] at h
    refine AW.seq ?_
    refine AW.seq ?_
    refine AW.regionA [] [0, 1, 5, 14] [] (s' := ⟨[(0, (.v (.one (.c (sl 4 cs_Turn a0))))), (1, (.v (.one (.c (sl 4 cs_Turn a1))))), (5, (.v (.one (.c (.int .i64 x3))))), (14, (.v (.one (.c (.bool (decide (x3 < (a0.length : Int))))))))], []⟩) (ob := True ∧ True ∧ True ∧ True ∧ True) (by kernel_rfl) ⟨trivial, trivial, trivial, trivial, trivial⟩ ?_
    refine thenQ_normal ?_
    rcases ite2_cases h with ⟨b4, h⟩ | ⟨b4, h⟩
    · refine AW.cond_t rfl b4 ?_
      refine AW.skip ?_
      refine thenQ_normal ?_
      refine AW.seq ?_
      refine AW.block ?_
      refine AW.seq ?_
      obtain ⟨c5, h⟩ := chk_some h
      obtain ⟨c6, h⟩ := chk_some h
      obtain ⟨v7, e8, h⟩ := bind_some h
      refine AW.drawnA (by kernel_rfl) 10 [.no, .no, .no, .no, .no, .no, .no, .no, .call [.agg (cs_Turn (a0.getD x3.toNat default)), .agg (cs_Turn (a1.getD x3.toNat default))] [.one (.bool v7)] [[.view]]] [0, 1, 5, 26] [] (s' := ⟨[(0, (.v (.one (.c (sl 4 cs_Turn a0))))), (1, (.v (.one (.c (sl 4 cs_Turn a1))))), (5, (.v (.one (.c (.int .i64 x3))))), (26, (.v (.one (.c (.bool (!v7))))))], []⟩) (ob := (True ∧ True ∧ (0 ≤ x3 ∧ x3 < (a0.length : Int)) ∧ True ∧ True ∧ True ∧ (0 ≤ x3 ∧ x3 < (a1.length : Int)) ∧ True ∧ ((((((.flt .f32 ((a0.getD x3.toNat default).W).bits) : C) = (.flt .f32 ((a0.getD x3.toNat default).W).bits)) ∧ (((.flt .f32 ((a0.getD x3.toNat default).X).bits) : C) = (.flt .f32 ((a0.getD x3.toNat default).X).bits)) ∧ (((.flt .f32 ((a0.getD x3.toNat default).Y).bits) : C) = (.flt .f32 ((a0.getD x3.toNat default).Y).bits)) ∧ (((.flt .f32 ((a0.getD x3.toNat default).Z).bits) : C) = (.flt .f32 ((a0.getD x3.toNat default).Z).bits)) ∧ True) ∧ ((((.flt .f32 ((a1.getD x3.toNat default).W).bits) : C) = (.flt .f32 ((a1.getD x3.toNat default).W).bits)) ∧ (((.flt .f32 ((a1.getD x3.toNat default).X).bits) : C) = (.flt .f32 ((a1.getD x3.toNat default).X).bits)) ∧ (((.flt .f32 ((a1.getD x3.toNat default).Y).bits) : C) = (.flt .f32 ((a1.getD x3.toNat default).Y).bits)) ∧ (((.flt .f32 ((a1.getD x3.toNat default).Z).bits) : C) = (.flt .f32 ((a1.getD x3.toNat default).Z).bits)) ∧ True) ∧ True) ∧ CallOK Try.prog 131 [.agg (cs_Turn (a0.getD x3.toNat default)), .agg (cs_Turn (a1.getD x3.toNat default))] [.one (.bool v7)]) ∧ True ∧ True) ∧ (True)) (by kernel_rfl) ⟨⟨trivial, trivial, c5, trivial, trivial, trivial, c6, trivial, ⟨⟨⟨rfl, rfl, rfl, rfl, trivial⟩, ⟨rfl, rfl, rfl, rfl, trivial⟩, trivial⟩, ok_laws_eqTurn K (a0.getD x3.toNat default) (a1.getD x3.toNat default) v7 e8⟩, trivial, trivial⟩, trivial⟩ ?_
      refine thenQ_normal ?_
      rcases ite2_cases h with ⟨b9, h⟩ | ⟨b9, h⟩
      · refine AW.cond_t rfl b9 ?_
        refine AW.seq ?_
        refine AW.regionA [] [4] [] (s' := ⟨[(4, (.v (.one (.c (.bool false)))))], []⟩) (ob := True ∧ True) (by kernel_rfl) ⟨trivial, trivial⟩ ?_
        refine thenQ_normal ?_
        refine AW.ret ?_
        refine blockQ_ret ?_
        refine thenQ_ret ?_
        refine loopQ_ret ?_
        refine blockQ_ret ?_
        refine thenQ_ret ?_
        replace h := some_eq h
        subst h
        exact ⟨.inr rfl, retOK_of [(.one (.c (.bool false)))] (by kernel_rfl) ⟨⟨rfl, trivial⟩, trivial⟩ (of_decide_eq_true (by kernel_rfl))⟩
      · refine AW.cond_f rfl b9 ?_
        refine AW.skip ?_
        refine blockQ_normal ?_
        refine thenQ_normal ?_
        refine AW.regionA [] [0, 1, 5] [] (s' := ⟨[(0, (.v (.one (.c (sl 4 cs_Turn a0))))), (1, (.v (.one (.c (sl 4 cs_Turn a1))))), (5, (.v (.one (.c (.int .i64 (IntKind.i64.wrap (x3 + (1 : Int))))))))], []⟩) (ob := True ∧ True ∧ True ∧ True) (by kernel_rfl) ⟨trivial, trivial, trivial, trivial⟩ ?_
        exact loopQ_normal (k, (IntKind.i64.wrap (x3 + (1 : Int)))) h (Nat.lt_succ_self k) (Sub.keep [0, 1, 5] [] (by kernel_rfl) (by kernel_rfl))
    · refine AW.cond_f rfl b4 ?_
      refine AW.exit ?_
      refine thenQ_exit ?_
      refine loopQ_exit ?_
      refine blockQ_exit ?_
      refine thenQ_normal ?_
      refine AW.seq ?_
      refine AW.regionA [] [4] [] (s' := ⟨[(4, (.v (.one (.c (.bool true)))))], []⟩) (ob := True ∧ True) (by kernel_rfl) ⟨trivial, trivial⟩ ?_
      refine thenQ_normal ?_
      refine AW.ret ?_
      replace h := some_eq h
      subst h
      exact ⟨.inr rfl, retOK_of [(.one (.c (.bool true)))] (by kernel_rfl) ⟨⟨rfl, trivial⟩, trivial⟩ (of_decide_eq_true (by kernel_rfl))⟩

/-! laws.eqPose -/
def laws_eqPose (K : Nat) (a0 : Pose) (a1 : Pose) : Option (Bool) :=
  (laws_eqVector K a0.Root a1.Root).bind fun v1 => ite2 ((!v1)) (some false) ((laws_eqTurnS K a0.Turns a1.Turns).bind fun v4 => ite2 ((!v4)) (some false) (some true))

theorem ok_laws_eqPose (K : Nat) (a0 : Pose) (a1 : Pose) (o : (Bool)) (h : laws_eqPose K a0 a1 = some o) : CallOK Try.prog 36 [.agg (cs_Pose a0), .agg (cs_Pose a1)] [.one (.bool o)] := by
  refine callOK_of_AW Try.func36 rfl (by kernel_rfl) (Nat.le_of_ble_eq_true (by kernel_rfl)) ?_
  intro w0
  unfold laws_eqPose at h
  refine AW.seq ?_
  refine AW.regionA [.box 1, .box 2] [2, 3] [1, 2] (s' := ⟨[(2, (.v (.one (.ptr 1 0)))), (3, (.v (.one (.ptr 2 0))))], [(1, (.box [(.c (.flt .f32 a0.Root.X.bits)), (.c (.flt .f32 a0.Root.Y.bits)), (.c (.flt .f32 a0.Root.Z.bits)), (.c (sl 4 cs_Turn a0.Turns))])), (2, (.box [(.c (.flt .f32 a1.Root.X.bits)), (.c (.flt .f32 a1.Root.Y.bits)), (.c (.flt .f32 a1.Root.Z.bits)), (.c (sl 4 cs_Turn a1.Turns))]))]⟩) (ob := True ∧ True ∧ True ∧ True) (by kernel_rfl) ⟨trivial, trivial, trivial, trivial⟩ ?_
  refine thenQ_normal ?_
  refine AW.seq ?_
  refine AW.seq ?_
  obtain ⟨v1, e2, h⟩ := bind_some h
  refine AW.regionA [.no, .no, .no, .no, .call [.agg (cs_Vector a0.Root), .agg (cs_Vector a1.Root)] [.one (.bool v1)] [[.view]]] [2, 3, 10] [1, 2] (s' := ⟨[(2, (.v (.one (.ptr 1 0)))), (3, (.v (.one (.ptr 2 0)))), (10, (.v (.one (.c (.bool (!v1))))))], [(1, (.box [(.c (.flt .f32 a0.Root.X.bits)), (.c (.flt .f32 a0.Root.Y.bits)), (.c (.flt .f32 a0.Root.Z.bits)), (.c (sl 4 cs_Turn a0.Turns))])), (2, (.box [(.c (.flt .f32 a1.Root.X.bits)), (.c (.flt .f32 a1.Root.Y.bits)), (.c (.flt .f32 a1.Root.Z.bits)), (.c (sl 4 cs_Turn a1.Turns))]))]⟩) (ob := True ∧ True ∧ True ∧ True ∧ ((((((.flt .f32 a0.Root.X.bits) : C) = (.flt .f32 a0.Root.X.bits)) ∧ (((.flt .f32 a0.Root.Y.bits) : C) = (.flt .f32 a0.Root.Y.bits)) ∧ (((.flt .f32 a0.Root.Z.bits) : C) = (.flt .f32 a0.Root.Z.bits)) ∧ True) ∧ ((((.flt .f32 a1.Root.X.bits) : C) = (.flt .f32 a1.Root.X.bits)) ∧ (((.flt .f32 a1.Root.Y.bits) : C) = (.flt .f32 a1.Root.Y.bits)) ∧ (((.flt .f32 a1.Root.Z.bits) : C) = (.flt .f32 a1.Root.Z.bits)) ∧ True) ∧ True) ∧ CallOK Try.prog 90 [.agg (cs_Vector a0.Root), .agg (cs_Vector a1.Root)] [.one (.bool v1)]) ∧ True ∧ True) (by kernel_rfl) ⟨trivial, trivial, trivial, trivial, ⟨⟨⟨rfl, rfl, rfl, trivial⟩, ⟨rfl, rfl, rfl, trivial⟩, trivial⟩, ok_laws_eqVector K a0.Root a1.Root v1 e2⟩, trivial, trivial⟩ ?_
  refine thenQ_normal ?_
  rcases ite2_cases h with ⟨b3, h⟩ | ⟨b3, h⟩
  · refine AW.cond_t rfl b3 ?_
    refine AW.seq ?_
    refine AW.regionA [] [4] [] (s' := ⟨[(4, (.v (.one (.c (.bool false)))))], []⟩) (ob := True ∧ True) (by kernel_rfl) ⟨trivial, trivial⟩ ?_
    refine thenQ_normal ?_
    refine AW.ret ?_
    refine thenQ_ret ?_
    replace h := some_eq h
    subst h
    exact ⟨.inr rfl, retOK_of [(.one (.c (.bool false)))] (by kernel_rfl) ⟨⟨rfl, trivial⟩, trivial⟩ (of_decide_eq_true (by kernel_rfl))⟩
  · refine AW.cond_f rfl b3 ?_
    refine AW.skip ?_
    refine thenQ_normal ?_
    refine AW.seq ?_
    refine AW.seq ?_
    obtain ⟨v4, e5, h⟩ := bind_some h
    refine AW.regionA [.no, .no, .no, .no, .call [.one (sl 4 cs_Turn a0.Turns), .one (sl 4 cs_Turn a1.Turns)] [.one (.bool v4)] [[.view]]] [16] [] (s' := ⟨[(16, (.v (.one (.c (.bool (!v4))))))], []⟩) (ob := True ∧ True ∧ True ∧ True ∧ (((((sl 4 cs_Turn a0.Turns) : C) = (sl 4 cs_Turn a0.Turns)) ∧ (((sl 4 cs_Turn a1.Turns) : C) = (sl 4 cs_Turn a1.Turns)) ∧ True) ∧ CallOK Try.prog 91 [.one (sl 4 cs_Turn a0.Turns), .one (sl 4 cs_Turn a1.Turns)] [.one (.bool v4)]) ∧ True ∧ True) (by kernel_rfl) ⟨trivial, trivial, trivial, trivial, ⟨⟨rfl, rfl, trivial⟩, ok_laws_eqTurnS K a0.Turns a1.Turns v4 e5⟩, trivial, trivial⟩ ?_
    refine thenQ_normal ?_
    rcases ite2_cases h with ⟨b6, h⟩ | ⟨b6, h⟩
    · refine AW.cond_t rfl b6 ?_
      refine AW.seq ?_
      refine AW.regionA [] [4] [] (s' := ⟨[(4, (.v (.one (.c (.bool false)))))], []⟩) (ob := True ∧ True) (by kernel_rfl) ⟨trivial, trivial⟩ ?_
      refine thenQ_normal ?_
      refine AW.ret ?_
      refine thenQ_ret ?_
      replace h := some_eq h
      subst h
      exact ⟨.inr rfl, retOK_of [(.one (.c (.bool false)))] (by kernel_rfl) ⟨⟨rfl, trivial⟩, trivial⟩ (of_decide_eq_true (by kernel_rfl))⟩
    · refine AW.cond_f rfl b6 ?_
      refine AW.skip ?_
      refine thenQ_normal ?_
      refine AW.seq ?_
      refine AW.regionA [] [4] [] (s' := ⟨[(4, (.v (.one (.c (.bool true)))))], []⟩) (ob := True ∧ True) (by kernel_rfl) ⟨trivial, trivial⟩ ?_
      refine thenQ_normal ?_
      refine AW.ret ?_
      replace h := some_eq h
      subst h
      exact ⟨.inr rfl, retOK_of [(.one (.c (.bool true)))] (by kernel_rfl) ⟨⟨rfl, trivial⟩, trivial⟩ (of_decide_eq_true (by kernel_rfl))⟩

/-! laws.eqPoseS -/
def laws_eqPoseS_l1 (K : Nat) (a0 : (List Pose)) (a1 : (List Pose)) : Nat → Int → Option (Bool)
  | 0, _ => none
  | k + 1, x3 => ite2 ((decide (x3 < (a0.length : Int)))) (chk (0 ≤ x3 ∧ x3 < (a0.length : Int)) (chk (0 ≤ x3 ∧ x3 < (a1.length : Int)) ((laws_eqPose K (a0.getD x3.toNat default) (a1.getD x3.toNat default)).bind fun v7 => ite2 ((!v7)) (some false) (laws_eqPoseS_l1 K a0 a1 k (IntKind.i64.wrap (x3 + (1 : Int))))))) (some true)

def laws_eqPoseS (K : Nat) (a0 : (List Pose)) (a1 : (List Pose)) : Option (Bool) :=
  ite2 (((a0.length : Int) != (a1.length : Int))) (some false) (laws_eqPoseS_l1 K a0 a1 K (0 : Int))

theorem ok_laws_eqPoseS (K : Nat) (a0 : (List Pose)) (a1 : (List Pose)) (o : (Bool)) (h : laws_eqPoseS K a0 a1 = some o) : CallOK Try.prog 77 [.one (sl 4 cs_Pose a0), .one (sl 4 cs_Pose a1)] [.one (.bool o)] := by
  refine callOK_of_AW Try.func77 rfl (by kernel_rfl) (Nat.le_of_ble_eq_true (by kernel_rfl)) ?_
  intro w0
  unfold laws_eqPoseS at h
  refine AW.seq ?_
  refine AW.regionA [] [0, 1] [] (s' := ⟨[(0, (.v (.one (.c (sl 4 cs_Pose a0))))), (1, (.v (.one (.c (sl 4 cs_Pose a1)))))], []⟩) (ob := True ∧ True) (by kernel_rfl) ⟨trivial, trivial⟩ ?_
  refine thenQ_normal ?_
  refine AW.seq ?_
  refine AW.seq ?_
  refine AW.regionA [] [0, 1, 10] [] (s' := ⟨[(0, (.v (.one (.c (sl 4 cs_Pose a0))))), (1, (.v (.one (.c (sl 4 cs_Pose a1))))), (10, (.v (.one (.c (.bool ((a0.length : Int) != (a1.length : Int)))))))], []⟩) (ob := True ∧ True ∧ True ∧ True ∧ True ∧ True) (by kernel_rfl) ⟨trivial, trivial, trivial, trivial, trivial, trivial⟩ ?_
  refine thenQ_normal ?_
  rcases ite2_cases h with ⟨b1, h⟩ | ⟨b1, h⟩
  · refine AW.cond_t rfl b1 ?_
    refine AW.seq ?_
    refine AW.regionA [] [4] [] (s' := ⟨[(4, (.v (.one (.c (.bool false)))))], []⟩) (ob := True ∧ True) (by kernel_rfl) ⟨trivial, trivial⟩ ?_
    refine thenQ_normal ?_
    refine AW.ret ?_
    refine thenQ_ret ?_
    replace h := some_eq h
    subst h
    exact ⟨.inr rfl, retOK_of [(.one (.c (.bool false)))] (by kernel_rfl) ⟨⟨rfl, trivial⟩, trivial⟩ (of_decide_eq_true (by kernel_rfl))⟩
  · refine AW.cond_f rfl b1 ?_
    refine AW.skip ?_
    refine thenQ_normal ?_
    refine AW.seq ?_
    refine AW.seq ?_
    refine AW.regionA [] [0, 1, 5] [] (s' := ⟨[(0, (.v (.one (.c (sl 4 cs_Pose a0))))), (1, (.v (.one (.c (sl 4 cs_Pose a1))))), (5, (.v (.one (.c (.int .i64 (0 : Int))))))], []⟩) (ob := True ∧ True) (by kernel_rfl) ⟨trivial, trivial⟩ ?_
    refine thenQ_normal ?_
    refine AW.block ?_
    refine AW.loopQ (σ := Nat × Int) (fun p => ⟨[(0, (.v (.one (.c (sl 4 cs_Pose a0))))), (1, (.v (.one (.c (sl 4 cs_Pose a1))))), (5, (.v (.one (.c (.int .i64 p.2)))))], []⟩) (fun p => laws_eqPoseS_l1 K a0 a1 p.1 p.2 = some o) (fun p => p.1) (K, (0 : Int)) h ?_
    clear h
    rintro ⟨k, x3⟩ h
    replace h : laws_eqPoseS_l1 K a0 a1 k x3 = some o := h
    show AW _ _ (⟨[(0, (.v (.one (.c (sl 4 cs_Pose a0))))), (1, (.v (.one (.c (sl 4 cs_Pose a1))))), (5, (.v (.one (.c (.int .i64 x3)))))], []⟩ : St) _
    obtain _ | k := k
    · rw [laws_eqPoseS_l1] at h; cases h
    rw [laws_eqPoseS_l1] at h
    refine AW.seq ?_
    refine AW.seq ?_
    refine AW.regionA [] [0, 1, 5, 14] [] (s' := ⟨[(0, (.v (.one (.c (sl 4 cs_Pose a0))))), (1, (.v (.one (.c (sl 4 cs_Pose a1))))), (5, (.v (.one (.c (.int .i64 x3))))), (14, (.v (.one (.c (.bool (decide (x3 < (a0.length : Int))))))))], []⟩) (ob := True ∧ True ∧ True ∧ True ∧ True) (by kernel_rfl) ⟨trivial, trivial, trivial, trivial, trivial⟩ ?_
    refine thenQ_normal ?_
    rcases ite2_cases h with ⟨b4, h⟩ | ⟨b4, h⟩
    · refine AW.cond_t rfl b4 ?_
      refine AW.skip ?_
      refine thenQ_normal ?_
      refine AW.seq ?_
      refine AW.block ?_
      refine AW.seq ?_
      obtain ⟨c5, h⟩ := chk_some h
      obtain ⟨c6, h⟩ := chk_some h
      obtain ⟨v7, e8, h⟩ := bind_some h
      refine AW.drawnA (by kernel_rfl) 10 [.no, .no, .no, .no, .no, .no, .no, .no, .call [.agg (cs_Pose (a0.getD x3.toNat default)), .agg (cs_Pose (a1.getD x3.toNat default))] [.one (.bool v7)] [[.view]]] [0, 1, 5, 26] [] (s' := ⟨[(0, (.v (.one (.c (sl 4 cs_Pose a0))))), (1, (.v (.one (.c (sl 4 cs_Pose a1))))), (5, (.v (.one (.c (.int .i64 x3))))), (26, (.v (.one (.c (.bool (!v7))))))], []⟩) (ob := (True ∧ True ∧ (0 ≤ x3 ∧ x3 < (a0.length : Int)) ∧ True ∧ True ∧ True ∧ (0 ≤ x3 ∧ x3 < (a1.length : Int)) ∧ True ∧ ((((((.flt .f32 (((a0.getD x3.toNat default).Root).X).bits) : C) = (.flt .f32 (((a0.getD x3.toNat default).Root).X).bits)) ∧ (((.flt .f32 (((a0.getD x3.toNat default).Root).Y).bits) : C) = (.flt .f32 (((a0.getD x3.toNat default).Root).Y).bits)) ∧ (((.flt .f32 (((a0.getD x3.toNat default).Root).Z).bits) : C) = (.flt .f32 (((a0.getD x3.toNat default).Root).Z).bits)) ∧ (((sl 4 cs_Turn ((a0.getD x3.toNat default).Turns)) : C) = (sl 4 cs_Turn ((a0.getD x3.toNat default).Turns))) ∧ True) ∧ ((((.flt .f32 (((a1.getD x3.toNat default).Root).X).bits) : C) = (.flt .f32 (((a1.getD x3.toNat default).Root).X).bits)) ∧ (((.flt .f32 (((a1.getD x3.toNat default).Root).Y).bits) : C) = (.flt .f32 (((a1.getD x3.toNat default).Root).Y).bits)) ∧ (((.flt .f32 (((a1.getD x3.toNat default).Root).Z).bits) : C) = (.flt .f32 (((a1.getD x3.toNat default).Root).Z).bits)) ∧ (((sl 4 cs_Turn ((a1.getD x3.toNat default).Turns)) : C) = (sl 4 cs_Turn ((a1.getD x3.toNat default).Turns))) ∧ True) ∧ True) ∧ CallOK Try.prog 36 [.agg (cs_Pose (a0.getD x3.toNat default)), .agg (cs_Pose (a1.getD x3.toNat default))] [.one (.bool v7)]) ∧ True ∧ True) ∧ (True)) (by kernel_rfl) ⟨⟨trivial, trivial, c5, trivial, trivial, trivial, c6, trivial, ⟨⟨⟨rfl, rfl, rfl, rfl, trivial⟩, ⟨rfl, rfl, rfl, rfl, trivial⟩, trivial⟩, ok_laws_eqPose K (a0.getD x3.toNat default) (a1.getD x3.toNat default) v7 e8⟩, trivial, trivial⟩, trivial⟩ ?_
      refine thenQ_normal ?_
      rcases ite2_cases h with ⟨b9, h⟩ | ⟨b9, h⟩
      · refine AW.cond_t rfl b9 ?_
        refine AW.seq ?_
        refine AW.regionA [] [4] [] (s' := ⟨[(4, (.v (.one (.c (.bool false)))))], []⟩) (ob := True ∧ True) (by kernel_rfl) ⟨trivial, trivial⟩ ?_
        refine thenQ_normal ?_
        refine AW.ret ?_
        refine blockQ_ret ?_
        refine thenQ_ret ?_
        refine loopQ_ret ?_
        refine blockQ_ret ?_
        refine thenQ_ret ?_
        replace h := some_eq h
        subst h
        exact ⟨.inr rfl, retOK_of [(.one (.c (.bool false)))] (by kernel_rfl) ⟨⟨rfl, trivial⟩, trivial⟩ (of_decide_eq_true (by kernel_rfl))⟩
      · refine AW.cond_f rfl b9 ?_
        refine AW.skip ?_
        refine blockQ_normal ?_
        refine thenQ_normal ?_
        refine AW.regionA [] [0, 1, 5] [] (s' := ⟨[(0, (.v (.one (.c (sl 4 cs_Pose a0))))), (1, (.v (.one (.c (sl 4 cs_Pose a1))))), (5, (.v (.one (.c (.int .i64 (IntKind.i64.wrap (x3 + (1 : Int))))))))], []⟩) (ob := True ∧ True ∧ True ∧ True) (by kernel_rfl) ⟨trivial, trivial, trivial, trivial⟩ ?_
        exact loopQ_normal (k, (IntKind.i64.wrap (x3 + (1 : Int)))) h (Nat.lt_succ_self k) (Sub.keep [0, 1, 5] [] (by kernel_rfl) (by kernel_rfl))
    · refine AW.cond_f rfl b4 ?_
      refine AW.exit ?_
      refine thenQ_exit ?_
      refine loopQ_exit ?_
      refine blockQ_exit ?_
      refine thenQ_normal ?_
      refine AW.seq ?_
      refine AW.regionA [] [4] [] (s' := ⟨[(4, (.v (.one (.c (.bool true)))))], []⟩) (ob := True ∧ True) (by kernel_rfl) ⟨trivial, trivial⟩ ?_
      refine thenQ_normal ?_
      refine AW.ret ?_
      replace h := some_eq h
      subst h
      exact ⟨.inr rfl, retOK_of [(.one (.c (.bool true)))] (by kernel_rfl) ⟨⟨rfl, trivial⟩, trivial⟩ (of_decide_eq_true (by kernel_rfl))⟩

/-! laws.eqRecording -/
def laws_eqRecording (K : Nat) (a0 : Recording) (a1 : Recording) : Option (Bool) :=
  ite2 ((a0.Bones != a1.Bones)) (some false) ((laws_eqPoseS K a0.Frames a1.Frames).bind fun v2 => ite2 ((!v2)) (some false) (some true))

theorem ok_laws_eqRecording (K : Nat) (a0 : Recording) (a1 : Recording) (o : (Bool)) (h : laws_eqRecording K a0 a1 = some o) : CallOK Try.prog 25 [.agg (cs_Recording a0), .agg (cs_Recording a1)] [.one (.bool o)] := by
  refine callOK_of_AW Try.func25 rfl (by kernel_rfl) (Nat.le_of_ble_eq_true (by kernel_rfl)) ?_
  intro w0
  unfold laws_eqRecording at h
  refine AW.seq ?_
  refine AW.regionA [.box 1, .box 2] [2, 3] [1, 2] (s' := ⟨[(2, (.v (.one (.ptr 1 0)))), (3, (.v (.one (.ptr 2 0))))], [(1, (.box [(.c (.int .i64 a0.Bones)), (.c (sl 4 cs_Pose a0.Frames))])), (2, (.box [(.c (.int .i64 a1.Bones)), (.c (sl 4 cs_Pose a1.Frames))]))]⟩) (ob := True ∧ True ∧ True ∧ True) (by kernel_rfl) ⟨trivial, trivial, trivial, trivial⟩ ?_
  refine thenQ_normal ?_
  refine AW.seq ?_
  refine AW.seq ?_
  refine AW.regionA [] [2, 3, 9] [1, 2] (s' := ⟨[(2, (.v (.one (.ptr 1 0)))), (3, (.v (.one (.ptr 2 0)))), (9, (.v (.one (.c (.bool (a0.Bones != a1.Bones))))))], [(1, (.box [(.c (.int .i64 a0.Bones)), (.c (sl 4 cs_Pose a0.Frames))])), (2, (.box [(.c (.int .i64 a1.Bones)), (.c (sl 4 cs_Pose a1.Frames))]))]⟩) (ob := True ∧ True ∧ True ∧ True ∧ True ∧ True) (by kernel_rfl) ⟨trivial, trivial, trivial, trivial, trivial, trivial⟩ ?_
  refine thenQ_normal ?_
  rcases ite2_cases h with ⟨b1, h⟩ | ⟨b1, h⟩
  · refine AW.cond_t rfl b1 ?_
    refine AW.seq ?_
    refine AW.regionA [] [4] [] (s' := ⟨[(4, (.v (.one (.c (.bool false)))))], []⟩) (ob := True ∧ True) (by kernel_rfl) ⟨trivial, trivial⟩ ?_
    refine thenQ_normal ?_
    refine AW.ret ?_
    refine thenQ_ret ?_
    replace h := some_eq h
    subst h
    exact ⟨.inr rfl, retOK_of [(.one (.c (.bool false)))] (by kernel_rfl) ⟨⟨rfl, trivial⟩, trivial⟩ (of_decide_eq_true (by kernel_rfl))⟩
  · refine AW.cond_f rfl b1 ?_
    refine AW.skip ?_
    refine thenQ_normal ?_
    refine AW.seq ?_
    refine AW.seq ?_
    obtain ⟨v2, e3, h⟩ := bind_some h
    refine AW.regionA [.no, .no, .no, .no, .call [.one (sl 4 cs_Pose a0.Frames), .one (sl 4 cs_Pose a1.Frames)] [.one (.bool v2)] [[.view]]] [15] [] (s' := ⟨[(15, (.v (.one (.c (.bool (!v2))))))], []⟩) (ob := True ∧ True ∧ True ∧ True ∧ (((((sl 4 cs_Pose a0.Frames) : C) = (sl 4 cs_Pose a0.Frames)) ∧ (((sl 4 cs_Pose a1.Frames) : C) = (sl 4 cs_Pose a1.Frames)) ∧ True) ∧ CallOK Try.prog 77 [.one (sl 4 cs_Pose a0.Frames), .one (sl 4 cs_Pose a1.Frames)] [.one (.bool v2)]) ∧ True ∧ True) (by kernel_rfl) ⟨trivial, trivial, trivial, trivial, ⟨⟨rfl, rfl, trivial⟩, ok_laws_eqPoseS K a0.Frames a1.Frames v2 e3⟩, trivial, trivial⟩ ?_
    refine thenQ_normal ?_
    rcases ite2_cases h with ⟨b4, h⟩ | ⟨b4, h⟩
    · refine AW.cond_t rfl b4 ?_
      refine AW.seq ?_
      refine AW.regionA [] [4] [] (s' := ⟨[(4, (.v (.one (.c (.bool false)))))], []⟩) (ob := True ∧ True) (by kernel_rfl) ⟨trivial, trivial⟩ ?_
      refine thenQ_normal ?_
      refine AW.ret ?_
      refine thenQ_ret ?_
      replace h := some_eq h
      subst h
      exact ⟨.inr rfl, retOK_of [(.one (.c (.bool false)))] (by kernel_rfl) ⟨⟨rfl, trivial⟩, trivial⟩ (of_decide_eq_true (by kernel_rfl))⟩
    · refine AW.cond_f rfl b4 ?_
      refine AW.skip ?_
      refine thenQ_normal ?_
      refine AW.seq ?_
      refine AW.regionA [] [4] [] (s' := ⟨[(4, (.v (.one (.c (.bool true)))))], []⟩) (ob := True ∧ True) (by kernel_rfl) ⟨trivial, trivial⟩ ?_
      refine thenQ_normal ?_
      refine AW.ret ?_
      replace h := some_eq h
      subst h
      exact ⟨.inr rfl, retOK_of [(.one (.c (.bool true)))] (by kernel_rfl) ⟨⟨rfl, trivial⟩, trivial⟩ (of_decide_eq_true (by kernel_rfl))⟩

/-! laws.markTurnS -/
def laws_markTurnS_l1 (K : Nat) (a0 : (List Turn)) : Nat → Int → Int → (List Turn) → Option (Int × (List Turn))
  | 0, _, _, _ => none
  | k + 1, x4, x5, x6 => ite2 ((decide (x5 < (x6.length : Int)))) (chk (0 ≤ x5 ∧ x5 < (x6.length : Int)) ((some (x6.set x5.toNat (Turn.mk (Fl.ofInt .f32 x4) ((x6.getD x5.toNat default).X) ((x6.getD x5.toNat default).Y) ((x6.getD x5.toNat default).Z)))).bind fun y9 => chk (0 ≤ x5 ∧ x5 < (y9.length : Int)) ((some (y9.set x5.toNat (Turn.mk ((y9.getD x5.toNat default).W) (Fl.ofInt .f32 (IntKind.i64.wrap (x4 + (1 : Int)))) ((y9.getD x5.toNat default).Y) ((y9.getD x5.toNat default).Z)))).bind fun y12 => chk (0 ≤ x5 ∧ x5 < (y12.length : Int)) ((some (y12.set x5.toNat (Turn.mk ((y12.getD x5.toNat default).W) ((y12.getD x5.toNat default).X) (Fl.ofInt .f32 (IntKind.i64.wrap ((IntKind.i64.wrap (x4 + (1 : Int))) + (1 : Int)))) ((y12.getD x5.toNat default).Z)))).bind fun y15 => chk (0 ≤ x5 ∧ x5 < (y15.length : Int)) ((some (y15.set x5.toNat (Turn.mk ((y15.getD x5.toNat default).W) ((y15.getD x5.toNat default).X) ((y15.getD x5.toNat default).Y) (Fl.ofInt .f32 (IntKind.i64.wrap ((IntKind.i64.wrap ((IntKind.i64.wrap (x4 + (1 : Int))) + (1 : Int))) + (1 : Int))))))).bind fun y18 => laws_markTurnS_l1 K a0 k (IntKind.i64.wrap ((IntKind.i64.wrap ((IntKind.i64.wrap ((IntKind.i64.wrap (x4 + (1 : Int))) + (1 : Int))) + (1 : Int))) + (1 : Int))) (IntKind.i64.wrap (x5 + (1 : Int))) y18))))) (chk (x6.length = a0.length) (some (x4, x6)))

def laws_markTurnS (K : Nat) (a0 : (List Turn)) (a1 : Int) : Option (Int × (List Turn)) :=
  laws_markTurnS_l1 K a0 K a1 (0 : Int) a0

theorem ok_laws_markTurnS (K : Nat) (a0 : (List Turn)) (a1 : Int) (o : (Int × (List Turn))) (h : laws_markTurnS K a0 a1 = some o) : MutOK Try.prog 92 [(.one (.mu (sl 4 cs_Turn a0) (sl 4 cs_Turn o.2))), (.one (.ro (.int .i64 a1)))] [.one (.int .i64 o.1)] := by
  refine mutOK_of_AW 1 Try.func92 rfl (by kernel_rfl) (Nat.le_of_ble_eq_true (by kernel_rfl)) (by kernel_rfl) (by kernel_rfl) ?_
  intro w0 K0 v0 s0
  unfold laws_markTurnS at h
  refine AW.seq ?_
  refine AW.regionA [] [0, 1] [0] (s' := ⟨[(0, (.v (.one (.arr 0)))), (1, (.v (.one (.c (.int .i64 a1)))))], [(0, (.arr true a0.length 4 (gl cs_Turn a0)))]⟩) (ob := True ∧ True) (by kernel_rfl) ⟨trivial, trivial⟩ ?_
  refine thenQ_normal ?_
  refine AW.seq ?_
  refine AW.seq ?_
  refine AW.regionA [] [0, 1, 5] [0] (s' := ⟨[(0, (.v (.one (.arr 0)))), (1, (.v (.one (.c (.int .i64 a1))))), (5, (.v (.one (.c (.int .i64 (0 : Int))))))], [(0, (.arr true a0.length 4 (gl cs_Turn a0)))]⟩) (ob := True ∧ True) (by kernel_rfl) ⟨trivial, trivial⟩ ?_
  refine thenQ_normal ?_
  refine AW.block ?_
  refine AW.loopQ (σ := Nat × Int × Int × (List Turn)) (fun p => ⟨[(0, (.v (.one (.arr 0)))), (1, (.v (.one (.c (.int .i64 p.2.1))))), (5, (.v (.one (.c (.int .i64 p.2.2.1)))))], [(0, (.arr true p.2.2.2.length 4 (gl cs_Turn p.2.2.2)))]⟩) (fun p => laws_markTurnS_l1 K a0 p.1 p.2.1 p.2.2.1 p.2.2.2 = some o) (fun p => p.1) (K, a1, (0 : Int), a0) h ?_
  clear h
  rintro ⟨k, x4, x5, x6⟩ h
  replace h : laws_markTurnS_l1 K a0 k x4 x5 x6 = some o := h
  show AW _ _ (⟨[(0, (.v (.one (.arr 0)))), (1, (.v (.one (.c (.int .i64 x4))))), (5, (.v (.one (.c (.int .i64 x5)))))], [(0, (.arr true x6.length 4 (gl cs_Turn x6)))]⟩ : St) _
  obtain _ | k := k
  · rw [laws_markTurnS_l1] at h; cases h
  rw [laws_markTurnS_l1] at h
  refine AW.seq ?_
  refine AW.seq ?_
  refine AW.regionA [] [0, 1, 5, 9] [0] (s' := ⟨[(0, (.v (.one (.arr 0)))), (1, (.v (.one (.c (.int .i64 x4))))), (5, (.v (.one (.c (.int .i64 x5))))), (9, (.v (.one (.c (.bool (decide (x5 < (x6.length : Int))))))))], [(0, (.arr true x6.length 4 (gl cs_Turn x6)))]⟩) (ob := True ∧ True ∧ True ∧ True ∧ True) (by kernel_rfl) ⟨trivial, trivial, trivial, trivial, trivial⟩ ?_
  refine thenQ_normal ?_
  rcases ite2_cases h with ⟨b7, h⟩ | ⟨b7, h⟩
  · refine AW.cond_t rfl b7 ?_
    refine AW.skip ?_
    refine thenQ_normal ?_
    refine AW.seq ?_
    refine AW.block ?_
    refine AW.seq ?_
    obtain ⟨c8, h⟩ := chk_some h
    obtain ⟨y9, e10, h⟩ := bind_some h
    refine AW.regionA [.no, .no, .no, .no, .no, .no, .set y9.length (gl cs_Turn y9) ((List.range 1).map fun j => (cs_Turn (Turn.mk (Fl.ofInt .f32 x4) ((x6.getD x5.toNat default).X) ((x6.getD x5.toNat default).Y) ((x6.getD x5.toNat default).Z))).getD (0 + j) .nilptr)] [0, 1, 5] [0] (s' := ⟨[(0, (.v (.one (.arr 0)))), (1, (.v (.one (.c (.int .i64 x4))))), (5, (.v (.one (.c (.int .i64 x5)))))], [(0, (.arr true y9.length 4 (gl cs_Turn y9)))]⟩) (ob := True ∧ True ∧ True ∧ True ∧ (0 ≤ x5 ∧ x5 < (x6.length : Int)) ∧ True ∧ (y9.length = x6.length ∧ SetOb x6.length 4 x5.toNat 0 1 (gl cs_Turn x6) (gl cs_Turn y9) ∧ ((List.range 1).map fun j => (cs_Turn (Turn.mk (Fl.ofInt .f32 x4) ((x6.getD x5.toNat default).X) ((x6.getD x5.toNat default).Y) ((x6.getD x5.toNat default).Z))).getD (0 + j) .nilptr) = ((List.range 1).map fun j => gl cs_Turn y9 x5.toNat (0 + j)) ∧ ((((.flt .f32 (Fl.ofInt .f32 x4).bits) : C) = (.flt .f32 (Fl.ofInt .f32 x4).bits) ∧ True) ∧ True) ∧ (true = true → ∀ j, j < 1 → isSeq (gl cs_Turn x6 x5.toNat (0 + j)) = false ∧ isSeq (gl cs_Turn y9 x5.toNat (0 + j)) = false)) ∧ True) (by kernel_rfl) ⟨trivial, trivial, trivial, trivial, c8, trivial, (letP (some_eq e10) (fun z => (z.length = x6.length ∧ SetOb x6.length 4 x5.toNat 0 1 (gl cs_Turn x6) (gl cs_Turn z) ∧ ((List.range 1).map fun j => (cs_Turn (Turn.mk (Fl.ofInt .f32 x4) ((x6.getD x5.toNat default).X) ((x6.getD x5.toNat default).Y) ((x6.getD x5.toNat default).Z))).getD (0 + j) .nilptr) = ((List.range 1).map fun j => gl cs_Turn z x5.toNat (0 + j)) ∧ ((((.flt .f32 (Fl.ofInt .f32 x4).bits) : C) = (.flt .f32 (Fl.ofInt .f32 x4).bits) ∧ True) ∧ True) ∧ (true = true → ∀ j, j < 1 → isSeq (gl cs_Turn x6 x5.toNat (0 + j)) = false ∧ isSeq (gl cs_Turn z x5.toNat (0 + j)) = false))) ⟨List.length_set, gl_setp (fun j hj hn => match j, hj, hn with | 0, _, hn => absurd ⟨by decide, by decide⟩ hn | 1, _, _ => rfl | 2, _, _ => rfl | 3, _, _ => rfl) (lt_of_bound c8), (gl_atp (lt_of_bound c8)).symm, ⟨⟨rfl, trivial⟩, trivial⟩, (fun _ j hj => match j, hj with | 0, _ => ⟨rfl, rfl⟩)⟩), trivial⟩ ?_
    refine thenQ_normal ?_
    refine AW.seq ?_
    refine AW.regionA [] [0, 1, 5] [0] (s' := ⟨[(0, (.v (.one (.arr 0)))), (1, (.v (.one (.c (.int .i64 (IntKind.i64.wrap (x4 + (1 : Int)))))))), (5, (.v (.one (.c (.int .i64 x5)))))], [(0, (.arr true y9.length 4 (gl cs_Turn y9)))]⟩) (ob := True ∧ True ∧ True ∧ True) (by kernel_rfl) ⟨trivial, trivial, trivial, trivial⟩ ?_
    refine thenQ_normal ?_
    refine AW.seq ?_
    obtain ⟨c11, h⟩ := chk_some h
    obtain ⟨y12, e13, h⟩ := bind_some h
    refine AW.regionA [.no, .no, .no, .no, .no, .no, .set y12.length (gl cs_Turn y12) ((List.range 1).map fun j => (cs_Turn (Turn.mk ((y9.getD x5.toNat default).W) (Fl.ofInt .f32 (IntKind.i64.wrap (x4 + (1 : Int)))) ((y9.getD x5.toNat default).Y) ((y9.getD x5.toNat default).Z))).getD (1 + j) .nilptr)] [0, 1, 5] [0] (s' := ⟨[(0, (.v (.one (.arr 0)))), (1, (.v (.one (.c (.int .i64 (IntKind.i64.wrap (x4 + (1 : Int)))))))), (5, (.v (.one (.c (.int .i64 x5)))))], [(0, (.arr true y12.length 4 (gl cs_Turn y12)))]⟩) (ob := True ∧ True ∧ True ∧ True ∧ (0 ≤ x5 ∧ x5 < (y9.length : Int)) ∧ True ∧ (y12.length = y9.length ∧ SetOb y9.length 4 x5.toNat 1 1 (gl cs_Turn y9) (gl cs_Turn y12) ∧ ((List.range 1).map fun j => (cs_Turn (Turn.mk ((y9.getD x5.toNat default).W) (Fl.ofInt .f32 (IntKind.i64.wrap (x4 + (1 : Int)))) ((y9.getD x5.toNat default).Y) ((y9.getD x5.toNat default).Z))).getD (1 + j) .nilptr) = ((List.range 1).map fun j => gl cs_Turn y12 x5.toNat (1 + j)) ∧ ((((.flt .f32 (Fl.ofInt .f32 (IntKind.i64.wrap (x4 + (1 : Int)))).bits) : C) = (.flt .f32 (Fl.ofInt .f32 (IntKind.i64.wrap (x4 + (1 : Int)))).bits) ∧ True) ∧ True) ∧ (true = true → ∀ j, j < 1 → isSeq (gl cs_Turn y9 x5.toNat (1 + j)) = false ∧ isSeq (gl cs_Turn y12 x5.toNat (1 + j)) = false)) ∧ True) (by kernel_rfl) ⟨trivial, trivial, trivial, trivial, c11, trivial, (letP (some_eq e13) (fun z => (z.length = y9.length ∧ SetOb y9.length 4 x5.toNat 1 1 (gl cs_Turn y9) (gl cs_Turn z) ∧ ((List.range 1).map fun j => (cs_Turn (Turn.mk ((y9.getD x5.toNat default).W) (Fl.ofInt .f32 (IntKind.i64.wrap (x4 + (1 : Int)))) ((y9.getD x5.toNat default).Y) ((y9.getD x5.toNat default).Z))).getD (1 + j) .nilptr) = ((List.range 1).map fun j => gl cs_Turn z x5.toNat (1 + j)) ∧ ((((.flt .f32 (Fl.ofInt .f32 (IntKind.i64.wrap (x4 + (1 : Int)))).bits) : C) = (.flt .f32 (Fl.ofInt .f32 (IntKind.i64.wrap (x4 + (1 : Int)))).bits) ∧ True) ∧ True) ∧ (true = true → ∀ j, j < 1 → isSeq (gl cs_Turn y9 x5.toNat (1 + j)) = false ∧ isSeq (gl cs_Turn z x5.toNat (1 + j)) = false))) ⟨List.length_set, gl_setp (fun j hj hn => match j, hj, hn with | 0, _, _ => rfl | 1, _, hn => absurd ⟨by decide, by decide⟩ hn | 2, _, _ => rfl | 3, _, _ => rfl) (lt_of_bound c11), (gl_atp (lt_of_bound c11)).symm, ⟨⟨rfl, trivial⟩, trivial⟩, (fun _ j hj => match j, hj with | 0, _ => ⟨rfl, rfl⟩)⟩), trivial⟩ ?_
    refine thenQ_normal ?_
    refine AW.seq ?_
    refine AW.regionA [] [0, 1, 5] [0] (s' := ⟨[(0, (.v (.one (.arr 0)))), (1, (.v (.one (.c (.int .i64 (IntKind.i64.wrap ((IntKind.i64.wrap (x4 + (1 : Int))) + (1 : Int)))))))), (5, (.v (.one (.c (.int .i64 x5)))))], [(0, (.arr true y12.length 4 (gl cs_Turn y12)))]⟩) (ob := True ∧ True ∧ True ∧ True) (by kernel_rfl) ⟨trivial, trivial, trivial, trivial⟩ ?_
    refine thenQ_normal ?_
    refine AW.seq ?_
    obtain ⟨c14, h⟩ := chk_some h
    obtain ⟨y15, e16, h⟩ := bind_some h
    refine AW.regionA [.no, .no, .no, .no, .no, .no, .set y15.length (gl cs_Turn y15) ((List.range 1).map fun j => (cs_Turn (Turn.mk ((y12.getD x5.toNat default).W) ((y12.getD x5.toNat default).X) (Fl.ofInt .f32 (IntKind.i64.wrap ((IntKind.i64.wrap (x4 + (1 : Int))) + (1 : Int)))) ((y12.getD x5.toNat default).Z))).getD (2 + j) .nilptr)] [0, 1, 5] [0] (s' := ⟨[(0, (.v (.one (.arr 0)))), (1, (.v (.one (.c (.int .i64 (IntKind.i64.wrap ((IntKind.i64.wrap (x4 + (1 : Int))) + (1 : Int)))))))), (5, (.v (.one (.c (.int .i64 x5)))))], [(0, (.arr true y15.length 4 (gl cs_Turn y15)))]⟩) (ob := True ∧ True ∧ True ∧ True ∧ (0 ≤ x5 ∧ x5 < (y12.length : Int)) ∧ True ∧ (y15.length = y12.length ∧ SetOb y12.length 4 x5.toNat 2 1 (gl cs_Turn y12) (gl cs_Turn y15) ∧ ((List.range 1).map fun j => (cs_Turn (Turn.mk ((y12.getD x5.toNat default).W) ((y12.getD x5.toNat default).X) (Fl.ofInt .f32 (IntKind.i64.wrap ((IntKind.i64.wrap (x4 + (1 : Int))) + (1 : Int)))) ((y12.getD x5.toNat default).Z))).getD (2 + j) .nilptr) = ((List.range 1).map fun j => gl cs_Turn y15 x5.toNat (2 + j)) ∧ ((((.flt .f32 (Fl.ofInt .f32 (IntKind.i64.wrap ((IntKind.i64.wrap (x4 + (1 : Int))) + (1 : Int)))).bits) : C) = (.flt .f32 (Fl.ofInt .f32 (IntKind.i64.wrap ((IntKind.i64.wrap (x4 + (1 : Int))) + (1 : Int)))).bits) ∧ True) ∧ True) ∧ (true = true → ∀ j, j < 1 → isSeq (gl cs_Turn y12 x5.toNat (2 + j)) = false ∧ isSeq (gl cs_Turn y15 x5.toNat (2 + j)) = false)) ∧ True) (by kernel_rfl) ⟨trivial, trivial, trivial, trivial, c14, trivial, (letP (some_eq e16) (fun z => (z.length = y12.length ∧ SetOb y12.length 4 x5.toNat 2 1 (gl cs_Turn y12) (gl cs_Turn z) ∧ ((List.range 1).map fun j => (cs_Turn (Turn.mk ((y12.getD x5.toNat default).W) ((y12.getD x5.toNat default).X) (Fl.ofInt .f32 (IntKind.i64.wrap ((IntKind.i64.wrap (x4 + (1 : Int))) + (1 : Int)))) ((y12.getD x5.toNat default).Z))).getD (2 + j) .nilptr) = ((List.range 1).map fun j => gl cs_Turn z x5.toNat (2 + j)) ∧ ((((.flt .f32 (Fl.ofInt .f32 (IntKind.i64.wrap ((IntKind.i64.wrap (x4 + (1 : Int))) + (1 : Int)))).bits) : C) = (.flt .f32 (Fl.ofInt .f32 (IntKind.i64.wrap ((IntKind.i64.wrap (x4 + (1 : Int))) + (1 : Int)))).bits) ∧ True) ∧ True) ∧ (true = true → ∀ j, j < 1 → isSeq (gl cs_Turn y12 x5.toNat (2 + j)) = false ∧ isSeq (gl cs_Turn z x5.toNat (2 + j)) = false))) ⟨List.length_set, gl_setp (fun j hj hn => match j, hj, hn with | 0, _, _ => rfl | 1, _, _ => rfl | 2, _, hn => absurd ⟨by decide, by decide⟩ hn | 3, _, _ => rfl) (lt_of_bound c14), (gl_atp (lt_of_bound c14)).symm, ⟨⟨rfl, trivial⟩, trivial⟩, (fun _ j hj => match j, hj with | 0, _ => ⟨rfl, rfl⟩)⟩), trivial⟩ ?_
    refine thenQ_normal ?_
    refine AW.seq ?_
    refine AW.regionA [] [0, 1, 5] [0] (s' := ⟨[(0, (.v (.one (.arr 0)))), (1, (.v (.one (.c (.int .i64 (IntKind.i64.wrap ((IntKind.i64.wrap ((IntKind.i64.wrap (x4 + (1 : Int))) + (1 : Int))) + (1 : Int)))))))), (5, (.v (.one (.c (.int .i64 x5)))))], [(0, (.arr true y15.length 4 (gl cs_Turn y15)))]⟩) (ob := True ∧ True ∧ True ∧ True) (by kernel_rfl) ⟨trivial, trivial, trivial, trivial⟩ ?_
    refine thenQ_normal ?_
    refine AW.seq ?_
    obtain ⟨c17, h⟩ := chk_some h
    obtain ⟨y18, e19, h⟩ := bind_some h
    refine AW.regionA [.no, .no, .no, .no, .no, .no, .set y18.length (gl cs_Turn y18) ((List.range 1).map fun j => (cs_Turn (Turn.mk ((y15.getD x5.toNat default).W) ((y15.getD x5.toNat default).X) ((y15.getD x5.toNat default).Y) (Fl.ofInt .f32 (IntKind.i64.wrap ((IntKind.i64.wrap ((IntKind.i64.wrap (x4 + (1 : Int))) + (1 : Int))) + (1 : Int)))))).getD (3 + j) .nilptr)] [0, 1, 5] [0] (s' := ⟨[(0, (.v (.one (.arr 0)))), (1, (.v (.one (.c (.int .i64 (IntKind.i64.wrap ((IntKind.i64.wrap ((IntKind.i64.wrap (x4 + (1 : Int))) + (1 : Int))) + (1 : Int)))))))), (5, (.v (.one (.c (.int .i64 x5)))))], [(0, (.arr true y18.length 4 (gl cs_Turn y18)))]⟩) (ob := True ∧ True ∧ True ∧ True ∧ (0 ≤ x5 ∧ x5 < (y15.length : Int)) ∧ True ∧ (y18.length = y15.length ∧ SetOb y15.length 4 x5.toNat 3 1 (gl cs_Turn y15) (gl cs_Turn y18) ∧ ((List.range 1).map fun j => (cs_Turn (Turn.mk ((y15.getD x5.toNat default).W) ((y15.getD x5.toNat default).X) ((y15.getD x5.toNat default).Y) (Fl.ofInt .f32 (IntKind.i64.wrap ((IntKind.i64.wrap ((IntKind.i64.wrap (x4 + (1 : Int))) + (1 : Int))) + (1 : Int)))))).getD (3 + j) .nilptr) = ((List.range 1).map fun j => gl cs_Turn y18 x5.toNat (3 + j)) ∧ ((((.flt .f32 (Fl.ofInt .f32 (IntKind.i64.wrap ((IntKind.i64.wrap ((IntKind.i64.wrap (x4 + (1 : Int))) + (1 : Int))) + (1 : Int)))).bits) : C) = (.flt .f32 (Fl.ofInt .f32 (IntKind.i64.wrap ((IntKind.i64.wrap ((IntKind.i64.wrap (x4 + (1 : Int))) + (1 : Int))) + (1 : Int)))).bits) ∧ True) ∧ True) ∧ (true = true → ∀ j, j < 1 → isSeq (gl cs_Turn y15 x5.toNat (3 + j)) = false ∧ isSeq (gl cs_Turn y18 x5.toNat (3 + j)) = false)) ∧ True) (by kernel_rfl) ⟨trivial, trivial, trivial, trivial, c17, trivial, (letP (some_eq e19) (fun z => (z.length = y15.length ∧ SetOb y15.length 4 x5.toNat 3 1 (gl cs_Turn y15) (gl cs_Turn z) ∧ ((List.range 1).map fun j => (cs_Turn (Turn.mk ((y15.getD x5.toNat default).W) ((y15.getD x5.toNat default).X) ((y15.getD x5.toNat default).Y) (Fl.ofInt .f32 (IntKind.i64.wrap ((IntKind.i64.wrap ((IntKind.i64.wrap (x4 + (1 : Int))) + (1 : Int))) + (1 : Int)))))).getD (3 + j) .nilptr) = ((List.range 1).map fun j => gl cs_Turn z x5.toNat (3 + j)) ∧ ((((.flt .f32 (Fl.ofInt .f32 (IntKind.i64.wrap ((IntKind.i64.wrap ((IntKind.i64.wrap (x4 + (1 : Int))) + (1 : Int))) + (1 : Int)))).bits) : C) = (.flt .f32 (Fl.ofInt .f32 (IntKind.i64.wrap ((IntKind.i64.wrap ((IntKind.i64.wrap (x4 + (1 : Int))) + (1 : Int))) + (1 : Int)))).bits) ∧ True) ∧ True) ∧ (true = true → ∀ j, j < 1 → isSeq (gl cs_Turn y15 x5.toNat (3 + j)) = false ∧ isSeq (gl cs_Turn z x5.toNat (3 + j)) = false))) ⟨List.length_set, gl_setp (fun j hj hn => match j, hj, hn with | 0, _, _ => rfl | 1, _, _ => rfl | 2, _, _ => rfl | 3, _, hn => absurd ⟨by decide, by decide⟩ hn) (lt_of_bound c17), (gl_atp (lt_of_bound c17)).symm, ⟨⟨rfl, trivial⟩, trivial⟩, (fun _ j hj => match j, hj with | 0, _ => ⟨rfl, rfl⟩)⟩), trivial⟩ ?_
    refine thenQ_normal ?_
    refine AW.regionA [] [0, 1, 5] [0] (s' := ⟨[(0, (.v (.one (.arr 0)))), (1, (.v (.one (.c (.int .i64 (IntKind.i64.wrap ((IntKind.i64.wrap ((IntKind.i64.wrap ((IntKind.i64.wrap (x4 + (1 : Int))) + (1 : Int))) + (1 : Int))) + (1 : Int)))))))), (5, (.v (.one (.c (.int .i64 x5)))))], [(0, (.arr true y18.length 4 (gl cs_Turn y18)))]⟩) (ob := True ∧ True ∧ True ∧ True) (by kernel_rfl) ⟨trivial, trivial, trivial, trivial⟩ ?_
    refine blockQ_normal ?_
    refine thenQ_normal ?_
    refine AW.regionA [] [0, 1, 5] [0] (s' := ⟨[(0, (.v (.one (.arr 0)))), (1, (.v (.one (.c (.int .i64 (IntKind.i64.wrap ((IntKind.i64.wrap ((IntKind.i64.wrap ((IntKind.i64.wrap (x4 + (1 : Int))) + (1 : Int))) + (1 : Int))) + (1 : Int)))))))), (5, (.v (.one (.c (.int .i64 (IntKind.i64.wrap (x5 + (1 : Int))))))))], [(0, (.arr true y18.length 4 (gl cs_Turn y18)))]⟩) (ob := True ∧ True ∧ True ∧ True) (by kernel_rfl) ⟨trivial, trivial, trivial, trivial⟩ ?_
    exact loopQ_normal (k, (IntKind.i64.wrap ((IntKind.i64.wrap ((IntKind.i64.wrap ((IntKind.i64.wrap (x4 + (1 : Int))) + (1 : Int))) + (1 : Int))) + (1 : Int))), (IntKind.i64.wrap (x5 + (1 : Int))), y18) h (Nat.lt_succ_self k) (Sub.keep [0, 1, 5] [0] (by kernel_rfl) (by kernel_rfl))
  · refine AW.cond_f rfl b7 ?_
    refine AW.exit ?_
    refine thenQ_exit ?_
    refine loopQ_exit ?_
    refine blockQ_exit ?_
    refine thenQ_normal ?_
    refine AW.seq ?_
    refine AW.regionA [] [0, 1, 4] [0] (s' := ⟨[(0, (.v (.one (.arr 0)))), (1, (.v (.one (.c (.int .i64 x4))))), (4, (.v (.one (.c (.int .i64 x4)))))], [(0, (.arr true x6.length 4 (gl cs_Turn x6)))]⟩) (ob := True ∧ True ∧ True) (by kernel_rfl) ⟨trivial, trivial, trivial⟩ ?_
    refine thenQ_normal ?_
    refine AW.ret ?_
    obtain ⟨c20, h⟩ := chk_some h
    replace h := some_eq h
    subst h
    exact ⟨.inr rfl, retOK_of [(.one (.c (.int .i64 x4)))] (by kernel_rfl) ⟨⟨rfl, trivial⟩, trivial⟩ (of_decide_eq_true (by kernel_rfl)), by kernel_rfl, ⟨⟨c20, rfl, rfl⟩, trivial, trivial⟩⟩

/-! laws.markPoseS -/
def laws_markPoseS_l1 (K : Nat) (a0 : (List Pose)) : Nat → Int → Int → (List Pose) → Option (Int × (List Pose))
  | 0, _, _, _ => none
  | k + 1, x4, x5, x6 => ite2 ((decide (x5 < (x6.length : Int)))) (chk (0 ≤ x5 ∧ x5 < (x6.length : Int)) ((some (x6.set x5.toNat (Pose.mk (Vector.mk (Fl.ofInt .f32 x4) (((x6.getD x5.toNat default).Root).Y) (((x6.getD x5.toNat default).Root).Z)) ((x6.getD x5.toNat default).Turns)))).bind fun y9 => chk (0 ≤ x5 ∧ x5 < (y9.length : Int)) ((some (y9.set x5.toNat (Pose.mk (Vector.mk (((y9.getD x5.toNat default).Root).X) (Fl.ofInt .f32 (IntKind.i64.wrap (x4 + (1 : Int)))) (((y9.getD x5.toNat default).Root).Z)) ((y9.getD x5.toNat default).Turns)))).bind fun y12 => chk (0 ≤ x5 ∧ x5 < (y12.length : Int)) ((some (y12.set x5.toNat (Pose.mk (Vector.mk (((y12.getD x5.toNat default).Root).X) (((y12.getD x5.toNat default).Root).Y) (Fl.ofInt .f32 (IntKind.i64.wrap ((IntKind.i64.wrap (x4 + (1 : Int))) + (1 : Int))))) ((y12.getD x5.toNat default).Turns)))).bind fun y15 => chk (0 ≤ x5 ∧ x5 < (y15.length : Int)) ((laws_markTurnS K ((y15.getD x5.toNat default).Turns) (IntKind.i64.wrap ((IntKind.i64.wrap ((IntKind.i64.wrap (x4 + (1 : Int))) + (1 : Int))) + (1 : Int)))).bind fun v18 => laws_markPoseS_l1 K a0 k v18.1 (IntKind.i64.wrap (x5 + (1 : Int))) (y15.set x5.toNat (Pose.mk ((y15.getD x5.toNat default).Root) v18.2))))))) (chk (x6.length = a0.length) (some (x4, x6)))

def laws_markPoseS (K : Nat) (a0 : (List Pose)) (a1 : Int) : Option (Int × (List Pose)) :=
  laws_markPoseS_l1 K a0 K a1 (0 : Int) a0

theorem ok_laws_markPoseS (K : Nat) (a0 : (List Pose)) (a1 : Int) (o : (Int × (List Pose))) (h : laws_markPoseS K a0 a1 = some o) : MutOK Try.prog 78 [(.one (.mu (sl 4 cs_Pose a0) (sl 4 cs_Pose o.2))), (.one (.ro (.int .i64 a1)))] [.one (.int .i64 o.1)] := by
  refine mutOK_of_AW 1 Try.func78 rfl (by kernel_rfl) (Nat.le_of_ble_eq_true (by kernel_rfl)) (by kernel_rfl) (by kernel_rfl) ?_
  intro w0 K0 v0 s0
  unfold laws_markPoseS at h
  refine AW.seq ?_
  refine AW.regionA [] [0, 1] [0] (s' := ⟨[(0, (.v (.one (.arr 0)))), (1, (.v (.one (.c (.int .i64 a1)))))], [(0, (.arr true a0.length 4 (gl cs_Pose a0)))]⟩) (ob := True ∧ True) (by kernel_rfl) ⟨trivial, trivial⟩ ?_
  refine thenQ_normal ?_
  refine AW.seq ?_
  refine AW.seq ?_
  refine AW.regionA [] [0, 1, 5] [0] (s' := ⟨[(0, (.v (.one (.arr 0)))), (1, (.v (.one (.c (.int .i64 a1))))), (5, (.v (.one (.c (.int .i64 (0 : Int))))))], [(0, (.arr true a0.length 4 (gl cs_Pose a0)))]⟩) (ob := True ∧ True) (by kernel_rfl) ⟨trivial, trivial⟩ ?_
  refine thenQ_normal ?_
  refine AW.block ?_
  refine AW.loopQ (σ := Nat × Int × Int × (List Pose)) (fun p => ⟨[(0, (.v (.one (.arr 0)))), (1, (.v (.one (.c (.int .i64 p.2.1))))), (5, (.v (.one (.c (.int .i64 p.2.2.1)))))], [(0, (.arr true p.2.2.2.length 4 (gl cs_Pose p.2.2.2)))]⟩) (fun p => laws_markPoseS_l1 K a0 p.1 p.2.1 p.2.2.1 p.2.2.2 = some o) (fun p => p.1) (K, a1, (0 : Int), a0) h ?_
  clear h
  rintro ⟨k, x4, x5, x6⟩ h
  replace h : laws_markPoseS_l1 K a0 k x4 x5 x6 = some o := h
  show AW _ _ (⟨[(0, (.v (.one (.arr 0)))), (1, (.v (.one (.c (.int .i64 x4))))), (5, (.v (.one (.c (.int .i64 x5)))))], [(0, (.arr true x6.length 4 (gl cs_Pose x6)))]⟩ : St) _
  obtain _ | k := k
  · rw [laws_markPoseS_l1] at h; cases h
  rw [laws_markPoseS_l1] at h
  refine AW.seq ?_
  refine AW.seq ?_
  refine AW.regionA [] [0, 1, 5, 9] [0] (s' := ⟨[(0, (.v (.one (.arr 0)))), (1, (.v (.one (.c (.int .i64 x4))))), (5, (.v (.one (.c (.int .i64 x5))))), (9, (.v (.one (.c (.bool (decide (x5 < (x6.length : Int))))))))], [(0, (.arr true x6.length 4 (gl cs_Pose x6)))]⟩) (ob := True ∧ True ∧ True ∧ True ∧ True) (by kernel_rfl) ⟨trivial, trivial, trivial, trivial, trivial⟩ ?_
  refine thenQ_normal ?_
  rcases ite2_cases h with ⟨b7, h⟩ | ⟨b7, h⟩
  · refine AW.cond_t rfl b7 ?_
    refine AW.skip ?_
    refine thenQ_normal ?_
    refine AW.seq ?_
    refine AW.block ?_
    refine AW.seq ?_
    obtain ⟨c8, h⟩ := chk_some h
    obtain ⟨y9, e10, h⟩ := bind_some h
    refine AW.regionA [.no, .no, .no, .no, .no, .no, .no, .set y9.length (gl cs_Pose y9) ((List.range 1).map fun j => (cs_Pose (Pose.mk (Vector.mk (Fl.ofInt .f32 x4) (((x6.getD x5.toNat default).Root).Y) (((x6.getD x5.toNat default).Root).Z)) ((x6.getD x5.toNat default).Turns))).getD (0 + j) .nilptr)] [0, 1, 5] [0] (s' := ⟨[(0, (.v (.one (.arr 0)))), (1, (.v (.one (.c (.int .i64 x4))))), (5, (.v (.one (.c (.int .i64 x5)))))], [(0, (.arr true y9.length 4 (gl cs_Pose y9)))]⟩) (ob := True ∧ True ∧ True ∧ True ∧ (0 ≤ x5 ∧ x5 < (x6.length : Int)) ∧ True ∧ True ∧ (y9.length = x6.length ∧ SetOb x6.length 4 x5.toNat 0 1 (gl cs_Pose x6) (gl cs_Pose y9) ∧ ((List.range 1).map fun j => (cs_Pose (Pose.mk (Vector.mk (Fl.ofInt .f32 x4) (((x6.getD x5.toNat default).Root).Y) (((x6.getD x5.toNat default).Root).Z)) ((x6.getD x5.toNat default).Turns))).getD (0 + j) .nilptr) = ((List.range 1).map fun j => gl cs_Pose y9 x5.toNat (0 + j)) ∧ ((((.flt .f32 (Fl.ofInt .f32 x4).bits) : C) = (.flt .f32 (Fl.ofInt .f32 x4).bits) ∧ True) ∧ True) ∧ (true = true → ∀ j, j < 1 → isSeq (gl cs_Pose x6 x5.toNat (0 + j)) = false ∧ isSeq (gl cs_Pose y9 x5.toNat (0 + j)) = false)) ∧ True) (by kernel_rfl) ⟨trivial, trivial, trivial, trivial, c8, trivial, trivial, (letP (some_eq e10) (fun z => (z.length = x6.length ∧ SetOb x6.length 4 x5.toNat 0 1 (gl cs_Pose x6) (gl cs_Pose z) ∧ ((List.range 1).map fun j => (cs_Pose (Pose.mk (Vector.mk (Fl.ofInt .f32 x4) (((x6.getD x5.toNat default).Root).Y) (((x6.getD x5.toNat default).Root).Z)) ((x6.getD x5.toNat default).Turns))).getD (0 + j) .nilptr) = ((List.range 1).map fun j => gl cs_Pose z x5.toNat (0 + j)) ∧ ((((.flt .f32 (Fl.ofInt .f32 x4).bits) : C) = (.flt .f32 (Fl.ofInt .f32 x4).bits) ∧ True) ∧ True) ∧ (true = true → ∀ j, j < 1 → isSeq (gl cs_Pose x6 x5.toNat (0 + j)) = false ∧ isSeq (gl cs_Pose z x5.toNat (0 + j)) = false))) ⟨List.length_set, gl_setp (fun j hj hn => match j, hj, hn with | 0, _, hn => absurd ⟨by decide, by decide⟩ hn | 1, _, _ => rfl | 2, _, _ => rfl | 3, _, _ => rfl) (lt_of_bound c8), (gl_atp (lt_of_bound c8)).symm, ⟨⟨rfl, trivial⟩, trivial⟩, (fun _ j hj => match j, hj with | 0, _ => ⟨rfl, rfl⟩)⟩), trivial⟩ ?_
    refine thenQ_normal ?_
    refine AW.seq ?_
    refine AW.regionA [] [0, 1, 5] [0] (s' := ⟨[(0, (.v (.one (.arr 0)))), (1, (.v (.one (.c (.int .i64 (IntKind.i64.wrap (x4 + (1 : Int)))))))), (5, (.v (.one (.c (.int .i64 x5)))))], [(0, (.arr true y9.length 4 (gl cs_Pose y9)))]⟩) (ob := True ∧ True ∧ True ∧ True) (by kernel_rfl) ⟨trivial, trivial, trivial, trivial⟩ ?_
    refine thenQ_normal ?_
    refine AW.seq ?_
    obtain ⟨c11, h⟩ := chk_some h
    obtain ⟨y12, e13, h⟩ := bind_some h
    refine AW.regionA [.no, .no, .no, .no, .no, .no, .no, .set y12.length (gl cs_Pose y12) ((List.range 1).map fun j => (cs_Pose (Pose.mk (Vector.mk (((y9.getD x5.toNat default).Root).X) (Fl.ofInt .f32 (IntKind.i64.wrap (x4 + (1 : Int)))) (((y9.getD x5.toNat default).Root).Z)) ((y9.getD x5.toNat default).Turns))).getD (1 + j) .nilptr)] [0, 1, 5] [0] (s' := ⟨[(0, (.v (.one (.arr 0)))), (1, (.v (.one (.c (.int .i64 (IntKind.i64.wrap (x4 + (1 : Int)))))))), (5, (.v (.one (.c (.int .i64 x5)))))], [(0, (.arr true y12.length 4 (gl cs_Pose y12)))]⟩) (ob := True ∧ True ∧ True ∧ True ∧ (0 ≤ x5 ∧ x5 < (y9.length : Int)) ∧ True ∧ True ∧ (y12.length = y9.length ∧ SetOb y9.length 4 x5.toNat 1 1 (gl cs_Pose y9) (gl cs_Pose y12) ∧ ((List.range 1).map fun j => (cs_Pose (Pose.mk (Vector.mk (((y9.getD x5.toNat default).Root).X) (Fl.ofInt .f32 (IntKind.i64.wrap (x4 + (1 : Int)))) (((y9.getD x5.toNat default).Root).Z)) ((y9.getD x5.toNat default).Turns))).getD (1 + j) .nilptr) = ((List.range 1).map fun j => gl cs_Pose y12 x5.toNat (1 + j)) ∧ ((((.flt .f32 (Fl.ofInt .f32 (IntKind.i64.wrap (x4 + (1 : Int)))).bits) : C) = (.flt .f32 (Fl.ofInt .f32 (IntKind.i64.wrap (x4 + (1 : Int)))).bits) ∧ True) ∧ True) ∧ (true = true → ∀ j, j < 1 → isSeq (gl cs_Pose y9 x5.toNat (1 + j)) = false ∧ isSeq (gl cs_Pose y12 x5.toNat (1 + j)) = false)) ∧ True) (by kernel_rfl) ⟨trivial, trivial, trivial, trivial, c11, trivial, trivial, (letP (some_eq e13) (fun z => (z.length = y9.length ∧ SetOb y9.length 4 x5.toNat 1 1 (gl cs_Pose y9) (gl cs_Pose z) ∧ ((List.range 1).map fun j => (cs_Pose (Pose.mk (Vector.mk (((y9.getD x5.toNat default).Root).X) (Fl.ofInt .f32 (IntKind.i64.wrap (x4 + (1 : Int)))) (((y9.getD x5.toNat default).Root).Z)) ((y9.getD x5.toNat default).Turns))).getD (1 + j) .nilptr) = ((List.range 1).map fun j => gl cs_Pose z x5.toNat (1 + j)) ∧ ((((.flt .f32 (Fl.ofInt .f32 (IntKind.i64.wrap (x4 + (1 : Int)))).bits) : C) = (.flt .f32 (Fl.ofInt .f32 (IntKind.i64.wrap (x4 + (1 : Int)))).bits) ∧ True) ∧ True) ∧ (true = true → ∀ j, j < 1 → isSeq (gl cs_Pose y9 x5.toNat (1 + j)) = false ∧ isSeq (gl cs_Pose z x5.toNat (1 + j)) = false))) ⟨List.length_set, gl_setp (fun j hj hn => match j, hj, hn with | 0, _, _ => rfl | 1, _, hn => absurd ⟨by decide, by decide⟩ hn | 2, _, _ => rfl | 3, _, _ => rfl) (lt_of_bound c11), (gl_atp (lt_of_bound c11)).symm, ⟨⟨rfl, trivial⟩, trivial⟩, (fun _ j hj => match j, hj with | 0, _ => ⟨rfl, rfl⟩)⟩), trivial⟩ ?_
    refine thenQ_normal ?_
    refine AW.seq ?_
    refine AW.regionA [] [0, 1, 5] [0] (s' := ⟨[(0, (.v (.one (.arr 0)))), (1, (.v (.one (.c (.int .i64 (IntKind.i64.wrap ((IntKind.i64.wrap (x4 + (1 : Int))) + (1 : Int)))))))), (5, (.v (.one (.c (.int .i64 x5)))))], [(0, (.arr true y12.length 4 (gl cs_Pose y12)))]⟩) (ob := True ∧ True ∧ True ∧ True) (by kernel_rfl) ⟨trivial, trivial, trivial, trivial⟩ ?_
    refine thenQ_normal ?_
    refine AW.seq ?_
    obtain ⟨c14, h⟩ := chk_some h
    obtain ⟨y15, e16, h⟩ := bind_some h
    refine AW.regionA [.no, .no, .no, .no, .no, .no, .no, .set y15.length (gl cs_Pose y15) ((List.range 1).map fun j => (cs_Pose (Pose.mk (Vector.mk (((y12.getD x5.toNat default).Root).X) (((y12.getD x5.toNat default).Root).Y) (Fl.ofInt .f32 (IntKind.i64.wrap ((IntKind.i64.wrap (x4 + (1 : Int))) + (1 : Int))))) ((y12.getD x5.toNat default).Turns))).getD (2 + j) .nilptr)] [0, 1, 5] [0] (s' := ⟨[(0, (.v (.one (.arr 0)))), (1, (.v (.one (.c (.int .i64 (IntKind.i64.wrap ((IntKind.i64.wrap (x4 + (1 : Int))) + (1 : Int)))))))), (5, (.v (.one (.c (.int .i64 x5)))))], [(0, (.arr true y15.length 4 (gl cs_Pose y15)))]⟩) (ob := True ∧ True ∧ True ∧ True ∧ (0 ≤ x5 ∧ x5 < (y12.length : Int)) ∧ True ∧ True ∧ (y15.length = y12.length ∧ SetOb y12.length 4 x5.toNat 2 1 (gl cs_Pose y12) (gl cs_Pose y15) ∧ ((List.range 1).map fun j => (cs_Pose (Pose.mk (Vector.mk (((y12.getD x5.toNat default).Root).X) (((y12.getD x5.toNat default).Root).Y) (Fl.ofInt .f32 (IntKind.i64.wrap ((IntKind.i64.wrap (x4 + (1 : Int))) + (1 : Int))))) ((y12.getD x5.toNat default).Turns))).getD (2 + j) .nilptr) = ((List.range 1).map fun j => gl cs_Pose y15 x5.toNat (2 + j)) ∧ ((((.flt .f32 (Fl.ofInt .f32 (IntKind.i64.wrap ((IntKind.i64.wrap (x4 + (1 : Int))) + (1 : Int)))).bits) : C) = (.flt .f32 (Fl.ofInt .f32 (IntKind.i64.wrap ((IntKind.i64.wrap (x4 + (1 : Int))) + (1 : Int)))).bits) ∧ True) ∧ True) ∧ (true = true → ∀ j, j < 1 → isSeq (gl cs_Pose y12 x5.toNat (2 + j)) = false ∧ isSeq (gl cs_Pose y15 x5.toNat (2 + j)) = false)) ∧ True) (by kernel_rfl) ⟨trivial, trivial, trivial, trivial, c14, trivial, trivial, (letP (some_eq e16) (fun z => (z.length = y12.length ∧ SetOb y12.length 4 x5.toNat 2 1 (gl cs_Pose y12) (gl cs_Pose z) ∧ ((List.range 1).map fun j => (cs_Pose (Pose.mk (Vector.mk (((y12.getD x5.toNat default).Root).X) (((y12.getD x5.toNat default).Root).Y) (Fl.ofInt .f32 (IntKind.i64.wrap ((IntKind.i64.wrap (x4 + (1 : Int))) + (1 : Int))))) ((y12.getD x5.toNat default).Turns))).getD (2 + j) .nilptr) = ((List.range 1).map fun j => gl cs_Pose z x5.toNat (2 + j)) ∧ ((((.flt .f32 (Fl.ofInt .f32 (IntKind.i64.wrap ((IntKind.i64.wrap (x4 + (1 : Int))) + (1 : Int)))).bits) : C) = (.flt .f32 (Fl.ofInt .f32 (IntKind.i64.wrap ((IntKind.i64.wrap (x4 + (1 : Int))) + (1 : Int)))).bits) ∧ True) ∧ True) ∧ (true = true → ∀ j, j < 1 → isSeq (gl cs_Pose y12 x5.toNat (2 + j)) = false ∧ isSeq (gl cs_Pose z x5.toNat (2 + j)) = false))) ⟨List.length_set, gl_setp (fun j hj hn => match j, hj, hn with | 0, _, _ => rfl | 1, _, _ => rfl | 2, _, hn => absurd ⟨by decide, by decide⟩ hn | 3, _, _ => rfl) (lt_of_bound c14), (gl_atp (lt_of_bound c14)).symm, ⟨⟨rfl, trivial⟩, trivial⟩, (fun _ j hj => match j, hj with | 0, _ => ⟨rfl, rfl⟩)⟩), trivial⟩ ?_
    refine thenQ_normal ?_
    refine AW.seq ?_
    refine AW.regionA [] [0, 1, 5] [0] (s' := ⟨[(0, (.v (.one (.arr 0)))), (1, (.v (.one (.c (.int .i64 (IntKind.i64.wrap ((IntKind.i64.wrap ((IntKind.i64.wrap (x4 + (1 : Int))) + (1 : Int))) + (1 : Int)))))))), (5, (.v (.one (.c (.int .i64 x5)))))], [(0, (.arr true y15.length 4 (gl cs_Pose y15)))]⟩) (ob := True ∧ True ∧ True ∧ True) (by kernel_rfl) ⟨trivial, trivial, trivial, trivial⟩ ?_
    refine thenQ_normal ?_
    obtain ⟨c17, h⟩ := chk_some h
    obtain ⟨v18, e19, h⟩ := bind_some h
    refine AW.regionA [.no, .no, .no, .no, .no, .no, .callM [(.one (.mu (sl 4 cs_Turn ((y15.getD x5.toNat default).Turns)) (sl 4 cs_Turn v18.2))), .one (.ro (.int .i64 (IntKind.i64.wrap ((IntKind.i64.wrap ((IntKind.i64.wrap (x4 + (1 : Int))) + (1 : Int))) + (1 : Int)))))] [.one (.int .i64 v18.1)] [[.view]] (some ((y15.set x5.toNat (Pose.mk ((y15.getD x5.toNat default).Root) v18.2)).length, gl cs_Pose (y15.set x5.toNat (Pose.mk ((y15.getD x5.toNat default).Root) v18.2))))] [0, 1, 5] [0] (s' := ⟨[(0, (.v (.one (.arr 0)))), (1, (.v (.one (.c (.int .i64 v18.1))))), (5, (.v (.one (.c (.int .i64 x5)))))], [(0, (.arr true (y15.set x5.toNat (Pose.mk ((y15.getD x5.toNat default).Root) v18.2)).length 4 (gl cs_Pose (y15.set x5.toNat (Pose.mk ((y15.getD x5.toNat default).Root) v18.2)))))]⟩) (ob := True ∧ True ∧ (0 ≤ x5 ∧ x5 < (y15.length : Int)) ∧ True ∧ True ∧ True ∧ ((((y15.set x5.toNat (Pose.mk ((y15.getD x5.toNat default).Root) v18.2)).length = y15.length ∧ ((sl 4 cs_Turn ((y15.getD x5.toNat default).Turns)) : C) = gl cs_Pose y15 x5.toNat 3 ∧ gl cs_Pose (y15.set x5.toNat (Pose.mk ((y15.getD x5.toNat default).Root) v18.2)) x5.toNat 3 = ((sl 4 cs_Turn v18.2) : C) ∧ isSeq (sl 4 cs_Turn v18.2) = true ∧ SetOb y15.length 4 x5.toNat 3 1 (gl cs_Pose y15) (gl cs_Pose (y15.set x5.toNat (Pose.mk ((y15.getD x5.toNat default).Root) v18.2)))) ∧ (((.int .i64 (IntKind.i64.wrap ((IntKind.i64.wrap ((IntKind.i64.wrap (x4 + (1 : Int))) + (1 : Int))) + (1 : Int)))) : C) = (.int .i64 (IntKind.i64.wrap ((IntKind.i64.wrap ((IntKind.i64.wrap (x4 + (1 : Int))) + (1 : Int))) + (1 : Int))))) ∧ True) ∧ MutOK Try.prog 92 [(.one (.mu (sl 4 cs_Turn ((y15.getD x5.toNat default).Turns)) (sl 4 cs_Turn v18.2))), .one (.ro (.int .i64 (IntKind.i64.wrap ((IntKind.i64.wrap ((IntKind.i64.wrap (x4 + (1 : Int))) + (1 : Int))) + (1 : Int)))))] [.one (.int .i64 v18.1)]) ∧ True ∧ True) (by kernel_rfl) ⟨trivial, trivial, c17, trivial, trivial, trivial, ⟨⟨⟨List.length_set, rfl, gl_cell (lt_of_bound c17) rfl, rfl, gl_setp (fun j hj hn => match j, hj, hn with | 0, _, _ => rfl | 1, _, _ => rfl | 2, _, _ => rfl | 3, _, hn => absurd ⟨by decide, by decide⟩ hn) (lt_of_bound c17)⟩, rfl, trivial⟩, ok_laws_markTurnS K ((y15.getD x5.toNat default).Turns) (IntKind.i64.wrap ((IntKind.i64.wrap ((IntKind.i64.wrap (x4 + (1 : Int))) + (1 : Int))) + (1 : Int))) v18 e19⟩, trivial, trivial⟩ ?_
    refine blockQ_normal ?_
    refine thenQ_normal ?_
    refine AW.regionA [] [0, 1, 5] [0] (s' := ⟨[(0, (.v (.one (.arr 0)))), (1, (.v (.one (.c (.int .i64 v18.1))))), (5, (.v (.one (.c (.int .i64 (IntKind.i64.wrap (x5 + (1 : Int))))))))], [(0, (.arr true (y15.set x5.toNat (Pose.mk ((y15.getD x5.toNat default).Root) v18.2)).length 4 (gl cs_Pose (y15.set x5.toNat (Pose.mk ((y15.getD x5.toNat default).Root) v18.2)))))]⟩) (ob := True ∧ True ∧ True ∧ True) (by kernel_rfl) ⟨trivial, trivial, trivial, trivial⟩ ?_
    exact loopQ_normal (k, v18.1, (IntKind.i64.wrap (x5 + (1 : Int))), (y15.set x5.toNat (Pose.mk ((y15.getD x5.toNat default).Root) v18.2))) h (Nat.lt_succ_self k) (Sub.keep [0, 1, 5] [0] (by kernel_rfl) (by kernel_rfl))
  · refine AW.cond_f rfl b7 ?_
    refine AW.exit ?_
    refine thenQ_exit ?_
    refine loopQ_exit ?_
    refine blockQ_exit ?_
    refine thenQ_normal ?_
    refine AW.seq ?_
    refine AW.regionA [] [0, 1, 4] [0] (s' := ⟨[(0, (.v (.one (.arr 0)))), (1, (.v (.one (.c (.int .i64 x4))))), (4, (.v (.one (.c (.int .i64 x4)))))], [(0, (.arr true x6.length 4 (gl cs_Pose x6)))]⟩) (ob := True ∧ True ∧ True) (by kernel_rfl) ⟨trivial, trivial, trivial⟩ ?_
    refine thenQ_normal ?_
    refine AW.ret ?_
    obtain ⟨c20, h⟩ := chk_some h
    replace h := some_eq h
    subst h
    exact ⟨.inr rfl, retOK_of [(.one (.c (.int .i64 x4)))] (by kernel_rfl) ⟨⟨rfl, trivial⟩, trivial⟩ (of_decide_eq_true (by kernel_rfl)), by kernel_rfl, ⟨⟨c20, rfl, rfl⟩, trivial, trivial⟩⟩

/-! laws.markRecording -/
def laws_markRecording (K : Nat) (a0 : Recording) (a1 : Int) : Option (Int × (List Pose)) :=
  (laws_markPoseS K a0.Frames a1).bind fun v1 => chk (v1.2.length = a0.Frames.length) (chk (v1.2.length = a0.Frames.length) (some (v1.1, v1.2)))

theorem ok_laws_markRecording (K : Nat) (a0 : Recording) (a1 : Int) (o : (Int × (List Pose))) (h : laws_markRecording K a0 a1 = some o) : MutOK Try.prog 26 [(.agg [(.ro (.int .i64 a0.Bones)), (.mu (sl 4 cs_Pose a0.Frames) (sl 4 cs_Pose o.2))]), (.one (.ro (.int .i64 a1)))] [.one (.int .i64 o.1)] := by
  refine mutOK_of_AW 1 Try.func26 rfl (by kernel_rfl) (Nat.le_of_ble_eq_true (by kernel_rfl)) (by kernel_rfl) (by kernel_rfl) ?_
  intro w0 K0 v0 s0
  unfold laws_markRecording at h
  refine AW.seq ?_
  refine AW.regionA [.box 1] [0, 1, 2] [0, 1] (s' := ⟨[(0, (.v (.agg [(.c (.int .i64 a0.Bones)), (.arr 0)]))), (1, (.v (.one (.c (.int .i64 a1))))), (2, (.v (.one (.ptr 1 0))))], [(0, (.arr true a0.Frames.length 4 (gl cs_Pose a0.Frames))), (1, (.box [(.c (.int .i64 a0.Bones)), (.arr 0)]))]⟩) (ob := True ∧ True ∧ True) (by kernel_rfl) ⟨trivial, trivial, trivial⟩ ?_
  refine thenQ_normal ?_
  refine AW.seq ?_
  obtain ⟨v1, e2, h⟩ := bind_some h
  obtain ⟨c3, h⟩ := chk_some h
  refine AW.regionA [.no, .no, .no, .callM [(.one (.mu (sl 4 cs_Pose a0.Frames) (sl 4 cs_Pose v1.2))), .one (.ro (.int .i64 a1))] [.one (.int .i64 v1.1)] [[.view]] none] [0, 1] [0] (s' := ⟨[(0, (.v (.agg [(.c (.int .i64 a0.Bones)), (.arr 0)]))), (1, (.v (.one (.c (.int .i64 v1.1)))))], [(0, (.arr true v1.2.length 4 (gl cs_Pose v1.2)))]⟩) (ob := True ∧ True ∧ True ∧ (((((sl 4 cs_Pose a0.Frames) : C) = (sl 4 cs_Pose a0.Frames) ∧ v1.2.length = a0.Frames.length ∧ 4 = 4 ∧ ∀ i j, i < a0.Frames.length → j < 4 → isSeq (gl cs_Pose v1.2 i j) = isSeq (gl cs_Pose a0.Frames i j)) ∧ (((.int .i64 a1) : C) = (.int .i64 a1)) ∧ True) ∧ MutOK Try.prog 78 [(.one (.mu (sl 4 cs_Pose a0.Frames) (sl 4 cs_Pose v1.2))), .one (.ro (.int .i64 a1))] [.one (.int .i64 v1.1)]) ∧ True ∧ True) (by kernel_rfl) ⟨trivial, trivial, trivial, ⟨⟨⟨rfl, c3, rfl, gl_seq sq_Pose⟩, rfl, trivial⟩, ok_laws_markPoseS K a0.Frames a1 v1 e2⟩, trivial, trivial⟩ ?_
  refine thenQ_normal ?_
  refine AW.seq ?_
  refine AW.regionA [] [0, 1, 4] [0] (s' := ⟨[(0, (.v (.agg [(.c (.int .i64 a0.Bones)), (.arr 0)]))), (1, (.v (.one (.c (.int .i64 v1.1))))), (4, (.v (.one (.c (.int .i64 v1.1)))))], [(0, (.arr true v1.2.length 4 (gl cs_Pose v1.2)))]⟩) (ob := True ∧ True ∧ True) (by kernel_rfl) ⟨trivial, trivial, trivial⟩ ?_
  refine thenQ_normal ?_
  refine AW.ret ?_
  obtain ⟨c4, h⟩ := chk_some h
  replace h := some_eq h
  subst h
  exact ⟨.inr rfl, retOK_of [(.one (.c (.int .i64 v1.1)))] (by kernel_rfl) ⟨⟨rfl, trivial⟩, trivial⟩ (of_decide_eq_true (by kernel_rfl)), by kernel_rfl, ⟨⟨trivial, ⟨c4, rfl, rfl⟩, trivial⟩, trivial, trivial⟩⟩

/-! laws.markFloat32S -/
def laws_markFloat32S_l1 (K : Nat) (a0 : (List F32)) : Nat → Int → Int → (List F32) → Option (Int × (List F32))
  | 0, _, _, _ => none
  | k + 1, x4, x5, x6 => ite2 ((decide (x5 < (x6.length : Int)))) (chk (0 ≤ x5 ∧ x5 < (x6.length : Int)) (laws_markFloat32S_l1 K a0 k (IntKind.i64.wrap (x4 + (1 : Int))) (IntKind.i64.wrap (x5 + (1 : Int))) (x6.set x5.toNat (Fl.ofInt .f32 x4)))) (chk (x6.length = a0.length) (some (x4, x6)))

def laws_markFloat32S (K : Nat) (a0 : (List F32)) (a1 : Int) : Option (Int × (List F32)) :=
  laws_markFloat32S_l1 K a0 K a1 (0 : Int) a0

theorem ok_laws_markFloat32S (K : Nat) (a0 : (List F32)) (a1 : Int) (o : (Int × (List F32))) (h : laws_markFloat32S K a0 a1 = some o) : MutOK Try.prog 47 [(.one (.mu (sl 1 (csF .f32) a0) (sl 1 (csF .f32) o.2))), (.one (.ro (.int .i64 a1)))] [.one (.int .i64 o.1)] := by
  refine mutOK_of_AW 1 Try.func47 rfl (by kernel_rfl) (Nat.le_of_ble_eq_true (by kernel_rfl)) (by kernel_rfl) (by kernel_rfl) ?_
  intro w0 K0 v0 s0
  unfold laws_markFloat32S at h
  refine AW.seq ?_
  refine AW.regionA [] [0, 1] [0] (s' := ⟨[(0, (.v (.one (.arr 0)))), (1, (.v (.one (.c (.int .i64 a1)))))], [(0, (.arr true a0.length 1 (gl (csF .f32) a0)))]⟩) (ob := True ∧ True) (by kernel_rfl) ⟨trivial, trivial⟩ ?_
  refine thenQ_normal ?_
  refine AW.seq ?_
  refine AW.seq ?_
  refine AW.regionA [] [0, 1, 5] [0] (s' := ⟨[(0, (.v (.one (.arr 0)))), (1, (.v (.one (.c (.int .i64 a1))))), (5, (.v (.one (.c (.int .i64 (0 : Int))))))], [(0, (.arr true a0.length 1 (gl (csF .f32) a0)))]⟩) (ob := True ∧ True) (by kernel_rfl) ⟨trivial, trivial⟩ ?_
  refine thenQ_normal ?_
  refine AW.block ?_
  refine AW.loopQ (σ := Nat × Int × Int × (List F32)) (fun p => ⟨[(0, (.v (.one (.arr 0)))), (1, (.v (.one (.c (.int .i64 p.2.1))))), (5, (.v (.one (.c (.int .i64 p.2.2.1)))))], [(0, (.arr true p.2.2.2.length 1 (gl (csF .f32) p.2.2.2)))]⟩) (fun p => laws_markFloat32S_l1 K a0 p.1 p.2.1 p.2.2.1 p.2.2.2 = some o) (fun p => p.1) (K, a1, (0 : Int), a0) h ?_
  clear h
  rintro ⟨k, x4, x5, x6⟩ h
  replace h : laws_markFloat32S_l1 K a0 k x4 x5 x6 = some o := h
  show AW _ _ (⟨[(0, (.v (.one (.arr 0)))), (1, (.v (.one (.c (.int .i64 x4))))), (5, (.v (.one (.c (.int .i64 x5)))))], [(0, (.arr true x6.length 1 (gl (csF .f32) x6)))]⟩ : St) _
  obtain _ | k := k
  · rw [laws_markFloat32S_l1] at h; cases h
  rw [laws_markFloat32S_l1] at h
  refine AW.seq ?_
  refine AW.seq ?_
  refine AW.regionA [] [0, 1, 5, 9] [0] (s' := ⟨[(0, (.v (.one (.arr 0)))), (1, (.v (.one (.c (.int .i64 x4))))), (5, (.v (.one (.c (.int .i64 x5))))), (9, (.v (.one (.c (.bool (decide (x5 < (x6.length : Int))))))))], [(0, (.arr true x6.length 1 (gl (csF .f32) x6)))]⟩) (ob := True ∧ True ∧ True ∧ True ∧ True) (by kernel_rfl) ⟨trivial, trivial, trivial, trivial, trivial⟩ ?_
  refine thenQ_normal ?_
  rcases ite2_cases h with ⟨b7, h⟩ | ⟨b7, h⟩
  · refine AW.cond_t rfl b7 ?_
    refine AW.skip ?_
    refine thenQ_normal ?_
    refine AW.seq ?_
    refine AW.block ?_
    refine AW.seq ?_
    obtain ⟨c8, h⟩ := chk_some h
    refine AW.regionA [.no, .no, .no, .no, .no, .set (x6.set x5.toNat (Fl.ofInt .f32 x4)).length (gl (csF .f32) (x6.set x5.toNat (Fl.ofInt .f32 x4))) ((List.range 1).map fun j => ((csF .f32) (Fl.ofInt .f32 x4)).getD (0 + j) .nilptr)] [0, 1, 5] [0] (s' := ⟨[(0, (.v (.one (.arr 0)))), (1, (.v (.one (.c (.int .i64 x4))))), (5, (.v (.one (.c (.int .i64 x5)))))], [(0, (.arr true (x6.set x5.toNat (Fl.ofInt .f32 x4)).length 1 (gl (csF .f32) (x6.set x5.toNat (Fl.ofInt .f32 x4)))))]⟩) (ob := True ∧ True ∧ True ∧ True ∧ (0 ≤ x5 ∧ x5 < (x6.length : Int)) ∧ ((x6.set x5.toNat (Fl.ofInt .f32 x4)).length = x6.length ∧ SetOb x6.length 1 x5.toNat 0 1 (gl (csF .f32) x6) (gl (csF .f32) (x6.set x5.toNat (Fl.ofInt .f32 x4))) ∧ ((List.range 1).map fun j => ((csF .f32) (Fl.ofInt .f32 x4)).getD (0 + j) .nilptr) = ((List.range 1).map fun j => gl (csF .f32) (x6.set x5.toNat (Fl.ofInt .f32 x4)) x5.toNat (0 + j)) ∧ ((((.flt .f32 (Fl.ofInt .f32 x4).bits) : C) = (.flt .f32 (Fl.ofInt .f32 x4).bits) ∧ True) ∧ True) ∧ (true = true → ∀ j, j < 1 → isSeq (gl (csF .f32) x6 x5.toNat (0 + j)) = false ∧ isSeq (gl (csF .f32) (x6.set x5.toNat (Fl.ofInt .f32 x4)) x5.toNat (0 + j)) = false)) ∧ True) (by kernel_rfl) ⟨trivial, trivial, trivial, trivial, c8, ⟨List.length_set, gl_set, (gl_atp (lt_of_bound c8)).symm, ⟨⟨rfl, trivial⟩, trivial⟩, (fun _ j hj => match j, hj with | 0, _ => ⟨rfl, rfl⟩)⟩, trivial⟩ ?_
    refine thenQ_normal ?_
    refine AW.regionA [] [0, 1, 5] [0] (s' := ⟨[(0, (.v (.one (.arr 0)))), (1, (.v (.one (.c (.int .i64 (IntKind.i64.wrap (x4 + (1 : Int)))))))), (5, (.v (.one (.c (.int .i64 x5)))))], [(0, (.arr true (x6.set x5.toNat (Fl.ofInt .f32 x4)).length 1 (gl (csF .f32) (x6.set x5.toNat (Fl.ofInt .f32 x4)))))]⟩) (ob := True ∧ True ∧ True ∧ True) (by kernel_rfl) ⟨trivial, trivial, trivial, trivial⟩ ?_
    refine blockQ_normal ?_
    refine thenQ_normal ?_
    refine AW.regionA [] [0, 1, 5] [0] (s' := ⟨[(0, (.v (.one (.arr 0)))), (1, (.v (.one (.c (.int .i64 (IntKind.i64.wrap (x4 + (1 : Int)))))))), (5, (.v (.one (.c (.int .i64 (IntKind.i64.wrap (x5 + (1 : Int))))))))], [(0, (.arr true (x6.set x5.toNat (Fl.ofInt .f32 x4)).length 1 (gl (csF .f32) (x6.set x5.toNat (Fl.ofInt .f32 x4)))))]⟩) (ob := True ∧ True ∧ True ∧ True) (by kernel_rfl) ⟨trivial, trivial, trivial, trivial⟩ ?_
    exact loopQ_normal (k, (IntKind.i64.wrap (x4 + (1 : Int))), (IntKind.i64.wrap (x5 + (1 : Int))), (x6.set x5.toNat (Fl.ofInt .f32 x4))) h (Nat.lt_succ_self k) (Sub.keep [0, 1, 5] [0] (by kernel_rfl) (by kernel_rfl))
  · refine AW.cond_f rfl b7 ?_
    refine AW.exit ?_
    refine thenQ_exit ?_
    refine loopQ_exit ?_
    refine blockQ_exit ?_
    refine thenQ_normal ?_
    refine AW.seq ?_
    refine AW.regionA [] [0, 1, 4] [0] (s' := ⟨[(0, (.v (.one (.arr 0)))), (1, (.v (.one (.c (.int .i64 x4))))), (4, (.v (.one (.c (.int .i64 x4)))))], [(0, (.arr true x6.length 1 (gl (csF .f32) x6)))]⟩) (ob := True ∧ True ∧ True) (by kernel_rfl) ⟨trivial, trivial, trivial⟩ ?_
    refine thenQ_normal ?_
    refine AW.ret ?_
    obtain ⟨c9, h⟩ := chk_some h
    replace h := some_eq h
    subst h
    exact ⟨.inr rfl, retOK_of [(.one (.c (.int .i64 x4)))] (by kernel_rfl) ⟨⟨rfl, trivial⟩, trivial⟩ (of_decide_eq_true (by kernel_rfl)), by kernel_rfl, ⟨⟨c9, rfl, rfl⟩, trivial, trivial⟩⟩

/-! laws.heldFloat32S -/
def laws_heldFloat32S_l1 (K : Nat) (a0 : (List F32)) : Nat → Int → Int → Option (Int)
  | 0, _, _ => none
  | k + 1, x3, x4 => ite2 ((decide (x4 < (a0.length : Int)))) (chk (0 ≤ x4 ∧ x4 < (a0.length : Int)) (ite2 (((a0.getD x4.toNat default).ne (Fl.ofInt .f32 x3))) (some ((-1) : Int)) (laws_heldFloat32S_l1 K a0 k (IntKind.i64.wrap (x3 + (1 : Int))) (IntKind.i64.wrap (x4 + (1 : Int)))))) (some x3)

def laws_heldFloat32S (K : Nat) (a0 : (List F32)) (a1 : Int) : Option (Int) :=
  laws_heldFloat32S_l1 K a0 K a1 (0 : Int)

theorem ok_laws_heldFloat32S (K : Nat) (a0 : (List F32)) (a1 : Int) (o : (Int)) (h : laws_heldFloat32S K a0 a1 = some o) : CallOK Try.prog 48 [.one (sl 1 (csF .f32) a0), .one (.int .i64 a1)] [.one (.int .i64 o)] := by
  refine callOK_of_AW Try.func48 rfl (by kernel_rfl) (Nat.le_of_ble_eq_true (by kernel_rfl)) ?_
  intro w0
  unfold laws_heldFloat32S at h
  refine AW.seq ?_
  refine AW.regionA [] [0, 1] [] (s' := ⟨[(0, (.v (.one (.c (sl 1 (csF .f32) a0))))), (1, (.v (.one (.c (.int .i64 a1)))))], []⟩) (ob := True ∧ True) (by kernel_rfl) ⟨trivial, trivial⟩ ?_
  refine thenQ_normal ?_
  refine AW.seq ?_
  refine AW.seq ?_
  refine AW.regionA [] [0, 1, 5] [] (s' := ⟨[(0, (.v (.one (.c (sl 1 (csF .f32) a0))))), (1, (.v (.one (.c (.int .i64 a1))))), (5, (.v (.one (.c (.int .i64 (0 : Int))))))], []⟩) (ob := True ∧ True) (by kernel_rfl) ⟨trivial, trivial⟩ ?_
  refine thenQ_normal ?_
  refine AW.block ?_
  refine AW.loopQ (σ := Nat × Int × Int) (fun p => ⟨[(0, (.v (.one (.c (sl 1 (csF .f32) a0))))), (1, (.v (.one (.c (.int .i64 p.2.1))))), (5, (.v (.one (.c (.int .i64 p.2.2)))))], []⟩) (fun p => laws_heldFloat32S_l1 K a0 p.1 p.2.1 p.2.2 = some o) (fun p => p.1) (K, a1, (0 : Int)) h ?_
  clear h
  rintro ⟨k, x3, x4⟩ h
  replace h : laws_heldFloat32S_l1 K a0 k x3 x4 = some o := h
  show AW _ _ (⟨[(0, (.v (.one (.c (sl 1 (csF .f32) a0))))), (1, (.v (.one (.c (.int .i64 x3))))), (5, (.v (.one (.c (.int .i64 x4)))))], []⟩ : St) _
  obtain _ | k := k
  · rw [laws_heldFloat32S_l1] at h; cases h
  rw [laws_heldFloat32S_l1] at h
  refine AW.seq ?_
  refine AW.seq ?_
  refine AW.regionA [] [0, 1, 5, 9] [] (s' := ⟨[(0, (.v (.one (.c (sl 1 (csF .f32) a0))))), (1, (.v (.one (.c (.int .i64 x3))))), (5, (.v (.one (.c (.int .i64 x4))))), (9, (.v (.one (.c (.bool (decide (x4 < (a0.length : Int))))))))], []⟩) (ob := True ∧ True ∧ True ∧ True ∧ True) (by kernel_rfl) ⟨trivial, trivial, trivial, trivial, trivial⟩ ?_
  refine thenQ_normal ?_
  rcases ite2_cases h with ⟨b5, h⟩ | ⟨b5, h⟩
  · refine AW.cond_t rfl b5 ?_
    refine AW.skip ?_
    refine thenQ_normal ?_
    refine AW.seq ?_
    refine AW.block ?_
    refine AW.seq ?_
    refine AW.seq ?_
    obtain ⟨c6, h⟩ := chk_some h
    refine AW.regionA [] [0, 1, 5, 18] [] (s' := ⟨[(0, (.v (.one (.c (sl 1 (csF .f32) a0))))), (1, (.v (.one (.c (.int .i64 x3))))), (5, (.v (.one (.c (.int .i64 x4))))), (18, (.v (.one (.c (.bool ((a0.getD x4.toNat default).ne (Fl.ofInt .f32 x3)))))))], []⟩) (ob := True ∧ True ∧ (0 ≤ x4 ∧ x4 < (a0.length : Int)) ∧ True ∧ True ∧ True ∧ True ∧ True) (by kernel_rfl) ⟨trivial, trivial, c6, trivial, trivial, trivial, trivial, trivial⟩ ?_
    refine thenQ_normal ?_
    rcases ite2_cases h with ⟨b7, h⟩ | ⟨b7, h⟩
    · refine AW.cond_t rfl b7 ?_
      refine AW.seq ?_
      refine AW.regionA [] [4] [] (s' := ⟨[(4, (.v (.one (.c (.int .i64 ((-1) : Int))))))], []⟩) (ob := True ∧ True) (by kernel_rfl) ⟨trivial, trivial⟩ ?_
      refine thenQ_normal ?_
      refine AW.ret ?_
      refine thenQ_ret ?_
      refine blockQ_ret ?_
      refine thenQ_ret ?_
      refine loopQ_ret ?_
      refine blockQ_ret ?_
      refine thenQ_ret ?_
      replace h := some_eq h
      subst h
      exact ⟨.inr rfl, retOK_of [(.one (.c (.int .i64 ((-1) : Int))))] (by kernel_rfl) ⟨⟨rfl, trivial⟩, trivial⟩ (of_decide_eq_true (by kernel_rfl))⟩
    · refine AW.cond_f rfl b7 ?_
      refine AW.skip ?_
      refine thenQ_normal ?_
      refine AW.regionA [] [0, 1, 5] [] (s' := ⟨[(0, (.v (.one (.c (sl 1 (csF .f32) a0))))), (1, (.v (.one (.c (.int .i64 (IntKind.i64.wrap (x3 + (1 : Int)))))))), (5, (.v (.one (.c (.int .i64 x4)))))], []⟩) (ob := True ∧ True ∧ True ∧ True) (by kernel_rfl) ⟨trivial, trivial, trivial, trivial⟩ ?_
      refine blockQ_normal ?_
      refine thenQ_normal ?_
      refine AW.regionA [] [0, 1, 5] [] (s' := ⟨[(0, (.v (.one (.c (sl 1 (csF .f32) a0))))), (1, (.v (.one (.c (.int .i64 (IntKind.i64.wrap (x3 + (1 : Int)))))))), (5, (.v (.one (.c (.int .i64 (IntKind.i64.wrap (x4 + (1 : Int))))))))], []⟩) (ob := True ∧ True ∧ True ∧ True) (by kernel_rfl) ⟨trivial, trivial, trivial, trivial⟩ ?_
      exact loopQ_normal (k, (IntKind.i64.wrap (x3 + (1 : Int))), (IntKind.i64.wrap (x4 + (1 : Int)))) h (Nat.lt_succ_self k) (Sub.keep [0, 1, 5] [] (by kernel_rfl) (by kernel_rfl))
  · refine AW.cond_f rfl b5 ?_
    refine AW.exit ?_
    refine thenQ_exit ?_
    refine loopQ_exit ?_
    refine blockQ_exit ?_
    refine thenQ_normal ?_
    refine AW.seq ?_
    refine AW.regionA [] [4] [] (s' := ⟨[(4, (.v (.one (.c (.int .i64 x3)))))], []⟩) (ob := True ∧ True ∧ True) (by kernel_rfl) ⟨trivial, trivial, trivial⟩ ?_
    refine thenQ_normal ?_
    refine AW.ret ?_
    replace h := some_eq h
    subst h
    exact ⟨.inr rfl, retOK_of [(.one (.c (.int .i64 x3)))] (by kernel_rfl) ⟨⟨rfl, trivial⟩, trivial⟩ (of_decide_eq_true (by kernel_rfl))⟩

end
end Go.Fw
