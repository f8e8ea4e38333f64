/- Functions of the program: what each computes, and that it computes just that. -/
import Derived.Test.YtcgakaboochpaadGreatFwTy
import Derived.Test.YtcgakaboochpaadGreatFwH
import Derived.Test.YtcgakaboochpaadGreatFwV
import Derived.Test.YtcgakaboochpaadGreatFwGK2
import Derived.Test.YtcgakaboochpaadGreatFwHF
import Derived.Test.YtcgakaboochpaadGreatFwMK
import Derived.Test.YtcgakaboochpaadGreatFwAB
import Derived.Test.YtcgakaboochpaadGreatFwLB
import Derived.Test.YtcgakaboochpaadGreatFwSh
import Derived.Test.YtcgakaboochpaadGreatFwSO
import Derived.Test.YtcgakaboochpaadGreatFwU
import Derived.Test.YtcgakaboochpaadGreatFwUB
import Derived.Test.YtcgakaboochpaadGreatProg
import Derived.KernelRfl
namespace Go.Fw
open Go Go.Proofs
noncomputable section
set_option maxRecDepth 10000

/-! impl.wideAngle -/
def zwa (K : Nat) (a0 : F64) (a1 : F64) (v1 : (F64)) (v3 : (F64)) (x8 : F64) : Nat → F64 → Int → Option (F64)
 | 0, _, _ => none
 | k + 1, x15, x16 => ite2 ((decide (x16 ≥ (1 : Int)))) (zwa K a0 a1 v1 v3 x8 k (((Fl.mk (k := .f64) 4607182418800017408 (by decide)).div (Fl.ofInt .f64 x16)).sub ((x8.mul x8).mul x15)) (IntKind.i64.wrap (x16 - (2 : Int)))) (ite2 ((v1.gt v3)) (ite2 ((a1.lt' (Fl.mk (k := .f64) 0 (by decide)))) (ite2 ((a0.lt' (Fl.mk (k := .f64) 0 (by decide)))) (some (((Fl.mk (k := .f64) 4602678819172646912 (by decide)).sub ((Fl.mk (k := .f64) 4598175219545276416 (by decide)).sub (((Fl.mk (k := .f64) 4620693217682128896 (by decide)).mul (x8.mul x15)).div (Fl.mk (k := .f64) 4618760256179416344 (by decide))))).neg)) (some ((Fl.mk (k := .f64) 4602678819172646912 (by decide)).sub ((Fl.mk (k := .f64) 4598175219545276416 (by decide)).sub (((Fl.mk (k := .f64) 4620693217682128896 (by decide)).mul (x8.mul x15)).div (Fl.mk (k := .f64) 4618760256179416344 (by decide))))))) (ite2 ((a0.lt' (Fl.mk (k := .f64) 0 (by decide)))) (some (((Fl.mk (k := .f64) 4598175219545276416 (by decide)).sub (((Fl.mk (k := .f64) 4620693217682128896 (by decide)).mul (x8.mul x15)).div (Fl.mk (k := .f64) 4618760256179416344 (by decide)))).neg)) (some ((Fl.mk (k := .f64) 4598175219545276416 (by decide)).sub (((Fl.mk (k := .f64) 4620693217682128896 (by decide)).mul (x8.mul x15)).div (Fl.mk (k := .f64) 4618760256179416344 (by decide))))))) (ite2 ((a1.lt' (Fl.mk (k := .f64) 0 (by decide)))) (ite2 ((a0.lt' (Fl.mk (k := .f64) 0 (by decide)))) (some (((Fl.mk (k := .f64) 4602678819172646912 (by decide)).sub (((Fl.mk (k := .f64) 4620693217682128896 (by decide)).mul (x8.mul x15)).div (Fl.mk (k := .f64) 4618760256179416344 (by decide)))).neg)) (some ((Fl.mk (k := .f64) 4602678819172646912 (by decide)).sub (((Fl.mk (k := .f64) 4620693217682128896 (by decide)).mul (x8.mul x15)).div (Fl.mk (k := .f64) 4618760256179416344 (by decide)))))) (ite2 ((a0.lt' (Fl.mk (k := .f64) 0 (by decide)))) (some ((((Fl.mk (k := .f64) 4620693217682128896 (by decide)).mul (x8.mul x15)).div (Fl.mk (k := .f64) 4618760256179416344 (by decide))).neg)) (some (((Fl.mk (k := .f64) 4620693217682128896 (by decide)).mul (x8.mul x15)).div (Fl.mk (k := .f64) 4618760256179416344 (by decide)))))))

def zwg (K : Nat) (a0 : F64) (a1 : F64) (v1 : (F64)) (v3 : (F64)) : Nat → F64 → Int → Option (F64)
 | 0, _, _ => none
 | k + 1, x8, x9 => ite2 ((decide (x9 < (3 : Int)))) ((zj5 K ((Fl.mk (k := .f64) 4607182418800017408 (by decide)).add (x8.mul x8))).bind fun v11 => zwg K a0 a1 v1 v3 k (x8.div ((Fl.mk (k := .f64) 4607182418800017408 (by decide)).add v11)) (IntKind.i64.wrap (x9 + (1 : Int)))) (zwa K a0 a1 v1 v3 x8 K (Fl.mk (k := .f64) 0 (by decide)) (15 : Int))

def zw7 (K : Nat) (a0 : F64) (a1 : F64) (v1 : (F64)) (v3 : (F64)) (x27 : F64) : Nat → F64 → Int → Option (F64)
 | 0, _, _ => none
 | k + 1, x34, x35 => ite2 ((decide (x35 ≥ (1 : Int)))) (zw7 K a0 a1 v1 v3 x27 k (((Fl.mk (k := .f64) 4607182418800017408 (by decide)).div (Fl.ofInt .f64 x35)).sub ((x27.mul x27).mul x34)) (IntKind.i64.wrap (x35 - (2 : Int)))) (ite2 ((v1.gt v3)) (ite2 ((a1.lt' (Fl.mk (k := .f64) 0 (by decide)))) (ite2 ((a0.lt' (Fl.mk (k := .f64) 0 (by decide)))) (some (((Fl.mk (k := .f64) 4602678819172646912 (by decide)).sub ((Fl.mk (k := .f64) 4598175219545276416 (by decide)).sub (((Fl.mk (k := .f64) 4620693217682128896 (by decide)).mul (x27.mul x34)).div (Fl.mk (k := .f64) 4618760256179416344 (by decide))))).neg)) (some ((Fl.mk (k := .f64) 4602678819172646912 (by decide)).sub ((Fl.mk (k := .f64) 4598175219545276416 (by decide)).sub (((Fl.mk (k := .f64) 4620693217682128896 (by decide)).mul (x27.mul x34)).div (Fl.mk (k := .f64) 4618760256179416344 (by decide))))))) (ite2 ((a0.lt' (Fl.mk (k := .f64) 0 (by decide)))) (some (((Fl.mk (k := .f64) 4598175219545276416 (by decide)).sub (((Fl.mk (k := .f64) 4620693217682128896 (by decide)).mul (x27.mul x34)).div (Fl.mk (k := .f64) 4618760256179416344 (by decide)))).neg)) (some ((Fl.mk (k := .f64) 4598175219545276416 (by decide)).sub (((Fl.mk (k := .f64) 4620693217682128896 (by decide)).mul (x27.mul x34)).div (Fl.mk (k := .f64) 4618760256179416344 (by decide))))))) (ite2 ((a1.lt' (Fl.mk (k := .f64) 0 (by decide)))) (ite2 ((a0.lt' (Fl.mk (k := .f64) 0 (by decide)))) (some (((Fl.mk (k := .f64) 4602678819172646912 (by decide)).sub (((Fl.mk (k := .f64) 4620693217682128896 (by decide)).mul (x27.mul x34)).div (Fl.mk (k := .f64) 4618760256179416344 (by decide)))).neg)) (some ((Fl.mk (k := .f64) 4602678819172646912 (by decide)).sub (((Fl.mk (k := .f64) 4620693217682128896 (by decide)).mul (x27.mul x34)).div (Fl.mk (k := .f64) 4618760256179416344 (by decide)))))) (ite2 ((a0.lt' (Fl.mk (k := .f64) 0 (by decide)))) (some ((((Fl.mk (k := .f64) 4620693217682128896 (by decide)).mul (x27.mul x34)).div (Fl.mk (k := .f64) 4618760256179416344 (by decide))).neg)) (some (((Fl.mk (k := .f64) 4620693217682128896 (by decide)).mul (x27.mul x34)).div (Fl.mk (k := .f64) 4618760256179416344 (by decide)))))))

def zw8 (K : Nat) (a0 : F64) (a1 : F64) (v1 : (F64)) (v3 : (F64)) : Nat → F64 → Int → Option (F64)
 | 0, _, _ => none
 | k + 1, x27, x28 => ite2 ((decide (x28 < (3 : Int)))) ((zj5 K ((Fl.mk (k := .f64) 4607182418800017408 (by decide)).add (x27.mul x27))).bind fun v30 => zw8 K a0 a1 v1 v3 k (x27.div ((Fl.mk (k := .f64) 4607182418800017408 (by decide)).add v30)) (IntKind.i64.wrap (x28 + (1 : Int)))) (zw7 K a0 a1 v1 v3 x27 K (Fl.mk (k := .f64) 0 (by decide)) (15 : Int))

def zvv (K : Nat) (a0 : F64) (a1 : F64) : Option (F64) :=
 (zb2 K a0).bind fun v1 => (zb2 K a1).bind fun v3 => ite2 ((v1.gt v3)) (zwg K a0 a1 v1 v3 K (v3.div v1) (0 : Int)) (zw8 K a0 a1 v1 v3 K (v1.div v3) (0 : Int))

theorem ok_impl_wideAngle (K : Nat) (a0 : F64) (a1 : F64) (o : (F64)) (h : zvv K a0 a1 = some o) : CallOK Tryz.prog 118 [.one (.flt .f64 a0.bits), .one (.flt .f64 a1.bits)] [.one (.flt .f64 o.bits)] := by
 refine zqh Tryz.func118 rfl (by kernel_rfl) (Nat.le_of_ble_eq_true (by kernel_rfl)) ?_
 intro w0
 unfold zvv at h
 refine AW.sC (Tt ∧ Tt) [] [0, 1] [] ⟨tr, tr⟩ ?_
 refine AW.seq ?_
 obtain ⟨v1, e2, h⟩ := zqb h
 obtain ⟨v3, e4, h⟩ := zqb h
 refine AW.tC (Tt ∧ (((Eqc (.flt .f64 a0.bits)) ∧ Tt) ∧ CallOK Tryz.prog 120 [.one (.flt .f64 a0.bits)] [.one (.flt .f64 v1.bits)]) ∧ Tt ∧ (((Eqc (.flt .f64 a1.bits)) ∧ Tt) ∧ CallOK Tryz.prog 120 [.one (.flt .f64 a1.bits)] [.one (.flt .f64 v3.bits)]) ∧ T2 Tt) [.no, .call [.one (.flt .f64 a0.bits)] [.one (.flt .f64 v1.bits)] [[.view]], .no, .call [.one (.flt .f64 a1.bits)] [.one (.flt .f64 v3.bits)] [[.view]]] [0, 1, 5, 6] [] ⟨tr, ⟨⟨rfl, tr⟩, zcp K a0 v1 e2⟩, tr, ⟨⟨rfl, tr⟩, zcp K a1 v3 e4⟩, tr, tr, tr⟩ ?_
 refine AW.sC (T4 Tt) [] [0, 1, 5, 6, 7] [] ⟨tr, tr, tr, tr, tr⟩ ?_
 refine AW.seq ?_
 let z3 := vc (.flt .f64 a0.bits)
 let z6 := vc (.flt .f64 a1.bits)
 let z7 := vc (.flt .f64 v1.bits)
 let z8 := vc (.flt .f64 v3.bits)
 let z33 := vc (.flt .f64 (v1.div v3).bits)
 refine AW.sA ⟨[(0, z3), (1, z6), (5, z7), (6, z8), (7, z33), (21, (vB (v1.gt v3)))], []⟩ (Tt ∧ T2 Tt) [] [0, 1, 5, 6, 7, 21] [] ⟨tr, tr, tr, tr⟩ ?_
 rcases zqc h with ⟨b5, h⟩ | ⟨b5, h⟩
 ·refine AW.cond_t rfl b5 ?_
  refine AW.tC (T4 Tt) [] [0, 1, 5, 6, 7] [] ⟨tr, tr, tr, tr, tr⟩ ?_
  refine AW.seq ?_
  refine AW.sA ⟨[(0, z3), (1, z6), (5, z7), (6, z8), (7, (vc (.flt .f64 (v3.div v1).bits))), (25, (vI (0 : Int)))], []⟩ (Tt ∧ Tt) [] [0, 1, 5, 6, 7, 25] [] ⟨tr, tr⟩ ?_
  refine AW.block ?_
  refine AW.loopQ (σ := Nat × F64 × Int) (fun p => ⟨[(0, z3), (1, z6), (5, z7), (6, z8), (7, (vc (.flt .f64 p.2.1.bits))), (25, (vI p.2.2))], []⟩) (fun p => zwg K a0 a1 v1 v3 p.1 p.2.1 p.2.2 = some o) (fun p => p.1) (K, (v3.div v1), (0 : Int)) h ?_
  clear h
  rintro ⟨k, x8, x9⟩ h
  replace h : zwg K a0 a1 v1 v3 k x8 x9 = some o := h
  let z20 := vc (.flt .f64 x8.bits)
  show AW _ _ (⟨[(0, z3), (1, z6), (5, z7), (6, z8), (7, z20), (25, (vI x9))], []⟩ : St) _
  obtain _ | k := k
  ·rw [zwg] at h; cases h
  rw [zwg] at h
  refine AW.sA ⟨[(0, z3), (1, z6), (5, z7), (6, z8), (7, z20), (25, (vI x9)), (26, (vB (decide (x9 < (3 : Int)))))], []⟩ (Tt ∧ Tt) [] [0, 1, 5, 6, 7, 25, 26] [] ⟨tr, tr⟩ ?_
  refine AW.seq ?_
  rcases zqc h with ⟨b10, h⟩ | ⟨b10, h⟩
  ·refine AW.cond_t rfl b10 ?_
   refine AW.skip ?_
   refine zqa ?_
   refine AW.seq ?_
   refine AW.block ?_
   obtain ⟨v11, e12, h⟩ := zqb h
   let z9 := Fl.mk (k := .f64) 4607182418800017408 (by decide)
   let z28 := z9.add (x8.mul x8)
   let z30 := vc (.flt .f64 (x8.div (z9.add v11)).bits)
   refine AW.rA ⟨[(0, z3), (1, z6), (5, z7), (6, z8), (7, z30), (25, (vI x9))], []⟩ (Tt ∧ T4 ((((Eqc (.flt .f64 z28.bits)) ∧ Tt) ∧ CallOK Tryz.prog 122 [.one (.flt .f64 z28.bits)] [.one (.flt .f64 v11.bits)]) ∧ Tt ∧ T2 Tt)) [.no, .no, .no, .no, .no, .call [.one (.flt .f64 z28.bits)] [.one (.flt .f64 v11.bits)] [[.view]]] [0, 1, 5, 6, 7, 25] [] ⟨tr, tr, tr, tr, tr, ⟨⟨rfl, tr⟩, zyw K z28 v11 e12⟩, tr, tr, tr, tr⟩ ?_
   refine zqr ?_
   refine zqa ?_
   let z35 := IntKind.i64.wrap (x9 + (1 : Int))
   refine AW.rA ⟨[(0, z3), (1, z6), (5, z7), (6, z8), (7, z30), (25, (vI z35))], []⟩ (T2 Tt) [] [0, 1, 5, 6, 7, 25] [] ⟨tr, tr, tr⟩ ?_
   exact zqu (k, (x8.div (z9.add v11)), z35) h (Nat.lt_succ_self k) (Sub.keep [0, 1, 5, 6, 7, 25] [] (by kernel_rfl) (by kernel_rfl))
  ·refine AW.cond_f rfl b10 ?_
   refine AW.exit ?_
   refine zwc ?_
   refine zwd ?_
   refine zq4 ?_
   refine zqa ?_
   refine AW.sC (T4 Tt) [] [0, 1, 5, 6, 7, 8] [] ⟨tr, tr, tr, tr, tr⟩ ?_
   refine AW.sC (Tt ∧ Tt) [] [0, 1, 5, 6, 7, 8, 9] [] ⟨tr, tr⟩ ?_
   refine AW.seq ?_
   let z19 := vc (.flt .f64 (x8.mul x8).bits)
   let z38 := Fl.mk (k := .f64) 0 (by decide)
   refine AW.sA ⟨[(0, z3), (1, z6), (5, z7), (6, z8), (7, z20), (8, z19), (9, (vc (.flt .f64 z38.bits))), (10, (vI (15 : Int)))], []⟩ (Tt ∧ Tt) [] [0, 1, 5, 6, 7, 8, 9, 10] [] ⟨tr, tr⟩ ?_
   refine AW.block ?_
   refine AW.loopQ (σ := Nat × F64 × Int) (fun p => ⟨[(0, z3), (1, z6), (5, z7), (6, z8), (7, z20), (8, z19), (9, (vc (.flt .f64 p.2.1.bits))), (10, (vI p.2.2))], []⟩) (fun p => zwa K a0 a1 v1 v3 x8 p.1 p.2.1 p.2.2 = some o) (fun p => p.1) (K, z38, (15 : Int)) h ?_
   clear h
   rintro ⟨k, x15, x16⟩ h
   replace h : zwa K a0 a1 v1 v3 x8 k x15 x16 = some o := h
   show AW _ _ (⟨[(0, z3), (1, z6), (5, z7), (6, z8), (7, z20), (8, z19), (9, (vc (.flt .f64 x15.bits))), (10, (vI x16))], []⟩ : St) _
   obtain _ | k := k
   ·rw [zwa] at h; cases h
   rw [zwa] at h
   refine AW.seq ?_
   refine AW.sA ⟨[(0, z3), (1, z6), (5, z7), (6, z8), (7, z20), (8, z19), (9, (vc (.flt .f64 x15.bits))), (10, (vI x16)), (40, (vB (decide (x16 ≥ (1 : Int)))))], []⟩ (T2 Tt) [] [0, 1, 5, 6, 7, 8, 9, 10, 40] [] ⟨tr, tr, tr⟩ ?_
   rcases zqc h with ⟨b17, h⟩ | ⟨b17, h⟩
   ·refine AW.cond_t rfl b17 ?_
    refine AW.skip ?_
    refine zqa ?_
    refine AW.seq ?_
    refine AW.block ?_
    let z16 := ((Fl.mk (k := .f64) 4607182418800017408 (by decide)).div (Fl.ofInt .f64 x16)).sub ((x8.mul x8).mul x15)
    refine AW.rA ⟨[(0, z3), (1, z6), (5, z7), (6, z8), (7, z20), (8, z19), (9, (vc (.flt .f64 z16.bits))), (10, (vI x16))], []⟩ (T4 (T4 Tt)) [] [0, 1, 5, 6, 7, 8, 9, 10] [] ⟨tr, tr, tr, tr, tr, tr, tr, tr, tr⟩ ?_
    refine zqr ?_
    refine zqa ?_
    let z36 := IntKind.i64.wrap (x16 - (2 : Int))
    refine AW.rA ⟨[(0, z3), (1, z6), (5, z7), (6, z8), (7, z20), (8, z19), (9, (vc (.flt .f64 z16.bits))), (10, (vI z36))], []⟩ (Tt ∧ T2 Tt) [] [0, 1, 5, 6, 7, 8, 9, 10] [] ⟨tr, tr, tr, tr⟩ ?_
    exact zqu (k, z16, z36) h (Nat.lt_succ_self k) (Sub.keep [0, 1, 5, 6, 7, 8, 9, 10] [] (by kernel_rfl) (by kernel_rfl))
   ·refine AW.cond_f rfl b17 ?_
    refine AW.exit ?_
    refine zwc ?_
    refine zwd ?_
    refine zq4 ?_
    refine zqa ?_
    refine AW.sC (T2 (T4 Tt)) [] [0, 1, 5, 6, 11] [] ⟨tr, tr, tr, tr, tr, tr, tr⟩ ?_
    refine AW.seq ?_
    let z2 := ((Fl.mk (k := .f64) 4620693217682128896 (by decide)).mul (x8.mul x15)).div (Fl.mk (k := .f64) 4618760256179416344 (by decide))
    let z21 := vc (.flt .f64 z2.bits)
    refine AW.sA ⟨[(0, z3), (1, z6), (11, z21), (57, (vB (v1.gt v3)))], []⟩ (Tt ∧ T2 Tt) [] [0, 1, 11, 57] [] ⟨tr, tr, tr, tr⟩ ?_
    rcases zqc h with ⟨b18, h⟩ | ⟨b18, h⟩
    ·refine AW.cond_t rfl b18 ?_
     refine AW.tC (Tt ∧ T2 Tt) [] [0, 1, 11] [] ⟨tr, tr, tr, tr⟩ ?_
     refine AW.seq ?_
     let z4 := (Fl.mk (k := .f64) 4598175219545276416 (by decide)).sub z2
     let z24 := Fl.mk (k := .f64) 0 (by decide)
     let z31 := vc (.flt .f64 z4.bits)
     refine AW.sA ⟨[(0, z3), (11, z31), (61, (vB (a1.lt' z24)))], []⟩ (T2 Tt) [] [0, 11, 61] [] ⟨tr, tr, tr⟩ ?_
     rcases zqc h with ⟨b19, h⟩ | ⟨b19, h⟩
     ·refine AW.cond_t rfl b19 ?_
      refine AW.tC (Tt ∧ T2 Tt) [] [0, 11] [] ⟨tr, tr, tr, tr⟩ ?_
      refine AW.seq ?_
      let z11 := (Fl.mk (k := .f64) 4602678819172646912 (by decide)).sub z4
      refine AW.sA ⟨[(11, (vc (.flt .f64 z11.bits))), (65, (vB (a0.lt' z24)))], []⟩ (T2 Tt) [] [11, 65] [] ⟨tr, tr, tr⟩ ?_
      rcases zqc h with ⟨b20, h⟩ | ⟨b20, h⟩
      ·refine AW.cond_t rfl b20 ?_
       refine AW.tC (Tt ∧ T2 Tt) [] [11] [] ⟨tr, tr, tr, tr⟩ ?_
       refine AW.sA ⟨[(4, (vc (.flt .f64 (z11.neg).bits)))], []⟩ (T2 Tt) [] [4] [] ⟨tr, tr, tr⟩ ?_
       refine AW.ret ?_
       replace h := zqd h
       subst h
       exact ⟨.inr rfl, zqe [(.one (.c (.flt .f64 (z11.neg).bits)))] (by kernel_rfl) ⟨⟨rfl, tr⟩, tr⟩ (of_decide_eq_true (by kernel_rfl))⟩
      ·refine AW.cond_f rfl b20 ?_
       refine AW.skip ?_
       refine zqa ?_
       refine AW.sA ⟨[(4, (vc (.flt .f64 z11.bits)))], []⟩ (T2 Tt) [] [4] [] ⟨tr, tr, tr⟩ ?_
       refine AW.ret ?_
       replace h := zqd h
       subst h
       exact ⟨.inr rfl, zqe [(.one (.c (.flt .f64 z11.bits)))] (by kernel_rfl) ⟨⟨rfl, tr⟩, tr⟩ (of_decide_eq_true (by kernel_rfl))⟩
     ·refine AW.cond_f rfl b19 ?_
      refine AW.skip ?_
      refine zqa ?_
      refine AW.seq ?_
      refine AW.sA ⟨[(11, z31), (65, (vB (a0.lt' z24)))], []⟩ (T2 Tt) [] [11, 65] [] ⟨tr, tr, tr⟩ ?_
      rcases zqc h with ⟨b21, h⟩ | ⟨b21, h⟩
      ·refine AW.cond_t rfl b21 ?_
       refine AW.tC (Tt ∧ T2 Tt) [] [11] [] ⟨tr, tr, tr, tr⟩ ?_
       refine AW.sA ⟨[(4, (vc (.flt .f64 (z4.neg).bits)))], []⟩ (T2 Tt) [] [4] [] ⟨tr, tr, tr⟩ ?_
       refine AW.ret ?_
       replace h := zqd h
       subst h
       exact ⟨.inr rfl, zqe [(.one (.c (.flt .f64 (z4.neg).bits)))] (by kernel_rfl) ⟨⟨rfl, tr⟩, tr⟩ (of_decide_eq_true (by kernel_rfl))⟩
      ·refine AW.cond_f rfl b21 ?_
       refine AW.skip ?_
       refine zqa ?_
       refine AW.sA ⟨[(4, z31)], []⟩ (T2 Tt) [] [4] [] ⟨tr, tr, tr⟩ ?_
       refine AW.ret ?_
       replace h := zqd h
       subst h
       exact ⟨.inr rfl, zqe [(.one (.c (.flt .f64 z4.bits)))] (by kernel_rfl) ⟨⟨rfl, tr⟩, tr⟩ (of_decide_eq_true (by kernel_rfl))⟩
    ·refine AW.cond_f rfl b18 ?_
     refine AW.skip ?_
     refine zqa ?_
     refine AW.seq ?_
     let z25 := Fl.mk (k := .f64) 0 (by decide)
     refine AW.sA ⟨[(0, z3), (11, z21), (61, (vB (a1.lt' z25)))], []⟩ (T2 Tt) [] [0, 11, 61] [] ⟨tr, tr, tr⟩ ?_
     rcases zqc h with ⟨b22, h⟩ | ⟨b22, h⟩
     ·refine AW.cond_t rfl b22 ?_
      refine AW.tC (Tt ∧ T2 Tt) [] [0, 11] [] ⟨tr, tr, tr, tr⟩ ?_
      refine AW.seq ?_
      let z12 := (Fl.mk (k := .f64) 4602678819172646912 (by decide)).sub z2
      refine AW.sA ⟨[(11, (vc (.flt .f64 z12.bits))), (65, (vB (a0.lt' z25)))], []⟩ (T2 Tt) [] [11, 65] [] ⟨tr, tr, tr⟩ ?_
      rcases zqc h with ⟨b23, h⟩ | ⟨b23, h⟩
      ·refine AW.cond_t rfl b23 ?_
       refine AW.tC (Tt ∧ T2 Tt) [] [11] [] ⟨tr, tr, tr, tr⟩ ?_
       refine AW.sA ⟨[(4, (vc (.flt .f64 (z12.neg).bits)))], []⟩ (T2 Tt) [] [4] [] ⟨tr, tr, tr⟩ ?_
       refine AW.ret ?_
       replace h := zqd h
       subst h
       exact ⟨.inr rfl, zqe [(.one (.c (.flt .f64 (z12.neg).bits)))] (by kernel_rfl) ⟨⟨rfl, tr⟩, tr⟩ (of_decide_eq_true (by kernel_rfl))⟩
      ·refine AW.cond_f rfl b23 ?_
       refine AW.skip ?_
       refine zqa ?_
       refine AW.sA ⟨[(4, (vc (.flt .f64 z12.bits)))], []⟩ (T2 Tt) [] [4] [] ⟨tr, tr, tr⟩ ?_
       refine AW.ret ?_
       replace h := zqd h
       subst h
       exact ⟨.inr rfl, zqe [(.one (.c (.flt .f64 z12.bits)))] (by kernel_rfl) ⟨⟨rfl, tr⟩, tr⟩ (of_decide_eq_true (by kernel_rfl))⟩
     ·refine AW.cond_f rfl b22 ?_
      refine AW.skip ?_
      refine zqa ?_
      refine AW.seq ?_
      refine AW.sA ⟨[(11, z21), (65, (vB (a0.lt' z25)))], []⟩ (T2 Tt) [] [11, 65] [] ⟨tr, tr, tr⟩ ?_
      rcases zqc h with ⟨b24, h⟩ | ⟨b24, h⟩
      ·refine AW.cond_t rfl b24 ?_
       refine AW.tC (Tt ∧ T2 Tt) [] [11] [] ⟨tr, tr, tr, tr⟩ ?_
       refine AW.sA ⟨[(4, (vc (.flt .f64 (z2.neg).bits)))], []⟩ (T2 Tt) [] [4] [] ⟨tr, tr, tr⟩ ?_
       refine AW.ret ?_
       replace h := zqd h
       subst h
       exact ⟨.inr rfl, zqe [(.one (.c (.flt .f64 (z2.neg).bits)))] (by kernel_rfl) ⟨⟨rfl, tr⟩, tr⟩ (of_decide_eq_true (by kernel_rfl))⟩
      ·refine AW.cond_f rfl b24 ?_
       refine AW.skip ?_
       refine zqa ?_
       refine AW.sA ⟨[(4, z21)], []⟩ (T2 Tt) [] [4] [] ⟨tr, tr, tr⟩ ?_
       refine AW.ret ?_
       replace h := zqd h
       subst h
       exact ⟨.inr rfl, zqe [(.one (.c (.flt .f64 z2.bits)))] (by kernel_rfl) ⟨⟨rfl, tr⟩, tr⟩ (of_decide_eq_true (by kernel_rfl))⟩
 ·refine AW.cond_f rfl b5 ?_
  refine AW.skip ?_
  refine zqa ?_
  refine AW.seq ?_
  refine AW.sA ⟨[(0, z3), (1, z6), (5, z7), (6, z8), (7, z33), (25, (vI (0 : Int)))], []⟩ (Tt ∧ Tt) [] [0, 1, 5, 6, 7, 25] [] ⟨tr, tr⟩ ?_
  refine AW.block ?_
  refine AW.loopQ (σ := Nat × F64 × Int) (fun p => ⟨[(0, z3), (1, z6), (5, z7), (6, z8), (7, (vc (.flt .f64 p.2.1.bits))), (25, (vI p.2.2))], []⟩) (fun p => zw8 K a0 a1 v1 v3 p.1 p.2.1 p.2.2 = some o) (fun p => p.1) (K, (v1.div v3), (0 : Int)) h ?_
  clear h
  rintro ⟨k, x27, x28⟩ h
  replace h : zw8 K a0 a1 v1 v3 k x27 x28 = some o := h
  let z18 := vc (.flt .f64 x27.bits)
  show AW _ _ (⟨[(0, z3), (1, z6), (5, z7), (6, z8), (7, z18), (25, (vI x28))], []⟩ : St) _
  obtain _ | k := k
  ·rw [zw8] at h; cases h
  rw [zw8] at h
  refine AW.sA ⟨[(0, z3), (1, z6), (5, z7), (6, z8), (7, z18), (25, (vI x28)), (26, (vB (decide (x28 < (3 : Int)))))], []⟩ (Tt ∧ Tt) [] [0, 1, 5, 6, 7, 25, 26] [] ⟨tr, tr⟩ ?_
  refine AW.seq ?_
  rcases zqc h with ⟨b29, h⟩ | ⟨b29, h⟩
  ·refine AW.cond_t rfl b29 ?_
   refine AW.skip ?_
   refine zqa ?_
   refine AW.seq ?_
   refine AW.block ?_
   obtain ⟨v30, e31, h⟩ := zqb h
   let z10 := Fl.mk (k := .f64) 4607182418800017408 (by decide)
   let z23 := z10.add (x27.mul x27)
   let z29 := vc (.flt .f64 (x27.div (z10.add v30)).bits)
   refine AW.rA ⟨[(0, z3), (1, z6), (5, z7), (6, z8), (7, z29), (25, (vI x28))], []⟩ (Tt ∧ T4 ((((Eqc (.flt .f64 z23.bits)) ∧ Tt) ∧ CallOK Tryz.prog 122 [.one (.flt .f64 z23.bits)] [.one (.flt .f64 v30.bits)]) ∧ Tt ∧ T2 Tt)) [.no, .no, .no, .no, .no, .call [.one (.flt .f64 z23.bits)] [.one (.flt .f64 v30.bits)] [[.view]]] [0, 1, 5, 6, 7, 25] [] ⟨tr, tr, tr, tr, tr, ⟨⟨rfl, tr⟩, zyw K z23 v30 e31⟩, tr, tr, tr, tr⟩ ?_
   refine zqr ?_
   refine zqa ?_
   let z34 := IntKind.i64.wrap (x28 + (1 : Int))
   refine AW.rA ⟨[(0, z3), (1, z6), (5, z7), (6, z8), (7, z29), (25, (vI z34))], []⟩ (T2 Tt) [] [0, 1, 5, 6, 7, 25] [] ⟨tr, tr, tr⟩ ?_
   exact zqu (k, (x27.div (z10.add v30)), z34) h (Nat.lt_succ_self k) (Sub.keep [0, 1, 5, 6, 7, 25] [] (by kernel_rfl) (by kernel_rfl))
  ·refine AW.cond_f rfl b29 ?_
   refine AW.exit ?_
   refine zwc ?_
   refine zwd ?_
   refine zq4 ?_
   refine zqa ?_
   refine AW.sC (T4 Tt) [] [0, 1, 5, 6, 7, 8] [] ⟨tr, tr, tr, tr, tr⟩ ?_
   refine AW.sC (Tt ∧ Tt) [] [0, 1, 5, 6, 7, 8, 9] [] ⟨tr, tr⟩ ?_
   refine AW.seq ?_
   let z17 := vc (.flt .f64 (x27.mul x27).bits)
   let z39 := Fl.mk (k := .f64) 0 (by decide)
   refine AW.sA ⟨[(0, z3), (1, z6), (5, z7), (6, z8), (7, z18), (8, z17), (9, (vc (.flt .f64 z39.bits))), (10, (vI (15 : Int)))], []⟩ (Tt ∧ Tt) [] [0, 1, 5, 6, 7, 8, 9, 10] [] ⟨tr, tr⟩ ?_
   refine AW.block ?_
   refine AW.loopQ (σ := Nat × F64 × Int) (fun p => ⟨[(0, z3), (1, z6), (5, z7), (6, z8), (7, z18), (8, z17), (9, (vc (.flt .f64 p.2.1.bits))), (10, (vI p.2.2))], []⟩) (fun p => zw7 K a0 a1 v1 v3 x27 p.1 p.2.1 p.2.2 = some o) (fun p => p.1) (K, z39, (15 : Int)) h ?_
   clear h
   rintro ⟨k, x34, x35⟩ h
   replace h : zw7 K a0 a1 v1 v3 x27 k x34 x35 = some o := h
   show AW _ _ (⟨[(0, z3), (1, z6), (5, z7), (6, z8), (7, z18), (8, z17), (9, (vc (.flt .f64 x34.bits))), (10, (vI x35))], []⟩ : St) _
   obtain _ | k := k
   ·rw [zw7] at h; cases h
   rw [zw7] at h
   refine AW.seq ?_
   refine AW.sA ⟨[(0, z3), (1, z6), (5, z7), (6, z8), (7, z18), (8, z17), (9, (vc (.flt .f64 x34.bits))), (10, (vI x35)), (40, (vB (decide (x35 ≥ (1 : Int)))))], []⟩ (T2 Tt) [] [0, 1, 5, 6, 7, 8, 9, 10, 40] [] ⟨tr, tr, tr⟩ ?_
   rcases zqc h with ⟨b36, h⟩ | ⟨b36, h⟩
   ·refine AW.cond_t rfl b36 ?_
    refine AW.skip ?_
    refine zqa ?_
    refine AW.seq ?_
    refine AW.block ?_
    let z15 := ((Fl.mk (k := .f64) 4607182418800017408 (by decide)).div (Fl.ofInt .f64 x35)).sub ((x27.mul x27).mul x34)
    refine AW.rA ⟨[(0, z3), (1, z6), (5, z7), (6, z8), (7, z18), (8, z17), (9, (vc (.flt .f64 z15.bits))), (10, (vI x35))], []⟩ (T4 (T4 Tt)) [] [0, 1, 5, 6, 7, 8, 9, 10] [] ⟨tr, tr, tr, tr, tr, tr, tr, tr, tr⟩ ?_
    refine zqr ?_
    refine zqa ?_
    let z37 := IntKind.i64.wrap (x35 - (2 : Int))
    refine AW.rA ⟨[(0, z3), (1, z6), (5, z7), (6, z8), (7, z18), (8, z17), (9, (vc (.flt .f64 z15.bits))), (10, (vI z37))], []⟩ (Tt ∧ T2 Tt) [] [0, 1, 5, 6, 7, 8, 9, 10] [] ⟨tr, tr, tr, tr⟩ ?_
    exact zqu (k, z15, z37) h (Nat.lt_succ_self k) (Sub.keep [0, 1, 5, 6, 7, 8, 9, 10] [] (by kernel_rfl) (by kernel_rfl))
   ·refine AW.cond_f rfl b36 ?_
    refine AW.exit ?_
    refine zwc ?_
    refine zwd ?_
    refine zq4 ?_
    refine zqa ?_
    refine AW.sC (T2 (T4 Tt)) [] [0, 1, 5, 6, 11] [] ⟨tr, tr, tr, tr, tr, tr, tr⟩ ?_
    refine AW.seq ?_
    let z1 := ((Fl.mk (k := .f64) 4620693217682128896 (by decide)).mul (x27.mul x34)).div (Fl.mk (k := .f64) 4618760256179416344 (by decide))
    let z22 := vc (.flt .f64 z1.bits)
    refine AW.sA ⟨[(0, z3), (1, z6), (11, z22), (57, (vB (v1.gt v3)))], []⟩ (Tt ∧ T2 Tt) [] [0, 1, 11, 57] [] ⟨tr, tr, tr, tr⟩ ?_
    rcases zqc h with ⟨b37, h⟩ | ⟨b37, h⟩
    ·refine AW.cond_t rfl b37 ?_
     refine AW.tC (Tt ∧ T2 Tt) [] [0, 1, 11] [] ⟨tr, tr, tr, tr⟩ ?_
     refine AW.seq ?_
     let z5 := (Fl.mk (k := .f64) 4598175219545276416 (by decide)).sub z1
     let z26 := Fl.mk (k := .f64) 0 (by decide)
     let z32 := vc (.flt .f64 z5.bits)
     refine AW.sA ⟨[(0, z3), (11, z32), (61, (vB (a1.lt' z26)))], []⟩ (T2 Tt) [] [0, 11, 61] [] ⟨tr, tr, tr⟩ ?_
     rcases zqc h with ⟨b38, h⟩ | ⟨b38, h⟩
     ·refine AW.cond_t rfl b38 ?_
      refine AW.tC (Tt ∧ T2 Tt) [] [0, 11] [] ⟨tr, tr, tr, tr⟩ ?_
      refine AW.seq ?_
      let z13 := (Fl.mk (k := .f64) 4602678819172646912 (by decide)).sub z5
      refine AW.sA ⟨[(11, (vc (.flt .f64 z13.bits))), (65, (vB (a0.lt' z26)))], []⟩ (T2 Tt) [] [11, 65] [] ⟨tr, tr, tr⟩ ?_
      rcases zqc h with ⟨b39, h⟩ | ⟨b39, h⟩
      ·refine AW.cond_t rfl b39 ?_
       refine AW.tC (Tt ∧ T2 Tt) [] [11] [] ⟨tr, tr, tr, tr⟩ ?_
       refine AW.sA ⟨[(4, (vc (.flt .f64 (z13.neg).bits)))], []⟩ (T2 Tt) [] [4] [] ⟨tr, tr, tr⟩ ?_
       refine AW.ret ?_
       replace h := zqd h
       subst h
       exact ⟨.inr rfl, zqe [(.one (.c (.flt .f64 (z13.neg).bits)))] (by kernel_rfl) ⟨⟨rfl, tr⟩, tr⟩ (of_decide_eq_true (by kernel_rfl))⟩
      ·refine AW.cond_f rfl b39 ?_
       refine AW.skip ?_
       refine zqa ?_
       refine AW.sA ⟨[(4, (vc (.flt .f64 z13.bits)))], []⟩ (T2 Tt) [] [4] [] ⟨tr, tr, tr⟩ ?_
       refine AW.ret ?_
       replace h := zqd h
       subst h
       exact ⟨.inr rfl, zqe [(.one (.c (.flt .f64 z13.bits)))] (by kernel_rfl) ⟨⟨rfl, tr⟩, tr⟩ (of_decide_eq_true (by kernel_rfl))⟩
     ·refine AW.cond_f rfl b38 ?_
      refine AW.skip ?_
      refine zqa ?_
      refine AW.seq ?_
      refine AW.sA ⟨[(11, z32), (65, (vB (a0.lt' z26)))], []⟩ (T2 Tt) [] [11, 65] [] ⟨tr, tr, tr⟩ ?_
      rcases zqc h with ⟨b40, h⟩ | ⟨b40, h⟩
      ·refine AW.cond_t rfl b40 ?_
       refine AW.tC (Tt ∧ T2 Tt) [] [11] [] ⟨tr, tr, tr, tr⟩ ?_
       refine AW.sA ⟨[(4, (vc (.flt .f64 (z5.neg).bits)))], []⟩ (T2 Tt) [] [4] [] ⟨tr, tr, tr⟩ ?_
       refine AW.ret ?_
       replace h := zqd h
       subst h
       exact ⟨.inr rfl, zqe [(.one (.c (.flt .f64 (z5.neg).bits)))] (by kernel_rfl) ⟨⟨rfl, tr⟩, tr⟩ (of_decide_eq_true (by kernel_rfl))⟩
      ·refine AW.cond_f rfl b40 ?_
       refine AW.skip ?_
       refine zqa ?_
       refine AW.sA ⟨[(4, z32)], []⟩ (T2 Tt) [] [4] [] ⟨tr, tr, tr⟩ ?_
       refine AW.ret ?_
       replace h := zqd h
       subst h
       exact ⟨.inr rfl, zqe [(.one (.c (.flt .f64 z5.bits)))] (by kernel_rfl) ⟨⟨rfl, tr⟩, tr⟩ (of_decide_eq_true (by kernel_rfl))⟩
    ·refine AW.cond_f rfl b37 ?_
     refine AW.skip ?_
     refine zqa ?_
     refine AW.seq ?_
     let z27 := Fl.mk (k := .f64) 0 (by decide)
     refine AW.sA ⟨[(0, z3), (11, z22), (61, (vB (a1.lt' z27)))], []⟩ (T2 Tt) [] [0, 11, 61] [] ⟨tr, tr, tr⟩ ?_
     rcases zqc h with ⟨b41, h⟩ | ⟨b41, h⟩
     ·refine AW.cond_t rfl b41 ?_
      refine AW.tC (Tt ∧ T2 Tt) [] [0, 11] [] ⟨tr, tr, tr, tr⟩ ?_
      refine AW.seq ?_
      let z14 := (Fl.mk (k := .f64) 4602678819172646912 (by decide)).sub z1
      refine AW.sA ⟨[(11, (vc (.flt .f64 z14.bits))), (65, (vB (a0.lt' z27)))], []⟩ (T2 Tt) [] [11, 65] [] ⟨tr, tr, tr⟩ ?_
      rcases zqc h with ⟨b42, h⟩ | ⟨b42, h⟩
      ·refine AW.cond_t rfl b42 ?_
       refine AW.tC (Tt ∧ T2 Tt) [] [11] [] ⟨tr, tr, tr, tr⟩ ?_
       refine AW.sA ⟨[(4, (vc (.flt .f64 (z14.neg).bits)))], []⟩ (T2 Tt) [] [4] [] ⟨tr, tr, tr⟩ ?_
       refine AW.ret ?_
       replace h := zqd h
       subst h
       exact ⟨.inr rfl, zqe [(.one (.c (.flt .f64 (z14.neg).bits)))] (by kernel_rfl) ⟨⟨rfl, tr⟩, tr⟩ (of_decide_eq_true (by kernel_rfl))⟩
      ·refine AW.cond_f rfl b42 ?_
       refine AW.skip ?_
       refine zqa ?_
       refine AW.sA ⟨[(4, (vc (.flt .f64 z14.bits)))], []⟩ (T2 Tt) [] [4] [] ⟨tr, tr, tr⟩ ?_
       refine AW.ret ?_
       replace h := zqd h
       subst h
       exact ⟨.inr rfl, zqe [(.one (.c (.flt .f64 z14.bits)))] (by kernel_rfl) ⟨⟨rfl, tr⟩, tr⟩ (of_decide_eq_true (by kernel_rfl))⟩
     ·refine AW.cond_f rfl b41 ?_
      refine AW.skip ?_
      refine zqa ?_
      refine AW.seq ?_
      refine AW.sA ⟨[(11, z22), (65, (vB (a0.lt' z27)))], []⟩ (T2 Tt) [] [11, 65] [] ⟨tr, tr, tr⟩ ?_
      rcases zqc h with ⟨b43, h⟩ | ⟨b43, h⟩
      ·refine AW.cond_t rfl b43 ?_
       refine AW.tC (Tt ∧ T2 Tt) [] [11] [] ⟨tr, tr, tr, tr⟩ ?_
       refine AW.sA ⟨[(4, (vc (.flt .f64 (z1.neg).bits)))], []⟩ (T2 Tt) [] [4] [] ⟨tr, tr, tr⟩ ?_
       refine AW.ret ?_
       replace h := zqd h
       subst h
       exact ⟨.inr rfl, zqe [(.one (.c (.flt .f64 (z1.neg).bits)))] (by kernel_rfl) ⟨⟨rfl, tr⟩, tr⟩ (of_decide_eq_true (by kernel_rfl))⟩
      ·refine AW.cond_f rfl b43 ?_
       refine AW.skip ?_
       refine zqa ?_
       refine AW.sA ⟨[(4, z22)], []⟩ (T2 Tt) [] [4] [] ⟨tr, tr, tr⟩ ?_
       refine AW.ret ?_
       replace h := zqd h
       subst h
       exact ⟨.inr rfl, zqe [(.one (.c (.flt .f64 z1.bits)))] (by kernel_rfl) ⟨⟨rfl, tr⟩, tr⟩ (of_decide_eq_true (by kernel_rfl))⟩

/-! impl.AngleTurns -/
def zva (K : Nat) (a0 : F32) (a1 : F32) : Option (F32) :=
 (zjg K a1).bind fun v1 => (ite2 ((!v1)) (some true) ((zjg K a0).bind fun v4 => some (!v4))).bind fun j6 => ite2 (j6) ((zvu K ).bind fun v9 => some v9) ((ite2 ((a1.eq (Fl.mk (k := .f32) 0 (by decide)))) (some (a0.eq (Fl.mk (k := .f32) 0 (by decide)))) (some false)).bind fun j12 => ite2 (j12) (some (Fl.mk (k := .f32) 0 (by decide))) ((zvv K (Fl.cv .f32 .f64 a0) (Fl.cv .f32 .f64 a1)).bind fun v15 => chk ((zqw .f64 v15.bits .f32).isSome = true) (some (Fl.cv .f64 .f32 v15))))

theorem ok_impl_AngleTurns (K : Nat) (a0 : F32) (a1 : F32) (o : (F32)) (h : zva K a0 a1 = some o) : CallOK Tryz.prog 103 [.one (.flt .f32 a0.bits), .one (.flt .f32 a1.bits)] [.one (.flt .f32 o.bits)] := by
 refine zqh Tryz.func103 rfl (by kernel_rfl) (Nat.le_of_ble_eq_true (by kernel_rfl)) ?_
 intro w0
 unfold zva at h
 let z1 := vc (.flt .f32 a0.bits)
 let z2 := vc (.flt .f32 a1.bits)
 refine AW.sA ⟨[(0, z1), (1, z2)], []⟩ (Tt ∧ Tt) [] [0, 1] [] ⟨tr, tr⟩ ?_
 refine AW.seq ?_
 refine AW.seq ?_
 obtain ⟨v1, e2, h⟩ := zqb h
 obtain ⟨j6, e7, h⟩ := zqb h
 refine AW.join1 (s2 := ⟨[(0, z1), (1, z2), (12, (vB j6))], []⟩) ?_ ?_
 ·rcases zqc e7 with ⟨b3, e7⟩ | ⟨b3, e7⟩
  ·replace e7 := zqd e7
   subst e7
   exact AW.rA ⟨[(0, z1), (1, z2), (12, (vB true))], []⟩ (Tt ∧ (((eF a1) ∧ Tt) ∧ CallOK Tryz.prog 116 [.one (.flt .f32 a1.bits)] [.one (.bool v1)]) ∧ Tt ∧ (Tt ∧ (!v1) = true) ∧ T4 Tt) [.no, .call [.one (.flt .f32 a1.bits)] [.one (.bool v1)] [[.view]], .no, .dec true] [0, 1, 12] [] ⟨tr, ⟨⟨rfl, tr⟩, zj6 K a1 v1 e2⟩, tr, ⟨tr, b3⟩, tr, tr, tr, tr, tr⟩ ⟨rfl, rfl⟩
  ·obtain ⟨v4, e5, e7⟩ := zqb e7
   replace e7 := zqd e7
   subst e7
   exact AW.rA ⟨[(0, z1), (1, z2), (12, (vB (!v4)))], []⟩ (Tt ∧ (((eF a1) ∧ Tt) ∧ CallOK Tryz.prog 116 [.one (.flt .f32 a1.bits)] [.one (.bool v1)]) ∧ Tt ∧ (Tt ∧ (!v1) = false) ∧ Tt ∧ (((eF a0) ∧ Tt) ∧ CallOK Tryz.prog 116 [.one (.flt .f32 a0.bits)] [.one (.bool v4)]) ∧ T2 Tt) [.no, .call [.one (.flt .f32 a1.bits)] [.one (.bool v1)] [[.view]], .no, .dec false, .no, .call [.one (.flt .f32 a0.bits)] [.one (.bool v4)] [[.view]]] [0, 1, 12] [] ⟨tr, ⟨⟨rfl, tr⟩, zj6 K a1 v1 e2⟩, tr, ⟨tr, b3⟩, tr, ⟨⟨rfl, tr⟩, zj6 K a0 v4 e5⟩, tr, tr, tr⟩ ⟨rfl, rfl⟩
 refine zqa ?_
 rcases zqc h with ⟨b8, h⟩ | ⟨b8, h⟩
 ·refine AW.cond_t rfl b8 ?_
  refine AW.seq ?_
  obtain ⟨v9, e10, h⟩ := zqb h
  refine AW.tA ⟨[(4, (vc (.flt .f32 v9.bits)))], []⟩ (((Tt) ∧ CallOK Tryz.prog 117 [] [.one (.flt .f32 v9.bits)]) ∧ Tt ∧ Tt) [.call [] [.one (.flt .f32 v9.bits)] [[.view]]] [4] [] ⟨⟨tr, ok_impl_notNumber K v9 e10⟩, tr, tr⟩ ?_
  refine AW.ret ?_
  refine zqm ?_
  replace h := zqd h
  subst h
  exact ⟨.inr rfl, zqe [(.one (cF v9))] (by kernel_rfl) ⟨⟨rfl, tr⟩, tr⟩ (of_decide_eq_true (by kernel_rfl))⟩
 ·refine AW.cond_f rfl b8 ?_
  refine AW.skip ?_
  refine zqa ?_
  refine AW.seq ?_
  refine AW.seq ?_
  obtain ⟨j12, e13, h⟩ := zqb h
  refine AW.join1 (s2 := ⟨[(0, z1), (1, z2), (19, (vB j12))], []⟩) ?_ ?_
  ·rcases zqc e13 with ⟨b11, e13⟩ | ⟨b11, e13⟩
   ·replace e13 := zqd e13
    subst e13
    exact AW.rA ⟨[(0, z1), (1, z2), (19, (vB (a0.eq (Fl.mk (k := .f32) 0 (by decide)))))], []⟩ (T2 ((Tt ∧ (a1.eq (Fl.mk (k := .f32) 0 (by decide))) = true) ∧ Tt ∧ T2 Tt)) [.no, .no, .dec true] [0, 1, 19] [] ⟨tr, tr, ⟨tr, b11⟩, tr, tr, tr, tr⟩ ⟨rfl, rfl⟩
   ·replace e13 := zqd e13
    subst e13
    exact AW.rA ⟨[(0, z1), (1, z2), (19, (vB false))], []⟩ (T2 ((Tt ∧ (a1.eq (Fl.mk (k := .f32) 0 (by decide))) = false) ∧ Tt ∧ T2 Tt)) [.no, .no, .dec false] [0, 1, 19] [] ⟨tr, tr, ⟨tr, b11⟩, tr, tr, tr, tr⟩ ⟨rfl, rfl⟩
  refine zqa ?_
  rcases zqc h with ⟨b14, h⟩ | ⟨b14, h⟩
  ·refine AW.cond_t rfl b14 ?_
   let z6 := Fl.mk (k := .f32) 0 (by decide)
   refine AW.sA ⟨[(4, (vc (.flt .f32 z6.bits)))], []⟩ (Tt ∧ Tt) [] [4] [] ⟨tr, tr⟩ ?_
   refine AW.ret ?_
   refine zqm ?_
   replace h := zqd h
   subst h
   exact ⟨.inr rfl, zqe [(.one (cF z6))] (by kernel_rfl) ⟨⟨rfl, tr⟩, tr⟩ (of_decide_eq_true (by kernel_rfl))⟩
  ·refine AW.cond_f rfl b14 ?_
   refine AW.skip ?_
   refine zqa ?_
   refine AW.seq ?_
   obtain ⟨v15, e16, h⟩ := zqb h
   obtain ⟨c17, h⟩ := zqn h
   let z4 := Fl.cv .f32 .f64 a0
   let z5 := Fl.cv .f32 .f64 a1
   let z3 : List CT := [.one (.flt .f64 z4.bits), .one (.flt .f64 z5.bits)]
   refine AW.tA ⟨[(4, (vc (.flt .f32 (Fl.cv .f64 .f32 v15).bits)))], []⟩ (Tt ∧ ((zqw .f32 a0.bits .f64).isSome = true) ∧ Tt ∧ ((zqw .f32 a1.bits .f64).isSome = true) ∧ (((Eqc (.flt .f64 z4.bits)) ∧ (Eqc (.flt .f64 z5.bits)) ∧ Tt) ∧ CallOK Tryz.prog 118 z3 [.one (.flt .f64 v15.bits)]) ∧ ((zqw .f64 v15.bits .f32).isSome = true) ∧ Tt ∧ Tt) [.no, .no, .no, .no, .call z3 [.one (.flt .f64 v15.bits)] [[.view]]] [4] [] ⟨tr, zbb a0, tr, zbb a1, ⟨⟨rfl, rfl, tr⟩, ok_impl_wideAngle K z4 z5 v15 e16⟩, c17, tr, tr⟩ ?_
   refine AW.ret ?_
   replace h := zqd h
   subst h
   exact ⟨.inr rfl, zqe [(.one (cF (Fl.cv .f64 .f32 v15)))] (by kernel_rfl) ⟨⟨rfl, tr⟩, tr⟩ (of_decide_eq_true (by kernel_rfl))⟩

/-! impl.AngleOf -/
def zys (K : Nat) (a0 : Turn) : Option (F32) :=
 (zv1 K a0).bind fun v1 => (zbi K v1).bind fun v3 => (zb0 K a0.W).bind fun v5 => (zva K v3 v5).bind fun v7 => some ((Fl.mk (k := .f32) 1073741824 (by decide)).mul v7)

theorem ok_impl_AngleOf (K : Nat) (a0 : Turn) (o : (F32)) (h : zys K a0 = some o) : CallOK Tryz.prog 83 [.agg (zqi a0)] [.one (.flt .f32 o.bits)] := by
 refine zqh Tryz.func83 rfl (by kernel_rfl) (Nat.le_of_ble_eq_true (by kernel_rfl)) ?_
 intro w0
 unfold zys at h
 refine AW.sA ⟨[(1, (vp 1 0))], [(1, (.box [(cF a0.W), (cF a0.X), (cF a0.Y), (cF a0.Z)]))]⟩ (T2 Tt) [.box 1] [1] [1] ⟨tr, tr, tr⟩ ?_
 refine AW.seq ?_
 obtain ⟨v1, e2, h⟩ := zqb h
 obtain ⟨v3, e4, h⟩ := zqb h
 obtain ⟨v5, e6, h⟩ := zqb h
 obtain ⟨v7, e8, h⟩ := zqb h
 let z1 := (Fl.mk (k := .f32) 1073741824 (by decide)).mul v7
 let z2 : List CT := [.agg (zqs v1)]
 let z3 : List CT := [.one (.flt .f32 v3.bits), .one (.flt .f32 v5.bits)]
 refine AW.dA ⟨[(2, (vc (.flt .f32 z1.bits)))], []⟩ ((Tt ∧ ((((eF a0.W) ∧ (eF a0.X) ∧ (eF a0.Y) ∧ (eF a0.Z) ∧ Tt) ∧ Tt) ∧ CallOK Tryz.prog 105 [.agg (zqi a0)] z2) ∧ ((((eF v1.X) ∧ (eF v1.Y) ∧ (eF v1.Z) ∧ Tt) ∧ Tt) ∧ CallOK Tryz.prog 104 z2 [.one (.flt .f32 v3.bits)]) ∧ T2 ((((eF a0.W) ∧ Tt) ∧ CallOK Tryz.prog 106 [.one (.flt .f32 a0.W.bits)] [.one (.flt .f32 v5.bits)]) ∧ (((eF v3) ∧ (eF v5) ∧ Tt) ∧ CallOK Tryz.prog 103 z3 [.one (.flt .f32 v7.bits)]) ∧ T2 Tt)) ∧ (Tt)) 9 [.no, .call [.agg (zqi a0)] z2 [[.view, .view, .view]], .call z2 [.one (.flt .f32 v3.bits)] [[.view]], .no, .no, .call [.one (.flt .f32 a0.W.bits)] [.one (.flt .f32 v5.bits)] [[.view]], .call z3 [.one (.flt .f32 v7.bits)] [[.view]]] [2] [] ⟨⟨tr, ⟨⟨⟨rfl, rfl, rfl, rfl, tr⟩, tr⟩, ok_impl_Turn_vector K a0 v1 e2⟩, ⟨⟨⟨rfl, rfl, rfl, tr⟩, tr⟩, ok_impl_LongOf K v1 v3 e4⟩, tr, tr, ⟨⟨rfl, tr⟩, ok_impl_size K a0.W v5 e6⟩, ⟨⟨rfl, rfl, tr⟩, ok_impl_AngleTurns K v3 v5 v7 e8⟩, tr, tr, tr⟩, tr⟩ ?_
 refine zqa ?_
 refine AW.ret ?_
 replace h := zqd h
 subst h
 exact ⟨.inr rfl, zqe [(.one (cF z1))] (by kernel_rfl) ⟨⟨rfl, tr⟩, tr⟩ (of_decide_eq_true (by kernel_rfl))⟩

/-! impl.ApartTurns -/
def zvd (K : Nat) (a0 : Turn) (a1 : Turn) : Option (F32) :=
 (zk4 K a0).bind fun v1 => (zyg K v1 a1).bind fun v3 => (zys K v3).bind fun v5 => some v5

theorem ok_impl_ApartTurns (K : Nat) (a0 : Turn) (a1 : Turn) (o : (F32)) (h : zvd K a0 a1 = some o) : CallOK Tryz.prog 55 [.agg (zqi a0), .agg (zqi a1)] [.one (.flt .f32 o.bits)] := by
 refine zqh Tryz.func55 rfl (by kernel_rfl) (Nat.le_of_ble_eq_true (by kernel_rfl)) ?_
 intro w0
 unfold zvd at h
 refine AW.sA ⟨[(2, (vp 1 0)), (3, (vp 2 0))], [(1, (.box [(cF a0.W), (cF a0.X), (cF a0.Y), (cF a0.Z)])), (2, (.box [(cF a1.W), (cF a1.X), (cF a1.Y), (cF a1.Z)]))]⟩ (Tt ∧ T2 Tt) [.box 1, .box 2] [2, 3] [1, 2] ⟨tr, tr, tr, tr⟩ ?_
 refine AW.seq ?_
 obtain ⟨v1, e2, h⟩ := zqb h
 obtain ⟨v3, e4, h⟩ := zqb h
 obtain ⟨v5, e6, h⟩ := zqb h
 let z1 : List CT := [.agg (zqi v3)]
 let z2 : List CT := [.agg (zqi v1), .agg (zqi a1)]
 refine AW.dA ⟨[(4, (vc (.flt .f32 v5.bits)))], []⟩ ((Tt ∧ ((((eF a0.W) ∧ (eF a0.X) ∧ (eF a0.Y) ∧ (eF a0.Z) ∧ Tt) ∧ Tt) ∧ CallOK Tryz.prog 85 [.agg (zqi a0)] [.agg (zqi v1)]) ∧ Tt ∧ ((((eF v1.W) ∧ (eF v1.X) ∧ (eF v1.Y) ∧ (eF v1.Z) ∧ Tt) ∧ ((eF a1.W) ∧ (eF a1.X) ∧ (eF a1.Y) ∧ (eF a1.Z) ∧ Tt) ∧ Tt) ∧ CallOK Tryz.prog 84 z2 z1) ∧ ((((eF v3.W) ∧ (eF v3.X) ∧ (eF v3.Y) ∧ (eF v3.Z) ∧ Tt) ∧ Tt) ∧ CallOK Tryz.prog 83 z1 [.one (.flt .f32 v5.bits)]) ∧ Tt ∧ Tt) ∧ (Tt)) 6 [.no, .call [.agg (zqi a0)] [.agg (zqi v1)] [[.view, .view, .view, .view]], .no, .call z2 z1 [[.view, .view, .view, .view]], .call z1 [.one (.flt .f32 v5.bits)] [[.view]]] [4] [] ⟨⟨tr, ⟨⟨⟨rfl, rfl, rfl, rfl, tr⟩, tr⟩, ok_impl_InverseOf K a0 v1 e2⟩, tr, ⟨⟨⟨rfl, rfl, rfl, rfl, tr⟩, ⟨rfl, rfl, rfl, rfl, tr⟩, tr⟩, ok_impl_MulTurns K v1 a1 v3 e4⟩, ⟨⟨⟨rfl, rfl, rfl, rfl, tr⟩, tr⟩, ok_impl_AngleOf K v3 v5 e6⟩, tr, tr⟩, tr⟩ ?_
 refine zqa ?_
 refine AW.ret ?_
 replace h := zqd h
 subst h
 exact ⟨.inr rfl, zqe [(.one (cF v5))] (by kernel_rfl) ⟨⟨rfl, tr⟩, tr⟩ (of_decide_eq_true (by kernel_rfl))⟩

/-! impl.thin -/
def Zt16 (QE : Prop) : Prop := ((Tt ∧ (Tt ∧ (Tt ∧ Tt))) ∧ (Tt ∧ (Tt ∧ (Tt ∧ Tt))) ∧ QE)
theorem zt16 {QE : Prop} (qe : QE) : Zt16 QE := ⟨⟨tr, ⟨tr, ⟨tr, tr⟩⟩⟩, ⟨tr, ⟨tr, ⟨tr, tr⟩⟩⟩, qe⟩
def Zt17 (QE : Prop) : Prop := ((Tt ∧ (Tt ∧ (Tt ∧ (Tt ∧ Tt)))) ∧ (Tt ∧ (Zt16 QE)) ∧ QE)
theorem zt17 {QE : Prop} (qe : QE) : Zt17 QE := ⟨⟨tr, ⟨tr, ⟨tr, ⟨tr, tr⟩⟩⟩⟩, ⟨tr, (zt16 qe)⟩, qe⟩
def Zt18 (QE : Prop) : Prop := ((Tt ∧ (Zt15 QE)) ∧ ((Tt ∧ (Zt17 QE)) ∧ (Tt ∧ (Zt17 QE)) ∧ QE) ∧ QE)
theorem zt18 {QE : Prop} (qe : QE) : Zt18 QE := ⟨⟨tr, (zt15 qe)⟩, ⟨⟨tr, (zt17 qe)⟩, ⟨tr, (zt17 qe)⟩, qe⟩, qe⟩
def Zt19 (QE Q0 : Prop) : Prop := ((Q0 ∧ (Zt16 QE)) ∧ (Tt ∧ (Q0 ∧ (Tt ∧ (Tt ∧ Tt)))) ∧ QE)
theorem zt19 {QE Q0 : Prop} (qe : QE) (q0 : Q0) : Zt19 QE Q0 := ⟨⟨q0, (zt16 qe)⟩, ⟨tr, ⟨q0, ⟨tr, ⟨tr, tr⟩⟩⟩⟩, qe⟩
def Zt20 (QE Q0 : Prop) : Prop := ((Q0 ∧ (Zt17 QE)) ∧ (Tt ∧ (Zt19 QE Q0)) ∧ QE)
theorem zt20 {QE Q0 : Prop} (qe : QE) (q0 : Q0) : Zt20 QE Q0 := ⟨⟨q0, (zt17 qe)⟩, ⟨tr, (zt19 qe q0)⟩, qe⟩
def Zt21 (QE Q0 : Prop) : Prop := ((Q0 ∧ (Zt18 QE)) ∧ ((Tt ∧ (Zt20 QE Q0)) ∧ (Tt ∧ (Zt20 QE Q0)) ∧ QE) ∧ QE)
theorem zt21 {QE Q0 : Prop} (qe : QE) (q0 : Q0) : Zt21 QE Q0 := ⟨⟨q0, (zt18 qe)⟩, ⟨⟨tr, (zt20 qe q0)⟩, ⟨tr, (zt20 qe q0)⟩, qe⟩, qe⟩
def Zt22 (QE Q0 : Prop) : Prop := ((Tt ∧ (Zt19 QE Q0)) ∧ (Tt ∧ (Tt ∧ (Q0 ∧ (Tt ∧ (Tt ∧ Tt))))) ∧ QE)
theorem zt22 {QE Q0 : Prop} (qe : QE) (q0 : Q0) : Zt22 QE Q0 := ⟨⟨tr, (zt19 qe q0)⟩, ⟨tr, ⟨tr, ⟨q0, ⟨tr, ⟨tr, tr⟩⟩⟩⟩⟩, qe⟩
def Zt23 (QE Q0 : Prop) : Prop := ((Tt ∧ (Zt20 QE Q0)) ∧ (Tt ∧ (Zt22 QE Q0)) ∧ QE)
theorem zt23 {QE Q0 : Prop} (qe : QE) (q0 : Q0) : Zt23 QE Q0 := ⟨⟨tr, (zt20 qe q0)⟩, ⟨tr, (zt22 qe q0)⟩, qe⟩
def Zt24 (QE Q0 : Prop) : Prop := ((Tt ∧ (Zt21 QE Q0)) ∧ ((Tt ∧ (Zt23 QE Q0)) ∧ (Tt ∧ (Zt23 QE Q0)) ∧ QE) ∧ QE)
theorem zt24 {QE Q0 : Prop} (qe : QE) (q0 : Q0) : Zt24 QE Q0 := ⟨⟨tr, (zt21 qe q0)⟩, ⟨⟨tr, (zt23 qe q0)⟩, ⟨tr, (zt23 qe q0)⟩, qe⟩, qe⟩
def Zt25 (Q0 : Prop) : Prop := (Tt ∧ (Tt ∧ (Q0 ∧ (Tt ∧ (Tt ∧ Tt)))))
theorem zt25 {Q0 : Prop} (q0 : Q0) : Zt25 Q0 := ⟨tr, ⟨tr, ⟨q0, ⟨tr, ⟨tr, tr⟩⟩⟩⟩⟩
def Zt26 (QE Q0 : Prop) : Prop := ((Tt ∧ (Zt22 QE Q0)) ∧ (Tt ∧ (Zt25 Q0)) ∧ QE)
theorem zt26 {QE Q0 : Prop} (qe : QE) (q0 : Q0) : Zt26 QE Q0 := ⟨⟨tr, (zt22 qe q0)⟩, ⟨tr, (zt25 q0)⟩, qe⟩
def Zt27 (QE Q0 : Prop) : Prop := ((Tt ∧ (Zt23 QE Q0)) ∧ (Tt ∧ (Zt26 QE Q0)) ∧ QE)
theorem zt27 {QE Q0 : Prop} (qe : QE) (q0 : Q0) : Zt27 QE Q0 := ⟨⟨tr, (zt23 qe q0)⟩, ⟨tr, (zt26 qe q0)⟩, qe⟩
def Zt28 (QE Q0 : Prop) : Prop := ((Tt ∧ (Zt24 QE Q0)) ∧ ((Tt ∧ (Zt27 QE Q0)) ∧ (Tt ∧ (Zt27 QE Q0)) ∧ QE) ∧ QE)
theorem zt28 {QE Q0 : Prop} (qe : QE) (q0 : Q0) : Zt28 QE Q0 := ⟨⟨tr, (zt24 qe q0)⟩, ⟨⟨tr, (zt27 qe q0)⟩, ⟨tr, (zt27 qe q0)⟩, qe⟩, qe⟩
def zxh (K : Nat) (a0 : (List Key)) (a1 : F32) : Nat → Int → (List Key) → Option ((List Key))
 | 0, _, _ => none
 | k + 1, x4, x5 => ite2 ((decide (x4 < (a0.length : Int)))) (chk (0 ≤ x4 ∧ x4 < (a0.length : Int)) (chk (0 ≤ (IntKind.i64.wrap ((x5.length : Int) - (1 : Int))) ∧ (IntKind.i64.wrap ((x5.length : Int) - (1 : Int))) < (x5.length : Int)) (ite2 ((decide ((IntKind.i64.wrap (x4 + (1 : Int))) < (a0.length : Int)))) (chk (0 ≤ (IntKind.i64.wrap (x4 + (1 : Int))) ∧ (IntKind.i64.wrap (x4 + (1 : Int))) < (a0.length : Int)) ((zvn K ((x5.getD ((IntKind.i64.wrap ((x5.length : Int) - (1 : Int))).toNat) default).At) ((a0.getD x4.toNat default).At) ((a0.getD ((IntKind.i64.wrap (x4 + (1 : Int))).toNat) default).At)).bind fun v11 => (zvp K ((x5.getD ((IntKind.i64.wrap ((x5.length : Int) - (1 : Int))).toNat) default).Turn) ((a0.getD ((IntKind.i64.wrap (x4 + (1 : Int))).toNat) default).Turn) v11).bind fun v13 => (zvd K ((a0.getD x4.toNat default).Turn) v13).bind fun v15 => ite2 ((v15.le a1)) (zxh K a0 a1 k (IntKind.i64.wrap (x4 + (1 : Int))) x5) (chk ((x5.length + ([(a0.getD x4.toNat default)]).length) * 24 ≤ 140737488355328) (zxh K a0 a1 k (IntKind.i64.wrap (x4 + (1 : Int))) (x5 ++ ([(a0.getD x4.toNat default)])))))) (chk ((x5.length + ([(a0.getD x4.toNat default)]).length) * 24 ≤ 140737488355328) (zxh K a0 a1 k (IntKind.i64.wrap (x4 + (1 : Int))) (x5 ++ ([(a0.getD x4.toNat default)]))))))) (some x5)

def zvy (K : Nat) (a0 : (List Key)) (a1 : F32) : Option ((List Key)) :=
 chk (0 ≤ (0 : Int) ∧ (0 : Int) < (a0.length : Int)) (zxh K a0 a1 K (1 : Int) ([(a0.getD ((0 : Int).toNat) default)]))

theorem ok_impl_thin (K : Nat) (a0 : (List Key)) (a1 : F32) (o : ((List Key))) (h : zvy K a0 a1 = some o) : CallOK Tryz.prog 34 [.one (sl 5 zqo a0), .one (.flt .f32 a1.bits)] [.one (sl 5 zqo o)] := by
 refine zqh Tryz.func34 rfl (by kernel_rfl) (Nat.le_of_ble_eq_true (by kernel_rfl)) ?_
 intro w0
 unfold zvy at h
 refine AW.sC (Tt ∧ Tt) [] [0, 1] [] ⟨tr, tr⟩ ?_
 refine AW.seq ?_
 obtain ⟨c1, h⟩ := zqn h
 let z4 := a0.getD ((0 : Int).toNat) default
 refine AW.tC (Tt ∧ (0 ≤ (0 : Int) ∧ (0 : Int) < (a0.length : Int)) ∧ Tt ∧ (([z4]).length = 1 ∧ (((.int .i64 (z4.At)) : C) = (.int .i64 (z4.At)) ∧ Tt) ∧ (((.flt .f32 ((z4.Turn).W).bits) : C) = (.flt .f32 ((z4.Turn).W).bits) ∧ Tt) ∧ (((.flt .f32 ((z4.Turn).X).bits) : C) = (.flt .f32 ((z4.Turn).X).bits) ∧ Tt) ∧ (((.flt .f32 ((z4.Turn).Y).bits) : C) = (.flt .f32 ((z4.Turn).Y).bits) ∧ Tt) ∧ (((.flt .f32 ((z4.Turn).Z).bits) : C) = (.flt .f32 ((z4.Turn).Z).bits) ∧ Tt) ∧ Tt) ∧ Tt ∧ Tt) [.no, .no, .no, .obj 1 ([z4]).length (gl zqo ([z4]))] [0, 1, 5] [1] ⟨tr, c1, tr, ⟨rfl, ⟨⟨rfl, tr⟩, ⟨rfl, tr⟩, ⟨rfl, tr⟩, ⟨rfl, tr⟩, ⟨rfl, tr⟩, tr⟩⟩, tr, tr⟩ ?_
 refine AW.seq ?_
 let z6 := vc (.flt .f32 a1.bits)
 let z7 := vc (sl 5 zqo a0)
 refine AW.sA ⟨[(0, z7), (1, z6), (5, (vL 1 5 zqo ([z4]))), (6, (vI (1 : Int)))], [(1, (oL 5 zqo ([z4])))]⟩ (Tt ∧ Tt) [] [0, 1, 5, 6] [1] ⟨tr, tr⟩ ?_
 refine AW.block ?_
 refine AW.loopQ (σ := Nat × Int × (List Key)) (fun p => ⟨[(0, z7), (1, z6), (5, (vL 1 5 zqo p.2.2)), (6, (vI p.2.1))], [(1, (oL 5 zqo p.2.2))]⟩) (fun p => zxh K a0 a1 p.1 p.2.1 p.2.2 = some o) (fun p => p.1) (K, (1 : Int), [z4]) h ?_
 clear h
 rintro ⟨k, x4, x5⟩ h
 replace h : zxh K a0 a1 k x4 x5 = some o := h
 let z8 := vL 1 5 zqo x5
 let z10 := oL 5 zqo x5
 show AW _ _ (⟨[(0, z7), (1, z6), (5, z8), (6, (vI x4))], [(1, z10)]⟩ : St) _
 obtain _ | k := k
 ·rw [zxh] at h; cases h
 rw [zxh] at h
 refine AW.seq ?_
 refine AW.sA ⟨[(0, z7), (1, z6), (5, z8), (6, (vI x4)), (17, (vB (decide (x4 < (a0.length : Int)))))], [(1, z10)]⟩ (T4 Tt) [] [0, 1, 5, 6, 17] [1] ⟨tr, tr, tr, tr, tr⟩ ?_
 rcases zqc h with ⟨b6, h⟩ | ⟨b6, h⟩
 ·refine AW.cond_t rfl b6 ?_
  refine AW.skip ?_
  refine zqa ?_
  refine AW.seq ?_
  refine AW.block ?_
  refine AW.seq ?_
  obtain ⟨c7, h⟩ := zqn h
  obtain ⟨c8, h⟩ := zqn h
  let z9 := IntKind.i64.wrap ((x5.length : Int) - (1 : Int))
  let z1 := x5.getD (z9.toNat) default
  let z2 := a0.getD x4.toNat default
  let z13 := cF ((z2.Turn).W)
  let z14 := cF ((z2.Turn).X)
  let z15 := cF ((z2.Turn).Y)
  let z16 := cF ((z2.Turn).Z)
  let z19 := cF ((z1.Turn).W)
  let z20 := cF ((z1.Turn).X)
  let z21 := cF ((z1.Turn).Y)
  let z22 := cF ((z1.Turn).Z)
  refine AW.heldA (by kernel_rfl) [0, 1, 2, 3, 4, 5] [] 2 [23, 24, 25] [.no, .no, .no, .no, .no, .no, .no, .no, .no, .no, .box 16, .box 17] [7, 8] [16, 17] [0, 1, 5, 6, 7, 8] [1, 16, 17] (s' := ⟨[(0, z7), (1, z6), (5, z8), (6, (vI x4)), (7, (vp 16 0)), (8, (vp 17 0))], [(1, z10), (16, (.box [(cI (z2.At)), z13, z14, z15, z16])), (17, (.box [(cI (z1.At)), z19, z20, z21, z22]))]⟩) (ob := (T2 ((0 ≤ x4 ∧ x4 < (a0.length : Int)) ∧ Tt ∧ T2 Tt)) ∧ (Zt28 ((⟨[(7, (vp 16 0)), (8, (vp 17 0))], [(16, (.box [(cI (z2.At)), z13, z14, z15, z16])), (17, (.box [(cI (z1.At)), z19, z20, z21, z22]))]⟩ : St) = ⟨[(7, (vp 16 0)), (8, (vp 17 0))], [(16, (.box [(cI (z2.At)), z13, z14, z15, z16])), (17, (.box [(cI (z1.At)), z19, z20, z21, z22]))]⟩) ((0 ≤ z9 ∧ z9 < (x5.length : Int)))) ∧ (Tt)) (by kernel_rfl) ⟨⟨tr, tr, c7, tr, tr, tr, tr⟩, (zt28 rfl (c8)), tr⟩ ?_
  refine zqa ?_
  refine AW.seq ?_
  let z5 := IntKind.i64.wrap (x4 + (1 : Int))
  refine AW.sA ⟨[(0, z7), (1, z6), (5, z8), (6, (vI x4)), (7, (vp 16 0)), (8, (vp 17 0)), (34, (vB (decide (z5 < (a0.length : Int)))))], [(1, z10), (16, (.box [(cI (z2.At)), z13, z14, z15, z16])), (17, (.box [(cI (z1.At)), z19, z20, z21, z22]))]⟩ (Tt ∧ T4 Tt) [] [0, 1, 5, 6, 7, 8, 34] [1, 16, 17] ⟨tr, tr, tr, tr, tr, tr⟩ ?_
  rcases zqc h with ⟨b9, h⟩ | ⟨b9, h⟩
  ·refine AW.cond_t rfl b9 ?_
   refine AW.seq ?_
   obtain ⟨c10, h⟩ := zqn h
   let z3 := a0.getD (z5.toNat) default
   refine AW.tA ⟨[(0, z7), (1, z6), (5, z8), (6, (vI x4)), (7, (vp 16 0)), (8, (vp 17 0)), (9, (vp 18 0))], [(1, z10), (16, (.box [(cI (z2.At)), z13, z14, z15, z16])), (17, (.box [(cI (z1.At)), z19, z20, z21, z22])), (18, (.box [(cI (z3.At)), (cF ((z3.Turn).W)), (cF ((z3.Turn).X)), (cF ((z3.Turn).Y)), (cF ((z3.Turn).Z))]))]⟩ (Tt ∧ T2 ((0 ≤ z5 ∧ z5 < (a0.length : Int)) ∧ Tt ∧ T2 Tt)) [.no, .no, .no, .no, .no, .box 18] [0, 1, 5, 6, 7, 8, 9] [1, 16, 17, 18] ⟨tr, tr, tr, c10, tr, tr, tr, tr⟩ ?_
   refine AW.seq ?_
   obtain ⟨v11, e12, h⟩ := zqb h
   obtain ⟨v13, e14, h⟩ := zqb h
   obtain ⟨v15, e16, h⟩ := zqb h
   let z17 : List CT := [.agg (zqi (z1.Turn)), .agg (zqi (z3.Turn)), .one (.flt .f32 v11.bits)]
   let z18 : List CT := [.one (.int .i64 (z1.At)), .one (.int .i64 (z2.At)), .one (.int .i64 (z3.At))]
   let z23 : List CT := [.agg (zqi (z2.Turn)), .agg (zqi v13)]
   refine AW.dA ⟨[(0, z7), (1, z6), (5, z8), (6, (vI x4)), (7, (vp 16 0)), (56, (vB (v15.le a1)))], [(1, z10), (16, (.box [(cI (z2.At)), z13, z14, z15, z16]))]⟩ ((T4 (T4 (T4 ((((((.int .i64 (z1.At)) : C) = (.int .i64 (z1.At))) ∧ (eI (z2.At)) ∧ (((.int .i64 (z3.At)) : C) = (.int .i64 (z3.At))) ∧ Tt) ∧ CallOK Tryz.prog 56 z18 [.one (.flt .f32 v11.bits)]) ∧ ((((((.flt .f32 ((z1.Turn).W).bits) : C) = (.flt .f32 ((z1.Turn).W).bits)) ∧ (((.flt .f32 ((z1.Turn).X).bits) : C) = (.flt .f32 ((z1.Turn).X).bits)) ∧ (((.flt .f32 ((z1.Turn).Y).bits) : C) = (.flt .f32 ((z1.Turn).Y).bits)) ∧ (((.flt .f32 ((z1.Turn).Z).bits) : C) = (.flt .f32 ((z1.Turn).Z).bits)) ∧ Tt) ∧ ((((.flt .f32 ((z3.Turn).W).bits) : C) = (.flt .f32 ((z3.Turn).W).bits)) ∧ (((.flt .f32 ((z3.Turn).X).bits) : C) = (.flt .f32 ((z3.Turn).X).bits)) ∧ (((.flt .f32 ((z3.Turn).Y).bits) : C) = (.flt .f32 ((z3.Turn).Y).bits)) ∧ (((.flt .f32 ((z3.Turn).Z).bits) : C) = (.flt .f32 ((z3.Turn).Z).bits)) ∧ Tt) ∧ (eF v11) ∧ Tt) ∧ CallOK Tryz.prog 45 z17 [.agg (zqi v13)]) ∧ ((((eF ((z2.Turn).W)) ∧ (eF ((z2.Turn).X)) ∧ (eF ((z2.Turn).Y)) ∧ (eF ((z2.Turn).Z)) ∧ Tt) ∧ ((eF v13.W) ∧ (eF v13.X) ∧ (eF v13.Y) ∧ (eF v13.Z) ∧ Tt) ∧ Tt) ∧ CallOK Tryz.prog 55 z23 [.one (.flt .f32 v15.bits)]) ∧ T2 Tt)))) ∧ (Tt)) 17 [.no, .no, .no, .no, .no, .no, .no, .no, .no, .no, .no, .no, .call z18 [.one (.flt .f32 v11.bits)] [[.view]], .call z17 [.agg (zqi v13)] [[.view, .view, .view, .view]], .call z23 [.one (.flt .f32 v15.bits)] [[.view]]] [0, 1, 5, 6, 7, 56] [1, 16] ⟨⟨tr, tr, tr, tr, tr, tr, tr, tr, tr, tr, tr, tr, ⟨⟨rfl, rfl, rfl, tr⟩, zbk K (z1.At) (z2.At) (z3.At) v11 e12⟩, ⟨⟨⟨rfl, rfl, rfl, rfl, tr⟩, ⟨rfl, rfl, rfl, rfl, tr⟩, rfl, tr⟩, ok_impl_NearTurn K (z1.Turn) (z3.Turn) v11 v13 e14⟩, ⟨⟨⟨rfl, rfl, rfl, rfl, tr⟩, ⟨rfl, rfl, rfl, rfl, tr⟩, tr⟩, ok_impl_ApartTurns K (z2.Turn) v13 v15 e16⟩, tr, tr, tr⟩, tr⟩ ?_
   refine zqa ?_
   rcases zqc h with ⟨b17, h⟩ | ⟨b17, h⟩
   ·refine AW.cond_t rfl b17 ?_
    refine AW.exit ?_
    refine zwc ?_
    refine zq4 ?_
    refine zqa ?_
    refine AW.rA ⟨[(0, z7), (1, z6), (5, z8), (6, (vI z5))], [(1, z10)]⟩ (Tt ∧ T2 Tt) [] [0, 1, 5, 6] [1] ⟨tr, tr, tr, tr⟩ ?_
    exact zqu (k, z5, x5) h (Nat.lt_succ_self k) (Sub.keep [0, 1, 5, 6] [1] (by kernel_rfl) (by kernel_rfl))
   ·refine AW.cond_f rfl b17 ?_
    refine AW.skip ?_
    refine zqa ?_
    obtain ⟨c18, h⟩ := zqn h
    let z12 := x5 ++ ([z2])
    refine AW.rA ⟨[(0, z7), (1, z6), (5, (vL 20 5 zqo z12)), (6, (vI x4))], [(20, (oL 5 zqo z12))]⟩ (T2 ((([z2]).length = 1 ∧ (((.int .i64 (z2.At)) : C) = (.int .i64 (z2.At)) ∧ Tt) ∧ (((.flt .f32 ((z2.Turn).W).bits) : C) = (.flt .f32 ((z2.Turn).W).bits) ∧ Tt) ∧ (((.flt .f32 ((z2.Turn).X).bits) : C) = (.flt .f32 ((z2.Turn).X).bits) ∧ Tt) ∧ (((.flt .f32 ((z2.Turn).Y).bits) : C) = (.flt .f32 ((z2.Turn).Y).bits) ∧ Tt) ∧ (((.flt .f32 ((z2.Turn).Z).bits) : C) = (.flt .f32 ((z2.Turn).Z).bits) ∧ Tt) ∧ Tt) ∧ (z12.length = x5.length + ([z2]).length ∧ AppOb (x5.length) (([z2]).length) 5 (gl zqo x5) (gl zqo ([z2])) (gl zqo z12) ∧ (∀ i j, i < ([z2]).length → j < 5 → zjc (gl zqo ([z2]) i j)) ∧ (x5.length + ([z2]).length) * 24 ≤ 140737488355328) ∧ Tt ∧ Tt)) [.no, .no, .obj 19 ([z2]).length (gl zqo ([z2])), .objK 20 z12.length (gl zqo z12)] [0, 1, 5, 6] [20] ⟨tr, tr, ⟨rfl, ⟨⟨rfl, tr⟩, ⟨rfl, tr⟩, ⟨rfl, tr⟩, ⟨rfl, tr⟩, ⟨rfl, tr⟩, tr⟩⟩, ⟨List.length_append, zx9, zvx zhs _, c18⟩, tr, tr⟩ ?_
    refine zqr ?_
    refine zqa ?_
    refine AW.rA ⟨[(0, z7), (1, z6), (5, (vL 20 5 zqo z12)), (6, (vI z5))], [(20, (oL 5 zqo z12))]⟩ (Tt ∧ T2 Tt) [] [0, 1, 5, 6] [20] ⟨tr, tr, tr, tr⟩ ?_
    exact zqu (k, z5, z12) h (Nat.lt_succ_self k) (Sub.trans (Sub.swap 1 20 _ (by kernel_rfl) (by kernel_rfl)) (Sub.keep [0, 1, 5, 6] [1] (by kernel_rfl) (by kernel_rfl)))
  ·refine AW.cond_f rfl b9 ?_
   refine AW.skip ?_
   refine zqa ?_
   obtain ⟨c19, h⟩ := zqn h
   let z11 := x5 ++ ([z2])
   refine AW.rA ⟨[(0, z7), (1, z6), (5, (vL 22 5 zqo z11)), (6, (vI x4))], [(22, (oL 5 zqo z11))]⟩ (T2 ((([z2]).length = 1 ∧ (((.int .i64 (z2.At)) : C) = (.int .i64 (z2.At)) ∧ Tt) ∧ (((.flt .f32 ((z2.Turn).W).bits) : C) = (.flt .f32 ((z2.Turn).W).bits) ∧ Tt) ∧ (((.flt .f32 ((z2.Turn).X).bits) : C) = (.flt .f32 ((z2.Turn).X).bits) ∧ Tt) ∧ (((.flt .f32 ((z2.Turn).Y).bits) : C) = (.flt .f32 ((z2.Turn).Y).bits) ∧ Tt) ∧ (((.flt .f32 ((z2.Turn).Z).bits) : C) = (.flt .f32 ((z2.Turn).Z).bits) ∧ Tt) ∧ Tt) ∧ (z11.length = x5.length + ([z2]).length ∧ AppOb (x5.length) (([z2]).length) 5 (gl zqo x5) (gl zqo ([z2])) (gl zqo z11) ∧ (∀ i j, i < ([z2]).length → j < 5 → zjc (gl zqo ([z2]) i j)) ∧ (x5.length + ([z2]).length) * 24 ≤ 140737488355328) ∧ Tt ∧ Tt)) [.no, .no, .obj 21 ([z2]).length (gl zqo ([z2])), .objK 22 z11.length (gl zqo z11)] [0, 1, 5, 6] [22] ⟨tr, tr, ⟨rfl, ⟨⟨rfl, tr⟩, ⟨rfl, tr⟩, ⟨rfl, tr⟩, ⟨rfl, tr⟩, ⟨rfl, tr⟩, tr⟩⟩, ⟨List.length_append, zx9, zvx zhs _, c19⟩, tr, tr⟩ ?_
   refine zqr ?_
   refine zqa ?_
   refine AW.rA ⟨[(0, z7), (1, z6), (5, (vL 22 5 zqo z11)), (6, (vI z5))], [(22, (oL 5 zqo z11))]⟩ (Tt ∧ T2 Tt) [] [0, 1, 5, 6] [22] ⟨tr, tr, tr, tr⟩ ?_
   exact zqu (k, z5, z11) h (Nat.lt_succ_self k) (Sub.trans (Sub.swap 1 22 _ (by kernel_rfl) (by kernel_rfl)) (Sub.keep [0, 1, 5, 6] [1] (by kernel_rfl) (by kernel_rfl)))
 ·refine AW.cond_f rfl b6 ?_
  refine AW.exit ?_
  refine zwc ?_
  refine zwd ?_
  refine zq4 ?_
  refine zqa ?_
  refine AW.sA ⟨[(4, z8)], [(1, z10)]⟩ (T2 Tt) [] [4] [1] ⟨tr, tr, tr⟩ ?_
  refine AW.ret ?_
  replace h := zqd h
  subst h
  exact ⟨.inr rfl, zqe [(.one (xL 1 5 zqo x5))] (by kernel_rfl) ⟨rfl, tr⟩ (of_decide_eq_true (by kernel_rfl))⟩

/-! impl.ThinClip$1 -/
def zki (K : Nat) (a0 : Int) (a1 : (List Key)) (a2 : F32) : Option ((List Key)) :=
 (zvy K a1 a2).bind fun v1 => some v1

theorem ok_impl_ThinClip_1 (K : Nat) (a0 : Int) (a1 : (List Key)) (a2 : F32) (o : ((List Key))) (h : zki K a0 a1 a2 = some o) : CallOK Tryz.prog 33 [.one (.int .i64 a0), .one (sl 5 zqo a1), .one (pl 1 (csF .f32) a2)] [.one (sl 5 zqo o)] := by
 refine zqh Tryz.func33 rfl (by kernel_rfl) (Nat.le_of_ble_eq_true (by kernel_rfl)) ?_
 intro w0
 unfold zki at h
 refine AW.sC (Tt ∧ Tt) [] [1, 2] [] ⟨tr, tr⟩ ?_
 refine AW.seq ?_
 obtain ⟨v1, e2, h⟩ := zqb h
 let z1 : List CT := [.one (sl 5 zqo a1), .one (.flt .f32 a2.bits)]
 refine AW.tA ⟨[(5, (vL 1 5 zqo v1))], [(1, (oL 5 zqo v1))]⟩ (T2 ((((Eqc (sl 5 zqo a1)) ∧ (eF a2) ∧ Tt) ∧ CallOK Tryz.prog 34 z1 [.one (sl 5 zqo v1)]) ∧ Tt ∧ Tt)) [.no, .no, .call z1 [.one (sl 5 zqo v1)] [[.lst 1]]] [5] [1] ⟨tr, tr, ⟨⟨rfl, rfl, tr⟩, ok_impl_thin K a1 a2 v1 e2⟩, tr, tr⟩ ?_
 refine AW.ret ?_
 replace h := zqd h
 subst h
 exact ⟨.inr rfl, zqe [(.one (xL 1 5 zqo v1))] (by kernel_rfl) ⟨rfl, tr⟩ (of_decide_eq_true (by kernel_rfl))⟩

/-! impl.validClip -/
def zj8 (K : Nat) (a0 : Clip) : Option (Clip × Bool) :=
 (zw4 K a0).bind fun v1 => ite2 ((!v1)) (some ((Clip.mk (0 : Int) (0 : Int) ([] : (List (List Key))) ([] : (List RootKey))), false)) (some (a0, true))

theorem ok_impl_validClip (K : Nat) (a0 : Clip) (o : (Clip × Bool)) (h : zj8 K a0 = some o) : MutOK Tryz.prog 54 [(.agg [(.ro (.int .i64 a0.Length)), (.ro (.int .i64 a0.Kind)), (.mv (sl 1 (csL 5 zqo) a0.Tracks)), (.mv (sl 4 zqg a0.Roots))])] [.agg (zqp o.1), .one (.bool o.2)] := by
 refine zxe 2 Tryz.func54 rfl (by kernel_rfl) (Nat.le_of_ble_eq_true (by kernel_rfl)) (by kernel_rfl) (by kernel_rfl) ?_
 intro w0 K0 v0 s0
 unfold zj8 at h
 refine AW.sC (Tt ∧ T2 Tt) [.box 2, .box 3] [0, 1, 2] [0, 1, 2, 3] ⟨tr, tr, tr, tr⟩ ?_
 refine AW.seq ?_
 refine AW.seq ?_
 obtain ⟨v1, e2, h⟩ := zqb h
 let z1 := oA 1 (csL 5 zqo) a0.Tracks
 let z2 := cI a0.Length
 let z3 := cI (0 : Int)
 let z4 := oA 4 zqg a0.Roots
 refine AW.tA ⟨[(0, (.v (.agg [z2, (cI a0.Kind), (.arr 0), (.arr 1)]))), (1, (vp 2 0)), (2, (vp 3 0)), (6, (vB (!v1)))], [(0, z1), (1, z4), (2, (.box [z2, (cI a0.Kind), (.arr 0), (.arr 1)])), (3, (.box [z3, z3, .nils, .nils]))]⟩ (Tt ∧ ((((eI a0.Length) ∧ (eI a0.Kind) ∧ (Eqc (sl 1 (csL 5 zqo) a0.Tracks)) ∧ (Eqc (sl 4 zqg a0.Roots)) ∧ Tt) ∧ Tt) ∧ CallOK Tryz.prog 7 [.agg (zqp a0)] [.one (.bool v1)]) ∧ Tt ∧ Tt) [.no, .call [.agg (zqp a0)] [.one (.bool v1)] [[.view]]] [0, 1, 2, 6] [0, 1, 2, 3] ⟨tr, ⟨⟨⟨rfl, rfl, rfl, rfl, tr⟩, tr⟩, zq0 K a0 v1 e2⟩, tr, tr⟩ ?_
 rcases zqc h with ⟨b3, h⟩ | ⟨b3, h⟩
 ·refine AW.cond_t rfl b3 ?_
  refine AW.sA ⟨[(0, (.v (.agg [z2, (cI a0.Kind), (.arr 0), (.arr 1)]))), (2, (vp 3 0)), (3, (vB false))], [(0, z1), (1, z4), (3, (.box [z3, z3, .nils, .nils]))]⟩ (Tt ∧ T2 Tt) [] [0, 2, 3] [0, 1, 3] ⟨tr, tr, tr, tr⟩ ?_
  refine AW.ret ?_
  refine zqm ?_
  replace h := zqd h
  subst h
  exact ⟨.inr rfl, zqe [(.agg [z3, z3, .nils, .nils]), (.one (.c (.bool false)))] (by kernel_rfl) ⟨⟨⟨rfl, tr⟩, ⟨rfl, tr⟩, rfl, rfl, tr⟩, ⟨rfl, tr⟩, tr⟩ (of_decide_eq_true (by kernel_rfl)), by kernel_rfl, ⟨⟨tr, tr, tr, tr, tr⟩, tr⟩⟩
 ·refine AW.cond_f rfl b3 ?_
  refine AW.skip ?_
  refine zqa ?_
  refine AW.sA ⟨[(0, (.v (.agg [z2, (cI a0.Kind), (.arr 0), (.arr 1)]))), (2, (vp 3 0)), (3, (vB true))], [(0, z1), (1, z4), (3, (.box [z2, (cI a0.Kind), (.arr 0), (.arr 1)]))]⟩ (Tt ∧ T2 Tt) [] [0, 2, 3] [0, 1, 3] ⟨tr, tr, tr, tr⟩ ?_
  refine AW.ret ?_
  replace h := zqd h
  subst h
  exact ⟨.inr rfl, zqe [(.agg [z2, (cI a0.Kind), (.arr 0), (.arr 1)]), (.one (.c (.bool true)))] (by kernel_rfl) ⟨⟨⟨rfl, tr⟩, ⟨rfl, tr⟩, rfl, rfl, tr⟩, ⟨rfl, tr⟩, tr⟩ (of_decide_eq_true (by kernel_rfl)), by kernel_rfl, ⟨⟨tr, tr, tr, tr, tr⟩, tr⟩⟩

/-! (impl.Clip).changed -/
def zwm (K : Nat) (a0 : Clip) (a1 : Int) (a2_0_0 : F32) (v1 : ((List RootKey))) : Nat → Int → (List (List Key)) → Option (Clip × Bool)
 | 0, _, _ => none
 | k + 1, x5, x6 => ite2 ((decide (x5 < (a0.Tracks.length : Int)))) (chk (0 ≤ x5 ∧ x5 < (a0.Tracks.length : Int)) ((zki K x5 (a0.Tracks.getD x5.toNat default) a2_0_0).bind fun v9 => chk ((x6.length + ([v9]).length) * 24 ≤ 140737488355328) (zwm K a0 a1 a2_0_0 v1 k (IntKind.i64.wrap (x5 + (1 : Int))) (x6 ++ ([v9]))))) ((zj8 K (Clip.mk a1 a0.Kind x6 v1)).bind fun v12 => some (v12.1, v12.2))

def zjt (K : Nat) (a0 : Clip) (a1 : Int) (a2_0_0 : F32) : Option (Clip × Bool) :=
 (zkf K a0.Roots).bind fun v1 => zwm K a0 a1 a2_0_0 v1 K (0 : Int) ([] : (List (List Key)))

theorem ok_impl_Clip_changed (K : Nat) (a0 : Clip) (a1 : Int) (a2_0_0 : F32) (o : (Clip × Bool)) (h : zjt K a0 a1 a2_0_0 = some o) : CallOK Tryz.prog 32 [.agg (zqp a0), .one (.int .i64 a1), .one (.fn 33 1 fun j => [(pl 1 (csF .f32) a2_0_0)].getD j .nilptr), .one (.fn 35 0 fun _ => .nilptr)] [.agg (zqp o.1), .one (.bool o.2)] := by
 refine zqh Tryz.func32 rfl (by kernel_rfl) (Nat.le_of_ble_eq_true (by kernel_rfl)) ?_
 intro w0
 unfold zjt at h
 let z1 := csL 5 zqo
 let z2 := cI (0 : Int)
 let z3 := pl 1 (csF .f32) a2_0_0
 let z9 := sl 4 zqg a0.Roots
 let z14 := sl 1 z1 a0.Tracks
 refine AW.sA ⟨[(1, (vI a1)), (2, (vc (.fn 33 1 fun j => [z3].getD j .nilptr))), (3, (vc (.fn 35 0 fun _ => .nilptr))), (4, (vp 1 0)), (8, (vp 2 0))], [(1, (.box [(cI a0.Length), (cI a0.Kind), (.c z14), (.c z9)])), (2, (.box [z2, z2, .nils, .nils]))]⟩ (Tt ∧ T2 Tt) [.box 1, .box 2] [1, 2, 3, 4, 8] [1, 2] ⟨tr, tr, tr, tr⟩ ?_
 refine AW.seq ?_
 obtain ⟨v1, e2, h⟩ := zqb h
 let z5 := xL 3 4 zqg v1
 let z6 := oL 4 zqg v1
 let z11 := sl 4 zqg v1
 refine AW.dA ⟨[(2, (vc (.fn 33 1 fun j => [z3].getD j .nilptr))), (4, (vp 1 0)), (8, (vp 2 0)), (10, (vp 4 0))], [(1, (.box [(cI a0.Length), (cI a0.Kind), (.c z14), (.c z9)])), (2, (.box [z2, z2, .nils, .nils])), (3, z6), (4, (.box [(cI a1), (cI a0.Kind), .nils, z5]))]⟩ ((T2 (T4 ((((Eqc z9) ∧ Tt) ∧ CallOK Tryz.prog 35 [.one z9] [.one z11]) ∧ T2 Tt))) ∧ (Tt ∧ Tt)) 9 [.no, .no, .no, .no, .no, .no, .call [.one z9] [.one z11] [[.lst 3]], .no, .box 4] [2, 4, 8, 10] [1, 2, 3, 4] ⟨⟨tr, tr, tr, tr, tr, tr, ⟨⟨rfl, tr⟩, ok_impl_ThinClip_2 K a0.Roots v1 e2⟩, tr, tr, tr⟩, ⟨tr, tr⟩⟩ ?_
 refine zqa ?_
 refine AW.seq ?_
 let z4 := (a0.Tracks.length : Int)
 let z7 := vc z14
 refine AW.sA ⟨[(2, (vc (.fn 33 1 fun j => [z3].getD j .nilptr))), (8, (vp 2 0)), (10, (vp 4 0)), (22, z7), (23, (vI z4)), (24, (vI (0 : Int)))], [(2, (.box [z2, z2, .nils, .nils])), (3, z6), (4, (.box [(cI a1), (cI a0.Kind), .nils, z5]))]⟩ (T4 Tt) [] [2, 8, 10, 22, 23, 24] [2, 3, 4] ⟨tr, tr, tr, tr, tr⟩ ?_
 refine AW.block ?_
 let z12 := List (List Key)
 refine AW.weak (s' := ⟨[(2, (vc (.fn 33 1 fun j => [z3].getD j .nilptr))), (8, (vp 2 0)), (10, (vp 4 0)), (22, z7), (23, (vI z4)), (24, (vI (0 : Int)))], [(2, (.box [z2, z2, .nils, .nils])), (3, z6), (4, (.box [(cI a1), (cI a0.Kind), (xL 8 1 z1 ([] : z12)), z5])), (8, (oL 1 z1 ([] : z12)))]⟩) (Sub.trans (Sub.unnil 8 1 (gl z1 ([] : z12)) [] [(4, 2)] _ (by kernel_rfl) (by kernel_rfl)) (Sub.keep [2, 8, 10, 22, 23, 24] [2, 3, 4, 8] (by kernel_rfl) (by kernel_rfl))) ?_
 refine AW.loopQ (σ := Nat × Int × z12) (fun p => ⟨[(2, (vc (.fn 33 1 fun j => [z3].getD j .nilptr))), (8, (vp 2 0)), (10, (vp 4 0)), (22, z7), (23, (vI z4)), (24, (vI p.2.1))], [(2, (.box [z2, z2, .nils, .nils])), (3, z6), (4, (.box [(cI a1), (cI a0.Kind), (xL 8 1 z1 p.2.2), z5])), (8, (oL 1 z1 p.2.2))]⟩) (fun p => zwm K a0 a1 a2_0_0 v1 p.1 p.2.1 p.2.2 = some o) (fun p => p.1) (K, (0 : Int), ([] : z12)) h ?_
 clear h
 rintro ⟨k, x5, x6⟩ h
 replace h : zwm K a0 a1 a2_0_0 v1 k x5 x6 = some o := h
 let z13 := xL 8 1 z1 x6
 show AW _ _ (⟨[(2, (vc (.fn 33 1 fun j => [z3].getD j .nilptr))), (8, (vp 2 0)), (10, (vp 4 0)), (22, z7), (23, (vI z4)), (24, (vI x5))], [(2, (.box [z2, z2, .nils, .nils])), (3, z6), (4, (.box [(cI a1), (cI a0.Kind), z13, z5])), (8, (oL 1 z1 x6))]⟩ : St) _
 obtain _ | k := k
 ·rw [zwm] at h; cases h
 rw [zwm] at h
 refine AW.sA ⟨[(2, (vc (.fn 33 1 fun j => [z3].getD j .nilptr))), (8, (vp 2 0)), (10, (vp 4 0)), (22, z7), (23, (vI z4)), (24, (vI x5)), (25, (vB (decide (x5 < z4))))], [(2, (.box [z2, z2, .nils, .nils])), (3, z6), (4, (.box [(cI a1), (cI a0.Kind), z13, z5])), (8, (oL 1 z1 x6))]⟩ (Tt ∧ Tt) [] [2, 8, 10, 22, 23, 24, 25] [2, 3, 4, 8] ⟨tr, tr⟩ ?_
 refine AW.seq ?_
 rcases zqc h with ⟨b7, h⟩ | ⟨b7, h⟩
 ·refine AW.cond_t rfl b7 ?_
  refine AW.skip ?_
  refine zqa ?_
  refine AW.seq ?_
  refine AW.block ?_
  refine AW.seq ?_
  obtain ⟨c8, h⟩ := zqn h
  let z16 := a0.Tracks.getD x5.toNat default
  let z8 := sl 5 zqo z16
  refine AW.tA ⟨[(2, (vc (.fn 33 1 fun j => [z3].getD j .nilptr))), (8, (vp 2 0)), (10, (vp 4 0)), (11, (vI x5)), (12, (vc z8)), (22, z7), (23, (vI z4)), (24, (vI x5))], [(2, (.box [z2, z2, .nils, .nils])), (3, z6), (4, (.box [(cI a1), (cI a0.Kind), z13, z5])), (8, (oL 1 z1 x6))]⟩ (Tt ∧ (0 ≤ x5 ∧ x5 < z4) ∧ Tt ∧ T2 Tt) [] [2, 8, 10, 11, 12, 22, 23, 24] [2, 3, 4, 8] ⟨tr, c8, tr, tr, tr, tr⟩ ?_
  obtain ⟨v9, e10, h⟩ := zqb h
  obtain ⟨c11, h⟩ := zqn h
  let z10 := x6 ++ ([v9])
  refine AW.dA ⟨[(2, (vc (.fn 33 1 fun j => [z3].getD j .nilptr))), (8, (vp 2 0)), (10, (vp 4 0)), (22, z7), (23, (vI z4)), (24, (vI x5))], [(2, (.box [z2, z2, .nils, .nils])), (3, z6), (4, (.box [(cI a1), (cI a0.Kind), (xL 17 1 z1 z10), z5])), (17, (oL 1 z1 z10))]⟩ ((Tt ∧ T4 ((((eI x5) ∧ (Eqc z8) ∧ (1 = 1 ∧ ∀ j, j < 1 → ((csF .f32) a2_0_0).getD j .nilptr = ((csF .f32) a2_0_0).getD j .nilptr) ∧ Tt) ∧ CallOK Tryz.prog 33 [.one (.int .i64 x5), .one z8, .one z3] [.one (sl 5 zqo v9)]) ∧ (([v9]).length = 1 ∧ (Eqc (sl 5 zqo v9)) ∧ Tt) ∧ (z10.length = x6.length + ([v9]).length ∧ AppOb (x6.length) (([v9]).length) 1 (gl z1 x6) (gl z1 ([v9])) (gl z1 z10) ∧ Tt ∧ (x6.length + ([v9]).length) * 24 ≤ 140737488355328) ∧ Tt ∧ Tt)) ∧ (Tt ∧ Tt)) 9 [.no, .no, .no, .no, .no, .call [.one (.int .i64 x5), .one z8, .one z3] [.one (sl 5 zqo v9)] [[.lst 15]], .obj 16 ([v9]).length (gl z1 ([v9])), .obj 17 z10.length (gl z1 z10)] [2, 8, 10, 22, 23, 24] [2, 3, 4, 17] ⟨⟨tr, tr, tr, tr, tr, ⟨⟨rfl, rfl, ⟨rfl, fun j hj => rfl⟩, tr⟩, ok_impl_ThinClip_1 K x5 z16 a2_0_0 v9 e10⟩, ⟨rfl, ⟨rfl, tr⟩⟩, ⟨List.length_append, zx9, tr, c11⟩, tr, tr⟩, ⟨tr, tr⟩⟩ ?_
  refine zqr ?_
  refine zqa ?_
  let z15 := IntKind.i64.wrap (x5 + (1 : Int))
  refine AW.rA ⟨[(2, (vc (.fn 33 1 fun j => [z3].getD j .nilptr))), (8, (vp 2 0)), (10, (vp 4 0)), (22, z7), (23, (vI z4)), (24, (vI z15))], [(2, (.box [z2, z2, .nils, .nils])), (3, z6), (4, (.box [(cI a1), (cI a0.Kind), (xL 17 1 z1 z10), z5])), (17, (oL 1 z1 z10))]⟩ (T2 Tt) [] [2, 8, 10, 22, 23, 24] [2, 3, 4, 17] ⟨tr, tr, tr⟩ ?_
  exact zqu (k, z15, z10) h (Nat.lt_succ_self k) (Sub.trans (Sub.swap 8 17 _ (by kernel_rfl) (by kernel_rfl)) (Sub.keep [2, 8, 10, 22, 23, 24] [2, 3, 4, 8] (by kernel_rfl) (by kernel_rfl)))
 ·refine AW.cond_f rfl b7 ?_
  refine AW.exit ?_
  refine zwc ?_
  refine zwd ?_
  refine zq4 ?_
  refine zqa ?_
  refine AW.seq ?_
  refine AW.weak (s' := ⟨[(8, (vp 2 0)), (10, (vp 4 0))], [(2, (.box [z2, z2, .nils, .nils])), (3, z6), (4, (.box [(cI a1), (cI a0.Kind), z13, z5])), (8, (oL 1 z1 x6))]⟩) (Sub.keep [8, 10] [2, 3, 4, 8] (by kernel_rfl) (by kernel_rfl)) ?_
  refine AW.weak (s' := ⟨[(8, (vp 2 0)), (10, (vp 4 0))], [(2, (.box [z2, z2, .nils, .nils])), (3, (oA 4 zqg v1)), (4, (.box [(cI a1), (cI a0.Kind), (.arr 8), (.arr 3)])), (8, (oA 1 z1 x6))]⟩) (Sub.lstOwn [3, 8] (by kernel_rfl)) ?_
  obtain ⟨v12, e13, h⟩ := zqb h
  let z17 : List CT := [.agg (zqp v12.1), .one (.bool v12.2)]
  let z18 := xL 19 4 zqg v12.1.Roots
  refine AW.splitA 1 [.no] [8, 39] [2, 3, 8] [.callM [(.agg [(.ro (.int .i64 a1)), (.ro (.int .i64 a0.Kind)), (.mv (sl 1 z1 x6)), (.mv z11)])] z17 [[.view, .view, .lst 18, .lst 19], [.view]] none] [8, 9] [2, 18, 19] (s' := ⟨[(8, (vp 2 0)), (9, (vB v12.2))], [(2, (.box [(cI v12.1.Length), (cI v12.1.Kind), (xL 18 1 z1 v12.1.Tracks), z18])), (18, (oL 1 z1 v12.1.Tracks)), (19, (oL 4 zqg v12.1.Roots))]⟩) (ob := (Tt ∧ Tt) ∧ (((((eI a1) ∧ (eI a0.Kind) ∧ (Eqc (sl 1 z1 x6)) ∧ (Eqc z11) ∧ Tt) ∧ Tt) ∧ MutOK Tryz.prog 54 [(.agg [(.ro (.int .i64 a1)), (.ro (.int .i64 a0.Kind)), (.mv (sl 1 z1 x6)), (.mv z11)])] z17) ∧ T4 Tt)) (by kernel_rfl) ⟨⟨tr, tr⟩, ⟨⟨⟨⟨rfl, rfl, rfl, rfl, tr⟩, tr⟩, ok_impl_validClip K (Clip.mk a1 a0.Kind x6 v1) v12 e13⟩, tr, tr, tr, tr, tr⟩⟩ ?_
  refine zqa ?_
  refine AW.ret ?_
  replace h := zqd h
  subst h
  exact ⟨.inr rfl, zqe [(.agg [(cI v12.1.Length), (cI v12.1.Kind), (xL 18 1 z1 v12.1.Tracks), z18]), (.one (.c (.bool v12.2)))] (by kernel_rfl) ⟨⟨⟨rfl, tr⟩, ⟨rfl, tr⟩, rfl, rfl, tr⟩, ⟨rfl, tr⟩, tr⟩ (of_decide_eq_true (by kernel_rfl))⟩

/-! impl.ThinClip -/
def zj3 (K : Nat) (a0 : Clip) (a1 : F32) : Option (Clip × Bool) :=
 (zw4 K a0).bind fun v1 => ite2 ((!v1)) (some ((Clip.mk (0 : Int) (0 : Int) ([] : (List (List Key))) ([] : (List RootKey))), false)) ((zjt K a0 a0.Length a1).bind fun v4 => some (v4.1, v4.2))

theorem ok_impl_ThinClip (K : Nat) (a0 : Clip) (a1 : F32) (o : (Clip × Bool)) (h : zj3 K a0 a1 = some o) : CallOK Tryz.prog 15 [.agg (zqp a0), .one (.flt .f32 a1.bits)] [.agg (zqp o.1), .one (.bool o.2)] := by
 refine zqh Tryz.func15 rfl (by kernel_rfl) (Nat.le_of_ble_eq_true (by kernel_rfl)) ?_
 intro w0
 unfold zj3 at h
 refine AW.sC (T4 Tt) [.box 1, .box 2, .box 3] [2, 3, 4] [1, 2, 3] ⟨tr, tr, tr, tr, tr⟩ ?_
 refine AW.seq ?_
 refine AW.seq ?_
 obtain ⟨v1, e2, h⟩ := zqb h
 let z3 := csL 5 zqo
 let z1 := (eI a0.Length) ∧ (eI a0.Kind) ∧ (Eqc (sl 1 z3 a0.Tracks)) ∧ (Eqc (sl 4 zqg a0.Roots)) ∧ Tt
 let z2 := cI (0 : Int)
 refine AW.tA ⟨[(2, (vp 1 0)), (3, (vp 2 0)), (4, (vp 3 0)), (8, (vB (!v1)))], [(1, (.box [(cI a0.Length), (cI a0.Kind), (.c (sl 1 z3 a0.Tracks)), (.c (sl 4 zqg a0.Roots))])), (2, (.box [(cF a1)])), (3, (.box [z2, z2, .nils, .nils]))]⟩ (Tt ∧ ((z1 ∧ Tt) ∧ CallOK Tryz.prog 7 [.agg (zqp a0)] [.one (.bool v1)]) ∧ Tt ∧ Tt) [.no, .call [.agg (zqp a0)] [.one (.bool v1)] [[.view]]] [2, 3, 4, 8] [1, 2, 3] ⟨tr, ⟨⟨⟨rfl, rfl, rfl, rfl, tr⟩, tr⟩, zq0 K a0 v1 e2⟩, tr, tr⟩ ?_
 rcases zqc h with ⟨b3, h⟩ | ⟨b3, h⟩
 ·refine AW.cond_t rfl b3 ?_
  refine AW.sA ⟨[(4, (vp 3 0)), (5, (vB false))], [(3, (.box [z2, z2, .nils, .nils]))]⟩ (Tt ∧ T2 Tt) [] [4, 5] [3] ⟨tr, tr, tr, tr⟩ ?_
  refine AW.ret ?_
  refine zqm ?_
  replace h := zqd h
  subst h
  exact ⟨.inr rfl, zqe [(.agg [z2, z2, .nils, .nils]), (.one (.c (.bool false)))] (by kernel_rfl) ⟨⟨⟨rfl, tr⟩, ⟨rfl, tr⟩, rfl, rfl, tr⟩, ⟨rfl, tr⟩, tr⟩ (of_decide_eq_true (by kernel_rfl))⟩
 ·refine AW.cond_f rfl b3 ?_
  refine AW.skip ?_
  refine zqa ?_
  refine AW.seq ?_
  obtain ⟨v4, e5, h⟩ := zqb h
  let z4 := xL 5 4 zqg v4.1.Roots
  let z5 : List CT := [.agg (zqp v4.1), .one (.bool v4.2)]
  refine AW.tA ⟨[(4, (vp 3 0)), (5, (vB v4.2))], [(3, (.box [(cI v4.1.Length), (cI v4.1.Kind), (xL 4 1 z3 v4.1.Tracks), z4])), (4, (oL 1 z3 v4.1.Tracks)), (5, (oL 4 zqg v4.1.Roots))]⟩ (T4 (((z1 ∧ (eI a0.Length) ∧ (33 = 33 ∧ 1 = 1 ∧ ((eF a1) ∧ Tt) ∧ Tt) ∧ (Eqc (.fn 35 0 fun _ => .nilptr)) ∧ Tt) ∧ CallOK Tryz.prog 32 [.agg (zqp a0), .one (.int .i64 a0.Length), .one (.fn 33 1 fun j => [(pl 1 (csF .f32) a1)].getD j .nilptr), .one (.fn 35 0 fun _ => .nilptr)] z5) ∧ T4 Tt)) [.no, .no, .no, .no, .call [.agg (zqp a0), .one (.int .i64 a0.Length), .one (.fn 33 1 fun j => [(pl 1 (csF .f32) a1)].getD j .nilptr), .one (.fn 35 0 fun _ => .nilptr)] z5 [[.view, .view, .lst 4, .lst 5], [.view]]] [4, 5] [3, 4, 5] ⟨tr, tr, tr, tr, ⟨⟨⟨rfl, rfl, rfl, rfl, tr⟩, rfl, ⟨rfl, rfl, ⟨⟨rfl, tr⟩, tr⟩⟩, rfl, tr⟩, ok_impl_Clip_changed K a0 a0.Length a1 v4 e5⟩, tr, tr, tr, tr, tr⟩ ?_
  refine AW.ret ?_
  replace h := zqd h
  subst h
  exact ⟨.inr rfl, zqe [(.agg [(cI v4.1.Length), (cI v4.1.Kind), (xL 4 1 z3 v4.1.Tracks), z4]), (.one (.c (.bool v4.2)))] (by kernel_rfl) ⟨⟨⟨rfl, tr⟩, ⟨rfl, tr⟩, rfl, rfl, tr⟩, ⟨rfl, tr⟩, tr⟩ (of_decide_eq_true (by kernel_rfl))⟩

/-! spec.l05Same -/
def zxa (K : Nat) (a0 : Clip) (a1 : Clip) (x8 : Int) : Nat → Int → Option ((Unit) ⊕ (Unit))
 | 0, _ => none
 | k + 1, x31 => ite2 ((decide (x31 < ((a0.Tracks.getD x8.toNat default).length : Int)))) (chk (0 ≤ x8 ∧ x8 < (a0.Tracks.length : Int)) (chk (0 ≤ x31 ∧ x31 < ((a0.Tracks.getD x8.toNat default).length : Int)) (chk (0 ≤ x8 ∧ x8 < (a1.Tracks.length : Int)) (chk (0 ≤ x31 ∧ x31 < ((a1.Tracks.getD x8.toNat default).length : Int)) ((ite2 (((((a0.Tracks.getD x8.toNat default).getD x31.toNat default).At) != (((a1.Tracks.getD x8.toNat default).getD x31.toNat default).At))) (some true) ((zka K (((a0.Tracks.getD x8.toNat default).getD x31.toNat default).Turn) (((a1.Tracks.getD x8.toNat default).getD x31.toNat default).Turn)).bind fun v38 => some (!v38))).bind fun j40 => ite2 (j40) (some (.inr ())) (zxa K a0 a1 x8 k (IntKind.i64.wrap (x31 + (1 : Int))))))))) (some (.inl ()))

def zxs (K : Nat) (a0 : Clip) (a1 : Clip) : Nat → Int → Option (Bool)
 | 0, _ => none
 | k + 1, x44 => ite2 ((decide (x44 < (a0.Roots.length : Int)))) (chk (0 ≤ x44 ∧ x44 < (a0.Roots.length : Int)) (chk (0 ≤ x44 ∧ x44 < (a1.Roots.length : Int)) ((ite2 ((((a0.Roots.getD x44.toNat default).At) != ((a1.Roots.getD x44.toNat default).At))) (some true) ((zvk K ((a0.Roots.getD x44.toNat default).Place) ((a1.Roots.getD x44.toNat default).Place)).bind fun v49 => some (!v49))).bind fun j51 => ite2 (j51) (some false) (zxs K a0 a1 k (IntKind.i64.wrap (x44 + (1 : Int))))))) (some true)

def zxd (K : Nat) (a0 : Clip) (a1 : Clip) : Nat → Int → Option (Bool)
 | 0, _ => none
 | k + 1, x8 => ite2 ((decide (x8 < (a0.Tracks.length : Int)))) (chk (0 ≤ x8 ∧ x8 < (a0.Tracks.length : Int)) (chk (0 ≤ x8 ∧ x8 < (a1.Tracks.length : Int)) (ite2 ((((a0.Tracks.getD x8.toNat default).length : Int) != ((a1.Tracks.getD x8.toNat default).length : Int))) (some false) ((zxa K a0 a1 x8 K (0 : Int)).bind (fun z0 => sumC z0 (fun j28 => zxd K a0 a1 k (IntKind.i64.wrap (x8 + (1 : Int)))) (fun j29 => some false)))))) (zxs K a0 a1 K (0 : Int))

def zyr (K : Nat) (a0 : Clip) (a1 : Clip) : Option (Bool) :=
 (ite2 ((a0.Length != a1.Length)) (some true) (ite2 ((a0.Kind != a1.Kind)) (some true) (ite2 (((a0.Tracks.length : Int) != (a1.Tracks.length : Int))) (some true) (some ((a0.Roots.length : Int) != (a1.Roots.length : Int)))))).bind fun j4 => ite2 (j4) (some false) (zxd K a0 a1 K (0 : Int))

theorem ok_spec_l05Same (K : Nat) (a0 : Clip) (a1 : Clip) (o : (Bool)) (h : zyr K a0 a1 = some o) : CallOK Tryz.prog 57 [.one (pl 4 zqp a0), .one (pl 4 zqp a1)] [.one (.bool o)] := by
 refine zqh Tryz.func57 rfl (by kernel_rfl) (Nat.le_of_ble_eq_true (by kernel_rfl)) ?_
 intro w0
 unfold zyr at h
 let z2 := vc (pl 4 zqp a0)
 let z3 := vc (pl 4 zqp a1)
 refine AW.sA ⟨[(0, z2), (1, z3)], []⟩ (Tt ∧ Tt) [] [0, 1] [] ⟨tr, tr⟩ ?_
 refine AW.seq ?_
 refine AW.seq ?_
 obtain ⟨j4, e5, h⟩ := zqb h
 refine AW.join1 (s2 := ⟨[(0, z2), (1, z3), (53, (vB j4))], []⟩) ?_ ?_
 ·rcases zqc e5 with ⟨b1, e5⟩ | ⟨b1, e5⟩
  ·replace e5 := zqd e5
   subst e5
   exact AW.dA ⟨[(0, z2), (1, z3), (53, (vB true))], []⟩ ((Tt ∧ T4 (T4 ((Tt ∧ (a0.Length != a1.Length) = true) ∧ T4 (T4 (T4 (T4 (T4 (T4 (T4 (T4 (T4 Tt))))))))))) ∧ (Tt)) 46 [.no, .no, .no, .no, .no, .no, .no, .no, .no, .dec true] [0, 1, 53] [] ⟨⟨tr, tr, tr, tr, tr, tr, tr, tr, tr, ⟨tr, b1⟩, tr, tr, tr, tr, tr, tr, tr, tr, tr, tr, tr, tr, tr, tr, tr, tr, tr, tr, tr, tr, tr, tr, tr, tr, tr, tr, tr, tr, tr, tr, tr, tr, tr, tr, tr, tr, tr⟩, tr⟩ ⟨rfl, rfl⟩
  ·rcases zqc e5 with ⟨b2, e5⟩ | ⟨b2, e5⟩
   ·replace e5 := zqd e5
    subst e5
    exact AW.dA ⟨[(0, z2), (1, z3), (53, (vB true))], []⟩ ((Tt ∧ T4 (T4 ((Tt ∧ (a0.Length != a1.Length) = false) ∧ T2 (T4 (T4 ((Tt ∧ (a0.Kind != a1.Kind) = true) ∧ Tt ∧ T4 (T4 (T4 (T4 (T4 (T4 Tt))))))))))) ∧ (Tt)) 46 [.no, .no, .no, .no, .no, .no, .no, .no, .no, .dec false, .no, .no, .no, .no, .no, .no, .no, .no, .no, .no, .dec true] [0, 1, 53] [] ⟨⟨tr, tr, tr, tr, tr, tr, tr, tr, tr, ⟨tr, b1⟩, tr, tr, tr, tr, tr, tr, tr, tr, tr, tr, ⟨tr, b2⟩, tr, tr, tr, tr, tr, tr, tr, tr, tr, tr, tr, tr, tr, tr, tr, tr, tr, tr, tr, tr, tr, tr, tr, tr, tr, tr⟩, tr⟩ ⟨rfl, rfl⟩
   ·rcases zqc e5 with ⟨b3, e5⟩ | ⟨b3, e5⟩
    ·replace e5 := zqd e5
     subst e5
     exact AW.dA ⟨[(0, z2), (1, z3), (53, (vB true))], []⟩ ((Tt ∧ T4 (T4 ((Tt ∧ (a0.Length != a1.Length) = false) ∧ T2 (T4 (T4 ((Tt ∧ (a0.Kind != a1.Kind) = false) ∧ T4 (T4 (T4 ((Tt ∧ ((a0.Tracks.length : Int) != (a1.Tracks.length : Int)) = true) ∧ T4 (T4 (T4 Tt))))))))))) ∧ (Tt)) 46 [.no, .no, .no, .no, .no, .no, .no, .no, .no, .dec false, .no, .no, .no, .no, .no, .no, .no, .no, .no, .no, .dec false, .no, .no, .no, .no, .no, .no, .no, .no, .no, .no, .no, .no, .dec true] [0, 1, 53] [] ⟨⟨tr, tr, tr, tr, tr, tr, tr, tr, tr, ⟨tr, b1⟩, tr, tr, tr, tr, tr, tr, tr, tr, tr, tr, ⟨tr, b2⟩, tr, tr, tr, tr, tr, tr, tr, tr, tr, tr, tr, tr, ⟨tr, b3⟩, tr, tr, tr, tr, tr, tr, tr, tr, tr, tr, tr, tr, tr⟩, tr⟩ ⟨rfl, rfl⟩
    ·replace e5 := zqd e5
     subst e5
     exact AW.dA ⟨[(0, z2), (1, z3), (53, (vB ((a0.Roots.length : Int) != (a1.Roots.length : Int))))], []⟩ ((Tt ∧ T4 (T4 ((Tt ∧ (a0.Length != a1.Length) = false) ∧ T2 (T4 (T4 ((Tt ∧ (a0.Kind != a1.Kind) = false) ∧ T4 (T4 (T4 ((Tt ∧ ((a0.Tracks.length : Int) != (a1.Tracks.length : Int)) = false) ∧ T4 (T4 (T4 Tt))))))))))) ∧ (Tt)) 46 [.no, .no, .no, .no, .no, .no, .no, .no, .no, .dec false, .no, .no, .no, .no, .no, .no, .no, .no, .no, .no, .dec false, .no, .no, .no, .no, .no, .no, .no, .no, .no, .no, .no, .no, .dec false] [0, 1, 53] [] ⟨⟨tr, tr, tr, tr, tr, tr, tr, tr, tr, ⟨tr, b1⟩, tr, tr, tr, tr, tr, tr, tr, tr, tr, tr, ⟨tr, b2⟩, tr, tr, tr, tr, tr, tr, tr, tr, tr, tr, tr, tr, ⟨tr, b3⟩, tr, tr, tr, tr, tr, tr, tr, tr, tr, tr, tr, tr, tr⟩, tr⟩ ⟨rfl, rfl⟩
 refine zqa ?_
 rcases zqc h with ⟨b6, h⟩ | ⟨b6, h⟩
 ·refine AW.cond_t rfl b6 ?_
  refine AW.sA ⟨[(4, (vB false))], []⟩ (Tt ∧ Tt) [] [4] [] ⟨tr, tr⟩ ?_
  refine AW.ret ?_
  refine zqm ?_
  replace h := zqd h
  subst h
  exact ⟨.inr rfl, zqe [(.one (.c (.bool false)))] (by kernel_rfl) ⟨⟨rfl, tr⟩, tr⟩ (of_decide_eq_true (by kernel_rfl))⟩
 ·refine AW.cond_f rfl b6 ?_
  refine AW.skip ?_
  refine zqa ?_
  refine AW.seq ?_
  let z4 := (a0.Tracks.length : Int)
  refine AW.sA ⟨[(0, z2), (1, z3), (58, (vI z4)), (59, (vI (0 : Int)))], []⟩ (T2 (T4 Tt)) [] [0, 1, 58, 59] [] ⟨tr, tr, tr, tr, tr, tr, tr⟩ ?_
  refine AW.block ?_
  refine AW.loopQ (σ := Nat × Int) (fun p => ⟨[(0, z2), (1, z3), (58, (vI z4)), (59, (vI p.2))], []⟩) (fun p => zxd K a0 a1 p.1 p.2 = some o) (fun p => p.1) (K, (0 : Int)) h ?_
  clear h
  rintro ⟨k, x8⟩ h
  replace h : zxd K a0 a1 k x8 = some o := h
  show AW _ _ (⟨[(0, z2), (1, z3), (58, (vI z4)), (59, (vI x8))], []⟩ : St) _
  obtain _ | k := k
  ·rw [zxd] at h; cases h
  rw [zxd] at h
  refine AW.sA ⟨[(0, z2), (1, z3), (58, (vI z4)), (59, (vI x8)), (60, (vB (decide (x8 < z4))))], []⟩ (Tt ∧ Tt) [] [0, 1, 58, 59, 60] [] ⟨tr, tr⟩ ?_
  refine AW.seq ?_
  rcases zqc h with ⟨b9, h⟩ | ⟨b9, h⟩
  ·refine AW.cond_t rfl b9 ?_
   refine AW.skip ?_
   refine zqa ?_
   refine AW.seq ?_
   refine AW.block ?_
   refine AW.sA ⟨[(0, z2), (1, z3), (5, (vI x8)), (58, (vI z4)), (59, (vI x8))], []⟩ (T2 Tt) [] [0, 1, 5, 58, 59] [] ⟨tr, tr, tr⟩ ?_
   refine AW.seq ?_
   refine AW.seq ?_
   obtain ⟨c10, h⟩ := zqn h
   obtain ⟨c11, h⟩ := zqn h
   let z1 := a0.Tracks.getD x8.toNat default
   let z10 := a1.Tracks.getD x8.toNat default
   let z12 := 0 ≤ x8 ∧ x8 < (a1.Tracks.length : Int)
   let z13 := 0 ≤ x8 ∧ x8 < z4
   refine AW.dA ⟨[(0, z2), (1, z3), (5, (vI x8)), (58, (vI z4)), (59, (vI x8)), (78, (vB ((z1.length : Int) != (z10.length : Int))))], []⟩ ((Tt ∧ T4 (z13 ∧ Tt ∧ T2 (T4 (z12 ∧ Tt ∧ T2 Tt)))) ∧ (Tt)) 17 [] [0, 1, 5, 58, 59, 78] [] ⟨⟨tr, tr, tr, tr, tr, c10, tr, tr, tr, tr, tr, tr, tr, c11, tr, tr, tr, tr⟩, tr⟩ ?_
   refine zqa ?_
   rcases zqc h with ⟨b12, h⟩ | ⟨b12, h⟩
   ·refine AW.cond_t rfl b12 ?_
    refine AW.sA ⟨[(4, (vB false))], []⟩ (Tt ∧ Tt) [] [4] [] ⟨tr, tr⟩ ?_
    refine AW.ret ?_
    refine zqm ?_
    refine zqz ?_
    refine zqm ?_
    refine zjs ?_
    refine zqz ?_
    refine zqm ?_
    replace h := zqd h
    subst h
    exact ⟨.inr rfl, zqe [(.one (.c (.bool false)))] (by kernel_rfl) ⟨⟨rfl, tr⟩, tr⟩ (of_decide_eq_true (by kernel_rfl))⟩
   ·refine AW.cond_f rfl b12 ?_
    refine AW.skip ?_
    refine zqa ?_
    let z11 := vI (z1.length : Int)
    refine AW.sA ⟨[(0, z2), (1, z3), (5, (vI x8)), (58, (vI z4)), (59, (vI x8)), (86, z11), (87, (vI (0 : Int)))], []⟩ (Tt ∧ T4 (z13 ∧ Tt ∧ T2 Tt)) [] [0, 1, 5, 58, 59, 86, 87] [] ⟨tr, tr, tr, tr, tr, c10, tr, tr, tr, tr⟩ ?_
    obtain ⟨j27, e26, h⟩ := zqb h
    refine AW.joinM (cx := ?cx) ((fun z0 => sumQ z0 (fun j28 => OnlyE ?cx .normal ⟨[(0, z2), (1, z3), (58, (vI z4)), (59, (vI x8))], []⟩) (fun j29 => OnlyE ?cx .ret ⟨[(4, (vB false))], []⟩)) j27) ?_ ?_
    ·replace h := e26
     refine AW.block ?_
     refine AW.loopQ (σ := Nat × Int) (fun p => ⟨[(0, z2), (1, z3), (5, (vI x8)), (58, (vI z4)), (59, (vI x8)), (86, z11), (87, (vI p.2))], []⟩) (fun p => zxa K a0 a1 x8 p.1 p.2 = some j27) (fun p => p.1) (K, (0 : Int)) h ?_
     clear h
     rintro ⟨k, x31⟩ h
     replace h : zxa K a0 a1 x8 k x31 = some j27 := h
     show AW _ _ (⟨[(0, z2), (1, z3), (5, (vI x8)), (58, (vI z4)), (59, (vI x8)), (86, z11), (87, (vI x31))], []⟩ : St) _
     obtain _ | k := k
     ·rw [zxa] at h; cases h
     rw [zxa] at h
     refine AW.sA ⟨[(0, z2), (1, z3), (5, (vI x8)), (58, (vI z4)), (59, (vI x8)), (86, z11), (87, (vI x31)), (88, (vB (decide (x31 < (z1.length : Int)))))], []⟩ (Tt ∧ Tt) [] [0, 1, 5, 58, 59, 86, 87, 88] [] ⟨tr, tr⟩ ?_
     refine AW.seq ?_
     rcases zqc h with ⟨b32, h⟩ | ⟨b32, h⟩
     ·refine AW.cond_t rfl b32 ?_
      refine AW.skip ?_
      refine zqa ?_
      refine AW.seq ?_
      refine AW.block ?_
      refine AW.sA ⟨[(0, z2), (1, z3), (5, (vI x8)), (6, (vI x31)), (58, (vI z4)), (59, (vI x8)), (86, z11), (87, (vI x31))], []⟩ (T2 Tt) [] [0, 1, 5, 6, 58, 59, 86, 87] [] ⟨tr, tr, tr⟩ ?_
      refine AW.seq ?_
      obtain ⟨c33, h⟩ := zqn h
      obtain ⟨c34, h⟩ := zqn h
      obtain ⟨c35, h⟩ := zqn h
      obtain ⟨c36, h⟩ := zqn h
      obtain ⟨j40, e41, h⟩ := zqb h
      refine AW.join1 (s2 := ⟨[(0, z2), (1, z3), (5, (vI x8)), (58, (vI z4)), (59, (vI x8)), (86, z11), (87, (vI x31)), (138, (vB j40))], []⟩) ?_ ?_
      ·rcases zqc e41 with ⟨b37, e41⟩ | ⟨b37, e41⟩
       ·replace e41 := zqd e41
        subst e41
        exact AW.dA ⟨[(0, z2), (1, z3), (5, (vI x8)), (58, (vI z4)), (59, (vI x8)), (86, z11), (87, (vI x31)), (138, (vB true))], []⟩ ((Tt ∧ T4 (z13 ∧ T2 ((0 ≤ x31 ∧ x31 < (z1.length : Int)) ∧ Tt ∧ T2 (T4 (z12 ∧ T2 ((0 ≤ x31 ∧ x31 < (z10.length : Int)) ∧ Tt ∧ T2 ((Tt ∧ (((z1.getD x31.toNat default).At) != ((z10.getD x31.toNat default).At)) = true) ∧ Tt ∧ T4 (T4 (T4 (T4 (T4 (T4 Tt)))))))))))) ∧ (Tt)) 49 [.no, .no, .no, .no, .no, .no, .no, .no, .no, .no, .no, .no, .no, .no, .no, .no, .no, .no, .no, .no, .no, .no, .no, .dec true] [0, 1, 5, 58, 59, 86, 87, 138] [] ⟨⟨tr, tr, tr, tr, tr, c33, tr, tr, c34, tr, tr, tr, tr, tr, tr, tr, c35, tr, tr, c36, tr, tr, tr, ⟨tr, b37⟩, tr, tr, tr, tr, tr, tr, tr, tr, tr, tr, tr, tr, tr, tr, tr, tr, tr, tr, tr, tr, tr, tr, tr, tr, tr, tr⟩, tr⟩ ⟨rfl, rfl⟩
       ·obtain ⟨v38, e39, e41⟩ := zqb e41
        replace e41 := zqd e41
        subst e41
        let z5 := z10.getD x31.toNat default
        let z9 := (z1.getD x31.toNat default).Turn
        exact AW.dA ⟨[(0, z2), (1, z3), (5, (vI x8)), (58, (vI z4)), (59, (vI x8)), (86, z11), (87, (vI x31)), (138, (vB (!v38)))], []⟩ ((Tt ∧ T4 (z13 ∧ T2 ((0 ≤ x31 ∧ x31 < (z1.length : Int)) ∧ Tt ∧ T2 (T4 (z12 ∧ T2 ((0 ≤ x31 ∧ x31 < (z10.length : Int)) ∧ Tt ∧ T2 ((Tt ∧ (((z1.getD x31.toNat default).At) != (z5.At)) = false) ∧ Tt ∧ T4 (z13 ∧ T2 ((0 ≤ x31 ∧ x31 < (z1.length : Int)) ∧ Tt ∧ T2 (T4 (z12 ∧ T2 ((0 ≤ x31 ∧ x31 < (z10.length : Int)) ∧ T2 (((((eF (z9.W)) ∧ (eF (z9.X)) ∧ (eF (z9.Y)) ∧ (eF (z9.Z)) ∧ Tt) ∧ ((eF ((z5.Turn).W)) ∧ (eF ((z5.Turn).X)) ∧ (eF ((z5.Turn).Y)) ∧ (eF ((z5.Turn).Z)) ∧ Tt) ∧ Tt) ∧ CallOK Tryz.prog 27 [.agg (zqi z9), .agg (zqi (z5.Turn))] [.one (.bool v38)]) ∧ T2 Tt))))))))))))) ∧ (Tt)) 49 [.no, .no, .no, .no, .no, .no, .no, .no, .no, .no, .no, .no, .no, .no, .no, .no, .no, .no, .no, .no, .no, .no, .no, .dec false, .no, .no, .no, .no, .no, .no, .no, .no, .no, .no, .no, .no, .no, .no, .no, .no, .no, .no, .no, .no, .no, .no, .call [.agg (zqi z9), .agg (zqi (z5.Turn))] [.one (.bool v38)] [[.view]]] [0, 1, 5, 58, 59, 86, 87, 138] [] ⟨⟨tr, tr, tr, tr, tr, c33, tr, tr, c34, tr, tr, tr, tr, tr, tr, tr, c35, tr, tr, c36, tr, tr, tr, ⟨tr, b37⟩, tr, tr, tr, tr, tr, c33, tr, tr, c34, tr, tr, tr, tr, tr, tr, tr, c35, tr, tr, c36, tr, tr, ⟨⟨⟨rfl, rfl, rfl, rfl, tr⟩, ⟨rfl, rfl, rfl, rfl, tr⟩, tr⟩, ok_spec_l02Same K z9 (z5.Turn) v38 e39⟩, tr, tr, tr⟩, tr⟩ ⟨rfl, rfl⟩
      refine zqa ?_
      rcases zqc h with ⟨b42, h⟩ | ⟨b42, h⟩
      ·refine AW.cond_t rfl b42 ?_
       refine AW.sA ⟨[(4, (vB false))], []⟩ (Tt ∧ Tt) [] [4] [] ⟨tr, tr⟩ ?_
       refine AW.ret ?_
       refine zqz ?_
       refine zqm ?_
       refine zjs ?_
       refine zqz ?_
       replace h := zqd h
       subst h
       exact ⟨rfl, Sub.keep [4] [] (by kernel_rfl) (by kernel_rfl)⟩
      ·refine AW.cond_f rfl b42 ?_
       refine AW.skip ?_
       refine zqr ?_
       refine zqa ?_
       refine AW.rA ⟨[(0, z2), (1, z3), (5, (vI x8)), (58, (vI z4)), (59, (vI x8)), (86, z11), (87, (vI (IntKind.i64.wrap (x31 + (1 : Int)))))], []⟩ (T2 Tt) [] [0, 1, 5, 58, 59, 86, 87] [] ⟨tr, tr, tr⟩ ?_
       exact zqu (k, (IntKind.i64.wrap (x31 + (1 : Int)))) h (Nat.lt_succ_self k) (Sub.keep [0, 1, 5, 58, 59, 86, 87] [] (by kernel_rfl) (by kernel_rfl))
     ·refine AW.cond_f rfl b32 ?_
      refine AW.exit ?_
      refine zwc ?_
      refine zwd ?_
      refine zq4 ?_
      replace h := zqd h
      subst h
      exact ⟨rfl, Sub.keep [0, 1, 58, 59] [] (by kernel_rfl) (by kernel_rfl)⟩
    clear e26
    intro ex1 st1 hq
    obtain j28 | j29 := j27
    ·replace h := sumC_inl h
     obtain ⟨he, hs⟩ := hq
     subst he
     refine ⟨⟨[(0, z2), (1, z3), (58, (vI z4)), (59, (vI x8))], []⟩, hs, ?_⟩
     clear hs st1
     refine zqr ?_
     refine zqa ?_
     refine AW.rA ⟨[(0, z2), (1, z3), (58, (vI z4)), (59, (vI (IntKind.i64.wrap (x8 + (1 : Int)))))], []⟩ (T2 Tt) [] [0, 1, 58, 59] [] ⟨tr, tr, tr⟩ ?_
     exact zqu (k, (IntKind.i64.wrap (x8 + (1 : Int)))) h (Nat.lt_succ_self k) (Sub.keep [0, 1, 58, 59] [] (by kernel_rfl) (by kernel_rfl))
    ·replace h := sumC_inr h
     obtain ⟨he, hs⟩ := hq
     subst he
     refine ⟨⟨[(4, (vB false))], []⟩, hs, ?_⟩
     clear hs st1
     refine zqz ?_
     refine zqm ?_
     refine zjs ?_
     refine zqz ?_
     refine zqm ?_
     replace h := zqd h
     subst h
     exact ⟨.inr rfl, zqe [(.one (.c (.bool false)))] (by kernel_rfl) ⟨⟨rfl, tr⟩, tr⟩ (of_decide_eq_true (by kernel_rfl))⟩
  ·refine AW.cond_f rfl b9 ?_
   refine AW.exit ?_
   refine zwc ?_
   refine zwd ?_
   refine zq4 ?_
   refine zqa ?_
   refine AW.seq ?_
   let z6 := vI (a0.Roots.length : Int)
   refine AW.sA ⟨[(0, z2), (1, z3), (145, z6), (146, (vI (0 : Int)))], []⟩ (T2 (T4 Tt)) [] [0, 1, 145, 146] [] ⟨tr, tr, tr, tr, tr, tr, tr⟩ ?_
   refine AW.block ?_
   refine AW.loopQ (σ := Nat × Int) (fun p => ⟨[(0, z2), (1, z3), (145, z6), (146, (vI p.2))], []⟩) (fun p => zxs K a0 a1 p.1 p.2 = some o) (fun p => p.1) (K, (0 : Int)) h ?_
   clear h
   rintro ⟨k, x44⟩ h
   replace h : zxs K a0 a1 k x44 = some o := h
   show AW _ _ (⟨[(0, z2), (1, z3), (145, z6), (146, (vI x44))], []⟩ : St) _
   obtain _ | k := k
   ·rw [zxs] at h; cases h
   rw [zxs] at h
   refine AW.sA ⟨[(0, z2), (1, z3), (145, z6), (146, (vI x44)), (147, (vB (decide (x44 < (a0.Roots.length : Int)))))], []⟩ (Tt ∧ Tt) [] [0, 1, 145, 146, 147] [] ⟨tr, tr⟩ ?_
   refine AW.seq ?_
   rcases zqc h with ⟨b45, h⟩ | ⟨b45, h⟩
   ·refine AW.cond_t rfl b45 ?_
    refine AW.skip ?_
    refine zqa ?_
    refine AW.seq ?_
    refine AW.block ?_
    refine AW.sA ⟨[(0, z2), (1, z3), (7, (vI x44)), (145, z6), (146, (vI x44))], []⟩ (T2 Tt) [] [0, 1, 7, 145, 146] [] ⟨tr, tr, tr⟩ ?_
    refine AW.seq ?_
    obtain ⟨c46, h⟩ := zqn h
    obtain ⟨c47, h⟩ := zqn h
    obtain ⟨j51, e52, h⟩ := zqb h
    refine AW.join1 (s2 := ⟨[(0, z2), (1, z3), (145, z6), (146, (vI x44)), (185, (vB j51))], []⟩) ?_ ?_
    ·rcases zqc e52 with ⟨b48, e52⟩ | ⟨b48, e52⟩
     ·replace e52 := zqd e52
      subst e52
      exact AW.dA ⟨[(0, z2), (1, z3), (145, z6), (146, (vI x44)), (185, (vB true))], []⟩ ((Tt ∧ T4 ((0 ≤ x44 ∧ x44 < (a0.Roots.length : Int)) ∧ Tt ∧ T2 (T4 ((0 ≤ x44 ∧ x44 < (a1.Roots.length : Int)) ∧ Tt ∧ T2 ((Tt ∧ (((a0.Roots.getD x44.toNat default).At) != ((a1.Roots.getD x44.toNat default).At)) = true) ∧ Tt ∧ T2 (T4 (T4 (T4 (T4 Tt))))))))) ∧ (Tt)) 37 [.no, .no, .no, .no, .no, .no, .no, .no, .no, .no, .no, .no, .no, .no, .no, .no, .no, .dec true] [0, 1, 145, 146, 185] [] ⟨⟨tr, tr, tr, tr, tr, c46, tr, tr, tr, tr, tr, tr, tr, c47, tr, tr, tr, ⟨tr, b48⟩, tr, tr, tr, tr, tr, tr, tr, tr, tr, tr, tr, tr, tr, tr, tr, tr, tr, tr, tr, tr⟩, tr⟩ ⟨rfl, rfl⟩
     ·obtain ⟨v49, e50, e52⟩ := zqb e52
      replace e52 := zqd e52
      subst e52
      let z7 := (a0.Roots.getD x44.toNat default).Place
      let z8 := (a1.Roots.getD x44.toNat default).Place
      let z14 := 0 ≤ x44 ∧ x44 < (a0.Roots.length : Int)
      let z15 := 0 ≤ x44 ∧ x44 < (a1.Roots.length : Int)
      exact AW.dA ⟨[(0, z2), (1, z3), (145, z6), (146, (vI x44)), (185, (vB (!v49)))], []⟩ ((Tt ∧ T4 (z14 ∧ Tt ∧ T2 (T4 (z15 ∧ Tt ∧ T2 ((Tt ∧ (((a0.Roots.getD x44.toNat default).At) != ((a1.Roots.getD x44.toNat default).At)) = false) ∧ Tt ∧ T4 (z14 ∧ Tt ∧ T2 (T4 (z15 ∧ T2 (((((eF (z7.X)) ∧ (eF (z7.Y)) ∧ (eF (z7.Z)) ∧ Tt) ∧ ((eF (z8.X)) ∧ (eF (z8.Y)) ∧ (eF (z8.Z)) ∧ Tt) ∧ Tt) ∧ CallOK Tryz.prog 28 [.agg (zqs z7), .agg (zqs z8)] [.one (.bool v49)]) ∧ T2 Tt))))))))) ∧ (Tt)) 37 [.no, .no, .no, .no, .no, .no, .no, .no, .no, .no, .no, .no, .no, .no, .no, .no, .no, .dec false, .no, .no, .no, .no, .no, .no, .no, .no, .no, .no, .no, .no, .no, .no, .no, .no, .call [.agg (zqs z7), .agg (zqs z8)] [.one (.bool v49)] [[.view]]] [0, 1, 145, 146, 185] [] ⟨⟨tr, tr, tr, tr, tr, c46, tr, tr, tr, tr, tr, tr, tr, c47, tr, tr, tr, ⟨tr, b48⟩, tr, tr, tr, tr, tr, c46, tr, tr, tr, tr, tr, tr, tr, c47, tr, tr, ⟨⟨⟨rfl, rfl, rfl, tr⟩, ⟨rfl, rfl, rfl, tr⟩, tr⟩, ok_spec_l01VSame K z7 z8 v49 e50⟩, tr, tr, tr⟩, tr⟩ ⟨rfl, rfl⟩
    refine zqa ?_
    rcases zqc h with ⟨b53, h⟩ | ⟨b53, h⟩
    ·refine AW.cond_t rfl b53 ?_
     refine AW.sA ⟨[(4, (vB false))], []⟩ (Tt ∧ Tt) [] [4] [] ⟨tr, tr⟩ ?_
     refine AW.ret ?_
     refine zqz ?_
     refine zqm ?_
     refine zjs ?_
     refine zqz ?_
     refine zqm ?_
     replace h := zqd h
     subst h
     exact ⟨.inr rfl, zqe [(.one (.c (.bool false)))] (by kernel_rfl) ⟨⟨rfl, tr⟩, tr⟩ (of_decide_eq_true (by kernel_rfl))⟩
    ·refine AW.cond_f rfl b53 ?_
     refine AW.skip ?_
     refine zqr ?_
     refine zqa ?_
     let z16 := IntKind.i64.wrap (x44 + (1 : Int))
     refine AW.rA ⟨[(0, z2), (1, z3), (145, z6), (146, (vI z16))], []⟩ (T2 Tt) [] [0, 1, 145, 146] [] ⟨tr, tr, tr⟩ ?_
     exact zqu (k, z16) h (Nat.lt_succ_self k) (Sub.keep [0, 1, 145, 146] [] (by kernel_rfl) (by kernel_rfl))
   ·refine AW.cond_f rfl b45 ?_
    refine AW.exit ?_
    refine zwc ?_
    refine zwd ?_
    refine zq4 ?_
    refine zqa ?_
    refine AW.sA ⟨[(4, (vB true))], []⟩ (Tt ∧ Tt) [] [4] [] ⟨tr, tr⟩ ?_
    refine AW.ret ?_
    replace h := zqd h
    subst h
    exact ⟨.inr rfl, zqe [(.one (.c (.bool true)))] (by kernel_rfl) ⟨⟨rfl, tr⟩, tr⟩ (of_decide_eq_true (by kernel_rfl))⟩

/-! spec.SameClip -/
def zyi (K : Nat) (a0 : Clip) (a1 : Clip) : Option (Bool) :=
 (zyr K a0 a1).bind fun v1 => some v1

theorem ok_spec_SameClip (K : Nat) (a0 : Clip) (a1 : Clip) (o : (Bool)) (h : zyi K a0 a1 = some o) : CallOK Tryz.prog 37 [.agg (zqp a0), .agg (zqp a1)] [.one (.bool o)] := by
 refine zqh Tryz.func37 rfl (by kernel_rfl) (Nat.le_of_ble_eq_true (by kernel_rfl)) ?_
 intro w0
 unfold zyi at h
 refine AW.sC (Tt ∧ T2 Tt) [.box 1, .box 2] [2, 3] [1, 2] ⟨tr, tr, tr, tr⟩ ?_
 refine AW.seq ?_
 obtain ⟨v1, e2, h⟩ := zqb h
 let z1 : List CT := [.one (pl 4 zqp a0), .one (pl 4 zqp a1)]
 refine AW.tA ⟨[(4, (vB v1))], []⟩ ((((0 = 0 ∧ (eI a0.Length) ∧ (eI a0.Kind) ∧ (Eqc (sl 1 (csL 5 zqo) a0.Tracks)) ∧ (Eqc (sl 4 zqg a0.Roots)) ∧ Tt) ∧ (0 = 0 ∧ (eI a1.Length) ∧ (eI a1.Kind) ∧ (Eqc (sl 1 (csL 5 zqo) a1.Tracks)) ∧ (Eqc (sl 4 zqg a1.Roots)) ∧ Tt) ∧ Tt) ∧ CallOK Tryz.prog 57 z1 [.one (.bool v1)]) ∧ Tt ∧ Tt) [.call z1 [.one (.bool v1)] [[.view]]] [4] [] ⟨⟨⟨⟨rfl, rfl, rfl, rfl, rfl, tr⟩, ⟨rfl, rfl, rfl, rfl, rfl, tr⟩, tr⟩, ok_spec_l05Same K a0 a1 v1 e2⟩, tr, tr⟩ ?_
 refine AW.ret ?_
 replace h := zqd h
 subst h
 exact ⟨.inr rfl, zqe [(.one (.c (.bool v1)))] (by kernel_rfl) ⟨⟨rfl, tr⟩, tr⟩ (of_decide_eq_true (by kernel_rfl))⟩

/-! laws.b10Clips -/
def laws_b10Clips (K : Nat) (a0 : Clip) (a1 : Clip) : Option (Bool) :=
 (zyi K a0 a1).bind fun v1 => some v1

theorem ok_laws_b10Clips (K : Nat) (a0 : Clip) (a1 : Clip) (o : (Bool)) (h : laws_b10Clips K a0 a1 = some o) : CallOK Tryz.prog 16 [.agg (zqp a0), .agg (zqp a1)] [.one (.bool o)] := by
 refine zqh Tryz.func16 rfl (by kernel_rfl) (Nat.le_of_ble_eq_true (by kernel_rfl)) ?_
 intro w0
 unfold laws_b10Clips at h
 refine AW.sC (Tt ∧ T2 Tt) [.box 1, .box 2] [2, 3] [1, 2] ⟨tr, tr, tr, tr⟩ ?_
 refine AW.seq ?_
 obtain ⟨v1, e2, h⟩ := zqb h
 let z1 : List CT := [.agg (zqp a0), .agg (zqp a1)]
 refine AW.tA ⟨[(4, (vB v1))], []⟩ (T2 (((((eI a0.Length) ∧ (eI a0.Kind) ∧ (Eqc (sl 1 (csL 5 zqo) a0.Tracks)) ∧ (Eqc (sl 4 zqg a0.Roots)) ∧ Tt) ∧ ((eI a1.Length) ∧ (eI a1.Kind) ∧ (Eqc (sl 1 (csL 5 zqo) a1.Tracks)) ∧ (Eqc (sl 4 zqg a1.Roots)) ∧ Tt) ∧ Tt) ∧ CallOK Tryz.prog 37 z1 [.one (.bool v1)]) ∧ Tt ∧ Tt)) [.no, .no, .call z1 [.one (.bool v1)] [[.view]]] [4] [] ⟨tr, tr, ⟨⟨⟨rfl, rfl, rfl, rfl, tr⟩, ⟨rfl, rfl, rfl, rfl, tr⟩, tr⟩, ok_spec_SameClip K a0 a1 v1 e2⟩, tr, tr⟩ ?_
 refine AW.ret ?_
 replace h := zqd h
 subst h
 exact ⟨.inr rfl, zqe [(.one (.c (.bool v1)))] (by kernel_rfl) ⟨⟨rfl, tr⟩, tr⟩ (of_decide_eq_true (by kernel_rfl))⟩

/-! laws.FnKeys -/
def laws_FnKeys_l4 (K : Nat) (v4 : (Clip)) (x16 : Int) : Nat → Int → Option ((Unit) ⊕ (Unit))
 | 0, _ => none
 | k + 1, x39 => ite2 ((decide (x39 < ((v4.Tracks.getD x16.toNat default).length : Int)))) (chk (0 ≤ x16 ∧ x16 < (v4.Tracks.length : Int)) (chk (0 ≤ x39 ∧ x39 < ((v4.Tracks.getD x16.toNat default).length : Int)) ((zju K v4 (((v4.Tracks.getD x16.toNat default).getD x39.toNat default).At)).bind fun v43 => (ite2 ((!v43.2)) (some true) (ite2 (((v43.1.Turns.length : Int) != (v4.Tracks.length : Int))) (some true) (chk (0 ≤ x16 ∧ x16 < (v43.1.Turns.length : Int)) ((zyd K (v43.1.Turns.getD x16.toNat default) (((v4.Tracks.getD x16.toNat default).getD x39.toNat default).Turn)).bind fun v48 => some (!v48))))).bind fun j50 => ite2 (j50) (some (.inr ())) (laws_FnKeys_l4 K v4 x16 k (IntKind.i64.wrap (x39 + (1 : Int))))))) (some (.inl ()))

def laws_FnKeys_l7 (K : Nat) (v4 : (Clip)) (v100 : (Clip × Bool)) : Nat → Int → Option (Bool)
 | 0, _ => none
 | k + 1, x111 => ite2 ((decide (x111 < (v100.1.Tracks.length : Int)))) (chk (0 ≤ x111 ∧ x111 < (v100.1.Tracks.length : Int)) (chk (0 ≤ x111 ∧ x111 < (v4.Tracks.length : Int)) ((ite2 ((((v100.1.Tracks.getD x111.toNat default).length : Int) == (0 : Int))) (some true) (ite2 ((decide (((v100.1.Tracks.getD x111.toNat default).length : Int) > ((v4.Tracks.getD x111.toNat default).length : Int)))) (some true) (chk (0 ≤ (0 : Int) ∧ (0 : Int) < ((v100.1.Tracks.getD x111.toNat default).length : Int)) (chk (0 ≤ (0 : Int) ∧ (0 : Int) < ((v4.Tracks.getD x111.toNat default).length : Int)) (ite2 (((((v100.1.Tracks.getD x111.toNat default).getD ((0 : Int).toNat) default).At) != (((v4.Tracks.getD x111.toNat default).getD ((0 : Int).toNat) default).At))) (some true) (chk (0 ≤ (IntKind.i64.wrap (((v100.1.Tracks.getD x111.toNat default).length : Int) - (1 : Int))) ∧ (IntKind.i64.wrap (((v100.1.Tracks.getD x111.toNat default).length : Int) - (1 : Int))) < ((v100.1.Tracks.getD x111.toNat default).length : Int)) (chk (0 ≤ (IntKind.i64.wrap (((v4.Tracks.getD x111.toNat default).length : Int) - (1 : Int))) ∧ (IntKind.i64.wrap (((v4.Tracks.getD x111.toNat default).length : Int) - (1 : Int))) < ((v4.Tracks.getD x111.toNat default).length : Int)) (some ((((v100.1.Tracks.getD x111.toNat default).getD ((IntKind.i64.wrap (((v100.1.Tracks.getD x111.toNat default).length : Int) - (1 : Int))).toNat) default).At) != (((v4.Tracks.getD x111.toNat default).getD ((IntKind.i64.wrap (((v4.Tracks.getD x111.toNat default).length : Int) - (1 : Int))).toNat) default).At)))))))))).bind fun j122 => ite2 (j122) (some false) (laws_FnKeys_l7 K v4 v100 k (IntKind.i64.wrap (x111 + (1 : Int))))))) (some true)

def laws_FnKeys_l6 (K : Nat) (a1 : (List Int)) (v4 : (Clip)) (v65 : (Int)) (v67 : (Int)) (v73 : ((List Pose) × Bool)) : Nat → Int → Option (Bool)
 | 0, _ => none
 | k + 1, x85 => ite2 ((decide (x85 < (5 : Int)))) ((zx7 K v4 (IntKind.i64.wrap (v65 + (IntKind.i64.wrap (x85 * v67))))).bind fun v87 => (ite2 ((!v87.2)) (some true) (chk (0 ≤ x85 ∧ x85 < (v73.1.length : Int)) ((zvq K v87.1 (v73.1.getD x85.toNat default)).bind fun v91 => some (!v91)))).bind fun j93 => ite2 (j93) (some false) (laws_FnKeys_l6 K a1 v4 v65 v67 v73 k (IntKind.i64.wrap (x85 + (1 : Int))))) ((zj3 K v4 (Fl.mk (k := .f32) 3212836864 (by decide))).bind fun v96 => (laws_b10At K a1 (2 : Int) (16 : Int)).bind fun v98 => (zj3 K v4 ((Fl.ofInt .f32 v98).div (Fl.mk (k := .f32) 1107296256 (by decide)))).bind fun v100 => (ite2 ((!v96.2)) (some true) (ite2 ((!v100.2)) (some true) ((laws_b10Clips K v96.1 v4).bind fun v104 => ite2 ((!v104)) (some true) (some ((v100.1.Tracks.length : Int) != (v4.Tracks.length : Int)))))).bind fun j107 => ite2 (j107) (some false) (laws_FnKeys_l7 K v4 v100 K (0 : Int)))

def laws_FnKeys_l5 (K : Nat) (a1 : (List Int)) (v4 : (Clip)) : Nat → Int → Option (Bool)
 | 0, _ => none
 | k + 1, x54 => ite2 ((decide (x54 < (v4.Roots.length : Int)))) (chk (0 ≤ x54 ∧ x54 < (v4.Roots.length : Int)) ((zju K v4 ((v4.Roots.getD x54.toNat default).At)).bind fun v57 => (ite2 ((!v57.2)) (some true) ((zke K v57.1.Root ((v4.Roots.getD x54.toNat default).Place)).bind fun v60 => some (!v60))).bind fun j62 => ite2 (j62) (some false) (laws_FnKeys_l5 K a1 v4 k (IntKind.i64.wrap (x54 + (1 : Int)))))) ((laws_b10At K a1 (0 : Int) (60 : Int)).bind fun v65 => (laws_b10At K a1 (1 : Int) (9 : Int)).bind fun v67 => (zx7 K v4 v65).bind fun v69 => (zx7 K v4 (IntKind.i64.wrap (v65 + v4.Length))).bind fun v71 => (zkb K v4 v65 v67 (5 : Int)).bind fun v73 => (ite2 ((!v69.2)) (some true) (ite2 ((!v71.2)) (some true) (ite2 ((!v73.2)) (some true) ((zvq K v69.1 v71.1).bind fun v78 => ite2 ((!v78)) (some true) (some ((v73.1.length : Int) != (5 : Int))))))).bind fun j81 => ite2 (j81) (some false) (laws_FnKeys_l6 K a1 v4 v65 v67 v73 K (0 : Int)))

def laws_FnKeys_l3 (K : Nat) (a1 : (List Int)) (v4 : (Clip)) : Nat → Int → Option (Bool)
 | 0, _ => none
 | k + 1, x16 => ite2 ((decide (x16 < (v4.Tracks.length : Int)))) (chk (0 ≤ x16 ∧ x16 < (v4.Tracks.length : Int)) ((laws_FnKeys_l4 K v4 x16 K (0 : Int)).bind (fun z0 => sumC z0 (fun j36 => laws_FnKeys_l3 K a1 v4 k (IntKind.i64.wrap (x16 + (1 : Int)))) (fun j37 => some false)))) (laws_FnKeys_l5 K a1 v4 K (0 : Int))

def laws_FnKeys (K : Nat) (a0 : (List Int)) (a1 : (List Int)) : Option (Bool) :=
 (laws_b10Long K a0 a1).bind fun v1 => ite2 (v1) (some true) ((zk8 K a0).bind fun v4 => (zyk K v4).bind fun v6 => (ite2 ((!v6.2)) (some true) ((zw4 K v4).bind fun v9 => ite2 ((!v9)) (some true) (some ((v6.1.length : Int) == (0 : Int))))).bind fun j12 => ite2 (j12) (some false) (laws_FnKeys_l3 K a1 v4 K (0 : Int)))

theorem ok_laws_FnKeys (K : Nat) (a0 : (List Int)) (a1 : (List Int)) (o : (Bool)) (h : laws_FnKeys K a0 a1 = some o) : CallOK Tryz.prog 3 [.one (sl 1 (csI .u8) a0), .one (sl 1 (csI .u8) a1)] [.one (.bool o)] := by
 refine zqh Tryz.func3 rfl (by kernel_rfl) (Nat.le_of_ble_eq_true (by kernel_rfl)) ?_
 intro w0
 unfold laws_FnKeys at h
 refine AW.sC (Tt ∧ Tt) [] [0, 1] [] ⟨tr, tr⟩ ?_
 refine AW.seq ?_
 refine AW.seq ?_
 obtain ⟨v1, e2, h⟩ := zqb h
 let z26 := sl 1 (csI .u8) a1
 let z7 := vc z26
 let z33 := sl 1 (csI .u8) a0
 refine AW.tA ⟨[(0, (vc z33)), (1, z7), (35, (vB v1))], []⟩ (T2 ((((Eqc z33) ∧ (Eqc z26) ∧ Tt) ∧ CallOK Tryz.prog 4 [.one z33, .one z26] [.one (.bool v1)]) ∧ Tt)) [.no, .no, .call [.one z33, .one z26] [.one (.bool v1)] [[.view]]] [0, 1, 35] [] ⟨tr, tr, ⟨⟨rfl, rfl, tr⟩, ok_laws_b10Long K a0 a1 v1 e2⟩, tr⟩ ?_
 rcases zqc h with ⟨b3, h⟩ | ⟨b3, h⟩
 ·refine AW.cond_t rfl b3 ?_
  refine AW.sA ⟨[(4, (vB true))], []⟩ (Tt ∧ Tt) [] [4] [] ⟨tr, tr⟩ ?_
  refine AW.ret ?_
  refine zqm ?_
  replace h := zqd h
  subst h
  exact ⟨.inr rfl, zqe [(.one (.c (.bool true)))] (by kernel_rfl) ⟨⟨rfl, tr⟩, tr⟩ (of_decide_eq_true (by kernel_rfl))⟩
 ·refine AW.cond_f rfl b3 ?_
  refine AW.skip ?_
  refine zqa ?_
  refine AW.seq ?_
  obtain ⟨v4, e5, h⟩ := zqb h
  let z32 : List CT := [.agg (zqp v4)]
  refine AW.tC (Tt ∧ (((Eqc z33) ∧ Tt) ∧ CallOK Tryz.prog 5 [.one z33] z32) ∧ T2 Tt) [.no, .call [.one z33] z32 [[.view, .view, .lst 1, .lst 2]], .box 3] [1, 5] [1, 2, 3] ⟨tr, ⟨⟨rfl, tr⟩, ok_spec_B10Clip K a0 v4 e5⟩, tr, tr, tr⟩ ?_
  refine AW.seq ?_
  obtain ⟨v6, e7, h⟩ := zqb h
  let z1 := csL 5 zqo
  let z2 := xL 2 4 zqg v4.Roots
  let z3 := oL 4 zqg v4.Roots
  let z4 := xL 1 1 z1 v4.Tracks
  let z5 := oL 1 z1 v4.Tracks
  let z6 := (eI v4.Length) ∧ (eI v4.Kind) ∧ (Eqc (sl 1 z1 v4.Tracks)) ∧ (Eqc (sl 4 zqg v4.Roots)) ∧ Tt
  let z9 := cI v4.Length
  let z54 : List CT := [.one (sl 1 (csI .i64) v6.1), .one (.bool v6.2)]
  refine AW.tA ⟨[(1, z7), (5, (vp 3 0)), (6, (vL 4 1 (csI .i64) v6.1)), (7, (vB v6.2))], [(1, z5), (2, z3), (3, (.box [z9, (cI v4.Kind), z4, z2])), (4, (oL 1 (csI .i64) v6.1))]⟩ (Tt ∧ ((z6 ∧ Tt) ∧ CallOK Tryz.prog 6 z32 z54) ∧ Tt ∧ T4 Tt) [.no, .call z32 z54 [[.lst 4], [.view]]] [1, 5, 6, 7] [1, 2, 3, 4] ⟨tr, ⟨⟨⟨rfl, rfl, rfl, rfl, tr⟩, tr⟩, ok_impl_KeysOf K v4 v6 e7⟩, tr, tr, tr, tr, tr, tr⟩ ?_
  refine AW.seq ?_
  refine AW.seq ?_
  obtain ⟨j12, e13, h⟩ := zqb h
  refine AW.join1 (s2 := ⟨[(1, z7), (5, (vp 3 0)), (54, (vB j12))], [(1, z5), (2, z3), (3, (.box [z9, (cI v4.Kind), z4, z2]))]⟩) ?_ ?_
  ·rcases zqc e13 with ⟨b8, e13⟩ | ⟨b8, e13⟩
   ·replace e13 := zqd e13
    subst e13
    exact AW.rA ⟨[(1, z7), (5, (vp 3 0)), (54, (vB true))], [(1, z5), (2, z3), (3, (.box [z9, (cI v4.Kind), z4, z2]))]⟩ (T2 ((Tt ∧ (!v6.2) = true) ∧ Tt ∧ T4 (T4 Tt))) [.no, .no, .dec true] [1, 5, 54] [1, 2, 3] ⟨tr, tr, ⟨tr, b8⟩, tr, tr, tr, tr, tr, tr, tr, tr, tr, tr⟩ ⟨rfl, rfl⟩
   ·obtain ⟨v9, e10, e13⟩ := zqb e13
    rcases zqc e13 with ⟨b11, e13⟩ | ⟨b11, e13⟩
    ·replace e13 := zqd e13
     subst e13
     exact AW.rA ⟨[(1, z7), (5, (vp 3 0)), (54, (vB true))], [(1, z5), (2, z3), (3, (.box [z9, (cI v4.Kind), z4, z2]))]⟩ (T2 ((Tt ∧ (!v6.2) = false) ∧ Tt ∧ ((z6 ∧ Tt) ∧ CallOK Tryz.prog 7 z32 [.one (.bool v9)]) ∧ T2 ((Tt ∧ (!v9) = true) ∧ T4 Tt))) [.no, .no, .dec false, .no, .call z32 [.one (.bool v9)] [[.view]], .no, .no, .dec true] [1, 5, 54] [1, 2, 3] ⟨tr, tr, ⟨tr, b8⟩, tr, ⟨⟨⟨rfl, rfl, rfl, rfl, tr⟩, tr⟩, zq0 K v4 v9 e10⟩, tr, tr, ⟨tr, b11⟩, tr, tr, tr, tr, tr⟩ ⟨rfl, rfl⟩
    ·replace e13 := zqd e13
     subst e13
     exact AW.rA ⟨[(1, z7), (5, (vp 3 0)), (54, (vB ((v6.1.length : Int) == (0 : Int))))], [(1, z5), (2, z3), (3, (.box [z9, (cI v4.Kind), z4, z2]))]⟩ (T2 ((Tt ∧ (!v6.2) = false) ∧ Tt ∧ ((z6 ∧ Tt) ∧ CallOK Tryz.prog 7 z32 [.one (.bool v9)]) ∧ T2 ((Tt ∧ (!v9) = false) ∧ T4 Tt))) [.no, .no, .dec false, .no, .call z32 [.one (.bool v9)] [[.view]], .no, .no, .dec false] [1, 5, 54] [1, 2, 3] ⟨tr, tr, ⟨tr, b8⟩, tr, ⟨⟨⟨rfl, rfl, rfl, rfl, tr⟩, tr⟩, zq0 K v4 v9 e10⟩, tr, tr, ⟨tr, b11⟩, tr, tr, tr, tr, tr⟩ ⟨rfl, rfl⟩
  refine zqa ?_
  rcases zqc h with ⟨b14, h⟩ | ⟨b14, h⟩
  ·refine AW.cond_t rfl b14 ?_
   refine AW.sA ⟨[(4, (vB false))], []⟩ (Tt ∧ Tt) [] [4] [] ⟨tr, tr⟩ ?_
   refine AW.ret ?_
   refine zqm ?_
   replace h := zqd h
   subst h
   exact ⟨.inr rfl, zqe [(.one (.c (.bool false)))] (by kernel_rfl) ⟨⟨rfl, tr⟩, tr⟩ (of_decide_eq_true (by kernel_rfl))⟩
  ·refine AW.cond_f rfl b14 ?_
   refine AW.skip ?_
   refine zqa ?_
   refine AW.seq ?_
   let z10 := (v4.Tracks.length : Int)
   let z50 := vI (0 : Int)
   refine AW.sA ⟨[(1, z7), (5, (vp 3 0)), (57, (vI z10)), (58, z50)], [(1, z5), (2, z3), (3, (.box [z9, (cI v4.Kind), z4, z2]))]⟩ (T4 Tt) [] [1, 5, 57, 58] [1, 2, 3] ⟨tr, tr, tr, tr, tr⟩ ?_
   refine AW.block ?_
   refine AW.loopQ (σ := Nat × Int) (fun p => ⟨[(1, z7), (5, (vp 3 0)), (57, (vI z10)), (58, (vI p.2))], [(1, z5), (2, z3), (3, (.box [z9, (cI v4.Kind), z4, z2]))]⟩) (fun p => laws_FnKeys_l3 K a1 v4 p.1 p.2 = some o) (fun p => p.1) (K, (0 : Int)) h ?_
   clear h
   rintro ⟨k, x16⟩ h
   replace h : laws_FnKeys_l3 K a1 v4 k x16 = some o := h
   show AW _ _ (⟨[(1, z7), (5, (vp 3 0)), (57, (vI z10)), (58, (vI x16))], [(1, z5), (2, z3), (3, (.box [z9, (cI v4.Kind), z4, z2]))]⟩ : St) _
   obtain _ | k := k
   ·rw [laws_FnKeys_l3] at h; cases h
   rw [laws_FnKeys_l3] at h
   refine AW.sA ⟨[(1, z7), (5, (vp 3 0)), (57, (vI z10)), (58, (vI x16)), (59, (vB (decide (x16 < z10))))], [(1, z5), (2, z3), (3, (.box [z9, (cI v4.Kind), z4, z2]))]⟩ (Tt ∧ Tt) [] [1, 5, 57, 58, 59] [1, 2, 3] ⟨tr, tr⟩ ?_
   refine AW.seq ?_
   rcases zqc h with ⟨b17, h⟩ | ⟨b17, h⟩
   ·refine AW.cond_t rfl b17 ?_
    refine AW.skip ?_
    refine zqa ?_
    refine AW.seq ?_
    refine AW.block ?_
    refine AW.sC (T2 Tt) [] [1, 5, 8, 57, 58] [1, 2, 3] ⟨tr, tr, tr⟩ ?_
    refine AW.seq ?_
    obtain ⟨c18, h⟩ := zqn h
    let z8 := v4.Tracks.getD x16.toNat default
    let z24 := vI (z8.length : Int)
    let z55 := 0 ≤ x16 ∧ x16 < z10
    refine AW.tA ⟨[(1, z7), (5, (vp 3 0)), (8, (vI x16)), (57, (vI z10)), (58, (vI x16)), (66, z24), (67, z50)], [(1, z5), (2, z3), (3, (.box [z9, (cI v4.Kind), z4, z2]))]⟩ (Tt ∧ T2 (z55 ∧ Tt ∧ T2 Tt)) [] [1, 5, 8, 57, 58, 66, 67] [1, 2, 3] ⟨tr, tr, tr, c18, tr, tr, tr, tr⟩ ?_
    obtain ⟨j35, e34, h⟩ := zqb h
    refine AW.joinM (cx := ?cx) ((fun z0 => sumQ z0 (fun j36 => OnlyE ?cx .normal ⟨[(1, z7), (5, (vp 3 0)), (57, (vI z10)), (58, (vI x16))], [(1, z5), (2, z3), (3, (.box [z9, (cI v4.Kind), z4, z2]))]⟩) (fun j37 => OnlyE ?cx .ret ⟨[(4, (vB false))], []⟩)) j35) ?_ ?_
    ·replace h := e34
     refine AW.block ?_
     refine AW.loopQ (σ := Nat × Int) (fun p => ⟨[(1, z7), (5, (vp 3 0)), (8, (vI x16)), (57, (vI z10)), (58, (vI x16)), (66, z24), (67, (vI p.2))], [(1, z5), (2, z3), (3, (.box [z9, (cI v4.Kind), z4, z2]))]⟩) (fun p => laws_FnKeys_l4 K v4 x16 p.1 p.2 = some j35) (fun p => p.1) (K, (0 : Int)) h ?_
     clear h
     rintro ⟨k, x39⟩ h
     replace h : laws_FnKeys_l4 K v4 x16 k x39 = some j35 := h
     show AW _ _ (⟨[(1, z7), (5, (vp 3 0)), (8, (vI x16)), (57, (vI z10)), (58, (vI x16)), (66, z24), (67, (vI x39))], [(1, z5), (2, z3), (3, (.box [z9, (cI v4.Kind), z4, z2]))]⟩ : St) _
     obtain _ | k := k
     ·rw [laws_FnKeys_l4] at h; cases h
     rw [laws_FnKeys_l4] at h
     refine AW.sA ⟨[(1, z7), (5, (vp 3 0)), (8, (vI x16)), (57, (vI z10)), (58, (vI x16)), (66, z24), (67, (vI x39)), (68, (vB (decide (x39 < (z8.length : Int)))))], [(1, z5), (2, z3), (3, (.box [z9, (cI v4.Kind), z4, z2]))]⟩ (Tt ∧ Tt) [] [1, 5, 8, 57, 58, 66, 67, 68] [1, 2, 3] ⟨tr, tr⟩ ?_
     refine AW.seq ?_
     rcases zqc h with ⟨b40, h⟩ | ⟨b40, h⟩
     ·refine AW.cond_t rfl b40 ?_
      refine AW.skip ?_
      refine zqa ?_
      refine AW.seq ?_
      refine AW.block ?_
      refine AW.sA ⟨[(1, z7), (5, (vp 3 0)), (8, (vI x16)), (9, (vI x39)), (57, (vI z10)), (58, (vI x16)), (66, z24), (67, (vI x39))], [(1, z5), (2, z3), (3, (.box [z9, (cI v4.Kind), z4, z2]))]⟩ (T2 Tt) [] [1, 5, 8, 9, 57, 58, 66, 67] [1, 2, 3] ⟨tr, tr, tr⟩ ?_
      refine AW.seq ?_
      obtain ⟨c41, h⟩ := zqn h
      obtain ⟨c42, h⟩ := zqn h
      obtain ⟨v43, e44, h⟩ := zqb h
      let z23 := z8.getD x39.toNat default
      let z48 := xL 21 4 zqi v43.1.Turns
      let z52 := oL 4 zqi v43.1.Turns
      refine AW.lateA (by kernel_rfl) 15 13 [.no, .no, .no, .no, .no, .no, .no, .no, .no, .no, .call [.agg (zqp v4), .one (.int .i64 (z23.At))] [.agg (zwi v43.1), .one (.bool v43.2)] [[.view, .view, .view, .lst 21], [.view]], .no, .no, .no, .box 22] [1, 5, 8, 9, 10, 11, 57, 58, 66, 67] [1, 2, 3, 21, 22] (s' := ⟨[(1, z7), (5, (vp 3 0)), (8, (vI x16)), (9, (vI x39)), (10, (vp 22 0)), (11, (vB v43.2)), (57, (vI z10)), (58, (vI x16)), (66, z24), (67, (vI x39))], [(1, z5), (2, z3), (3, (.box [z9, (cI v4.Kind), z4, z2])), (21, z52), (22, (.box [(cF v43.1.Root.X), (cF v43.1.Root.Y), (cF v43.1.Root.Z), z48]))]⟩) (ob := (T4 (z55 ∧ T2 ((0 ≤ x39 ∧ x39 < (z8.length : Int)) ∧ T2 (((z6 ∧ (eI (z23.At)) ∧ Tt) ∧ CallOK Tryz.prog 8 [.agg (zqp v4), .one (.int .i64 (z23.At))] [.agg (zwi v43.1), .one (.bool v43.2)]) ∧ T4 Tt)))) ∧ (T2 Tt) ∧ (Tt ∧ T2 Tt) ∧ ((⟨[(1, z7), (5, (vp 3 0)), (8, (vI x16)), (9, (vI x39)), (10, (vp 22 0)), (11, (vB v43.2)), (57, (vI z10)), (58, (vI x16)), (66, z24), (67, (vI x39))], [(1, z5), (2, z3), (3, (.box [z9, (cI v4.Kind), z4, z2])), (21, z52), (22, (.box [(cF v43.1.Root.X), (cF v43.1.Root.Y), (cF v43.1.Root.Z), z48]))]⟩ : St) = ⟨[(1, z7), (5, (vp 3 0)), (8, (vI x16)), (9, (vI x39)), (10, (vp 22 0)), (11, (vB v43.2)), (57, (vI z10)), (58, (vI x16)), (66, z24), (67, (vI x39))], [(1, z5), (2, z3), (3, (.box [z9, (cI v4.Kind), z4, z2])), (21, z52), (22, (.box [(cF v43.1.Root.X), (cF v43.1.Root.Y), (cF v43.1.Root.Z), z48]))]⟩)) (by kernel_rfl) ⟨⟨tr, tr, tr, tr, c41, tr, tr, c42, tr, tr, ⟨⟨⟨rfl, rfl, rfl, rfl, tr⟩, rfl, tr⟩, ok_impl_SampleClip K v4 (z23.At) v43 e44⟩, tr, tr, tr, tr, tr⟩, ⟨tr, tr, tr⟩, ⟨tr, tr, tr, tr⟩, rfl⟩ ?_
      refine zqa ?_
      refine AW.seq ?_
      obtain ⟨j50, e51, h⟩ := zqb h
      refine AW.join1 (s2 := ⟨[(1, z7), (5, (vp 3 0)), (8, (vI x16)), (57, (vI z10)), (58, (vI x16)), (66, z24), (67, (vI x39)), (112, (vB j50))], [(1, z5), (2, z3), (3, (.box [z9, (cI v4.Kind), z4, z2]))]⟩) ?_ ?_
      ·rcases zqc e51 with ⟨b45, e51⟩ | ⟨b45, e51⟩
       ·replace e51 := zqd e51
        subst e51
        exact AW.dA ⟨[(1, z7), (5, (vp 3 0)), (8, (vI x16)), (57, (vI z10)), (58, (vI x16)), (66, z24), (67, (vI x39)), (112, (vB true))], [(1, z5), (2, z3), (3, (.box [z9, (cI v4.Kind), z4, z2]))]⟩ ((T2 ((Tt ∧ (!v43.2) = true) ∧ T2 (T4 (T4 (T4 (T4 (T4 (T4 Tt)))))))) ∧ (Tt)) 29 [.no, .no, .dec true] [1, 5, 8, 57, 58, 66, 67, 112] [1, 2, 3] ⟨⟨tr, tr, ⟨tr, b45⟩, tr, tr, tr, tr, tr, tr, tr, tr, tr, tr, tr, tr, tr, tr, tr, tr, tr, tr, tr, tr, tr, tr, tr, tr, tr, tr, tr⟩, tr⟩ ⟨rfl, rfl⟩
       ·rcases zqc e51 with ⟨b46, e51⟩ | ⟨b46, e51⟩
        ·replace e51 := zqd e51
         subst e51
         exact AW.dA ⟨[(1, z7), (5, (vp 3 0)), (8, (vI x16)), (57, (vI z10)), (58, (vI x16)), (66, z24), (67, (vI x39)), (112, (vB true))], [(1, z5), (2, z3), (3, (.box [z9, (cI v4.Kind), z4, z2]))]⟩ ((T2 ((Tt ∧ (!v43.2) = false) ∧ T4 (T4 ((Tt ∧ ((v43.1.Turns.length : Int) != z10) = true) ∧ Tt ∧ T4 (T4 (T4 (T4 Tt))))))) ∧ (Tt)) 29 [.no, .no, .dec false, .no, .no, .no, .no, .no, .no, .no, .no, .dec true] [1, 5, 8, 57, 58, 66, 67, 112] [1, 2, 3] ⟨⟨tr, tr, ⟨tr, b45⟩, tr, tr, tr, tr, tr, tr, tr, tr, ⟨tr, b46⟩, tr, tr, tr, tr, tr, tr, tr, tr, tr, tr, tr, tr, tr, tr, tr, tr, tr, tr⟩, tr⟩ ⟨rfl, rfl⟩
        ·obtain ⟨c47, e51⟩ := zqn e51
         obtain ⟨v48, e49, e51⟩ := zqb e51
         replace e51 := zqd e51
         subst e51
         let z28 := v43.1.Turns.getD x16.toNat default
         exact AW.dA ⟨[(1, z7), (5, (vp 3 0)), (8, (vI x16)), (57, (vI z10)), (58, (vI x16)), (66, z24), (67, (vI x39)), (112, (vB (!v48)))], [(1, z5), (2, z3), (3, (.box [z9, (cI v4.Kind), z4, z2]))]⟩ ((T2 ((Tt ∧ (!v43.2) = false) ∧ T4 (T4 ((Tt ∧ ((v43.1.Turns.length : Int) != z10) = false) ∧ Tt ∧ T2 ((0 ≤ x16 ∧ x16 < (v43.1.Turns.length : Int)) ∧ T4 (z55 ∧ T2 ((0 ≤ x39 ∧ x39 < (z8.length : Int)) ∧ T2 (((((eF (z28.W)) ∧ (eF (z28.X)) ∧ (eF (z28.Y)) ∧ (eF (z28.Z)) ∧ Tt) ∧ ((eF ((z23.Turn).W)) ∧ (eF ((z23.Turn).X)) ∧ (eF ((z23.Turn).Y)) ∧ (eF ((z23.Turn).Z)) ∧ Tt) ∧ Tt) ∧ CallOK Tryz.prog 9 [.agg (zqi z28), .agg (zqi (z23.Turn))] [.one (.bool v48)]) ∧ T2 Tt)))))))) ∧ (Tt)) 29 [.no, .no, .dec false, .no, .no, .no, .no, .no, .no, .no, .no, .dec false, .no, .no, .no, .no, .no, .no, .no, .no, .no, .no, .no, .no, .no, .no, .call [.agg (zqi z28), .agg (zqi (z23.Turn))] [.one (.bool v48)] [[.view]]] [1, 5, 8, 57, 58, 66, 67, 112] [1, 2, 3] ⟨⟨tr, tr, ⟨tr, b45⟩, tr, tr, tr, tr, tr, tr, tr, tr, ⟨tr, b46⟩, tr, tr, tr, c47, tr, tr, tr, tr, c41, tr, tr, c42, tr, tr, ⟨⟨⟨rfl, rfl, rfl, rfl, tr⟩, ⟨rfl, rfl, rfl, rfl, tr⟩, tr⟩, ok_spec_SameTurn K z28 (z23.Turn) v48 e49⟩, tr, tr, tr⟩, tr⟩ ⟨rfl, rfl⟩
      refine zqa ?_
      rcases zqc h with ⟨b52, h⟩ | ⟨b52, h⟩
      ·refine AW.cond_t rfl b52 ?_
       refine AW.sA ⟨[(4, (vB false))], []⟩ (Tt ∧ Tt) [] [4] [] ⟨tr, tr⟩ ?_
       refine AW.ret ?_
       refine zqz ?_
       refine zqm ?_
       refine zjs ?_
       refine zqz ?_
       replace h := zqd h
       subst h
       exact ⟨rfl, Sub.keep [4] [] (by kernel_rfl) (by kernel_rfl)⟩
      ·refine AW.cond_f rfl b52 ?_
       refine AW.skip ?_
       refine zqr ?_
       refine zqa ?_
       refine AW.rA ⟨[(1, z7), (5, (vp 3 0)), (8, (vI x16)), (57, (vI z10)), (58, (vI x16)), (66, z24), (67, (vI (IntKind.i64.wrap (x39 + (1 : Int)))))], [(1, z5), (2, z3), (3, (.box [z9, (cI v4.Kind), z4, z2]))]⟩ (T2 Tt) [] [1, 5, 8, 57, 58, 66, 67] [1, 2, 3] ⟨tr, tr, tr⟩ ?_
       exact zqu (k, (IntKind.i64.wrap (x39 + (1 : Int)))) h (Nat.lt_succ_self k) (Sub.keep [1, 5, 8, 57, 58, 66, 67] [1, 2, 3] (by kernel_rfl) (by kernel_rfl))
     ·refine AW.cond_f rfl b40 ?_
      refine AW.exit ?_
      refine zwc ?_
      refine zwd ?_
      refine zq4 ?_
      replace h := zqd h
      subst h
      exact ⟨rfl, Sub.keep [1, 5, 57, 58] [1, 2, 3] (by kernel_rfl) (by kernel_rfl)⟩
    clear e34
    intro ex1 st1 hq
    obtain j36 | j37 := j35
    ·replace h := sumC_inl h
     obtain ⟨he, hs⟩ := hq
     subst he
     refine ⟨⟨[(1, z7), (5, (vp 3 0)), (57, (vI z10)), (58, (vI x16))], [(1, z5), (2, z3), (3, (.box [z9, (cI v4.Kind), z4, z2]))]⟩, hs, ?_⟩
     clear hs st1
     refine zqr ?_
     refine zqa ?_
     let z59 := IntKind.i64.wrap (x16 + (1 : Int))
     refine AW.rA ⟨[(1, z7), (5, (vp 3 0)), (57, (vI z10)), (58, (vI z59))], [(1, z5), (2, z3), (3, (.box [z9, (cI v4.Kind), z4, z2]))]⟩ (T2 Tt) [] [1, 5, 57, 58] [1, 2, 3] ⟨tr, tr, tr⟩ ?_
     exact zqu (k, z59) h (Nat.lt_succ_self k) (Sub.keep [1, 5, 57, 58] [1, 2, 3] (by kernel_rfl) (by kernel_rfl))
    ·replace h := sumC_inr h
     obtain ⟨he, hs⟩ := hq
     subst he
     refine ⟨⟨[(4, (vB false))], []⟩, hs, ?_⟩
     clear hs st1
     refine zqz ?_
     refine zqm ?_
     refine zjs ?_
     refine zqz ?_
     refine zqm ?_
     replace h := zqd h
     subst h
     exact ⟨.inr rfl, zqe [(.one (.c (.bool false)))] (by kernel_rfl) ⟨⟨rfl, tr⟩, tr⟩ (of_decide_eq_true (by kernel_rfl))⟩
   ·refine AW.cond_f rfl b17 ?_
    refine AW.exit ?_
    refine zwc ?_
    refine zwd ?_
    refine zq4 ?_
    refine zqa ?_
    refine AW.seq ?_
    let z19 := vI (v4.Roots.length : Int)
    refine AW.sA ⟨[(1, z7), (5, (vp 3 0)), (117, z19), (118, z50)], [(1, z5), (2, z3), (3, (.box [z9, (cI v4.Kind), z4, z2]))]⟩ (T4 Tt) [] [1, 5, 117, 118] [1, 2, 3] ⟨tr, tr, tr, tr, tr⟩ ?_
    refine AW.block ?_
    refine AW.loopQ (σ := Nat × Int) (fun p => ⟨[(1, z7), (5, (vp 3 0)), (117, z19), (118, (vI p.2))], [(1, z5), (2, z3), (3, (.box [z9, (cI v4.Kind), z4, z2]))]⟩) (fun p => laws_FnKeys_l5 K a1 v4 p.1 p.2 = some o) (fun p => p.1) (K, (0 : Int)) h ?_
    clear h
    rintro ⟨k, x54⟩ h
    replace h : laws_FnKeys_l5 K a1 v4 k x54 = some o := h
    show AW _ _ (⟨[(1, z7), (5, (vp 3 0)), (117, z19), (118, (vI x54))], [(1, z5), (2, z3), (3, (.box [z9, (cI v4.Kind), z4, z2]))]⟩ : St) _
    obtain _ | k := k
    ·rw [laws_FnKeys_l5] at h; cases h
    rw [laws_FnKeys_l5] at h
    refine AW.sA ⟨[(1, z7), (5, (vp 3 0)), (117, z19), (118, (vI x54)), (119, (vB (decide (x54 < (v4.Roots.length : Int)))))], [(1, z5), (2, z3), (3, (.box [z9, (cI v4.Kind), z4, z2]))]⟩ (Tt ∧ Tt) [] [1, 5, 117, 118, 119] [1, 2, 3] ⟨tr, tr⟩ ?_
    refine AW.seq ?_
    rcases zqc h with ⟨b55, h⟩ | ⟨b55, h⟩
    ·refine AW.cond_t rfl b55 ?_
     refine AW.skip ?_
     refine zqa ?_
     refine AW.seq ?_
     refine AW.block ?_
     refine AW.sA ⟨[(1, z7), (5, (vp 3 0)), (12, (vI x54)), (117, z19), (118, (vI x54))], [(1, z5), (2, z3), (3, (.box [z9, (cI v4.Kind), z4, z2]))]⟩ (T2 Tt) [] [1, 5, 12, 117, 118] [1, 2, 3] ⟨tr, tr, tr⟩ ?_
     refine AW.seq ?_
     obtain ⟨c56, h⟩ := zqn h
     obtain ⟨v57, e58, h⟩ := zqb h
     let z20 := v4.Roots.getD x54.toNat default
     let z47 := xL 27 4 zqi v57.1.Turns
     let z51 := oL 4 zqi v57.1.Turns
     let z56 := 0 ≤ x54 ∧ x54 < (v4.Roots.length : Int)
     let z60 : List CT := [.agg (zqp v4), .one (.int .i64 (z20.At))]
     refine AW.lateA (by kernel_rfl) 12 10 [.no, .no, .no, .no, .no, .no, .no, .call z60 [.agg (zwi v57.1), .one (.bool v57.2)] [[.view, .view, .view, .lst 27], [.view]], .no, .no, .no, .box 28] [1, 5, 12, 13, 14, 117, 118] [1, 2, 3, 27, 28] (s' := ⟨[(1, z7), (5, (vp 3 0)), (12, (vI x54)), (13, (vp 28 0)), (14, (vB v57.2)), (117, z19), (118, (vI x54))], [(1, z5), (2, z3), (3, (.box [z9, (cI v4.Kind), z4, z2])), (27, z51), (28, (.box [(cF v57.1.Root.X), (cF v57.1.Root.Y), (cF v57.1.Root.Z), z47]))]⟩) (ob := (T4 (z56 ∧ T2 (((z6 ∧ (eI (z20.At)) ∧ Tt) ∧ CallOK Tryz.prog 8 z60 [.agg (zwi v57.1), .one (.bool v57.2)]) ∧ T4 Tt))) ∧ (T2 Tt) ∧ (Tt ∧ T2 Tt) ∧ ((⟨[(1, z7), (5, (vp 3 0)), (12, (vI x54)), (13, (vp 28 0)), (14, (vB v57.2)), (117, z19), (118, (vI x54))], [(1, z5), (2, z3), (3, (.box [z9, (cI v4.Kind), z4, z2])), (27, z51), (28, (.box [(cF v57.1.Root.X), (cF v57.1.Root.Y), (cF v57.1.Root.Z), z47]))]⟩ : St) = ⟨[(1, z7), (5, (vp 3 0)), (12, (vI x54)), (13, (vp 28 0)), (14, (vB v57.2)), (117, z19), (118, (vI x54))], [(1, z5), (2, z3), (3, (.box [z9, (cI v4.Kind), z4, z2])), (27, z51), (28, (.box [(cF v57.1.Root.X), (cF v57.1.Root.Y), (cF v57.1.Root.Z), z47]))]⟩)) (by kernel_rfl) ⟨⟨tr, tr, tr, tr, c56, tr, tr, ⟨⟨⟨rfl, rfl, rfl, rfl, tr⟩, rfl, tr⟩, ok_impl_SampleClip K v4 (z20.At) v57 e58⟩, tr, tr, tr, tr, tr⟩, ⟨tr, tr, tr⟩, ⟨tr, tr, tr, tr⟩, rfl⟩ ?_
     refine zqa ?_
     refine AW.seq ?_
     obtain ⟨j62, e63, h⟩ := zqb h
     refine AW.join1 (s2 := ⟨[(1, z7), (5, (vp 3 0)), (117, z19), (118, (vI x54)), (145, (vB j62))], [(1, z5), (2, z3), (3, (.box [z9, (cI v4.Kind), z4, z2]))]⟩) ?_ ?_
     ·rcases zqc e63 with ⟨b59, e63⟩ | ⟨b59, e63⟩
      ·replace e63 := zqd e63
       subst e63
       exact AW.dA ⟨[(1, z7), (5, (vp 3 0)), (117, z19), (118, (vI x54)), (145, (vB true))], [(1, z5), (2, z3), (3, (.box [z9, (cI v4.Kind), z4, z2]))]⟩ ((T2 ((Tt ∧ (!v57.2) = true) ∧ Tt ∧ T2 (T4 (T4 Tt)))) ∧ (Tt)) 14 [.no, .no, .dec true] [1, 5, 117, 118, 145] [1, 2, 3] ⟨⟨tr, tr, ⟨tr, b59⟩, tr, tr, tr, tr, tr, tr, tr, tr, tr, tr, tr, tr⟩, tr⟩ ⟨rfl, rfl⟩
      ·obtain ⟨v60, e61, e63⟩ := zqb e63
       replace e63 := zqd e63
       subst e63
       let z53 : List CT := [.agg (zqs v57.1.Root), .agg (zqs (z20.Place))]
       exact AW.dA ⟨[(1, z7), (5, (vp 3 0)), (117, z19), (118, (vI x54)), (145, (vB (!v60)))], [(1, z5), (2, z3), (3, (.box [z9, (cI v4.Kind), z4, z2]))]⟩ ((T2 ((Tt ∧ (!v57.2) = false) ∧ Tt ∧ T4 (z56 ∧ T2 (((((eF v57.1.Root.X) ∧ (eF v57.1.Root.Y) ∧ (eF v57.1.Root.Z) ∧ Tt) ∧ ((eF ((z20.Place).X)) ∧ (eF ((z20.Place).Y)) ∧ (eF ((z20.Place).Z)) ∧ Tt) ∧ Tt) ∧ CallOK Tryz.prog 10 z53 [.one (.bool v60)]) ∧ T2 Tt)))) ∧ (Tt)) 14 [.no, .no, .dec false, .no, .no, .no, .no, .no, .no, .no, .no, .call z53 [.one (.bool v60)] [[.view]]] [1, 5, 117, 118, 145] [1, 2, 3] ⟨⟨tr, tr, ⟨tr, b59⟩, tr, tr, tr, tr, tr, c56, tr, tr, ⟨⟨⟨rfl, rfl, rfl, tr⟩, ⟨rfl, rfl, rfl, tr⟩, tr⟩, ok_spec_SameVector K v57.1.Root (z20.Place) v60 e61⟩, tr, tr, tr⟩, tr⟩ ⟨rfl, rfl⟩
     refine zqa ?_
     rcases zqc h with ⟨b64, h⟩ | ⟨b64, h⟩
     ·refine AW.cond_t rfl b64 ?_
      refine AW.sA ⟨[(4, (vB false))], []⟩ (Tt ∧ Tt) [] [4] [] ⟨tr, tr⟩ ?_
      refine AW.ret ?_
      refine zqz ?_
      refine zqm ?_
      refine zjs ?_
      refine zqz ?_
      refine zqm ?_
      replace h := zqd h
      subst h
      exact ⟨.inr rfl, zqe [(.one (.c (.bool false)))] (by kernel_rfl) ⟨⟨rfl, tr⟩, tr⟩ (of_decide_eq_true (by kernel_rfl))⟩
     ·refine AW.cond_f rfl b64 ?_
      refine AW.skip ?_
      refine zqr ?_
      refine zqa ?_
      refine AW.rA ⟨[(1, z7), (5, (vp 3 0)), (117, z19), (118, (vI (IntKind.i64.wrap (x54 + (1 : Int)))))], [(1, z5), (2, z3), (3, (.box [z9, (cI v4.Kind), z4, z2]))]⟩ (T2 Tt) [] [1, 5, 117, 118] [1, 2, 3] ⟨tr, tr, tr⟩ ?_
      exact zqu (k, (IntKind.i64.wrap (x54 + (1 : Int)))) h (Nat.lt_succ_self k) (Sub.keep [1, 5, 117, 118] [1, 2, 3] (by kernel_rfl) (by kernel_rfl))
    ·refine AW.cond_f rfl b55 ?_
     refine AW.exit ?_
     refine zwc ?_
     refine zwd ?_
     refine zq4 ?_
     refine zqa ?_
     refine AW.seq ?_
     obtain ⟨v65, e66, h⟩ := zqb h
     let z44 : List CT := [.one z26, .one (.int .i64 (0 : Int)), .one (.int .i64 (60 : Int))]
     refine AW.tC (Tt ∧ (((Eqc z26) ∧ (eI (0 : Int)) ∧ (eI (60 : Int)) ∧ Tt) ∧ CallOK Tryz.prog 11 z44 [.one (.int .i64 v65)]) ∧ Tt ∧ Tt) [.no, .call z44 [.one (.int .i64 v65)] [[.view]]] [1, 5, 15] [1, 2, 3] ⟨tr, ⟨⟨rfl, rfl, rfl, tr⟩, zbc K a1 (0 : Int) (60 : Int) v65 e66⟩, tr, tr⟩ ?_
     refine AW.seq ?_
     obtain ⟨v67, e68, h⟩ := zqb h
     let z45 : List CT := [.one z26, .one (.int .i64 (1 : Int)), .one (.int .i64 (9 : Int))]
     refine AW.tC (Tt ∧ (((Eqc z26) ∧ (eI (1 : Int)) ∧ (eI (9 : Int)) ∧ Tt) ∧ CallOK Tryz.prog 11 z45 [.one (.int .i64 v67)]) ∧ Tt ∧ Tt) [.no, .call z45 [.one (.int .i64 v67)] [[.view]]] [1, 5, 15, 16] [1, 2, 3] ⟨tr, ⟨⟨rfl, rfl, rfl, tr⟩, zbc K a1 (1 : Int) (9 : Int) v67 e68⟩, tr, tr⟩ ?_
     refine AW.seq ?_
     obtain ⟨v69, e70, h⟩ := zqb h
     let z41 := zwi v69.1
     refine AW.tC (T2 (((z6 ∧ (eI v65) ∧ Tt) ∧ CallOK Tryz.prog 12 [.agg (zqp v4), .one (.int .i64 v65)] [.agg z41, .one (.bool v69.2)]) ∧ T2 (T4 Tt))) [.no, .no, .call [.agg (zqp v4), .one (.int .i64 v65)] [.agg z41, .one (.bool v69.2)] [[.view, .view, .view, .lst 29], [.view]], .no, .no, .no, .box 30] [1, 5, 15, 16, 17, 18] [1, 2, 3, 29, 30] ⟨tr, tr, ⟨⟨⟨rfl, rfl, rfl, rfl, tr⟩, rfl, tr⟩, zkj K v4 v65 v69 e70⟩, tr, tr, tr, tr, tr, tr, tr⟩ ?_
     refine AW.seq ?_
     obtain ⟨v71, e72, h⟩ := zqb h
     let z34 := IntKind.i64.wrap (v65 + v4.Length)
     let z42 := zwi v71.1
     refine AW.tC (Tt ∧ T4 (((z6 ∧ (eI z34) ∧ Tt) ∧ CallOK Tryz.prog 12 [.agg (zqp v4), .one (.int .i64 z34)] [.agg z42, .one (.bool v71.2)]) ∧ T2 (T4 Tt))) [.no, .no, .no, .no, .no, .call [.agg (zqp v4), .one (.int .i64 z34)] [.agg z42, .one (.bool v71.2)] [[.view, .view, .view, .lst 31], [.view]], .no, .no, .no, .box 32] [1, 5, 15, 16, 17, 18, 19, 20] [1, 2, 3, 29, 30, 31, 32] ⟨tr, tr, tr, tr, tr, ⟨⟨⟨rfl, rfl, rfl, rfl, tr⟩, rfl, tr⟩, zkj K v4 z34 v71 e72⟩, tr, tr, tr, tr, tr, tr, tr⟩ ?_
     refine AW.seq ?_
     obtain ⟨v73, e74, h⟩ := zqb h
     let z17 := vL 33 4 zwi v73.1
     let z22 := oL 4 zwi v73.1
     let z38 : List CT := [.agg (zqp v4), .one (.int .i64 v65), .one (.int .i64 v67), .one (.int .i64 (5 : Int))]
     let z58 : List CT := [.one (sl 4 zwi v73.1), .one (.bool v73.2)]
     refine AW.tA ⟨[(1, z7), (5, (vp 3 0)), (15, (vI v65)), (16, (vI v67)), (17, (vp 30 0)), (18, (vB v69.2)), (19, (vp 32 0)), (20, (vB v71.2)), (21, z17), (22, (vB v73.2))], [(1, z5), (2, z3), (3, (.box [z9, (cI v4.Kind), z4, z2])), (29, (oL 4 zqi v69.1.Turns)), (30, (.box [(cF v69.1.Root.X), (cF v69.1.Root.Y), (cF v69.1.Root.Z), (xL 29 4 zqi v69.1.Turns)])), (31, (oL 4 zqi v71.1.Turns)), (32, (.box [(cF v71.1.Root.X), (cF v71.1.Root.Y), (cF v71.1.Root.Z), (xL 31 4 zqi v71.1.Turns)])), (33, z22)]⟩ (Tt ∧ T2 (((z6 ∧ (eI v65) ∧ (eI v67) ∧ (eI (5 : Int)) ∧ Tt) ∧ CallOK Tryz.prog 13 z38 z58) ∧ Tt ∧ T4 Tt)) [.no, .no, .no, .call z38 z58 [[.lst 33], [.view]]] [1, 5, 15, 16, 17, 18, 19, 20, 21, 22] [1, 2, 3, 29, 30, 31, 32, 33] ⟨tr, tr, tr, ⟨⟨⟨rfl, rfl, rfl, rfl, tr⟩, rfl, rfl, rfl, tr⟩, ok_impl_PlayClip K v4 v65 v67 (5 : Int) v73 e74⟩, tr, tr, tr, tr, tr, tr⟩ ?_
     refine AW.seq ?_
     refine AW.seq ?_
     obtain ⟨j81, e82, h⟩ := zqb h
     refine AW.join1 (s2 := ⟨[(1, z7), (5, (vp 3 0)), (15, (vI v65)), (16, (vI v67)), (21, z17), (193, (vB j81))], [(1, z5), (2, z3), (3, (.box [z9, (cI v4.Kind), z4, z2])), (33, z22)]⟩) ?_ ?_
     ·rcases zqc e82 with ⟨b75, e82⟩ | ⟨b75, e82⟩
      ·replace e82 := zqd e82
       subst e82
       exact AW.rA ⟨[(1, z7), (5, (vp 3 0)), (15, (vI v65)), (16, (vI v67)), (21, z17), (193, (vB true))], [(1, z5), (2, z3), (3, (.box [z9, (cI v4.Kind), z4, z2])), (33, z22)]⟩ (T2 ((Tt ∧ (!v69.2) = true) ∧ T2 (T4 (T4 (T4 (T4 Tt)))))) [.no, .no, .dec true] [1, 5, 15, 16, 21, 193] [1, 2, 3, 33] ⟨tr, tr, ⟨tr, b75⟩, tr, tr, tr, tr, tr, tr, tr, tr, tr, tr, tr, tr, tr, tr, tr, tr, tr, tr, tr⟩ ⟨rfl, rfl⟩
      ·rcases zqc e82 with ⟨b76, e82⟩ | ⟨b76, e82⟩
       ·replace e82 := zqd e82
        subst e82
        exact AW.rA ⟨[(1, z7), (5, (vp 3 0)), (15, (vI v65)), (16, (vI v67)), (21, z17), (193, (vB true))], [(1, z5), (2, z3), (3, (.box [z9, (cI v4.Kind), z4, z2])), (33, z22)]⟩ (T2 ((Tt ∧ (!v69.2) = false) ∧ Tt ∧ T2 ((Tt ∧ (!v71.2) = true) ∧ T2 (T4 (T4 (T4 Tt)))))) [.no, .no, .dec false, .no, .no, .no, .dec true] [1, 5, 15, 16, 21, 193] [1, 2, 3, 33] ⟨tr, tr, ⟨tr, b75⟩, tr, tr, tr, ⟨tr, b76⟩, tr, tr, tr, tr, tr, tr, tr, tr, tr, tr, tr, tr, tr, tr, tr⟩ ⟨rfl, rfl⟩
       ·rcases zqc e82 with ⟨b77, e82⟩ | ⟨b77, e82⟩
        ·replace e82 := zqd e82
         subst e82
         exact AW.rA ⟨[(1, z7), (5, (vp 3 0)), (15, (vI v65)), (16, (vI v67)), (21, z17), (193, (vB true))], [(1, z5), (2, z3), (3, (.box [z9, (cI v4.Kind), z4, z2])), (33, z22)]⟩ (T2 ((Tt ∧ (!v69.2) = false) ∧ Tt ∧ T2 ((Tt ∧ (!v71.2) = false) ∧ Tt ∧ T2 ((Tt ∧ (!v73.2) = true) ∧ T2 (T4 (T4 Tt)))))) [.no, .no, .dec false, .no, .no, .no, .dec false, .no, .no, .no, .dec true] [1, 5, 15, 16, 21, 193] [1, 2, 3, 33] ⟨tr, tr, ⟨tr, b75⟩, tr, tr, tr, ⟨tr, b76⟩, tr, tr, tr, ⟨tr, b77⟩, tr, tr, tr, tr, tr, tr, tr, tr, tr, tr, tr⟩ ⟨rfl, rfl⟩
        ·obtain ⟨v78, e79, e82⟩ := zqb e82
         rcases zqc e82 with ⟨b80, e82⟩ | ⟨b80, e82⟩
         ·replace e82 := zqd e82
          subst e82
          exact AW.rA ⟨[(1, z7), (5, (vp 3 0)), (15, (vI v65)), (16, (vI v67)), (21, z17), (193, (vB true))], [(1, z5), (2, z3), (3, (.box [z9, (cI v4.Kind), z4, z2])), (33, z22)]⟩ (T2 ((Tt ∧ (!v69.2) = false) ∧ Tt ∧ T2 ((Tt ∧ (!v71.2) = false) ∧ Tt ∧ T2 ((Tt ∧ (!v73.2) = false) ∧ T2 (((((eF v69.1.Root.X) ∧ (eF v69.1.Root.Y) ∧ (eF v69.1.Root.Z) ∧ (Eqc (sl 4 zqi v69.1.Turns)) ∧ Tt) ∧ ((eF v71.1.Root.X) ∧ (eF v71.1.Root.Y) ∧ (eF v71.1.Root.Z) ∧ (Eqc (sl 4 zqi v71.1.Turns)) ∧ Tt) ∧ Tt) ∧ CallOK Tryz.prog 14 [.agg z41, .agg z42] [.one (.bool v78)]) ∧ T2 ((Tt ∧ (!v78) = true) ∧ T4 Tt)))))) [.no, .no, .dec false, .no, .no, .no, .dec false, .no, .no, .no, .dec false, .no, .no, .call [.agg z41, .agg z42] [.one (.bool v78)] [[.view]], .no, .no, .dec true] [1, 5, 15, 16, 21, 193] [1, 2, 3, 33] ⟨tr, tr, ⟨tr, b75⟩, tr, tr, tr, ⟨tr, b76⟩, tr, tr, tr, ⟨tr, b77⟩, tr, tr, ⟨⟨⟨rfl, rfl, rfl, rfl, tr⟩, ⟨rfl, rfl, rfl, rfl, tr⟩, tr⟩, zya K v69.1 v71.1 v78 e79⟩, tr, tr, ⟨tr, b80⟩, tr, tr, tr, tr, tr⟩ ⟨rfl, rfl⟩
         ·replace e82 := zqd e82
          subst e82
          exact AW.rA ⟨[(1, z7), (5, (vp 3 0)), (15, (vI v65)), (16, (vI v67)), (21, z17), (193, (vB ((v73.1.length : Int) != (5 : Int))))], [(1, z5), (2, z3), (3, (.box [z9, (cI v4.Kind), z4, z2])), (33, z22)]⟩ (T2 ((Tt ∧ (!v69.2) = false) ∧ Tt ∧ T2 ((Tt ∧ (!v71.2) = false) ∧ Tt ∧ T2 ((Tt ∧ (!v73.2) = false) ∧ T2 (((((eF v69.1.Root.X) ∧ (eF v69.1.Root.Y) ∧ (eF v69.1.Root.Z) ∧ (Eqc (sl 4 zqi v69.1.Turns)) ∧ Tt) ∧ ((eF v71.1.Root.X) ∧ (eF v71.1.Root.Y) ∧ (eF v71.1.Root.Z) ∧ (Eqc (sl 4 zqi v71.1.Turns)) ∧ Tt) ∧ Tt) ∧ CallOK Tryz.prog 14 [.agg z41, .agg z42] [.one (.bool v78)]) ∧ T2 ((Tt ∧ (!v78) = false) ∧ T4 Tt)))))) [.no, .no, .dec false, .no, .no, .no, .dec false, .no, .no, .no, .dec false, .no, .no, .call [.agg z41, .agg z42] [.one (.bool v78)] [[.view]], .no, .no, .dec false] [1, 5, 15, 16, 21, 193] [1, 2, 3, 33] ⟨tr, tr, ⟨tr, b75⟩, tr, tr, tr, ⟨tr, b76⟩, tr, tr, tr, ⟨tr, b77⟩, tr, tr, ⟨⟨⟨rfl, rfl, rfl, rfl, tr⟩, ⟨rfl, rfl, rfl, rfl, tr⟩, tr⟩, zya K v69.1 v71.1 v78 e79⟩, tr, tr, ⟨tr, b80⟩, tr, tr, tr, tr, tr⟩ ⟨rfl, rfl⟩
     refine zqa ?_
     rcases zqc h with ⟨b83, h⟩ | ⟨b83, h⟩
     ·refine AW.cond_t rfl b83 ?_
      refine AW.sA ⟨[(4, (vB false))], []⟩ (Tt ∧ Tt) [] [4] [] ⟨tr, tr⟩ ?_
      refine AW.ret ?_
      refine zqm ?_
      replace h := zqd h
      subst h
      exact ⟨.inr rfl, zqe [(.one (.c (.bool false)))] (by kernel_rfl) ⟨⟨rfl, tr⟩, tr⟩ (of_decide_eq_true (by kernel_rfl))⟩
     ·refine AW.cond_f rfl b83 ?_
      refine AW.skip ?_
      refine zqa ?_
      refine AW.seq ?_
      refine AW.sA ⟨[(1, z7), (5, (vp 3 0)), (15, (vI v65)), (16, (vI v67)), (21, z17), (23, z50)], [(1, z5), (2, z3), (3, (.box [z9, (cI v4.Kind), z4, z2])), (33, z22)]⟩ (Tt ∧ Tt) [] [1, 5, 15, 16, 21, 23] [1, 2, 3, 33] ⟨tr, tr⟩ ?_
      refine AW.block ?_
      refine AW.loopQ (σ := Nat × Int) (fun p => ⟨[(1, z7), (5, (vp 3 0)), (15, (vI v65)), (16, (vI v67)), (21, z17), (23, (vI p.2))], [(1, z5), (2, z3), (3, (.box [z9, (cI v4.Kind), z4, z2])), (33, z22)]⟩) (fun p => laws_FnKeys_l6 K a1 v4 v65 v67 v73 p.1 p.2 = some o) (fun p => p.1) (K, (0 : Int)) h ?_
      clear h
      rintro ⟨k, x85⟩ h
      replace h : laws_FnKeys_l6 K a1 v4 v65 v67 v73 k x85 = some o := h
      show AW _ _ (⟨[(1, z7), (5, (vp 3 0)), (15, (vI v65)), (16, (vI v67)), (21, z17), (23, (vI x85))], [(1, z5), (2, z3), (3, (.box [z9, (cI v4.Kind), z4, z2])), (33, z22)]⟩ : St) _
      obtain _ | k := k
      ·rw [laws_FnKeys_l6] at h; cases h
      rw [laws_FnKeys_l6] at h
      refine AW.seq ?_
      refine AW.sA ⟨[(1, z7), (5, (vp 3 0)), (15, (vI v65)), (16, (vI v67)), (21, z17), (23, (vI x85)), (195, (vB (decide (x85 < (5 : Int)))))], [(1, z5), (2, z3), (3, (.box [z9, (cI v4.Kind), z4, z2])), (33, z22)]⟩ (T2 Tt) [] [1, 5, 15, 16, 21, 23, 195] [1, 2, 3, 33] ⟨tr, tr, tr⟩ ?_
      rcases zqc h with ⟨b86, h⟩ | ⟨b86, h⟩
      ·refine AW.cond_t rfl b86 ?_
       refine AW.skip ?_
       refine zqa ?_
       refine AW.seq ?_
       refine AW.block ?_
       refine AW.seq ?_
       obtain ⟨v87, e88, h⟩ := zqb h
       let z29 := IntKind.i64.wrap (v65 + (IntKind.i64.wrap (x85 * v67)))
       refine AW.tA ⟨[(1, z7), (5, (vp 3 0)), (15, (vI v65)), (16, (vI v67)), (21, z17), (23, (vI x85)), (24, (vp 39 0)), (25, (vB v87.2))], [(1, z5), (2, z3), (3, (.box [z9, (cI v4.Kind), z4, z2])), (33, z22), (38, (oL 4 zqi v87.1.Turns)), (39, (.box [(cF v87.1.Root.X), (cF v87.1.Root.Y), (cF v87.1.Root.Z), (xL 38 4 zqi v87.1.Turns)]))]⟩ (T2 (T4 (((z6 ∧ (eI z29) ∧ Tt) ∧ CallOK Tryz.prog 12 [.agg (zqp v4), .one (.int .i64 z29)] [.agg (zwi v87.1), .one (.bool v87.2)]) ∧ T2 (T4 Tt)))) [.no, .no, .no, .no, .no, .no, .call [.agg (zqp v4), .one (.int .i64 z29)] [.agg (zwi v87.1), .one (.bool v87.2)] [[.view, .view, .view, .lst 38], [.view]], .no, .no, .no, .box 39] [1, 5, 15, 16, 21, 23, 24, 25] [1, 2, 3, 33, 38, 39] ⟨tr, tr, tr, tr, tr, tr, ⟨⟨⟨rfl, rfl, rfl, rfl, tr⟩, rfl, tr⟩, zkj K v4 z29 v87 e88⟩, tr, tr, tr, tr, tr, tr, tr⟩ ?_
       refine AW.seq ?_
       obtain ⟨j93, e94, h⟩ := zqb h
       refine AW.join1 (s2 := ⟨[(1, z7), (5, (vp 3 0)), (15, (vI v65)), (16, (vI v67)), (21, z17), (23, (vI x85)), (218, (vB j93))], [(1, z5), (2, z3), (3, (.box [z9, (cI v4.Kind), z4, z2])), (33, z22)]⟩) ?_ ?_
       ·rcases zqc e94 with ⟨b89, e94⟩ | ⟨b89, e94⟩
        ·replace e94 := zqd e94
         subst e94
         exact AW.dA ⟨[(1, z7), (5, (vp 3 0)), (15, (vI v65)), (16, (vI v67)), (21, z17), (23, (vI x85)), (218, (vB true))], [(1, z5), (2, z3), (3, (.box [z9, (cI v4.Kind), z4, z2])), (33, z22)]⟩ ((T2 ((Tt ∧ (!v87.2) = true) ∧ T4 (T4 Tt))) ∧ (Tt)) 11 [.no, .no, .dec true] [1, 5, 15, 16, 21, 23, 218] [1, 2, 3, 33] ⟨⟨tr, tr, ⟨tr, b89⟩, tr, tr, tr, tr, tr, tr, tr, tr, tr⟩, tr⟩ ⟨rfl, rfl⟩
        ·obtain ⟨c90, e94⟩ := zqn e94
         obtain ⟨v91, e92, e94⟩ := zqb e94
         replace e94 := zqd e94
         subst e94
         let z30 := v73.1.getD x85.toNat default
         exact AW.dA ⟨[(1, z7), (5, (vp 3 0)), (15, (vI v65)), (16, (vI v67)), (21, z17), (23, (vI x85)), (218, (vB (!v91)))], [(1, z5), (2, z3), (3, (.box [z9, (cI v4.Kind), z4, z2])), (33, z22)]⟩ ((T2 ((Tt ∧ (!v87.2) = false) ∧ Tt ∧ T2 ((0 ≤ x85 ∧ x85 < (v73.1.length : Int)) ∧ Tt ∧ ((((eF v87.1.Root.X) ∧ (eF v87.1.Root.Y) ∧ (eF v87.1.Root.Z) ∧ (Eqc (sl 4 zqi v87.1.Turns)) ∧ Tt) ∧ ((eF ((z30.Root).X)) ∧ (eF ((z30.Root).Y)) ∧ (eF ((z30.Root).Z)) ∧ (Eqc (sl 4 zqi (z30.Turns))) ∧ Tt) ∧ Tt) ∧ CallOK Tryz.prog 14 [.agg (zwi v87.1), .agg (zwi z30)] [.one (.bool v91)]) ∧ T2 Tt))) ∧ (Tt)) 11 [.no, .no, .dec false, .no, .no, .no, .no, .no, .call [.agg (zwi v87.1), .agg (zwi z30)] [.one (.bool v91)] [[.view]]] [1, 5, 15, 16, 21, 23, 218] [1, 2, 3, 33] ⟨⟨tr, tr, ⟨tr, b89⟩, tr, tr, tr, c90, tr, ⟨⟨⟨rfl, rfl, rfl, rfl, tr⟩, ⟨rfl, rfl, rfl, rfl, tr⟩, tr⟩, zya K v87.1 z30 v91 e92⟩, tr, tr, tr⟩, tr⟩ ⟨rfl, rfl⟩
       refine zqa ?_
       rcases zqc h with ⟨b95, h⟩ | ⟨b95, h⟩
       ·refine AW.cond_t rfl b95 ?_
        refine AW.sA ⟨[(4, (vB false))], []⟩ (Tt ∧ Tt) [] [4] [] ⟨tr, tr⟩ ?_
        refine AW.ret ?_
        refine zqz ?_
        refine zqm ?_
        refine zjs ?_
        refine zqz ?_
        refine zqm ?_
        replace h := zqd h
        subst h
        exact ⟨.inr rfl, zqe [(.one (.c (.bool false)))] (by kernel_rfl) ⟨⟨rfl, tr⟩, tr⟩ (of_decide_eq_true (by kernel_rfl))⟩
       ·refine AW.cond_f rfl b95 ?_
        refine AW.skip ?_
        refine zqr ?_
        refine zqa ?_
        refine AW.rA ⟨[(1, z7), (5, (vp 3 0)), (15, (vI v65)), (16, (vI v67)), (21, z17), (23, (vI (IntKind.i64.wrap (x85 + (1 : Int)))))], [(1, z5), (2, z3), (3, (.box [z9, (cI v4.Kind), z4, z2])), (33, z22)]⟩ (Tt ∧ T2 Tt) [] [1, 5, 15, 16, 21, 23] [1, 2, 3, 33] ⟨tr, tr, tr, tr⟩ ?_
        exact zqu (k, (IntKind.i64.wrap (x85 + (1 : Int)))) h (Nat.lt_succ_self k) (Sub.keep [1, 5, 15, 16, 21, 23] [1, 2, 3, 33] (by kernel_rfl) (by kernel_rfl))
      ·refine AW.cond_f rfl b86 ?_
       refine AW.exit ?_
       refine zwc ?_
       refine zwd ?_
       refine zq4 ?_
       refine zqa ?_
       refine AW.seq ?_
       obtain ⟨v96, e97, h⟩ := zqb h
       let z31 := Fl.mk (k := .f32) 3212836864 (by decide)
       let z35 := xL 41 4 zqg v96.1.Roots
       let z39 := oL 4 zqg v96.1.Roots
       let z40 := xL 40 1 z1 v96.1.Tracks
       let z43 := zqp v96.1
       let z46 := oL 1 z1 v96.1.Tracks
       let z57 := cI v96.1.Length
       refine AW.tA ⟨[(1, z7), (5, (vp 3 0)), (26, (vp 42 0)), (27, (vB v96.2))], [(1, z5), (2, z3), (3, (.box [z9, (cI v4.Kind), z4, z2])), (40, z46), (41, z39), (42, (.box [z57, (cI v96.1.Kind), z40, z35]))]⟩ (Tt ∧ ((z6 ∧ (eF z31) ∧ Tt) ∧ CallOK Tryz.prog 15 [.agg (zqp v4), .one (.flt .f32 z31.bits)] [.agg z43, .one (.bool v96.2)]) ∧ T2 (T4 Tt)) [.no, .call [.agg (zqp v4), .one (.flt .f32 z31.bits)] [.agg z43, .one (.bool v96.2)] [[.view, .view, .lst 40, .lst 41], [.view]], .no, .no, .no, .box 42] [1, 5, 26, 27] [1, 2, 3, 40, 41, 42] ⟨tr, ⟨⟨⟨rfl, rfl, rfl, rfl, tr⟩, rfl, tr⟩, ok_impl_ThinClip K v4 z31 v96 e97⟩, tr, tr, tr, tr, tr, tr, tr⟩ ?_
       refine AW.seq ?_
       obtain ⟨v98, e99, h⟩ := zqb h
       obtain ⟨v100, e101, h⟩ := zqb h
       let z12 := xL 44 4 zqg v100.1.Roots
       let z13 := oL 4 zqg v100.1.Roots
       let z14 := xL 43 1 z1 v100.1.Tracks
       let z16 := oL 1 z1 v100.1.Tracks
       let z21 := cI v100.1.Length
       let z25 := cI v100.1.Kind
       let z27 := (Fl.ofInt .f32 v98).div (Fl.mk (k := .f32) 1107296256 (by decide))
       let z49 : List CT := [.one z26, .one (.int .i64 (2 : Int)), .one (.int .i64 (16 : Int))]
       refine AW.lateA (by kernel_rfl) 10 8 [.no, .no, .call z49 [.one (.int .i64 v98)] [[.view]], .no, .no, .call [.agg (zqp v4), .one (.flt .f32 z27.bits)] [.agg (zqp v100.1), .one (.bool v100.2)] [[.view, .view, .lst 43, .lst 44], [.view]], .no, .no, .no, .box 45] [5, 26, 27, 28, 29] [1, 2, 3, 40, 41, 42, 43, 44, 45] (s' := ⟨[(5, (vp 3 0)), (26, (vp 42 0)), (27, (vB v96.2)), (28, (vp 45 0)), (29, (vB v100.2))], [(1, z5), (2, z3), (3, (.box [z9, (cI v4.Kind), z4, z2])), (40, z46), (41, z39), (42, (.box [z57, (cI v96.1.Kind), z40, z35])), (43, z16), (44, z13), (45, (.box [z21, z25, z14, z12]))]⟩) (ob := (T2 ((((Eqc z26) ∧ (eI (2 : Int)) ∧ (eI (16 : Int)) ∧ Tt) ∧ CallOK Tryz.prog 11 z49 [.one (.int .i64 v98)]) ∧ T2 (((z6 ∧ (eF z27) ∧ Tt) ∧ CallOK Tryz.prog 15 [.agg (zqp v4), .one (.flt .f32 z27.bits)] [.agg (zqp v100.1), .one (.bool v100.2)]) ∧ T4 Tt))) ∧ (T2 Tt) ∧ (Tt ∧ T2 Tt) ∧ ((⟨[(5, (vp 3 0)), (26, (vp 42 0)), (27, (vB v96.2)), (28, (vp 45 0)), (29, (vB v100.2))], [(1, z5), (2, z3), (3, (.box [z9, (cI v4.Kind), z4, z2])), (40, z46), (41, z39), (42, (.box [z57, (cI v96.1.Kind), z40, z35])), (43, z16), (44, z13), (45, (.box [z21, z25, z14, z12]))]⟩ : St) = ⟨[(5, (vp 3 0)), (26, (vp 42 0)), (27, (vB v96.2)), (28, (vp 45 0)), (29, (vB v100.2))], [(1, z5), (2, z3), (3, (.box [z9, (cI v4.Kind), z4, z2])), (40, z46), (41, z39), (42, (.box [z57, (cI v96.1.Kind), z40, z35])), (43, z16), (44, z13), (45, (.box [z21, z25, z14, z12]))]⟩)) (by kernel_rfl) ⟨⟨tr, tr, ⟨⟨rfl, rfl, rfl, tr⟩, zbc K a1 (2 : Int) (16 : Int) v98 e99⟩, tr, tr, ⟨⟨⟨rfl, rfl, rfl, rfl, tr⟩, rfl, tr⟩, ok_impl_ThinClip K v4 z27 v100 e101⟩, tr, tr, tr, tr, tr⟩, ⟨tr, tr, tr⟩, ⟨tr, tr, tr, tr⟩, rfl⟩ ?_
       refine zqa ?_
       refine AW.seq ?_
       refine AW.seq ?_
       obtain ⟨j107, e108, h⟩ := zqb h
       refine AW.join1 (s2 := ⟨[(5, (vp 3 0)), (28, (vp 45 0)), (253, (vB j107))], [(1, z5), (2, z3), (3, (.box [z9, (cI v4.Kind), z4, z2])), (43, z16), (44, z13), (45, (.box [z21, z25, z14, z12]))]⟩) ?_ ?_
       ·rcases zqc e108 with ⟨b102, e108⟩ | ⟨b102, e108⟩
        ·replace e108 := zqd e108
         subst e108
         exact AW.rA ⟨[(5, (vp 3 0)), (28, (vp 45 0)), (253, (vB true))], [(1, z5), (2, z3), (3, (.box [z9, (cI v4.Kind), z4, z2])), (43, z16), (44, z13), (45, (.box [z21, z25, z14, z12]))]⟩ (T2 ((Tt ∧ (!v96.2) = true) ∧ T2 (T4 (T4 (T4 (T4 Tt)))))) [.no, .no, .dec true] [5, 28, 253] [1, 2, 3, 43, 44, 45] ⟨tr, tr, ⟨tr, b102⟩, tr, tr, tr, tr, tr, tr, tr, tr, tr, tr, tr, tr, tr, tr, tr, tr, tr, tr, tr⟩ ⟨rfl, rfl⟩
        ·rcases zqc e108 with ⟨b103, e108⟩ | ⟨b103, e108⟩
         ·replace e108 := zqd e108
          subst e108
          exact AW.rA ⟨[(5, (vp 3 0)), (28, (vp 45 0)), (253, (vB true))], [(1, z5), (2, z3), (3, (.box [z9, (cI v4.Kind), z4, z2])), (43, z16), (44, z13), (45, (.box [z21, z25, z14, z12]))]⟩ (T2 ((Tt ∧ (!v96.2) = false) ∧ Tt ∧ T2 ((Tt ∧ (!v100.2) = true) ∧ T2 (T4 (T4 (T4 Tt)))))) [.no, .no, .dec false, .no, .no, .no, .dec true] [5, 28, 253] [1, 2, 3, 43, 44, 45] ⟨tr, tr, ⟨tr, b102⟩, tr, tr, tr, ⟨tr, b103⟩, tr, tr, tr, tr, tr, tr, tr, tr, tr, tr, tr, tr, tr, tr, tr⟩ ⟨rfl, rfl⟩
         ·obtain ⟨v104, e105, e108⟩ := zqb e108
          rcases zqc e108 with ⟨b106, e108⟩ | ⟨b106, e108⟩
          ·replace e108 := zqd e108
           subst e108
           exact AW.rA ⟨[(5, (vp 3 0)), (28, (vp 45 0)), (253, (vB true))], [(1, z5), (2, z3), (3, (.box [z9, (cI v4.Kind), z4, z2])), (43, z16), (44, z13), (45, (.box [z21, z25, z14, z12]))]⟩ (T2 ((Tt ∧ (!v96.2) = false) ∧ Tt ∧ T2 ((Tt ∧ (!v100.2) = false) ∧ T2 (((((eI v96.1.Length) ∧ (eI v96.1.Kind) ∧ (Eqc (sl 1 z1 v96.1.Tracks)) ∧ (Eqc (sl 4 zqg v96.1.Roots)) ∧ Tt) ∧ z6 ∧ Tt) ∧ CallOK Tryz.prog 16 [.agg z43, .agg (zqp v4)] [.one (.bool v104)]) ∧ T2 ((Tt ∧ (!v104) = true) ∧ T4 (T4 Tt)))))) [.no, .no, .dec false, .no, .no, .no, .dec false, .no, .no, .call [.agg z43, .agg (zqp v4)] [.one (.bool v104)] [[.view]], .no, .no, .dec true] [5, 28, 253] [1, 2, 3, 43, 44, 45] ⟨tr, tr, ⟨tr, b102⟩, tr, tr, tr, ⟨tr, b103⟩, tr, tr, ⟨⟨⟨rfl, rfl, rfl, rfl, tr⟩, ⟨rfl, rfl, rfl, rfl, tr⟩, tr⟩, ok_laws_b10Clips K v96.1 v4 v104 e105⟩, tr, tr, ⟨tr, b106⟩, tr, tr, tr, tr, tr, tr, tr, tr, tr⟩ ⟨rfl, rfl⟩
          ·replace e108 := zqd e108
           subst e108
           exact AW.rA ⟨[(5, (vp 3 0)), (28, (vp 45 0)), (253, (vB ((v100.1.Tracks.length : Int) != z10)))], [(1, z5), (2, z3), (3, (.box [z9, (cI v4.Kind), z4, z2])), (43, z16), (44, z13), (45, (.box [z21, z25, z14, z12]))]⟩ (T2 ((Tt ∧ (!v96.2) = false) ∧ Tt ∧ T2 ((Tt ∧ (!v100.2) = false) ∧ T2 (((((eI v96.1.Length) ∧ (eI v96.1.Kind) ∧ (Eqc (sl 1 z1 v96.1.Tracks)) ∧ (Eqc (sl 4 zqg v96.1.Roots)) ∧ Tt) ∧ z6 ∧ Tt) ∧ CallOK Tryz.prog 16 [.agg z43, .agg (zqp v4)] [.one (.bool v104)]) ∧ T2 ((Tt ∧ (!v104) = false) ∧ T4 (T4 Tt)))))) [.no, .no, .dec false, .no, .no, .no, .dec false, .no, .no, .call [.agg z43, .agg (zqp v4)] [.one (.bool v104)] [[.view]], .no, .no, .dec false] [5, 28, 253] [1, 2, 3, 43, 44, 45] ⟨tr, tr, ⟨tr, b102⟩, tr, tr, tr, ⟨tr, b103⟩, tr, tr, ⟨⟨⟨rfl, rfl, rfl, rfl, tr⟩, ⟨rfl, rfl, rfl, rfl, tr⟩, tr⟩, ok_laws_b10Clips K v96.1 v4 v104 e105⟩, tr, tr, ⟨tr, b106⟩, tr, tr, tr, tr, tr, tr, tr, tr, tr⟩ ⟨rfl, rfl⟩
       refine zqa ?_
       rcases zqc h with ⟨b109, h⟩ | ⟨b109, h⟩
       ·refine AW.cond_t rfl b109 ?_
        refine AW.sA ⟨[(4, (vB false))], []⟩ (Tt ∧ Tt) [] [4] [] ⟨tr, tr⟩ ?_
        refine AW.ret ?_
        refine zqm ?_
        replace h := zqd h
        subst h
        exact ⟨.inr rfl, zqe [(.one (.c (.bool false)))] (by kernel_rfl) ⟨⟨rfl, tr⟩, tr⟩ (of_decide_eq_true (by kernel_rfl))⟩
       ·refine AW.cond_f rfl b109 ?_
        refine AW.skip ?_
        refine zqa ?_
        refine AW.seq ?_
        let z18 := (v100.1.Tracks.length : Int)
        refine AW.sA ⟨[(5, (vp 3 0)), (28, (vp 45 0)), (256, (vI z18)), (257, z50)], [(1, z5), (2, z3), (3, (.box [z9, (cI v4.Kind), z4, z2])), (43, z16), (44, z13), (45, (.box [z21, z25, z14, z12]))]⟩ (T4 Tt) [] [5, 28, 256, 257] [1, 2, 3, 43, 44, 45] ⟨tr, tr, tr, tr, tr⟩ ?_
        refine AW.block ?_
        refine AW.loopQ (σ := Nat × Int) (fun p => ⟨[(5, (vp 3 0)), (28, (vp 45 0)), (256, (vI z18)), (257, (vI p.2))], [(1, z5), (2, z3), (3, (.box [z9, (cI v4.Kind), z4, z2])), (43, z16), (44, z13), (45, (.box [z21, z25, z14, z12]))]⟩) (fun p => laws_FnKeys_l7 K v4 v100 p.1 p.2 = some o) (fun p => p.1) (K, (0 : Int)) h ?_
        clear h
        rintro ⟨k, x111⟩ h
        replace h : laws_FnKeys_l7 K v4 v100 k x111 = some o := h
        show AW _ _ (⟨[(5, (vp 3 0)), (28, (vp 45 0)), (256, (vI z18)), (257, (vI x111))], [(1, z5), (2, z3), (3, (.box [z9, (cI v4.Kind), z4, z2])), (43, z16), (44, z13), (45, (.box [z21, z25, z14, z12]))]⟩ : St) _
        obtain _ | k := k
        ·rw [laws_FnKeys_l7] at h; cases h
        rw [laws_FnKeys_l7] at h
        refine AW.sA ⟨[(5, (vp 3 0)), (28, (vp 45 0)), (256, (vI z18)), (257, (vI x111)), (258, (vB (decide (x111 < z18))))], [(1, z5), (2, z3), (3, (.box [z9, (cI v4.Kind), z4, z2])), (43, z16), (44, z13), (45, (.box [z21, z25, z14, z12]))]⟩ (Tt ∧ Tt) [] [5, 28, 256, 257, 258] [1, 2, 3, 43, 44, 45] ⟨tr, tr⟩ ?_
        refine AW.seq ?_
        rcases zqc h with ⟨b112, h⟩ | ⟨b112, h⟩
        ·refine AW.cond_t rfl b112 ?_
         refine AW.skip ?_
         refine zqa ?_
         refine AW.seq ?_
         refine AW.block ?_
         refine AW.sC (T2 Tt) [] [5, 28, 30, 256, 257] [1, 2, 3, 43, 44, 45] ⟨tr, tr, tr⟩ ?_
         refine AW.seq ?_
         obtain ⟨c113, h⟩ := zqn h
         refine AW.tC (Tt ∧ T2 ((0 ≤ x111 ∧ x111 < z18) ∧ T2 Tt)) [] [5, 28, 30, 31, 256, 257] [1, 2, 3, 43, 44, 45] ⟨tr, tr, tr, c113, tr, tr, tr⟩ ?_
         refine AW.seq ?_
         obtain ⟨c114, h⟩ := zqn h
         let z11 := v100.1.Tracks.getD x111.toNat default
         let z15 := v4.Tracks.getD x111.toNat default
         refine AW.tA ⟨[(5, (vp 3 0)), (28, (vp 45 0)), (31, (vc (sl 5 zqo z11))), (32, (vc (sl 5 zqo z15))), (256, (vI z18)), (257, (vI x111))], [(1, z5), (2, z3), (3, (.box [z9, (cI v4.Kind), z4, z2])), (43, z16), (44, z13), (45, (.box [z21, z25, z14, z12]))]⟩ (Tt ∧ T2 ((0 ≤ x111 ∧ x111 < z10) ∧ T2 Tt)) [] [5, 28, 31, 32, 256, 257] [1, 2, 3, 43, 44, 45] ⟨tr, tr, tr, c114, tr, tr, tr⟩ ?_
         refine AW.seq ?_
         obtain ⟨j122, e123, h⟩ := zqb h
         refine AW.join1 (s2 := ⟨[(5, (vp 3 0)), (28, (vp 45 0)), (256, (vI z18)), (257, (vI x111)), (307, (vB j122))], [(1, z5), (2, z3), (3, (.box [z9, (cI v4.Kind), z4, z2])), (43, z16), (44, z13), (45, (.box [z21, z25, z14, z12]))]⟩) ?_ ?_
         ·rcases zqc e123 with ⟨b115, e123⟩ | ⟨b115, e123⟩
          ·replace e123 := zqd e123
           subst e123
           exact AW.dA ⟨[(5, (vp 3 0)), (28, (vp 45 0)), (256, (vI z18)), (257, (vI x111)), (307, (vB true))], [(1, z5), (2, z3), (3, (.box [z9, (cI v4.Kind), z4, z2])), (43, z16), (44, z13), (45, (.box [z21, z25, z14, z12]))]⟩ ((Tt ∧ T2 ((Tt ∧ ((z11.length : Int) == (0 : Int)) = true) ∧ T2 (T4 (T4 (T4 (T4 (T4 (T4 (T4 (T4 Tt)))))))))) ∧ (Tt)) 38 [.no, .no, .no, .dec true] [5, 28, 256, 257, 307] [1, 2, 3, 43, 44, 45] ⟨⟨tr, tr, tr, ⟨tr, b115⟩, tr, tr, tr, tr, tr, tr, tr, tr, tr, tr, tr, tr, tr, tr, tr, tr, tr, tr, tr, tr, tr, tr, tr, tr, tr, tr, tr, tr, tr, tr, tr, tr, tr, tr, tr⟩, tr⟩ ⟨rfl, rfl⟩
          ·rcases zqc e123 with ⟨b116, e123⟩ | ⟨b116, e123⟩
           ·replace e123 := zqd e123
            subst e123
            exact AW.dA ⟨[(5, (vp 3 0)), (28, (vp 45 0)), (256, (vI z18)), (257, (vI x111)), (307, (vB true))], [(1, z5), (2, z3), (3, (.box [z9, (cI v4.Kind), z4, z2])), (43, z16), (44, z13), (45, (.box [z21, z25, z14, z12]))]⟩ ((Tt ∧ T2 ((Tt ∧ ((z11.length : Int) == (0 : Int)) = false) ∧ T2 (T4 ((Tt ∧ (decide ((z11.length : Int) > (z15.length : Int))) = true) ∧ Tt ∧ T2 (T4 (T4 (T4 (T4 (T4 (T4 Tt)))))))))) ∧ (Tt)) 38 [.no, .no, .no, .dec false, .no, .no, .no, .no, .no, .no, .dec true] [5, 28, 256, 257, 307] [1, 2, 3, 43, 44, 45] ⟨⟨tr, tr, tr, ⟨tr, b115⟩, tr, tr, tr, tr, tr, tr, ⟨tr, b116⟩, tr, tr, tr, tr, tr, tr, tr, tr, tr, tr, tr, tr, tr, tr, tr, tr, tr, tr, tr, tr, tr, tr, tr, tr, tr, tr, tr, tr⟩, tr⟩ ⟨rfl, rfl⟩
           ·obtain ⟨c117, e123⟩ := zqn e123
            obtain ⟨c118, e123⟩ := zqn e123
            rcases zqc e123 with ⟨b119, e123⟩ | ⟨b119, e123⟩
            ·replace e123 := zqd e123
             subst e123
             exact AW.dA ⟨[(5, (vp 3 0)), (28, (vp 45 0)), (256, (vI z18)), (257, (vI x111)), (307, (vB true))], [(1, z5), (2, z3), (3, (.box [z9, (cI v4.Kind), z4, z2])), (43, z16), (44, z13), (45, (.box [z21, z25, z14, z12]))]⟩ ((Tt ∧ T2 ((Tt ∧ ((z11.length : Int) == (0 : Int)) = false) ∧ T2 (T4 ((Tt ∧ (decide ((z11.length : Int) > (z15.length : Int))) = false) ∧ Tt ∧ (0 ≤ (0 : Int) ∧ (0 : Int) < (z11.length : Int)) ∧ Tt ∧ T2 ((0 ≤ (0 : Int) ∧ (0 : Int) < (z15.length : Int)) ∧ T4 ((Tt ∧ (((z11.getD ((0 : Int).toNat) default).At) != ((z15.getD ((0 : Int).toNat) default).At)) = true) ∧ T4 (T4 (T4 (T4 Tt))))))))) ∧ (Tt)) 38 [.no, .no, .no, .dec false, .no, .no, .no, .no, .no, .no, .dec false, .no, .no, .no, .no, .no, .no, .no, .no, .no, .no, .dec true] [5, 28, 256, 257, 307] [1, 2, 3, 43, 44, 45] ⟨⟨tr, tr, tr, ⟨tr, b115⟩, tr, tr, tr, tr, tr, tr, ⟨tr, b116⟩, tr, c117, tr, tr, tr, c118, tr, tr, tr, tr, ⟨tr, b119⟩, tr, tr, tr, tr, tr, tr, tr, tr, tr, tr, tr, tr, tr, tr, tr, tr, tr⟩, tr⟩ ⟨rfl, rfl⟩
            ·obtain ⟨c120, e123⟩ := zqn e123
             obtain ⟨c121, e123⟩ := zqn e123
             replace e123 := zqd e123
             subst e123
             let z36 := IntKind.i64.wrap ((z11.length : Int) - (1 : Int))
             let z37 := IntKind.i64.wrap ((z15.length : Int) - (1 : Int))
             exact AW.dA ⟨[(5, (vp 3 0)), (28, (vp 45 0)), (256, (vI z18)), (257, (vI x111)), (307, (vB (((z11.getD (z36.toNat) default).At) != ((z15.getD (z37.toNat) default).At))))], [(1, z5), (2, z3), (3, (.box [z9, (cI v4.Kind), z4, z2])), (43, z16), (44, z13), (45, (.box [z21, z25, z14, z12]))]⟩ ((Tt ∧ T2 ((Tt ∧ ((z11.length : Int) == (0 : Int)) = false) ∧ T2 (T4 ((Tt ∧ (decide ((z11.length : Int) > (z15.length : Int))) = false) ∧ Tt ∧ (0 ≤ (0 : Int) ∧ (0 : Int) < (z11.length : Int)) ∧ Tt ∧ T2 ((0 ≤ (0 : Int) ∧ (0 : Int) < (z15.length : Int)) ∧ T4 ((Tt ∧ (((z11.getD ((0 : Int).toNat) default).At) != ((z15.getD ((0 : Int).toNat) default).At)) = false) ∧ T4 ((0 ≤ z36 ∧ z36 < (z11.length : Int)) ∧ T2 (T4 ((0 ≤ z37 ∧ z37 < (z15.length : Int)) ∧ T4 Tt))))))))) ∧ (Tt)) 38 [.no, .no, .no, .dec false, .no, .no, .no, .no, .no, .no, .dec false, .no, .no, .no, .no, .no, .no, .no, .no, .no, .no, .dec false] [5, 28, 256, 257, 307] [1, 2, 3, 43, 44, 45] ⟨⟨tr, tr, tr, ⟨tr, b115⟩, tr, tr, tr, tr, tr, tr, ⟨tr, b116⟩, tr, c117, tr, tr, tr, c118, tr, tr, tr, tr, ⟨tr, b119⟩, tr, tr, tr, tr, c120, tr, tr, tr, tr, tr, tr, c121, tr, tr, tr, tr, tr⟩, tr⟩ ⟨rfl, rfl⟩
         refine zqa ?_
         rcases zqc h with ⟨b124, h⟩ | ⟨b124, h⟩
         ·refine AW.cond_t rfl b124 ?_
          refine AW.sA ⟨[(4, (vB false))], []⟩ (Tt ∧ Tt) [] [4] [] ⟨tr, tr⟩ ?_
          refine AW.ret ?_
          refine zqz ?_
          refine zqm ?_
          refine zjs ?_
          refine zqz ?_
          refine zqm ?_
          replace h := zqd h
          subst h
          exact ⟨.inr rfl, zqe [(.one (.c (.bool false)))] (by kernel_rfl) ⟨⟨rfl, tr⟩, tr⟩ (of_decide_eq_true (by kernel_rfl))⟩
         ·refine AW.cond_f rfl b124 ?_
          refine AW.skip ?_
          refine zqr ?_
          refine zqa ?_
          refine AW.rA ⟨[(5, (vp 3 0)), (28, (vp 45 0)), (256, (vI z18)), (257, (vI (IntKind.i64.wrap (x111 + (1 : Int)))))], [(1, z5), (2, z3), (3, (.box [z9, (cI v4.Kind), z4, z2])), (43, z16), (44, z13), (45, (.box [z21, z25, z14, z12]))]⟩ (T2 Tt) [] [5, 28, 256, 257] [1, 2, 3, 43, 44, 45] ⟨tr, tr, tr⟩ ?_
          exact zqu (k, (IntKind.i64.wrap (x111 + (1 : Int)))) h (Nat.lt_succ_self k) (Sub.keep [5, 28, 256, 257] [1, 2, 3, 43, 44, 45] (by kernel_rfl) (by kernel_rfl))
        ·refine AW.cond_f rfl b112 ?_
         refine AW.exit ?_
         refine zwc ?_
         refine zwd ?_
         refine zq4 ?_
         refine zqa ?_
         refine AW.sA ⟨[(4, (vB true))], []⟩ (Tt ∧ Tt) [] [4] [] ⟨tr, tr⟩ ?_
         refine AW.ret ?_
         replace h := zqd h
         subst h
         exact ⟨.inr rfl, zqe [(.one (.c (.bool true)))] (by kernel_rfl) ⟨⟨rfl, tr⟩, tr⟩ (of_decide_eq_true (by kernel_rfl))⟩

end
end Go.Fw
