/- Functions of the program: what each computes, and that it computes just that. -/
import Derived.Test.YtcgakaboochpaadGreatFwTy
import Derived.Test.YtcgakaboochpaadGreatFwH
import Derived.Test.YtcgakaboochpaadGreatFwV
import Derived.Test.YtcgakaboochpaadGreatFwGK1
import Derived.Test.YtcgakaboochpaadGreatFwHF
import Derived.Test.YtcgakaboochpaadGreatFwMK
import Derived.Test.YtcgakaboochpaadGreatFwAB
import Derived.Test.YtcgakaboochpaadGreatFwLB
import Derived.Test.YtcgakaboochpaadGreatFwSh
import Derived.Test.YtcgakaboochpaadGreatFwSO
import Derived.Test.YtcgakaboochpaadGreatFwU
import Derived.Test.YtcgakaboochpaadGreatFwUB
import Derived.Test.YtcgakaboochpaadGreatProg
import Derived.KernelRfl
namespace Go.Fw
open Go Go.Proofs
noncomputable section
set_option maxRecDepth 10000

/-! impl.rootTrack$3 -/
def zje (K : Nat) (a0 : RootKey) (a1 : RootKey) (a2 : F32) : Option (RootKey) :=
 (zx8 K a0.Place a1.Place a2).bind fun v1 => some (RootKey.mk a0.At v1)

theorem ok_impl_rootTrack_3 (K : Nat) (a0 : RootKey) (a1 : RootKey) (a2 : F32) (o : (RootKey)) (h : zje K a0 a1 a2 = some o) : CallOK Tryz.prog 48 [.agg (zqg a0), .agg (zqg a1), .one (.flt .f32 a2.bits)] [.agg (zqg o)] := by
 refine zqh Tryz.func48 rfl (by kernel_rfl) (Nat.le_of_ble_eq_true (by kernel_rfl)) ?_
 intro w0
 unfold zje at h
 refine AW.sC (Tt ∧ T2 Tt) [.box 1, .box 2, .box 3] [2, 3, 4, 6] [1, 2, 3] ⟨tr, tr, tr, tr⟩ ?_
 refine AW.seq ?_
 obtain ⟨v1, e2, h⟩ := zqb h
 let z1 : List CT := [.agg (zqs a0.Place), .agg (zqs a1.Place), .one (.flt .f32 a2.bits)]
 refine AW.tC (Tt ∧ T4 (((((eF a0.Place.X) ∧ (eF a0.Place.Y) ∧ (eF a0.Place.Z) ∧ Tt) ∧ ((eF a1.Place.X) ∧ (eF a1.Place.Y) ∧ (eF a1.Place.Z) ∧ Tt) ∧ (eF a2) ∧ Tt) ∧ CallOK Tryz.prog 49 z1 [.agg (zqs v1)]) ∧ T2 Tt)) [.no, .no, .no, .no, .no, .call z1 [.agg (zqs v1)] [[.view, .view, .view]]] [3, 6] [1, 3] ⟨tr, tr, tr, tr, tr, ⟨⟨⟨rfl, rfl, rfl, tr⟩, ⟨rfl, rfl, rfl, tr⟩, rfl, tr⟩, ok_impl_BetweenVectors K a0.Place a1.Place a2 v1 e2⟩, tr, tr, tr⟩ ?_
 refine AW.sA ⟨[(6, (vp 3 0))], [(3, (.box [(cI a0.At), (cF v1.X), (cF v1.Y), (cF v1.Z)]))]⟩ (T2 Tt) [] [6] [3] ⟨tr, tr, tr⟩ ?_
 refine AW.ret ?_
 replace h := zqd h
 subst h
 exact ⟨.inr rfl, zqe [(.agg [(cI a0.At), (cF v1.X), (cF v1.Y), (cF v1.Z)])] (by kernel_rfl) ⟨⟨⟨rfl, tr⟩, ⟨rfl, tr⟩, ⟨rfl, tr⟩, ⟨rfl, tr⟩, tr⟩, tr⟩ (of_decide_eq_true (by kernel_rfl))⟩

/-! (impl.track[impl.RootKey]).sample -/
def Zt15 (QE : Prop) : Prop := ((Tt ∧ (Tt ∧ (Tt ∧ (Tt ∧ Tt)))) ∧ (Tt ∧ (Tt ∧ (Tt ∧ (Tt ∧ Tt)))) ∧ QE)
theorem zt15 {QE : Prop} (qe : QE) : Zt15 QE := ⟨⟨tr, ⟨tr, ⟨tr, ⟨tr, tr⟩⟩⟩⟩, ⟨tr, ⟨tr, ⟨tr, ⟨tr, tr⟩⟩⟩⟩, qe⟩
def zqt (K : Nat) (a1 : (List RootKey)) (a2 : Int) (a3 : Int) : Nat → Int → Option (RootKey)
 | 0, _ => none
 | k + 1, x2 => (ite2 ((decide (x2 < (a1.length : Int)))) (chk (0 ≤ x2 ∧ x2 < (a1.length : Int)) ((zwn K (a1.getD x2.toNat default)).bind fun v5 => some (decide (v5 ≤ a3)))) (some false)).bind fun j7 => ite2 (j7) (zqt K a1 a2 a3 k (IntKind.i64.wrap (x2 + (1 : Int)))) (ite2 ((x2 == (0 : Int))) (chk (0 ≤ (0 : Int) ∧ (0 : Int) < (a1.length : Int)) ((zxw K (a1.getD ((0 : Int).toNat) default) a3).bind fun v12 => some v12)) ((ite2 ((x2 == (a1.length : Int))) (some true) (chk (0 ≤ (IntKind.i64.wrap (x2 - (1 : Int))) ∧ (IntKind.i64.wrap (x2 - (1 : Int))) < (a1.length : Int)) ((zwn K (a1.getD ((IntKind.i64.wrap (x2 - (1 : Int))).toNat) default)).bind fun v16 => ite2 ((v16 == a3)) (some true) (some (a2 == (0 : Int)))))).bind fun j19 => ite2 (j19) (chk (0 ≤ (IntKind.i64.wrap (x2 - (1 : Int))) ∧ (IntKind.i64.wrap (x2 - (1 : Int))) < (a1.length : Int)) ((zxw K (a1.getD ((IntKind.i64.wrap (x2 - (1 : Int))).toNat) default) a3).bind fun v23 => some v23)) (chk (0 ≤ (IntKind.i64.wrap (x2 - (1 : Int))) ∧ (IntKind.i64.wrap (x2 - (1 : Int))) < (a1.length : Int)) (chk (0 ≤ x2 ∧ x2 < (a1.length : Int)) ((zwn K (a1.getD ((IntKind.i64.wrap (x2 - (1 : Int))).toNat) default)).bind fun v27 => (zwn K (a1.getD x2.toNat default)).bind fun v29 => (zvn K v27 a3 v29).bind fun v31 => ite2 ((a2 == (2 : Int))) ((zje K (a1.getD ((IntKind.i64.wrap (x2 - (1 : Int))).toNat) default) (a1.getD x2.toNat default) ((v31.mul v31).mul ((Fl.mk (k := .f32) 1077936128 (by decide)).sub ((Fl.mk (k := .f32) 1073741824 (by decide)).mul v31)))).bind fun v34 => (zxw K v34 a3).bind fun v36 => some v36) ((zje K (a1.getD ((IntKind.i64.wrap (x2 - (1 : Int))).toNat) default) (a1.getD x2.toNat default) v31).bind fun v38 => (zxw K v38 a3).bind fun v40 => some v40))))))

def zw1 (K : Nat) (a1 : (List RootKey)) (a2 : Int) (a3 : Int) : Option (RootKey) :=
 zqt K a1 a2 a3 K (0 : Int)

theorem ok_impl_track_impl_RootKey_sample (K : Nat) (a1 : (List RootKey)) (a2 : Int) (a3 : Int) (o : (RootKey)) (h : zw1 K a1 a2 a3 = some o) : CallOK Tryz.prog 80 [.agg [(.fn 46 0 fun _ => .nilptr), (.fn 47 0 fun _ => .nilptr), (.fn 48 0 fun _ => .nilptr)], .one (sl 4 zqg a1), .one (.int .i64 a2), .one (.int .i64 a3)] [.agg (zqg o)] := by
 refine zqh Tryz.func80 rfl (by kernel_rfl) (Nat.le_of_ble_eq_true (by kernel_rfl)) ?_
 intro w0
 unfold zw1 at h
 refine AW.sC (T2 Tt) [.box 1, .box 2] [1, 2, 3, 4, 8] [1, 2] ⟨tr, tr, tr⟩ ?_
 let z3 := cF (default : F32)
 let z10 := vc (sl 4 zqg a1)
 let z11 := cI (0 : Int)
 refine AW.sA ⟨[(1, z10), (2, (vI a2)), (3, (vI a3)), (4, (vp 1 0)), (8, (vp 2 0)), (9, (vI (0 : Int)))], [(1, (.box [(.c (.fn 46 0 fun _ => .nilptr)), (.c (.fn 47 0 fun _ => .nilptr)), (.c (.fn 48 0 fun _ => .nilptr))])), (2, (.box [z11, z3, z3, z3]))]⟩ (Tt ∧ Tt) [] [1, 2, 3, 4, 8, 9] [1, 2] ⟨tr, tr⟩ ?_
 refine AW.seq ?_
 refine AW.block ?_
 refine AW.loopQ (σ := Nat × Int) (fun p => ⟨[(1, z10), (2, (vI a2)), (3, (vI a3)), (4, (vp 1 0)), (8, (vp 2 0)), (9, (vI p.2))], [(1, (.box [(.c (.fn 46 0 fun _ => .nilptr)), (.c (.fn 47 0 fun _ => .nilptr)), (.c (.fn 48 0 fun _ => .nilptr))])), (2, (.box [z11, z3, z3, z3]))]⟩) (fun p => zqt K a1 a2 a3 p.1 p.2 = some o) (fun p => p.1) (K, (0 : Int)) h ?_
 clear h
 rintro ⟨k, x2⟩ h
 replace h : zqt K a1 a2 a3 k x2 = some o := h
 show AW _ _ (⟨[(1, z10), (2, (vI a2)), (3, (vI a3)), (4, (vp 1 0)), (8, (vp 2 0)), (9, (vI x2))], [(1, (.box [(.c (.fn 46 0 fun _ => .nilptr)), (.c (.fn 47 0 fun _ => .nilptr)), (.c (.fn 48 0 fun _ => .nilptr))])), (2, (.box [z11, z3, z3, z3]))]⟩ : St) _
 obtain _ | k := k
 ·rw [zqt] at h; cases h
 rw [zqt] at h
 refine AW.seq ?_
 refine AW.seq ?_
 obtain ⟨j7, e8, h⟩ := zqb h
 refine AW.join1 (s2 := ⟨[(1, z10), (2, (vI a2)), (3, (vI a3)), (4, (vp 1 0)), (8, (vp 2 0)), (9, (vI x2)), (27, (vB j7))], [(1, (.box [(.c (.fn 46 0 fun _ => .nilptr)), (.c (.fn 47 0 fun _ => .nilptr)), (.c (.fn 48 0 fun _ => .nilptr))])), (2, (.box [z11, z3, z3, z3]))]⟩) ?_ ?_
 ·rcases zqc e8 with ⟨b3, e8⟩ | ⟨b3, e8⟩
  ·obtain ⟨c4, e8⟩ := zqn e8
   obtain ⟨v5, e6, e8⟩ := zqb e8
   replace e8 := zqd e8
   subst e8
   let z13 := a1.getD x2.toNat default
   exact AW.dA ⟨[(1, z10), (2, (vI a2)), (3, (vI a3)), (4, (vp 1 0)), (8, (vp 2 0)), (9, (vI x2)), (27, (vB (decide (v5 ≤ a3))))], [(1, (.box [(.c (.fn 46 0 fun _ => .nilptr)), (.c (.fn 47 0 fun _ => .nilptr)), (.c (.fn 48 0 fun _ => .nilptr))])), (2, (.box [z11, z3, z3, z3]))]⟩ ((T4 ((Tt ∧ (decide (x2 < (a1.length : Int))) = true) ∧ T4 ((0 ≤ x2 ∧ x2 < (a1.length : Int)) ∧ Tt ∧ ((((eI (z13.At)) ∧ (eF ((z13.Place).X)) ∧ (eF ((z13.Place).Y)) ∧ (eF ((z13.Place).Z)) ∧ Tt) ∧ Tt) ∧ CallOK Tryz.prog 46 [.agg (zqg z13)] [.one (.int .i64 v5)]) ∧ Tt ∧ T2 Tt))) ∧ (Tt)) 15 [.no, .no, .no, .no, .dec true, .no, .no, .no, .no, .no, .no, .call [.agg (zqg z13)] [.one (.int .i64 v5)] [[.view]]] [1, 2, 3, 4, 8, 9, 27] [1, 2] ⟨⟨tr, tr, tr, tr, ⟨tr, b3⟩, tr, tr, tr, tr, c4, tr, ⟨⟨⟨rfl, rfl, rfl, rfl, tr⟩, tr⟩, zw6 K z13 v5 e6⟩, tr, tr, tr, tr⟩, tr⟩ ⟨rfl, rfl⟩
  ·replace e8 := zqd e8
   subst e8
   exact AW.dA ⟨[(1, z10), (2, (vI a2)), (3, (vI a3)), (4, (vp 1 0)), (8, (vp 2 0)), (9, (vI x2)), (27, (vB false))], [(1, (.box [(.c (.fn 46 0 fun _ => .nilptr)), (.c (.fn 47 0 fun _ => .nilptr)), (.c (.fn 48 0 fun _ => .nilptr))])), (2, (.box [z11, z3, z3, z3]))]⟩ ((T4 ((Tt ∧ (decide (x2 < (a1.length : Int))) = false) ∧ T2 (T4 (T4 Tt)))) ∧ (Tt)) 15 [.no, .no, .no, .no, .dec false] [1, 2, 3, 4, 8, 9, 27] [1, 2] ⟨⟨tr, tr, tr, tr, ⟨tr, b3⟩, tr, tr, tr, tr, tr, tr, tr, tr, tr, tr, tr⟩, tr⟩ ⟨rfl, rfl⟩
 refine zqa ?_
 rcases zqc h with ⟨b9, h⟩ | ⟨b9, h⟩
 ·refine AW.cond_t rfl b9 ?_
  refine AW.skip ?_
  refine zqa ?_
  refine AW.block ?_
  let z29 := IntKind.i64.wrap (x2 + (1 : Int))
  refine AW.rA ⟨[(1, z10), (2, (vI a2)), (3, (vI a3)), (4, (vp 1 0)), (8, (vp 2 0)), (9, (vI z29))], [(1, (.box [(.c (.fn 46 0 fun _ => .nilptr)), (.c (.fn 47 0 fun _ => .nilptr)), (.c (.fn 48 0 fun _ => .nilptr))])), (2, (.box [z11, z3, z3, z3]))]⟩ (Tt ∧ T2 Tt) [] [1, 2, 3, 4, 8, 9] [1, 2] ⟨tr, tr, tr, tr⟩ ?_
  refine zqr ?_
  exact zqu (k, z29) h (Nat.lt_succ_self k) (Sub.keep [1, 2, 3, 4, 8, 9] [1, 2] (by kernel_rfl) (by kernel_rfl))
 ·refine AW.cond_f rfl b9 ?_
  refine AW.exit ?_
  refine zwc ?_
  refine zwd ?_
  refine zq4 ?_
  refine zqa ?_
  refine AW.seq ?_
  refine AW.block ?_
  refine AW.sA ⟨[(1, z10), (2, (vI a2)), (3, (vI a3)), (4, (vp 1 0)), (8, (vp 2 0)), (9, (vI x2)), (30, (vB (x2 == (0 : Int))))], [(1, (.box [(.c (.fn 46 0 fun _ => .nilptr)), (.c (.fn 47 0 fun _ => .nilptr)), (.c (.fn 48 0 fun _ => .nilptr))])), (2, (.box [z11, z3, z3, z3]))]⟩ (Tt ∧ T2 Tt) [] [1, 2, 3, 4, 8, 9, 30] [1, 2] ⟨tr, tr, tr, tr⟩ ?_
  rcases zqc h with ⟨b10, h⟩ | ⟨b10, h⟩
  ·refine AW.cond_t rfl b10 ?_
   refine AW.seq ?_
   obtain ⟨c11, h⟩ := zqn h
   obtain ⟨v12, e13, h⟩ := zqb h
   let z9 := a1.getD ((0 : Int).toNat) default
   let z30 : List CT := [.agg (zqg z9), .one (.int .i64 a3)]
   refine AW.dA ⟨[(8, (vp 2 0))], [(2, (.box [(cI v12.At), (cF v12.Place.X), (cF v12.Place.Y), (cF v12.Place.Z)]))]⟩ ((Tt ∧ T2 ((0 ≤ (0 : Int) ∧ (0 : Int) < (a1.length : Int)) ∧ T2 (((((eI (z9.At)) ∧ (((.flt .f32 ((z9.Place).X).bits) : C) = (.flt .f32 ((z9.Place).X).bits)) ∧ (((.flt .f32 ((z9.Place).Y).bits) : C) = (.flt .f32 ((z9.Place).Y).bits)) ∧ (((.flt .f32 ((z9.Place).Z).bits) : C) = (.flt .f32 ((z9.Place).Z).bits)) ∧ Tt) ∧ (eI a3) ∧ Tt) ∧ CallOK Tryz.prog 47 z30 [.agg (zqg v12)]) ∧ Tt))) ∧ (Tt ∧ Tt)) 7 [.no, .no, .no, .no, .no, .no, .call z30 [.agg (zqg v12)] [[.view, .view, .view, .view]]] [8] [2] ⟨⟨tr, tr, tr, c11, tr, tr, ⟨⟨⟨rfl, rfl, rfl, rfl, tr⟩, rfl, tr⟩, zj1 K z9 a3 v12 e13⟩, tr⟩, ⟨tr, tr⟩⟩ ?_
   refine zqa ?_
   refine AW.ret ?_
   refine zqz ?_
   refine zqm ?_
   replace h := zqd h
   subst h
   exact ⟨.inr rfl, zqe [(.agg [(cI v12.At), (cF v12.Place.X), (cF v12.Place.Y), (cF v12.Place.Z)])] (by kernel_rfl) ⟨⟨⟨rfl, tr⟩, ⟨rfl, tr⟩, ⟨rfl, tr⟩, ⟨rfl, tr⟩, tr⟩, tr⟩ (of_decide_eq_true (by kernel_rfl))⟩
  ·refine AW.cond_f rfl b10 ?_
   refine AW.seq ?_
   obtain ⟨j19, e20, h⟩ := zqb h
   refine AW.join1 (s2 := ⟨[(1, z10), (2, (vI a2)), (3, (vI a3)), (4, (vp 1 0)), (8, (vp 2 0)), (9, (vI x2)), (40, (vB j19))], [(1, (.box [(.c (.fn 46 0 fun _ => .nilptr)), (.c (.fn 47 0 fun _ => .nilptr)), (.c (.fn 48 0 fun _ => .nilptr))])), (2, (.box [z11, z3, z3, z3]))]⟩) ?_ ?_
   ·rcases zqc e20 with ⟨b14, e20⟩ | ⟨b14, e20⟩
    ·replace e20 := zqd e20
     subst e20
     exact AW.dA ⟨[(1, z10), (2, (vI a2)), (3, (vI a3)), (4, (vp 1 0)), (8, (vp 2 0)), (9, (vI x2)), (40, (vB true))], [(1, (.box [(.c (.fn 46 0 fun _ => .nilptr)), (.c (.fn 47 0 fun _ => .nilptr)), (.c (.fn 48 0 fun _ => .nilptr))])), (2, (.box [z11, z3, z3, z3]))]⟩ ((T4 ((Tt ∧ (x2 == (a1.length : Int)) = true) ∧ T4 (T4 (T4 (T4 Tt))))) ∧ (Tt)) 21 [.no, .no, .no, .no, .dec true] [1, 2, 3, 4, 8, 9, 40] [1, 2] ⟨⟨tr, tr, tr, tr, ⟨tr, b14⟩, tr, tr, tr, tr, tr, tr, tr, tr, tr, tr, tr, tr, tr, tr, tr, tr, tr⟩, tr⟩ ⟨rfl, rfl⟩
    ·obtain ⟨c15, e20⟩ := zqn e20
     obtain ⟨v16, e17, e20⟩ := zqb e20
     rcases zqc e20 with ⟨b18, e20⟩ | ⟨b18, e20⟩
     ·replace e20 := zqd e20
      subst e20
      let z22 := IntKind.i64.wrap (x2 - (1 : Int))
      let z6 := a1.getD (z22.toNat) default
      exact AW.dA ⟨[(1, z10), (2, (vI a2)), (3, (vI a3)), (4, (vp 1 0)), (8, (vp 2 0)), (9, (vI x2)), (40, (vB true))], [(1, (.box [(.c (.fn 46 0 fun _ => .nilptr)), (.c (.fn 47 0 fun _ => .nilptr)), (.c (.fn 48 0 fun _ => .nilptr))])), (2, (.box [z11, z3, z3, z3]))]⟩ ((T4 ((Tt ∧ (x2 == (a1.length : Int)) = false) ∧ Tt ∧ T4 ((0 ≤ z22 ∧ z22 < (a1.length : Int)) ∧ Tt ∧ ((((((.int .i64 (z6.At)) : C) = (.int .i64 (z6.At))) ∧ (((.flt .f32 ((z6.Place).X).bits) : C) = (.flt .f32 ((z6.Place).X).bits)) ∧ (((.flt .f32 ((z6.Place).Y).bits) : C) = (.flt .f32 ((z6.Place).Y).bits)) ∧ (((.flt .f32 ((z6.Place).Z).bits) : C) = (.flt .f32 ((z6.Place).Z).bits)) ∧ Tt) ∧ Tt) ∧ CallOK Tryz.prog 46 [.agg (zqg z6)] [.one (.int .i64 v16)]) ∧ Tt ∧ T2 ((Tt ∧ (v16 == a3) = true) ∧ T4 Tt)))) ∧ (Tt)) 21 [.no, .no, .no, .no, .dec false, .no, .no, .no, .no, .no, .no, .no, .call [.agg (zqg z6)] [.one (.int .i64 v16)] [[.view]], .no, .no, .no, .dec true] [1, 2, 3, 4, 8, 9, 40] [1, 2] ⟨⟨tr, tr, tr, tr, ⟨tr, b14⟩, tr, tr, tr, tr, tr, c15, tr, ⟨⟨⟨rfl, rfl, rfl, rfl, tr⟩, tr⟩, zw6 K z6 v16 e17⟩, tr, tr, tr, ⟨tr, b18⟩, tr, tr, tr, tr, tr⟩, tr⟩ ⟨rfl, rfl⟩
     ·replace e20 := zqd e20
      subst e20
      let z23 := IntKind.i64.wrap (x2 - (1 : Int))
      let z7 := a1.getD (z23.toNat) default
      exact AW.dA ⟨[(1, z10), (2, (vI a2)), (3, (vI a3)), (4, (vp 1 0)), (8, (vp 2 0)), (9, (vI x2)), (40, (vB (a2 == (0 : Int))))], [(1, (.box [(.c (.fn 46 0 fun _ => .nilptr)), (.c (.fn 47 0 fun _ => .nilptr)), (.c (.fn 48 0 fun _ => .nilptr))])), (2, (.box [z11, z3, z3, z3]))]⟩ ((T4 ((Tt ∧ (x2 == (a1.length : Int)) = false) ∧ Tt ∧ T4 ((0 ≤ z23 ∧ z23 < (a1.length : Int)) ∧ Tt ∧ ((((((.int .i64 (z7.At)) : C) = (.int .i64 (z7.At))) ∧ (((.flt .f32 ((z7.Place).X).bits) : C) = (.flt .f32 ((z7.Place).X).bits)) ∧ (((.flt .f32 ((z7.Place).Y).bits) : C) = (.flt .f32 ((z7.Place).Y).bits)) ∧ (((.flt .f32 ((z7.Place).Z).bits) : C) = (.flt .f32 ((z7.Place).Z).bits)) ∧ Tt) ∧ Tt) ∧ CallOK Tryz.prog 46 [.agg (zqg z7)] [.one (.int .i64 v16)]) ∧ Tt ∧ T2 ((Tt ∧ (v16 == a3) = false) ∧ T4 Tt)))) ∧ (Tt)) 21 [.no, .no, .no, .no, .dec false, .no, .no, .no, .no, .no, .no, .no, .call [.agg (zqg z7)] [.one (.int .i64 v16)] [[.view]], .no, .no, .no, .dec false] [1, 2, 3, 4, 8, 9, 40] [1, 2] ⟨⟨tr, tr, tr, tr, ⟨tr, b14⟩, tr, tr, tr, tr, tr, c15, tr, ⟨⟨⟨rfl, rfl, rfl, rfl, tr⟩, tr⟩, zw6 K z7 v16 e17⟩, tr, tr, tr, ⟨tr, b18⟩, tr, tr, tr, tr, tr⟩, tr⟩ ⟨rfl, rfl⟩
   refine zqa ?_
   rcases zqc h with ⟨b21, h⟩ | ⟨b21, h⟩
   ·refine AW.cond_t rfl b21 ?_
    refine AW.seq ?_
    obtain ⟨c22, h⟩ := zqn h
    obtain ⟨v23, e24, h⟩ := zqb h
    let z20 := IntKind.i64.wrap (x2 - (1 : Int))
    let z5 := a1.getD (z20.toNat) default
    refine AW.dA ⟨[(8, (vp 2 0))], [(2, (.box [(cI v23.At), (cF v23.Place.X), (cF v23.Place.Y), (cF v23.Place.Z)]))]⟩ ((Tt ∧ T4 ((0 ≤ z20 ∧ z20 < (a1.length : Int)) ∧ T2 (((((((.int .i64 (z5.At)) : C) = (.int .i64 (z5.At))) ∧ (((.flt .f32 ((z5.Place).X).bits) : C) = (.flt .f32 ((z5.Place).X).bits)) ∧ (((.flt .f32 ((z5.Place).Y).bits) : C) = (.flt .f32 ((z5.Place).Y).bits)) ∧ (((.flt .f32 ((z5.Place).Z).bits) : C) = (.flt .f32 ((z5.Place).Z).bits)) ∧ Tt) ∧ (eI a3) ∧ Tt) ∧ CallOK Tryz.prog 47 [.agg (zqg z5), .one (.int .i64 a3)] [.agg (zqg v23)]) ∧ Tt))) ∧ (Tt ∧ Tt)) 9 [.no, .no, .no, .no, .no, .no, .no, .no, .call [.agg (zqg z5), .one (.int .i64 a3)] [.agg (zqg v23)] [[.view, .view, .view, .view]]] [8] [2] ⟨⟨tr, tr, tr, tr, tr, c22, tr, tr, ⟨⟨⟨rfl, rfl, rfl, rfl, tr⟩, rfl, tr⟩, zj1 K z5 a3 v23 e24⟩, tr⟩, ⟨tr, tr⟩⟩ ?_
    refine zqa ?_
    refine AW.ret ?_
    refine zqz ?_
    refine zqm ?_
    replace h := zqd h
    subst h
    exact ⟨.inr rfl, zqe [(.agg [(cI v23.At), (cF v23.Place.X), (cF v23.Place.Y), (cF v23.Place.Z)])] (by kernel_rfl) ⟨⟨⟨rfl, tr⟩, ⟨rfl, tr⟩, ⟨rfl, tr⟩, ⟨rfl, tr⟩, tr⟩, tr⟩ (of_decide_eq_true (by kernel_rfl))⟩
   ·refine AW.cond_f rfl b21 ?_
    refine AW.skip ?_
    refine zqr ?_
    refine zqa ?_
    refine AW.seq ?_
    obtain ⟨c25, h⟩ := zqn h
    obtain ⟨c26, h⟩ := zqn h
    let z21 := IntKind.i64.wrap (x2 - (1 : Int))
    let z1 := a1.getD (z21.toNat) default
    let z2 := a1.getD x2.toNat default
    let z14 := cF ((z1.Place).X)
    let z15 := cF ((z1.Place).Y)
    let z16 := cF ((z1.Place).Z)
    let z17 := cF ((z2.Place).X)
    let z18 := cF ((z2.Place).Y)
    let z19 := cF ((z2.Place).Z)
    refine AW.heldA (by kernel_rfl) [0, 1, 2, 3, 4, 5, 6, 7, 8] [] 3 [74, 78] [.no, .no, .no, .no, .no, .no, .no, .no, .no, .box 3, .box 4] [10, 11] [3, 4] [2, 3, 4, 8, 10, 11] [1, 2, 3, 4] (s' := ⟨[(2, (vI a2)), (3, (vI a3)), (4, (vp 1 0)), (8, (vp 2 0)), (10, (vp 3 0)), (11, (vp 4 0))], [(1, (.box [(.c (.fn 46 0 fun _ => .nilptr)), (.c (.fn 47 0 fun _ => .nilptr)), (.c (.fn 48 0 fun _ => .nilptr))])), (2, (.box [z11, z3, z3, z3])), (3, (.box [(cI (z1.At)), z14, z15, z16])), (4, (.box [(cI (z2.At)), z17, z18, z19]))]⟩) (ob := (Tt ∧ T2 ((0 ≤ z21 ∧ z21 < (a1.length : Int)) ∧ Tt ∧ T2 ((0 ≤ x2 ∧ x2 < (a1.length : Int)) ∧ Tt ∧ Tt))) ∧ (Zt15 ((⟨[(10, (vp 3 0)), (11, (vp 4 0))], [(3, (.box [(cI (z1.At)), z14, z15, z16])), (4, (.box [(cI (z2.At)), z17, z18, z19]))]⟩ : St) = ⟨[(10, (vp 3 0)), (11, (vp 4 0))], [(3, (.box [(cI (z1.At)), z14, z15, z16])), (4, (.box [(cI (z2.At)), z17, z18, z19]))]⟩)) ∧ (Tt)) (by kernel_rfl) ⟨⟨tr, tr, tr, c25, tr, tr, tr, c26, tr, tr⟩, (zt15 rfl), tr⟩ ?_
    refine zqa ?_
    refine AW.seq ?_
    obtain ⟨v27, e28, h⟩ := zqb h
    obtain ⟨v29, e30, h⟩ := zqb h
    obtain ⟨v31, e32, h⟩ := zqb h
    let z8 := (((.int .i64 (z1.At)) : C) = (.int .i64 (z1.At))) ∧ (((.flt .f32 ((z1.Place).X).bits) : C) = (.flt .f32 ((z1.Place).X).bits)) ∧ (((.flt .f32 ((z1.Place).Y).bits) : C) = (.flt .f32 ((z1.Place).Y).bits)) ∧ (((.flt .f32 ((z1.Place).Z).bits) : C) = (.flt .f32 ((z1.Place).Z).bits)) ∧ Tt
    let z12 := (eI (z2.At)) ∧ (eF ((z2.Place).X)) ∧ (eF ((z2.Place).Y)) ∧ (eF ((z2.Place).Z)) ∧ Tt
    let z24 := zqg z1
    let z25 := zqg z2
    let z26 : List CT := [.one (.int .i64 v27), .one (.int .i64 a3), .one (.int .i64 v29)]
    refine AW.dA ⟨[(2, (vI a2)), (3, (vI a3)), (4, (vp 1 0)), (8, (vp 2 0)), (10, (vp 3 0)), (11, (vp 4 0)), (12, (vc (.flt .f32 v31.bits)))], [(1, (.box [(.c (.fn 46 0 fun _ => .nilptr)), (.c (.fn 47 0 fun _ => .nilptr)), (.c (.fn 48 0 fun _ => .nilptr))])), (2, (.box [z11, z3, z3, z3])), (3, (.box [(cI (z1.At)), z14, z15, z16])), (4, (.box [(cI (z2.At)), z17, z18, z19]))]⟩ ((Tt ∧ T2 (((z8 ∧ Tt) ∧ CallOK Tryz.prog 46 [.agg z24] [.one (.int .i64 v27)]) ∧ T4 (((z12 ∧ Tt) ∧ CallOK Tryz.prog 46 [.agg z25] [.one (.int .i64 v29)]) ∧ (((eI v27) ∧ (eI a3) ∧ (eI v29) ∧ Tt) ∧ CallOK Tryz.prog 56 z26 [.one (.flt .f32 v31.bits)]) ∧ Tt ∧ Tt))) ∧ (Tt)) 11 [.no, .no, .no, .call [.agg z24] [.one (.int .i64 v27)] [[.view]], .no, .no, .no, .no, .call [.agg z25] [.one (.int .i64 v29)] [[.view]], .call z26 [.one (.flt .f32 v31.bits)] [[.view]]] [2, 3, 4, 8, 10, 11, 12] [1, 2, 3, 4] ⟨⟨tr, tr, tr, ⟨⟨⟨rfl, rfl, rfl, rfl, tr⟩, tr⟩, zw6 K z1 v27 e28⟩, tr, tr, tr, tr, ⟨⟨⟨rfl, rfl, rfl, rfl, tr⟩, tr⟩, zw6 K z2 v29 e30⟩, ⟨⟨rfl, rfl, rfl, tr⟩, zbk K v27 a3 v29 v31 e32⟩, tr, tr⟩, tr⟩ ?_
    refine zqa ?_
    refine AW.seq ?_
    refine AW.sA ⟨[(3, (vI a3)), (4, (vp 1 0)), (8, (vp 2 0)), (10, (vp 3 0)), (11, (vp 4 0)), (12, (vc (.flt .f32 v31.bits))), (90, (vB (a2 == (2 : Int))))], [(1, (.box [(.c (.fn 46 0 fun _ => .nilptr)), (.c (.fn 47 0 fun _ => .nilptr)), (.c (.fn 48 0 fun _ => .nilptr))])), (2, (.box [z11, z3, z3, z3])), (3, (.box [(cI (z1.At)), z14, z15, z16])), (4, (.box [(cI (z2.At)), z17, z18, z19]))]⟩ (T2 Tt) [] [3, 4, 8, 10, 11, 12, 90] [1, 2, 3, 4] ⟨tr, tr, tr⟩ ?_
    rcases zqc h with ⟨b33, h⟩ | ⟨b33, h⟩
    ·refine AW.cond_t rfl b33 ?_
     let z4 := (v31.mul v31).mul ((Fl.mk (k := .f32) 1077936128 (by decide)).sub ((Fl.mk (k := .f32) 1073741824 (by decide)).mul v31))
     refine AW.tA ⟨[(3, (vI a3)), (4, (vp 1 0)), (8, (vp 2 0)), (10, (vp 3 0)), (11, (vp 4 0)), (12, (vc (.flt .f32 z4.bits)))], [(1, (.box [(.c (.fn 46 0 fun _ => .nilptr)), (.c (.fn 47 0 fun _ => .nilptr)), (.c (.fn 48 0 fun _ => .nilptr))])), (2, (.box [z11, z3, z3, z3])), (3, (.box [(cI (z1.At)), z14, z15, z16])), (4, (.box [(cI (z2.At)), z17, z18, z19]))]⟩ (T4 (T4 Tt)) [] [3, 4, 8, 10, 11, 12] [1, 2, 3, 4] ⟨tr, tr, tr, tr, tr, tr, tr, tr, tr⟩ ?_
     refine AW.seq ?_
     obtain ⟨v34, e35, h⟩ := zqb h
     obtain ⟨v36, e37, h⟩ := zqb h
     let z27 := zqg v34
     let z32 : List CT := [.agg z24, .agg z25, .one (.flt .f32 z4.bits)]
     refine AW.dA ⟨[(8, (vp 2 0))], [(2, (.box [(cI v36.At), (cF v36.Place.X), (cF v36.Place.Y), (cF v36.Place.Z)]))]⟩ ((Tt ∧ T2 (T4 (((z8 ∧ z12 ∧ (((.flt .f32 z4.bits) : C) = (.flt .f32 z4.bits)) ∧ Tt) ∧ CallOK Tryz.prog 48 z32 [.agg z27]) ∧ Tt ∧ ((((eI v34.At) ∧ (eF v34.Place.X) ∧ (eF v34.Place.Y) ∧ (eF v34.Place.Z) ∧ Tt) ∧ (eI a3) ∧ Tt) ∧ CallOK Tryz.prog 47 [.agg z27, .one (.int .i64 a3)] [.agg (zqg v36)]) ∧ Tt))) ∧ (Tt ∧ Tt)) 10 [.no, .no, .no, .no, .no, .no, .no, .call z32 [.agg z27] [[.view, .view, .view, .view]], .no, .call [.agg z27, .one (.int .i64 a3)] [.agg (zqg v36)] [[.view, .view, .view, .view]]] [8] [2] ⟨⟨tr, tr, tr, tr, tr, tr, tr, ⟨⟨⟨rfl, rfl, rfl, rfl, tr⟩, ⟨rfl, rfl, rfl, rfl, tr⟩, rfl, tr⟩, ok_impl_rootTrack_3 K z1 z2 z4 v34 e35⟩, tr, ⟨⟨⟨rfl, rfl, rfl, rfl, tr⟩, rfl, tr⟩, zj1 K v34 a3 v36 e37⟩, tr⟩, ⟨tr, tr⟩⟩ ?_
     refine zqa ?_
     refine AW.ret ?_
     replace h := zqd h
     subst h
     exact ⟨.inr rfl, zqe [(.agg [(cI v36.At), (cF v36.Place.X), (cF v36.Place.Y), (cF v36.Place.Z)])] (by kernel_rfl) ⟨⟨⟨rfl, tr⟩, ⟨rfl, tr⟩, ⟨rfl, tr⟩, ⟨rfl, tr⟩, tr⟩, tr⟩ (of_decide_eq_true (by kernel_rfl))⟩
    ·refine AW.cond_f rfl b33 ?_
     refine AW.skip ?_
     refine zqa ?_
     refine AW.seq ?_
     obtain ⟨v38, e39, h⟩ := zqb h
     obtain ⟨v40, e41, h⟩ := zqb h
     let z28 := zqg v38
     let z31 : List CT := [.agg z24, .agg z25, .one (.flt .f32 v31.bits)]
     refine AW.dA ⟨[(8, (vp 2 0))], [(2, (.box [(cI v40.At), (cF v40.Place.X), (cF v40.Place.Y), (cF v40.Place.Z)]))]⟩ ((Tt ∧ T2 (T4 (((z8 ∧ z12 ∧ (eF v31) ∧ Tt) ∧ CallOK Tryz.prog 48 z31 [.agg z28]) ∧ Tt ∧ ((((eI v38.At) ∧ (eF v38.Place.X) ∧ (eF v38.Place.Y) ∧ (eF v38.Place.Z) ∧ Tt) ∧ (eI a3) ∧ Tt) ∧ CallOK Tryz.prog 47 [.agg z28, .one (.int .i64 a3)] [.agg (zqg v40)]) ∧ Tt))) ∧ (Tt ∧ Tt)) 10 [.no, .no, .no, .no, .no, .no, .no, .call z31 [.agg z28] [[.view, .view, .view, .view]], .no, .call [.agg z28, .one (.int .i64 a3)] [.agg (zqg v40)] [[.view, .view, .view, .view]]] [8] [2] ⟨⟨tr, tr, tr, tr, tr, tr, tr, ⟨⟨⟨rfl, rfl, rfl, rfl, tr⟩, ⟨rfl, rfl, rfl, rfl, tr⟩, rfl, tr⟩, ok_impl_rootTrack_3 K z1 z2 v31 v38 e39⟩, tr, ⟨⟨⟨rfl, rfl, rfl, rfl, tr⟩, rfl, tr⟩, zj1 K v38 a3 v40 e41⟩, tr⟩, ⟨tr, tr⟩⟩ ?_
     refine zqa ?_
     refine AW.ret ?_
     replace h := zqd h
     subst h
     exact ⟨.inr rfl, zqe [(.agg [(cI v40.At), (cF v40.Place.X), (cF v40.Place.Y), (cF v40.Place.Z)])] (by kernel_rfl) ⟨⟨⟨rfl, tr⟩, ⟨rfl, tr⟩, ⟨rfl, tr⟩, ⟨rfl, tr⟩, tr⟩, tr⟩ (of_decide_eq_true (by kernel_rfl))⟩

/-! (*impl.Clip).root -/
def zvw (K : Nat) (a0 : Clip) (a1 : Int) : Option (Vector) :=
 (zjl K ).bind fun v1 => (zw1 K a0.Roots a0.Kind a1).bind fun v3 => some v3.Place

theorem ok_impl_Clip_root (K : Nat) (a0 : Clip) (a1 : Int) (o : (Vector)) (h : zvw K a0 a1 = some o) : CallOK Tryz.prog 50 [.one (pl 4 zqp a0), .one (.int .i64 a1)] [.agg (zqs o)] := by
 refine zqh Tryz.func50 rfl (by kernel_rfl) (Nat.le_of_ble_eq_true (by kernel_rfl)) ?_
 intro w0
 unfold zvw at h
 let z2 := cF (default : F32)
 refine AW.sA ⟨[(0, (vc (pl 4 zqp a0))), (1, (vI a1)), (4, (vp 1 0))], [(1, (.box [z2, z2, z2]))]⟩ (Tt ∧ Tt) [.box 1] [0, 1, 4] [1] ⟨tr, tr⟩ ?_
 refine AW.seq ?_
 obtain ⟨v1, e2, h⟩ := zqb h
 obtain ⟨v3, e4, h⟩ := zqb h
 let z1 := sl 4 zqg a0.Roots
 refine AW.dA ⟨[(4, (vp 1 0))], [(1, (.box [(cF v3.Place.X), (cF v3.Place.Y), (cF v3.Place.Z)]))]⟩ ((((Tt) ∧ CallOK Tryz.prog 23 [] [.agg [(.fn 46 0 fun _ => .nilptr), (.fn 47 0 fun _ => .nilptr), (.fn 48 0 fun _ => .nilptr)]]) ∧ Tt ∧ T4 (T4 (((((Eqc (.fn 46 0 fun _ => .nilptr)) ∧ (Eqc (.fn 47 0 fun _ => .nilptr)) ∧ (Eqc (.fn 48 0 fun _ => .nilptr)) ∧ Tt) ∧ (Eqc z1) ∧ (eI a0.Kind) ∧ (eI a1) ∧ Tt) ∧ CallOK Tryz.prog 80 [.agg [(.fn 46 0 fun _ => .nilptr), (.fn 47 0 fun _ => .nilptr), (.fn 48 0 fun _ => .nilptr)], .one z1, .one (.int .i64 a0.Kind), .one (.int .i64 a1)] [.agg (zqg v3)]) ∧ Tt ∧ Tt))) ∧ (Tt ∧ Tt)) 12 [.call [] [.agg [(.fn 46 0 fun _ => .nilptr), (.fn 47 0 fun _ => .nilptr), (.fn 48 0 fun _ => .nilptr)]] [[.view, .view, .view]], .no, .no, .no, .no, .no, .no, .no, .no, .no, .call [.agg [(.fn 46 0 fun _ => .nilptr), (.fn 47 0 fun _ => .nilptr), (.fn 48 0 fun _ => .nilptr)], .one z1, .one (.int .i64 a0.Kind), .one (.int .i64 a1)] [.agg (zqg v3)] [[.view, .view, .view, .view]]] [4] [1] ⟨⟨⟨tr, ok_impl_rootTrack K v1 e2⟩, tr, tr, tr, tr, tr, tr, tr, tr, tr, ⟨⟨⟨rfl, rfl, rfl, tr⟩, rfl, rfl, rfl, tr⟩, ok_impl_track_impl_RootKey_sample K a0.Roots a0.Kind a1 v3 e4⟩, tr, tr⟩, ⟨tr, tr⟩⟩ ?_
 refine zqa ?_
 refine AW.ret ?_
 replace h := zqd h
 subst h
 exact ⟨.inr rfl, zqe [(.agg [(cF v3.Place.X), (cF v3.Place.Y), (cF v3.Place.Z)])] (by kernel_rfl) ⟨⟨⟨rfl, tr⟩, ⟨rfl, tr⟩, ⟨rfl, tr⟩, tr⟩, tr⟩ (of_decide_eq_true (by kernel_rfl))⟩

/-! impl.turnTrack$2 -/
def zxv (_K : Nat) (a0 : Key) (a1 : Int) : Option (Key) :=
 some (Key.mk a1 a0.Turn)

theorem zj0 (K : Nat) (a0 : Key) (a1 : Int) (o : (Key)) (h : zxv K a0 a1 = some o) : CallOK Tryz.prog 43 [.agg (zqo a0), .one (.int .i64 a1)] [.agg (zqo o)] := by
 refine zqh Tryz.func43 rfl (by kernel_rfl) (Nat.le_of_ble_eq_true (by kernel_rfl)) ?_
 intro w0
 unfold zxv at h
 refine AW.sC (T2 Tt) [.box 1, .box 2] [1, 2, 4] [1, 2] ⟨tr, tr, tr⟩ ?_
 refine AW.sC (Tt ∧ T2 Tt) [] [2, 4] [1, 2] ⟨tr, tr, tr, tr⟩ ?_
 refine AW.sA ⟨[(4, (vp 2 0))], [(2, (.box [(cI a1), (cF a0.Turn.W), (cF a0.Turn.X), (cF a0.Turn.Y), (cF a0.Turn.Z)]))]⟩ (T2 Tt) [] [4] [2] ⟨tr, tr, tr⟩ ?_
 refine AW.ret ?_
 replace h := zqd h
 subst h
 exact ⟨.inr rfl, zqe [(.agg [(cI a1), (cF a0.Turn.W), (cF a0.Turn.X), (cF a0.Turn.Y), (cF a0.Turn.Z)])] (by kernel_rfl) ⟨⟨⟨rfl, tr⟩, ⟨rfl, tr⟩, ⟨rfl, tr⟩, ⟨rfl, tr⟩, ⟨rfl, tr⟩, tr⟩, tr⟩ (of_decide_eq_true (by kernel_rfl))⟩

/-! impl.InnerOfTurns -/
def zx2 (_K : Nat) (a0 : Turn) (a1 : Turn) : Option (F32) :=
 some ((((a0.W.mul a1.W).add (a0.X.mul a1.X)).add (a0.Y.mul a1.Y)).add (a0.Z.mul a1.Z))

theorem ok_impl_InnerOfTurns (K : Nat) (a0 : Turn) (a1 : Turn) (o : (F32)) (h : zx2 K a0 a1 = some o) : CallOK Tryz.prog 73 [.agg (zqi a0), .agg (zqi a1)] [.one (.flt .f32 o.bits)] := by
 refine zqh Tryz.func73 rfl (by kernel_rfl) (Nat.le_of_ble_eq_true (by kernel_rfl)) ?_
 intro w0
 unfold zx2 at h
 refine AW.sC (Tt ∧ T2 Tt) [.box 1, .box 2] [2, 3] [1, 2] ⟨tr, tr, tr, tr⟩ ?_
 let z1 := (((a0.W.mul a1.W).add (a0.X.mul a1.X)).add (a0.Y.mul a1.Y)).add (a0.Z.mul a1.Z)
 refine AW.sA ⟨[(4, (vc (.flt .f32 z1.bits)))], []⟩ (T4 (T4 (T4 (T4 (T4 (T4 Tt)))))) [] [4] [] ⟨tr, tr, tr, tr, tr, tr, tr, tr, tr, tr, tr, tr, tr, tr, tr, tr, tr, tr, tr, tr, tr, tr, tr, tr, tr⟩ ?_
 refine AW.ret ?_
 replace h := zqd h
 subst h
 exact ⟨.inr rfl, zqe [(.one (cF z1))] (by kernel_rfl) ⟨⟨rfl, tr⟩, tr⟩ (of_decide_eq_true (by kernel_rfl))⟩

/-! (impl.Turn).opposite -/
def zj9 (_K : Nat) (a0 : Turn) : Option (Turn) :=
 some (Turn.mk (a0.W.neg) (a0.X.neg) (a0.Y.neg) (a0.Z.neg))

theorem ok_impl_Turn_opposite (K : Nat) (a0 : Turn) (o : (Turn)) (h : zj9 K a0 = some o) : CallOK Tryz.prog 74 [.agg (zqi a0)] [.agg (zqi o)] := by
 refine zqh Tryz.func74 rfl (by kernel_rfl) (Nat.le_of_ble_eq_true (by kernel_rfl)) ?_
 intro w0
 unfold zj9 at h
 refine AW.sC (T2 Tt) [.box 1, .box 2] [1, 2] [1, 2] ⟨tr, tr, tr⟩ ?_
 refine AW.sA ⟨[(2, (vp 2 0))], [(2, (.box [(cF (a0.W.neg)), (cF (a0.X.neg)), (cF (a0.Y.neg)), (cF (a0.Z.neg))]))]⟩ (T2 (T4 (T4 (T4 Tt)))) [] [2] [2] ⟨tr, tr, tr, tr, tr, tr, tr, tr, tr, tr, tr, tr, tr, tr, tr⟩ ?_
 refine AW.ret ?_
 replace h := zqd h
 subst h
 exact ⟨.inr rfl, zqe [(.agg [(cF (a0.W.neg)), (cF (a0.X.neg)), (cF (a0.Y.neg)), (cF (a0.Z.neg))])] (by kernel_rfl) ⟨⟨⟨rfl, tr⟩, ⟨rfl, tr⟩, ⟨rfl, tr⟩, ⟨rfl, tr⟩, tr⟩, tr⟩ (of_decide_eq_true (by kernel_rfl))⟩

/-! impl.between -/
def zxp (_K : Nat) (a0 : F32) (a1 : F32) (a2 : F32) : Option (F32) :=
 some (a0.add (a2.mul (a1.sub a0)))

theorem zxr (K : Nat) (a0 : F32) (a1 : F32) (a2 : F32) (o : (F32)) (h : zxp K a0 a1 a2 = some o) : CallOK Tryz.prog 76 [.one (.flt .f32 a0.bits), .one (.flt .f32 a1.bits), .one (.flt .f32 a2.bits)] [.one (.flt .f32 o.bits)] := by
 refine zqh Tryz.func76 rfl (by kernel_rfl) (Nat.le_of_ble_eq_true (by kernel_rfl)) ?_
 intro w0
 unfold zxp at h
 refine AW.sC (Tt ∧ Tt) [] [0, 1, 2] [] ⟨tr, tr⟩ ?_
 let z1 := a0.add (a2.mul (a1.sub a0))
 refine AW.sA ⟨[(6, (vc (.flt .f32 z1.bits)))], []⟩ (T4 (T4 Tt)) [] [6] [] ⟨tr, tr, tr, tr, tr, tr, tr, tr, tr⟩ ?_
 refine AW.ret ?_
 replace h := zqd h
 subst h
 exact ⟨.inr rfl, zqe [(.one (cF z1))] (by kernel_rfl) ⟨⟨rfl, tr⟩, tr⟩ (of_decide_eq_true (by kernel_rfl))⟩

/-! impl.RootNumber -/
def zx6 (K : Nat) (a0 : F32) : Option (F32) :=
 (zj5 K (Fl.cv .f32 .f64 a0)).bind fun v1 => chk ((zqw .f64 v1.bits .f32).isSome = true) (some (Fl.cv .f64 .f32 v1))

theorem ok_impl_RootNumber (K : Nat) (a0 : F32) (o : (F32)) (h : zx6 K a0 = some o) : CallOK Tryz.prog 115 [.one (.flt .f32 a0.bits)] [.one (.flt .f32 o.bits)] := by
 refine zqh Tryz.func115 rfl (by kernel_rfl) (Nat.le_of_ble_eq_true (by kernel_rfl)) ?_
 intro w0
 unfold zx6 at h
 refine AW.sC (Tt ∧ Tt) [] [0] [] ⟨tr, tr⟩ ?_
 refine AW.seq ?_
 obtain ⟨v1, e2, h⟩ := zqb h
 obtain ⟨c3, h⟩ := zqn h
 let z1 := Fl.cv .f32 .f64 a0
 refine AW.tA ⟨[(2, (vc (.flt .f32 (Fl.cv .f64 .f32 v1).bits)))], []⟩ (Tt ∧ ((zqw .f32 a0.bits .f64).isSome = true) ∧ (((Eqc (.flt .f64 z1.bits)) ∧ Tt) ∧ CallOK Tryz.prog 122 [.one (.flt .f64 z1.bits)] [.one (.flt .f64 v1.bits)]) ∧ ((zqw .f64 v1.bits .f32).isSome = true) ∧ Tt ∧ Tt) [.no, .no, .call [.one (.flt .f64 z1.bits)] [.one (.flt .f64 v1.bits)] [[.view]]] [2] [] ⟨tr, zbb a0, ⟨⟨rfl, tr⟩, zyw K z1 v1 e2⟩, c3, tr, tr⟩ ?_
 refine AW.ret ?_
 replace h := zqd h
 subst h
 exact ⟨.inr rfl, zqe [(.one (cF (Fl.cv .f64 .f32 v1)))] (by kernel_rfl) ⟨⟨rfl, tr⟩, tr⟩ (of_decide_eq_true (by kernel_rfl))⟩

/-! impl.LengthOfTurn -/
def zvr (K : Nat) (a0 : Turn) : Option (F32) :=
 (zx2 K a0 a0).bind fun v1 => (zx6 K v1).bind fun v3 => some v3

theorem ok_impl_LengthOfTurn (K : Nat) (a0 : Turn) (o : (F32)) (h : zvr K a0 = some o) : CallOK Tryz.prog 98 [.agg (zqi a0)] [.one (.flt .f32 o.bits)] := by
 refine zqh Tryz.func98 rfl (by kernel_rfl) (Nat.le_of_ble_eq_true (by kernel_rfl)) ?_
 intro w0
 unfold zvr at h
 refine AW.sC (T2 Tt) [.box 1] [1] [1] ⟨tr, tr, tr⟩ ?_
 refine AW.seq ?_
 obtain ⟨v1, e2, h⟩ := zqb h
 obtain ⟨v3, e4, h⟩ := zqb h
 let z1 : List CT := [.one (.flt .f32 v1.bits)]
 let z2 := (eF a0.W) ∧ (eF a0.X) ∧ (eF a0.Y) ∧ (eF a0.Z) ∧ Tt
 let z3 : List CT := [.agg (zqi a0), .agg (zqi a0)]
 refine AW.tA ⟨[(2, (vc (.flt .f32 v3.bits)))], []⟩ (T2 (((z2 ∧ z2 ∧ Tt) ∧ CallOK Tryz.prog 73 z3 z1) ∧ (((eF v1) ∧ Tt) ∧ CallOK Tryz.prog 115 z1 [.one (.flt .f32 v3.bits)]) ∧ Tt ∧ Tt)) [.no, .no, .call z3 z1 [[.view]], .call z1 [.one (.flt .f32 v3.bits)] [[.view]]] [2] [] ⟨tr, tr, ⟨⟨⟨rfl, rfl, rfl, rfl, tr⟩, ⟨rfl, rfl, rfl, rfl, tr⟩, tr⟩, ok_impl_InnerOfTurns K a0 a0 v1 e2⟩, ⟨⟨rfl, tr⟩, ok_impl_RootNumber K v1 v3 e4⟩, tr, tr⟩ ?_
 refine AW.ret ?_
 replace h := zqd h
 subst h
 exact ⟨.inr rfl, zqe [(.one (cF v3))] (by kernel_rfl) ⟨⟨rfl, tr⟩, tr⟩ (of_decide_eq_true (by kernel_rfl))⟩

/-! impl.IsFinite -/
def zjg (_K : Nat) (a0 : F32) : Option (Bool) :=
 some ((a0.sub a0).eq (Fl.mk (k := .f32) 0 (by decide)))

theorem zj6 (K : Nat) (a0 : F32) (o : (Bool)) (h : zjg K a0 = some o) : CallOK Tryz.prog 116 [.one (.flt .f32 a0.bits)] [.one (.bool o)] := by
 refine zqh Tryz.func116 rfl (by kernel_rfl) (Nat.le_of_ble_eq_true (by kernel_rfl)) ?_
 intro w0
 unfold zjg at h
 refine AW.sC (Tt ∧ Tt) [] [0] [] ⟨tr, tr⟩ ?_
 let z1 := (a0.sub a0).eq (Fl.mk (k := .f32) 0 (by decide))
 refine AW.sA ⟨[(2, (vB z1))], []⟩ (Tt ∧ T4 Tt) [] [2] [] ⟨tr, tr, tr, tr, tr, tr⟩ ?_
 refine AW.ret ?_
 replace h := zqd h
 subst h
 exact ⟨.inr rfl, zqe [(.one (.c (.bool z1)))] (by kernel_rfl) ⟨⟨rfl, tr⟩, tr⟩ (of_decide_eq_true (by kernel_rfl))⟩

/-! impl.isLength -/
def zyf (K : Nat) (a0 : F32) : Option (Bool) :=
 (zjg K a0).bind fun v1 => (ite2 (v1) (some (a0.ne (Fl.mk (k := .f32) 0 (by decide)))) (some false)).bind fun j4 => some j4

theorem ok_impl_isLength (K : Nat) (a0 : F32) (o : (Bool)) (h : zyf K a0 = some o) : CallOK Tryz.prog 99 [.one (.flt .f32 a0.bits)] [.one (.bool o)] := by
 refine zqh Tryz.func99 rfl (by kernel_rfl) (Nat.le_of_ble_eq_true (by kernel_rfl)) ?_
 intro w0
 unfold zyf at h
 refine AW.sA ⟨[(0, (vc (.flt .f32 a0.bits)))], []⟩ (Tt ∧ Tt) [] [0] [] ⟨tr, tr⟩ ?_
 refine AW.seq ?_
 obtain ⟨v1, e2, h⟩ := zqb h
 obtain ⟨j4, e5, h⟩ := zqb h
 refine AW.join1 (s2 := ⟨[(2, (vB j4))], []⟩) ?_ ?_
 ·rcases zqc e5 with ⟨b3, e5⟩ | ⟨b3, e5⟩
  ·replace e5 := zqd e5
   subst e5
   exact AW.rA ⟨[(2, (vB (a0.ne (Fl.mk (k := .f32) 0 (by decide)))))], []⟩ (Tt ∧ (((eF a0) ∧ Tt) ∧ CallOK Tryz.prog 116 [.one (.flt .f32 a0.bits)] [.one (.bool v1)]) ∧ (Tt ∧ v1 = true) ∧ T4 Tt) [.no, .call [.one (.flt .f32 a0.bits)] [.one (.bool v1)] [[.view]], .dec true] [2] [] ⟨tr, ⟨⟨rfl, tr⟩, zj6 K a0 v1 e2⟩, ⟨tr, b3⟩, tr, tr, tr, tr, tr⟩ ⟨rfl, rfl⟩
  ·replace e5 := zqd e5
   subst e5
   exact AW.rA ⟨[(2, (vB false))], []⟩ (Tt ∧ (((eF a0) ∧ Tt) ∧ CallOK Tryz.prog 116 [.one (.flt .f32 a0.bits)] [.one (.bool v1)]) ∧ (Tt ∧ v1 = false) ∧ T4 Tt) [.no, .call [.one (.flt .f32 a0.bits)] [.one (.bool v1)] [[.view]], .dec false] [2] [] ⟨tr, ⟨⟨rfl, tr⟩, zj6 K a0 v1 e2⟩, ⟨tr, b3⟩, tr, tr, tr, tr, tr⟩ ⟨rfl, rfl⟩
 refine zqa ?_
 refine AW.ret ?_
 replace h := zqd h
 subst h
 exact ⟨.inr rfl, zqe [(.one (.c (.bool j4)))] (by kernel_rfl) ⟨⟨rfl, tr⟩, tr⟩ (of_decide_eq_true (by kernel_rfl))⟩

/-! impl.NoTurn -/
def zbh (_K : Nat) : Option (Turn) :=
 some (Turn.mk (Fl.mk (k := .f32) 1065353216 (by decide)) (default : F32) (default : F32) (default : F32))

theorem ok_impl_NoTurn (K : Nat) (o : (Turn)) (h : zbh K  = some o) : CallOK Tryz.prog 100 [] [.agg (zqi o)] := by
 refine zqh Tryz.func100 rfl (by kernel_rfl) (Nat.le_of_ble_eq_true (by kernel_rfl)) ?_
 intro w0
 unfold zbh at h
 refine AW.sC (Tt ∧ Tt) [.box 1] [0] [1] ⟨tr, tr⟩ ?_
 let z1 := cF (default : F32)
 let z2 := cF (Fl.mk (k := .f32) 1065353216 (by decide))
 refine AW.sA ⟨[(0, (vp 1 0))], [(1, (.box [z2, z1, z1, z1]))]⟩ (T2 Tt) [] [0] [1] ⟨tr, tr, tr⟩ ?_
 refine AW.ret ?_
 replace h := zqd h
 subst h
 exact ⟨.inr rfl, zqe [(.agg [z2, z1, z1, z1])] (by kernel_rfl) ⟨⟨⟨rfl, tr⟩, ⟨rfl, tr⟩, ⟨rfl, tr⟩, ⟨rfl, tr⟩, tr⟩, tr⟩ (of_decide_eq_true (by kernel_rfl))⟩

/-! impl.MendTurn -/
def zvl (K : Nat) (a0 : Turn) : Option (Turn) :=
 (zvr K a0).bind fun v1 => (zyf K v1).bind fun v3 => ite2 ((!v3)) ((zbh K ).bind fun v6 => some v6) (some (Turn.mk (a0.W.div v1) (a0.X.div v1) (a0.Y.div v1) (a0.Z.div v1)))

theorem ok_impl_MendTurn (K : Nat) (a0 : Turn) (o : (Turn)) (h : zvl K a0 = some o) : CallOK Tryz.prog 75 [.agg (zqi a0)] [.agg (zqi o)] := by
 refine zqh Tryz.func75 rfl (by kernel_rfl) (Nat.le_of_ble_eq_true (by kernel_rfl)) ?_
 intro w0
 unfold zvl at h
 refine AW.sC (T2 Tt) [.box 1, .box 2] [1, 2] [1, 2] ⟨tr, tr, tr⟩ ?_
 refine AW.seq ?_
 obtain ⟨v1, e2, h⟩ := zqb h
 let z1 : List CT := [.one (.flt .f32 v1.bits)]
 refine AW.tC (Tt ∧ ((((eF a0.W) ∧ (eF a0.X) ∧ (eF a0.Y) ∧ (eF a0.Z) ∧ Tt) ∧ Tt) ∧ CallOK Tryz.prog 98 [.agg (zqi a0)] z1) ∧ Tt ∧ Tt) [.no, .call [.agg (zqi a0)] z1 [[.view]]] [1, 2, 3] [1, 2] ⟨tr, ⟨⟨⟨rfl, rfl, rfl, rfl, tr⟩, tr⟩, ok_impl_LengthOfTurn K a0 v1 e2⟩, tr, tr⟩ ?_
 refine AW.seq ?_
 refine AW.seq ?_
 obtain ⟨v3, e4, h⟩ := zqb h
 let z2 := cF (default : F32)
 refine AW.tA ⟨[(1, (vp 1 0)), (2, (vp 2 0)), (3, (vc (.flt .f32 v1.bits))), (8, (vB (!v3)))], [(1, (.box [(cF a0.W), (cF a0.X), (cF a0.Y), (cF a0.Z)])), (2, (.box [z2, z2, z2, z2]))]⟩ (Tt ∧ (((eF v1) ∧ Tt) ∧ CallOK Tryz.prog 99 z1 [.one (.bool v3)]) ∧ Tt ∧ Tt) [.no, .call z1 [.one (.bool v3)] [[.view]]] [1, 2, 3, 8] [1, 2] ⟨tr, ⟨⟨rfl, tr⟩, ok_impl_isLength K v1 v3 e4⟩, tr, tr⟩ ?_
 rcases zqc h with ⟨b5, h⟩ | ⟨b5, h⟩
 ·refine AW.cond_t rfl b5 ?_
  refine AW.seq ?_
  obtain ⟨v6, e7, h⟩ := zqb h
  refine AW.tA ⟨[(2, (vp 2 0))], [(2, (.box [(cF v6.W), (cF v6.X), (cF v6.Y), (cF v6.Z)]))]⟩ (((Tt) ∧ CallOK Tryz.prog 100 [] [.agg (zqi v6)]) ∧ Tt ∧ Tt) [.call [] [.agg (zqi v6)] [[.view, .view, .view, .view]]] [2] [2] ⟨⟨tr, ok_impl_NoTurn K v6 e7⟩, tr, tr⟩ ?_
  refine AW.ret ?_
  refine zqm ?_
  replace h := zqd h
  subst h
  exact ⟨.inr rfl, zqe [(.agg [(cF v6.W), (cF v6.X), (cF v6.Y), (cF v6.Z)])] (by kernel_rfl) ⟨⟨⟨rfl, tr⟩, ⟨rfl, tr⟩, ⟨rfl, tr⟩, ⟨rfl, tr⟩, tr⟩, tr⟩ (of_decide_eq_true (by kernel_rfl))⟩
 ·refine AW.cond_f rfl b5 ?_
  refine AW.skip ?_
  refine zqa ?_
  refine AW.sA ⟨[(2, (vp 2 0))], [(2, (.box [(cF (a0.W.div v1)), (cF (a0.X.div v1)), (cF (a0.Y.div v1)), (cF (a0.Z.div v1))]))]⟩ (T2 (T4 (T4 (T4 (T4 Tt))))) [] [2] [2] ⟨tr, tr, tr, tr, tr, tr, tr, tr, tr, tr, tr, tr, tr, tr, tr, tr, tr, tr, tr⟩ ?_
  refine AW.ret ?_
  replace h := zqd h
  subst h
  exact ⟨.inr rfl, zqe [(.agg [(cF (a0.W.div v1)), (cF (a0.X.div v1)), (cF (a0.Y.div v1)), (cF (a0.Z.div v1))])] (by kernel_rfl) ⟨⟨⟨rfl, tr⟩, ⟨rfl, tr⟩, ⟨rfl, tr⟩, ⟨rfl, tr⟩, tr⟩, tr⟩ (of_decide_eq_true (by kernel_rfl))⟩

/-! impl.NearTurn -/
def zvp (K : Nat) (a0 : Turn) (a1 : Turn) (a2 : F32) : Option (Turn) :=
 (zx2 K a0 a1).bind fun v1 => ite2 ((v1.lt' (Fl.mk (k := .f32) 0 (by decide)))) ((zj9 K a1).bind fun v4 => (zxp K a0.W v4.W a2).bind fun v6 => (zxp K a0.X v4.X a2).bind fun v8 => (zxp K a0.Y v4.Y a2).bind fun v10 => (zxp K a0.Z v4.Z a2).bind fun v12 => (zvl K (Turn.mk v6 v8 v10 v12)).bind fun v14 => some v14) ((zxp K a0.W a1.W a2).bind fun v16 => (zxp K a0.X a1.X a2).bind fun v18 => (zxp K a0.Y a1.Y a2).bind fun v20 => (zxp K a0.Z a1.Z a2).bind fun v22 => (zvl K (Turn.mk v16 v18 v20 v22)).bind fun v24 => some v24)

theorem ok_impl_NearTurn (K : Nat) (a0 : Turn) (a1 : Turn) (a2 : F32) (o : (Turn)) (h : zvp K a0 a1 a2 = some o) : CallOK Tryz.prog 45 [.agg (zqi a0), .agg (zqi a1), .one (.flt .f32 a2.bits)] [.agg (zqi o)] := by
 refine zqh Tryz.func45 rfl (by kernel_rfl) (Nat.le_of_ble_eq_true (by kernel_rfl)) ?_
 intro w0
 unfold zvp at h
 refine AW.sC (Tt ∧ T2 Tt) [.box 1, .box 2, .box 3] [2, 3, 4, 6] [1, 2, 3] ⟨tr, tr, tr, tr⟩ ?_
 refine AW.seq ?_
 refine AW.seq ?_
 obtain ⟨v1, e2, h⟩ := zqb h
 let z1 := cF (default : F32)
 let z10 := (eF a1.W) ∧ (eF a1.X) ∧ (eF a1.Y) ∧ (eF a1.Z) ∧ Tt
 let z13 : List CT := [.agg (zqi a0), .agg (zqi a1)]
 refine AW.tA ⟨[(2, (vc (.flt .f32 a2.bits))), (3, (vp 1 0)), (4, (vp 2 0)), (6, (vp 3 0)), (10, (vB (v1.lt' (Fl.mk (k := .f32) 0 (by decide)))))], [(1, (.box [(cF a0.W), (cF a0.X), (cF a0.Y), (cF a0.Z)])), (2, (.box [(cF a1.W), (cF a1.X), (cF a1.Y), (cF a1.Z)])), (3, (.box [z1, z1, z1, z1]))]⟩ (T2 (((((eF a0.W) ∧ (eF a0.X) ∧ (eF a0.Y) ∧ (eF a0.Z) ∧ Tt) ∧ z10 ∧ Tt) ∧ CallOK Tryz.prog 73 z13 [.one (.flt .f32 v1.bits)]) ∧ Tt ∧ Tt)) [.no, .no, .call z13 [.one (.flt .f32 v1.bits)] [[.view]]] [2, 3, 4, 6, 10] [1, 2, 3] ⟨tr, tr, ⟨⟨⟨rfl, rfl, rfl, rfl, tr⟩, ⟨rfl, rfl, rfl, rfl, tr⟩, tr⟩, ok_impl_InnerOfTurns K a0 a1 v1 e2⟩, tr, tr⟩ ?_
 rcases zqc h with ⟨b3, h⟩ | ⟨b3, h⟩
 ·refine AW.cond_t rfl b3 ?_
  obtain ⟨v4, e5, h⟩ := zqb h
  refine AW.tA ⟨[(2, (vc (.flt .f32 a2.bits))), (3, (vp 1 0)), (4, (vp 2 0)), (6, (vp 3 0))], [(1, (.box [(cF a0.W), (cF a0.X), (cF a0.Y), (cF a0.Z)])), (2, (.box [(cF v4.W), (cF v4.X), (cF v4.Y), (cF v4.Z)])), (3, (.box [z1, z1, z1, z1]))]⟩ (Tt ∧ ((z10 ∧ Tt) ∧ CallOK Tryz.prog 74 [.agg (zqi a1)] [.agg (zqi v4)]) ∧ Tt ∧ Tt) [.no, .call [.agg (zqi a1)] [.agg (zqi v4)] [[.view, .view, .view, .view]]] [2, 3, 4, 6] [1, 2, 3] ⟨tr, ⟨⟨⟨rfl, rfl, rfl, rfl, tr⟩, tr⟩, ok_impl_Turn_opposite K a1 v4 e5⟩, tr, tr⟩ ?_
  refine AW.seq ?_
  obtain ⟨v6, e7, h⟩ := zqb h
  obtain ⟨v8, e9, h⟩ := zqb h
  obtain ⟨v10, e11, h⟩ := zqb h
  obtain ⟨v12, e13, h⟩ := zqb h
  obtain ⟨v14, e15, h⟩ := zqb h
  let z2 : List CT := [.one (.flt .f32 a0.W.bits), .one (.flt .f32 v4.W.bits), .one (.flt .f32 a2.bits)]
  let z3 : List CT := [.one (.flt .f32 a0.X.bits), .one (.flt .f32 v4.X.bits), .one (.flt .f32 a2.bits)]
  let z4 : List CT := [.one (.flt .f32 a0.Y.bits), .one (.flt .f32 v4.Y.bits), .one (.flt .f32 a2.bits)]
  let z5 : List CT := [.one (.flt .f32 a0.Z.bits), .one (.flt .f32 v4.Z.bits), .one (.flt .f32 a2.bits)]
  let z12 := Turn.mk v6 v8 v10 v12
  refine AW.dA ⟨[(6, (vp 3 0))], [(3, (.box [(cF v14.W), (cF v14.X), (cF v14.Y), (cF v14.Z)]))]⟩ ((Tt ∧ T4 ((((eF a0.W) ∧ (eF v4.W) ∧ (eF a2) ∧ Tt) ∧ CallOK Tryz.prog 76 z2 [.one (.flt .f32 v6.bits)]) ∧ Tt ∧ T4 ((((eF a0.X) ∧ (eF v4.X) ∧ (eF a2) ∧ Tt) ∧ CallOK Tryz.prog 76 z3 [.one (.flt .f32 v8.bits)]) ∧ Tt ∧ T4 ((((eF a0.Y) ∧ (eF v4.Y) ∧ (eF a2) ∧ Tt) ∧ CallOK Tryz.prog 76 z4 [.one (.flt .f32 v10.bits)]) ∧ Tt ∧ T4 ((((eF a0.Z) ∧ (eF v4.Z) ∧ (eF a2) ∧ Tt) ∧ CallOK Tryz.prog 76 z5 [.one (.flt .f32 v12.bits)]) ∧ Tt ∧ ((((eF v6) ∧ (eF v8) ∧ (eF v10) ∧ (eF v12) ∧ Tt) ∧ Tt) ∧ CallOK Tryz.prog 75 [.agg (zqi z12)] [.agg (zqi v14)]) ∧ Tt))))) ∧ (Tt ∧ Tt)) 26 [.no, .no, .no, .no, .no, .call z2 [.one (.flt .f32 v6.bits)] [[.view]], .no, .no, .no, .no, .no, .call z3 [.one (.flt .f32 v8.bits)] [[.view]], .no, .no, .no, .no, .no, .call z4 [.one (.flt .f32 v10.bits)] [[.view]], .no, .no, .no, .no, .no, .call z5 [.one (.flt .f32 v12.bits)] [[.view]], .no, .call [.agg (zqi z12)] [.agg (zqi v14)] [[.view, .view, .view, .view]]] [6] [3] ⟨⟨tr, tr, tr, tr, tr, ⟨⟨rfl, rfl, rfl, tr⟩, zxr K a0.W v4.W a2 v6 e7⟩, tr, tr, tr, tr, tr, ⟨⟨rfl, rfl, rfl, tr⟩, zxr K a0.X v4.X a2 v8 e9⟩, tr, tr, tr, tr, tr, ⟨⟨rfl, rfl, rfl, tr⟩, zxr K a0.Y v4.Y a2 v10 e11⟩, tr, tr, tr, tr, tr, ⟨⟨rfl, rfl, rfl, tr⟩, zxr K a0.Z v4.Z a2 v12 e13⟩, tr, ⟨⟨⟨rfl, rfl, rfl, rfl, tr⟩, tr⟩, ok_impl_MendTurn K z12 v14 e15⟩, tr⟩, ⟨tr, tr⟩⟩ ?_
  refine zqa ?_
  refine AW.ret ?_
  replace h := zqd h
  subst h
  exact ⟨.inr rfl, zqe [(.agg [(cF v14.W), (cF v14.X), (cF v14.Y), (cF v14.Z)])] (by kernel_rfl) ⟨⟨⟨rfl, tr⟩, ⟨rfl, tr⟩, ⟨rfl, tr⟩, ⟨rfl, tr⟩, tr⟩, tr⟩ (of_decide_eq_true (by kernel_rfl))⟩
 ·refine AW.cond_f rfl b3 ?_
  refine AW.skip ?_
  refine zqa ?_
  refine AW.seq ?_
  obtain ⟨v16, e17, h⟩ := zqb h
  obtain ⟨v18, e19, h⟩ := zqb h
  obtain ⟨v20, e21, h⟩ := zqb h
  obtain ⟨v22, e23, h⟩ := zqb h
  obtain ⟨v24, e25, h⟩ := zqb h
  let z6 : List CT := [.one (.flt .f32 a0.W.bits), .one (.flt .f32 a1.W.bits), .one (.flt .f32 a2.bits)]
  let z7 : List CT := [.one (.flt .f32 a0.X.bits), .one (.flt .f32 a1.X.bits), .one (.flt .f32 a2.bits)]
  let z8 : List CT := [.one (.flt .f32 a0.Y.bits), .one (.flt .f32 a1.Y.bits), .one (.flt .f32 a2.bits)]
  let z9 : List CT := [.one (.flt .f32 a0.Z.bits), .one (.flt .f32 a1.Z.bits), .one (.flt .f32 a2.bits)]
  let z11 := Turn.mk v16 v18 v20 v22
  refine AW.dA ⟨[(6, (vp 3 0))], [(3, (.box [(cF v24.W), (cF v24.X), (cF v24.Y), (cF v24.Z)]))]⟩ ((Tt ∧ T4 ((((eF a0.W) ∧ (eF a1.W) ∧ (eF a2) ∧ Tt) ∧ CallOK Tryz.prog 76 z6 [.one (.flt .f32 v16.bits)]) ∧ Tt ∧ T4 ((((eF a0.X) ∧ (eF a1.X) ∧ (eF a2) ∧ Tt) ∧ CallOK Tryz.prog 76 z7 [.one (.flt .f32 v18.bits)]) ∧ Tt ∧ T4 ((((eF a0.Y) ∧ (eF a1.Y) ∧ (eF a2) ∧ Tt) ∧ CallOK Tryz.prog 76 z8 [.one (.flt .f32 v20.bits)]) ∧ Tt ∧ T4 ((((eF a0.Z) ∧ (eF a1.Z) ∧ (eF a2) ∧ Tt) ∧ CallOK Tryz.prog 76 z9 [.one (.flt .f32 v22.bits)]) ∧ Tt ∧ ((((eF v16) ∧ (eF v18) ∧ (eF v20) ∧ (eF v22) ∧ Tt) ∧ Tt) ∧ CallOK Tryz.prog 75 [.agg (zqi z11)] [.agg (zqi v24)]) ∧ Tt))))) ∧ (Tt ∧ Tt)) 26 [.no, .no, .no, .no, .no, .call z6 [.one (.flt .f32 v16.bits)] [[.view]], .no, .no, .no, .no, .no, .call z7 [.one (.flt .f32 v18.bits)] [[.view]], .no, .no, .no, .no, .no, .call z8 [.one (.flt .f32 v20.bits)] [[.view]], .no, .no, .no, .no, .no, .call z9 [.one (.flt .f32 v22.bits)] [[.view]], .no, .call [.agg (zqi z11)] [.agg (zqi v24)] [[.view, .view, .view, .view]]] [6] [3] ⟨⟨tr, tr, tr, tr, tr, ⟨⟨rfl, rfl, rfl, tr⟩, zxr K a0.W a1.W a2 v16 e17⟩, tr, tr, tr, tr, tr, ⟨⟨rfl, rfl, rfl, tr⟩, zxr K a0.X a1.X a2 v18 e19⟩, tr, tr, tr, tr, tr, ⟨⟨rfl, rfl, rfl, tr⟩, zxr K a0.Y a1.Y a2 v20 e21⟩, tr, tr, tr, tr, tr, ⟨⟨rfl, rfl, rfl, tr⟩, zxr K a0.Z a1.Z a2 v22 e23⟩, tr, ⟨⟨⟨rfl, rfl, rfl, rfl, tr⟩, tr⟩, ok_impl_MendTurn K z11 v24 e25⟩, tr⟩, ⟨tr, tr⟩⟩ ?_
  refine zqa ?_
  refine AW.ret ?_
  replace h := zqd h
  subst h
  exact ⟨.inr rfl, zqe [(.agg [(cF v24.W), (cF v24.X), (cF v24.Y), (cF v24.Z)])] (by kernel_rfl) ⟨⟨⟨rfl, tr⟩, ⟨rfl, tr⟩, ⟨rfl, tr⟩, ⟨rfl, tr⟩, tr⟩, tr⟩ (of_decide_eq_true (by kernel_rfl))⟩

/-! impl.turnTrack$3 -/
def zjd (K : Nat) (a0 : Key) (a1 : Key) (a2 : F32) : Option (Key) :=
 (zvp K a0.Turn a1.Turn a2).bind fun v1 => some (Key.mk a0.At v1)

theorem ok_impl_turnTrack_3 (K : Nat) (a0 : Key) (a1 : Key) (a2 : F32) (o : (Key)) (h : zjd K a0 a1 a2 = some o) : CallOK Tryz.prog 44 [.agg (zqo a0), .agg (zqo a1), .one (.flt .f32 a2.bits)] [.agg (zqo o)] := by
 refine zqh Tryz.func44 rfl (by kernel_rfl) (Nat.le_of_ble_eq_true (by kernel_rfl)) ?_
 intro w0
 unfold zjd at h
 refine AW.sC (Tt ∧ T2 Tt) [.box 1, .box 2, .box 3] [2, 3, 4, 6] [1, 2, 3] ⟨tr, tr, tr, tr⟩ ?_
 refine AW.seq ?_
 obtain ⟨v1, e2, h⟩ := zqb h
 let z1 : List CT := [.agg (zqi a0.Turn), .agg (zqi a1.Turn), .one (.flt .f32 a2.bits)]
 refine AW.tC (Tt ∧ T4 (((((eF a0.Turn.W) ∧ (eF a0.Turn.X) ∧ (eF a0.Turn.Y) ∧ (eF a0.Turn.Z) ∧ Tt) ∧ ((eF a1.Turn.W) ∧ (eF a1.Turn.X) ∧ (eF a1.Turn.Y) ∧ (eF a1.Turn.Z) ∧ Tt) ∧ (eF a2) ∧ Tt) ∧ CallOK Tryz.prog 45 z1 [.agg (zqi v1)]) ∧ T2 Tt)) [.no, .no, .no, .no, .no, .call z1 [.agg (zqi v1)] [[.view, .view, .view, .view]]] [3, 6] [1, 3] ⟨tr, tr, tr, tr, tr, ⟨⟨⟨rfl, rfl, rfl, rfl, tr⟩, ⟨rfl, rfl, rfl, rfl, tr⟩, rfl, tr⟩, ok_impl_NearTurn K a0.Turn a1.Turn a2 v1 e2⟩, tr, tr, tr⟩ ?_
 refine AW.sA ⟨[(6, (vp 3 0))], [(3, (.box [(cI a0.At), (cF v1.W), (cF v1.X), (cF v1.Y), (cF v1.Z)]))]⟩ (T2 Tt) [] [6] [3] ⟨tr, tr, tr⟩ ?_
 refine AW.ret ?_
 replace h := zqd h
 subst h
 exact ⟨.inr rfl, zqe [(.agg [(cI a0.At), (cF v1.W), (cF v1.X), (cF v1.Y), (cF v1.Z)])] (by kernel_rfl) ⟨⟨⟨rfl, tr⟩, ⟨rfl, tr⟩, ⟨rfl, tr⟩, ⟨rfl, tr⟩, ⟨rfl, tr⟩, tr⟩, tr⟩ (of_decide_eq_true (by kernel_rfl))⟩

/-! (impl.track[impl.Key]).sample -/
def zqy (K : Nat) (a1 : (List Key)) (a2 : Int) (a3 : Int) : Nat → Int → Option (Key)
 | 0, _ => none
 | k + 1, x2 => (ite2 ((decide (x2 < (a1.length : Int)))) (chk (0 ≤ x2 ∧ x2 < (a1.length : Int)) ((zwo K (a1.getD x2.toNat default)).bind fun v5 => some (decide (v5 ≤ a3)))) (some false)).bind fun j7 => ite2 (j7) (zqy K a1 a2 a3 k (IntKind.i64.wrap (x2 + (1 : Int)))) (ite2 ((x2 == (0 : Int))) (chk (0 ≤ (0 : Int) ∧ (0 : Int) < (a1.length : Int)) ((zxv K (a1.getD ((0 : Int).toNat) default) a3).bind fun v12 => some v12)) ((ite2 ((x2 == (a1.length : Int))) (some true) (chk (0 ≤ (IntKind.i64.wrap (x2 - (1 : Int))) ∧ (IntKind.i64.wrap (x2 - (1 : Int))) < (a1.length : Int)) ((zwo K (a1.getD ((IntKind.i64.wrap (x2 - (1 : Int))).toNat) default)).bind fun v16 => ite2 ((v16 == a3)) (some true) (some (a2 == (0 : Int)))))).bind fun j19 => ite2 (j19) (chk (0 ≤ (IntKind.i64.wrap (x2 - (1 : Int))) ∧ (IntKind.i64.wrap (x2 - (1 : Int))) < (a1.length : Int)) ((zxv K (a1.getD ((IntKind.i64.wrap (x2 - (1 : Int))).toNat) default) a3).bind fun v23 => some v23)) (chk (0 ≤ (IntKind.i64.wrap (x2 - (1 : Int))) ∧ (IntKind.i64.wrap (x2 - (1 : Int))) < (a1.length : Int)) (chk (0 ≤ x2 ∧ x2 < (a1.length : Int)) ((zwo K (a1.getD ((IntKind.i64.wrap (x2 - (1 : Int))).toNat) default)).bind fun v27 => (zwo K (a1.getD x2.toNat default)).bind fun v29 => (zvn K v27 a3 v29).bind fun v31 => ite2 ((a2 == (2 : Int))) ((zjd K (a1.getD ((IntKind.i64.wrap (x2 - (1 : Int))).toNat) default) (a1.getD x2.toNat default) ((v31.mul v31).mul ((Fl.mk (k := .f32) 1077936128 (by decide)).sub ((Fl.mk (k := .f32) 1073741824 (by decide)).mul v31)))).bind fun v34 => (zxv K v34 a3).bind fun v36 => some v36) ((zjd K (a1.getD ((IntKind.i64.wrap (x2 - (1 : Int))).toNat) default) (a1.getD x2.toNat default) v31).bind fun v38 => (zxv K v38 a3).bind fun v40 => some v40))))))

def zwz (K : Nat) (a1 : (List Key)) (a2 : Int) (a3 : Int) : Option (Key) :=
 zqy K a1 a2 a3 K (0 : Int)

theorem ok_impl_track_impl_Key_sample (K : Nat) (a1 : (List Key)) (a2 : Int) (a3 : Int) (o : (Key)) (h : zwz K a1 a2 a3 = some o) : CallOK Tryz.prog 51 [.agg [(.fn 42 0 fun _ => .nilptr), (.fn 43 0 fun _ => .nilptr), (.fn 44 0 fun _ => .nilptr)], .one (sl 5 zqo a1), .one (.int .i64 a2), .one (.int .i64 a3)] [.agg (zqo o)] := by
 refine zqh Tryz.func51 rfl (by kernel_rfl) (Nat.le_of_ble_eq_true (by kernel_rfl)) ?_
 intro w0
 unfold zwz at h
 refine AW.sC (T2 Tt) [.box 1, .box 2] [1, 2, 3, 4, 8] [1, 2] ⟨tr, tr, tr⟩ ?_
 let z3 := cF (default : F32)
 let z10 := vc (sl 5 zqo a1)
 let z12 := cI (0 : Int)
 refine AW.sA ⟨[(1, z10), (2, (vI a2)), (3, (vI a3)), (4, (vp 1 0)), (8, (vp 2 0)), (9, (vI (0 : Int)))], [(1, (.box [(.c (.fn 42 0 fun _ => .nilptr)), (.c (.fn 43 0 fun _ => .nilptr)), (.c (.fn 44 0 fun _ => .nilptr))])), (2, (.box [z12, z3, z3, z3, z3]))]⟩ (Tt ∧ Tt) [] [1, 2, 3, 4, 8, 9] [1, 2] ⟨tr, tr⟩ ?_
 refine AW.seq ?_
 refine AW.block ?_
 refine AW.loopQ (σ := Nat × Int) (fun p => ⟨[(1, z10), (2, (vI a2)), (3, (vI a3)), (4, (vp 1 0)), (8, (vp 2 0)), (9, (vI p.2))], [(1, (.box [(.c (.fn 42 0 fun _ => .nilptr)), (.c (.fn 43 0 fun _ => .nilptr)), (.c (.fn 44 0 fun _ => .nilptr))])), (2, (.box [z12, z3, z3, z3, z3]))]⟩) (fun p => zqy K a1 a2 a3 p.1 p.2 = some o) (fun p => p.1) (K, (0 : Int)) h ?_
 clear h
 rintro ⟨k, x2⟩ h
 replace h : zqy K a1 a2 a3 k x2 = some o := h
 show AW _ _ (⟨[(1, z10), (2, (vI a2)), (3, (vI a3)), (4, (vp 1 0)), (8, (vp 2 0)), (9, (vI x2))], [(1, (.box [(.c (.fn 42 0 fun _ => .nilptr)), (.c (.fn 43 0 fun _ => .nilptr)), (.c (.fn 44 0 fun _ => .nilptr))])), (2, (.box [z12, z3, z3, z3, z3]))]⟩ : St) _
 obtain _ | k := k
 ·rw [zqy] at h; cases h
 rw [zqy] at h
 refine AW.seq ?_
 refine AW.seq ?_
 obtain ⟨j7, e8, h⟩ := zqb h
 refine AW.join1 (s2 := ⟨[(1, z10), (2, (vI a2)), (3, (vI a3)), (4, (vp 1 0)), (8, (vp 2 0)), (9, (vI x2)), (27, (vB j7))], [(1, (.box [(.c (.fn 42 0 fun _ => .nilptr)), (.c (.fn 43 0 fun _ => .nilptr)), (.c (.fn 44 0 fun _ => .nilptr))])), (2, (.box [z12, z3, z3, z3, z3]))]⟩) ?_ ?_
 ·rcases zqc e8 with ⟨b3, e8⟩ | ⟨b3, e8⟩
  ·obtain ⟨c4, e8⟩ := zqn e8
   obtain ⟨v5, e6, e8⟩ := zqb e8
   replace e8 := zqd e8
   subst e8
   let z13 := a1.getD x2.toNat default
   exact AW.dA ⟨[(1, z10), (2, (vI a2)), (3, (vI a3)), (4, (vp 1 0)), (8, (vp 2 0)), (9, (vI x2)), (27, (vB (decide (v5 ≤ a3))))], [(1, (.box [(.c (.fn 42 0 fun _ => .nilptr)), (.c (.fn 43 0 fun _ => .nilptr)), (.c (.fn 44 0 fun _ => .nilptr))])), (2, (.box [z12, z3, z3, z3, z3]))]⟩ ((T4 ((Tt ∧ (decide (x2 < (a1.length : Int))) = true) ∧ T4 ((0 ≤ x2 ∧ x2 < (a1.length : Int)) ∧ Tt ∧ ((((eI (z13.At)) ∧ (eF ((z13.Turn).W)) ∧ (eF ((z13.Turn).X)) ∧ (eF ((z13.Turn).Y)) ∧ (eF ((z13.Turn).Z)) ∧ Tt) ∧ Tt) ∧ CallOK Tryz.prog 42 [.agg (zqo z13)] [.one (.int .i64 v5)]) ∧ Tt ∧ T2 Tt))) ∧ (Tt)) 15 [.no, .no, .no, .no, .dec true, .no, .no, .no, .no, .no, .no, .call [.agg (zqo z13)] [.one (.int .i64 v5)] [[.view]]] [1, 2, 3, 4, 8, 9, 27] [1, 2] ⟨⟨tr, tr, tr, tr, ⟨tr, b3⟩, tr, tr, tr, tr, c4, tr, ⟨⟨⟨rfl, rfl, rfl, rfl, rfl, tr⟩, tr⟩, zw5 K z13 v5 e6⟩, tr, tr, tr, tr⟩, tr⟩ ⟨rfl, rfl⟩
  ·replace e8 := zqd e8
   subst e8
   exact AW.dA ⟨[(1, z10), (2, (vI a2)), (3, (vI a3)), (4, (vp 1 0)), (8, (vp 2 0)), (9, (vI x2)), (27, (vB false))], [(1, (.box [(.c (.fn 42 0 fun _ => .nilptr)), (.c (.fn 43 0 fun _ => .nilptr)), (.c (.fn 44 0 fun _ => .nilptr))])), (2, (.box [z12, z3, z3, z3, z3]))]⟩ ((T4 ((Tt ∧ (decide (x2 < (a1.length : Int))) = false) ∧ T2 (T4 (T4 Tt)))) ∧ (Tt)) 15 [.no, .no, .no, .no, .dec false] [1, 2, 3, 4, 8, 9, 27] [1, 2] ⟨⟨tr, tr, tr, tr, ⟨tr, b3⟩, tr, tr, tr, tr, tr, tr, tr, tr, tr, tr, tr⟩, tr⟩ ⟨rfl, rfl⟩
 refine zqa ?_
 rcases zqc h with ⟨b9, h⟩ | ⟨b9, h⟩
 ·refine AW.cond_t rfl b9 ?_
  refine AW.skip ?_
  refine zqa ?_
  refine AW.block ?_
  let z29 := IntKind.i64.wrap (x2 + (1 : Int))
  refine AW.rA ⟨[(1, z10), (2, (vI a2)), (3, (vI a3)), (4, (vp 1 0)), (8, (vp 2 0)), (9, (vI z29))], [(1, (.box [(.c (.fn 42 0 fun _ => .nilptr)), (.c (.fn 43 0 fun _ => .nilptr)), (.c (.fn 44 0 fun _ => .nilptr))])), (2, (.box [z12, z3, z3, z3, z3]))]⟩ (Tt ∧ T2 Tt) [] [1, 2, 3, 4, 8, 9] [1, 2] ⟨tr, tr, tr, tr⟩ ?_
  refine zqr ?_
  exact zqu (k, z29) h (Nat.lt_succ_self k) (Sub.keep [1, 2, 3, 4, 8, 9] [1, 2] (by kernel_rfl) (by kernel_rfl))
 ·refine AW.cond_f rfl b9 ?_
  refine AW.exit ?_
  refine zwc ?_
  refine zwd ?_
  refine zq4 ?_
  refine zqa ?_
  refine AW.seq ?_
  refine AW.block ?_
  refine AW.sA ⟨[(1, z10), (2, (vI a2)), (3, (vI a3)), (4, (vp 1 0)), (8, (vp 2 0)), (9, (vI x2)), (30, (vB (x2 == (0 : Int))))], [(1, (.box [(.c (.fn 42 0 fun _ => .nilptr)), (.c (.fn 43 0 fun _ => .nilptr)), (.c (.fn 44 0 fun _ => .nilptr))])), (2, (.box [z12, z3, z3, z3, z3]))]⟩ (Tt ∧ T2 Tt) [] [1, 2, 3, 4, 8, 9, 30] [1, 2] ⟨tr, tr, tr, tr⟩ ?_
  rcases zqc h with ⟨b10, h⟩ | ⟨b10, h⟩
  ·refine AW.cond_t rfl b10 ?_
   refine AW.seq ?_
   obtain ⟨c11, h⟩ := zqn h
   obtain ⟨v12, e13, h⟩ := zqb h
   let z9 := a1.getD ((0 : Int).toNat) default
   refine AW.dA ⟨[(8, (vp 2 0))], [(2, (.box [(cI v12.At), (cF v12.Turn.W), (cF v12.Turn.X), (cF v12.Turn.Y), (cF v12.Turn.Z)]))]⟩ ((Tt ∧ T2 ((0 ≤ (0 : Int) ∧ (0 : Int) < (a1.length : Int)) ∧ T2 (((((eI (z9.At)) ∧ (((.flt .f32 ((z9.Turn).W).bits) : C) = (.flt .f32 ((z9.Turn).W).bits)) ∧ (((.flt .f32 ((z9.Turn).X).bits) : C) = (.flt .f32 ((z9.Turn).X).bits)) ∧ (((.flt .f32 ((z9.Turn).Y).bits) : C) = (.flt .f32 ((z9.Turn).Y).bits)) ∧ (((.flt .f32 ((z9.Turn).Z).bits) : C) = (.flt .f32 ((z9.Turn).Z).bits)) ∧ Tt) ∧ (eI a3) ∧ Tt) ∧ CallOK Tryz.prog 43 [.agg (zqo z9), .one (.int .i64 a3)] [.agg (zqo v12)]) ∧ Tt))) ∧ (Tt ∧ Tt)) 7 [.no, .no, .no, .no, .no, .no, .call [.agg (zqo z9), .one (.int .i64 a3)] [.agg (zqo v12)] [[.view, .view, .view, .view, .view]]] [8] [2] ⟨⟨tr, tr, tr, c11, tr, tr, ⟨⟨⟨rfl, rfl, rfl, rfl, rfl, tr⟩, rfl, tr⟩, zj0 K z9 a3 v12 e13⟩, tr⟩, ⟨tr, tr⟩⟩ ?_
   refine zqa ?_
   refine AW.ret ?_
   refine zqz ?_
   refine zqm ?_
   replace h := zqd h
   subst h
   exact ⟨.inr rfl, zqe [(.agg [(cI v12.At), (cF v12.Turn.W), (cF v12.Turn.X), (cF v12.Turn.Y), (cF v12.Turn.Z)])] (by kernel_rfl) ⟨⟨⟨rfl, tr⟩, ⟨rfl, tr⟩, ⟨rfl, tr⟩, ⟨rfl, tr⟩, ⟨rfl, tr⟩, tr⟩, tr⟩ (of_decide_eq_true (by kernel_rfl))⟩
  ·refine AW.cond_f rfl b10 ?_
   refine AW.seq ?_
   obtain ⟨j19, e20, h⟩ := zqb h
   refine AW.join1 (s2 := ⟨[(1, z10), (2, (vI a2)), (3, (vI a3)), (4, (vp 1 0)), (8, (vp 2 0)), (9, (vI x2)), (40, (vB j19))], [(1, (.box [(.c (.fn 42 0 fun _ => .nilptr)), (.c (.fn 43 0 fun _ => .nilptr)), (.c (.fn 44 0 fun _ => .nilptr))])), (2, (.box [z12, z3, z3, z3, z3]))]⟩) ?_ ?_
   ·rcases zqc e20 with ⟨b14, e20⟩ | ⟨b14, e20⟩
    ·replace e20 := zqd e20
     subst e20
     exact AW.dA ⟨[(1, z10), (2, (vI a2)), (3, (vI a3)), (4, (vp 1 0)), (8, (vp 2 0)), (9, (vI x2)), (40, (vB true))], [(1, (.box [(.c (.fn 42 0 fun _ => .nilptr)), (.c (.fn 43 0 fun _ => .nilptr)), (.c (.fn 44 0 fun _ => .nilptr))])), (2, (.box [z12, z3, z3, z3, z3]))]⟩ ((T4 ((Tt ∧ (x2 == (a1.length : Int)) = true) ∧ T4 (T4 (T4 (T4 Tt))))) ∧ (Tt)) 21 [.no, .no, .no, .no, .dec true] [1, 2, 3, 4, 8, 9, 40] [1, 2] ⟨⟨tr, tr, tr, tr, ⟨tr, b14⟩, tr, tr, tr, tr, tr, tr, tr, tr, tr, tr, tr, tr, tr, tr, tr, tr, tr⟩, tr⟩ ⟨rfl, rfl⟩
    ·obtain ⟨c15, e20⟩ := zqn e20
     obtain ⟨v16, e17, e20⟩ := zqb e20
     rcases zqc e20 with ⟨b18, e20⟩ | ⟨b18, e20⟩
     ·replace e20 := zqd e20
      subst e20
      let z24 := IntKind.i64.wrap (x2 - (1 : Int))
      let z6 := a1.getD (z24.toNat) default
      exact AW.dA ⟨[(1, z10), (2, (vI a2)), (3, (vI a3)), (4, (vp 1 0)), (8, (vp 2 0)), (9, (vI x2)), (40, (vB true))], [(1, (.box [(.c (.fn 42 0 fun _ => .nilptr)), (.c (.fn 43 0 fun _ => .nilptr)), (.c (.fn 44 0 fun _ => .nilptr))])), (2, (.box [z12, z3, z3, z3, z3]))]⟩ ((T4 ((Tt ∧ (x2 == (a1.length : Int)) = false) ∧ Tt ∧ T4 ((0 ≤ z24 ∧ z24 < (a1.length : Int)) ∧ Tt ∧ ((((((.int .i64 (z6.At)) : C) = (.int .i64 (z6.At))) ∧ (((.flt .f32 ((z6.Turn).W).bits) : C) = (.flt .f32 ((z6.Turn).W).bits)) ∧ (((.flt .f32 ((z6.Turn).X).bits) : C) = (.flt .f32 ((z6.Turn).X).bits)) ∧ (((.flt .f32 ((z6.Turn).Y).bits) : C) = (.flt .f32 ((z6.Turn).Y).bits)) ∧ (((.flt .f32 ((z6.Turn).Z).bits) : C) = (.flt .f32 ((z6.Turn).Z).bits)) ∧ Tt) ∧ Tt) ∧ CallOK Tryz.prog 42 [.agg (zqo z6)] [.one (.int .i64 v16)]) ∧ Tt ∧ T2 ((Tt ∧ (v16 == a3) = true) ∧ T4 Tt)))) ∧ (Tt)) 21 [.no, .no, .no, .no, .dec false, .no, .no, .no, .no, .no, .no, .no, .call [.agg (zqo z6)] [.one (.int .i64 v16)] [[.view]], .no, .no, .no, .dec true] [1, 2, 3, 4, 8, 9, 40] [1, 2] ⟨⟨tr, tr, tr, tr, ⟨tr, b14⟩, tr, tr, tr, tr, tr, c15, tr, ⟨⟨⟨rfl, rfl, rfl, rfl, rfl, tr⟩, tr⟩, zw5 K z6 v16 e17⟩, tr, tr, tr, ⟨tr, b18⟩, tr, tr, tr, tr, tr⟩, tr⟩ ⟨rfl, rfl⟩
     ·replace e20 := zqd e20
      subst e20
      let z25 := IntKind.i64.wrap (x2 - (1 : Int))
      let z7 := a1.getD (z25.toNat) default
      exact AW.dA ⟨[(1, z10), (2, (vI a2)), (3, (vI a3)), (4, (vp 1 0)), (8, (vp 2 0)), (9, (vI x2)), (40, (vB (a2 == (0 : Int))))], [(1, (.box [(.c (.fn 42 0 fun _ => .nilptr)), (.c (.fn 43 0 fun _ => .nilptr)), (.c (.fn 44 0 fun _ => .nilptr))])), (2, (.box [z12, z3, z3, z3, z3]))]⟩ ((T4 ((Tt ∧ (x2 == (a1.length : Int)) = false) ∧ Tt ∧ T4 ((0 ≤ z25 ∧ z25 < (a1.length : Int)) ∧ Tt ∧ ((((((.int .i64 (z7.At)) : C) = (.int .i64 (z7.At))) ∧ (((.flt .f32 ((z7.Turn).W).bits) : C) = (.flt .f32 ((z7.Turn).W).bits)) ∧ (((.flt .f32 ((z7.Turn).X).bits) : C) = (.flt .f32 ((z7.Turn).X).bits)) ∧ (((.flt .f32 ((z7.Turn).Y).bits) : C) = (.flt .f32 ((z7.Turn).Y).bits)) ∧ (((.flt .f32 ((z7.Turn).Z).bits) : C) = (.flt .f32 ((z7.Turn).Z).bits)) ∧ Tt) ∧ Tt) ∧ CallOK Tryz.prog 42 [.agg (zqo z7)] [.one (.int .i64 v16)]) ∧ Tt ∧ T2 ((Tt ∧ (v16 == a3) = false) ∧ T4 Tt)))) ∧ (Tt)) 21 [.no, .no, .no, .no, .dec false, .no, .no, .no, .no, .no, .no, .no, .call [.agg (zqo z7)] [.one (.int .i64 v16)] [[.view]], .no, .no, .no, .dec false] [1, 2, 3, 4, 8, 9, 40] [1, 2] ⟨⟨tr, tr, tr, tr, ⟨tr, b14⟩, tr, tr, tr, tr, tr, c15, tr, ⟨⟨⟨rfl, rfl, rfl, rfl, rfl, tr⟩, tr⟩, zw5 K z7 v16 e17⟩, tr, tr, tr, ⟨tr, b18⟩, tr, tr, tr, tr, tr⟩, tr⟩ ⟨rfl, rfl⟩
   refine zqa ?_
   rcases zqc h with ⟨b21, h⟩ | ⟨b21, h⟩
   ·refine AW.cond_t rfl b21 ?_
    refine AW.seq ?_
    obtain ⟨c22, h⟩ := zqn h
    obtain ⟨v23, e24, h⟩ := zqb h
    let z22 := IntKind.i64.wrap (x2 - (1 : Int))
    let z5 := a1.getD (z22.toNat) default
    refine AW.dA ⟨[(8, (vp 2 0))], [(2, (.box [(cI v23.At), (cF v23.Turn.W), (cF v23.Turn.X), (cF v23.Turn.Y), (cF v23.Turn.Z)]))]⟩ ((Tt ∧ T4 ((0 ≤ z22 ∧ z22 < (a1.length : Int)) ∧ T2 (((((((.int .i64 (z5.At)) : C) = (.int .i64 (z5.At))) ∧ (((.flt .f32 ((z5.Turn).W).bits) : C) = (.flt .f32 ((z5.Turn).W).bits)) ∧ (((.flt .f32 ((z5.Turn).X).bits) : C) = (.flt .f32 ((z5.Turn).X).bits)) ∧ (((.flt .f32 ((z5.Turn).Y).bits) : C) = (.flt .f32 ((z5.Turn).Y).bits)) ∧ (((.flt .f32 ((z5.Turn).Z).bits) : C) = (.flt .f32 ((z5.Turn).Z).bits)) ∧ Tt) ∧ (eI a3) ∧ Tt) ∧ CallOK Tryz.prog 43 [.agg (zqo z5), .one (.int .i64 a3)] [.agg (zqo v23)]) ∧ Tt))) ∧ (Tt ∧ Tt)) 9 [.no, .no, .no, .no, .no, .no, .no, .no, .call [.agg (zqo z5), .one (.int .i64 a3)] [.agg (zqo v23)] [[.view, .view, .view, .view, .view]]] [8] [2] ⟨⟨tr, tr, tr, tr, tr, c22, tr, tr, ⟨⟨⟨rfl, rfl, rfl, rfl, rfl, tr⟩, rfl, tr⟩, zj0 K z5 a3 v23 e24⟩, tr⟩, ⟨tr, tr⟩⟩ ?_
    refine zqa ?_
    refine AW.ret ?_
    refine zqz ?_
    refine zqm ?_
    replace h := zqd h
    subst h
    exact ⟨.inr rfl, zqe [(.agg [(cI v23.At), (cF v23.Turn.W), (cF v23.Turn.X), (cF v23.Turn.Y), (cF v23.Turn.Z)])] (by kernel_rfl) ⟨⟨⟨rfl, tr⟩, ⟨rfl, tr⟩, ⟨rfl, tr⟩, ⟨rfl, tr⟩, ⟨rfl, tr⟩, tr⟩, tr⟩ (of_decide_eq_true (by kernel_rfl))⟩
   ·refine AW.cond_f rfl b21 ?_
    refine AW.skip ?_
    refine zqr ?_
    refine zqa ?_
    refine AW.seq ?_
    obtain ⟨c25, h⟩ := zqn h
    obtain ⟨c26, h⟩ := zqn h
    let z23 := IntKind.i64.wrap (x2 - (1 : Int))
    let z1 := a1.getD (z23.toNat) default
    let z2 := a1.getD x2.toNat default
    let z14 := cF ((z1.Turn).W)
    let z15 := cF ((z1.Turn).X)
    let z16 := cF ((z1.Turn).Y)
    let z17 := cF ((z1.Turn).Z)
    let z18 := cF ((z2.Turn).W)
    let z19 := cF ((z2.Turn).X)
    let z20 := cF ((z2.Turn).Y)
    let z21 := cF ((z2.Turn).Z)
    refine AW.heldA (by kernel_rfl) [0, 1, 2, 3, 4, 5, 6, 7, 8] [] 3 [74, 78] [.no, .no, .no, .no, .no, .no, .no, .no, .no, .box 3, .box 4] [10, 11] [3, 4] [2, 3, 4, 8, 10, 11] [1, 2, 3, 4] (s' := ⟨[(2, (vI a2)), (3, (vI a3)), (4, (vp 1 0)), (8, (vp 2 0)), (10, (vp 3 0)), (11, (vp 4 0))], [(1, (.box [(.c (.fn 42 0 fun _ => .nilptr)), (.c (.fn 43 0 fun _ => .nilptr)), (.c (.fn 44 0 fun _ => .nilptr))])), (2, (.box [z12, z3, z3, z3, z3])), (3, (.box [(cI (z1.At)), z14, z15, z16, z17])), (4, (.box [(cI (z2.At)), z18, z19, z20, z21]))]⟩) (ob := (Tt ∧ T2 ((0 ≤ z23 ∧ z23 < (a1.length : Int)) ∧ Tt ∧ T2 ((0 ≤ x2 ∧ x2 < (a1.length : Int)) ∧ Tt ∧ Tt))) ∧ (Zt15 ((⟨[(10, (vp 3 0)), (11, (vp 4 0))], [(3, (.box [(cI (z1.At)), z14, z15, z16, z17])), (4, (.box [(cI (z2.At)), z18, z19, z20, z21]))]⟩ : St) = ⟨[(10, (vp 3 0)), (11, (vp 4 0))], [(3, (.box [(cI (z1.At)), z14, z15, z16, z17])), (4, (.box [(cI (z2.At)), z18, z19, z20, z21]))]⟩)) ∧ (Tt)) (by kernel_rfl) ⟨⟨tr, tr, tr, c25, tr, tr, tr, c26, tr, tr⟩, (zt15 rfl), tr⟩ ?_
    refine zqa ?_
    refine AW.seq ?_
    obtain ⟨v27, e28, h⟩ := zqb h
    obtain ⟨v29, e30, h⟩ := zqb h
    obtain ⟨v31, e32, h⟩ := zqb h
    let z4 := (((.int .i64 (z1.At)) : C) = (.int .i64 (z1.At))) ∧ (((.flt .f32 ((z1.Turn).W).bits) : C) = (.flt .f32 ((z1.Turn).W).bits)) ∧ (((.flt .f32 ((z1.Turn).X).bits) : C) = (.flt .f32 ((z1.Turn).X).bits)) ∧ (((.flt .f32 ((z1.Turn).Y).bits) : C) = (.flt .f32 ((z1.Turn).Y).bits)) ∧ (((.flt .f32 ((z1.Turn).Z).bits) : C) = (.flt .f32 ((z1.Turn).Z).bits)) ∧ Tt
    let z11 := (eI (z2.At)) ∧ (eF ((z2.Turn).W)) ∧ (eF ((z2.Turn).X)) ∧ (eF ((z2.Turn).Y)) ∧ (eF ((z2.Turn).Z)) ∧ Tt
    let z26 : List CT := [.one (.int .i64 v27), .one (.int .i64 a3), .one (.int .i64 v29)]
    refine AW.dA ⟨[(2, (vI a2)), (3, (vI a3)), (4, (vp 1 0)), (8, (vp 2 0)), (10, (vp 3 0)), (11, (vp 4 0)), (12, (vc (.flt .f32 v31.bits)))], [(1, (.box [(.c (.fn 42 0 fun _ => .nilptr)), (.c (.fn 43 0 fun _ => .nilptr)), (.c (.fn 44 0 fun _ => .nilptr))])), (2, (.box [z12, z3, z3, z3, z3])), (3, (.box [(cI (z1.At)), z14, z15, z16, z17])), (4, (.box [(cI (z2.At)), z18, z19, z20, z21]))]⟩ ((Tt ∧ T2 (((z4 ∧ Tt) ∧ CallOK Tryz.prog 42 [.agg (zqo z1)] [.one (.int .i64 v27)]) ∧ T4 (((z11 ∧ Tt) ∧ CallOK Tryz.prog 42 [.agg (zqo z2)] [.one (.int .i64 v29)]) ∧ (((eI v27) ∧ (eI a3) ∧ (eI v29) ∧ Tt) ∧ CallOK Tryz.prog 56 z26 [.one (.flt .f32 v31.bits)]) ∧ Tt ∧ Tt))) ∧ (Tt)) 11 [.no, .no, .no, .call [.agg (zqo z1)] [.one (.int .i64 v27)] [[.view]], .no, .no, .no, .no, .call [.agg (zqo z2)] [.one (.int .i64 v29)] [[.view]], .call z26 [.one (.flt .f32 v31.bits)] [[.view]]] [2, 3, 4, 8, 10, 11, 12] [1, 2, 3, 4] ⟨⟨tr, tr, tr, ⟨⟨⟨rfl, rfl, rfl, rfl, rfl, tr⟩, tr⟩, zw5 K z1 v27 e28⟩, tr, tr, tr, tr, ⟨⟨⟨rfl, rfl, rfl, rfl, rfl, tr⟩, tr⟩, zw5 K z2 v29 e30⟩, ⟨⟨rfl, rfl, rfl, tr⟩, zbk K v27 a3 v29 v31 e32⟩, tr, tr⟩, tr⟩ ?_
    refine zqa ?_
    refine AW.seq ?_
    refine AW.sA ⟨[(3, (vI a3)), (4, (vp 1 0)), (8, (vp 2 0)), (10, (vp 3 0)), (11, (vp 4 0)), (12, (vc (.flt .f32 v31.bits))), (90, (vB (a2 == (2 : Int))))], [(1, (.box [(.c (.fn 42 0 fun _ => .nilptr)), (.c (.fn 43 0 fun _ => .nilptr)), (.c (.fn 44 0 fun _ => .nilptr))])), (2, (.box [z12, z3, z3, z3, z3])), (3, (.box [(cI (z1.At)), z14, z15, z16, z17])), (4, (.box [(cI (z2.At)), z18, z19, z20, z21]))]⟩ (T2 Tt) [] [3, 4, 8, 10, 11, 12, 90] [1, 2, 3, 4] ⟨tr, tr, tr⟩ ?_
    rcases zqc h with ⟨b33, h⟩ | ⟨b33, h⟩
    ·refine AW.cond_t rfl b33 ?_
     let z8 := (v31.mul v31).mul ((Fl.mk (k := .f32) 1077936128 (by decide)).sub ((Fl.mk (k := .f32) 1073741824 (by decide)).mul v31))
     refine AW.tA ⟨[(3, (vI a3)), (4, (vp 1 0)), (8, (vp 2 0)), (10, (vp 3 0)), (11, (vp 4 0)), (12, (vc (.flt .f32 z8.bits)))], [(1, (.box [(.c (.fn 42 0 fun _ => .nilptr)), (.c (.fn 43 0 fun _ => .nilptr)), (.c (.fn 44 0 fun _ => .nilptr))])), (2, (.box [z12, z3, z3, z3, z3])), (3, (.box [(cI (z1.At)), z14, z15, z16, z17])), (4, (.box [(cI (z2.At)), z18, z19, z20, z21]))]⟩ (T4 (T4 Tt)) [] [3, 4, 8, 10, 11, 12] [1, 2, 3, 4] ⟨tr, tr, tr, tr, tr, tr, tr, tr, tr⟩ ?_
     refine AW.seq ?_
     obtain ⟨v34, e35, h⟩ := zqb h
     obtain ⟨v36, e37, h⟩ := zqb h
     let z28 : List CT := [.agg (zqo z1), .agg (zqo z2), .one (.flt .f32 z8.bits)]
     refine AW.dA ⟨[(8, (vp 2 0))], [(2, (.box [(cI v36.At), (cF v36.Turn.W), (cF v36.Turn.X), (cF v36.Turn.Y), (cF v36.Turn.Z)]))]⟩ ((Tt ∧ T2 (T4 (((z4 ∧ z11 ∧ (((.flt .f32 z8.bits) : C) = (.flt .f32 z8.bits)) ∧ Tt) ∧ CallOK Tryz.prog 44 z28 [.agg (zqo v34)]) ∧ Tt ∧ ((((eI v34.At) ∧ (eF v34.Turn.W) ∧ (eF v34.Turn.X) ∧ (eF v34.Turn.Y) ∧ (eF v34.Turn.Z) ∧ Tt) ∧ (eI a3) ∧ Tt) ∧ CallOK Tryz.prog 43 [.agg (zqo v34), .one (.int .i64 a3)] [.agg (zqo v36)]) ∧ Tt))) ∧ (Tt ∧ Tt)) 10 [.no, .no, .no, .no, .no, .no, .no, .call z28 [.agg (zqo v34)] [[.view, .view, .view, .view, .view]], .no, .call [.agg (zqo v34), .one (.int .i64 a3)] [.agg (zqo v36)] [[.view, .view, .view, .view, .view]]] [8] [2] ⟨⟨tr, tr, tr, tr, tr, tr, tr, ⟨⟨⟨rfl, rfl, rfl, rfl, rfl, tr⟩, ⟨rfl, rfl, rfl, rfl, rfl, tr⟩, rfl, tr⟩, ok_impl_turnTrack_3 K z1 z2 z8 v34 e35⟩, tr, ⟨⟨⟨rfl, rfl, rfl, rfl, rfl, tr⟩, rfl, tr⟩, zj0 K v34 a3 v36 e37⟩, tr⟩, ⟨tr, tr⟩⟩ ?_
     refine zqa ?_
     refine AW.ret ?_
     replace h := zqd h
     subst h
     exact ⟨.inr rfl, zqe [(.agg [(cI v36.At), (cF v36.Turn.W), (cF v36.Turn.X), (cF v36.Turn.Y), (cF v36.Turn.Z)])] (by kernel_rfl) ⟨⟨⟨rfl, tr⟩, ⟨rfl, tr⟩, ⟨rfl, tr⟩, ⟨rfl, tr⟩, ⟨rfl, tr⟩, tr⟩, tr⟩ (of_decide_eq_true (by kernel_rfl))⟩
    ·refine AW.cond_f rfl b33 ?_
     refine AW.skip ?_
     refine zqa ?_
     refine AW.seq ?_
     obtain ⟨v38, e39, h⟩ := zqb h
     obtain ⟨v40, e41, h⟩ := zqb h
     let z27 : List CT := [.agg (zqo z1), .agg (zqo z2), .one (.flt .f32 v31.bits)]
     refine AW.dA ⟨[(8, (vp 2 0))], [(2, (.box [(cI v40.At), (cF v40.Turn.W), (cF v40.Turn.X), (cF v40.Turn.Y), (cF v40.Turn.Z)]))]⟩ ((Tt ∧ T2 (T4 (((z4 ∧ z11 ∧ (eF v31) ∧ Tt) ∧ CallOK Tryz.prog 44 z27 [.agg (zqo v38)]) ∧ Tt ∧ ((((eI v38.At) ∧ (eF v38.Turn.W) ∧ (eF v38.Turn.X) ∧ (eF v38.Turn.Y) ∧ (eF v38.Turn.Z) ∧ Tt) ∧ (eI a3) ∧ Tt) ∧ CallOK Tryz.prog 43 [.agg (zqo v38), .one (.int .i64 a3)] [.agg (zqo v40)]) ∧ Tt))) ∧ (Tt ∧ Tt)) 10 [.no, .no, .no, .no, .no, .no, .no, .call z27 [.agg (zqo v38)] [[.view, .view, .view, .view, .view]], .no, .call [.agg (zqo v38), .one (.int .i64 a3)] [.agg (zqo v40)] [[.view, .view, .view, .view, .view]]] [8] [2] ⟨⟨tr, tr, tr, tr, tr, tr, tr, ⟨⟨⟨rfl, rfl, rfl, rfl, rfl, tr⟩, ⟨rfl, rfl, rfl, rfl, rfl, tr⟩, rfl, tr⟩, ok_impl_turnTrack_3 K z1 z2 v31 v38 e39⟩, tr, ⟨⟨⟨rfl, rfl, rfl, rfl, rfl, tr⟩, rfl, tr⟩, zj0 K v38 a3 v40 e41⟩, tr⟩, ⟨tr, tr⟩⟩ ?_
     refine zqa ?_
     refine AW.ret ?_
     replace h := zqd h
     subst h
     exact ⟨.inr rfl, zqe [(.agg [(cI v40.At), (cF v40.Turn.W), (cF v40.Turn.X), (cF v40.Turn.Y), (cF v40.Turn.Z)])] (by kernel_rfl) ⟨⟨⟨rfl, tr⟩, ⟨rfl, tr⟩, ⟨rfl, tr⟩, ⟨rfl, tr⟩, ⟨rfl, tr⟩, tr⟩, tr⟩ (of_decide_eq_true (by kernel_rfl))⟩

/-! (*impl.Clip).sample -/
def zqx (K : Nat) (a0 : Clip) (a1 : Int) (v1 : (Vector)) : Nat → Int → (List Turn) → Option (Pose)
 | 0, _, _ => none
 | k + 1, x6, x7 => ite2 ((decide (x6 < (a0.Tracks.length : Int)))) (chk (0 ≤ x6 ∧ x6 < (a0.Tracks.length : Int)) ((zjo K ).bind fun v10 => (zwz K (a0.Tracks.getD x6.toNat default) a0.Kind a1).bind fun v12 => chk (0 ≤ x6 ∧ x6 < (x7.length : Int)) (zqx K a0 a1 v1 k (IntKind.i64.wrap (x6 + (1 : Int))) (x7.set x6.toNat v12.Turn)))) (some (Pose.mk v1 x7))

def zwx (K : Nat) (a0 : Clip) (a1 : Int) : Option (Pose) :=
 (zvw K a0 a1).bind fun v1 => chk (0 ≤ (a0.Tracks.length : Int) ∧ (a0.Tracks.length : Int).toNat * 16 ≤ 140737488355328) (zqx K a0 a1 v1 K (0 : Int) (List.replicate (a0.Tracks.length : Int).toNat (default : Turn)))

theorem zv7 (K : Nat) (a0 : Clip) (a1 : Int) (o : (Pose)) (h : zwx K a0 a1 = some o) : CallOK Tryz.prog 26 [.one (pl 4 zqp a0), .one (.int .i64 a1)] [.agg (zwi o)] := by
 refine zqh Tryz.func26 rfl (by kernel_rfl) (Nat.le_of_ble_eq_true (by kernel_rfl)) ?_
 intro w0
 unfold zwx at h
 let z2 := cF (default : F32)
 let z5 := vc (pl 4 zqp a0)
 refine AW.sA ⟨[(0, z5), (1, (vI a1)), (4, (vp 1 0))], [(1, (.box [z2, z2, z2, .nils]))]⟩ (Tt ∧ Tt) [.box 1] [0, 1, 4] [1] ⟨tr, tr⟩ ?_
 refine AW.seq ?_
 obtain ⟨v1, e2, h⟩ := zqb h
 obtain ⟨c3, h⟩ := zqn h
 let z3 := (a0.Tracks.length : Int)
 let z1 := List.replicate z3.toNat (default : Turn)
 let z8 : List CT := [.one (pl 4 zqp a0), .one (.int .i64 a1)]
 refine AW.dA ⟨[(0, z5), (1, (vI a1)), (4, (vp 1 0)), (5, (vp 3 0))], [(1, (.box [z2, z2, z2, .nils])), (2, (.arr false z1.length 4 (gl zqi z1))), (3, (.box [(cF v1.X), (cF v1.Y), (cF v1.Z), (.arr 2)]))]⟩ ((T2 ((((4 = 4 ∧ ∀ j, j < 4 → (zqp a0).getD j .nilptr = (zqp a0).getD j .nilptr) ∧ (eI a1) ∧ Tt) ∧ CallOK Tryz.prog 50 z8 [.agg (zqs v1)]) ∧ Tt ∧ T4 ((0 ≤ z3 ∧ z3 = z3 ∧ ((z1.length : Nat) : Int) = z3 ∧ z1.length * 16 ≤ 140737488355328 ∧ ∀ i, i < z1.length → zdb (fun _ => none) [z2, z2, z2, z2] (gl zqi z1 i)) ∧ T2 Tt))) ∧ (Tt ∧ Tt)) 11 [.no, .no, .call z8 [.agg (zqs v1)] [[.view, .view, .view]], .no, .no, .no, .no, .no, .objA 2 z1.length (gl zqi z1), .no, .box 3] [0, 1, 4, 5] [1, 2, 3] ⟨⟨tr, tr, ⟨⟨⟨rfl, fun j hj => rfl⟩, rfl, tr⟩, ok_impl_Clip_root K a0 a1 v1 e2⟩, tr, tr, tr, tr, tr, ⟨c3.1, rfl, len_rep c3.1, rep_bytes c3.2, fun i hi => gl_zero (cs := zqi) (zs := [z2, z2, z2, z2]) (n := z3.toNat) ⟨⟨rfl, tr⟩, ⟨rfl, tr⟩, ⟨rfl, tr⟩, ⟨rfl, tr⟩, tr⟩ i (rep_lt hi)⟩, tr, tr, tr⟩, ⟨tr, tr⟩⟩ ?_
 refine zqa ?_
 refine AW.seq ?_
 let z4 := vc (sl 1 (csL 5 zqo) a0.Tracks)
 refine AW.sA ⟨[(0, z5), (1, (vI a1)), (4, (vp 1 0)), (5, (vp 3 0)), (21, z4), (22, (vI z3)), (23, (vI (0 : Int)))], [(1, (.box [z2, z2, z2, .nils])), (2, (.arr false z1.length 4 (gl zqi z1))), (3, (.box [(cF v1.X), (cF v1.Y), (cF v1.Z), (.arr 2)]))]⟩ (T2 (T4 Tt)) [] [0, 1, 4, 5, 21, 22, 23] [1, 2, 3] ⟨tr, tr, tr, tr, tr, tr, tr⟩ ?_
 refine AW.block ?_
 refine AW.loopQ (σ := Nat × Int × (List Turn)) (fun p => ⟨[(0, z5), (1, (vI a1)), (4, (vp 1 0)), (5, (vp 3 0)), (21, z4), (22, (vI z3)), (23, (vI p.2.1))], [(1, (.box [z2, z2, z2, .nils])), (2, (.arr false p.2.2.length 4 (gl zqi p.2.2))), (3, (.box [(cF v1.X), (cF v1.Y), (cF v1.Z), (.arr 2)]))]⟩) (fun p => zqx K a0 a1 v1 p.1 p.2.1 p.2.2 = some o) (fun p => p.1) (K, (0 : Int), z1) h ?_
 clear h
 rintro ⟨k, x6, x7⟩ h
 replace h : zqx K a0 a1 v1 k x6 x7 = some o := h
 let z7 := gl zqi x7
 show AW _ _ (⟨[(0, z5), (1, (vI a1)), (4, (vp 1 0)), (5, (vp 3 0)), (21, z4), (22, (vI z3)), (23, (vI x6))], [(1, (.box [z2, z2, z2, .nils])), (2, (.arr false x7.length 4 z7)), (3, (.box [(cF v1.X), (cF v1.Y), (cF v1.Z), (.arr 2)]))]⟩ : St) _
 obtain _ | k := k
 ·rw [zqx] at h; cases h
 rw [zqx] at h
 refine AW.sA ⟨[(0, z5), (1, (vI a1)), (4, (vp 1 0)), (5, (vp 3 0)), (21, z4), (22, (vI z3)), (23, (vI x6)), (24, (vB (decide (x6 < z3))))], [(1, (.box [z2, z2, z2, .nils])), (2, (.arr false x7.length 4 z7)), (3, (.box [(cF v1.X), (cF v1.Y), (cF v1.Z), (.arr 2)]))]⟩ (Tt ∧ Tt) [] [0, 1, 4, 5, 21, 22, 23, 24] [1, 2, 3] ⟨tr, tr⟩ ?_
 refine AW.seq ?_
 rcases zqc h with ⟨b8, h⟩ | ⟨b8, h⟩
 ·refine AW.cond_t rfl b8 ?_
  refine AW.skip ?_
  refine zqa ?_
  refine AW.seq ?_
  refine AW.block ?_
  refine AW.seq ?_
  obtain ⟨c9, h⟩ := zqn h
  refine AW.tA ⟨[(0, z5), (1, (vI a1)), (4, (vp 1 0)), (5, (vp 3 0)), (6, (vI x6)), (7, (vc (sl 5 zqo (a0.Tracks.getD x6.toNat default)))), (21, z4), (22, (vI z3)), (23, (vI x6))], [(1, (.box [z2, z2, z2, .nils])), (2, (.arr false x7.length 4 z7)), (3, (.box [(cF v1.X), (cF v1.Y), (cF v1.Z), (.arr 2)]))]⟩ (Tt ∧ (0 ≤ x6 ∧ x6 < z3) ∧ Tt ∧ T2 Tt) [] [0, 1, 4, 5, 6, 7, 21, 22, 23] [1, 2, 3] ⟨tr, c9, tr, tr, tr, tr⟩ ?_
  obtain ⟨v10, e11, h⟩ := zqb h
  obtain ⟨v12, e13, h⟩ := zqb h
  obtain ⟨c14, h⟩ := zqn h
  refine AW.dA ⟨[(0, (vc (pl 4 zqp a0))), (1, (vI a1)), (4, (vp 1 0)), (5, (vp 3 0)), (21, (vc (sl 1 (csL 5 zqo) a0.Tracks))), (22, (vI (a0.Tracks.length : Int))), (23, (vI x6))], [(1, (.box [(cF (default : F32)), (cF (default : F32)), (cF (default : F32)), .nils])), (2, (.arr false (x7.set x6.toNat v12.Turn).length 4 (gl zqi (x7.set x6.toNat v12.Turn)))), (3, (.box [(cF v1.X), (cF v1.Y), (cF v1.Z), (.arr 2)]))]⟩ ((Tt ∧ T2 (((Tt) ∧ CallOK Tryz.prog 21 [] [.agg [(.fn 42 0 fun _ => .nilptr), (.fn 43 0 fun _ => .nilptr), (.fn 44 0 fun _ => .nilptr)]]) ∧ T2 (T4 (((((Eqc (.fn 42 0 fun _ => .nilptr)) ∧ (Eqc (.fn 43 0 fun _ => .nilptr)) ∧ (Eqc (.fn 44 0 fun _ => .nilptr)) ∧ Tt) ∧ (Eqc (sl 5 zqo (a0.Tracks.getD x6.toNat default))) ∧ (eI a0.Kind) ∧ (eI a1) ∧ Tt) ∧ CallOK Tryz.prog 51 [.agg [(.fn 42 0 fun _ => .nilptr), (.fn 43 0 fun _ => .nilptr), (.fn 44 0 fun _ => .nilptr)], .one (sl 5 zqo (a0.Tracks.getD x6.toNat default)), .one (.int .i64 a0.Kind), .one (.int .i64 a1)] [.agg (zqo v12)]) ∧ Tt ∧ (0 ≤ x6 ∧ x6 < (x7.length : Int)) ∧ Tt)))) ∧ (((x7.set x6.toNat v12.Turn).length = x7.length ∧ SetOb x7.length 4 x6.toNat 0 4 (gl zqi x7) (gl zqi (x7.set x6.toNat v12.Turn)) ∧ ((List.range 4).map fun j => (zqi v12.Turn).getD (0 + j) .nilptr) = ((List.range 4).map fun j => gl zqi (x7.set x6.toNat v12.Turn) x6.toNat (0 + j)) ∧ ((((.flt .f32 v12.Turn.W.bits) : C) = (.flt .f32 v12.Turn.W.bits) ∧ Tt) ∧ (((.flt .f32 v12.Turn.X.bits) : C) = (.flt .f32 v12.Turn.X.bits) ∧ Tt) ∧ (((.flt .f32 v12.Turn.Y.bits) : C) = (.flt .f32 v12.Turn.Y.bits) ∧ Tt) ∧ (((.flt .f32 v12.Turn.Z.bits) : C) = (.flt .f32 v12.Turn.Z.bits) ∧ Tt) ∧ Tt) ∧ (false = true → ∀ j, j < 4 → isSeq (gl zqi x7 x6.toNat (0 + j)) = false ∧ isSeq (gl zqi (x7.set x6.toNat v12.Turn) x6.toNat (0 + j)) = false)) ∧ Tt)) 13 [.no, .no, .no, .call [] [.agg [(.fn 42 0 fun _ => .nilptr), (.fn 43 0 fun _ => .nilptr), (.fn 44 0 fun _ => .nilptr)]] [[.view, .view, .view]], .no, .no, .no, .no, .no, .no, .call [.agg [(.fn 42 0 fun _ => .nilptr), (.fn 43 0 fun _ => .nilptr), (.fn 44 0 fun _ => .nilptr)], .one (sl 5 zqo (a0.Tracks.getD x6.toNat default)), .one (.int .i64 a0.Kind), .one (.int .i64 a1)] [.agg (zqo v12)] [[.view, .view, .view, .view, .view]], .no, .no, .set (x7.set x6.toNat v12.Turn).length (gl zqi (x7.set x6.toNat v12.Turn)) ((List.range 4).map fun j => (zqi v12.Turn).getD (0 + j) .nilptr)] [0, 1, 4, 5, 21, 22, 23] [1, 2, 3] ⟨⟨tr, tr, tr, ⟨tr, ok_impl_turnTrack K v10 e11⟩, tr, tr, tr, tr, tr, tr, ⟨⟨⟨rfl, rfl, rfl, tr⟩, rfl, rfl, rfl, tr⟩, ok_impl_track_impl_Key_sample K (a0.Tracks.getD x6.toNat default) a0.Kind a1 v12 e13⟩, tr, c14, tr⟩, ⟨⟨List.length_set, gl_set, (gl_atp (lt_of_bound c14)).symm, ⟨⟨rfl, tr⟩, ⟨rfl, tr⟩, ⟨rfl, tr⟩, ⟨rfl, tr⟩, tr⟩, (fun h => nomatch h)⟩, tr⟩⟩ ?_
  refine zqr ?_
  refine zqa ?_
  let z6 := x7.set x6.toNat v12.Turn
  let z9 := IntKind.i64.wrap (x6 + (1 : Int))
  refine AW.rA ⟨[(0, z5), (1, (vI a1)), (4, (vp 1 0)), (5, (vp 3 0)), (21, z4), (22, (vI z3)), (23, (vI z9))], [(1, (.box [z2, z2, z2, .nils])), (2, (.arr false z6.length 4 (gl zqi z6))), (3, (.box [(cF v1.X), (cF v1.Y), (cF v1.Z), (.arr 2)]))]⟩ (T2 Tt) [] [0, 1, 4, 5, 21, 22, 23] [1, 2, 3] ⟨tr, tr, tr⟩ ?_
  exact zqu (k, z9, z6) h (Nat.lt_succ_self k) (Sub.keep [0, 1, 4, 5, 21, 22, 23] [1, 2, 3] (by kernel_rfl) (by kernel_rfl))
 ·refine AW.cond_f rfl b8 ?_
  refine AW.exit ?_
  refine zwc ?_
  refine zwd ?_
  refine zq4 ?_
  refine zqa ?_
  refine AW.sA ⟨[(4, (vp 1 0))], [(1, (.box [(cF v1.X), (cF v1.Y), (cF v1.Z), (.arr 2)])), (2, (.arr false x7.length 4 z7))]⟩ (T2 Tt) [] [4] [1, 2] ⟨tr, tr, tr⟩ ?_
  refine AW.ret ?_
  replace h := zqd h
  subst h
  exact ⟨.inr rfl, zqe [(.agg [(cF v1.X), (cF v1.Y), (cF v1.Z), (.arr 2)])] (by kernel_rfl) ⟨⟨⟨rfl, tr⟩, ⟨rfl, tr⟩, ⟨rfl, tr⟩, rfl, tr⟩, tr⟩ (of_decide_eq_true (by kernel_rfl))⟩

/-! impl.SampleClip -/
def zju (K : Nat) (a0 : Clip) (a1 : Int) : Option (Pose × Bool) :=
 (zyy K a0 a1).bind fun v1 => ite2 ((!v1)) (some ((Pose.mk (Vector.mk (default : F32) (default : F32) (default : F32)) ([] : (List Turn))), false)) ((zwx K a0 a1).bind fun v4 => some (v4, true))

theorem ok_impl_SampleClip (K : Nat) (a0 : Clip) (a1 : Int) (o : (Pose × Bool)) (h : zju K a0 a1 = some o) : CallOK Tryz.prog 8 [.agg (zqp a0), .one (.int .i64 a1)] [.agg (zwi o.1), .one (.bool o.2)] := by
 refine zqh Tryz.func8 rfl (by kernel_rfl) (Nat.le_of_ble_eq_true (by kernel_rfl)) ?_
 intro w0
 unfold zju at h
 refine AW.sC (Tt ∧ T2 Tt) [.box 1, .box 2] [1, 2, 4] [1, 2] ⟨tr, tr, tr, tr⟩ ?_
 refine AW.seq ?_
 refine AW.seq ?_
 obtain ⟨v1, e2, h⟩ := zqb h
 let z1 := cF (default : F32)
 let z2 := sl 1 (csL 5 zqo) a0.Tracks
 let z3 := sl 4 zqg a0.Roots
 let z5 : List CT := [.agg (zqp a0), .one (.int .i64 a1)]
 refine AW.tA ⟨[(1, (vI a1)), (2, (vp 1 0)), (4, (vp 2 0)), (9, (vB (!v1)))], [(1, (.box [(cI a0.Length), (cI a0.Kind), (.c z2), (.c z3)])), (2, (.box [z1, z1, z1, .nils]))]⟩ (T2 (((((eI a0.Length) ∧ (eI a0.Kind) ∧ (Eqc z2) ∧ (Eqc z3) ∧ Tt) ∧ (eI a1) ∧ Tt) ∧ CallOK Tryz.prog 25 z5 [.one (.bool v1)]) ∧ Tt ∧ Tt)) [.no, .no, .call z5 [.one (.bool v1)] [[.view]]] [1, 2, 4, 9] [1, 2] ⟨tr, tr, ⟨⟨⟨rfl, rfl, rfl, rfl, tr⟩, rfl, tr⟩, ok_impl_hasTime K a0 a1 v1 e2⟩, tr, tr⟩ ?_
 rcases zqc h with ⟨b3, h⟩ | ⟨b3, h⟩
 ·refine AW.cond_t rfl b3 ?_
  refine AW.sA ⟨[(4, (vp 2 0)), (5, (vB false))], [(2, (.box [z1, z1, z1, .nils]))]⟩ (Tt ∧ T2 Tt) [] [4, 5] [2] ⟨tr, tr, tr, tr⟩ ?_
  refine AW.ret ?_
  refine zqm ?_
  replace h := zqd h
  subst h
  exact ⟨.inr rfl, zqe [(.agg [z1, z1, z1, .nils]), (.one (.c (.bool false)))] (by kernel_rfl) ⟨⟨⟨rfl, tr⟩, ⟨rfl, tr⟩, ⟨rfl, tr⟩, rfl, tr⟩, ⟨rfl, tr⟩, tr⟩ (of_decide_eq_true (by kernel_rfl))⟩
 ·refine AW.cond_f rfl b3 ?_
  refine AW.skip ?_
  refine zqa ?_
  refine AW.seq ?_
  obtain ⟨v4, e5, h⟩ := zqb h
  let z4 : List CT := [.one (pl 4 zqp a0), .one (.int .i64 a1)]
  refine AW.tA ⟨[(4, (vp 2 0)), (5, (vB true))], [(2, (.box [(cF v4.Root.X), (cF v4.Root.Y), (cF v4.Root.Z), (xL 3 4 zqi v4.Turns)])), (3, (oL 4 zqi v4.Turns))]⟩ (Tt ∧ (((0 = 0 ∧ (eI a0.Length) ∧ (eI a0.Kind) ∧ (Eqc z2) ∧ (Eqc z3) ∧ Tt) ∧ (eI a1) ∧ Tt) ∧ CallOK Tryz.prog 26 z4 [.agg (zwi v4)]) ∧ T2 Tt) [.no, .call z4 [.agg (zwi v4)] [[.view, .view, .view, .lst 3]]] [4, 5] [2, 3] ⟨tr, ⟨⟨⟨rfl, rfl, rfl, rfl, rfl, tr⟩, rfl, tr⟩, zv7 K a0 a1 v4 e5⟩, tr, tr, tr⟩ ?_
  refine AW.ret ?_
  replace h := zqd h
  subst h
  exact ⟨.inr rfl, zqe [(.agg [(cF v4.Root.X), (cF v4.Root.Y), (cF v4.Root.Z), (xL 3 4 zqi v4.Turns)]), (.one (.c (.bool true)))] (by kernel_rfl) ⟨⟨⟨rfl, tr⟩, ⟨rfl, tr⟩, ⟨rfl, tr⟩, rfl, tr⟩, ⟨rfl, tr⟩, tr⟩ (of_decide_eq_true (by kernel_rfl))⟩

/-! math.Float32bits -/
def zvz (_K : Nat) (a0 : F32) : Option (Int) :=
 a0.toBits

theorem ok_math_Float32bits (K : Nat) (a0 : F32) (o : Int) (h : zvz K a0 = some o) : CallOK Tryz.prog 101 [.one (.flt .f32 a0.bits)] [.one (.int .u32 o)] :=
 hand_toBits (e := Extern.MathFloatBits.float32bits) Tryz.func101 (by kernel_rfl) (by kernel_rfl) (by kernel_rfl) (by kernel_rfl) (fun _ _ => rfl) a0 o h

/-! spec.l01Bits -/
def zk5 (K : Nat) (a0 : F32) : Option (Int) :=
 ite2 ((a0.ne a0)) (some (2143289344 : Int)) ((zvz K a0).bind fun v2 => some (IntKind.i64.wrap v2))

theorem ok_spec_l01Bits (K : Nat) (a0 : F32) (o : (Int)) (h : zk5 K a0 = some o) : CallOK Tryz.prog 81 [.one (.flt .f32 a0.bits)] [.one (.int .i64 o)] := by
 refine zqh Tryz.func81 rfl (by kernel_rfl) (Nat.le_of_ble_eq_true (by kernel_rfl)) ?_
 intro w0
 unfold zk5 at h
 refine AW.sC (Tt ∧ Tt) [] [0] [] ⟨tr, tr⟩ ?_
 refine AW.seq ?_
 refine AW.sA ⟨[(0, (vc (.flt .f32 a0.bits))), (5, (vB (a0.ne a0)))], []⟩ (Tt ∧ T2 Tt) [] [0, 5] [] ⟨tr, tr, tr, tr⟩ ?_
 rcases zqc h with ⟨b1, h⟩ | ⟨b1, h⟩
 ·refine AW.cond_t rfl b1 ?_
  refine AW.sA ⟨[(2, (vI (2143289344 : Int)))], []⟩ (Tt ∧ Tt) [] [2] [] ⟨tr, tr⟩ ?_
  refine AW.ret ?_
  refine zqm ?_
  replace h := zqd h
  subst h
  exact ⟨.inr rfl, zqe [(.one (cI (2143289344 : Int)))] (by kernel_rfl) ⟨⟨rfl, tr⟩, tr⟩ (of_decide_eq_true (by kernel_rfl))⟩
 ·refine AW.cond_f rfl b1 ?_
  refine AW.skip ?_
  refine zqa ?_
  refine AW.seq ?_
  obtain ⟨v2, e3, h⟩ := zqb h
  refine AW.tA ⟨[(2, (vI (IntKind.i64.wrap v2)))], []⟩ (Tt ∧ (((eF a0) ∧ Tt) ∧ CallOK Tryz.prog 101 [.one (.flt .f32 a0.bits)] [.one (.int .u32 v2)]) ∧ T2 Tt) [.no, .call [.one (.flt .f32 a0.bits)] [.one (.int .u32 v2)] [[.view]]] [2] [] ⟨tr, ⟨⟨rfl, tr⟩, ok_math_Float32bits K a0 v2 e3⟩, tr, tr, tr⟩ ?_
  refine AW.ret ?_
  replace h := zqd h
  subst h
  exact ⟨.inr rfl, zqe [(.one (cI (IntKind.i64.wrap v2)))] (by kernel_rfl) ⟨⟨rfl, tr⟩, tr⟩ (of_decide_eq_true (by kernel_rfl))⟩

/-! spec.l01Same -/
def zxo (K : Nat) (a0 : F32) (a1 : F32) : Option (Bool) :=
 (zk5 K a0).bind fun v1 => (zk5 K a1).bind fun v3 => some (v1 == v3)

theorem zwe (K : Nat) (a0 : F32) (a1 : F32) (o : (Bool)) (h : zxo K a0 a1 = some o) : CallOK Tryz.prog 52 [.one (.flt .f32 a0.bits), .one (.flt .f32 a1.bits)] [.one (.bool o)] := by
 refine zqh Tryz.func52 rfl (by kernel_rfl) (Nat.le_of_ble_eq_true (by kernel_rfl)) ?_
 intro w0
 unfold zxo at h
 refine AW.sC (Tt ∧ Tt) [] [0, 1] [] ⟨tr, tr⟩ ?_
 refine AW.seq ?_
 obtain ⟨v1, e2, h⟩ := zqb h
 obtain ⟨v3, e4, h⟩ := zqb h
 refine AW.tA ⟨[(4, (vB (v1 == v3)))], []⟩ (Tt ∧ (((eF a0) ∧ Tt) ∧ CallOK Tryz.prog 81 [.one (.flt .f32 a0.bits)] [.one (.int .i64 v1)]) ∧ Tt ∧ (((eF a1) ∧ Tt) ∧ CallOK Tryz.prog 81 [.one (.flt .f32 a1.bits)] [.one (.int .i64 v3)]) ∧ T2 Tt) [.no, .call [.one (.flt .f32 a0.bits)] [.one (.int .i64 v1)] [[.view]], .no, .call [.one (.flt .f32 a1.bits)] [.one (.int .i64 v3)] [[.view]]] [4] [] ⟨tr, ⟨⟨rfl, tr⟩, ok_spec_l01Bits K a0 v1 e2⟩, tr, ⟨⟨rfl, tr⟩, ok_spec_l01Bits K a1 v3 e4⟩, tr, tr, tr⟩ ?_
 refine AW.ret ?_
 replace h := zqd h
 subst h
 exact ⟨.inr rfl, zqe [(.one (.c (.bool (v1 == v3))))] (by kernel_rfl) ⟨⟨rfl, tr⟩, tr⟩ (of_decide_eq_true (by kernel_rfl))⟩

/-! spec.l02Same -/
def zka (K : Nat) (a0 : Turn) (a1 : Turn) : Option (Bool) :=
 (zxo K a0.W a1.W).bind fun v1 => (ite2 (v1) ((zxo K a0.X a1.X).bind fun v4 => ite2 (v4) ((zxo K a0.Y a1.Y).bind fun v7 => ite2 (v7) ((zxo K a0.Z a1.Z).bind fun v10 => some v10) (some false)) (some false)) (some false)).bind fun j12 => some j12

theorem ok_spec_l02Same (K : Nat) (a0 : Turn) (a1 : Turn) (o : (Bool)) (h : zka K a0 a1 = some o) : CallOK Tryz.prog 27 [.agg (zqi a0), .agg (zqi a1)] [.one (.bool o)] := by
 refine zqh Tryz.func27 rfl (by kernel_rfl) (Nat.le_of_ble_eq_true (by kernel_rfl)) ?_
 intro w0
 unfold zka at h
 refine AW.sA ⟨[(2, (vp 1 0)), (3, (vp 2 0))], [(1, (.box [(cF a0.W), (cF a0.X), (cF a0.Y), (cF a0.Z)])), (2, (.box [(cF a1.W), (cF a1.X), (cF a1.Y), (cF a1.Z)]))]⟩ (Tt ∧ T2 Tt) [.box 1, .box 2] [2, 3] [1, 2] ⟨tr, tr, tr, tr⟩ ?_
 refine AW.seq ?_
 obtain ⟨v1, e2, h⟩ := zqb h
 obtain ⟨j12, e13, h⟩ := zqb h
 refine AW.join1 (s2 := ⟨[(4, (vB j12))], []⟩) ?_ ?_
 ·rcases zqc e13 with ⟨b3, e13⟩ | ⟨b3, e13⟩
  ·obtain ⟨v4, e5, e13⟩ := zqb e13
   rcases zqc e13 with ⟨b6, e13⟩ | ⟨b6, e13⟩
   ·obtain ⟨v7, e8, e13⟩ := zqb e13
    rcases zqc e13 with ⟨b9, e13⟩ | ⟨b9, e13⟩
    ·obtain ⟨v10, e11, e13⟩ := zqb e13
     replace e13 := zqd e13
     subst e13
     let z4 : List CT := [.one (.flt .f32 a0.W.bits), .one (.flt .f32 a1.W.bits)]
     let z5 : List CT := [.one (.flt .f32 a0.X.bits), .one (.flt .f32 a1.X.bits)]
     let z6 : List CT := [.one (.flt .f32 a0.Y.bits), .one (.flt .f32 a1.Y.bits)]
     let z7 : List CT := [.one (.flt .f32 a0.Z.bits), .one (.flt .f32 a1.Z.bits)]
     exact AW.rA ⟨[(4, (vB v10))], []⟩ (T4 ((((eF a0.W) ∧ (eF a1.W) ∧ Tt) ∧ CallOK Tryz.prog 52 z4 [.one (.bool v1)]) ∧ (Tt ∧ v1 = true) ∧ T4 ((((eF a0.X) ∧ (eF a1.X) ∧ Tt) ∧ CallOK Tryz.prog 52 z5 [.one (.bool v4)]) ∧ Tt ∧ (Tt ∧ v4 = true) ∧ T4 ((((eF a0.Y) ∧ (eF a1.Y) ∧ Tt) ∧ CallOK Tryz.prog 52 z6 [.one (.bool v7)]) ∧ Tt ∧ (Tt ∧ v7 = true) ∧ T4 ((((eF a0.Z) ∧ (eF a1.Z) ∧ Tt) ∧ CallOK Tryz.prog 52 z7 [.one (.bool v10)]) ∧ T2 Tt))))) [.no, .no, .no, .no, .call z4 [.one (.bool v1)] [[.view]], .dec true, .no, .no, .no, .no, .call z5 [.one (.bool v4)] [[.view]], .no, .dec true, .no, .no, .no, .no, .call z6 [.one (.bool v7)] [[.view]], .no, .dec true, .no, .no, .no, .no, .call z7 [.one (.bool v10)] [[.view]]] [4] [] ⟨tr, tr, tr, tr, ⟨⟨rfl, rfl, tr⟩, zwe K a0.W a1.W v1 e2⟩, ⟨tr, b3⟩, tr, tr, tr, tr, ⟨⟨rfl, rfl, tr⟩, zwe K a0.X a1.X v4 e5⟩, tr, ⟨tr, b6⟩, tr, tr, tr, tr, ⟨⟨rfl, rfl, tr⟩, zwe K a0.Y a1.Y v7 e8⟩, tr, ⟨tr, b9⟩, tr, tr, tr, tr, ⟨⟨rfl, rfl, tr⟩, zwe K a0.Z a1.Z v10 e11⟩, tr, tr, tr⟩ ⟨rfl, rfl⟩
    ·replace e13 := zqd e13
     subst e13
     let z8 : List CT := [.one (.flt .f32 a0.W.bits), .one (.flt .f32 a1.W.bits)]
     let z9 : List CT := [.one (.flt .f32 a0.X.bits), .one (.flt .f32 a1.X.bits)]
     let z10 : List CT := [.one (.flt .f32 a0.Y.bits), .one (.flt .f32 a1.Y.bits)]
     exact AW.rA ⟨[(4, (vB false))], []⟩ (T4 ((((eF a0.W) ∧ (eF a1.W) ∧ Tt) ∧ CallOK Tryz.prog 52 z8 [.one (.bool v1)]) ∧ (Tt ∧ v1 = true) ∧ T4 ((((eF a0.X) ∧ (eF a1.X) ∧ Tt) ∧ CallOK Tryz.prog 52 z9 [.one (.bool v4)]) ∧ Tt ∧ (Tt ∧ v4 = true) ∧ T4 ((((eF a0.Y) ∧ (eF a1.Y) ∧ Tt) ∧ CallOK Tryz.prog 52 z10 [.one (.bool v7)]) ∧ Tt ∧ (Tt ∧ v7 = false) ∧ Tt ∧ T2 (T4 Tt))))) [.no, .no, .no, .no, .call z8 [.one (.bool v1)] [[.view]], .dec true, .no, .no, .no, .no, .call z9 [.one (.bool v4)] [[.view]], .no, .dec true, .no, .no, .no, .no, .call z10 [.one (.bool v7)] [[.view]], .no, .dec false] [4] [] ⟨tr, tr, tr, tr, ⟨⟨rfl, rfl, tr⟩, zwe K a0.W a1.W v1 e2⟩, ⟨tr, b3⟩, tr, tr, tr, tr, ⟨⟨rfl, rfl, tr⟩, zwe K a0.X a1.X v4 e5⟩, tr, ⟨tr, b6⟩, tr, tr, tr, tr, ⟨⟨rfl, rfl, tr⟩, zwe K a0.Y a1.Y v7 e8⟩, tr, ⟨tr, b9⟩, tr, tr, tr, tr, tr, tr, tr, tr⟩ ⟨rfl, rfl⟩
   ·replace e13 := zqd e13
    subst e13
    let z2 : List CT := [.one (.flt .f32 a0.W.bits), .one (.flt .f32 a1.W.bits)]
    let z3 : List CT := [.one (.flt .f32 a0.X.bits), .one (.flt .f32 a1.X.bits)]
    exact AW.rA ⟨[(4, (vB false))], []⟩ (T4 ((((eF a0.W) ∧ (eF a1.W) ∧ Tt) ∧ CallOK Tryz.prog 52 z2 [.one (.bool v1)]) ∧ (Tt ∧ v1 = true) ∧ T4 ((((eF a0.X) ∧ (eF a1.X) ∧ Tt) ∧ CallOK Tryz.prog 52 z3 [.one (.bool v4)]) ∧ Tt ∧ (Tt ∧ v4 = false) ∧ T2 (T4 (T4 (T4 Tt)))))) [.no, .no, .no, .no, .call z2 [.one (.bool v1)] [[.view]], .dec true, .no, .no, .no, .no, .call z3 [.one (.bool v4)] [[.view]], .no, .dec false] [4] [] ⟨tr, tr, tr, tr, ⟨⟨rfl, rfl, tr⟩, zwe K a0.W a1.W v1 e2⟩, ⟨tr, b3⟩, tr, tr, tr, tr, ⟨⟨rfl, rfl, tr⟩, zwe K a0.X a1.X v4 e5⟩, tr, ⟨tr, b6⟩, tr, tr, tr, tr, tr, tr, tr, tr, tr, tr, tr, tr, tr, tr, tr⟩ ⟨rfl, rfl⟩
  ·replace e13 := zqd e13
   subst e13
   let z1 : List CT := [.one (.flt .f32 a0.W.bits), .one (.flt .f32 a1.W.bits)]
   exact AW.rA ⟨[(4, (vB false))], []⟩ (T4 ((((eF a0.W) ∧ (eF a1.W) ∧ Tt) ∧ CallOK Tryz.prog 52 z1 [.one (.bool v1)]) ∧ (Tt ∧ v1 = false) ∧ Tt ∧ T4 (T4 (T4 (T4 (T4 Tt)))))) [.no, .no, .no, .no, .call z1 [.one (.bool v1)] [[.view]], .dec false] [4] [] ⟨tr, tr, tr, tr, ⟨⟨rfl, rfl, tr⟩, zwe K a0.W a1.W v1 e2⟩, ⟨tr, b3⟩, tr, tr, tr, tr, tr, tr, tr, tr, tr, tr, tr, tr, tr, tr, tr, tr, tr, tr, tr, tr, tr, tr⟩ ⟨rfl, rfl⟩
 refine zqa ?_
 refine AW.ret ?_
 replace h := zqd h
 subst h
 exact ⟨.inr rfl, zqe [(.one (.c (.bool j12)))] (by kernel_rfl) ⟨⟨rfl, tr⟩, tr⟩ (of_decide_eq_true (by kernel_rfl))⟩

/-! spec.SameTurn -/
def zyd (K : Nat) (a0 : Turn) (a1 : Turn) : Option (Bool) :=
 (zka K a0 a1).bind fun v1 => some v1

theorem ok_spec_SameTurn (K : Nat) (a0 : Turn) (a1 : Turn) (o : (Bool)) (h : zyd K a0 a1 = some o) : CallOK Tryz.prog 9 [.agg (zqi a0), .agg (zqi a1)] [.one (.bool o)] := by
 refine zqh Tryz.func9 rfl (by kernel_rfl) (Nat.le_of_ble_eq_true (by kernel_rfl)) ?_
 intro w0
 unfold zyd at h
 refine AW.sC (Tt ∧ T2 Tt) [.box 1, .box 2] [2, 3] [1, 2] ⟨tr, tr, tr, tr⟩ ?_
 refine AW.seq ?_
 obtain ⟨v1, e2, h⟩ := zqb h
 let z1 : List CT := [.agg (zqi a0), .agg (zqi a1)]
 refine AW.tA ⟨[(4, (vB v1))], []⟩ (T2 (((((eF a0.W) ∧ (eF a0.X) ∧ (eF a0.Y) ∧ (eF a0.Z) ∧ Tt) ∧ ((eF a1.W) ∧ (eF a1.X) ∧ (eF a1.Y) ∧ (eF a1.Z) ∧ Tt) ∧ Tt) ∧ CallOK Tryz.prog 27 z1 [.one (.bool v1)]) ∧ Tt ∧ Tt)) [.no, .no, .call z1 [.one (.bool v1)] [[.view]]] [4] [] ⟨tr, tr, ⟨⟨⟨rfl, rfl, rfl, rfl, tr⟩, ⟨rfl, rfl, rfl, rfl, tr⟩, tr⟩, ok_spec_l02Same K a0 a1 v1 e2⟩, tr, tr⟩ ?_
 refine AW.ret ?_
 replace h := zqd h
 subst h
 exact ⟨.inr rfl, zqe [(.one (.c (.bool v1)))] (by kernel_rfl) ⟨⟨rfl, tr⟩, tr⟩ (of_decide_eq_true (by kernel_rfl))⟩

/-! spec.l01VSame -/
def zvk (K : Nat) (a0 : Vector) (a1 : Vector) : Option (Bool) :=
 (zxo K a0.X a1.X).bind fun v1 => (ite2 (v1) ((zxo K a0.Y a1.Y).bind fun v4 => ite2 (v4) ((zxo K a0.Z a1.Z).bind fun v7 => some v7) (some false)) (some false)).bind fun j9 => some j9

theorem ok_spec_l01VSame (K : Nat) (a0 : Vector) (a1 : Vector) (o : (Bool)) (h : zvk K a0 a1 = some o) : CallOK Tryz.prog 28 [.agg (zqs a0), .agg (zqs a1)] [.one (.bool o)] := by
 refine zqh Tryz.func28 rfl (by kernel_rfl) (Nat.le_of_ble_eq_true (by kernel_rfl)) ?_
 intro w0
 unfold zvk at h
 refine AW.sA ⟨[(2, (vp 1 0)), (3, (vp 2 0))], [(1, (.box [(cF a0.X), (cF a0.Y), (cF a0.Z)])), (2, (.box [(cF a1.X), (cF a1.Y), (cF a1.Z)]))]⟩ (Tt ∧ T2 Tt) [.box 1, .box 2] [2, 3] [1, 2] ⟨tr, tr, tr, tr⟩ ?_
 refine AW.seq ?_
 obtain ⟨v1, e2, h⟩ := zqb h
 obtain ⟨j9, e10, h⟩ := zqb h
 refine AW.join1 (s2 := ⟨[(4, (vB j9))], []⟩) ?_ ?_
 ·rcases zqc e10 with ⟨b3, e10⟩ | ⟨b3, e10⟩
  ·obtain ⟨v4, e5, e10⟩ := zqb e10
   rcases zqc e10 with ⟨b6, e10⟩ | ⟨b6, e10⟩
   ·obtain ⟨v7, e8, e10⟩ := zqb e10
    replace e10 := zqd e10
    subst e10
    let z2 : List CT := [.one (.flt .f32 a0.X.bits), .one (.flt .f32 a1.X.bits)]
    let z3 : List CT := [.one (.flt .f32 a0.Y.bits), .one (.flt .f32 a1.Y.bits)]
    let z4 : List CT := [.one (.flt .f32 a0.Z.bits), .one (.flt .f32 a1.Z.bits)]
    exact AW.rA ⟨[(4, (vB v7))], []⟩ (T4 ((((eF a0.X) ∧ (eF a1.X) ∧ Tt) ∧ CallOK Tryz.prog 52 z2 [.one (.bool v1)]) ∧ (Tt ∧ v1 = true) ∧ T4 ((((eF a0.Y) ∧ (eF a1.Y) ∧ Tt) ∧ CallOK Tryz.prog 52 z3 [.one (.bool v4)]) ∧ Tt ∧ (Tt ∧ v4 = true) ∧ T4 ((((eF a0.Z) ∧ (eF a1.Z) ∧ Tt) ∧ CallOK Tryz.prog 52 z4 [.one (.bool v7)]) ∧ T2 Tt)))) [.no, .no, .no, .no, .call z2 [.one (.bool v1)] [[.view]], .dec true, .no, .no, .no, .no, .call z3 [.one (.bool v4)] [[.view]], .no, .dec true, .no, .no, .no, .no, .call z4 [.one (.bool v7)] [[.view]]] [4] [] ⟨tr, tr, tr, tr, ⟨⟨rfl, rfl, tr⟩, zwe K a0.X a1.X v1 e2⟩, ⟨tr, b3⟩, tr, tr, tr, tr, ⟨⟨rfl, rfl, tr⟩, zwe K a0.Y a1.Y v4 e5⟩, tr, ⟨tr, b6⟩, tr, tr, tr, tr, ⟨⟨rfl, rfl, tr⟩, zwe K a0.Z a1.Z v7 e8⟩, tr, tr, tr⟩ ⟨rfl, rfl⟩
   ·replace e10 := zqd e10
    subst e10
    let z5 : List CT := [.one (.flt .f32 a0.X.bits), .one (.flt .f32 a1.X.bits)]
    let z6 : List CT := [.one (.flt .f32 a0.Y.bits), .one (.flt .f32 a1.Y.bits)]
    exact AW.rA ⟨[(4, (vB false))], []⟩ (T4 ((((eF a0.X) ∧ (eF a1.X) ∧ Tt) ∧ CallOK Tryz.prog 52 z5 [.one (.bool v1)]) ∧ (Tt ∧ v1 = true) ∧ T4 ((((eF a0.Y) ∧ (eF a1.Y) ∧ Tt) ∧ CallOK Tryz.prog 52 z6 [.one (.bool v4)]) ∧ Tt ∧ (Tt ∧ v4 = false) ∧ Tt ∧ T2 (T4 Tt)))) [.no, .no, .no, .no, .call z5 [.one (.bool v1)] [[.view]], .dec true, .no, .no, .no, .no, .call z6 [.one (.bool v4)] [[.view]], .no, .dec false] [4] [] ⟨tr, tr, tr, tr, ⟨⟨rfl, rfl, tr⟩, zwe K a0.X a1.X v1 e2⟩, ⟨tr, b3⟩, tr, tr, tr, tr, ⟨⟨rfl, rfl, tr⟩, zwe K a0.Y a1.Y v4 e5⟩, tr, ⟨tr, b6⟩, tr, tr, tr, tr, tr, tr, tr, tr⟩ ⟨rfl, rfl⟩
  ·replace e10 := zqd e10
   subst e10
   let z1 : List CT := [.one (.flt .f32 a0.X.bits), .one (.flt .f32 a1.X.bits)]
   exact AW.rA ⟨[(4, (vB false))], []⟩ (T4 ((((eF a0.X) ∧ (eF a1.X) ∧ Tt) ∧ CallOK Tryz.prog 52 z1 [.one (.bool v1)]) ∧ (Tt ∧ v1 = false) ∧ T2 (T4 (T4 (T4 Tt))))) [.no, .no, .no, .no, .call z1 [.one (.bool v1)] [[.view]], .dec false] [4] [] ⟨tr, tr, tr, tr, ⟨⟨rfl, rfl, tr⟩, zwe K a0.X a1.X v1 e2⟩, ⟨tr, b3⟩, tr, tr, tr, tr, tr, tr, tr, tr, tr, tr, tr, tr, tr, tr, tr⟩ ⟨rfl, rfl⟩
 refine zqa ?_
 refine AW.ret ?_
 replace h := zqd h
 subst h
 exact ⟨.inr rfl, zqe [(.one (.c (.bool j9)))] (by kernel_rfl) ⟨⟨rfl, tr⟩, tr⟩ (of_decide_eq_true (by kernel_rfl))⟩

/-! spec.SameVector -/
def zke (K : Nat) (a0 : Vector) (a1 : Vector) : Option (Bool) :=
 (zvk K a0 a1).bind fun v1 => some v1

theorem ok_spec_SameVector (K : Nat) (a0 : Vector) (a1 : Vector) (o : (Bool)) (h : zke K a0 a1 = some o) : CallOK Tryz.prog 10 [.agg (zqs a0), .agg (zqs a1)] [.one (.bool o)] := by
 refine zqh Tryz.func10 rfl (by kernel_rfl) (Nat.le_of_ble_eq_true (by kernel_rfl)) ?_
 intro w0
 unfold zke at h
 refine AW.sC (Tt ∧ T2 Tt) [.box 1, .box 2] [2, 3] [1, 2] ⟨tr, tr, tr, tr⟩ ?_
 refine AW.seq ?_
 obtain ⟨v1, e2, h⟩ := zqb h
 let z1 : List CT := [.agg (zqs a0), .agg (zqs a1)]
 refine AW.tA ⟨[(4, (vB v1))], []⟩ (T2 (((((eF a0.X) ∧ (eF a0.Y) ∧ (eF a0.Z) ∧ Tt) ∧ ((eF a1.X) ∧ (eF a1.Y) ∧ (eF a1.Z) ∧ Tt) ∧ Tt) ∧ CallOK Tryz.prog 28 z1 [.one (.bool v1)]) ∧ Tt ∧ Tt)) [.no, .no, .call z1 [.one (.bool v1)] [[.view]]] [4] [] ⟨tr, tr, ⟨⟨⟨rfl, rfl, rfl, tr⟩, ⟨rfl, rfl, rfl, tr⟩, tr⟩, ok_spec_l01VSame K a0 a1 v1 e2⟩, tr, tr⟩ ?_
 refine AW.ret ?_
 replace h := zqd h
 subst h
 exact ⟨.inr rfl, zqe [(.one (.c (.bool v1)))] (by kernel_rfl) ⟨⟨rfl, tr⟩, tr⟩ (of_decide_eq_true (by kernel_rfl))⟩

/-! laws.b10At -/
def laws_b10At (_K : Nat) (a0 : (List Int)) (a1 : Int) (a2 : Int) : Option (Int) :=
 ite2 ((decide (a2 ≤ (1 : Int)))) (some (0 : Int)) (ite2 ((decide (a1 < (a0.length : Int)))) (chk (0 ≤ a1 ∧ a1 < (a0.length : Int)) (chk (a2 ≠ 0) (some ((IntKind.i64.wrap (a0.getD a1.toNat default)).tmod a2)))) (chk (a2 ≠ 0) (some ((IntKind.i64.wrap ((IntKind.i64.wrap (a1 * (37 : Int))) + (11 : Int))).tmod a2))))

theorem zbc (K : Nat) (a0 : (List Int)) (a1 : Int) (a2 : Int) (o : (Int)) (h : laws_b10At K a0 a1 a2 = some o) : CallOK Tryz.prog 11 [.one (sl 1 (csI .u8) a0), .one (.int .i64 a1), .one (.int .i64 a2)] [.one (.int .i64 o)] := by
 refine zqh Tryz.func11 rfl (by kernel_rfl) (Nat.le_of_ble_eq_true (by kernel_rfl)) ?_
 intro w0
 unfold laws_b10At at h
 refine AW.sC (Tt ∧ Tt) [] [0, 1, 2] [] ⟨tr, tr⟩ ?_
 refine AW.seq ?_
 refine AW.sA ⟨[(0, (vc (sl 1 (csI .u8) a0))), (1, (vI a1)), (2, (vI a2)), (8, (vB (decide (a2 ≤ (1 : Int)))))], []⟩ (T2 Tt) [] [0, 1, 2, 8] [] ⟨tr, tr, tr⟩ ?_
 rcases zqc h with ⟨b1, h⟩ | ⟨b1, h⟩
 ·refine AW.cond_t rfl b1 ?_
  refine AW.sA ⟨[(6, (vI (0 : Int)))], []⟩ (Tt ∧ Tt) [] [6] [] ⟨tr, tr⟩ ?_
  refine AW.ret ?_
  refine zqm ?_
  replace h := zqd h
  subst h
  exact ⟨.inr rfl, zqe [(.one (cI (0 : Int)))] (by kernel_rfl) ⟨⟨rfl, tr⟩, tr⟩ (of_decide_eq_true (by kernel_rfl))⟩
 ·refine AW.cond_f rfl b1 ?_
  refine AW.skip ?_
  refine zqa ?_
  refine AW.seq ?_
  refine AW.sA ⟨[(0, (vc (sl 1 (csI .u8) a0))), (1, (vI a1)), (2, (vI a2)), (12, (vB (decide (a1 < (a0.length : Int)))))], []⟩ (T4 Tt) [] [0, 1, 2, 12] [] ⟨tr, tr, tr, tr, tr⟩ ?_
  rcases zqc h with ⟨b2, h⟩ | ⟨b2, h⟩
  ·refine AW.cond_t rfl b2 ?_
   refine AW.seq ?_
   obtain ⟨c3, h⟩ := zqn h
   obtain ⟨c4, h⟩ := zqn h
   let z2 := (IntKind.i64.wrap (a0.getD a1.toNat default)).tmod a2
   refine AW.tA ⟨[(6, (vI z2))], []⟩ (T2 ((0 ≤ a1 ∧ a1 < (a0.length : Int)) ∧ Tt ∧ T2 ((a2 ≠ 0) ∧ Tt ∧ Tt))) [] [6] [] ⟨tr, tr, c3, tr, tr, tr, c4, tr, tr⟩ ?_
   refine AW.ret ?_
   refine zqm ?_
   replace h := zqd h
   subst h
   exact ⟨.inr rfl, zqe [(.one (cI z2))] (by kernel_rfl) ⟨⟨rfl, tr⟩, tr⟩ (of_decide_eq_true (by kernel_rfl))⟩
  ·refine AW.cond_f rfl b2 ?_
   refine AW.skip ?_
   refine zqa ?_
   refine AW.seq ?_
   obtain ⟨c5, h⟩ := zqn h
   let z1 := (IntKind.i64.wrap ((IntKind.i64.wrap (a1 * (37 : Int))) + (11 : Int))).tmod a2
   refine AW.tA ⟨[(6, (vI z1))], []⟩ (T4 ((a2 ≠ 0) ∧ Tt ∧ Tt)) [] [6] [] ⟨tr, tr, tr, tr, c5, tr, tr⟩ ?_
   refine AW.ret ?_
   replace h := zqd h
   subst h
   exact ⟨.inr rfl, zqe [(.one (cI z1))] (by kernel_rfl) ⟨⟨rfl, tr⟩, tr⟩ (of_decide_eq_true (by kernel_rfl))⟩

/-! impl.SampleLoop -/
def zx7 (K : Nat) (a0 : Clip) (a1 : Int) : Option (Pose × Bool) :=
 (zw4 K a0).bind fun v1 => (ite2 ((!v1)) (some true) (ite2 ((decide (a1 < (0 : Int)))) (some true) (some (decide (a1 > (1000000 : Int)))))).bind fun j5 => ite2 (j5) (some ((Pose.mk (Vector.mk (default : F32) (default : F32) (default : F32)) ([] : (List Turn))), false)) (chk (a0.Length ≠ 0) ((zwx K a0 (a1.tmod a0.Length)).bind fun v9 => some (v9, true)))

theorem zkj (K : Nat) (a0 : Clip) (a1 : Int) (o : (Pose × Bool)) (h : zx7 K a0 a1 = some o) : CallOK Tryz.prog 12 [.agg (zqp a0), .one (.int .i64 a1)] [.agg (zwi o.1), .one (.bool o.2)] := by
 refine zqh Tryz.func12 rfl (by kernel_rfl) (Nat.le_of_ble_eq_true (by kernel_rfl)) ?_
 intro w0
 unfold zx7 at h
 let z1 := cF (default : F32)
 let z2 := sl 1 (csL 5 zqo) a0.Tracks
 let z3 := sl 4 zqg a0.Roots
 let z5 := cI a0.Length
 refine AW.sA ⟨[(1, (vI a1)), (2, (vp 1 0)), (4, (vp 2 0))], [(1, (.box [z5, (cI a0.Kind), (.c z2), (.c z3)])), (2, (.box [z1, z1, z1, .nils]))]⟩ (Tt ∧ T2 Tt) [.box 1, .box 2] [1, 2, 4] [1, 2] ⟨tr, tr, tr, tr⟩ ?_
 refine AW.seq ?_
 refine AW.seq ?_
 obtain ⟨v1, e2, h⟩ := zqb h
 obtain ⟨j5, e6, h⟩ := zqb h
 refine AW.join1 (s2 := ⟨[(1, (vI a1)), (2, (vp 1 0)), (4, (vp 2 0)), (16, (vB j5))], [(1, (.box [z5, (cI a0.Kind), (.c z2), (.c z3)])), (2, (.box [z1, z1, z1, .nils]))]⟩) ?_ ?_
 ·rcases zqc e6 with ⟨b3, e6⟩ | ⟨b3, e6⟩
  ·replace e6 := zqd e6
   subst e6
   exact AW.rA ⟨[(1, (vI a1)), (2, (vp 1 0)), (4, (vp 2 0)), (16, (vB true))], [(1, (.box [z5, (cI a0.Kind), (.c z2), (.c z3)])), (2, (.box [z1, z1, z1, .nils]))]⟩ (Tt ∧ ((((eI a0.Length) ∧ (eI a0.Kind) ∧ (Eqc z2) ∧ (Eqc z3) ∧ Tt) ∧ Tt) ∧ CallOK Tryz.prog 7 [.agg (zqp a0)] [.one (.bool v1)]) ∧ Tt ∧ (Tt ∧ (!v1) = true) ∧ Tt ∧ T2 (T4 Tt)) [.no, .call [.agg (zqp a0)] [.one (.bool v1)] [[.view]], .no, .dec true] [1, 2, 4, 16] [1, 2] ⟨tr, ⟨⟨⟨rfl, rfl, rfl, rfl, tr⟩, tr⟩, zq0 K a0 v1 e2⟩, tr, ⟨tr, b3⟩, tr, tr, tr, tr, tr, tr, tr, tr⟩ ⟨rfl, rfl⟩
  ·rcases zqc e6 with ⟨b4, e6⟩ | ⟨b4, e6⟩
   ·replace e6 := zqd e6
    subst e6
    exact AW.rA ⟨[(1, (vI a1)), (2, (vp 1 0)), (4, (vp 2 0)), (16, (vB true))], [(1, (.box [z5, (cI a0.Kind), (.c z2), (.c z3)])), (2, (.box [z1, z1, z1, .nils]))]⟩ (Tt ∧ ((((eI a0.Length) ∧ (eI a0.Kind) ∧ (Eqc z2) ∧ (Eqc z3) ∧ Tt) ∧ Tt) ∧ CallOK Tryz.prog 7 [.agg (zqp a0)] [.one (.bool v1)]) ∧ Tt ∧ (Tt ∧ (!v1) = false) ∧ Tt ∧ T2 ((Tt ∧ (decide (a1 < (0 : Int))) = true) ∧ Tt ∧ T2 Tt)) [.no, .call [.agg (zqp a0)] [.one (.bool v1)] [[.view]], .no, .dec false, .no, .no, .no, .dec true] [1, 2, 4, 16] [1, 2] ⟨tr, ⟨⟨⟨rfl, rfl, rfl, rfl, tr⟩, tr⟩, zq0 K a0 v1 e2⟩, tr, ⟨tr, b3⟩, tr, tr, tr, ⟨tr, b4⟩, tr, tr, tr, tr⟩ ⟨rfl, rfl⟩
   ·replace e6 := zqd e6
    subst e6
    exact AW.rA ⟨[(1, (vI a1)), (2, (vp 1 0)), (4, (vp 2 0)), (16, (vB (decide (a1 > (1000000 : Int)))))], [(1, (.box [z5, (cI a0.Kind), (.c z2), (.c z3)])), (2, (.box [z1, z1, z1, .nils]))]⟩ (Tt ∧ ((((eI a0.Length) ∧ (eI a0.Kind) ∧ (Eqc z2) ∧ (Eqc z3) ∧ Tt) ∧ Tt) ∧ CallOK Tryz.prog 7 [.agg (zqp a0)] [.one (.bool v1)]) ∧ Tt ∧ (Tt ∧ (!v1) = false) ∧ Tt ∧ T2 ((Tt ∧ (decide (a1 < (0 : Int))) = false) ∧ Tt ∧ T2 Tt)) [.no, .call [.agg (zqp a0)] [.one (.bool v1)] [[.view]], .no, .dec false, .no, .no, .no, .dec false] [1, 2, 4, 16] [1, 2] ⟨tr, ⟨⟨⟨rfl, rfl, rfl, rfl, tr⟩, tr⟩, zq0 K a0 v1 e2⟩, tr, ⟨tr, b3⟩, tr, tr, tr, ⟨tr, b4⟩, tr, tr, tr, tr⟩ ⟨rfl, rfl⟩
 refine zqa ?_
 rcases zqc h with ⟨b7, h⟩ | ⟨b7, h⟩
 ·refine AW.cond_t rfl b7 ?_
  refine AW.sA ⟨[(4, (vp 2 0)), (5, (vB false))], [(2, (.box [z1, z1, z1, .nils]))]⟩ (Tt ∧ T2 Tt) [] [4, 5] [2] ⟨tr, tr, tr, tr⟩ ?_
  refine AW.ret ?_
  refine zqm ?_
  replace h := zqd h
  subst h
  exact ⟨.inr rfl, zqe [(.agg [z1, z1, z1, .nils]), (.one (.c (.bool false)))] (by kernel_rfl) ⟨⟨⟨rfl, tr⟩, ⟨rfl, tr⟩, ⟨rfl, tr⟩, rfl, tr⟩, ⟨rfl, tr⟩, tr⟩ (of_decide_eq_true (by kernel_rfl))⟩
 ·refine AW.cond_f rfl b7 ?_
  refine AW.skip ?_
  refine zqa ?_
  refine AW.seq ?_
  obtain ⟨c8, h⟩ := zqn h
  obtain ⟨v9, e10, h⟩ := zqb h
  let z6 := a1.tmod a0.Length
  let z4 : List CT := [.one (pl 4 zqp a0), .one (.int .i64 z6)]
  refine AW.tA ⟨[(4, (vp 2 0)), (5, (vB true))], [(2, (.box [(cF v9.Root.X), (cF v9.Root.Y), (cF v9.Root.Z), (xL 3 4 zqi v9.Turns)])), (3, (oL 4 zqi v9.Turns))]⟩ (Tt ∧ T2 ((a0.Length ≠ 0) ∧ (((0 = 0 ∧ (eI a0.Length) ∧ (eI a0.Kind) ∧ (Eqc z2) ∧ (Eqc z3) ∧ Tt) ∧ (eI z6) ∧ Tt) ∧ CallOK Tryz.prog 26 z4 [.agg (zwi v9)]) ∧ T2 Tt)) [.no, .no, .no, .no, .call z4 [.agg (zwi v9)] [[.view, .view, .view, .lst 3]]] [4, 5] [2, 3] ⟨tr, tr, tr, c8, ⟨⟨⟨rfl, rfl, rfl, rfl, rfl, tr⟩, rfl, tr⟩, zv7 K a0 z6 v9 e10⟩, tr, tr, tr⟩ ?_
  refine AW.ret ?_
  replace h := zqd h
  subst h
  exact ⟨.inr rfl, zqe [(.agg [(cF v9.Root.X), (cF v9.Root.Y), (cF v9.Root.Z), (xL 3 4 zqi v9.Turns)]), (.one (.c (.bool true)))] (by kernel_rfl) ⟨⟨⟨rfl, tr⟩, ⟨rfl, tr⟩, ⟨rfl, tr⟩, rfl, tr⟩, ⟨rfl, tr⟩, tr⟩ (of_decide_eq_true (by kernel_rfl))⟩

/-! impl.PlayClip -/
def zxg (K : Nat) (a0 : Clip) (a1 : Int) (a2 : Int) (a3 : Int) : Nat → Int → (List Pose) → Option ((List Pose) × Bool)
 | 0, _, _ => none
 | k + 1, x14, x15 => ite2 ((decide (x14 < a3))) (chk (a0.Length ≠ 0) ((zwx K a0 ((IntKind.i64.wrap (a1 + (IntKind.i64.wrap (x14 * a2)))).tmod a0.Length)).bind fun v18 => chk ((x15.length + ([v18]).length) * 40 ≤ 140737488355328) (zxg K a0 a1 a2 a3 k (IntKind.i64.wrap (x14 + (1 : Int))) (x15 ++ ([v18]))))) (some (x15, true))

def zkb (K : Nat) (a0 : Clip) (a1 : Int) (a2 : Int) (a3 : Int) : Option ((List Pose) × Bool) :=
 (zw4 K a0).bind fun v1 => (ite2 ((!v1)) (some true) (ite2 ((decide (a1 < (0 : Int)))) (some true) (ite2 ((decide (a1 > (1000 : Int)))) (some true) (ite2 ((decide (a2 < (0 : Int)))) (some true) (ite2 ((decide (a2 > (1000 : Int)))) (some true) (ite2 ((decide (a3 < (0 : Int)))) (some true) (some (decide (a3 > (64 : Int)))))))))).bind fun j9 => ite2 (j9) (some (([] : (List Pose)), false)) (zxg K a0 a1 a2 a3 K (0 : Int) ([] : (List Pose)))

theorem ok_impl_PlayClip (K : Nat) (a0 : Clip) (a1 : Int) (a2 : Int) (a3 : Int) (o : ((List Pose) × Bool)) (h : zkb K a0 a1 a2 a3 = some o) : CallOK Tryz.prog 13 [.agg (zqp a0), .one (.int .i64 a1), .one (.int .i64 a2), .one (.int .i64 a3)] [.one (sl 4 zwi o.1), .one (.bool o.2)] := by
 refine zqh Tryz.func13 rfl (by kernel_rfl) (Nat.le_of_ble_eq_true (by kernel_rfl)) ?_
 intro w0
 unfold zkb at h
 let z1 := sl 1 (csL 5 zqo) a0.Tracks
 let z2 := sl 4 zqg a0.Roots
 let z4 := cI a0.Length
 refine AW.sA ⟨[(1, (vI a1)), (2, (vI a2)), (3, (vI a3)), (4, (vp 1 0))], [(1, (.box [z4, (cI a0.Kind), (.c z1), (.c z2)]))]⟩ (Tt ∧ T2 Tt) [.box 1] [1, 2, 3, 4] [1] ⟨tr, tr, tr, tr⟩ ?_
 refine AW.seq ?_
 refine AW.seq ?_
 obtain ⟨v1, e2, h⟩ := zqb h
 obtain ⟨j9, e10, h⟩ := zqb h
 refine AW.join1 (s2 := ⟨[(1, (vI a1)), (2, (vI a2)), (3, (vI a3)), (4, (vp 1 0)), (38, (vB j9))], [(1, (.box [z4, (cI a0.Kind), (.c z1), (.c z2)]))]⟩) ?_ ?_
 ·rcases zqc e10 with ⟨b3, e10⟩ | ⟨b3, e10⟩
  ·replace e10 := zqd e10
   subst e10
   exact AW.rA ⟨[(1, (vI a1)), (2, (vI a2)), (3, (vI a3)), (4, (vp 1 0)), (38, (vB true))], [(1, (.box [z4, (cI a0.Kind), (.c z1), (.c z2)]))]⟩ (Tt ∧ ((((eI a0.Length) ∧ (eI a0.Kind) ∧ (Eqc z1) ∧ (Eqc z2) ∧ Tt) ∧ Tt) ∧ CallOK Tryz.prog 7 [.agg (zqp a0)] [.one (.bool v1)]) ∧ Tt ∧ (Tt ∧ (!v1) = true) ∧ Tt ∧ T2 (T4 (T4 (T4 (T4 (T4 Tt)))))) [.no, .call [.agg (zqp a0)] [.one (.bool v1)] [[.view]], .no, .dec true] [1, 2, 3, 4, 38] [1] ⟨tr, ⟨⟨⟨rfl, rfl, rfl, rfl, tr⟩, tr⟩, zq0 K a0 v1 e2⟩, tr, ⟨tr, b3⟩, tr, tr, tr, tr, tr, tr, tr, tr, tr, tr, tr, tr, tr, tr, tr, tr, tr, tr, tr, tr, tr, tr, tr, tr⟩ ⟨rfl, rfl⟩
  ·rcases zqc e10 with ⟨b4, e10⟩ | ⟨b4, e10⟩
   ·replace e10 := zqd e10
    subst e10
    exact AW.rA ⟨[(1, (vI a1)), (2, (vI a2)), (3, (vI a3)), (4, (vp 1 0)), (38, (vB true))], [(1, (.box [z4, (cI a0.Kind), (.c z1), (.c z2)]))]⟩ (Tt ∧ ((((eI a0.Length) ∧ (eI a0.Kind) ∧ (Eqc z1) ∧ (Eqc z2) ∧ Tt) ∧ Tt) ∧ CallOK Tryz.prog 7 [.agg (zqp a0)] [.one (.bool v1)]) ∧ Tt ∧ (Tt ∧ (!v1) = false) ∧ Tt ∧ T2 ((Tt ∧ (decide (a1 < (0 : Int))) = true) ∧ Tt ∧ T2 (T4 (T4 (T4 (T4 Tt)))))) [.no, .call [.agg (zqp a0)] [.one (.bool v1)] [[.view]], .no, .dec false, .no, .no, .no, .dec true] [1, 2, 3, 4, 38] [1] ⟨tr, ⟨⟨⟨rfl, rfl, rfl, rfl, tr⟩, tr⟩, zq0 K a0 v1 e2⟩, tr, ⟨tr, b3⟩, tr, tr, tr, ⟨tr, b4⟩, tr, tr, tr, tr, tr, tr, tr, tr, tr, tr, tr, tr, tr, tr, tr, tr, tr, tr, tr, tr⟩ ⟨rfl, rfl⟩
   ·rcases zqc e10 with ⟨b5, e10⟩ | ⟨b5, e10⟩
    ·replace e10 := zqd e10
     subst e10
     exact AW.rA ⟨[(1, (vI a1)), (2, (vI a2)), (3, (vI a3)), (4, (vp 1 0)), (38, (vB true))], [(1, (.box [z4, (cI a0.Kind), (.c z1), (.c z2)]))]⟩ (Tt ∧ ((((eI a0.Length) ∧ (eI a0.Kind) ∧ (Eqc z1) ∧ (Eqc z2) ∧ Tt) ∧ Tt) ∧ CallOK Tryz.prog 7 [.agg (zqp a0)] [.one (.bool v1)]) ∧ Tt ∧ (Tt ∧ (!v1) = false) ∧ Tt ∧ T2 ((Tt ∧ (decide (a1 < (0 : Int))) = false) ∧ Tt ∧ T2 ((Tt ∧ (decide (a1 > (1000 : Int))) = true) ∧ Tt ∧ T2 (T4 (T4 (T4 Tt)))))) [.no, .call [.agg (zqp a0)] [.one (.bool v1)] [[.view]], .no, .dec false, .no, .no, .no, .dec false, .no, .no, .no, .dec true] [1, 2, 3, 4, 38] [1] ⟨tr, ⟨⟨⟨rfl, rfl, rfl, rfl, tr⟩, tr⟩, zq0 K a0 v1 e2⟩, tr, ⟨tr, b3⟩, tr, tr, tr, ⟨tr, b4⟩, tr, tr, tr, ⟨tr, b5⟩, tr, tr, tr, tr, tr, tr, tr, tr, tr, tr, tr, tr, tr, tr, tr, tr⟩ ⟨rfl, rfl⟩
    ·rcases zqc e10 with ⟨b6, e10⟩ | ⟨b6, e10⟩
     ·replace e10 := zqd e10
      subst e10
      exact AW.rA ⟨[(1, (vI a1)), (2, (vI a2)), (3, (vI a3)), (4, (vp 1 0)), (38, (vB true))], [(1, (.box [z4, (cI a0.Kind), (.c z1), (.c z2)]))]⟩ (Tt ∧ ((((eI a0.Length) ∧ (eI a0.Kind) ∧ (Eqc z1) ∧ (Eqc z2) ∧ Tt) ∧ Tt) ∧ CallOK Tryz.prog 7 [.agg (zqp a0)] [.one (.bool v1)]) ∧ Tt ∧ (Tt ∧ (!v1) = false) ∧ Tt ∧ T2 ((Tt ∧ (decide (a1 < (0 : Int))) = false) ∧ Tt ∧ T2 ((Tt ∧ (decide (a1 > (1000 : Int))) = false) ∧ Tt ∧ T2 ((Tt ∧ (decide (a2 < (0 : Int))) = true) ∧ Tt ∧ T2 (T4 (T4 Tt)))))) [.no, .call [.agg (zqp a0)] [.one (.bool v1)] [[.view]], .no, .dec false, .no, .no, .no, .dec false, .no, .no, .no, .dec false, .no, .no, .no, .dec true] [1, 2, 3, 4, 38] [1] ⟨tr, ⟨⟨⟨rfl, rfl, rfl, rfl, tr⟩, tr⟩, zq0 K a0 v1 e2⟩, tr, ⟨tr, b3⟩, tr, tr, tr, ⟨tr, b4⟩, tr, tr, tr, ⟨tr, b5⟩, tr, tr, tr, ⟨tr, b6⟩, tr, tr, tr, tr, tr, tr, tr, tr, tr, tr, tr, tr⟩ ⟨rfl, rfl⟩
     ·rcases zqc e10 with ⟨b7, e10⟩ | ⟨b7, e10⟩
      ·replace e10 := zqd e10
       subst e10
       exact AW.rA ⟨[(1, (vI a1)), (2, (vI a2)), (3, (vI a3)), (4, (vp 1 0)), (38, (vB true))], [(1, (.box [z4, (cI a0.Kind), (.c z1), (.c z2)]))]⟩ (Tt ∧ ((((eI a0.Length) ∧ (eI a0.Kind) ∧ (Eqc z1) ∧ (Eqc z2) ∧ Tt) ∧ Tt) ∧ CallOK Tryz.prog 7 [.agg (zqp a0)] [.one (.bool v1)]) ∧ Tt ∧ (Tt ∧ (!v1) = false) ∧ Tt ∧ T2 ((Tt ∧ (decide (a1 < (0 : Int))) = false) ∧ Tt ∧ T2 ((Tt ∧ (decide (a1 > (1000 : Int))) = false) ∧ Tt ∧ T2 ((Tt ∧ (decide (a2 < (0 : Int))) = false) ∧ Tt ∧ T2 ((Tt ∧ (decide (a2 > (1000 : Int))) = true) ∧ Tt ∧ T2 (T4 Tt)))))) [.no, .call [.agg (zqp a0)] [.one (.bool v1)] [[.view]], .no, .dec false, .no, .no, .no, .dec false, .no, .no, .no, .dec false, .no, .no, .no, .dec false, .no, .no, .no, .dec true] [1, 2, 3, 4, 38] [1] ⟨tr, ⟨⟨⟨rfl, rfl, rfl, rfl, tr⟩, tr⟩, zq0 K a0 v1 e2⟩, tr, ⟨tr, b3⟩, tr, tr, tr, ⟨tr, b4⟩, tr, tr, tr, ⟨tr, b5⟩, tr, tr, tr, ⟨tr, b6⟩, tr, tr, tr, ⟨tr, b7⟩, tr, tr, tr, tr, tr, tr, tr, tr⟩ ⟨rfl, rfl⟩
      ·rcases zqc e10 with ⟨b8, e10⟩ | ⟨b8, e10⟩
       ·replace e10 := zqd e10
        subst e10
        exact AW.rA ⟨[(1, (vI a1)), (2, (vI a2)), (3, (vI a3)), (4, (vp 1 0)), (38, (vB true))], [(1, (.box [z4, (cI a0.Kind), (.c z1), (.c z2)]))]⟩ (Tt ∧ ((((eI a0.Length) ∧ (eI a0.Kind) ∧ (Eqc z1) ∧ (Eqc z2) ∧ Tt) ∧ Tt) ∧ CallOK Tryz.prog 7 [.agg (zqp a0)] [.one (.bool v1)]) ∧ Tt ∧ (Tt ∧ (!v1) = false) ∧ Tt ∧ T2 ((Tt ∧ (decide (a1 < (0 : Int))) = false) ∧ Tt ∧ T2 ((Tt ∧ (decide (a1 > (1000 : Int))) = false) ∧ Tt ∧ T2 ((Tt ∧ (decide (a2 < (0 : Int))) = false) ∧ Tt ∧ T2 ((Tt ∧ (decide (a2 > (1000 : Int))) = false) ∧ Tt ∧ T2 ((Tt ∧ (decide (a3 < (0 : Int))) = true) ∧ Tt ∧ T2 Tt)))))) [.no, .call [.agg (zqp a0)] [.one (.bool v1)] [[.view]], .no, .dec false, .no, .no, .no, .dec false, .no, .no, .no, .dec false, .no, .no, .no, .dec false, .no, .no, .no, .dec false, .no, .no, .no, .dec true] [1, 2, 3, 4, 38] [1] ⟨tr, ⟨⟨⟨rfl, rfl, rfl, rfl, tr⟩, tr⟩, zq0 K a0 v1 e2⟩, tr, ⟨tr, b3⟩, tr, tr, tr, ⟨tr, b4⟩, tr, tr, tr, ⟨tr, b5⟩, tr, tr, tr, ⟨tr, b6⟩, tr, tr, tr, ⟨tr, b7⟩, tr, tr, tr, ⟨tr, b8⟩, tr, tr, tr, tr⟩ ⟨rfl, rfl⟩
       ·replace e10 := zqd e10
        subst e10
        exact AW.rA ⟨[(1, (vI a1)), (2, (vI a2)), (3, (vI a3)), (4, (vp 1 0)), (38, (vB (decide (a3 > (64 : Int)))))], [(1, (.box [z4, (cI a0.Kind), (.c z1), (.c z2)]))]⟩ (Tt ∧ ((((eI a0.Length) ∧ (eI a0.Kind) ∧ (Eqc z1) ∧ (Eqc z2) ∧ Tt) ∧ Tt) ∧ CallOK Tryz.prog 7 [.agg (zqp a0)] [.one (.bool v1)]) ∧ Tt ∧ (Tt ∧ (!v1) = false) ∧ Tt ∧ T2 ((Tt ∧ (decide (a1 < (0 : Int))) = false) ∧ Tt ∧ T2 ((Tt ∧ (decide (a1 > (1000 : Int))) = false) ∧ Tt ∧ T2 ((Tt ∧ (decide (a2 < (0 : Int))) = false) ∧ Tt ∧ T2 ((Tt ∧ (decide (a2 > (1000 : Int))) = false) ∧ Tt ∧ T2 ((Tt ∧ (decide (a3 < (0 : Int))) = false) ∧ Tt ∧ T2 Tt)))))) [.no, .call [.agg (zqp a0)] [.one (.bool v1)] [[.view]], .no, .dec false, .no, .no, .no, .dec false, .no, .no, .no, .dec false, .no, .no, .no, .dec false, .no, .no, .no, .dec false, .no, .no, .no, .dec false] [1, 2, 3, 4, 38] [1] ⟨tr, ⟨⟨⟨rfl, rfl, rfl, rfl, tr⟩, tr⟩, zq0 K a0 v1 e2⟩, tr, ⟨tr, b3⟩, tr, tr, tr, ⟨tr, b4⟩, tr, tr, tr, ⟨tr, b5⟩, tr, tr, tr, ⟨tr, b6⟩, tr, tr, tr, ⟨tr, b7⟩, tr, tr, tr, ⟨tr, b8⟩, tr, tr, tr, tr⟩ ⟨rfl, rfl⟩
 refine zqa ?_
 rcases zqc h with ⟨b11, h⟩ | ⟨b11, h⟩
 ·refine AW.cond_t rfl b11 ?_
  refine AW.sA ⟨[(8, (.v (.one .nils))), (9, (vB false))], []⟩ (T2 Tt) [] [8, 9] [] ⟨tr, tr, tr⟩ ?_
  refine AW.ret ?_
  refine zqm ?_
  replace h := zqd h
  subst h
  exact ⟨.inr rfl, zqe [(.one .nils), (.one (.c (.bool false)))] (by kernel_rfl) ⟨rfl, ⟨rfl, tr⟩, tr⟩ (of_decide_eq_true (by kernel_rfl))⟩
 ·refine AW.cond_f rfl b11 ?_
  refine AW.skip ?_
  refine zqa ?_
  refine AW.sC (Tt ∧ Tt) [] [1, 2, 3, 4, 10] [1] ⟨tr, tr⟩ ?_
  refine AW.seq ?_
  refine AW.sA ⟨[(1, (vI a1)), (2, (vI a2)), (4, (vp 1 0)), (10, (.v (.one .nils))), (39, (vI a3)), (40, (vI (0 : Int)))], [(1, (.box [z4, (cI a0.Kind), (.c z1), (.c z2)]))]⟩ (T2 Tt) [] [1, 2, 4, 10, 39, 40] [1] ⟨tr, tr, tr⟩ ?_
  refine AW.block ?_
  refine AW.weak (s' := ⟨[(1, (vI a1)), (2, (vI a2)), (4, (vp 1 0)), (10, (vL 5 4 zwi ([] : (List Pose)))), (39, (vI a3)), (40, (vI (0 : Int)))], [(1, (.box [z4, (cI a0.Kind), (.c z1), (.c z2)])), (5, (oL 4 zwi ([] : (List Pose))))]⟩) (Sub.trans (Sub.unnil 5 4 (gl zwi ([] : (List Pose))) [10] [] _ (by kernel_rfl) (by kernel_rfl)) (Sub.keep [1, 2, 4, 10, 39, 40] [1, 5] (by kernel_rfl) (by kernel_rfl))) ?_
  refine AW.loopQ (σ := Nat × Int × (List Pose)) (fun p => ⟨[(1, (vI a1)), (2, (vI a2)), (4, (vp 1 0)), (10, (vL 5 4 zwi p.2.2)), (39, (vI a3)), (40, (vI p.2.1))], [(1, (.box [z4, (cI a0.Kind), (.c z1), (.c z2)])), (5, (oL 4 zwi p.2.2))]⟩) (fun p => zxg K a0 a1 a2 a3 p.1 p.2.1 p.2.2 = some o) (fun p => p.1) (K, (0 : Int), ([] : (List Pose))) h ?_
  clear h
  rintro ⟨k, x14, x15⟩ h
  replace h : zxg K a0 a1 a2 a3 k x14 x15 = some o := h
  let z6 := vL 5 4 zwi x15
  let z8 := oL 4 zwi x15
  show AW _ _ (⟨[(1, (vI a1)), (2, (vI a2)), (4, (vp 1 0)), (10, z6), (39, (vI a3)), (40, (vI x14))], [(1, (.box [z4, (cI a0.Kind), (.c z1), (.c z2)])), (5, z8)]⟩ : St) _
  obtain _ | k := k
  ·rw [zxg] at h; cases h
  rw [zxg] at h
  refine AW.sA ⟨[(1, (vI a1)), (2, (vI a2)), (4, (vp 1 0)), (10, z6), (39, (vI a3)), (40, (vI x14)), (41, (vB (decide (x14 < a3))))], [(1, (.box [z4, (cI a0.Kind), (.c z1), (.c z2)])), (5, z8)]⟩ (Tt ∧ Tt) [] [1, 2, 4, 10, 39, 40, 41] [1, 5] ⟨tr, tr⟩ ?_
  refine AW.seq ?_
  rcases zqc h with ⟨b16, h⟩ | ⟨b16, h⟩
  ·refine AW.cond_t rfl b16 ?_
   refine AW.skip ?_
   refine zqa ?_
   refine AW.seq ?_
   refine AW.block ?_
   refine AW.sC (T2 Tt) [] [1, 2, 4, 10, 11, 39, 40] [1, 5] ⟨tr, tr, tr⟩ ?_
   obtain ⟨c17, h⟩ := zqn h
   obtain ⟨v18, e19, h⟩ := zqb h
   obtain ⟨c20, h⟩ := zqn h
   let z3 := (IntKind.i64.wrap (a1 + (IntKind.i64.wrap (x14 * a2)))).tmod a0.Length
   let z5 := x15 ++ ([v18])
   let z9 : List CT := [.one (pl 4 zqp a0), .one (.int .i64 z3)]
   refine AW.rA ⟨[(1, (vI a1)), (2, (vI a2)), (4, (vp 1 0)), (10, (vL 14 4 zwi z5)), (39, (vI a3)), (40, (vI x14))], [(1, (.box [z4, (cI a0.Kind), (.c z1), (.c z2)])), (14, (oL 4 zwi z5))]⟩ (T4 (T4 ((a0.Length ≠ 0) ∧ (((0 = 0 ∧ (eI a0.Length) ∧ (eI a0.Kind) ∧ (Eqc z1) ∧ (Eqc z2) ∧ Tt) ∧ (((.int .i64 z3) : C) = (.int .i64 z3)) ∧ Tt) ∧ CallOK Tryz.prog 26 z9 [.agg (zwi v18)]) ∧ (([v18]).length = 1 ∧ (((.flt .f32 v18.Root.X.bits) : C) = (.flt .f32 v18.Root.X.bits) ∧ Tt) ∧ (((.flt .f32 v18.Root.Y.bits) : C) = (.flt .f32 v18.Root.Y.bits) ∧ Tt) ∧ (((.flt .f32 v18.Root.Z.bits) : C) = (.flt .f32 v18.Root.Z.bits) ∧ Tt) ∧ (Eqc (sl 4 zqi v18.Turns)) ∧ Tt) ∧ (z5.length = x15.length + ([v18]).length ∧ AppOb (x15.length) (([v18]).length) 4 (gl zwi x15) (gl zwi ([v18])) (gl zwi z5) ∧ Tt ∧ (x15.length + ([v18]).length) * 40 ≤ 140737488355328) ∧ Tt ∧ Tt))) [.no, .no, .no, .no, .no, .no, .no, .no, .no, .call z9 [.agg (zwi v18)] [[.view, .view, .view, .lst 12]], .obj 13 ([v18]).length (gl zwi ([v18])), .obj 14 z5.length (gl zwi z5)] [1, 2, 4, 10, 39, 40] [1, 14] ⟨tr, tr, tr, tr, tr, tr, tr, tr, c17, ⟨⟨⟨rfl, rfl, rfl, rfl, rfl, tr⟩, rfl, tr⟩, zv7 K a0 z3 v18 e19⟩, ⟨rfl, ⟨⟨rfl, tr⟩, ⟨rfl, tr⟩, ⟨rfl, tr⟩, rfl, tr⟩⟩, ⟨List.length_append, zx9, tr, c20⟩, tr, tr⟩ ?_
   refine zqr ?_
   refine zqa ?_
   let z7 := IntKind.i64.wrap (x14 + (1 : Int))
   refine AW.rA ⟨[(1, (vI a1)), (2, (vI a2)), (4, (vp 1 0)), (10, (vL 14 4 zwi z5)), (39, (vI a3)), (40, (vI z7))], [(1, (.box [z4, (cI a0.Kind), (.c z1), (.c z2)])), (14, (oL 4 zwi z5))]⟩ (T2 Tt) [] [1, 2, 4, 10, 39, 40] [1, 14] ⟨tr, tr, tr⟩ ?_
   exact zqu (k, z7, z5) h (Nat.lt_succ_self k) (Sub.trans (Sub.swap 5 14 _ (by kernel_rfl) (by kernel_rfl)) (Sub.keep [1, 2, 4, 10, 39, 40] [1, 5] (by kernel_rfl) (by kernel_rfl)))
  ·refine AW.cond_f rfl b16 ?_
   refine AW.exit ?_
   refine zwc ?_
   refine zwd ?_
   refine zq4 ?_
   refine zqa ?_
   refine AW.sA ⟨[(8, z6), (9, (vB true))], [(5, z8)]⟩ (Tt ∧ T2 Tt) [] [8, 9] [5] ⟨tr, tr, tr, tr⟩ ?_
   refine AW.ret ?_
   replace h := zqd h
   subst h
   exact ⟨.inr rfl, zqe [(.one (xL 5 4 zwi x15)), (.one (.c (.bool true)))] (by kernel_rfl) ⟨rfl, ⟨rfl, tr⟩, tr⟩ (of_decide_eq_true (by kernel_rfl))⟩

/-! math.Float64bits -/
def zyc (_K : Nat) (a0 : F64) : Option (Int) :=
 a0.toBits

theorem ok_math_Float64bits (K : Nat) (a0 : F64) (o : Int) (h : zyc K a0 = some o) : CallOK Tryz.prog 102 [.one (.flt .f64 a0.bits)] [.one (.int .u64 o)] :=
 hand_toBits (e := Extern.MathFloatBits.float64bits) Tryz.func102 (by kernel_rfl) (by kernel_rfl) (by kernel_rfl) (by kernel_rfl) (fun _ _ => rfl) a0 o h

/-! math.Signbit -/
def zv9 (K : Nat) (a0 : F64) : Option (Bool) :=
 (zyc K a0).bind fun v1 => some (decide ((IntKind.i64.wrap v1) < (0 : Int)))

theorem ok_math_Signbit (K : Nat) (a0 : F64) (o : (Bool)) (h : zv9 K a0 = some o) : CallOK Tryz.prog 82 [.one (.flt .f64 a0.bits)] [.one (.bool o)] := by
 refine zqh Tryz.func82 rfl (by kernel_rfl) (Nat.le_of_ble_eq_true (by kernel_rfl)) ?_
 intro w0
 unfold zv9 at h
 refine AW.sC (Tt ∧ Tt) [] [0] [] ⟨tr, tr⟩ ?_
 refine AW.seq ?_
 obtain ⟨v1, e2, h⟩ := zqb h
 let z1 := decide ((IntKind.i64.wrap v1) < (0 : Int))
 refine AW.tA ⟨[(2, (vB z1))], []⟩ (Tt ∧ (((Eqc (.flt .f64 a0.bits)) ∧ Tt) ∧ CallOK Tryz.prog 102 [.one (.flt .f64 a0.bits)] [.one (.int .u64 v1)]) ∧ Tt ∧ T2 Tt) [.no, .call [.one (.flt .f64 a0.bits)] [.one (.int .u64 v1)] [[.view]]] [2] [] ⟨tr, ⟨⟨rfl, tr⟩, ok_math_Float64bits K a0 v1 e2⟩, tr, tr, tr, tr⟩ ?_
 refine AW.ret ?_
 replace h := zqd h
 subst h
 exact ⟨.inr rfl, zqe [(.one (.c (.bool z1)))] (by kernel_rfl) ⟨⟨rfl, tr⟩, tr⟩ (of_decide_eq_true (by kernel_rfl))⟩

/-! impl.SameNumber -/
def zwr (K : Nat) (a0 : F32) (a1 : F32) : Option (Bool) :=
 (ite2 ((a0.ne a0)) (some true) (some (a1.ne a1))).bind fun j2 => ite2 (j2) ((ite2 ((a0.ne a0)) (some (a1.ne a1)) (some false)).bind fun j6 => some j6) ((ite2 ((a0.eq a1)) ((zv9 K (Fl.cv .f32 .f64 a0)).bind fun v9 => (zv9 K (Fl.cv .f32 .f64 a1)).bind fun v11 => some (v9 == v11)) (some false)).bind fun j13 => some j13)

theorem zq5 (K : Nat) (a0 : F32) (a1 : F32) (o : (Bool)) (h : zwr K a0 a1 = some o) : CallOK Tryz.prog 53 [.one (.flt .f32 a0.bits), .one (.flt .f32 a1.bits)] [.one (.bool o)] := by
 refine zqh Tryz.func53 rfl (by kernel_rfl) (Nat.le_of_ble_eq_true (by kernel_rfl)) ?_
 intro w0
 unfold zwr at h
 let z1 := vc (.flt .f32 a0.bits)
 let z2 := vc (.flt .f32 a1.bits)
 refine AW.sA ⟨[(0, z1), (1, z2)], []⟩ (Tt ∧ Tt) [] [0, 1] [] ⟨tr, tr⟩ ?_
 refine AW.seq ?_
 refine AW.seq ?_
 obtain ⟨j2, e3, h⟩ := zqb h
 refine AW.join1 (s2 := ⟨[(0, z1), (1, z2), (12, (vB j2))], []⟩) ?_ ?_
 ·rcases zqc e3 with ⟨b1, e3⟩ | ⟨b1, e3⟩
  ·replace e3 := zqd e3
   subst e3
   exact AW.rA ⟨[(0, z1), (1, z2), (12, (vB true))], []⟩ (Tt ∧ T2 ((Tt ∧ (a0.ne a0) = true) ∧ T4 Tt)) [.no, .no, .no, .dec true] [0, 1, 12] [] ⟨tr, tr, tr, ⟨tr, b1⟩, tr, tr, tr, tr, tr⟩ ⟨rfl, rfl⟩
  ·replace e3 := zqd e3
   subst e3
   exact AW.rA ⟨[(0, z1), (1, z2), (12, (vB (a1.ne a1)))], []⟩ (Tt ∧ T2 ((Tt ∧ (a0.ne a0) = false) ∧ T4 Tt)) [.no, .no, .no, .dec false] [0, 1, 12] [] ⟨tr, tr, tr, ⟨tr, b1⟩, tr, tr, tr, tr, tr⟩ ⟨rfl, rfl⟩
 refine zqa ?_
 rcases zqc h with ⟨b4, h⟩ | ⟨b4, h⟩
 ·refine AW.cond_t rfl b4 ?_
  refine AW.seq ?_
  obtain ⟨j6, e7, h⟩ := zqb h
  refine AW.join1 (s2 := ⟨[(4, (vB j6))], []⟩) ?_ ?_
  ·rcases zqc e7 with ⟨b5, e7⟩ | ⟨b5, e7⟩
   ·replace e7 := zqd e7
    subst e7
    exact AW.rA ⟨[(4, (vB (a1.ne a1)))], []⟩ (Tt ∧ T2 ((Tt ∧ (a0.ne a0) = true) ∧ Tt ∧ T4 Tt)) [.no, .no, .no, .dec true] [4] [] ⟨tr, tr, tr, ⟨tr, b5⟩, tr, tr, tr, tr, tr, tr⟩ ⟨rfl, rfl⟩
   ·replace e7 := zqd e7
    subst e7
    exact AW.rA ⟨[(4, (vB false))], []⟩ (Tt ∧ T2 ((Tt ∧ (a0.ne a0) = false) ∧ Tt ∧ T4 Tt)) [.no, .no, .no, .dec false] [4] [] ⟨tr, tr, tr, ⟨tr, b5⟩, tr, tr, tr, tr, tr, tr⟩ ⟨rfl, rfl⟩
  refine zqa ?_
  refine AW.ret ?_
  refine zqm ?_
  replace h := zqd h
  subst h
  exact ⟨.inr rfl, zqe [(.one (.c (.bool j6)))] (by kernel_rfl) ⟨⟨rfl, tr⟩, tr⟩ (of_decide_eq_true (by kernel_rfl))⟩
 ·refine AW.cond_f rfl b4 ?_
  refine AW.skip ?_
  refine zqa ?_
  refine AW.seq ?_
  obtain ⟨j13, e14, h⟩ := zqb h
  refine AW.join1 (s2 := ⟨[(4, (vB j13))], []⟩) ?_ ?_
  ·rcases zqc e14 with ⟨b8, e14⟩ | ⟨b8, e14⟩
   ·obtain ⟨v9, e10, e14⟩ := zqb e14
    obtain ⟨v11, e12, e14⟩ := zqb e14
    replace e14 := zqd e14
    subst e14
    let z3 := Fl.cv .f32 .f64 a0
    let z4 := Fl.cv .f32 .f64 a1
    exact AW.rA ⟨[(4, (vB (v9 == v11)))], []⟩ (Tt ∧ T2 ((Tt ∧ (a0.eq a1) = true) ∧ Tt ∧ ((zqw .f32 a0.bits .f64).isSome = true) ∧ (((Eqc (.flt .f64 z3.bits)) ∧ Tt) ∧ CallOK Tryz.prog 82 [.one (.flt .f64 z3.bits)] [.one (.bool v9)]) ∧ Tt ∧ ((zqw .f32 a1.bits .f64).isSome = true) ∧ (((Eqc (.flt .f64 z4.bits)) ∧ Tt) ∧ CallOK Tryz.prog 82 [.one (.flt .f64 z4.bits)] [.one (.bool v11)]) ∧ Tt ∧ T2 Tt)) [.no, .no, .no, .dec true, .no, .no, .call [.one (.flt .f64 z3.bits)] [.one (.bool v9)] [[.view]], .no, .no, .call [.one (.flt .f64 z4.bits)] [.one (.bool v11)] [[.view]]] [4] [] ⟨tr, tr, tr, ⟨tr, b8⟩, tr, zbb a0, ⟨⟨rfl, tr⟩, ok_math_Signbit K z3 v9 e10⟩, tr, zbb a1, ⟨⟨rfl, tr⟩, ok_math_Signbit K z4 v11 e12⟩, tr, tr, tr, tr⟩ ⟨rfl, rfl⟩
   ·replace e14 := zqd e14
    subst e14
    exact AW.rA ⟨[(4, (vB false))], []⟩ (Tt ∧ T2 ((Tt ∧ (a0.eq a1) = false) ∧ Tt ∧ T4 (T4 Tt))) [.no, .no, .no, .dec false] [4] [] ⟨tr, tr, tr, ⟨tr, b8⟩, tr, tr, tr, tr, tr, tr, tr, tr, tr, tr⟩ ⟨rfl, rfl⟩
  refine zqa ?_
  refine AW.ret ?_
  replace h := zqd h
  subst h
  exact ⟨.inr rfl, zqe [(.one (.c (.bool j13)))] (by kernel_rfl) ⟨⟨rfl, tr⟩, tr⟩ (of_decide_eq_true (by kernel_rfl))⟩

/-! impl.SameVector -/
def zvb (K : Nat) (a0 : Vector) (a1 : Vector) : Option (Bool) :=
 (zwr K a0.X a1.X).bind fun v1 => (ite2 (v1) ((zwr K a0.Y a1.Y).bind fun v4 => ite2 (v4) ((zwr K a0.Z a1.Z).bind fun v7 => some v7) (some false)) (some false)).bind fun j9 => some j9

theorem ok_impl_SameVector (K : Nat) (a0 : Vector) (a1 : Vector) (o : (Bool)) (h : zvb K a0 a1 = some o) : CallOK Tryz.prog 29 [.agg (zqs a0), .agg (zqs a1)] [.one (.bool o)] := by
 refine zqh Tryz.func29 rfl (by kernel_rfl) (Nat.le_of_ble_eq_true (by kernel_rfl)) ?_
 intro w0
 unfold zvb at h
 refine AW.sA ⟨[(2, (vp 1 0)), (3, (vp 2 0))], [(1, (.box [(cF a0.X), (cF a0.Y), (cF a0.Z)])), (2, (.box [(cF a1.X), (cF a1.Y), (cF a1.Z)]))]⟩ (Tt ∧ T2 Tt) [.box 1, .box 2] [2, 3] [1, 2] ⟨tr, tr, tr, tr⟩ ?_
 refine AW.seq ?_
 obtain ⟨v1, e2, h⟩ := zqb h
 obtain ⟨j9, e10, h⟩ := zqb h
 refine AW.join1 (s2 := ⟨[(4, (vB j9))], []⟩) ?_ ?_
 ·rcases zqc e10 with ⟨b3, e10⟩ | ⟨b3, e10⟩
  ·obtain ⟨v4, e5, e10⟩ := zqb e10
   rcases zqc e10 with ⟨b6, e10⟩ | ⟨b6, e10⟩
   ·obtain ⟨v7, e8, e10⟩ := zqb e10
    replace e10 := zqd e10
    subst e10
    let z2 : List CT := [.one (.flt .f32 a0.X.bits), .one (.flt .f32 a1.X.bits)]
    let z3 : List CT := [.one (.flt .f32 a0.Y.bits), .one (.flt .f32 a1.Y.bits)]
    let z4 : List CT := [.one (.flt .f32 a0.Z.bits), .one (.flt .f32 a1.Z.bits)]
    exact AW.rA ⟨[(4, (vB v7))], []⟩ (T4 ((((eF a0.X) ∧ (eF a1.X) ∧ Tt) ∧ CallOK Tryz.prog 53 z2 [.one (.bool v1)]) ∧ (Tt ∧ v1 = true) ∧ T4 ((((eF a0.Y) ∧ (eF a1.Y) ∧ Tt) ∧ CallOK Tryz.prog 53 z3 [.one (.bool v4)]) ∧ Tt ∧ (Tt ∧ v4 = true) ∧ T4 ((((eF a0.Z) ∧ (eF a1.Z) ∧ Tt) ∧ CallOK Tryz.prog 53 z4 [.one (.bool v7)]) ∧ T2 Tt)))) [.no, .no, .no, .no, .call z2 [.one (.bool v1)] [[.view]], .dec true, .no, .no, .no, .no, .call z3 [.one (.bool v4)] [[.view]], .no, .dec true, .no, .no, .no, .no, .call z4 [.one (.bool v7)] [[.view]]] [4] [] ⟨tr, tr, tr, tr, ⟨⟨rfl, rfl, tr⟩, zq5 K a0.X a1.X v1 e2⟩, ⟨tr, b3⟩, tr, tr, tr, tr, ⟨⟨rfl, rfl, tr⟩, zq5 K a0.Y a1.Y v4 e5⟩, tr, ⟨tr, b6⟩, tr, tr, tr, tr, ⟨⟨rfl, rfl, tr⟩, zq5 K a0.Z a1.Z v7 e8⟩, tr, tr, tr⟩ ⟨rfl, rfl⟩
   ·replace e10 := zqd e10
    subst e10
    let z5 : List CT := [.one (.flt .f32 a0.X.bits), .one (.flt .f32 a1.X.bits)]
    let z6 : List CT := [.one (.flt .f32 a0.Y.bits), .one (.flt .f32 a1.Y.bits)]
    exact AW.rA ⟨[(4, (vB false))], []⟩ (T4 ((((eF a0.X) ∧ (eF a1.X) ∧ Tt) ∧ CallOK Tryz.prog 53 z5 [.one (.bool v1)]) ∧ (Tt ∧ v1 = true) ∧ T4 ((((eF a0.Y) ∧ (eF a1.Y) ∧ Tt) ∧ CallOK Tryz.prog 53 z6 [.one (.bool v4)]) ∧ Tt ∧ (Tt ∧ v4 = false) ∧ Tt ∧ T2 (T4 Tt)))) [.no, .no, .no, .no, .call z5 [.one (.bool v1)] [[.view]], .dec true, .no, .no, .no, .no, .call z6 [.one (.bool v4)] [[.view]], .no, .dec false] [4] [] ⟨tr, tr, tr, tr, ⟨⟨rfl, rfl, tr⟩, zq5 K a0.X a1.X v1 e2⟩, ⟨tr, b3⟩, tr, tr, tr, tr, ⟨⟨rfl, rfl, tr⟩, zq5 K a0.Y a1.Y v4 e5⟩, tr, ⟨tr, b6⟩, tr, tr, tr, tr, tr, tr, tr, tr⟩ ⟨rfl, rfl⟩
  ·replace e10 := zqd e10
   subst e10
   let z1 : List CT := [.one (.flt .f32 a0.X.bits), .one (.flt .f32 a1.X.bits)]
   exact AW.rA ⟨[(4, (vB false))], []⟩ (T4 ((((eF a0.X) ∧ (eF a1.X) ∧ Tt) ∧ CallOK Tryz.prog 53 z1 [.one (.bool v1)]) ∧ (Tt ∧ v1 = false) ∧ T2 (T4 (T4 (T4 Tt))))) [.no, .no, .no, .no, .call z1 [.one (.bool v1)] [[.view]], .dec false] [4] [] ⟨tr, tr, tr, tr, ⟨⟨rfl, rfl, tr⟩, zq5 K a0.X a1.X v1 e2⟩, ⟨tr, b3⟩, tr, tr, tr, tr, tr, tr, tr, tr, tr, tr, tr, tr, tr, tr, tr⟩ ⟨rfl, rfl⟩
 refine zqa ?_
 refine AW.ret ?_
 replace h := zqd h
 subst h
 exact ⟨.inr rfl, zqe [(.one (.c (.bool j9)))] (by kernel_rfl) ⟨⟨rfl, tr⟩, tr⟩ (of_decide_eq_true (by kernel_rfl))⟩

/-! impl.SameTurn -/
def zkl (K : Nat) (a0 : Turn) (a1 : Turn) : Option (Bool) :=
 (zwr K a0.W a1.W).bind fun v1 => (ite2 (v1) ((zwr K a0.X a1.X).bind fun v4 => ite2 (v4) ((zwr K a0.Y a1.Y).bind fun v7 => ite2 (v7) ((zwr K a0.Z a1.Z).bind fun v10 => some v10) (some false)) (some false)) (some false)).bind fun j12 => some j12

theorem ok_impl_SameTurn (K : Nat) (a0 : Turn) (a1 : Turn) (o : (Bool)) (h : zkl K a0 a1 = some o) : CallOK Tryz.prog 31 [.agg (zqi a0), .agg (zqi a1)] [.one (.bool o)] := by
 refine zqh Tryz.func31 rfl (by kernel_rfl) (Nat.le_of_ble_eq_true (by kernel_rfl)) ?_
 intro w0
 unfold zkl at h
 refine AW.sA ⟨[(2, (vp 1 0)), (3, (vp 2 0))], [(1, (.box [(cF a0.W), (cF a0.X), (cF a0.Y), (cF a0.Z)])), (2, (.box [(cF a1.W), (cF a1.X), (cF a1.Y), (cF a1.Z)]))]⟩ (Tt ∧ T2 Tt) [.box 1, .box 2] [2, 3] [1, 2] ⟨tr, tr, tr, tr⟩ ?_
 refine AW.seq ?_
 obtain ⟨v1, e2, h⟩ := zqb h
 obtain ⟨j12, e13, h⟩ := zqb h
 refine AW.join1 (s2 := ⟨[(4, (vB j12))], []⟩) ?_ ?_
 ·rcases zqc e13 with ⟨b3, e13⟩ | ⟨b3, e13⟩
  ·obtain ⟨v4, e5, e13⟩ := zqb e13
   rcases zqc e13 with ⟨b6, e13⟩ | ⟨b6, e13⟩
   ·obtain ⟨v7, e8, e13⟩ := zqb e13
    rcases zqc e13 with ⟨b9, e13⟩ | ⟨b9, e13⟩
    ·obtain ⟨v10, e11, e13⟩ := zqb e13
     replace e13 := zqd e13
     subst e13
     let z4 : List CT := [.one (.flt .f32 a0.W.bits), .one (.flt .f32 a1.W.bits)]
     let z5 : List CT := [.one (.flt .f32 a0.X.bits), .one (.flt .f32 a1.X.bits)]
     let z6 : List CT := [.one (.flt .f32 a0.Y.bits), .one (.flt .f32 a1.Y.bits)]
     let z7 : List CT := [.one (.flt .f32 a0.Z.bits), .one (.flt .f32 a1.Z.bits)]
     exact AW.rA ⟨[(4, (vB v10))], []⟩ (T4 ((((eF a0.W) ∧ (eF a1.W) ∧ Tt) ∧ CallOK Tryz.prog 53 z4 [.one (.bool v1)]) ∧ (Tt ∧ v1 = true) ∧ T4 ((((eF a0.X) ∧ (eF a1.X) ∧ Tt) ∧ CallOK Tryz.prog 53 z5 [.one (.bool v4)]) ∧ Tt ∧ (Tt ∧ v4 = true) ∧ T4 ((((eF a0.Y) ∧ (eF a1.Y) ∧ Tt) ∧ CallOK Tryz.prog 53 z6 [.one (.bool v7)]) ∧ Tt ∧ (Tt ∧ v7 = true) ∧ T4 ((((eF a0.Z) ∧ (eF a1.Z) ∧ Tt) ∧ CallOK Tryz.prog 53 z7 [.one (.bool v10)]) ∧ T2 Tt))))) [.no, .no, .no, .no, .call z4 [.one (.bool v1)] [[.view]], .dec true, .no, .no, .no, .no, .call z5 [.one (.bool v4)] [[.view]], .no, .dec true, .no, .no, .no, .no, .call z6 [.one (.bool v7)] [[.view]], .no, .dec true, .no, .no, .no, .no, .call z7 [.one (.bool v10)] [[.view]]] [4] [] ⟨tr, tr, tr, tr, ⟨⟨rfl, rfl, tr⟩, zq5 K a0.W a1.W v1 e2⟩, ⟨tr, b3⟩, tr, tr, tr, tr, ⟨⟨rfl, rfl, tr⟩, zq5 K a0.X a1.X v4 e5⟩, tr, ⟨tr, b6⟩, tr, tr, tr, tr, ⟨⟨rfl, rfl, tr⟩, zq5 K a0.Y a1.Y v7 e8⟩, tr, ⟨tr, b9⟩, tr, tr, tr, tr, ⟨⟨rfl, rfl, tr⟩, zq5 K a0.Z a1.Z v10 e11⟩, tr, tr, tr⟩ ⟨rfl, rfl⟩
    ·replace e13 := zqd e13
     subst e13
     let z8 : List CT := [.one (.flt .f32 a0.W.bits), .one (.flt .f32 a1.W.bits)]
     let z9 : List CT := [.one (.flt .f32 a0.X.bits), .one (.flt .f32 a1.X.bits)]
     let z10 : List CT := [.one (.flt .f32 a0.Y.bits), .one (.flt .f32 a1.Y.bits)]
     exact AW.rA ⟨[(4, (vB false))], []⟩ (T4 ((((eF a0.W) ∧ (eF a1.W) ∧ Tt) ∧ CallOK Tryz.prog 53 z8 [.one (.bool v1)]) ∧ (Tt ∧ v1 = true) ∧ T4 ((((eF a0.X) ∧ (eF a1.X) ∧ Tt) ∧ CallOK Tryz.prog 53 z9 [.one (.bool v4)]) ∧ Tt ∧ (Tt ∧ v4 = true) ∧ T4 ((((eF a0.Y) ∧ (eF a1.Y) ∧ Tt) ∧ CallOK Tryz.prog 53 z10 [.one (.bool v7)]) ∧ Tt ∧ (Tt ∧ v7 = false) ∧ Tt ∧ T2 (T4 Tt))))) [.no, .no, .no, .no, .call z8 [.one (.bool v1)] [[.view]], .dec true, .no, .no, .no, .no, .call z9 [.one (.bool v4)] [[.view]], .no, .dec true, .no, .no, .no, .no, .call z10 [.one (.bool v7)] [[.view]], .no, .dec false] [4] [] ⟨tr, tr, tr, tr, ⟨⟨rfl, rfl, tr⟩, zq5 K a0.W a1.W v1 e2⟩, ⟨tr, b3⟩, tr, tr, tr, tr, ⟨⟨rfl, rfl, tr⟩, zq5 K a0.X a1.X v4 e5⟩, tr, ⟨tr, b6⟩, tr, tr, tr, tr, ⟨⟨rfl, rfl, tr⟩, zq5 K a0.Y a1.Y v7 e8⟩, tr, ⟨tr, b9⟩, tr, tr, tr, tr, tr, tr, tr, tr⟩ ⟨rfl, rfl⟩
   ·replace e13 := zqd e13
    subst e13
    let z2 : List CT := [.one (.flt .f32 a0.W.bits), .one (.flt .f32 a1.W.bits)]
    let z3 : List CT := [.one (.flt .f32 a0.X.bits), .one (.flt .f32 a1.X.bits)]
    exact AW.rA ⟨[(4, (vB false))], []⟩ (T4 ((((eF a0.W) ∧ (eF a1.W) ∧ Tt) ∧ CallOK Tryz.prog 53 z2 [.one (.bool v1)]) ∧ (Tt ∧ v1 = true) ∧ T4 ((((eF a0.X) ∧ (eF a1.X) ∧ Tt) ∧ CallOK Tryz.prog 53 z3 [.one (.bool v4)]) ∧ Tt ∧ (Tt ∧ v4 = false) ∧ T2 (T4 (T4 (T4 Tt)))))) [.no, .no, .no, .no, .call z2 [.one (.bool v1)] [[.view]], .dec true, .no, .no, .no, .no, .call z3 [.one (.bool v4)] [[.view]], .no, .dec false] [4] [] ⟨tr, tr, tr, tr, ⟨⟨rfl, rfl, tr⟩, zq5 K a0.W a1.W v1 e2⟩, ⟨tr, b3⟩, tr, tr, tr, tr, ⟨⟨rfl, rfl, tr⟩, zq5 K a0.X a1.X v4 e5⟩, tr, ⟨tr, b6⟩, tr, tr, tr, tr, tr, tr, tr, tr, tr, tr, tr, tr, tr, tr, tr⟩ ⟨rfl, rfl⟩
  ·replace e13 := zqd e13
   subst e13
   let z1 : List CT := [.one (.flt .f32 a0.W.bits), .one (.flt .f32 a1.W.bits)]
   exact AW.rA ⟨[(4, (vB false))], []⟩ (T4 ((((eF a0.W) ∧ (eF a1.W) ∧ Tt) ∧ CallOK Tryz.prog 53 z1 [.one (.bool v1)]) ∧ (Tt ∧ v1 = false) ∧ Tt ∧ T4 (T4 (T4 (T4 (T4 Tt)))))) [.no, .no, .no, .no, .call z1 [.one (.bool v1)] [[.view]], .dec false] [4] [] ⟨tr, tr, tr, tr, ⟨⟨rfl, rfl, tr⟩, zq5 K a0.W a1.W v1 e2⟩, ⟨tr, b3⟩, tr, tr, tr, tr, tr, tr, tr, tr, tr, tr, tr, tr, tr, tr, tr, tr, tr, tr, tr, tr, tr, tr⟩ ⟨rfl, rfl⟩
 refine zqa ?_
 refine AW.ret ?_
 replace h := zqd h
 subst h
 exact ⟨.inr rfl, zqe [(.one (.c (.bool j12)))] (by kernel_rfl) ⟨⟨rfl, tr⟩, tr⟩ (of_decide_eq_true (by kernel_rfl))⟩

/-! slices.EqualFunc[[]impl.Turn,[]impl.Turn,impl.Turn,impl.Turn] -/
def zqk (K : Nat) (a0 : (List Turn)) (a1 : (List Turn)) : Nat → Int → Option (Bool)
 | 0, _ => none
 | k + 1, x3 => ite2 ((decide (x3 < (a0.length : Int)))) (chk (0 ≤ x3 ∧ x3 < (a0.length : Int)) (chk (0 ≤ x3 ∧ x3 < (a1.length : Int)) ((zkl K (a0.getD x3.toNat default) (a1.getD x3.toNat default)).bind fun v7 => ite2 ((!v7)) (some false) (zqk K a0 a1 k (IntKind.i64.wrap (x3 + (1 : Int))))))) (some true)

def zq1 (K : Nat) (a0 : (List Turn)) (a1 : (List Turn)) : Option (Bool) :=
 ite2 (((a0.length : Int) != (a1.length : Int))) (some false) (zqk K a0 a1 K (0 : Int))

theorem ok_slices_EqualFunc_impl_Turn_impl_Turn_impl_Turn_impl_Turn (K : Nat) (a0 : (List Turn)) (a1 : (List Turn)) (o : (Bool)) (h : zq1 K a0 a1 = some o) : CallOK Tryz.prog 30 [.one (sl 4 zqi a0), .one (sl 4 zqi a1), .one (.fn 31 0 fun _ => .nilptr)] [.one (.bool o)] := by
 refine zqh Tryz.func30 rfl (by kernel_rfl) (Nat.le_of_ble_eq_true (by kernel_rfl)) ?_
 intro w0
 unfold zq1 at h
 refine AW.sC (Tt ∧ Tt) [] [0, 1, 2] [] ⟨tr, tr⟩ ?_
 refine AW.seq ?_
 let z3 := vc (sl 4 zqi a0)
 let z4 := vc (sl 4 zqi a1)
 refine AW.sA ⟨[(0, z3), (1, z4), (2, (vc (.fn 31 0 fun _ => .nilptr))), (14, (vB ((a0.length : Int) != (a1.length : Int))))], []⟩ (Tt ∧ T4 Tt) [] [0, 1, 2, 14] [] ⟨tr, tr, tr, tr, tr, tr⟩ ?_
 rcases zqc h with ⟨b1, h⟩ | ⟨b1, h⟩
 ·refine AW.cond_t rfl b1 ?_
  refine AW.sA ⟨[(6, (vB false))], []⟩ (Tt ∧ Tt) [] [6] [] ⟨tr, tr⟩ ?_
  refine AW.ret ?_
  refine zqm ?_
  replace h := zqd h
  subst h
  exact ⟨.inr rfl, zqe [(.one (.c (.bool false)))] (by kernel_rfl) ⟨⟨rfl, tr⟩, tr⟩ (of_decide_eq_true (by kernel_rfl))⟩
 ·refine AW.cond_f rfl b1 ?_
  refine AW.skip ?_
  refine zqa ?_
  refine AW.seq ?_
  let z5 := vI (a0.length : Int)
  refine AW.sA ⟨[(1, z4), (2, (vc (.fn 31 0 fun _ => .nilptr))), (15, z3), (16, z5), (17, (vI (0 : Int)))], []⟩ (Tt ∧ T2 Tt) [] [1, 2, 15, 16, 17] [] ⟨tr, tr, tr, tr⟩ ?_
  refine AW.block ?_
  refine AW.loopQ (σ := Nat × Int) (fun p => ⟨[(1, z4), (2, (vc (.fn 31 0 fun _ => .nilptr))), (15, z3), (16, z5), (17, (vI p.2))], []⟩) (fun p => zqk K a0 a1 p.1 p.2 = some o) (fun p => p.1) (K, (0 : Int)) h ?_
  clear h
  rintro ⟨k, x3⟩ h
  replace h : zqk K a0 a1 k x3 = some o := h
  show AW _ _ (⟨[(1, z4), (2, (vc (.fn 31 0 fun _ => .nilptr))), (15, z3), (16, z5), (17, (vI x3))], []⟩ : St) _
  obtain _ | k := k
  ·rw [zqk] at h; cases h
  rw [zqk] at h
  refine AW.sA ⟨[(1, z4), (2, (vc (.fn 31 0 fun _ => .nilptr))), (15, z3), (16, z5), (17, (vI x3)), (18, (vB (decide (x3 < (a0.length : Int)))))], []⟩ (Tt ∧ Tt) [] [1, 2, 15, 16, 17, 18] [] ⟨tr, tr⟩ ?_
  refine AW.seq ?_
  rcases zqc h with ⟨b4, h⟩ | ⟨b4, h⟩
  ·refine AW.cond_t rfl b4 ?_
   refine AW.skip ?_
   refine zqa ?_
   refine AW.seq ?_
   refine AW.block ?_
   refine AW.seq ?_
   obtain ⟨c5, h⟩ := zqn h
   refine AW.tC (Tt ∧ (0 ≤ x3 ∧ x3 < (a0.length : Int)) ∧ T4 Tt) [.no, .no, .no, .box 5] [1, 2, 7, 8, 15, 16, 17] [5] ⟨tr, c5, tr, tr, tr, tr, tr⟩ ?_
   refine AW.seq ?_
   obtain ⟨c6, h⟩ := zqn h
   refine AW.tC (T2 ((0 ≤ x3 ∧ x3 < (a1.length : Int)) ∧ Tt ∧ T2 Tt)) [.no, .no, .no, .no, .box 6] [1, 2, 8, 9, 15, 16, 17] [5, 6] ⟨tr, tr, c6, tr, tr, tr, tr⟩ ?_
   refine AW.seq ?_
   obtain ⟨v7, e8, h⟩ := zqb h
   let z1 := a0.getD x3.toNat default
   let z2 := a1.getD x3.toNat default
   refine AW.tA ⟨[(1, z4), (2, (vc (.fn 31 0 fun _ => .nilptr))), (15, z3), (16, z5), (17, (vI x3)), (30, (vB (!v7)))], []⟩ (Tt ∧ T2 (((((eF (z1.W)) ∧ (eF (z1.X)) ∧ (eF (z1.Y)) ∧ (eF (z1.Z)) ∧ Tt) ∧ ((eF (z2.W)) ∧ (eF (z2.X)) ∧ (eF (z2.Y)) ∧ (eF (z2.Z)) ∧ Tt) ∧ Tt) ∧ CallOK Tryz.prog 31 [.agg (zqi z1), .agg (zqi z2)] [.one (.bool v7)]) ∧ Tt ∧ Tt)) [.no, .no, .no, .call [.agg (zqi z1), .agg (zqi z2)] [.one (.bool v7)] [[.view]]] [1, 2, 15, 16, 17, 30] [] ⟨tr, tr, tr, ⟨⟨⟨rfl, rfl, rfl, rfl, tr⟩, ⟨rfl, rfl, rfl, rfl, tr⟩, tr⟩, ok_impl_SameTurn K z1 z2 v7 e8⟩, tr, tr⟩ ?_
   rcases zqc h with ⟨b9, h⟩ | ⟨b9, h⟩
   ·refine AW.cond_t rfl b9 ?_
    refine AW.sA ⟨[(6, (vB false))], []⟩ (Tt ∧ Tt) [] [6] [] ⟨tr, tr⟩ ?_
    refine AW.ret ?_
    refine zqz ?_
    refine zqm ?_
    refine zjs ?_
    refine zqz ?_
    refine zqm ?_
    replace h := zqd h
    subst h
    exact ⟨.inr rfl, zqe [(.one (.c (.bool false)))] (by kernel_rfl) ⟨⟨rfl, tr⟩, tr⟩ (of_decide_eq_true (by kernel_rfl))⟩
   ·refine AW.cond_f rfl b9 ?_
    refine AW.skip ?_
    refine zqr ?_
    refine zqa ?_
    let z6 := IntKind.i64.wrap (x3 + (1 : Int))
    refine AW.rA ⟨[(1, z4), (2, (vc (.fn 31 0 fun _ => .nilptr))), (15, z3), (16, z5), (17, (vI z6))], []⟩ (T2 Tt) [] [1, 2, 15, 16, 17] [] ⟨tr, tr, tr⟩ ?_
    exact zqu (k, z6) h (Nat.lt_succ_self k) (Sub.keep [1, 2, 15, 16, 17] [] (by kernel_rfl) (by kernel_rfl))
  ·refine AW.cond_f rfl b4 ?_
   refine AW.exit ?_
   refine zwc ?_
   refine zwd ?_
   refine zq4 ?_
   refine zqa ?_
   refine AW.sA ⟨[(6, (vB true))], []⟩ (Tt ∧ Tt) [] [6] [] ⟨tr, tr⟩ ?_
   refine AW.ret ?_
   replace h := zqd h
   subst h
   exact ⟨.inr rfl, zqe [(.one (.c (.bool true)))] (by kernel_rfl) ⟨⟨rfl, tr⟩, tr⟩ (of_decide_eq_true (by kernel_rfl))⟩

/-! impl.SamePose -/
def zvq (K : Nat) (a0 : Pose) (a1 : Pose) : Option (Bool) :=
 (zvb K a0.Root a1.Root).bind fun v1 => (ite2 (v1) ((zq1 K a0.Turns a1.Turns).bind fun v4 => some v4) (some false)).bind fun j6 => some j6

theorem zya (K : Nat) (a0 : Pose) (a1 : Pose) (o : (Bool)) (h : zvq K a0 a1 = some o) : CallOK Tryz.prog 14 [.agg (zwi a0), .agg (zwi a1)] [.one (.bool o)] := by
 refine zqh Tryz.func14 rfl (by kernel_rfl) (Nat.le_of_ble_eq_true (by kernel_rfl)) ?_
 intro w0
 unfold zvq at h
 let z1 := sl 4 zqi a0.Turns
 let z2 := sl 4 zqi a1.Turns
 refine AW.sA ⟨[(2, (vp 1 0)), (3, (vp 2 0))], [(1, (.box [(cF a0.Root.X), (cF a0.Root.Y), (cF a0.Root.Z), (.c z1)])), (2, (.box [(cF a1.Root.X), (cF a1.Root.Y), (cF a1.Root.Z), (.c z2)]))]⟩ (Tt ∧ T2 Tt) [.box 1, .box 2] [2, 3] [1, 2] ⟨tr, tr, tr, tr⟩ ?_
 refine AW.seq ?_
 obtain ⟨v1, e2, h⟩ := zqb h
 obtain ⟨j6, e7, h⟩ := zqb h
 refine AW.join1 (s2 := ⟨[(4, (vB j6))], []⟩) ?_ ?_
 ·rcases zqc e7 with ⟨b3, e7⟩ | ⟨b3, e7⟩
  ·obtain ⟨v4, e5, e7⟩ := zqb e7
   replace e7 := zqd e7
   subst e7
   let z3 : List CT := [.agg (zqs a0.Root), .agg (zqs a1.Root)]
   exact AW.rA ⟨[(4, (vB v4))], []⟩ (T4 (((((eF a0.Root.X) ∧ (eF a0.Root.Y) ∧ (eF a0.Root.Z) ∧ Tt) ∧ ((eF a1.Root.X) ∧ (eF a1.Root.Y) ∧ (eF a1.Root.Z) ∧ Tt) ∧ Tt) ∧ CallOK Tryz.prog 29 z3 [.one (.bool v1)]) ∧ (Tt ∧ v1 = true) ∧ T4 ((((Eqc z1) ∧ (Eqc z2) ∧ (Eqc (.fn 31 0 fun _ => .nilptr)) ∧ Tt) ∧ CallOK Tryz.prog 30 [.one z1, .one z2, .one (.fn 31 0 fun _ => .nilptr)] [.one (.bool v4)]) ∧ T2 Tt))) [.no, .no, .no, .no, .call z3 [.one (.bool v1)] [[.view]], .dec true, .no, .no, .no, .no, .call [.one z1, .one z2, .one (.fn 31 0 fun _ => .nilptr)] [.one (.bool v4)] [[.view]]] [4] [] ⟨tr, tr, tr, tr, ⟨⟨⟨rfl, rfl, rfl, tr⟩, ⟨rfl, rfl, rfl, tr⟩, tr⟩, ok_impl_SameVector K a0.Root a1.Root v1 e2⟩, ⟨tr, b3⟩, tr, tr, tr, tr, ⟨⟨rfl, rfl, rfl, tr⟩, ok_slices_EqualFunc_impl_Turn_impl_Turn_impl_Turn_impl_Turn K a0.Turns a1.Turns v4 e5⟩, tr, tr, tr⟩ ⟨rfl, rfl⟩
  ·replace e7 := zqd e7
   subst e7
   let z4 : List CT := [.agg (zqs a0.Root), .agg (zqs a1.Root)]
   exact AW.rA ⟨[(4, (vB false))], []⟩ (T4 (((((eF a0.Root.X) ∧ (eF a0.Root.Y) ∧ (eF a0.Root.Z) ∧ Tt) ∧ ((eF a1.Root.X) ∧ (eF a1.Root.Y) ∧ (eF a1.Root.Z) ∧ Tt) ∧ Tt) ∧ CallOK Tryz.prog 29 z4 [.one (.bool v1)]) ∧ (Tt ∧ v1 = false) ∧ Tt ∧ T2 (T4 Tt))) [.no, .no, .no, .no, .call z4 [.one (.bool v1)] [[.view]], .dec false] [4] [] ⟨tr, tr, tr, tr, ⟨⟨⟨rfl, rfl, rfl, tr⟩, ⟨rfl, rfl, rfl, tr⟩, tr⟩, ok_impl_SameVector K a0.Root a1.Root v1 e2⟩, ⟨tr, b3⟩, tr, tr, tr, tr, tr, tr, tr, tr⟩ ⟨rfl, rfl⟩
 refine zqa ?_
 refine AW.ret ?_
 replace h := zqd h
 subst h
 exact ⟨.inr rfl, zqe [(.one (.c (.bool j6)))] (by kernel_rfl) ⟨⟨rfl, tr⟩, tr⟩ (of_decide_eq_true (by kernel_rfl))⟩

/-! slices.Clone[[]impl.RootKey,impl.RootKey] -/
def zwl (_K : Nat) (a0 : (List RootKey)) : Option ((List RootKey)) :=
 chk ((([] : List RootKey).length + a0.length) * 24 ≤ 140737488355328) (some (([] : List RootKey) ++ a0))

theorem ok_slices_Clone_impl_RootKey_impl_RootKey (K : Nat) (a0 : (List RootKey)) (o : ((List RootKey))) (h : zwl K a0 = some o) : CallOK Tryz.prog 36 [.one (sl 4 zqg a0)] [.one (sl 4 zqg o)] := by
 refine zqh Tryz.func36 rfl (by kernel_rfl) (Nat.le_of_ble_eq_true (by kernel_rfl)) ?_
 intro w0
 unfold zwl at h
 refine AW.sA ⟨[(0, (vc (sl 4 zqg a0)))], []⟩ (Tt ∧ Tt) [] [0] [] ⟨tr, tr⟩ ?_
 refine AW.seq ?_
 refine AW.seq ?_
 refine AW.nilA (d := 4) (n := a0.length) 1 [.no] [0] [] (s' := ⟨[(0, (vc (sl 4 zqg a0)))], []⟩) (ob := Tt ∧ Tt) (by kernel_rfl) ⟨tr, tr⟩ ?_
 intro b2 b1
 cases b2
 ·refine zqa ?_
  refine AW.cond_f (b := false) rfl rfl ?_
  refine AW.skip ?_
  refine zqa ?_
  refine AW.seq ?_
  obtain ⟨c3, h⟩ := zqn h
  refine AW.tA ⟨[(2, (vL 2 4 zqg (([] : List RootKey) ++ a0)))], [(2, (oL 4 zqg (([] : List RootKey) ++ a0)))]⟩ ((([] : List RootKey).length = 0 ∧ Tt) ∧ Tt ∧ ((([] : List RootKey) ++ a0).length = ([] : List RootKey).length + a0.length ∧ AppOb (([] : List RootKey).length) (a0.length) 4 (gl zqg ([] : List RootKey)) (gl zqg a0) (gl zqg (([] : List RootKey) ++ a0)) ∧ (∀ i j, i < a0.length → j < 4 → zjc (gl zqg a0 i j)) ∧ (([] : List RootKey).length + a0.length) * 24 ≤ 140737488355328) ∧ Tt ∧ Tt) [.obj 1 ([] : List RootKey).length (gl zqg ([] : List RootKey)), .no, .obj 2 (([] : List RootKey) ++ a0).length (gl zqg (([] : List RootKey) ++ a0))] [2] [2] ⟨⟨rfl, tr⟩, tr, ⟨List.length_append, zx9, zvx sc_RootKey _, c3⟩, tr, tr⟩ ?_
  refine AW.ret ?_
  replace h := zqd h
  subst h
  exact ⟨.inr rfl, zqe [(.one (xL 2 4 zqg (([] : List RootKey) ++ a0)))] (by kernel_rfl) ⟨rfl, tr⟩ (of_decide_eq_true (by kernel_rfl))⟩
 ·obtain rfl := List.eq_nil_of_length_eq_zero (b1 rfl)
  replace h : some ([] : (List RootKey)) = some o := by simpa [chk] using h
  refine zqa ?_
  refine AW.cond_t (b := true) rfl rfl ?_
  refine AW.sA ⟨[(2, (.v (.one .nils)))], []⟩ (Tt ∧ Tt) [] [2] [] ⟨tr, tr⟩ ?_
  refine AW.ret ?_
  refine zqm ?_
  replace h := zqd h
  subst h
  exact ⟨.inr rfl, zqe [(.one .nils)] (by kernel_rfl) ⟨rfl, tr⟩ (of_decide_eq_true (by kernel_rfl))⟩

/-! impl.ThinClip$2 -/
def zkf (K : Nat) (a0 : (List RootKey)) : Option ((List RootKey)) :=
 (zwl K a0).bind fun v1 => some v1

theorem ok_impl_ThinClip_2 (K : Nat) (a0 : (List RootKey)) (o : ((List RootKey))) (h : zkf K a0 = some o) : CallOK Tryz.prog 35 [.one (sl 4 zqg a0)] [.one (sl 4 zqg o)] := by
 refine zqh Tryz.func35 rfl (by kernel_rfl) (Nat.le_of_ble_eq_true (by kernel_rfl)) ?_
 intro w0
 unfold zkf at h
 refine AW.sC (Tt ∧ Tt) [] [0] [] ⟨tr, tr⟩ ?_
 refine AW.seq ?_
 obtain ⟨v1, e2, h⟩ := zqb h
 let z1 := sl 4 zqg a0
 refine AW.tA ⟨[(2, (vL 1 4 zqg v1))], [(1, (oL 4 zqg v1))]⟩ (Tt ∧ (((Eqc z1) ∧ Tt) ∧ CallOK Tryz.prog 36 [.one z1] [.one (sl 4 zqg v1)]) ∧ Tt ∧ Tt) [.no, .call [.one z1] [.one (sl 4 zqg v1)] [[.lst 1]]] [2] [1] ⟨tr, ⟨⟨rfl, tr⟩, ok_slices_Clone_impl_RootKey_impl_RootKey K a0 v1 e2⟩, tr, tr⟩ ?_
 refine AW.ret ?_
 replace h := zqd h
 subst h
 exact ⟨.inr rfl, zqe [(.one (xL 1 4 zqg v1))] (by kernel_rfl) ⟨rfl, tr⟩ (of_decide_eq_true (by kernel_rfl))⟩

/-! impl.InverseOf -/
def zk4 (_K : Nat) (a0 : Turn) : Option (Turn) :=
 some (Turn.mk a0.W (a0.X.neg) (a0.Y.neg) (a0.Z.neg))

theorem ok_impl_InverseOf (K : Nat) (a0 : Turn) (o : (Turn)) (h : zk4 K a0 = some o) : CallOK Tryz.prog 85 [.agg (zqi a0)] [.agg (zqi o)] := by
 refine zqh Tryz.func85 rfl (by kernel_rfl) (Nat.le_of_ble_eq_true (by kernel_rfl)) ?_
 intro w0
 unfold zk4 at h
 refine AW.sC (T2 Tt) [.box 1, .box 2] [1, 2] [1, 2] ⟨tr, tr, tr⟩ ?_
 refine AW.sA ⟨[(2, (vp 2 0))], [(2, (.box [(cF a0.W), (cF (a0.X.neg)), (cF (a0.Y.neg)), (cF (a0.Z.neg))]))]⟩ (Tt ∧ T4 (T4 (T4 Tt))) [] [2] [2] ⟨tr, tr, tr, tr, tr, tr, tr, tr, tr, tr, tr, tr, tr, tr⟩ ?_
 refine AW.ret ?_
 replace h := zqd h
 subst h
 exact ⟨.inr rfl, zqe [(.agg [(cF a0.W), (cF (a0.X.neg)), (cF (a0.Y.neg)), (cF (a0.Z.neg))])] (by kernel_rfl) ⟨⟨⟨rfl, tr⟩, ⟨rfl, tr⟩, ⟨rfl, tr⟩, ⟨rfl, tr⟩, tr⟩, tr⟩ (of_decide_eq_true (by kernel_rfl))⟩

/-! impl.MulTurns -/
def zyg (_K : Nat) (a0 : Turn) (a1 : Turn) : Option (Turn) :=
 some (Turn.mk ((((a0.W.mul a1.W).sub (a0.X.mul a1.X)).sub (a0.Y.mul a1.Y)).sub (a0.Z.mul a1.Z)) ((((a0.W.mul a1.X).add (a0.X.mul a1.W)).add (a0.Y.mul a1.Z)).sub (a0.Z.mul a1.Y)) ((((a0.W.mul a1.Y).sub (a0.X.mul a1.Z)).add (a0.Y.mul a1.W)).add (a0.Z.mul a1.X)) ((((a0.W.mul a1.Z).add (a0.X.mul a1.Y)).sub (a0.Y.mul a1.X)).add (a0.Z.mul a1.W)))

theorem ok_impl_MulTurns (K : Nat) (a0 : Turn) (a1 : Turn) (o : (Turn)) (h : zyg K a0 a1 = some o) : CallOK Tryz.prog 84 [.agg (zqi a0), .agg (zqi a1)] [.agg (zqi o)] := by
 refine zqh Tryz.func84 rfl (by kernel_rfl) (Nat.le_of_ble_eq_true (by kernel_rfl)) ?_
 intro w0
 unfold zyg at h
 refine AW.sC (Tt ∧ T2 Tt) [.box 1, .box 2, .box 3] [2, 3, 4] [1, 2, 3] ⟨tr, tr, tr, tr⟩ ?_
 let z1 := cF ((((a0.W.mul a1.W).sub (a0.X.mul a1.X)).sub (a0.Y.mul a1.Y)).sub (a0.Z.mul a1.Z))
 let z2 := cF ((((a0.W.mul a1.X).add (a0.X.mul a1.W)).add (a0.Y.mul a1.Z)).sub (a0.Z.mul a1.Y))
 let z3 := cF ((((a0.W.mul a1.Y).sub (a0.X.mul a1.Z)).add (a0.Y.mul a1.W)).add (a0.Z.mul a1.X))
 let z4 := cF ((((a0.W.mul a1.Z).add (a0.X.mul a1.Y)).sub (a0.Y.mul a1.X)).add (a0.Z.mul a1.W))
 refine AW.sA ⟨[(4, (vp 3 0))], [(3, (.box [z1, z2, z3, z4]))]⟩ (T2 (T4 (T4 (T4 (T4 (T4 (T4 (T4 (T4 (T4 (T4 (T4 (T4 (T4 (T4 (T4 (T4 (T4 (T4 (T4 (T4 (T4 (T4 (T4 Tt)))))))))))))))))))))))) [] [4] [3] ⟨tr, tr, tr, tr, tr, tr, tr, tr, tr, tr, tr, tr, tr, tr, tr, tr, tr, tr, tr, tr, tr, tr, tr, tr, tr, tr, tr, tr, tr, tr, tr, tr, tr, tr, tr, tr, tr, tr, tr, tr, tr, tr, tr, tr, tr, tr, tr, tr, tr, tr, tr, tr, tr, tr, tr, tr, tr, tr, tr, tr, tr, tr, tr, tr, tr, tr, tr, tr, tr, tr, tr, tr, tr, tr, tr, tr, tr, tr, tr, tr, tr, tr, tr, tr, tr, tr, tr, tr, tr, tr, tr, tr, tr, tr, tr⟩ ?_
 refine AW.ret ?_
 replace h := zqd h
 subst h
 exact ⟨.inr rfl, zqe [(.agg [z1, z2, z3, z4])] (by kernel_rfl) ⟨⟨⟨rfl, tr⟩, ⟨rfl, tr⟩, ⟨rfl, tr⟩, ⟨rfl, tr⟩, tr⟩, tr⟩ (of_decide_eq_true (by kernel_rfl))⟩

/-! (impl.Turn).vector -/
def zv1 (_K : Nat) (a0 : Turn) : Option (Vector) :=
 some (Vector.mk a0.X a0.Y a0.Z)

theorem ok_impl_Turn_vector (K : Nat) (a0 : Turn) (o : (Vector)) (h : zv1 K a0 = some o) : CallOK Tryz.prog 105 [.agg (zqi a0)] [.agg (zqs o)] := by
 refine zqh Tryz.func105 rfl (by kernel_rfl) (Nat.le_of_ble_eq_true (by kernel_rfl)) ?_
 intro w0
 unfold zv1 at h
 refine AW.sC (T2 Tt) [.box 1, .box 2] [1, 2] [1, 2] ⟨tr, tr, tr⟩ ?_
 refine AW.sA ⟨[(2, (vp 2 0))], [(2, (.box [(cF a0.X), (cF a0.Y), (cF a0.Z)]))]⟩ (T4 (T4 Tt)) [] [2] [2] ⟨tr, tr, tr, tr, tr, tr, tr, tr, tr⟩ ?_
 refine AW.ret ?_
 replace h := zqd h
 subst h
 exact ⟨.inr rfl, zqe [(.agg [(cF a0.X), (cF a0.Y), (cF a0.Z)])] (by kernel_rfl) ⟨⟨⟨rfl, tr⟩, ⟨rfl, tr⟩, ⟨rfl, tr⟩, tr⟩, tr⟩ (of_decide_eq_true (by kernel_rfl))⟩

/-! impl.InnerOf -/
def zyv (_K : Nat) (a0 : Vector) (a1 : Vector) : Option (F32) :=
 some (((a0.X.mul a1.X).add (a0.Y.mul a1.Y)).add (a0.Z.mul a1.Z))

theorem ok_impl_InnerOf (K : Nat) (a0 : Vector) (a1 : Vector) (o : (F32)) (h : zyv K a0 a1 = some o) : CallOK Tryz.prog 119 [.agg (zqs a0), .agg (zqs a1)] [.one (.flt .f32 o.bits)] := by
 refine zqh Tryz.func119 rfl (by kernel_rfl) (Nat.le_of_ble_eq_true (by kernel_rfl)) ?_
 intro w0
 unfold zyv at h
 refine AW.sC (Tt ∧ T2 Tt) [.box 1, .box 2] [2, 3] [1, 2] ⟨tr, tr, tr, tr⟩ ?_
 let z1 := ((a0.X.mul a1.X).add (a0.Y.mul a1.Y)).add (a0.Z.mul a1.Z)
 refine AW.sA ⟨[(4, (vc (.flt .f32 z1.bits)))], []⟩ (T2 (T4 (T4 (T4 (T4 Tt))))) [] [4] [] ⟨tr, tr, tr, tr, tr, tr, tr, tr, tr, tr, tr, tr, tr, tr, tr, tr, tr, tr, tr⟩ ?_
 refine AW.ret ?_
 replace h := zqd h
 subst h
 exact ⟨.inr rfl, zqe [(.one (cF z1))] (by kernel_rfl) ⟨⟨rfl, tr⟩, tr⟩ (of_decide_eq_true (by kernel_rfl))⟩

/-! impl.LongOf -/
def zbi (K : Nat) (a0 : Vector) : Option (F32) :=
 (zyv K a0 a0).bind fun v1 => (zx6 K v1).bind fun v3 => some v3

theorem ok_impl_LongOf (K : Nat) (a0 : Vector) (o : (F32)) (h : zbi K a0 = some o) : CallOK Tryz.prog 104 [.agg (zqs a0)] [.one (.flt .f32 o.bits)] := by
 refine zqh Tryz.func104 rfl (by kernel_rfl) (Nat.le_of_ble_eq_true (by kernel_rfl)) ?_
 intro w0
 unfold zbi at h
 refine AW.sC (T2 Tt) [.box 1] [1] [1] ⟨tr, tr, tr⟩ ?_
 refine AW.seq ?_
 obtain ⟨v1, e2, h⟩ := zqb h
 obtain ⟨v3, e4, h⟩ := zqb h
 let z1 : List CT := [.one (.flt .f32 v1.bits)]
 let z2 := (eF a0.X) ∧ (eF a0.Y) ∧ (eF a0.Z) ∧ Tt
 let z3 := zqs a0
 refine AW.tA ⟨[(2, (vc (.flt .f32 v3.bits)))], []⟩ (T2 (((z2 ∧ z2 ∧ Tt) ∧ CallOK Tryz.prog 119 [.agg z3, .agg z3] z1) ∧ (((eF v1) ∧ Tt) ∧ CallOK Tryz.prog 115 z1 [.one (.flt .f32 v3.bits)]) ∧ Tt ∧ Tt)) [.no, .no, .call [.agg z3, .agg z3] z1 [[.view]], .call z1 [.one (.flt .f32 v3.bits)] [[.view]]] [2] [] ⟨tr, tr, ⟨⟨⟨rfl, rfl, rfl, tr⟩, ⟨rfl, rfl, rfl, tr⟩, tr⟩, ok_impl_InnerOf K a0 a0 v1 e2⟩, ⟨⟨rfl, tr⟩, ok_impl_RootNumber K v1 v3 e4⟩, tr, tr⟩ ?_
 refine AW.ret ?_
 replace h := zqd h
 subst h
 exact ⟨.inr rfl, zqe [(.one (cF v3))] (by kernel_rfl) ⟨⟨rfl, tr⟩, tr⟩ (of_decide_eq_true (by kernel_rfl))⟩

/-! math.Float64frombits -/
def zvs (_K : Nat) (a0 : Int) : Option (F64) :=
 Fl.ofBits .f64 a0

theorem ok_math_Float64frombits (K : Nat) (a0 : Int) (o : F64) (h : zvs K a0 = some o) : CallOK Tryz.prog 125 [.one (.int .u64 a0)] [.one (.flt .f64 o.bits)] :=
 hand_ofBits (e := Extern.MathFloatBits.float64frombits) Tryz.func125 (by kernel_rfl) (by kernel_rfl) (by kernel_rfl) (by kernel_rfl) (fun _ _ => rfl) a0 o h

/-! math.Abs -/
def zb2 (_K : Nat) (a0 : F64) : Option (F64) :=
 some a0.abs

theorem zcp (K : Nat) (a0 : F64) (o : F64) (h : zb2 K a0 = some o) : CallOK Tryz.prog 120 [.one (.flt .f64 a0.bits)] [.one (.flt .f64 o.bits)] := by
 refine zqh Tryz.func120 rfl (by kernel_rfl) (Nat.le_of_ble_eq_true (by kernel_rfl)) ?_
 intro w0
 replace h := zqd h
 subst h
 refine AW.sA ⟨[(0, (vc (.flt .f64 a0.bits)))], []⟩ (Tt ∧ Tt) [] [0] [] ⟨tr, tr⟩ ?_
 refine AW.seq ?_
 refine AW.rawA (i := .u64) (f := 102) (d := 4) (k := .f64) (c := a0.bits) (s1 := ⟨[(3, (vc (.flt .f64 a0.bits))), (0, (vc (.flt .f64 a0.bits)))], []⟩) (ob := Tt ∧ Tt) 1 [.no] (by kernel_rfl) ⟨tr, tr⟩ (e := Extern.MathFloatBits.float64bits) Tryz.func102 (by kernel_rfl) (by kernel_rfl) (by kernel_rfl) (by kernel_rfl) (fun _ _ => rfl) ?_
 intro b hb hc
 refine ⟨[.no, .call [.one (.int .u64 (bits .andNot .u64 (b : Int) (9223372036854775808 : Int)))] [.one (.flt .f64 a0.abs.bits)] [[.view]]], ⟨[(2, (vc (.flt .f64 a0.abs.bits))), (6, (vc (.flt .f64 a0.abs.bits))), (5, (vc (.int .u64 (bits .andNot .u64 (b : Int) (9223372036854775808 : Int))))), (4, (vc (.int .u64 (b : Int)))), (3, (vc (.flt .f64 a0.bits))), (0, (vc (.flt .f64 a0.bits)))], []⟩, Tt ∧ (((Eqc (.int .u64 (bits .andNot .u64 (b : Int) (9223372036854775808 : Int)))) ∧ Tt) ∧ CallOK Tryz.prog 125 [.one (.int .u64 (bits .andNot .u64 (b : Int) (9223372036854775808 : Int)))] [.one (.flt .f64 a0.abs.bits)]) ∧ Tt ∧ Tt, by kernel_rfl, ⟨tr, ⟨⟨rfl, tr⟩, ?_⟩, tr, tr⟩, ?_⟩
 ·exact ok_math_Float64frombits K _ a0.abs (by rw [andNot_sign hb]; exact ofBits_abs hb a0 hc)
 ·refine zqa ?_
  refine AW.ret ?_
  exact ⟨.inr rfl, zqe [(.one (.c (.flt .f64 a0.abs.bits)))] (by kernel_rfl) ⟨⟨rfl, tr⟩, tr⟩ (of_decide_eq_true (by kernel_rfl))⟩

/-! impl.size -/
def zb0 (K : Nat) (a0 : F32) : Option (F32) :=
 (zb2 K (Fl.cv .f32 .f64 a0)).bind fun v1 => chk ((zqw .f64 v1.bits .f32).isSome = true) (some (Fl.cv .f64 .f32 v1))

theorem ok_impl_size (K : Nat) (a0 : F32) (o : (F32)) (h : zb0 K a0 = some o) : CallOK Tryz.prog 106 [.one (.flt .f32 a0.bits)] [.one (.flt .f32 o.bits)] := by
 refine zqh Tryz.func106 rfl (by kernel_rfl) (Nat.le_of_ble_eq_true (by kernel_rfl)) ?_
 intro w0
 unfold zb0 at h
 refine AW.sC (Tt ∧ Tt) [] [0] [] ⟨tr, tr⟩ ?_
 refine AW.seq ?_
 obtain ⟨v1, e2, h⟩ := zqb h
 obtain ⟨c3, h⟩ := zqn h
 let z1 := Fl.cv .f32 .f64 a0
 refine AW.tA ⟨[(2, (vc (.flt .f32 (Fl.cv .f64 .f32 v1).bits)))], []⟩ (Tt ∧ ((zqw .f32 a0.bits .f64).isSome = true) ∧ (((Eqc (.flt .f64 z1.bits)) ∧ Tt) ∧ CallOK Tryz.prog 120 [.one (.flt .f64 z1.bits)] [.one (.flt .f64 v1.bits)]) ∧ ((zqw .f64 v1.bits .f32).isSome = true) ∧ Tt ∧ Tt) [.no, .no, .call [.one (.flt .f64 z1.bits)] [.one (.flt .f64 v1.bits)] [[.view]]] [2] [] ⟨tr, zbb a0, ⟨⟨rfl, tr⟩, zcp K z1 v1 e2⟩, c3, tr, tr⟩ ?_
 refine AW.ret ?_
 replace h := zqd h
 subst h
 exact ⟨.inr rfl, zqe [(.one (cF (Fl.cv .f64 .f32 v1)))] (by kernel_rfl) ⟨⟨rfl, tr⟩, tr⟩ (of_decide_eq_true (by kernel_rfl))⟩

/-! math.NaN -/
def zc4 (K : Nat) : Option (F64) :=
 (zvs K (9221120237041090561 : Int)).bind fun v1 => some v1

theorem ok_math_NaN (K : Nat) (o : (F64)) (h : zc4 K  = some o) : CallOK Tryz.prog 124 [] [.one (.flt .f64 o.bits)] := by
 refine zqh Tryz.func124 rfl (by kernel_rfl) (Nat.le_of_ble_eq_true (by kernel_rfl)) ?_
 intro w0
 unfold zc4 at h
 refine AW.sC (Tt ∧ Tt) [] [] [] ⟨tr, tr⟩ ?_
 refine AW.seq ?_
 obtain ⟨v1, e2, h⟩ := zqb h
 let z1 := (9221120237041090561 : Int)
 refine AW.tA ⟨[(0, (vc (.flt .f64 v1.bits)))], []⟩ ((((Eqc (.int .u64 z1)) ∧ Tt) ∧ CallOK Tryz.prog 125 [.one (.int .u64 z1)] [.one (.flt .f64 v1.bits)]) ∧ Tt ∧ Tt) [.call [.one (.int .u64 z1)] [.one (.flt .f64 v1.bits)] [[.view]]] [0] [] ⟨⟨⟨rfl, tr⟩, ok_math_Float64frombits K z1 v1 e2⟩, tr, tr⟩ ?_
 refine AW.ret ?_
 replace h := zqd h
 subst h
 exact ⟨.inr rfl, zqe [(.one (.c (.flt .f64 v1.bits)))] (by kernel_rfl) ⟨⟨rfl, tr⟩, tr⟩ (of_decide_eq_true (by kernel_rfl))⟩

/-! impl.notNumber -/
def zvu (K : Nat) : Option (F32) :=
 (zc4 K ).bind fun v1 => chk ((zqw .f64 v1.bits .f32).isSome = true) (some (Fl.cv .f64 .f32 v1))

theorem ok_impl_notNumber (K : Nat) (o : (F32)) (h : zvu K  = some o) : CallOK Tryz.prog 117 [] [.one (.flt .f32 o.bits)] := by
 refine zqh Tryz.func117 rfl (by kernel_rfl) (Nat.le_of_ble_eq_true (by kernel_rfl)) ?_
 intro w0
 unfold zvu at h
 refine AW.sC (Tt ∧ Tt) [] [] [] ⟨tr, tr⟩ ?_
 refine AW.seq ?_
 obtain ⟨v1, e2, h⟩ := zqb h
 obtain ⟨c3, h⟩ := zqn h
 refine AW.tA ⟨[(0, (vc (.flt .f32 (Fl.cv .f64 .f32 v1).bits)))], []⟩ (((Tt) ∧ CallOK Tryz.prog 124 [] [.one (.flt .f64 v1.bits)]) ∧ ((zqw .f64 v1.bits .f32).isSome = true) ∧ Tt ∧ Tt) [.call [] [.one (.flt .f64 v1.bits)] [[.view]]] [0] [] ⟨⟨tr, ok_math_NaN K v1 e2⟩, c3, tr, tr⟩ ?_
 refine AW.ret ?_
 replace h := zqd h
 subst h
 exact ⟨.inr rfl, zqe [(.one (cF (Fl.cv .f64 .f32 v1)))] (by kernel_rfl) ⟨⟨rfl, tr⟩, tr⟩ (of_decide_eq_true (by kernel_rfl))⟩

end
end Go.Fw
