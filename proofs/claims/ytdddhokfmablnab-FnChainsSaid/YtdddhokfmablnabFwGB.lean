/- Functions of the program: what each computes, and that it computes just that. -/
import Derived.Test.YtdddhokfmablnabFwTy
import Derived.Test.YtdddhokfmablnabFwH
import Derived.Test.YtdddhokfmablnabFwV
import Derived.Test.YtdddhokfmablnabFwGB1
import Derived.Test.YtdddhokfmablnabFwHF
import Derived.Test.YtdddhokfmablnabFwMK
import Derived.Test.YtdddhokfmablnabFwU
import Derived.Test.YtdddhokfmablnabProg
import Derived.KernelRfl
namespace Go.Fw
open Go Go.Proofs
noncomputable section
set_option maxRecDepth 10000

/-! laws.FnChains -/
def laws_FnChains_l18 (K : Nat) (v4 : (Skeleton)) (v24 : ((List Int) × Bool)) : Nat → Int → Option ((Unit) ⊕ (Unit))
  | 0, _ => none
  | k + 1, x61 => ite2 ((decide (x61 < (v24.1.length : Int)))) (chk (0 ≤ x61 ∧ x61 < (v24.1.length : Int)) ((ite2 ((decide ((v24.1.getD x61.toNat default) < (0 : Int)))) (some true) (ite2 ((decide ((v24.1.getD x61.toNat default) ≥ (v4.Bones.length : Int)))) (some true) (chk (0 ≤ (v24.1.getD x61.toNat default) ∧ (v24.1.getD x61.toNat default) < (v4.Bones.length : Int)) (chk (0 ≤ (IntKind.i64.wrap (x61 - (1 : Int))) ∧ (IntKind.i64.wrap (x61 - (1 : Int))) < (v24.1.length : Int)) (some (((v4.Bones.getD ((v24.1.getD x61.toNat default).toNat) default).Parent) != (v24.1.getD ((IntKind.i64.wrap (x61 - (1 : Int))).toNat) default))))))).bind fun j68 => ite2 (j68) (some (.inr ())) (laws_FnChains_l18 K v4 v24 k (IntKind.i64.wrap (x61 + (1 : Int)))))) (some (.inl ()))

def laws_FnChains_l24 (K : Nat) (x22 : Int) (v125 : ((List Int) × Bool)) : Nat → Bool → Int → Option (Bool)
  | 0, _, _ => none
  | k + 1, x141, x142 => ite2 ((decide (x142 < (v125.1.length : Int)))) ((ite2 (x141) (some true) (chk (0 ≤ x142 ∧ x142 < (v125.1.length : Int)) (some ((v125.1.getD x142.toNat default) == x22)))).bind fun j146 => laws_FnChains_l24 K x22 v125 k j146 (IntKind.i64.wrap (x142 + (1 : Int)))) (some x141)

def laws_FnChains_l25 (K : Nat) (v24 : ((List Int) × Bool)) (x123 : Int) : Nat → Bool → Int → Option (Bool)
  | 0, _, _ => none
  | k + 1, x161, x162 => ite2 ((decide (x162 < (v24.1.length : Int)))) ((ite2 (x161) (some true) (chk (0 ≤ x162 ∧ x162 < (v24.1.length : Int)) (some ((v24.1.getD x162.toNat default) == x123)))).bind fun j166 => laws_FnChains_l25 K v24 x123 k j166 (IntKind.i64.wrap (x162 + (1 : Int)))) (some x161)

def laws_FnChains_l23 (K : Nat) (v4 : (Skeleton)) (x22 : Int) (v24 : ((List Int) × Bool)) : Nat → Int → Option ((Unit) ⊕ (Unit))
  | 0, _ => none
  | k + 1, x123 => ite2 ((decide (x123 < (v4.Bones.length : Int)))) ((impl_BelowOf K v4 x123).bind fun v125 => ite2 ((!v125.2)) (some (.inr ())) ((laws_FnChains_l24 K x22 v125 K false (0 : Int)).bind fun j138 => (laws_FnChains_l25 K v24 x123 K false (0 : Int)).bind fun j158 => ite2 ((!(j138 == j158))) (some (.inr ())) (laws_FnChains_l23 K v4 x22 v24 k (IntKind.i64.wrap (x123 + (1 : Int)))))) (some (.inl ()))

def laws_FnChains_l17 (K : Nat) (v4 : (Skeleton)) (v6 : ((List F32) × Bool)) (v8 : (Pose × Bool)) : Nat → Int → Option (Bool)
  | 0, _ => none
  | k + 1, x22 => ite2 ((decide (x22 < (v4.Bones.length : Int)))) ((impl_ChainOf K v4 x22).bind fun v24 => (ite2 ((!v24.2)) (some true) (ite2 (((v24.1.length : Int) == (0 : Int))) (some true) (chk (0 ≤ (0 : Int) ∧ (0 : Int) < (v24.1.length : Int)) (ite2 (((v24.1.getD ((0 : Int).toNat) default) != (0 : Int))) (some true) (chk (0 ≤ (IntKind.i64.wrap ((v24.1.length : Int) - (1 : Int))) ∧ (IntKind.i64.wrap ((v24.1.length : Int) - (1 : Int))) < (v24.1.length : Int)) (ite2 (((v24.1.getD ((IntKind.i64.wrap ((v24.1.length : Int) - (1 : Int))).toNat) default) != x22)) (some true) (chk (0 ≤ x22 ∧ x22 < (v8.1.Turns.length : Int)) ((laws_b10TEqual K (v8.1.Turns.getD x22.toNat default) (Turn.mk (Fl.mk (k := .f32) 1065353216 (by decide)) (default : F32) (default : F32) (default : F32))).bind fun v33 => ite2 ((!v33)) (some true) (chk (0 ≤ x22 ∧ x22 < (v6.1.length : Int)) (chk (0 ≤ x22 ∧ x22 < (v4.Bones.length : Int)) ((spec_LongOf K ((v4.Bones.getD x22.toNat default).Offset)).bind fun v38 => (spec_SameNumber K (v6.1.getD x22.toNat default) v38).bind fun v40 => some (!v40)))))))))))).bind fun j42 => ite2 (j42) (some false) ((laws_FnChains_l18 K v4 v24 K (1 : Int)).bind (fun z0 => sumC z0 (fun j58 => (laws_FnChains_l23 K v4 x22 v24 K (0 : Int)).bind (fun z0 => sumC z0 (fun j120 => laws_FnChains_l17 K v4 v6 v8 k (IntKind.i64.wrap (x22 + (1 : Int)))) (fun j121 => some false))) (fun j59 => some false)))) (some true)

def laws_FnChains (K : Nat) (a0 : (List Int)) (a1 : (List Int)) : Option (Bool) :=
  (laws_b10Long K a0 a1).bind fun v1 => ite2 (v1) (some true) ((spec_B10Skeleton K a0).bind fun v4 => (impl_BoneLengths K v4).bind fun v6 => (impl_RestPose K v4).bind fun v8 => (ite2 ((!v6.2)) (some true) (ite2 ((!v8.2)) (some true) ((impl_ValidSkeleton K v4).bind fun v12 => ite2 ((!v12)) (some true) ((impl_IsPose K v4 v8.1).bind fun v15 => ite2 ((!v15)) (some true) (some ((v6.1.length : Int) != (v4.Bones.length : Int))))))).bind fun j18 => ite2 (j18) (some false) (laws_FnChains_l17 K v4 v6 v8 K (0 : Int)))

theorem ok_laws_FnChains (K : Nat) (a0 : (List Int)) (a1 : (List Int)) (o : (Bool)) (h : laws_FnChains K a0 a1 = some o) : CallOK Try.prog 3 [.one (sl 1 (csI .u8) a0), .one (sl 1 (csI .u8) a1)] [.one (.bool o)] := by
  refine callOK_of_AW Try.func3 rfl (by kernel_rfl) (Nat.le_of_ble_eq_true (by kernel_rfl)) ?_
  intro w0
  unfold laws_FnChains at h
  refine AW.seq (AW.rA ⟨[(0, (vc (sl 1 (csI .u8) a0))), (1, (vc (sl 1 (csI .u8) a1)))], []⟩ (Tt ∧ Tt) [] [0, 1] [] ⟨tr, tr⟩ (thenQ_normal ?_))
  refine AW.seq ?_
  refine AW.seq ?_
  obtain ⟨v1, e2, h⟩ := bind_some h
  refine AW.rA ⟨[(0, (vc (sl 1 (csI .u8) a0))), (24, (vc (.bool v1)))], []⟩ (T2 ((((Eqc (sl 1 (csI .u8) a0)) ∧ (Eqc (sl 1 (csI .u8) a1)) ∧ Tt) ∧ CallOK Try.prog 4 [.one (sl 1 (csI .u8) a0), .one (sl 1 (csI .u8) a1)] [.one (.bool v1)]) ∧ Tt)) [.no, .no, .call [.one (sl 1 (csI .u8) a0), .one (sl 1 (csI .u8) a1)] [.one (.bool v1)] [[.view]]] [0, 24] [] ⟨tr, tr, ⟨⟨rfl, rfl, tr⟩, ok_laws_b10Long K a0 a1 v1 e2⟩, tr⟩ ?_
  refine thenQ_normal ?_
  rcases ite2_cases h with ⟨b3, h⟩ | ⟨b3, h⟩
  · refine AW.cond_t rfl b3 ?_
    refine AW.seq (AW.rA ⟨[(4, (vc (.bool true)))], []⟩ (Tt ∧ Tt) [] [4] [] ⟨tr, tr⟩ (thenQ_normal ?_))
    refine AW.ret ?_
    refine thenQ_ret ?_
    replace h := some_eq h
    subst h
    exact ⟨.inr rfl, retOK_of [(.one (.c (.bool true)))] (by kernel_rfl) ⟨⟨rfl, tr⟩, tr⟩ (of_decide_eq_true (by kernel_rfl))⟩
  · refine AW.cond_f rfl b3 ?_
    refine AW.skip ?_
    refine thenQ_normal ?_
    refine AW.seq ?_
    obtain ⟨v4, e5, h⟩ := bind_some h
    refine AW.rA ⟨[(5, (vp 2 0))], [(1, (.lst v4.Bones.length 4 (gl cs_Bone v4.Bones))), (2, (.box [(.lst 1 v4.Bones.length 4 (gl cs_Bone v4.Bones))]))]⟩ (Tt ∧ (((Eqc (sl 1 (csI .u8) a0)) ∧ Tt) ∧ CallOK Try.prog 5 [.one (sl 1 (csI .u8) a0)] [.agg (cs_Skeleton v4)]) ∧ T2 Tt) [.no, .call [.one (sl 1 (csI .u8) a0)] [.agg (cs_Skeleton v4)] [[.lst 1]], .box 2] [5] [1, 2] ⟨tr, ⟨⟨rfl, tr⟩, ok_spec_B10Skeleton K a0 v4 e5⟩, tr, tr, tr⟩ ?_
    refine thenQ_normal ?_
    refine AW.seq (AW.rA ⟨[(5, (vp 2 0)), (6, (vc (.int .i64 (v4.Bones.length : Int))))], [(1, (.lst v4.Bones.length 4 (gl cs_Bone v4.Bones))), (2, (.box [(.lst 1 v4.Bones.length 4 (gl cs_Bone v4.Bones))]))]⟩ (T4 Tt) [] [5, 6] [1, 2] ⟨tr, tr, tr, tr, tr⟩ (thenQ_normal ?_))
    refine AW.seq ?_
    obtain ⟨v6, e7, h⟩ := bind_some h
    refine AW.rA ⟨[(5, (vp 2 0)), (6, (vc (.int .i64 (v4.Bones.length : Int)))), (7, (.v (.one (.lst 3 v6.1.length 1 (gl (csF .f32) v6.1))))), (8, (vc (.bool v6.2)))], [(1, (.lst v4.Bones.length 4 (gl cs_Bone v4.Bones))), (2, (.box [(.lst 1 v4.Bones.length 4 (gl cs_Bone v4.Bones))])), (3, (.lst v6.1.length 1 (gl (csF .f32) v6.1)))]⟩ (Tt ∧ ((((Eqc (sl 4 cs_Bone v4.Bones)) ∧ Tt) ∧ Tt) ∧ CallOK Try.prog 6 [.agg (cs_Skeleton v4)] [.one (sl 1 (csF .f32) v6.1), .one (.bool v6.2)]) ∧ Tt ∧ T4 Tt) [.no, .call [.agg (cs_Skeleton v4)] [.one (sl 1 (csF .f32) v6.1), .one (.bool v6.2)] [[.lst 3], [.view]]] [5, 6, 7, 8] [1, 2, 3] ⟨tr, ⟨⟨⟨rfl, tr⟩, tr⟩, ok_impl_BoneLengths K v4 v6 e7⟩, tr, tr, tr, tr, tr, tr⟩ ?_
    refine thenQ_normal ?_
    refine AW.seq ?_
    obtain ⟨v8, e9, h⟩ := bind_some h
    refine AW.rA ⟨[(5, (vp 2 0)), (6, (vc (.int .i64 (v4.Bones.length : Int)))), (7, (.v (.one (.lst 3 v6.1.length 1 (gl (csF .f32) v6.1))))), (8, (vc (.bool v6.2))), (9, (vp 5 0)), (10, (vc (.bool v8.2)))], [(1, (.lst v4.Bones.length 4 (gl cs_Bone v4.Bones))), (2, (.box [(.lst 1 v4.Bones.length 4 (gl cs_Bone v4.Bones))])), (3, (.lst v6.1.length 1 (gl (csF .f32) v6.1))), (4, (.lst v8.1.Turns.length 4 (gl cs_Turn v8.1.Turns))), (5, (.box [(.c (.flt .f32 v8.1.Root.X.bits)), (.c (.flt .f32 v8.1.Root.Y.bits)), (.c (.flt .f32 v8.1.Root.Z.bits)), (.lst 4 v8.1.Turns.length 4 (gl cs_Turn v8.1.Turns))]))]⟩ (Tt ∧ ((((Eqc (sl 4 cs_Bone v4.Bones)) ∧ Tt) ∧ Tt) ∧ CallOK Try.prog 7 [.agg (cs_Skeleton v4)] [.agg (cs_Pose v8.1), .one (.bool v8.2)]) ∧ T2 (T4 Tt)) [.no, .call [.agg (cs_Skeleton v4)] [.agg (cs_Pose v8.1), .one (.bool v8.2)] [[.view, .view, .view, .lst 4], [.view]], .no, .no, .no, .box 5] [5, 6, 7, 8, 9, 10] [1, 2, 3, 4, 5] ⟨tr, ⟨⟨⟨rfl, tr⟩, tr⟩, ok_impl_RestPose K v4 v8 e9⟩, tr, tr, tr, tr, tr, tr, tr⟩ ?_
    refine thenQ_normal ?_
    refine AW.seq ?_
    refine AW.seq ?_
    obtain ⟨j18, e19, h⟩ := bind_some h
    refine AW.join1 (s2 := ⟨[(5, (vp 2 0)), (6, (vc (.int .i64 (v4.Bones.length : Int)))), (7, (.v (.one (.lst 3 v6.1.length 1 (gl (csF .f32) v6.1))))), (9, (vp 5 0)), (62, (vc (.bool j18)))], [(1, (.lst v4.Bones.length 4 (gl cs_Bone v4.Bones))), (2, (.box [(.lst 1 v4.Bones.length 4 (gl cs_Bone v4.Bones))])), (3, (.lst v6.1.length 1 (gl (csF .f32) v6.1))), (4, (.lst v8.1.Turns.length 4 (gl cs_Turn v8.1.Turns))), (5, (.box [(.c (.flt .f32 v8.1.Root.X.bits)), (.c (.flt .f32 v8.1.Root.Y.bits)), (.c (.flt .f32 v8.1.Root.Z.bits)), (.lst 4 v8.1.Turns.length 4 (gl cs_Turn v8.1.Turns))]))]⟩) ?_ ?_
    · rcases ite2_cases e19 with ⟨b10, e19⟩ | ⟨b10, e19⟩
      · replace e19 := some_eq e19
        subst e19
        exact AW.rA ⟨[(5, (vp 2 0)), (6, (vc (.int .i64 (v4.Bones.length : Int)))), (7, (.v (.one (.lst 3 v6.1.length 1 (gl (csF .f32) v6.1))))), (9, (vp 5 0)), (62, (vc (.bool true)))], [(1, (.lst v4.Bones.length 4 (gl cs_Bone v4.Bones))), (2, (.box [(.lst 1 v4.Bones.length 4 (gl cs_Bone v4.Bones))])), (3, (.lst v6.1.length 1 (gl (csF .f32) v6.1))), (4, (.lst v8.1.Turns.length 4 (gl cs_Turn v8.1.Turns))), (5, (.box [(.c (.flt .f32 v8.1.Root.X.bits)), (.c (.flt .f32 v8.1.Root.Y.bits)), (.c (.flt .f32 v8.1.Root.Z.bits)), (.lst 4 v8.1.Turns.length 4 (gl cs_Turn v8.1.Turns))]))]⟩ (T2 ((Tt ∧ (!v6.2) = true) ∧ T4 (T4 (T4 (T4 (T4 Tt)))))) [.no, .no, .dec true] [5, 6, 7, 9, 62] [1, 2, 3, 4, 5] ⟨tr, tr, ⟨tr, b10⟩, tr, tr, tr, tr, tr, tr, tr, tr, tr, tr, tr, tr, tr, tr, tr, tr, tr, tr, tr, tr, tr⟩ ⟨rfl, rfl⟩
      · rcases ite2_cases e19 with ⟨b11, e19⟩ | ⟨b11, e19⟩
        · replace e19 := some_eq e19
          subst e19
          exact AW.rA ⟨[(5, (vp 2 0)), (6, (vc (.int .i64 (v4.Bones.length : Int)))), (7, (.v (.one (.lst 3 v6.1.length 1 (gl (csF .f32) v6.1))))), (9, (vp 5 0)), (62, (vc (.bool true)))], [(1, (.lst v4.Bones.length 4 (gl cs_Bone v4.Bones))), (2, (.box [(.lst 1 v4.Bones.length 4 (gl cs_Bone v4.Bones))])), (3, (.lst v6.1.length 1 (gl (csF .f32) v6.1))), (4, (.lst v8.1.Turns.length 4 (gl cs_Turn v8.1.Turns))), (5, (.box [(.c (.flt .f32 v8.1.Root.X.bits)), (.c (.flt .f32 v8.1.Root.Y.bits)), (.c (.flt .f32 v8.1.Root.Z.bits)), (.lst 4 v8.1.Turns.length 4 (gl cs_Turn v8.1.Turns))]))]⟩ (T2 ((Tt ∧ (!v6.2) = false) ∧ Tt ∧ T2 ((Tt ∧ (!v8.2) = true) ∧ T4 (T4 (T4 (T4 Tt)))))) [.no, .no, .dec false, .no, .no, .no, .dec true] [5, 6, 7, 9, 62] [1, 2, 3, 4, 5] ⟨tr, tr, ⟨tr, b10⟩, tr, tr, tr, ⟨tr, b11⟩, tr, tr, tr, tr, tr, tr, tr, tr, tr, tr, tr, tr, tr, tr, tr, tr, tr⟩ ⟨rfl, rfl⟩
        · obtain ⟨v12, e13, e19⟩ := bind_some e19
          rcases ite2_cases e19 with ⟨b14, e19⟩ | ⟨b14, e19⟩
          · replace e19 := some_eq e19
            subst e19
            exact AW.rA ⟨[(5, (vp 2 0)), (6, (vc (.int .i64 (v4.Bones.length : Int)))), (7, (.v (.one (.lst 3 v6.1.length 1 (gl (csF .f32) v6.1))))), (9, (vp 5 0)), (62, (vc (.bool true)))], [(1, (.lst v4.Bones.length 4 (gl cs_Bone v4.Bones))), (2, (.box [(.lst 1 v4.Bones.length 4 (gl cs_Bone v4.Bones))])), (3, (.lst v6.1.length 1 (gl (csF .f32) v6.1))), (4, (.lst v8.1.Turns.length 4 (gl cs_Turn v8.1.Turns))), (5, (.box [(.c (.flt .f32 v8.1.Root.X.bits)), (.c (.flt .f32 v8.1.Root.Y.bits)), (.c (.flt .f32 v8.1.Root.Z.bits)), (.lst 4 v8.1.Turns.length 4 (gl cs_Turn v8.1.Turns))]))]⟩ (T2 ((Tt ∧ (!v6.2) = false) ∧ Tt ∧ T2 ((Tt ∧ (!v8.2) = false) ∧ Tt ∧ ((((Eqc (sl 4 cs_Bone v4.Bones)) ∧ Tt) ∧ Tt) ∧ CallOK Try.prog 8 [.agg (cs_Skeleton v4)] [.one (.bool v12)]) ∧ T2 ((Tt ∧ (!v12) = true) ∧ Tt ∧ T2 (T4 (T4 Tt)))))) [.no, .no, .dec false, .no, .no, .no, .dec false, .no, .call [.agg (cs_Skeleton v4)] [.one (.bool v12)] [[.view]], .no, .no, .dec true] [5, 6, 7, 9, 62] [1, 2, 3, 4, 5] ⟨tr, tr, ⟨tr, b10⟩, tr, tr, tr, ⟨tr, b11⟩, tr, ⟨⟨⟨rfl, tr⟩, tr⟩, ok_impl_ValidSkeleton K v4 v12 e13⟩, tr, tr, ⟨tr, b14⟩, tr, tr, tr, tr, tr, tr, tr, tr, tr, tr, tr, tr⟩ ⟨rfl, rfl⟩
          · obtain ⟨v15, e16, e19⟩ := bind_some e19
            rcases ite2_cases e19 with ⟨b17, e19⟩ | ⟨b17, e19⟩
            · replace e19 := some_eq e19
              subst e19
              exact AW.rA ⟨[(5, (vp 2 0)), (6, (vc (.int .i64 (v4.Bones.length : Int)))), (7, (.v (.one (.lst 3 v6.1.length 1 (gl (csF .f32) v6.1))))), (9, (vp 5 0)), (62, (vc (.bool true)))], [(1, (.lst v4.Bones.length 4 (gl cs_Bone v4.Bones))), (2, (.box [(.lst 1 v4.Bones.length 4 (gl cs_Bone v4.Bones))])), (3, (.lst v6.1.length 1 (gl (csF .f32) v6.1))), (4, (.lst v8.1.Turns.length 4 (gl cs_Turn v8.1.Turns))), (5, (.box [(.c (.flt .f32 v8.1.Root.X.bits)), (.c (.flt .f32 v8.1.Root.Y.bits)), (.c (.flt .f32 v8.1.Root.Z.bits)), (.lst 4 v8.1.Turns.length 4 (gl cs_Turn v8.1.Turns))]))]⟩ (T2 ((Tt ∧ (!v6.2) = false) ∧ Tt ∧ T2 ((Tt ∧ (!v8.2) = false) ∧ Tt ∧ ((((Eqc (sl 4 cs_Bone v4.Bones)) ∧ Tt) ∧ Tt) ∧ CallOK Try.prog 8 [.agg (cs_Skeleton v4)] [.one (.bool v12)]) ∧ T2 ((Tt ∧ (!v12) = false) ∧ T2 (((((Eqc (sl 4 cs_Bone v4.Bones)) ∧ Tt) ∧ ((Eqc (.flt .f32 v8.1.Root.X.bits)) ∧ (Eqc (.flt .f32 v8.1.Root.Y.bits)) ∧ (Eqc (.flt .f32 v8.1.Root.Z.bits)) ∧ (Eqc (sl 4 cs_Turn v8.1.Turns)) ∧ Tt) ∧ Tt) ∧ CallOK Try.prog 9 [.agg (cs_Skeleton v4), .agg (cs_Pose v8.1)] [.one (.bool v15)]) ∧ T2 ((Tt ∧ (!v15) = true) ∧ Tt ∧ T4 Tt)))))) [.no, .no, .dec false, .no, .no, .no, .dec false, .no, .call [.agg (cs_Skeleton v4)] [.one (.bool v12)] [[.view]], .no, .no, .dec false, .no, .no, .call [.agg (cs_Skeleton v4), .agg (cs_Pose v8.1)] [.one (.bool v15)] [[.view]], .no, .no, .dec true] [5, 6, 7, 9, 62] [1, 2, 3, 4, 5] ⟨tr, tr, ⟨tr, b10⟩, tr, tr, tr, ⟨tr, b11⟩, tr, ⟨⟨⟨rfl, tr⟩, tr⟩, ok_impl_ValidSkeleton K v4 v12 e13⟩, tr, tr, ⟨tr, b14⟩, tr, tr, ⟨⟨⟨rfl, tr⟩, ⟨rfl, rfl, rfl, rfl, tr⟩, tr⟩, ok_impl_IsPose K v4 v8.1 v15 e16⟩, tr, tr, ⟨tr, b17⟩, tr, tr, tr, tr, tr, tr⟩ ⟨rfl, rfl⟩
            · replace e19 := some_eq e19
              subst e19
              exact AW.rA ⟨[(5, (vp 2 0)), (6, (vc (.int .i64 (v4.Bones.length : Int)))), (7, (.v (.one (.lst 3 v6.1.length 1 (gl (csF .f32) v6.1))))), (9, (vp 5 0)), (62, (vc (.bool ((v6.1.length : Int) != (v4.Bones.length : Int)))))], [(1, (.lst v4.Bones.length 4 (gl cs_Bone v4.Bones))), (2, (.box [(.lst 1 v4.Bones.length 4 (gl cs_Bone v4.Bones))])), (3, (.lst v6.1.length 1 (gl (csF .f32) v6.1))), (4, (.lst v8.1.Turns.length 4 (gl cs_Turn v8.1.Turns))), (5, (.box [(.c (.flt .f32 v8.1.Root.X.bits)), (.c (.flt .f32 v8.1.Root.Y.bits)), (.c (.flt .f32 v8.1.Root.Z.bits)), (.lst 4 v8.1.Turns.length 4 (gl cs_Turn v8.1.Turns))]))]⟩ (T2 ((Tt ∧ (!v6.2) = false) ∧ Tt ∧ T2 ((Tt ∧ (!v8.2) = false) ∧ Tt ∧ ((((Eqc (sl 4 cs_Bone v4.Bones)) ∧ Tt) ∧ Tt) ∧ CallOK Try.prog 8 [.agg (cs_Skeleton v4)] [.one (.bool v12)]) ∧ T2 ((Tt ∧ (!v12) = false) ∧ T2 (((((Eqc (sl 4 cs_Bone v4.Bones)) ∧ Tt) ∧ ((Eqc (.flt .f32 v8.1.Root.X.bits)) ∧ (Eqc (.flt .f32 v8.1.Root.Y.bits)) ∧ (Eqc (.flt .f32 v8.1.Root.Z.bits)) ∧ (Eqc (sl 4 cs_Turn v8.1.Turns)) ∧ Tt) ∧ Tt) ∧ CallOK Try.prog 9 [.agg (cs_Skeleton v4), .agg (cs_Pose v8.1)] [.one (.bool v15)]) ∧ T2 ((Tt ∧ (!v15) = false) ∧ Tt ∧ T4 Tt)))))) [.no, .no, .dec false, .no, .no, .no, .dec false, .no, .call [.agg (cs_Skeleton v4)] [.one (.bool v12)] [[.view]], .no, .no, .dec false, .no, .no, .call [.agg (cs_Skeleton v4), .agg (cs_Pose v8.1)] [.one (.bool v15)] [[.view]], .no, .no, .dec false] [5, 6, 7, 9, 62] [1, 2, 3, 4, 5] ⟨tr, tr, ⟨tr, b10⟩, tr, tr, tr, ⟨tr, b11⟩, tr, ⟨⟨⟨rfl, tr⟩, tr⟩, ok_impl_ValidSkeleton K v4 v12 e13⟩, tr, tr, ⟨tr, b14⟩, tr, tr, ⟨⟨⟨rfl, tr⟩, ⟨rfl, rfl, rfl, rfl, tr⟩, tr⟩, ok_impl_IsPose K v4 v8.1 v15 e16⟩, tr, tr, ⟨tr, b17⟩, tr, tr, tr, tr, tr, tr⟩ ⟨rfl, rfl⟩
    refine thenQ_normal ?_
    rcases ite2_cases h with ⟨b20, h⟩ | ⟨b20, h⟩
    · refine AW.cond_t rfl b20 ?_
      refine AW.seq (AW.rA ⟨[(4, (vc (.bool false)))], []⟩ (Tt ∧ Tt) [] [4] [] ⟨tr, tr⟩ (thenQ_normal ?_))
      refine AW.ret ?_
      refine thenQ_ret ?_
      replace h := some_eq h
      subst h
      exact ⟨.inr rfl, retOK_of [(.one (.c (.bool false)))] (by kernel_rfl) ⟨⟨rfl, tr⟩, tr⟩ (of_decide_eq_true (by kernel_rfl))⟩
    · refine AW.cond_f rfl b20 ?_
      refine AW.skip ?_
      refine thenQ_normal ?_
      refine AW.seq ?_
      refine AW.seq (AW.rA ⟨[(5, (vp 2 0)), (6, (vc (.int .i64 (v4.Bones.length : Int)))), (7, (.v (.one (.lst 3 v6.1.length 1 (gl (csF .f32) v6.1))))), (9, (vp 5 0)), (11, (vc (.int .i64 (0 : Int))))], [(1, (.lst v4.Bones.length 4 (gl cs_Bone v4.Bones))), (2, (.box [(.lst 1 v4.Bones.length 4 (gl cs_Bone v4.Bones))])), (3, (.lst v6.1.length 1 (gl (csF .f32) v6.1))), (4, (.lst v8.1.Turns.length 4 (gl cs_Turn v8.1.Turns))), (5, (.box [(.c (.flt .f32 v8.1.Root.X.bits)), (.c (.flt .f32 v8.1.Root.Y.bits)), (.c (.flt .f32 v8.1.Root.Z.bits)), (.lst 4 v8.1.Turns.length 4 (gl cs_Turn v8.1.Turns))]))]⟩ (Tt ∧ Tt) [] [5, 6, 7, 9, 11] [1, 2, 3, 4, 5] ⟨tr, tr⟩ (thenQ_normal ?_))
      refine AW.block ?_
      refine AW.loopQ (σ := Nat × Int) (fun p => ⟨[(5, (vp 2 0)), (6, (vc (.int .i64 (v4.Bones.length : Int)))), (7, (.v (.one (.lst 3 v6.1.length 1 (gl (csF .f32) v6.1))))), (9, (vp 5 0)), (11, (vc (.int .i64 p.2)))], [(1, (.lst v4.Bones.length 4 (gl cs_Bone v4.Bones))), (2, (.box [(.lst 1 v4.Bones.length 4 (gl cs_Bone v4.Bones))])), (3, (.lst v6.1.length 1 (gl (csF .f32) v6.1))), (4, (.lst v8.1.Turns.length 4 (gl cs_Turn v8.1.Turns))), (5, (.box [(.c (.flt .f32 v8.1.Root.X.bits)), (.c (.flt .f32 v8.1.Root.Y.bits)), (.c (.flt .f32 v8.1.Root.Z.bits)), (.lst 4 v8.1.Turns.length 4 (gl cs_Turn v8.1.Turns))]))]⟩) (fun p => laws_FnChains_l17 K v4 v6 v8 p.1 p.2 = some o) (fun p => p.1) (K, (0 : Int)) h ?_
      clear h
      rintro ⟨k, x22⟩ h
      replace h : laws_FnChains_l17 K v4 v6 v8 k x22 = some o := h
      show AW _ _ (⟨[(5, (vp 2 0)), (6, (vc (.int .i64 (v4.Bones.length : Int)))), (7, (.v (.one (.lst 3 v6.1.length 1 (gl (csF .f32) v6.1))))), (9, (vp 5 0)), (11, (vc (.int .i64 x22)))], [(1, (.lst v4.Bones.length 4 (gl cs_Bone v4.Bones))), (2, (.box [(.lst 1 v4.Bones.length 4 (gl cs_Bone v4.Bones))])), (3, (.lst v6.1.length 1 (gl (csF .f32) v6.1))), (4, (.lst v8.1.Turns.length 4 (gl cs_Turn v8.1.Turns))), (5, (.box [(.c (.flt .f32 v8.1.Root.X.bits)), (.c (.flt .f32 v8.1.Root.Y.bits)), (.c (.flt .f32 v8.1.Root.Z.bits)), (.lst 4 v8.1.Turns.length 4 (gl cs_Turn v8.1.Turns))]))]⟩ : St) _
      obtain _ | k := k
      · rw [laws_FnChains_l17] at h; cases h
      rw [laws_FnChains_l17] at h
      refine AW.seq ?_
      refine AW.seq (AW.rA ⟨[(5, (vp 2 0)), (6, (vc (.int .i64 (v4.Bones.length : Int)))), (7, (.v (.one (.lst 3 v6.1.length 1 (gl (csF .f32) v6.1))))), (9, (vp 5 0)), (11, (vc (.int .i64 x22))), (65, (vc (.bool (decide (x22 < (v4.Bones.length : Int))))))], [(1, (.lst v4.Bones.length 4 (gl cs_Bone v4.Bones))), (2, (.box [(.lst 1 v4.Bones.length 4 (gl cs_Bone v4.Bones))])), (3, (.lst v6.1.length 1 (gl (csF .f32) v6.1))), (4, (.lst v8.1.Turns.length 4 (gl cs_Turn v8.1.Turns))), (5, (.box [(.c (.flt .f32 v8.1.Root.X.bits)), (.c (.flt .f32 v8.1.Root.Y.bits)), (.c (.flt .f32 v8.1.Root.Z.bits)), (.lst 4 v8.1.Turns.length 4 (gl cs_Turn v8.1.Turns))]))]⟩ (Tt ∧ T2 Tt) [] [5, 6, 7, 9, 11, 65] [1, 2, 3, 4, 5] ⟨tr, tr, tr, tr⟩ (thenQ_normal ?_))
      rcases ite2_cases h with ⟨b23, h⟩ | ⟨b23, h⟩
      · refine AW.cond_t rfl b23 ?_
        refine AW.skip ?_
        refine thenQ_normal ?_
        refine AW.seq ?_
        refine AW.block ?_
        refine AW.seq ?_
        obtain ⟨v24, e25, h⟩ := bind_some h
        refine AW.rA ⟨[(5, (vp 2 0)), (6, (vc (.int .i64 (v4.Bones.length : Int)))), (7, (.v (.one (.lst 3 v6.1.length 1 (gl (csF .f32) v6.1))))), (9, (vp 5 0)), (11, (vc (.int .i64 x22))), (12, (.v (.one (.lst 20 v24.1.length 1 (gl (csI .i64) v24.1))))), (13, (vc (.bool v24.2)))], [(1, (.lst v4.Bones.length 4 (gl cs_Bone v4.Bones))), (2, (.box [(.lst 1 v4.Bones.length 4 (gl cs_Bone v4.Bones))])), (3, (.lst v6.1.length 1 (gl (csF .f32) v6.1))), (4, (.lst v8.1.Turns.length 4 (gl cs_Turn v8.1.Turns))), (5, (.box [(.c (.flt .f32 v8.1.Root.X.bits)), (.c (.flt .f32 v8.1.Root.Y.bits)), (.c (.flt .f32 v8.1.Root.Z.bits)), (.lst 4 v8.1.Turns.length 4 (gl cs_Turn v8.1.Turns))])), (20, (.lst v24.1.length 1 (gl (csI .i64) v24.1)))]⟩ (T2 (((((Eqc (sl 4 cs_Bone v4.Bones)) ∧ Tt) ∧ (Eqc (.int .i64 x22)) ∧ Tt) ∧ CallOK Try.prog 10 [.agg (cs_Skeleton v4), .one (.int .i64 x22)] [.one (sl 1 (csI .i64) v24.1), .one (.bool v24.2)]) ∧ Tt ∧ T4 Tt)) [.no, .no, .call [.agg (cs_Skeleton v4), .one (.int .i64 x22)] [.one (sl 1 (csI .i64) v24.1), .one (.bool v24.2)] [[.lst 20], [.view]]] [5, 6, 7, 9, 11, 12, 13] [1, 2, 3, 4, 5, 20] ⟨tr, tr, ⟨⟨⟨rfl, tr⟩, rfl, tr⟩, ok_impl_ChainOf K v4 x22 v24 e25⟩, tr, tr, tr, tr, tr, tr⟩ ?_
        refine thenQ_normal ?_
        refine AW.seq ?_
        refine AW.seq ?_
        obtain ⟨j42, e43, h⟩ := bind_some h
        refine AW.join1 (s2 := ⟨[(5, (vp 2 0)), (6, (vc (.int .i64 (v4.Bones.length : Int)))), (7, (.v (.one (.lst 3 v6.1.length 1 (gl (csF .f32) v6.1))))), (9, (vp 5 0)), (11, (vc (.int .i64 x22))), (12, (.v (.one (.lst 20 v24.1.length 1 (gl (csI .i64) v24.1))))), (121, (vc (.bool j42)))], [(1, (.lst v4.Bones.length 4 (gl cs_Bone v4.Bones))), (2, (.box [(.lst 1 v4.Bones.length 4 (gl cs_Bone v4.Bones))])), (3, (.lst v6.1.length 1 (gl (csF .f32) v6.1))), (4, (.lst v8.1.Turns.length 4 (gl cs_Turn v8.1.Turns))), (5, (.box [(.c (.flt .f32 v8.1.Root.X.bits)), (.c (.flt .f32 v8.1.Root.Y.bits)), (.c (.flt .f32 v8.1.Root.Z.bits)), (.lst 4 v8.1.Turns.length 4 (gl cs_Turn v8.1.Turns))])), (20, (.lst v24.1.length 1 (gl (csI .i64) v24.1)))]⟩) ?_ ?_
        · rcases ite2_cases e43 with ⟨b26, e43⟩ | ⟨b26, e43⟩
          · replace e43 := some_eq e43
            subst e43
            exact AW.dA ⟨[(5, (vp 2 0)), (6, (vc (.int .i64 (v4.Bones.length : Int)))), (7, (.v (.one (.lst 3 v6.1.length 1 (gl (csF .f32) v6.1))))), (9, (vp 5 0)), (11, (vc (.int .i64 x22))), (12, (.v (.one (.lst 20 v24.1.length 1 (gl (csI .i64) v24.1))))), (121, (vc (.bool true)))], [(1, (.lst v4.Bones.length 4 (gl cs_Bone v4.Bones))), (2, (.box [(.lst 1 v4.Bones.length 4 (gl cs_Bone v4.Bones))])), (3, (.lst v6.1.length 1 (gl (csF .f32) v6.1))), (4, (.lst v8.1.Turns.length 4 (gl cs_Turn v8.1.Turns))), (5, (.box [(.c (.flt .f32 v8.1.Root.X.bits)), (.c (.flt .f32 v8.1.Root.Y.bits)), (.c (.flt .f32 v8.1.Root.Z.bits)), (.lst 4 v8.1.Turns.length 4 (gl cs_Turn v8.1.Turns))])), (20, (.lst v24.1.length 1 (gl (csI .i64) v24.1)))]⟩ ((T2 ((Tt ∧ (!v24.2) = true) ∧ Tt ∧ T4 (T4 (T4 (T4 (T4 (T4 (T4 (T4 (T4 (T4 (T4 Tt)))))))))))) ∧ (Tt)) 48 [.no, .no, .dec true] [5, 6, 7, 9, 11, 12, 121] [1, 2, 3, 4, 5, 20] ⟨⟨tr, tr, ⟨tr, b26⟩, tr, tr, tr, tr, tr, tr, tr, tr, tr, tr, tr, tr, tr, tr, tr, tr, tr, tr, tr, tr, tr, tr, tr, tr, tr, tr, tr, tr, tr, tr, tr, tr, tr, tr, tr, tr, tr, tr, tr, tr, tr, tr, tr, tr, tr, tr⟩, tr⟩ ⟨rfl, rfl⟩
          · rcases ite2_cases e43 with ⟨b27, e43⟩ | ⟨b27, e43⟩
            · replace e43 := some_eq e43
              subst e43
              exact AW.dA ⟨[(5, (vp 2 0)), (6, (vc (.int .i64 (v4.Bones.length : Int)))), (7, (.v (.one (.lst 3 v6.1.length 1 (gl (csF .f32) v6.1))))), (9, (vp 5 0)), (11, (vc (.int .i64 x22))), (12, (.v (.one (.lst 20 v24.1.length 1 (gl (csI .i64) v24.1))))), (121, (vc (.bool true)))], [(1, (.lst v4.Bones.length 4 (gl cs_Bone v4.Bones))), (2, (.box [(.lst 1 v4.Bones.length 4 (gl cs_Bone v4.Bones))])), (3, (.lst v6.1.length 1 (gl (csF .f32) v6.1))), (4, (.lst v8.1.Turns.length 4 (gl cs_Turn v8.1.Turns))), (5, (.box [(.c (.flt .f32 v8.1.Root.X.bits)), (.c (.flt .f32 v8.1.Root.Y.bits)), (.c (.flt .f32 v8.1.Root.Z.bits)), (.lst 4 v8.1.Turns.length 4 (gl cs_Turn v8.1.Turns))])), (20, (.lst v24.1.length 1 (gl (csI .i64) v24.1)))]⟩ ((T2 ((Tt ∧ (!v24.2) = false) ∧ T4 ((Tt ∧ ((v24.1.length : Int) == (0 : Int)) = true) ∧ T4 (T4 (T4 (T4 (T4 (T4 (T4 (T4 (T4 (T4 Tt)))))))))))) ∧ (Tt)) 48 [.no, .no, .dec false, .no, .no, .no, .no, .dec true] [5, 6, 7, 9, 11, 12, 121] [1, 2, 3, 4, 5, 20] ⟨⟨tr, tr, ⟨tr, b26⟩, tr, tr, tr, tr, ⟨tr, b27⟩, tr, tr, tr, tr, tr, tr, tr, tr, tr, tr, tr, tr, tr, tr, tr, tr, tr, tr, tr, tr, tr, tr, tr, tr, tr, tr, tr, tr, tr, tr, tr, tr, tr, tr, tr, tr, tr, tr, tr, tr, tr⟩, tr⟩ ⟨rfl, rfl⟩
            · obtain ⟨c28, e43⟩ := chk_some e43
              rcases ite2_cases e43 with ⟨b29, e43⟩ | ⟨b29, e43⟩
              · replace e43 := some_eq e43
                subst e43
                exact AW.dA ⟨[(5, (vp 2 0)), (6, (vc (.int .i64 (v4.Bones.length : Int)))), (7, (.v (.one (.lst 3 v6.1.length 1 (gl (csF .f32) v6.1))))), (9, (vp 5 0)), (11, (vc (.int .i64 x22))), (12, (.v (.one (.lst 20 v24.1.length 1 (gl (csI .i64) v24.1))))), (121, (vc (.bool true)))], [(1, (.lst v4.Bones.length 4 (gl cs_Bone v4.Bones))), (2, (.box [(.lst 1 v4.Bones.length 4 (gl cs_Bone v4.Bones))])), (3, (.lst v6.1.length 1 (gl (csF .f32) v6.1))), (4, (.lst v8.1.Turns.length 4 (gl cs_Turn v8.1.Turns))), (5, (.box [(.c (.flt .f32 v8.1.Root.X.bits)), (.c (.flt .f32 v8.1.Root.Y.bits)), (.c (.flt .f32 v8.1.Root.Z.bits)), (.lst 4 v8.1.Turns.length 4 (gl cs_Turn v8.1.Turns))])), (20, (.lst v24.1.length 1 (gl (csI .i64) v24.1)))]⟩ ((T2 ((Tt ∧ (!v24.2) = false) ∧ T4 ((Tt ∧ ((v24.1.length : Int) == (0 : Int)) = false) ∧ Tt ∧ (0 ≤ (0 : Int) ∧ (0 : Int) < (v24.1.length : Int)) ∧ Tt ∧ T2 ((Tt ∧ ((v24.1.getD ((0 : Int).toNat) default) != (0 : Int)) = true) ∧ T2 (T4 (T4 (T4 (T4 (T4 (T4 (T4 (T4 Tt)))))))))))) ∧ (Tt)) 48 [.no, .no, .dec false, .no, .no, .no, .no, .dec false, .no, .no, .no, .no, .no, .dec true] [5, 6, 7, 9, 11, 12, 121] [1, 2, 3, 4, 5, 20] ⟨⟨tr, tr, ⟨tr, b26⟩, tr, tr, tr, tr, ⟨tr, b27⟩, tr, c28, tr, tr, tr, ⟨tr, b29⟩, tr, tr, tr, tr, tr, tr, tr, tr, tr, tr, tr, tr, tr, tr, tr, tr, tr, tr, tr, tr, tr, tr, tr, tr, tr, tr, tr, tr, tr, tr, tr, tr, tr, tr, tr⟩, tr⟩ ⟨rfl, rfl⟩
              · obtain ⟨c30, e43⟩ := chk_some e43
                rcases ite2_cases e43 with ⟨b31, e43⟩ | ⟨b31, e43⟩
                · replace e43 := some_eq e43
                  subst e43
                  exact AW.dA ⟨[(5, (vp 2 0)), (6, (vc (.int .i64 (v4.Bones.length : Int)))), (7, (.v (.one (.lst 3 v6.1.length 1 (gl (csF .f32) v6.1))))), (9, (vp 5 0)), (11, (vc (.int .i64 x22))), (12, (.v (.one (.lst 20 v24.1.length 1 (gl (csI .i64) v24.1))))), (121, (vc (.bool true)))], [(1, (.lst v4.Bones.length 4 (gl cs_Bone v4.Bones))), (2, (.box [(.lst 1 v4.Bones.length 4 (gl cs_Bone v4.Bones))])), (3, (.lst v6.1.length 1 (gl (csF .f32) v6.1))), (4, (.lst v8.1.Turns.length 4 (gl cs_Turn v8.1.Turns))), (5, (.box [(.c (.flt .f32 v8.1.Root.X.bits)), (.c (.flt .f32 v8.1.Root.Y.bits)), (.c (.flt .f32 v8.1.Root.Z.bits)), (.lst 4 v8.1.Turns.length 4 (gl cs_Turn v8.1.Turns))])), (20, (.lst v24.1.length 1 (gl (csI .i64) v24.1)))]⟩ ((T2 ((Tt ∧ (!v24.2) = false) ∧ T4 ((Tt ∧ ((v24.1.length : Int) == (0 : Int)) = false) ∧ Tt ∧ (0 ≤ (0 : Int) ∧ (0 : Int) < (v24.1.length : Int)) ∧ Tt ∧ T2 ((Tt ∧ ((v24.1.getD ((0 : Int).toNat) default) != (0 : Int)) = false) ∧ T4 ((0 ≤ (IntKind.i64.wrap ((v24.1.length : Int) - (1 : Int))) ∧ (IntKind.i64.wrap ((v24.1.length : Int) - (1 : Int))) < (v24.1.length : Int)) ∧ T4 ((Tt ∧ ((v24.1.getD ((IntKind.i64.wrap ((v24.1.length : Int) - (1 : Int))).toNat) default) != x22) = true) ∧ T4 (T4 (T4 (T4 (T4 (T4 Tt))))))))))) ∧ (Tt)) 48 [.no, .no, .dec false, .no, .no, .no, .no, .dec false, .no, .no, .no, .no, .no, .dec false, .no, .no, .no, .no, .no, .no, .no, .no, .no, .dec true] [5, 6, 7, 9, 11, 12, 121] [1, 2, 3, 4, 5, 20] ⟨⟨tr, tr, ⟨tr, b26⟩, tr, tr, tr, tr, ⟨tr, b27⟩, tr, c28, tr, tr, tr, ⟨tr, b29⟩, tr, tr, tr, tr, c30, tr, tr, tr, tr, ⟨tr, b31⟩, tr, tr, tr, tr, tr, tr, tr, tr, tr, tr, tr, tr, tr, tr, tr, tr, tr, tr, tr, tr, tr, tr, tr, tr, tr⟩, tr⟩ ⟨rfl, rfl⟩
                · obtain ⟨c32, e43⟩ := chk_some e43
                  obtain ⟨v33, e34, e43⟩ := bind_some e43
                  rcases ite2_cases e43 with ⟨b35, e43⟩ | ⟨b35, e43⟩
                  · replace e43 := some_eq e43
                    subst e43
                    exact AW.dA ⟨[(5, (vp 2 0)), (6, (vc (.int .i64 (v4.Bones.length : Int)))), (7, (.v (.one (.lst 3 v6.1.length 1 (gl (csF .f32) v6.1))))), (9, (vp 5 0)), (11, (vc (.int .i64 x22))), (12, (.v (.one (.lst 20 v24.1.length 1 (gl (csI .i64) v24.1))))), (121, (vc (.bool true)))], [(1, (.lst v4.Bones.length 4 (gl cs_Bone v4.Bones))), (2, (.box [(.lst 1 v4.Bones.length 4 (gl cs_Bone v4.Bones))])), (3, (.lst v6.1.length 1 (gl (csF .f32) v6.1))), (4, (.lst v8.1.Turns.length 4 (gl cs_Turn v8.1.Turns))), (5, (.box [(.c (.flt .f32 v8.1.Root.X.bits)), (.c (.flt .f32 v8.1.Root.Y.bits)), (.c (.flt .f32 v8.1.Root.Z.bits)), (.lst 4 v8.1.Turns.length 4 (gl cs_Turn v8.1.Turns))])), (20, (.lst v24.1.length 1 (gl (csI .i64) v24.1)))]⟩ ((T2 ((Tt ∧ (!v24.2) = false) ∧ T4 ((Tt ∧ ((v24.1.length : Int) == (0 : Int)) = false) ∧ Tt ∧ (0 ≤ (0 : Int) ∧ (0 : Int) < (v24.1.length : Int)) ∧ Tt ∧ T2 ((Tt ∧ ((v24.1.getD ((0 : Int).toNat) default) != (0 : Int)) = false) ∧ T4 ((0 ≤ (IntKind.i64.wrap ((v24.1.length : Int) - (1 : Int))) ∧ (IntKind.i64.wrap ((v24.1.length : Int) - (1 : Int))) < (v24.1.length : Int)) ∧ T4 ((Tt ∧ ((v24.1.getD ((IntKind.i64.wrap ((v24.1.length : Int) - (1 : Int))).toNat) default) != x22) = false) ∧ Tt ∧ T2 ((0 ≤ x22 ∧ x22 < (v8.1.Turns.length : Int)) ∧ T2 (((((Eqc (.flt .f32 ((v8.1.Turns.getD x22.toNat default).W).bits)) ∧ (Eqc (.flt .f32 ((v8.1.Turns.getD x22.toNat default).X).bits)) ∧ (Eqc (.flt .f32 ((v8.1.Turns.getD x22.toNat default).Y).bits)) ∧ (Eqc (.flt .f32 ((v8.1.Turns.getD x22.toNat default).Z).bits)) ∧ Tt) ∧ ((Eqc (.flt .f32 (Fl.mk (k := .f32) 1065353216 (by decide)).bits)) ∧ (Eqc (.flt .f32 (default : F32).bits)) ∧ (Eqc (.flt .f32 (default : F32).bits)) ∧ (Eqc (.flt .f32 (default : F32).bits)) ∧ Tt) ∧ Tt) ∧ CallOK Try.prog 11 [.agg (cs_Turn (v8.1.Turns.getD x22.toNat default)), .agg (cs_Turn (Turn.mk (Fl.mk (k := .f32) 1065353216 (by decide)) (default : F32) (default : F32) (default : F32)))] [.one (.bool v33)]) ∧ T2 ((Tt ∧ (!v33) = true) ∧ T2 (T4 (T4 (T4 Tt)))))))))))) ∧ (Tt)) 48 [.no, .no, .dec false, .no, .no, .no, .no, .dec false, .no, .no, .no, .no, .no, .dec false, .no, .no, .no, .no, .no, .no, .no, .no, .no, .dec false, .no, .no, .no, .no, .no, .no, .call [.agg (cs_Turn (v8.1.Turns.getD x22.toNat default)), .agg (cs_Turn (Turn.mk (Fl.mk (k := .f32) 1065353216 (by decide)) (default : F32) (default : F32) (default : F32)))] [.one (.bool v33)] [[.view]], .no, .no, .dec true] [5, 6, 7, 9, 11, 12, 121] [1, 2, 3, 4, 5, 20] ⟨⟨tr, tr, ⟨tr, b26⟩, tr, tr, tr, tr, ⟨tr, b27⟩, tr, c28, tr, tr, tr, ⟨tr, b29⟩, tr, tr, tr, tr, c30, tr, tr, tr, tr, ⟨tr, b31⟩, tr, tr, tr, c32, tr, tr, ⟨⟨⟨rfl, rfl, rfl, rfl, tr⟩, ⟨rfl, rfl, rfl, rfl, tr⟩, tr⟩, ok_laws_b10TEqual K (v8.1.Turns.getD x22.toNat default) (Turn.mk (Fl.mk (k := .f32) 1065353216 (by decide)) (default : F32) (default : F32) (default : F32)) v33 e34⟩, tr, tr, ⟨tr, b35⟩, tr, tr, tr, tr, tr, tr, tr, tr, tr, tr, tr, tr, tr, tr, tr⟩, tr⟩ ⟨rfl, rfl⟩
                  · obtain ⟨c36, e43⟩ := chk_some e43
                    obtain ⟨c37, e43⟩ := chk_some e43
                    obtain ⟨v38, e39, e43⟩ := bind_some e43
                    obtain ⟨v40, e41, e43⟩ := bind_some e43
                    replace e43 := some_eq e43
                    subst e43
                    exact AW.dA ⟨[(5, (vp 2 0)), (6, (vc (.int .i64 (v4.Bones.length : Int)))), (7, (.v (.one (.lst 3 v6.1.length 1 (gl (csF .f32) v6.1))))), (9, (vp 5 0)), (11, (vc (.int .i64 x22))), (12, (.v (.one (.lst 20 v24.1.length 1 (gl (csI .i64) v24.1))))), (121, (vc (.bool (!v40))))], [(1, (.lst v4.Bones.length 4 (gl cs_Bone v4.Bones))), (2, (.box [(.lst 1 v4.Bones.length 4 (gl cs_Bone v4.Bones))])), (3, (.lst v6.1.length 1 (gl (csF .f32) v6.1))), (4, (.lst v8.1.Turns.length 4 (gl cs_Turn v8.1.Turns))), (5, (.box [(.c (.flt .f32 v8.1.Root.X.bits)), (.c (.flt .f32 v8.1.Root.Y.bits)), (.c (.flt .f32 v8.1.Root.Z.bits)), (.lst 4 v8.1.Turns.length 4 (gl cs_Turn v8.1.Turns))])), (20, (.lst v24.1.length 1 (gl (csI .i64) v24.1)))]⟩ ((T2 ((Tt ∧ (!v24.2) = false) ∧ T4 ((Tt ∧ ((v24.1.length : Int) == (0 : Int)) = false) ∧ Tt ∧ (0 ≤ (0 : Int) ∧ (0 : Int) < (v24.1.length : Int)) ∧ Tt ∧ T2 ((Tt ∧ ((v24.1.getD ((0 : Int).toNat) default) != (0 : Int)) = false) ∧ T4 ((0 ≤ (IntKind.i64.wrap ((v24.1.length : Int) - (1 : Int))) ∧ (IntKind.i64.wrap ((v24.1.length : Int) - (1 : Int))) < (v24.1.length : Int)) ∧ T4 ((Tt ∧ ((v24.1.getD ((IntKind.i64.wrap ((v24.1.length : Int) - (1 : Int))).toNat) default) != x22) = false) ∧ Tt ∧ T2 ((0 ≤ x22 ∧ x22 < (v8.1.Turns.length : Int)) ∧ T2 (((((Eqc (.flt .f32 ((v8.1.Turns.getD x22.toNat default).W).bits)) ∧ (Eqc (.flt .f32 ((v8.1.Turns.getD x22.toNat default).X).bits)) ∧ (Eqc (.flt .f32 ((v8.1.Turns.getD x22.toNat default).Y).bits)) ∧ (Eqc (.flt .f32 ((v8.1.Turns.getD x22.toNat default).Z).bits)) ∧ Tt) ∧ ((Eqc (.flt .f32 (Fl.mk (k := .f32) 1065353216 (by decide)).bits)) ∧ (Eqc (.flt .f32 (default : F32).bits)) ∧ (Eqc (.flt .f32 (default : F32).bits)) ∧ (Eqc (.flt .f32 (default : F32).bits)) ∧ Tt) ∧ Tt) ∧ CallOK Try.prog 11 [.agg (cs_Turn (v8.1.Turns.getD x22.toNat default)), .agg (cs_Turn (Turn.mk (Fl.mk (k := .f32) 1065353216 (by decide)) (default : F32) (default : F32) (default : F32)))] [.one (.bool v33)]) ∧ T2 ((Tt ∧ (!v33) = false) ∧ T2 ((0 ≤ x22 ∧ x22 < (v6.1.length : Int)) ∧ T4 ((0 ≤ x22 ∧ x22 < (v4.Bones.length : Int)) ∧ T2 (((((Eqc (.flt .f32 (((v4.Bones.getD x22.toNat default).Offset).X).bits)) ∧ (Eqc (.flt .f32 (((v4.Bones.getD x22.toNat default).Offset).Y).bits)) ∧ (Eqc (.flt .f32 (((v4.Bones.getD x22.toNat default).Offset).Z).bits)) ∧ Tt) ∧ Tt) ∧ CallOK Try.prog 13 [.agg (cs_Vector ((v4.Bones.getD x22.toNat default).Offset))] [.one (.flt .f32 v38.bits)]) ∧ (((Eqc (.flt .f32 (v6.1.getD x22.toNat default).bits)) ∧ (Eqc (.flt .f32 v38.bits)) ∧ Tt) ∧ CallOK Try.prog 12 [.one (.flt .f32 (v6.1.getD x22.toNat default).bits), .one (.flt .f32 v38.bits)] [.one (.bool v40)]) ∧ T2 Tt)))))))))))) ∧ (Tt)) 48 [.no, .no, .dec false, .no, .no, .no, .no, .dec false, .no, .no, .no, .no, .no, .dec false, .no, .no, .no, .no, .no, .no, .no, .no, .no, .dec false, .no, .no, .no, .no, .no, .no, .call [.agg (cs_Turn (v8.1.Turns.getD x22.toNat default)), .agg (cs_Turn (Turn.mk (Fl.mk (k := .f32) 1065353216 (by decide)) (default : F32) (default : F32) (default : F32)))] [.one (.bool v33)] [[.view]], .no, .no, .dec false, .no, .no, .no, .no, .no, .no, .no, .no, .no, .no, .call [.agg (cs_Vector ((v4.Bones.getD x22.toNat default).Offset))] [.one (.flt .f32 v38.bits)] [[.view]], .call [.one (.flt .f32 (v6.1.getD x22.toNat default).bits), .one (.flt .f32 v38.bits)] [.one (.bool v40)] [[.view]]] [5, 6, 7, 9, 11, 12, 121] [1, 2, 3, 4, 5, 20] ⟨⟨tr, tr, ⟨tr, b26⟩, tr, tr, tr, tr, ⟨tr, b27⟩, tr, c28, tr, tr, tr, ⟨tr, b29⟩, tr, tr, tr, tr, c30, tr, tr, tr, tr, ⟨tr, b31⟩, tr, tr, tr, c32, tr, tr, ⟨⟨⟨rfl, rfl, rfl, rfl, tr⟩, ⟨rfl, rfl, rfl, rfl, tr⟩, tr⟩, ok_laws_b10TEqual K (v8.1.Turns.getD x22.toNat default) (Turn.mk (Fl.mk (k := .f32) 1065353216 (by decide)) (default : F32) (default : F32) (default : F32)) v33 e34⟩, tr, tr, ⟨tr, b35⟩, tr, tr, c36, tr, tr, tr, tr, c37, tr, tr, ⟨⟨⟨rfl, rfl, rfl, tr⟩, tr⟩, ok_spec_LongOf K ((v4.Bones.getD x22.toNat default).Offset) v38 e39⟩, ⟨⟨rfl, rfl, tr⟩, ok_spec_SameNumber K (v6.1.getD x22.toNat default) v38 v40 e41⟩, tr, tr, tr⟩, tr⟩ ⟨rfl, rfl⟩
        refine thenQ_normal ?_
        rcases ite2_cases h with ⟨b44, h⟩ | ⟨b44, h⟩
        · refine AW.cond_t rfl b44 ?_
          refine AW.seq (AW.rA ⟨[(4, (vc (.bool false)))], []⟩ (Tt ∧ Tt) [] [4] [] ⟨tr, tr⟩ (thenQ_normal ?_))
          refine AW.ret ?_
          refine thenQ_ret ?_
          refine blockQ_ret ?_
          refine thenQ_ret ?_
          refine loopQ_ret ?_
          refine blockQ_ret ?_
          refine thenQ_ret ?_
          replace h := some_eq h
          subst h
          exact ⟨.inr rfl, retOK_of [(.one (.c (.bool false)))] (by kernel_rfl) ⟨⟨rfl, tr⟩, tr⟩ (of_decide_eq_true (by kernel_rfl))⟩
        · refine AW.cond_f rfl b44 ?_
          refine AW.skip ?_
          refine thenQ_normal ?_
          refine AW.seq ?_
          refine AW.seq (AW.rA ⟨[(5, (vp 2 0)), (6, (vc (.int .i64 (v4.Bones.length : Int)))), (7, (.v (.one (.lst 3 v6.1.length 1 (gl (csF .f32) v6.1))))), (9, (vp 5 0)), (11, (vc (.int .i64 x22))), (12, (.v (.one (.lst 20 v24.1.length 1 (gl (csI .i64) v24.1))))), (14, (vc (.int .i64 (1 : Int))))], [(1, (.lst v4.Bones.length 4 (gl cs_Bone v4.Bones))), (2, (.box [(.lst 1 v4.Bones.length 4 (gl cs_Bone v4.Bones))])), (3, (.lst v6.1.length 1 (gl (csF .f32) v6.1))), (4, (.lst v8.1.Turns.length 4 (gl cs_Turn v8.1.Turns))), (5, (.box [(.c (.flt .f32 v8.1.Root.X.bits)), (.c (.flt .f32 v8.1.Root.Y.bits)), (.c (.flt .f32 v8.1.Root.Z.bits)), (.lst 4 v8.1.Turns.length 4 (gl cs_Turn v8.1.Turns))])), (20, (.lst v24.1.length 1 (gl (csI .i64) v24.1)))]⟩ (Tt ∧ Tt) [] [5, 6, 7, 9, 11, 12, 14] [1, 2, 3, 4, 5, 20] ⟨tr, tr⟩ (thenQ_normal ?_))
          obtain ⟨j57, e56, h⟩ := bind_some h
          refine AW.joinM (cx := ?cx) ((fun z0 => sumQ z0 (fun j58 => OnlyE ?cx .normal ⟨[(5, (vp 2 0)), (6, (vc (.int .i64 (v4.Bones.length : Int)))), (7, (.v (.one (.lst 3 v6.1.length 1 (gl (csF .f32) v6.1))))), (9, (vp 5 0)), (11, (vc (.int .i64 x22))), (12, (.v (.one (.lst 20 v24.1.length 1 (gl (csI .i64) v24.1)))))], [(1, (.lst v4.Bones.length 4 (gl cs_Bone v4.Bones))), (2, (.box [(.lst 1 v4.Bones.length 4 (gl cs_Bone v4.Bones))])), (3, (.lst v6.1.length 1 (gl (csF .f32) v6.1))), (4, (.lst v8.1.Turns.length 4 (gl cs_Turn v8.1.Turns))), (5, (.box [(.c (.flt .f32 v8.1.Root.X.bits)), (.c (.flt .f32 v8.1.Root.Y.bits)), (.c (.flt .f32 v8.1.Root.Z.bits)), (.lst 4 v8.1.Turns.length 4 (gl cs_Turn v8.1.Turns))])), (20, (.lst v24.1.length 1 (gl (csI .i64) v24.1)))]⟩) (fun j59 => OnlyE ?cx .ret ⟨[(4, (vc (.bool false)))], []⟩)) j57) ?_ ?_
          · replace h := e56
            refine AW.block ?_
            refine AW.loopQ (σ := Nat × Int) (fun p => ⟨[(5, (vp 2 0)), (6, (vc (.int .i64 (v4.Bones.length : Int)))), (7, (.v (.one (.lst 3 v6.1.length 1 (gl (csF .f32) v6.1))))), (9, (vp 5 0)), (11, (vc (.int .i64 x22))), (12, (.v (.one (.lst 20 v24.1.length 1 (gl (csI .i64) v24.1))))), (14, (vc (.int .i64 p.2)))], [(1, (.lst v4.Bones.length 4 (gl cs_Bone v4.Bones))), (2, (.box [(.lst 1 v4.Bones.length 4 (gl cs_Bone v4.Bones))])), (3, (.lst v6.1.length 1 (gl (csF .f32) v6.1))), (4, (.lst v8.1.Turns.length 4 (gl cs_Turn v8.1.Turns))), (5, (.box [(.c (.flt .f32 v8.1.Root.X.bits)), (.c (.flt .f32 v8.1.Root.Y.bits)), (.c (.flt .f32 v8.1.Root.Z.bits)), (.lst 4 v8.1.Turns.length 4 (gl cs_Turn v8.1.Turns))])), (20, (.lst v24.1.length 1 (gl (csI .i64) v24.1)))]⟩) (fun p => laws_FnChains_l18 K v4 v24 p.1 p.2 = some j57) (fun p => p.1) (K, (1 : Int)) h ?_
            clear h
            rintro ⟨k, x61⟩ h
            replace h : laws_FnChains_l18 K v4 v24 k x61 = some j57 := h
            show AW _ _ (⟨[(5, (vp 2 0)), (6, (vc (.int .i64 (v4.Bones.length : Int)))), (7, (.v (.one (.lst 3 v6.1.length 1 (gl (csF .f32) v6.1))))), (9, (vp 5 0)), (11, (vc (.int .i64 x22))), (12, (.v (.one (.lst 20 v24.1.length 1 (gl (csI .i64) v24.1))))), (14, (vc (.int .i64 x61)))], [(1, (.lst v4.Bones.length 4 (gl cs_Bone v4.Bones))), (2, (.box [(.lst 1 v4.Bones.length 4 (gl cs_Bone v4.Bones))])), (3, (.lst v6.1.length 1 (gl (csF .f32) v6.1))), (4, (.lst v8.1.Turns.length 4 (gl cs_Turn v8.1.Turns))), (5, (.box [(.c (.flt .f32 v8.1.Root.X.bits)), (.c (.flt .f32 v8.1.Root.Y.bits)), (.c (.flt .f32 v8.1.Root.Z.bits)), (.lst 4 v8.1.Turns.length 4 (gl cs_Turn v8.1.Turns))])), (20, (.lst v24.1.length 1 (gl (csI .i64) v24.1)))]⟩ : St) _
            obtain _ | k := k
            · rw [laws_FnChains_l18] at h; cases h
            rw [laws_FnChains_l18] at h
            refine AW.seq ?_
            refine AW.seq (AW.rA ⟨[(5, (vp 2 0)), (6, (vc (.int .i64 (v4.Bones.length : Int)))), (7, (.v (.one (.lst 3 v6.1.length 1 (gl (csF .f32) v6.1))))), (9, (vp 5 0)), (11, (vc (.int .i64 x22))), (12, (.v (.one (.lst 20 v24.1.length 1 (gl (csI .i64) v24.1))))), (14, (vc (.int .i64 x61))), (125, (vc (.bool (decide (x61 < (v24.1.length : Int))))))], [(1, (.lst v4.Bones.length 4 (gl cs_Bone v4.Bones))), (2, (.box [(.lst 1 v4.Bones.length 4 (gl cs_Bone v4.Bones))])), (3, (.lst v6.1.length 1 (gl (csF .f32) v6.1))), (4, (.lst v8.1.Turns.length 4 (gl cs_Turn v8.1.Turns))), (5, (.box [(.c (.flt .f32 v8.1.Root.X.bits)), (.c (.flt .f32 v8.1.Root.Y.bits)), (.c (.flt .f32 v8.1.Root.Z.bits)), (.lst 4 v8.1.Turns.length 4 (gl cs_Turn v8.1.Turns))])), (20, (.lst v24.1.length 1 (gl (csI .i64) v24.1)))]⟩ (T4 Tt) [] [5, 6, 7, 9, 11, 12, 14, 125] [1, 2, 3, 4, 5, 20] ⟨tr, tr, tr, tr, tr⟩ (thenQ_normal ?_))
            rcases ite2_cases h with ⟨b62, h⟩ | ⟨b62, h⟩
            · refine AW.cond_t rfl b62 ?_
              refine AW.skip ?_
              refine thenQ_normal ?_
              refine AW.seq ?_
              refine AW.block ?_
              refine AW.seq ?_
              obtain ⟨c63, h⟩ := chk_some h
              obtain ⟨j68, e69, h⟩ := bind_some h
              refine AW.join1 (s2 := ⟨[(5, (vp 2 0)), (6, (vc (.int .i64 (v4.Bones.length : Int)))), (7, (.v (.one (.lst 3 v6.1.length 1 (gl (csF .f32) v6.1))))), (9, (vp 5 0)), (11, (vc (.int .i64 x22))), (12, (.v (.one (.lst 20 v24.1.length 1 (gl (csI .i64) v24.1))))), (14, (vc (.int .i64 x61))), (157, (vc (.bool j68)))], [(1, (.lst v4.Bones.length 4 (gl cs_Bone v4.Bones))), (2, (.box [(.lst 1 v4.Bones.length 4 (gl cs_Bone v4.Bones))])), (3, (.lst v6.1.length 1 (gl (csF .f32) v6.1))), (4, (.lst v8.1.Turns.length 4 (gl cs_Turn v8.1.Turns))), (5, (.box [(.c (.flt .f32 v8.1.Root.X.bits)), (.c (.flt .f32 v8.1.Root.Y.bits)), (.c (.flt .f32 v8.1.Root.Z.bits)), (.lst 4 v8.1.Turns.length 4 (gl cs_Turn v8.1.Turns))])), (20, (.lst v24.1.length 1 (gl (csI .i64) v24.1)))]⟩) ?_ ?_
              · rcases ite2_cases e69 with ⟨b64, e69⟩ | ⟨b64, e69⟩
                · replace e69 := some_eq e69
                  subst e69
                  exact AW.dA ⟨[(5, (vp 2 0)), (6, (vc (.int .i64 (v4.Bones.length : Int)))), (7, (.v (.one (.lst 3 v6.1.length 1 (gl (csF .f32) v6.1))))), (9, (vp 5 0)), (11, (vc (.int .i64 x22))), (12, (.v (.one (.lst 20 v24.1.length 1 (gl (csI .i64) v24.1))))), (14, (vc (.int .i64 x61))), (157, (vc (.bool true)))], [(1, (.lst v4.Bones.length 4 (gl cs_Bone v4.Bones))), (2, (.box [(.lst 1 v4.Bones.length 4 (gl cs_Bone v4.Bones))])), (3, (.lst v6.1.length 1 (gl (csF .f32) v6.1))), (4, (.lst v8.1.Turns.length 4 (gl cs_Turn v8.1.Turns))), (5, (.box [(.c (.flt .f32 v8.1.Root.X.bits)), (.c (.flt .f32 v8.1.Root.Y.bits)), (.c (.flt .f32 v8.1.Root.Z.bits)), (.lst 4 v8.1.Turns.length 4 (gl cs_Turn v8.1.Turns))])), (20, (.lst v24.1.length 1 (gl (csI .i64) v24.1)))]⟩ ((T2 ((0 ≤ x61 ∧ x61 < (v24.1.length : Int)) ∧ T2 ((Tt ∧ (decide ((v24.1.getD x61.toNat default) < (0 : Int))) = true) ∧ T4 (T4 (T4 (T4 (T4 (T4 Tt)))))))) ∧ (Tt)) 30 [.no, .no, .no, .no, .no, .dec true] [5, 6, 7, 9, 11, 12, 14, 157] [1, 2, 3, 4, 5, 20] ⟨⟨tr, tr, c63, tr, tr, ⟨tr, b64⟩, tr, tr, tr, tr, tr, tr, tr, tr, tr, tr, tr, tr, tr, tr, tr, tr, tr, tr, tr, tr, tr, tr, tr, tr, tr⟩, tr⟩ ⟨rfl, rfl⟩
                · rcases ite2_cases e69 with ⟨b65, e69⟩ | ⟨b65, e69⟩
                  · replace e69 := some_eq e69
                    subst e69
                    exact AW.dA ⟨[(5, (vp 2 0)), (6, (vc (.int .i64 (v4.Bones.length : Int)))), (7, (.v (.one (.lst 3 v6.1.length 1 (gl (csF .f32) v6.1))))), (9, (vp 5 0)), (11, (vc (.int .i64 x22))), (12, (.v (.one (.lst 20 v24.1.length 1 (gl (csI .i64) v24.1))))), (14, (vc (.int .i64 x61))), (157, (vc (.bool true)))], [(1, (.lst v4.Bones.length 4 (gl cs_Bone v4.Bones))), (2, (.box [(.lst 1 v4.Bones.length 4 (gl cs_Bone v4.Bones))])), (3, (.lst v6.1.length 1 (gl (csF .f32) v6.1))), (4, (.lst v8.1.Turns.length 4 (gl cs_Turn v8.1.Turns))), (5, (.box [(.c (.flt .f32 v8.1.Root.X.bits)), (.c (.flt .f32 v8.1.Root.Y.bits)), (.c (.flt .f32 v8.1.Root.Z.bits)), (.lst 4 v8.1.Turns.length 4 (gl cs_Turn v8.1.Turns))])), (20, (.lst v24.1.length 1 (gl (csI .i64) v24.1)))]⟩ ((T2 ((0 ≤ x61 ∧ x61 < (v24.1.length : Int)) ∧ T2 ((Tt ∧ (decide ((v24.1.getD x61.toNat default) < (0 : Int))) = false) ∧ T2 ((0 ≤ x61 ∧ x61 < (v24.1.length : Int)) ∧ T4 ((Tt ∧ (decide ((v24.1.getD x61.toNat default) ≥ (v4.Bones.length : Int))) = true) ∧ T4 (T4 (T4 (T4 Tt)))))))) ∧ (Tt)) 30 [.no, .no, .no, .no, .no, .dec false, .no, .no, .no, .no, .no, .no, .no, .dec true] [5, 6, 7, 9, 11, 12, 14, 157] [1, 2, 3, 4, 5, 20] ⟨⟨tr, tr, c63, tr, tr, ⟨tr, b64⟩, tr, tr, c63, tr, tr, tr, tr, ⟨tr, b65⟩, tr, tr, tr, tr, tr, tr, tr, tr, tr, tr, tr, tr, tr, tr, tr, tr, tr⟩, tr⟩ ⟨rfl, rfl⟩
                  · obtain ⟨c66, e69⟩ := chk_some e69
                    obtain ⟨c67, e69⟩ := chk_some e69
                    replace e69 := some_eq e69
                    subst e69
                    exact AW.dA ⟨[(5, (vp 2 0)), (6, (vc (.int .i64 (v4.Bones.length : Int)))), (7, (.v (.one (.lst 3 v6.1.length 1 (gl (csF .f32) v6.1))))), (9, (vp 5 0)), (11, (vc (.int .i64 x22))), (12, (.v (.one (.lst 20 v24.1.length 1 (gl (csI .i64) v24.1))))), (14, (vc (.int .i64 x61))), (157, (vc (.bool (((v4.Bones.getD ((v24.1.getD x61.toNat default).toNat) default).Parent) != (v24.1.getD ((IntKind.i64.wrap (x61 - (1 : Int))).toNat) default)))))], [(1, (.lst v4.Bones.length 4 (gl cs_Bone v4.Bones))), (2, (.box [(.lst 1 v4.Bones.length 4 (gl cs_Bone v4.Bones))])), (3, (.lst v6.1.length 1 (gl (csF .f32) v6.1))), (4, (.lst v8.1.Turns.length 4 (gl cs_Turn v8.1.Turns))), (5, (.box [(.c (.flt .f32 v8.1.Root.X.bits)), (.c (.flt .f32 v8.1.Root.Y.bits)), (.c (.flt .f32 v8.1.Root.Z.bits)), (.lst 4 v8.1.Turns.length 4 (gl cs_Turn v8.1.Turns))])), (20, (.lst v24.1.length 1 (gl (csI .i64) v24.1)))]⟩ ((T2 ((0 ≤ x61 ∧ x61 < (v24.1.length : Int)) ∧ T2 ((Tt ∧ (decide ((v24.1.getD x61.toNat default) < (0 : Int))) = false) ∧ T2 ((0 ≤ x61 ∧ x61 < (v24.1.length : Int)) ∧ T4 ((Tt ∧ (decide ((v24.1.getD x61.toNat default) ≥ (v4.Bones.length : Int))) = false) ∧ T4 ((0 ≤ x61 ∧ x61 < (v24.1.length : Int)) ∧ Tt ∧ (0 ≤ (v24.1.getD x61.toNat default) ∧ (v24.1.getD x61.toNat default) < (v4.Bones.length : Int)) ∧ Tt ∧ T4 ((0 ≤ (IntKind.i64.wrap (x61 - (1 : Int))) ∧ (IntKind.i64.wrap (x61 - (1 : Int))) < (v24.1.length : Int)) ∧ Tt ∧ T2 Tt))))))) ∧ (Tt)) 30 [.no, .no, .no, .no, .no, .dec false, .no, .no, .no, .no, .no, .no, .no, .dec false] [5, 6, 7, 9, 11, 12, 14, 157] [1, 2, 3, 4, 5, 20] ⟨⟨tr, tr, c63, tr, tr, ⟨tr, b64⟩, tr, tr, c63, tr, tr, tr, tr, ⟨tr, b65⟩, tr, tr, tr, tr, c63, tr, c66, tr, tr, tr, tr, tr, c67, tr, tr, tr, tr⟩, tr⟩ ⟨rfl, rfl⟩
              refine thenQ_normal ?_
              rcases ite2_cases h with ⟨b70, h⟩ | ⟨b70, h⟩
              · refine AW.cond_t rfl b70 ?_
                refine AW.seq (AW.rA ⟨[(4, (vc (.bool false)))], []⟩ (Tt ∧ Tt) [] [4] [] ⟨tr, tr⟩ (thenQ_normal ?_))
                refine AW.ret ?_
                refine blockQ_ret ?_
                refine thenQ_ret ?_
                refine loopQ_ret ?_
                refine blockQ_ret ?_
                replace h := some_eq h
                subst h
                exact ⟨rfl, Sub.keep [4] [] (by kernel_rfl) (by kernel_rfl)⟩
              · refine AW.cond_f rfl b70 ?_
                refine AW.skip ?_
                refine blockQ_normal ?_
                refine thenQ_normal ?_
                refine AW.rA ⟨[(5, (vp 2 0)), (6, (vc (.int .i64 (v4.Bones.length : Int)))), (7, (.v (.one (.lst 3 v6.1.length 1 (gl (csF .f32) v6.1))))), (9, (vp 5 0)), (11, (vc (.int .i64 x22))), (12, (.v (.one (.lst 20 v24.1.length 1 (gl (csI .i64) v24.1))))), (14, (vc (.int .i64 (IntKind.i64.wrap (x61 + (1 : Int))))))], [(1, (.lst v4.Bones.length 4 (gl cs_Bone v4.Bones))), (2, (.box [(.lst 1 v4.Bones.length 4 (gl cs_Bone v4.Bones))])), (3, (.lst v6.1.length 1 (gl (csF .f32) v6.1))), (4, (.lst v8.1.Turns.length 4 (gl cs_Turn v8.1.Turns))), (5, (.box [(.c (.flt .f32 v8.1.Root.X.bits)), (.c (.flt .f32 v8.1.Root.Y.bits)), (.c (.flt .f32 v8.1.Root.Z.bits)), (.lst 4 v8.1.Turns.length 4 (gl cs_Turn v8.1.Turns))])), (20, (.lst v24.1.length 1 (gl (csI .i64) v24.1)))]⟩ (Tt ∧ T2 Tt) [] [5, 6, 7, 9, 11, 12, 14] [1, 2, 3, 4, 5, 20] ⟨tr, tr, tr, tr⟩ ?_
                exact loopQ_normal (k, (IntKind.i64.wrap (x61 + (1 : Int)))) h (Nat.lt_succ_self k) (Sub.keep [5, 6, 7, 9, 11, 12, 14] [1, 2, 3, 4, 5, 20] (by kernel_rfl) (by kernel_rfl))
            · refine AW.cond_f rfl b62 ?_
              refine AW.exit ?_
              refine thenQ_exit ?_
              refine loopQ_exit ?_
              refine blockQ_exit ?_
              replace h := some_eq h
              subst h
              exact ⟨rfl, Sub.keep [5, 6, 7, 9, 11, 12] [1, 2, 3, 4, 5, 20] (by kernel_rfl) (by kernel_rfl)⟩
          clear e56
          intro ex1 st1 hq
          obtain j58 | j59 := j57
          · replace h := sumC_inl h
            obtain ⟨he, hs⟩ := hq
            subst he
            refine ⟨⟨[(5, (vp 2 0)), (6, (vc (.int .i64 (v4.Bones.length : Int)))), (7, (.v (.one (.lst 3 v6.1.length 1 (gl (csF .f32) v6.1))))), (9, (vp 5 0)), (11, (vc (.int .i64 x22))), (12, (.v (.one (.lst 20 v24.1.length 1 (gl (csI .i64) v24.1)))))], [(1, (.lst v4.Bones.length 4 (gl cs_Bone v4.Bones))), (2, (.box [(.lst 1 v4.Bones.length 4 (gl cs_Bone v4.Bones))])), (3, (.lst v6.1.length 1 (gl (csF .f32) v6.1))), (4, (.lst v8.1.Turns.length 4 (gl cs_Turn v8.1.Turns))), (5, (.box [(.c (.flt .f32 v8.1.Root.X.bits)), (.c (.flt .f32 v8.1.Root.Y.bits)), (.c (.flt .f32 v8.1.Root.Z.bits)), (.lst 4 v8.1.Turns.length 4 (gl cs_Turn v8.1.Turns))])), (20, (.lst v24.1.length 1 (gl (csI .i64) v24.1)))]⟩, hs, ?_⟩
            clear hs st1
            refine thenQ_normal ?_
            refine AW.seq (AW.rA ⟨[(5, (vp 2 0)), (6, (vc (.int .i64 (v4.Bones.length : Int)))), (7, (.v (.one (.lst 3 v6.1.length 1 (gl (csF .f32) v6.1))))), (9, (vp 5 0)), (11, (vc (.int .i64 x22))), (12, (.v (.one (.lst 20 v24.1.length 1 (gl (csI .i64) v24.1))))), (15, (vc (.int .i64 (0 : Int))))], [(1, (.lst v4.Bones.length 4 (gl cs_Bone v4.Bones))), (2, (.box [(.lst 1 v4.Bones.length 4 (gl cs_Bone v4.Bones))])), (3, (.lst v6.1.length 1 (gl (csF .f32) v6.1))), (4, (.lst v8.1.Turns.length 4 (gl cs_Turn v8.1.Turns))), (5, (.box [(.c (.flt .f32 v8.1.Root.X.bits)), (.c (.flt .f32 v8.1.Root.Y.bits)), (.c (.flt .f32 v8.1.Root.Z.bits)), (.lst 4 v8.1.Turns.length 4 (gl cs_Turn v8.1.Turns))])), (20, (.lst v24.1.length 1 (gl (csI .i64) v24.1)))]⟩ (Tt ∧ Tt) [] [5, 6, 7, 9, 11, 12, 15] [1, 2, 3, 4, 5, 20] ⟨tr, tr⟩ (thenQ_normal ?_))
            obtain ⟨j119, e118, h⟩ := bind_some h
            refine AW.joinM (cx := ?cx) ((fun z0 => sumQ z0 (fun j120 => OnlyE ?cx .normal ⟨[(5, (vp 2 0)), (6, (vc (.int .i64 (v4.Bones.length : Int)))), (7, (.v (.one (.lst 3 v6.1.length 1 (gl (csF .f32) v6.1))))), (9, (vp 5 0)), (11, (vc (.int .i64 x22)))], [(1, (.lst v4.Bones.length 4 (gl cs_Bone v4.Bones))), (2, (.box [(.lst 1 v4.Bones.length 4 (gl cs_Bone v4.Bones))])), (3, (.lst v6.1.length 1 (gl (csF .f32) v6.1))), (4, (.lst v8.1.Turns.length 4 (gl cs_Turn v8.1.Turns))), (5, (.box [(.c (.flt .f32 v8.1.Root.X.bits)), (.c (.flt .f32 v8.1.Root.Y.bits)), (.c (.flt .f32 v8.1.Root.Z.bits)), (.lst 4 v8.1.Turns.length 4 (gl cs_Turn v8.1.Turns))]))]⟩) (fun j121 => OnlyE ?cx .ret ⟨[(4, (vc (.bool false)))], []⟩)) j119) ?_ ?_
            · replace h := e118
              refine AW.block ?_
              refine AW.loopQ (σ := Nat × Int) (fun p => ⟨[(5, (vp 2 0)), (6, (vc (.int .i64 (v4.Bones.length : Int)))), (7, (.v (.one (.lst 3 v6.1.length 1 (gl (csF .f32) v6.1))))), (9, (vp 5 0)), (11, (vc (.int .i64 x22))), (12, (.v (.one (.lst 20 v24.1.length 1 (gl (csI .i64) v24.1))))), (15, (vc (.int .i64 p.2)))], [(1, (.lst v4.Bones.length 4 (gl cs_Bone v4.Bones))), (2, (.box [(.lst 1 v4.Bones.length 4 (gl cs_Bone v4.Bones))])), (3, (.lst v6.1.length 1 (gl (csF .f32) v6.1))), (4, (.lst v8.1.Turns.length 4 (gl cs_Turn v8.1.Turns))), (5, (.box [(.c (.flt .f32 v8.1.Root.X.bits)), (.c (.flt .f32 v8.1.Root.Y.bits)), (.c (.flt .f32 v8.1.Root.Z.bits)), (.lst 4 v8.1.Turns.length 4 (gl cs_Turn v8.1.Turns))])), (20, (.lst v24.1.length 1 (gl (csI .i64) v24.1)))]⟩) (fun p => laws_FnChains_l23 K v4 x22 v24 p.1 p.2 = some j119) (fun p => p.1) (K, (0 : Int)) h ?_
              clear h
              rintro ⟨k, x123⟩ h
              replace h : laws_FnChains_l23 K v4 x22 v24 k x123 = some j119 := h
              show AW _ _ (⟨[(5, (vp 2 0)), (6, (vc (.int .i64 (v4.Bones.length : Int)))), (7, (.v (.one (.lst 3 v6.1.length 1 (gl (csF .f32) v6.1))))), (9, (vp 5 0)), (11, (vc (.int .i64 x22))), (12, (.v (.one (.lst 20 v24.1.length 1 (gl (csI .i64) v24.1))))), (15, (vc (.int .i64 x123)))], [(1, (.lst v4.Bones.length 4 (gl cs_Bone v4.Bones))), (2, (.box [(.lst 1 v4.Bones.length 4 (gl cs_Bone v4.Bones))])), (3, (.lst v6.1.length 1 (gl (csF .f32) v6.1))), (4, (.lst v8.1.Turns.length 4 (gl cs_Turn v8.1.Turns))), (5, (.box [(.c (.flt .f32 v8.1.Root.X.bits)), (.c (.flt .f32 v8.1.Root.Y.bits)), (.c (.flt .f32 v8.1.Root.Z.bits)), (.lst 4 v8.1.Turns.length 4 (gl cs_Turn v8.1.Turns))])), (20, (.lst v24.1.length 1 (gl (csI .i64) v24.1)))]⟩ : St) _
              obtain _ | k := k
              · rw [laws_FnChains_l23] at h; cases h
              rw [laws_FnChains_l23] at h
              refine AW.seq ?_
              refine AW.seq (AW.rA ⟨[(5, (vp 2 0)), (6, (vc (.int .i64 (v4.Bones.length : Int)))), (7, (.v (.one (.lst 3 v6.1.length 1 (gl (csF .f32) v6.1))))), (9, (vp 5 0)), (11, (vc (.int .i64 x22))), (12, (.v (.one (.lst 20 v24.1.length 1 (gl (csI .i64) v24.1))))), (15, (vc (.int .i64 x123))), (160, (vc (.bool (decide (x123 < (v4.Bones.length : Int))))))], [(1, (.lst v4.Bones.length 4 (gl cs_Bone v4.Bones))), (2, (.box [(.lst 1 v4.Bones.length 4 (gl cs_Bone v4.Bones))])), (3, (.lst v6.1.length 1 (gl (csF .f32) v6.1))), (4, (.lst v8.1.Turns.length 4 (gl cs_Turn v8.1.Turns))), (5, (.box [(.c (.flt .f32 v8.1.Root.X.bits)), (.c (.flt .f32 v8.1.Root.Y.bits)), (.c (.flt .f32 v8.1.Root.Z.bits)), (.lst 4 v8.1.Turns.length 4 (gl cs_Turn v8.1.Turns))])), (20, (.lst v24.1.length 1 (gl (csI .i64) v24.1)))]⟩ (Tt ∧ T2 Tt) [] [5, 6, 7, 9, 11, 12, 15, 160] [1, 2, 3, 4, 5, 20] ⟨tr, tr, tr, tr⟩ (thenQ_normal ?_))
              rcases ite2_cases h with ⟨b124, h⟩ | ⟨b124, h⟩
              · refine AW.cond_t rfl b124 ?_
                refine AW.skip ?_
                refine thenQ_normal ?_
                refine AW.seq ?_
                refine AW.block ?_
                refine AW.seq ?_
                obtain ⟨v125, e126, h⟩ := bind_some h
                refine AW.rA ⟨[(5, (vp 2 0)), (6, (vc (.int .i64 (v4.Bones.length : Int)))), (7, (.v (.one (.lst 3 v6.1.length 1 (gl (csF .f32) v6.1))))), (9, (vp 5 0)), (11, (vc (.int .i64 x22))), (12, (.v (.one (.lst 20 v24.1.length 1 (gl (csI .i64) v24.1))))), (15, (vc (.int .i64 x123))), (16, (.v (.one (.lst 26 v125.1.length 1 (gl (csI .i64) v125.1))))), (17, (vc (.bool v125.2)))], [(1, (.lst v4.Bones.length 4 (gl cs_Bone v4.Bones))), (2, (.box [(.lst 1 v4.Bones.length 4 (gl cs_Bone v4.Bones))])), (3, (.lst v6.1.length 1 (gl (csF .f32) v6.1))), (4, (.lst v8.1.Turns.length 4 (gl cs_Turn v8.1.Turns))), (5, (.box [(.c (.flt .f32 v8.1.Root.X.bits)), (.c (.flt .f32 v8.1.Root.Y.bits)), (.c (.flt .f32 v8.1.Root.Z.bits)), (.lst 4 v8.1.Turns.length 4 (gl cs_Turn v8.1.Turns))])), (20, (.lst v24.1.length 1 (gl (csI .i64) v24.1))), (26, (.lst v125.1.length 1 (gl (csI .i64) v125.1)))]⟩ (T2 (((((Eqc (sl 4 cs_Bone v4.Bones)) ∧ Tt) ∧ (Eqc (.int .i64 x123)) ∧ Tt) ∧ CallOK Try.prog 14 [.agg (cs_Skeleton v4), .one (.int .i64 x123)] [.one (sl 1 (csI .i64) v125.1), .one (.bool v125.2)]) ∧ Tt ∧ T4 Tt)) [.no, .no, .call [.agg (cs_Skeleton v4), .one (.int .i64 x123)] [.one (sl 1 (csI .i64) v125.1), .one (.bool v125.2)] [[.lst 26], [.view]]] [5, 6, 7, 9, 11, 12, 15, 16, 17] [1, 2, 3, 4, 5, 20, 26] ⟨tr, tr, ⟨⟨⟨rfl, tr⟩, rfl, tr⟩, ok_impl_BelowOf K v4 x123 v125 e126⟩, tr, tr, tr, tr, tr, tr⟩ ?_
                refine thenQ_normal ?_
                refine AW.seq ?_
                refine AW.seq (AW.rA ⟨[(5, (vp 2 0)), (6, (vc (.int .i64 (v4.Bones.length : Int)))), (7, (.v (.one (.lst 3 v6.1.length 1 (gl (csF .f32) v6.1))))), (9, (vp 5 0)), (11, (vc (.int .i64 x22))), (12, (.v (.one (.lst 20 v24.1.length 1 (gl (csI .i64) v24.1))))), (15, (vc (.int .i64 x123))), (16, (.v (.one (.lst 26 v125.1.length 1 (gl (csI .i64) v125.1))))), (170, (vc (.bool (!v125.2))))], [(1, (.lst v4.Bones.length 4 (gl cs_Bone v4.Bones))), (2, (.box [(.lst 1 v4.Bones.length 4 (gl cs_Bone v4.Bones))])), (3, (.lst v6.1.length 1 (gl (csF .f32) v6.1))), (4, (.lst v8.1.Turns.length 4 (gl cs_Turn v8.1.Turns))), (5, (.box [(.c (.flt .f32 v8.1.Root.X.bits)), (.c (.flt .f32 v8.1.Root.Y.bits)), (.c (.flt .f32 v8.1.Root.Z.bits)), (.lst 4 v8.1.Turns.length 4 (gl cs_Turn v8.1.Turns))])), (20, (.lst v24.1.length 1 (gl (csI .i64) v24.1))), (26, (.lst v125.1.length 1 (gl (csI .i64) v125.1)))]⟩ (T2 Tt) [] [5, 6, 7, 9, 11, 12, 15, 16, 170] [1, 2, 3, 4, 5, 20, 26] ⟨tr, tr, tr⟩ (thenQ_normal ?_))
                rcases ite2_cases h with ⟨b127, h⟩ | ⟨b127, h⟩
                · refine AW.cond_t rfl b127 ?_
                  refine AW.seq (AW.rA ⟨[(4, (vc (.bool false)))], []⟩ (Tt ∧ Tt) [] [4] [] ⟨tr, tr⟩ (thenQ_normal ?_))
                  refine AW.ret ?_
                  refine thenQ_ret ?_
                  refine blockQ_ret ?_
                  refine thenQ_ret ?_
                  refine loopQ_ret ?_
                  refine blockQ_ret ?_
                  replace h := some_eq h
                  subst h
                  exact ⟨rfl, Sub.keep [4] [] (by kernel_rfl) (by kernel_rfl)⟩
                · refine AW.cond_f rfl b127 ?_
                  refine AW.skip ?_
                  refine thenQ_normal ?_
                  refine AW.seq (AW.rA ⟨[(5, (vp 2 0)), (6, (vc (.int .i64 (v4.Bones.length : Int)))), (7, (.v (.one (.lst 3 v6.1.length 1 (gl (csF .f32) v6.1))))), (9, (vp 5 0)), (11, (vc (.int .i64 x22))), (12, (.v (.one (.lst 20 v24.1.length 1 (gl (csI .i64) v24.1))))), (15, (vc (.int .i64 x123))), (16, (.v (.one (.lst 26 v125.1.length 1 (gl (csI .i64) v125.1))))), (18, (vc (.bool false)))], [(1, (.lst v4.Bones.length 4 (gl cs_Bone v4.Bones))), (2, (.box [(.lst 1 v4.Bones.length 4 (gl cs_Bone v4.Bones))])), (3, (.lst v6.1.length 1 (gl (csF .f32) v6.1))), (4, (.lst v8.1.Turns.length 4 (gl cs_Turn v8.1.Turns))), (5, (.box [(.c (.flt .f32 v8.1.Root.X.bits)), (.c (.flt .f32 v8.1.Root.Y.bits)), (.c (.flt .f32 v8.1.Root.Z.bits)), (.lst 4 v8.1.Turns.length 4 (gl cs_Turn v8.1.Turns))])), (20, (.lst v24.1.length 1 (gl (csI .i64) v24.1))), (26, (.lst v125.1.length 1 (gl (csI .i64) v125.1)))]⟩ (Tt ∧ Tt) [] [5, 6, 7, 9, 11, 12, 15, 16, 18] [1, 2, 3, 4, 5, 20, 26] ⟨tr, tr⟩ (thenQ_normal ?_))
                  refine AW.seq ?_
                  refine AW.seq (AW.rA ⟨[(5, (vp 2 0)), (6, (vc (.int .i64 (v4.Bones.length : Int)))), (7, (.v (.one (.lst 3 v6.1.length 1 (gl (csF .f32) v6.1))))), (9, (vp 5 0)), (11, (vc (.int .i64 x22))), (12, (.v (.one (.lst 20 v24.1.length 1 (gl (csI .i64) v24.1))))), (15, (vc (.int .i64 x123))), (16, (.v (.one (.lst 26 v125.1.length 1 (gl (csI .i64) v125.1))))), (18, (vc (.bool false))), (172, (vc (.int .i64 (v125.1.length : Int)))), (173, (vc (.int .i64 (0 : Int))))], [(1, (.lst v4.Bones.length 4 (gl cs_Bone v4.Bones))), (2, (.box [(.lst 1 v4.Bones.length 4 (gl cs_Bone v4.Bones))])), (3, (.lst v6.1.length 1 (gl (csF .f32) v6.1))), (4, (.lst v8.1.Turns.length 4 (gl cs_Turn v8.1.Turns))), (5, (.box [(.c (.flt .f32 v8.1.Root.X.bits)), (.c (.flt .f32 v8.1.Root.Y.bits)), (.c (.flt .f32 v8.1.Root.Z.bits)), (.lst 4 v8.1.Turns.length 4 (gl cs_Turn v8.1.Turns))])), (20, (.lst v24.1.length 1 (gl (csI .i64) v24.1))), (26, (.lst v125.1.length 1 (gl (csI .i64) v125.1)))]⟩ (Tt ∧ T2 Tt) [] [5, 6, 7, 9, 11, 12, 15, 16, 18, 172, 173] [1, 2, 3, 4, 5, 20, 26] ⟨tr, tr, tr, tr⟩ (thenQ_normal ?_))
                  obtain ⟨j138, e137, h⟩ := bind_some h
                  refine AW.joinS (s2 := ⟨[(5, (vp 2 0)), (6, (vc (.int .i64 (v4.Bones.length : Int)))), (7, (.v (.one (.lst 3 v6.1.length 1 (gl (csF .f32) v6.1))))), (9, (vp 5 0)), (11, (vc (.int .i64 x22))), (12, (.v (.one (.lst 20 v24.1.length 1 (gl (csI .i64) v24.1))))), (15, (vc (.int .i64 x123))), (18, (vc (.bool j138)))], [(1, (.lst v4.Bones.length 4 (gl cs_Bone v4.Bones))), (2, (.box [(.lst 1 v4.Bones.length 4 (gl cs_Bone v4.Bones))])), (3, (.lst v6.1.length 1 (gl (csF .f32) v6.1))), (4, (.lst v8.1.Turns.length 4 (gl cs_Turn v8.1.Turns))), (5, (.box [(.c (.flt .f32 v8.1.Root.X.bits)), (.c (.flt .f32 v8.1.Root.Y.bits)), (.c (.flt .f32 v8.1.Root.Z.bits)), (.lst 4 v8.1.Turns.length 4 (gl cs_Turn v8.1.Turns))])), (20, (.lst v24.1.length 1 (gl (csI .i64) v24.1)))]⟩) ?_ ?_
                  · replace h := e137
                    refine AW.block ?_
                    refine AW.loopQ (σ := Nat × Bool × Int) (fun p => ⟨[(5, (vp 2 0)), (6, (vc (.int .i64 (v4.Bones.length : Int)))), (7, (.v (.one (.lst 3 v6.1.length 1 (gl (csF .f32) v6.1))))), (9, (vp 5 0)), (11, (vc (.int .i64 x22))), (12, (.v (.one (.lst 20 v24.1.length 1 (gl (csI .i64) v24.1))))), (15, (vc (.int .i64 x123))), (16, (.v (.one (.lst 26 v125.1.length 1 (gl (csI .i64) v125.1))))), (18, (vc (.bool p.2.1))), (172, (vc (.int .i64 (v125.1.length : Int)))), (173, (vc (.int .i64 p.2.2)))], [(1, (.lst v4.Bones.length 4 (gl cs_Bone v4.Bones))), (2, (.box [(.lst 1 v4.Bones.length 4 (gl cs_Bone v4.Bones))])), (3, (.lst v6.1.length 1 (gl (csF .f32) v6.1))), (4, (.lst v8.1.Turns.length 4 (gl cs_Turn v8.1.Turns))), (5, (.box [(.c (.flt .f32 v8.1.Root.X.bits)), (.c (.flt .f32 v8.1.Root.Y.bits)), (.c (.flt .f32 v8.1.Root.Z.bits)), (.lst 4 v8.1.Turns.length 4 (gl cs_Turn v8.1.Turns))])), (20, (.lst v24.1.length 1 (gl (csI .i64) v24.1))), (26, (.lst v125.1.length 1 (gl (csI .i64) v125.1)))]⟩) (fun p => laws_FnChains_l24 K x22 v125 p.1 p.2.1 p.2.2 = some j138) (fun p => p.1) (K, false, (0 : Int)) h ?_
                    clear h
                    rintro ⟨k, x141, x142⟩ h
                    replace h : laws_FnChains_l24 K x22 v125 k x141 x142 = some j138 := h
                    show AW _ _ (⟨[(5, (vp 2 0)), (6, (vc (.int .i64 (v4.Bones.length : Int)))), (7, (.v (.one (.lst 3 v6.1.length 1 (gl (csF .f32) v6.1))))), (9, (vp 5 0)), (11, (vc (.int .i64 x22))), (12, (.v (.one (.lst 20 v24.1.length 1 (gl (csI .i64) v24.1))))), (15, (vc (.int .i64 x123))), (16, (.v (.one (.lst 26 v125.1.length 1 (gl (csI .i64) v125.1))))), (18, (vc (.bool x141))), (172, (vc (.int .i64 (v125.1.length : Int)))), (173, (vc (.int .i64 x142)))], [(1, (.lst v4.Bones.length 4 (gl cs_Bone v4.Bones))), (2, (.box [(.lst 1 v4.Bones.length 4 (gl cs_Bone v4.Bones))])), (3, (.lst v6.1.length 1 (gl (csF .f32) v6.1))), (4, (.lst v8.1.Turns.length 4 (gl cs_Turn v8.1.Turns))), (5, (.box [(.c (.flt .f32 v8.1.Root.X.bits)), (.c (.flt .f32 v8.1.Root.Y.bits)), (.c (.flt .f32 v8.1.Root.Z.bits)), (.lst 4 v8.1.Turns.length 4 (gl cs_Turn v8.1.Turns))])), (20, (.lst v24.1.length 1 (gl (csI .i64) v24.1))), (26, (.lst v125.1.length 1 (gl (csI .i64) v125.1)))]⟩ : St) _
                    obtain _ | k := k
                    · rw [laws_FnChains_l24] at h; cases h
                    rw [laws_FnChains_l24] at h
                    refine AW.seq (AW.rA ⟨[(5, (vp 2 0)), (6, (vc (.int .i64 (v4.Bones.length : Int)))), (7, (.v (.one (.lst 3 v6.1.length 1 (gl (csF .f32) v6.1))))), (9, (vp 5 0)), (11, (vc (.int .i64 x22))), (12, (.v (.one (.lst 20 v24.1.length 1 (gl (csI .i64) v24.1))))), (15, (vc (.int .i64 x123))), (16, (.v (.one (.lst 26 v125.1.length 1 (gl (csI .i64) v125.1))))), (18, (vc (.bool x141))), (172, (vc (.int .i64 (v125.1.length : Int)))), (173, (vc (.int .i64 x142))), (174, (vc (.bool (decide (x142 < (v125.1.length : Int))))))], [(1, (.lst v4.Bones.length 4 (gl cs_Bone v4.Bones))), (2, (.box [(.lst 1 v4.Bones.length 4 (gl cs_Bone v4.Bones))])), (3, (.lst v6.1.length 1 (gl (csF .f32) v6.1))), (4, (.lst v8.1.Turns.length 4 (gl cs_Turn v8.1.Turns))), (5, (.box [(.c (.flt .f32 v8.1.Root.X.bits)), (.c (.flt .f32 v8.1.Root.Y.bits)), (.c (.flt .f32 v8.1.Root.Z.bits)), (.lst 4 v8.1.Turns.length 4 (gl cs_Turn v8.1.Turns))])), (20, (.lst v24.1.length 1 (gl (csI .i64) v24.1))), (26, (.lst v125.1.length 1 (gl (csI .i64) v125.1)))]⟩ (Tt ∧ Tt) [] [5, 6, 7, 9, 11, 12, 15, 16, 18, 172, 173, 174] [1, 2, 3, 4, 5, 20, 26] ⟨tr, tr⟩ (thenQ_normal ?_))
                    refine AW.seq ?_
                    rcases ite2_cases h with ⟨b143, h⟩ | ⟨b143, h⟩
                    · refine AW.cond_t rfl b143 ?_
                      refine AW.skip ?_
                      refine thenQ_normal ?_
                      refine AW.seq ?_
                      refine AW.block ?_
                      refine AW.seq (AW.rA ⟨[(5, (vp 2 0)), (6, (vc (.int .i64 (v4.Bones.length : Int)))), (7, (.v (.one (.lst 3 v6.1.length 1 (gl (csF .f32) v6.1))))), (9, (vp 5 0)), (11, (vc (.int .i64 x22))), (12, (.v (.one (.lst 20 v24.1.length 1 (gl (csI .i64) v24.1))))), (15, (vc (.int .i64 x123))), (16, (.v (.one (.lst 26 v125.1.length 1 (gl (csI .i64) v125.1))))), (18, (vc (.bool x141))), (19, (vc (.int .i64 x142))), (172, (vc (.int .i64 (v125.1.length : Int)))), (173, (vc (.int .i64 x142)))], [(1, (.lst v4.Bones.length 4 (gl cs_Bone v4.Bones))), (2, (.box [(.lst 1 v4.Bones.length 4 (gl cs_Bone v4.Bones))])), (3, (.lst v6.1.length 1 (gl (csF .f32) v6.1))), (4, (.lst v8.1.Turns.length 4 (gl cs_Turn v8.1.Turns))), (5, (.box [(.c (.flt .f32 v8.1.Root.X.bits)), (.c (.flt .f32 v8.1.Root.Y.bits)), (.c (.flt .f32 v8.1.Root.Z.bits)), (.lst 4 v8.1.Turns.length 4 (gl cs_Turn v8.1.Turns))])), (20, (.lst v24.1.length 1 (gl (csI .i64) v24.1))), (26, (.lst v125.1.length 1 (gl (csI .i64) v125.1)))]⟩ (T2 Tt) [] [5, 6, 7, 9, 11, 12, 15, 16, 18, 19, 172, 173] [1, 2, 3, 4, 5, 20, 26] ⟨tr, tr, tr⟩ (thenQ_normal ?_))
                      obtain ⟨j146, e147, h⟩ := bind_some h
                      refine AW.join1 (s2 := ⟨[(5, (vp 2 0)), (6, (vc (.int .i64 (v4.Bones.length : Int)))), (7, (.v (.one (.lst 3 v6.1.length 1 (gl (csF .f32) v6.1))))), (9, (vp 5 0)), (11, (vc (.int .i64 x22))), (12, (.v (.one (.lst 20 v24.1.length 1 (gl (csI .i64) v24.1))))), (15, (vc (.int .i64 x123))), (16, (.v (.one (.lst 26 v125.1.length 1 (gl (csI .i64) v125.1))))), (18, (vc (.bool j146))), (172, (vc (.int .i64 (v125.1.length : Int)))), (173, (vc (.int .i64 x142)))], [(1, (.lst v4.Bones.length 4 (gl cs_Bone v4.Bones))), (2, (.box [(.lst 1 v4.Bones.length 4 (gl cs_Bone v4.Bones))])), (3, (.lst v6.1.length 1 (gl (csF .f32) v6.1))), (4, (.lst v8.1.Turns.length 4 (gl cs_Turn v8.1.Turns))), (5, (.box [(.c (.flt .f32 v8.1.Root.X.bits)), (.c (.flt .f32 v8.1.Root.Y.bits)), (.c (.flt .f32 v8.1.Root.Z.bits)), (.lst 4 v8.1.Turns.length 4 (gl cs_Turn v8.1.Turns))])), (20, (.lst v24.1.length 1 (gl (csI .i64) v24.1))), (26, (.lst v125.1.length 1 (gl (csI .i64) v125.1)))]⟩) ?_ ?_
                      · rcases ite2_cases e147 with ⟨b144, e147⟩ | ⟨b144, e147⟩
                        · replace e147 := some_eq e147
                          subst e147
                          exact AW.rA ⟨[(5, (vp 2 0)), (6, (vc (.int .i64 (v4.Bones.length : Int)))), (7, (.v (.one (.lst 3 v6.1.length 1 (gl (csF .f32) v6.1))))), (9, (vp 5 0)), (11, (vc (.int .i64 x22))), (12, (.v (.one (.lst 20 v24.1.length 1 (gl (csI .i64) v24.1))))), (15, (vc (.int .i64 x123))), (16, (.v (.one (.lst 26 v125.1.length 1 (gl (csI .i64) v125.1))))), (18, (vc (.bool true))), (172, (vc (.int .i64 (v125.1.length : Int)))), (173, (vc (.int .i64 x142)))], [(1, (.lst v4.Bones.length 4 (gl cs_Bone v4.Bones))), (2, (.box [(.lst 1 v4.Bones.length 4 (gl cs_Bone v4.Bones))])), (3, (.lst v6.1.length 1 (gl (csF .f32) v6.1))), (4, (.lst v8.1.Turns.length 4 (gl cs_Turn v8.1.Turns))), (5, (.box [(.c (.flt .f32 v8.1.Root.X.bits)), (.c (.flt .f32 v8.1.Root.Y.bits)), (.c (.flt .f32 v8.1.Root.Z.bits)), (.lst 4 v8.1.Turns.length 4 (gl cs_Turn v8.1.Turns))])), (20, (.lst v24.1.length 1 (gl (csI .i64) v24.1))), (26, (.lst v125.1.length 1 (gl (csI .i64) v125.1)))]⟩ (Tt ∧ (Tt ∧ x141 = true) ∧ T4 (T4 Tt)) [.no, .dec true] [5, 6, 7, 9, 11, 12, 15, 16, 18, 172, 173] [1, 2, 3, 4, 5, 20, 26] ⟨tr, ⟨tr, b144⟩, tr, tr, tr, tr, tr, tr, tr, tr, tr⟩ ⟨rfl, rfl⟩
                        · obtain ⟨c145, e147⟩ := chk_some e147
                          replace e147 := some_eq e147
                          subst e147
                          exact AW.rA ⟨[(5, (vp 2 0)), (6, (vc (.int .i64 (v4.Bones.length : Int)))), (7, (.v (.one (.lst 3 v6.1.length 1 (gl (csF .f32) v6.1))))), (9, (vp 5 0)), (11, (vc (.int .i64 x22))), (12, (.v (.one (.lst 20 v24.1.length 1 (gl (csI .i64) v24.1))))), (15, (vc (.int .i64 x123))), (16, (.v (.one (.lst 26 v125.1.length 1 (gl (csI .i64) v125.1))))), (18, (vc (.bool ((v125.1.getD x142.toNat default) == x22)))), (172, (vc (.int .i64 (v125.1.length : Int)))), (173, (vc (.int .i64 x142)))], [(1, (.lst v4.Bones.length 4 (gl cs_Bone v4.Bones))), (2, (.box [(.lst 1 v4.Bones.length 4 (gl cs_Bone v4.Bones))])), (3, (.lst v6.1.length 1 (gl (csF .f32) v6.1))), (4, (.lst v8.1.Turns.length 4 (gl cs_Turn v8.1.Turns))), (5, (.box [(.c (.flt .f32 v8.1.Root.X.bits)), (.c (.flt .f32 v8.1.Root.Y.bits)), (.c (.flt .f32 v8.1.Root.Z.bits)), (.lst 4 v8.1.Turns.length 4 (gl cs_Turn v8.1.Turns))])), (20, (.lst v24.1.length 1 (gl (csI .i64) v24.1))), (26, (.lst v125.1.length 1 (gl (csI .i64) v125.1)))]⟩ (Tt ∧ (Tt ∧ x141 = false) ∧ T2 ((0 ≤ x142 ∧ x142 < (v125.1.length : Int)) ∧ Tt ∧ T4 Tt)) [.no, .dec false] [5, 6, 7, 9, 11, 12, 15, 16, 18, 172, 173] [1, 2, 3, 4, 5, 20, 26] ⟨tr, ⟨tr, b144⟩, tr, tr, c145, tr, tr, tr, tr, tr, tr⟩ ⟨rfl, rfl⟩
                      refine blockQ_normal ?_
                      refine thenQ_normal ?_
                      refine AW.rA ⟨[(5, (vp 2 0)), (6, (vc (.int .i64 (v4.Bones.length : Int)))), (7, (.v (.one (.lst 3 v6.1.length 1 (gl (csF .f32) v6.1))))), (9, (vp 5 0)), (11, (vc (.int .i64 x22))), (12, (.v (.one (.lst 20 v24.1.length 1 (gl (csI .i64) v24.1))))), (15, (vc (.int .i64 x123))), (16, (.v (.one (.lst 26 v125.1.length 1 (gl (csI .i64) v125.1))))), (18, (vc (.bool j146))), (172, (vc (.int .i64 (v125.1.length : Int)))), (173, (vc (.int .i64 (IntKind.i64.wrap (x142 + (1 : Int))))))], [(1, (.lst v4.Bones.length 4 (gl cs_Bone v4.Bones))), (2, (.box [(.lst 1 v4.Bones.length 4 (gl cs_Bone v4.Bones))])), (3, (.lst v6.1.length 1 (gl (csF .f32) v6.1))), (4, (.lst v8.1.Turns.length 4 (gl cs_Turn v8.1.Turns))), (5, (.box [(.c (.flt .f32 v8.1.Root.X.bits)), (.c (.flt .f32 v8.1.Root.Y.bits)), (.c (.flt .f32 v8.1.Root.Z.bits)), (.lst 4 v8.1.Turns.length 4 (gl cs_Turn v8.1.Turns))])), (20, (.lst v24.1.length 1 (gl (csI .i64) v24.1))), (26, (.lst v125.1.length 1 (gl (csI .i64) v125.1)))]⟩ (T2 Tt) [] [5, 6, 7, 9, 11, 12, 15, 16, 18, 172, 173] [1, 2, 3, 4, 5, 20, 26] ⟨tr, tr, tr⟩ ?_
                      exact loopQ_normal (k, j146, (IntKind.i64.wrap (x142 + (1 : Int)))) h (Nat.lt_succ_self k) (Sub.keep [5, 6, 7, 9, 11, 12, 15, 16, 18, 172, 173] [1, 2, 3, 4, 5, 20, 26] (by kernel_rfl) (by kernel_rfl))
                    · refine AW.cond_f rfl b143 ?_
                      refine AW.exit ?_
                      refine thenQ_exit ?_
                      refine loopQ_exit ?_
                      refine blockQ_exit ?_
                      replace h := some_eq h
                      subst h
                      exact ⟨rfl, Sub.keep [5, 6, 7, 9, 11, 12, 15, 18] [1, 2, 3, 4, 5, 20] (by kernel_rfl) (by kernel_rfl)⟩
                  refine thenQ_normal ?_
                  refine AW.seq (AW.rA ⟨[(5, (vp 2 0)), (6, (vc (.int .i64 (v4.Bones.length : Int)))), (7, (.v (.one (.lst 3 v6.1.length 1 (gl (csF .f32) v6.1))))), (9, (vp 5 0)), (11, (vc (.int .i64 x22))), (12, (.v (.one (.lst 20 v24.1.length 1 (gl (csI .i64) v24.1))))), (15, (vc (.int .i64 x123))), (18, (vc (.bool j138))), (20, (vc (.bool false)))], [(1, (.lst v4.Bones.length 4 (gl cs_Bone v4.Bones))), (2, (.box [(.lst 1 v4.Bones.length 4 (gl cs_Bone v4.Bones))])), (3, (.lst v6.1.length 1 (gl (csF .f32) v6.1))), (4, (.lst v8.1.Turns.length 4 (gl cs_Turn v8.1.Turns))), (5, (.box [(.c (.flt .f32 v8.1.Root.X.bits)), (.c (.flt .f32 v8.1.Root.Y.bits)), (.c (.flt .f32 v8.1.Root.Z.bits)), (.lst 4 v8.1.Turns.length 4 (gl cs_Turn v8.1.Turns))])), (20, (.lst v24.1.length 1 (gl (csI .i64) v24.1)))]⟩ (Tt ∧ Tt) [] [5, 6, 7, 9, 11, 12, 15, 18, 20] [1, 2, 3, 4, 5, 20] ⟨tr, tr⟩ (thenQ_normal ?_))
                  refine AW.seq ?_
                  refine AW.seq (AW.rA ⟨[(5, (vp 2 0)), (6, (vc (.int .i64 (v4.Bones.length : Int)))), (7, (.v (.one (.lst 3 v6.1.length 1 (gl (csF .f32) v6.1))))), (9, (vp 5 0)), (11, (vc (.int .i64 x22))), (12, (.v (.one (.lst 20 v24.1.length 1 (gl (csI .i64) v24.1))))), (15, (vc (.int .i64 x123))), (18, (vc (.bool j138))), (20, (vc (.bool false))), (187, (vc (.int .i64 (v24.1.length : Int)))), (188, (vc (.int .i64 (0 : Int))))], [(1, (.lst v4.Bones.length 4 (gl cs_Bone v4.Bones))), (2, (.box [(.lst 1 v4.Bones.length 4 (gl cs_Bone v4.Bones))])), (3, (.lst v6.1.length 1 (gl (csF .f32) v6.1))), (4, (.lst v8.1.Turns.length 4 (gl cs_Turn v8.1.Turns))), (5, (.box [(.c (.flt .f32 v8.1.Root.X.bits)), (.c (.flt .f32 v8.1.Root.Y.bits)), (.c (.flt .f32 v8.1.Root.Z.bits)), (.lst 4 v8.1.Turns.length 4 (gl cs_Turn v8.1.Turns))])), (20, (.lst v24.1.length 1 (gl (csI .i64) v24.1)))]⟩ (Tt ∧ T2 Tt) [] [5, 6, 7, 9, 11, 12, 15, 18, 20, 187, 188] [1, 2, 3, 4, 5, 20] ⟨tr, tr, tr, tr⟩ (thenQ_normal ?_))
                  obtain ⟨j158, e157, h⟩ := bind_some h
                  refine AW.joinS (s2 := ⟨[(5, (vp 2 0)), (6, (vc (.int .i64 (v4.Bones.length : Int)))), (7, (.v (.one (.lst 3 v6.1.length 1 (gl (csF .f32) v6.1))))), (9, (vp 5 0)), (11, (vc (.int .i64 x22))), (12, (.v (.one (.lst 20 v24.1.length 1 (gl (csI .i64) v24.1))))), (15, (vc (.int .i64 x123))), (18, (vc (.bool j138))), (20, (vc (.bool j158)))], [(1, (.lst v4.Bones.length 4 (gl cs_Bone v4.Bones))), (2, (.box [(.lst 1 v4.Bones.length 4 (gl cs_Bone v4.Bones))])), (3, (.lst v6.1.length 1 (gl (csF .f32) v6.1))), (4, (.lst v8.1.Turns.length 4 (gl cs_Turn v8.1.Turns))), (5, (.box [(.c (.flt .f32 v8.1.Root.X.bits)), (.c (.flt .f32 v8.1.Root.Y.bits)), (.c (.flt .f32 v8.1.Root.Z.bits)), (.lst 4 v8.1.Turns.length 4 (gl cs_Turn v8.1.Turns))])), (20, (.lst v24.1.length 1 (gl (csI .i64) v24.1)))]⟩) ?_ ?_
                  · replace h := e157
                    refine AW.block ?_
                    refine AW.loopQ (σ := Nat × Bool × Int) (fun p => ⟨[(5, (vp 2 0)), (6, (vc (.int .i64 (v4.Bones.length : Int)))), (7, (.v (.one (.lst 3 v6.1.length 1 (gl (csF .f32) v6.1))))), (9, (vp 5 0)), (11, (vc (.int .i64 x22))), (12, (.v (.one (.lst 20 v24.1.length 1 (gl (csI .i64) v24.1))))), (15, (vc (.int .i64 x123))), (18, (vc (.bool j138))), (20, (vc (.bool p.2.1))), (187, (vc (.int .i64 (v24.1.length : Int)))), (188, (vc (.int .i64 p.2.2)))], [(1, (.lst v4.Bones.length 4 (gl cs_Bone v4.Bones))), (2, (.box [(.lst 1 v4.Bones.length 4 (gl cs_Bone v4.Bones))])), (3, (.lst v6.1.length 1 (gl (csF .f32) v6.1))), (4, (.lst v8.1.Turns.length 4 (gl cs_Turn v8.1.Turns))), (5, (.box [(.c (.flt .f32 v8.1.Root.X.bits)), (.c (.flt .f32 v8.1.Root.Y.bits)), (.c (.flt .f32 v8.1.Root.Z.bits)), (.lst 4 v8.1.Turns.length 4 (gl cs_Turn v8.1.Turns))])), (20, (.lst v24.1.length 1 (gl (csI .i64) v24.1)))]⟩) (fun p => laws_FnChains_l25 K v24 x123 p.1 p.2.1 p.2.2 = some j158) (fun p => p.1) (K, false, (0 : Int)) h ?_
                    clear h
                    rintro ⟨k, x161, x162⟩ h
                    replace h : laws_FnChains_l25 K v24 x123 k x161 x162 = some j158 := h
                    show AW _ _ (⟨[(5, (vp 2 0)), (6, (vc (.int .i64 (v4.Bones.length : Int)))), (7, (.v (.one (.lst 3 v6.1.length 1 (gl (csF .f32) v6.1))))), (9, (vp 5 0)), (11, (vc (.int .i64 x22))), (12, (.v (.one (.lst 20 v24.1.length 1 (gl (csI .i64) v24.1))))), (15, (vc (.int .i64 x123))), (18, (vc (.bool j138))), (20, (vc (.bool x161))), (187, (vc (.int .i64 (v24.1.length : Int)))), (188, (vc (.int .i64 x162)))], [(1, (.lst v4.Bones.length 4 (gl cs_Bone v4.Bones))), (2, (.box [(.lst 1 v4.Bones.length 4 (gl cs_Bone v4.Bones))])), (3, (.lst v6.1.length 1 (gl (csF .f32) v6.1))), (4, (.lst v8.1.Turns.length 4 (gl cs_Turn v8.1.Turns))), (5, (.box [(.c (.flt .f32 v8.1.Root.X.bits)), (.c (.flt .f32 v8.1.Root.Y.bits)), (.c (.flt .f32 v8.1.Root.Z.bits)), (.lst 4 v8.1.Turns.length 4 (gl cs_Turn v8.1.Turns))])), (20, (.lst v24.1.length 1 (gl (csI .i64) v24.1)))]⟩ : St) _
                    obtain _ | k := k
                    · rw [laws_FnChains_l25] at h; cases h
                    rw [laws_FnChains_l25] at h
                    refine AW.seq (AW.rA ⟨[(5, (vp 2 0)), (6, (vc (.int .i64 (v4.Bones.length : Int)))), (7, (.v (.one (.lst 3 v6.1.length 1 (gl (csF .f32) v6.1))))), (9, (vp 5 0)), (11, (vc (.int .i64 x22))), (12, (.v (.one (.lst 20 v24.1.length 1 (gl (csI .i64) v24.1))))), (15, (vc (.int .i64 x123))), (18, (vc (.bool j138))), (20, (vc (.bool x161))), (187, (vc (.int .i64 (v24.1.length : Int)))), (188, (vc (.int .i64 x162))), (189, (vc (.bool (decide (x162 < (v24.1.length : Int))))))], [(1, (.lst v4.Bones.length 4 (gl cs_Bone v4.Bones))), (2, (.box [(.lst 1 v4.Bones.length 4 (gl cs_Bone v4.Bones))])), (3, (.lst v6.1.length 1 (gl (csF .f32) v6.1))), (4, (.lst v8.1.Turns.length 4 (gl cs_Turn v8.1.Turns))), (5, (.box [(.c (.flt .f32 v8.1.Root.X.bits)), (.c (.flt .f32 v8.1.Root.Y.bits)), (.c (.flt .f32 v8.1.Root.Z.bits)), (.lst 4 v8.1.Turns.length 4 (gl cs_Turn v8.1.Turns))])), (20, (.lst v24.1.length 1 (gl (csI .i64) v24.1)))]⟩ (Tt ∧ Tt) [] [5, 6, 7, 9, 11, 12, 15, 18, 20, 187, 188, 189] [1, 2, 3, 4, 5, 20] ⟨tr, tr⟩ (thenQ_normal ?_))
                    refine AW.seq ?_
                    rcases ite2_cases h with ⟨b163, h⟩ | ⟨b163, h⟩
                    · refine AW.cond_t rfl b163 ?_
                      refine AW.skip ?_
                      refine thenQ_normal ?_
                      refine AW.seq ?_
                      refine AW.block ?_
                      refine AW.seq (AW.rA ⟨[(5, (vp 2 0)), (6, (vc (.int .i64 (v4.Bones.length : Int)))), (7, (.v (.one (.lst 3 v6.1.length 1 (gl (csF .f32) v6.1))))), (9, (vp 5 0)), (11, (vc (.int .i64 x22))), (12, (.v (.one (.lst 20 v24.1.length 1 (gl (csI .i64) v24.1))))), (15, (vc (.int .i64 x123))), (18, (vc (.bool j138))), (20, (vc (.bool x161))), (21, (vc (.int .i64 x162))), (187, (vc (.int .i64 (v24.1.length : Int)))), (188, (vc (.int .i64 x162)))], [(1, (.lst v4.Bones.length 4 (gl cs_Bone v4.Bones))), (2, (.box [(.lst 1 v4.Bones.length 4 (gl cs_Bone v4.Bones))])), (3, (.lst v6.1.length 1 (gl (csF .f32) v6.1))), (4, (.lst v8.1.Turns.length 4 (gl cs_Turn v8.1.Turns))), (5, (.box [(.c (.flt .f32 v8.1.Root.X.bits)), (.c (.flt .f32 v8.1.Root.Y.bits)), (.c (.flt .f32 v8.1.Root.Z.bits)), (.lst 4 v8.1.Turns.length 4 (gl cs_Turn v8.1.Turns))])), (20, (.lst v24.1.length 1 (gl (csI .i64) v24.1)))]⟩ (T2 Tt) [] [5, 6, 7, 9, 11, 12, 15, 18, 20, 21, 187, 188] [1, 2, 3, 4, 5, 20] ⟨tr, tr, tr⟩ (thenQ_normal ?_))
                      obtain ⟨j166, e167, h⟩ := bind_some h
                      refine AW.join1 (s2 := ⟨[(5, (vp 2 0)), (6, (vc (.int .i64 (v4.Bones.length : Int)))), (7, (.v (.one (.lst 3 v6.1.length 1 (gl (csF .f32) v6.1))))), (9, (vp 5 0)), (11, (vc (.int .i64 x22))), (12, (.v (.one (.lst 20 v24.1.length 1 (gl (csI .i64) v24.1))))), (15, (vc (.int .i64 x123))), (18, (vc (.bool j138))), (20, (vc (.bool j166))), (187, (vc (.int .i64 (v24.1.length : Int)))), (188, (vc (.int .i64 x162)))], [(1, (.lst v4.Bones.length 4 (gl cs_Bone v4.Bones))), (2, (.box [(.lst 1 v4.Bones.length 4 (gl cs_Bone v4.Bones))])), (3, (.lst v6.1.length 1 (gl (csF .f32) v6.1))), (4, (.lst v8.1.Turns.length 4 (gl cs_Turn v8.1.Turns))), (5, (.box [(.c (.flt .f32 v8.1.Root.X.bits)), (.c (.flt .f32 v8.1.Root.Y.bits)), (.c (.flt .f32 v8.1.Root.Z.bits)), (.lst 4 v8.1.Turns.length 4 (gl cs_Turn v8.1.Turns))])), (20, (.lst v24.1.length 1 (gl (csI .i64) v24.1)))]⟩) ?_ ?_
                      · rcases ite2_cases e167 with ⟨b164, e167⟩ | ⟨b164, e167⟩
                        · replace e167 := some_eq e167
                          subst e167
                          exact AW.rA ⟨[(5, (vp 2 0)), (6, (vc (.int .i64 (v4.Bones.length : Int)))), (7, (.v (.one (.lst 3 v6.1.length 1 (gl (csF .f32) v6.1))))), (9, (vp 5 0)), (11, (vc (.int .i64 x22))), (12, (.v (.one (.lst 20 v24.1.length 1 (gl (csI .i64) v24.1))))), (15, (vc (.int .i64 x123))), (18, (vc (.bool j138))), (20, (vc (.bool true))), (187, (vc (.int .i64 (v24.1.length : Int)))), (188, (vc (.int .i64 x162)))], [(1, (.lst v4.Bones.length 4 (gl cs_Bone v4.Bones))), (2, (.box [(.lst 1 v4.Bones.length 4 (gl cs_Bone v4.Bones))])), (3, (.lst v6.1.length 1 (gl (csF .f32) v6.1))), (4, (.lst v8.1.Turns.length 4 (gl cs_Turn v8.1.Turns))), (5, (.box [(.c (.flt .f32 v8.1.Root.X.bits)), (.c (.flt .f32 v8.1.Root.Y.bits)), (.c (.flt .f32 v8.1.Root.Z.bits)), (.lst 4 v8.1.Turns.length 4 (gl cs_Turn v8.1.Turns))])), (20, (.lst v24.1.length 1 (gl (csI .i64) v24.1)))]⟩ (Tt ∧ (Tt ∧ x161 = true) ∧ T4 (T4 Tt)) [.no, .dec true] [5, 6, 7, 9, 11, 12, 15, 18, 20, 187, 188] [1, 2, 3, 4, 5, 20] ⟨tr, ⟨tr, b164⟩, tr, tr, tr, tr, tr, tr, tr, tr, tr⟩ ⟨rfl, rfl⟩
                        · obtain ⟨c165, e167⟩ := chk_some e167
                          replace e167 := some_eq e167
                          subst e167
                          exact AW.rA ⟨[(5, (vp 2 0)), (6, (vc (.int .i64 (v4.Bones.length : Int)))), (7, (.v (.one (.lst 3 v6.1.length 1 (gl (csF .f32) v6.1))))), (9, (vp 5 0)), (11, (vc (.int .i64 x22))), (12, (.v (.one (.lst 20 v24.1.length 1 (gl (csI .i64) v24.1))))), (15, (vc (.int .i64 x123))), (18, (vc (.bool j138))), (20, (vc (.bool ((v24.1.getD x162.toNat default) == x123)))), (187, (vc (.int .i64 (v24.1.length : Int)))), (188, (vc (.int .i64 x162)))], [(1, (.lst v4.Bones.length 4 (gl cs_Bone v4.Bones))), (2, (.box [(.lst 1 v4.Bones.length 4 (gl cs_Bone v4.Bones))])), (3, (.lst v6.1.length 1 (gl (csF .f32) v6.1))), (4, (.lst v8.1.Turns.length 4 (gl cs_Turn v8.1.Turns))), (5, (.box [(.c (.flt .f32 v8.1.Root.X.bits)), (.c (.flt .f32 v8.1.Root.Y.bits)), (.c (.flt .f32 v8.1.Root.Z.bits)), (.lst 4 v8.1.Turns.length 4 (gl cs_Turn v8.1.Turns))])), (20, (.lst v24.1.length 1 (gl (csI .i64) v24.1)))]⟩ (Tt ∧ (Tt ∧ x161 = false) ∧ T2 ((0 ≤ x162 ∧ x162 < (v24.1.length : Int)) ∧ Tt ∧ T4 Tt)) [.no, .dec false] [5, 6, 7, 9, 11, 12, 15, 18, 20, 187, 188] [1, 2, 3, 4, 5, 20] ⟨tr, ⟨tr, b164⟩, tr, tr, c165, tr, tr, tr, tr, tr, tr⟩ ⟨rfl, rfl⟩
                      refine blockQ_normal ?_
                      refine thenQ_normal ?_
                      refine AW.rA ⟨[(5, (vp 2 0)), (6, (vc (.int .i64 (v4.Bones.length : Int)))), (7, (.v (.one (.lst 3 v6.1.length 1 (gl (csF .f32) v6.1))))), (9, (vp 5 0)), (11, (vc (.int .i64 x22))), (12, (.v (.one (.lst 20 v24.1.length 1 (gl (csI .i64) v24.1))))), (15, (vc (.int .i64 x123))), (18, (vc (.bool j138))), (20, (vc (.bool j166))), (187, (vc (.int .i64 (v24.1.length : Int)))), (188, (vc (.int .i64 (IntKind.i64.wrap (x162 + (1 : Int))))))], [(1, (.lst v4.Bones.length 4 (gl cs_Bone v4.Bones))), (2, (.box [(.lst 1 v4.Bones.length 4 (gl cs_Bone v4.Bones))])), (3, (.lst v6.1.length 1 (gl (csF .f32) v6.1))), (4, (.lst v8.1.Turns.length 4 (gl cs_Turn v8.1.Turns))), (5, (.box [(.c (.flt .f32 v8.1.Root.X.bits)), (.c (.flt .f32 v8.1.Root.Y.bits)), (.c (.flt .f32 v8.1.Root.Z.bits)), (.lst 4 v8.1.Turns.length 4 (gl cs_Turn v8.1.Turns))])), (20, (.lst v24.1.length 1 (gl (csI .i64) v24.1)))]⟩ (T2 Tt) [] [5, 6, 7, 9, 11, 12, 15, 18, 20, 187, 188] [1, 2, 3, 4, 5, 20] ⟨tr, tr, tr⟩ ?_
                      exact loopQ_normal (k, j166, (IntKind.i64.wrap (x162 + (1 : Int)))) h (Nat.lt_succ_self k) (Sub.keep [5, 6, 7, 9, 11, 12, 15, 18, 20, 187, 188] [1, 2, 3, 4, 5, 20] (by kernel_rfl) (by kernel_rfl))
                    · refine AW.cond_f rfl b163 ?_
                      refine AW.exit ?_
                      refine thenQ_exit ?_
                      refine loopQ_exit ?_
                      refine blockQ_exit ?_
                      replace h := some_eq h
                      subst h
                      exact ⟨rfl, Sub.keep [5, 6, 7, 9, 11, 12, 15, 18, 20] [1, 2, 3, 4, 5, 20] (by kernel_rfl) (by kernel_rfl)⟩
                  refine thenQ_normal ?_
                  refine AW.seq (AW.rA ⟨[(5, (vp 2 0)), (6, (vc (.int .i64 (v4.Bones.length : Int)))), (7, (.v (.one (.lst 3 v6.1.length 1 (gl (csF .f32) v6.1))))), (9, (vp 5 0)), (11, (vc (.int .i64 x22))), (12, (.v (.one (.lst 20 v24.1.length 1 (gl (csI .i64) v24.1))))), (15, (vc (.int .i64 x123))), (203, (vc (.bool (!(j138 == j158)))))], [(1, (.lst v4.Bones.length 4 (gl cs_Bone v4.Bones))), (2, (.box [(.lst 1 v4.Bones.length 4 (gl cs_Bone v4.Bones))])), (3, (.lst v6.1.length 1 (gl (csF .f32) v6.1))), (4, (.lst v8.1.Turns.length 4 (gl cs_Turn v8.1.Turns))), (5, (.box [(.c (.flt .f32 v8.1.Root.X.bits)), (.c (.flt .f32 v8.1.Root.Y.bits)), (.c (.flt .f32 v8.1.Root.Z.bits)), (.lst 4 v8.1.Turns.length 4 (gl cs_Turn v8.1.Turns))])), (20, (.lst v24.1.length 1 (gl (csI .i64) v24.1)))]⟩ (Tt ∧ T2 Tt) [] [5, 6, 7, 9, 11, 12, 15, 203] [1, 2, 3, 4, 5, 20] ⟨tr, tr, tr, tr⟩ (thenQ_normal ?_))
                  rcases ite2_cases h with ⟨b168, h⟩ | ⟨b168, h⟩
                  · refine AW.cond_t rfl b168 ?_
                    refine AW.seq (AW.rA ⟨[(4, (vc (.bool false)))], []⟩ (Tt ∧ Tt) [] [4] [] ⟨tr, tr⟩ (thenQ_normal ?_))
                    refine AW.ret ?_
                    refine blockQ_ret ?_
                    refine thenQ_ret ?_
                    refine loopQ_ret ?_
                    refine blockQ_ret ?_
                    replace h := some_eq h
                    subst h
                    exact ⟨rfl, Sub.keep [4] [] (by kernel_rfl) (by kernel_rfl)⟩
                  · refine AW.cond_f rfl b168 ?_
                    refine AW.skip ?_
                    refine blockQ_normal ?_
                    refine thenQ_normal ?_
                    refine AW.rA ⟨[(5, (vp 2 0)), (6, (vc (.int .i64 (v4.Bones.length : Int)))), (7, (.v (.one (.lst 3 v6.1.length 1 (gl (csF .f32) v6.1))))), (9, (vp 5 0)), (11, (vc (.int .i64 x22))), (12, (.v (.one (.lst 20 v24.1.length 1 (gl (csI .i64) v24.1))))), (15, (vc (.int .i64 (IntKind.i64.wrap (x123 + (1 : Int))))))], [(1, (.lst v4.Bones.length 4 (gl cs_Bone v4.Bones))), (2, (.box [(.lst 1 v4.Bones.length 4 (gl cs_Bone v4.Bones))])), (3, (.lst v6.1.length 1 (gl (csF .f32) v6.1))), (4, (.lst v8.1.Turns.length 4 (gl cs_Turn v8.1.Turns))), (5, (.box [(.c (.flt .f32 v8.1.Root.X.bits)), (.c (.flt .f32 v8.1.Root.Y.bits)), (.c (.flt .f32 v8.1.Root.Z.bits)), (.lst 4 v8.1.Turns.length 4 (gl cs_Turn v8.1.Turns))])), (20, (.lst v24.1.length 1 (gl (csI .i64) v24.1)))]⟩ (Tt ∧ T2 Tt) [] [5, 6, 7, 9, 11, 12, 15] [1, 2, 3, 4, 5, 20] ⟨tr, tr, tr, tr⟩ ?_
                    exact loopQ_normal (k, (IntKind.i64.wrap (x123 + (1 : Int)))) h (Nat.lt_succ_self k) (Sub.keep [5, 6, 7, 9, 11, 12, 15] [1, 2, 3, 4, 5, 20] (by kernel_rfl) (by kernel_rfl))
              · refine AW.cond_f rfl b124 ?_
                refine AW.exit ?_
                refine thenQ_exit ?_
                refine loopQ_exit ?_
                refine blockQ_exit ?_
                replace h := some_eq h
                subst h
                exact ⟨rfl, Sub.keep [5, 6, 7, 9, 11] [1, 2, 3, 4, 5] (by kernel_rfl) (by kernel_rfl)⟩
            clear e118
            intro ex1 st1 hq
            obtain j120 | j121 := j119
            · replace h := sumC_inl h
              obtain ⟨he, hs⟩ := hq
              subst he
              refine ⟨⟨[(5, (vp 2 0)), (6, (vc (.int .i64 (v4.Bones.length : Int)))), (7, (.v (.one (.lst 3 v6.1.length 1 (gl (csF .f32) v6.1))))), (9, (vp 5 0)), (11, (vc (.int .i64 x22)))], [(1, (.lst v4.Bones.length 4 (gl cs_Bone v4.Bones))), (2, (.box [(.lst 1 v4.Bones.length 4 (gl cs_Bone v4.Bones))])), (3, (.lst v6.1.length 1 (gl (csF .f32) v6.1))), (4, (.lst v8.1.Turns.length 4 (gl cs_Turn v8.1.Turns))), (5, (.box [(.c (.flt .f32 v8.1.Root.X.bits)), (.c (.flt .f32 v8.1.Root.Y.bits)), (.c (.flt .f32 v8.1.Root.Z.bits)), (.lst 4 v8.1.Turns.length 4 (gl cs_Turn v8.1.Turns))]))]⟩, hs, ?_⟩
              clear hs st1
              refine blockQ_normal ?_
              refine thenQ_normal ?_
              refine AW.rA ⟨[(5, (vp 2 0)), (6, (vc (.int .i64 (v4.Bones.length : Int)))), (7, (.v (.one (.lst 3 v6.1.length 1 (gl (csF .f32) v6.1))))), (9, (vp 5 0)), (11, (vc (.int .i64 (IntKind.i64.wrap (x22 + (1 : Int))))))], [(1, (.lst v4.Bones.length 4 (gl cs_Bone v4.Bones))), (2, (.box [(.lst 1 v4.Bones.length 4 (gl cs_Bone v4.Bones))])), (3, (.lst v6.1.length 1 (gl (csF .f32) v6.1))), (4, (.lst v8.1.Turns.length 4 (gl cs_Turn v8.1.Turns))), (5, (.box [(.c (.flt .f32 v8.1.Root.X.bits)), (.c (.flt .f32 v8.1.Root.Y.bits)), (.c (.flt .f32 v8.1.Root.Z.bits)), (.lst 4 v8.1.Turns.length 4 (gl cs_Turn v8.1.Turns))]))]⟩ (Tt ∧ T2 Tt) [] [5, 6, 7, 9, 11] [1, 2, 3, 4, 5] ⟨tr, tr, tr, tr⟩ ?_
              exact loopQ_normal (k, (IntKind.i64.wrap (x22 + (1 : Int)))) h (Nat.lt_succ_self k) (Sub.keep [5, 6, 7, 9, 11] [1, 2, 3, 4, 5] (by kernel_rfl) (by kernel_rfl))
            · replace h := sumC_inr h
              obtain ⟨he, hs⟩ := hq
              subst he
              refine ⟨⟨[(4, (vc (.bool false)))], []⟩, hs, ?_⟩
              clear hs st1
              refine blockQ_ret ?_
              refine thenQ_ret ?_
              refine loopQ_ret ?_
              refine blockQ_ret ?_
              refine thenQ_ret ?_
              replace h := some_eq h
              subst h
              exact ⟨.inr rfl, retOK_of [(.one (.c (.bool false)))] (by kernel_rfl) ⟨⟨rfl, tr⟩, tr⟩ (of_decide_eq_true (by kernel_rfl))⟩
          · replace h := sumC_inr h
            obtain ⟨he, hs⟩ := hq
            subst he
            refine ⟨⟨[(4, (vc (.bool false)))], []⟩, hs, ?_⟩
            clear hs st1
            refine thenQ_ret ?_
            refine blockQ_ret ?_
            refine thenQ_ret ?_
            refine loopQ_ret ?_
            refine blockQ_ret ?_
            refine thenQ_ret ?_
            replace h := some_eq h
            subst h
            exact ⟨.inr rfl, retOK_of [(.one (.c (.bool false)))] (by kernel_rfl) ⟨⟨rfl, tr⟩, tr⟩ (of_decide_eq_true (by kernel_rfl))⟩
      · refine AW.cond_f rfl b23 ?_
        refine AW.exit ?_
        refine thenQ_exit ?_
        refine loopQ_exit ?_
        refine blockQ_exit ?_
        refine thenQ_normal ?_
        refine AW.seq (AW.rA ⟨[(4, (vc (.bool true)))], []⟩ (Tt ∧ Tt) [] [4] [] ⟨tr, tr⟩ (thenQ_normal ?_))
        refine AW.ret ?_
        replace h := some_eq h
        subst h
        exact ⟨.inr rfl, retOK_of [(.one (.c (.bool true)))] (by kernel_rfl) ⟨⟨rfl, tr⟩, tr⟩ (of_decide_eq_true (by kernel_rfl))⟩

end
end Go.Fw
