/- Functions of the program: what each computes, and that it computes just that. -/
import Derived.Test.YtbfcahbecedaiadFwTy
import Derived.Test.YtbfcahbecedaiadFwH
import Derived.Test.YtbfcahbecedaiadFwV
import Derived.Test.YtbfcahbecedaiadFwGF1
import Derived.Test.YtbfcahbecedaiadFwHF
import Derived.Test.YtbfcahbecedaiadFwMK
import Derived.Test.YtbfcahbecedaiadFwUB
import Derived.Test.YtbfcahbecedaiadProg
import Derived.KernelRfl
namespace Go.Fw
open Go Go.Proofs
noncomputable section
set_option maxRecDepth 10000

/-! impl.SameNumber -/
def impl_SameNumber (K : Nat) (a0 : F32) (a1 : F32) : Option (Bool) :=
  (ite2 ((a0.ne a0)) (some true) (some (a1.ne a1))).bind fun j2 => ite2 (j2) ((ite2 ((a0.ne a0)) (some (a1.ne a1)) (some false)).bind fun j6 => some j6) ((ite2 ((a0.eq a1)) ((math_Signbit K (Fl.cv .f32 .f64 a0)).bind fun v9 => (math_Signbit K (Fl.cv .f32 .f64 a1)).bind fun v11 => some (v9 == v11)) (some false)).bind fun j13 => some j13)

theorem ok_impl_SameNumber (K : Nat) (a0 : F32) (a1 : F32) (o : (Bool)) (h : impl_SameNumber K a0 a1 = some o) : CallOK Try.prog 49 [.one (.flt .f32 a0.bits), .one (.flt .f32 a1.bits)] [.one (.bool o)] := by
  refine callOK_of_AW Try.func49 rfl (by kernel_rfl) (Nat.le_of_ble_eq_true (by kernel_rfl)) ?_
  intro w0
  unfold impl_SameNumber at h
  let z1 := vc (.flt .f32 a0.bits)
  let z2 := vc (.flt .f32 a1.bits)
  refine AW.sA ⟨[(0, z1), (1, z2)], []⟩ (Tt ∧ Tt) [] [0, 1] [] ⟨tr, tr⟩ ?_
  refine AW.seq ?_
  refine AW.seq ?_
  obtain ⟨j2, e3, h⟩ := bind_some h
  refine AW.join1 (s2 := ⟨[(0, z1), (1, z2), (12, (vB j2))], []⟩) ?_ ?_
  · rcases ite2_cases e3 with ⟨b1, e3⟩ | ⟨b1, e3⟩
    · replace e3 := some_eq e3
      subst e3
      exact AW.rA ⟨[(0, z1), (1, z2), (12, (vB true))], []⟩ (Tt ∧ T2 ((Tt ∧ (a0.ne a0) = true) ∧ T4 Tt)) [.no, .no, .no, .dec true] [0, 1, 12] [] ⟨tr, tr, tr, ⟨tr, b1⟩, tr, tr, tr, tr, tr⟩ ⟨rfl, rfl⟩
    · replace e3 := some_eq e3
      subst e3
      exact AW.rA ⟨[(0, z1), (1, z2), (12, (vB (a1.ne a1)))], []⟩ (Tt ∧ T2 ((Tt ∧ (a0.ne a0) = false) ∧ T4 Tt)) [.no, .no, .no, .dec false] [0, 1, 12] [] ⟨tr, tr, tr, ⟨tr, b1⟩, tr, tr, tr, tr, tr⟩ ⟨rfl, rfl⟩
  refine thenQ_normal ?_
  rcases ite2_cases h with ⟨b4, h⟩ | ⟨b4, h⟩
  · refine AW.cond_t rfl b4 ?_
    refine AW.seq ?_
    obtain ⟨j6, e7, h⟩ := bind_some h
    refine AW.join1 (s2 := ⟨[(4, (vB j6))], []⟩) ?_ ?_
    · rcases ite2_cases e7 with ⟨b5, e7⟩ | ⟨b5, e7⟩
      · replace e7 := some_eq e7
        subst e7
        exact AW.rA ⟨[(4, (vB (a1.ne a1)))], []⟩ (Tt ∧ T2 ((Tt ∧ (a0.ne a0) = true) ∧ Tt ∧ T4 Tt)) [.no, .no, .no, .dec true] [4] [] ⟨tr, tr, tr, ⟨tr, b5⟩, tr, tr, tr, tr, tr, tr⟩ ⟨rfl, rfl⟩
      · replace e7 := some_eq e7
        subst e7
        exact AW.rA ⟨[(4, (vB false))], []⟩ (Tt ∧ T2 ((Tt ∧ (a0.ne a0) = false) ∧ Tt ∧ T4 Tt)) [.no, .no, .no, .dec false] [4] [] ⟨tr, tr, tr, ⟨tr, b5⟩, tr, tr, tr, tr, tr, tr⟩ ⟨rfl, rfl⟩
    refine thenQ_normal ?_
    refine AW.ret ?_
    refine thenQ_ret ?_
    replace h := some_eq h
    subst h
    exact ⟨.inr rfl, retOK_of [(.one (.c (.bool j6)))] (by kernel_rfl) ⟨⟨rfl, tr⟩, tr⟩ (of_decide_eq_true (by kernel_rfl))⟩
  · refine AW.cond_f rfl b4 ?_
    refine AW.skip ?_
    refine thenQ_normal ?_
    refine AW.seq ?_
    obtain ⟨j13, e14, h⟩ := bind_some h
    refine AW.join1 (s2 := ⟨[(4, (vB j13))], []⟩) ?_ ?_
    · rcases ite2_cases e14 with ⟨b8, e14⟩ | ⟨b8, e14⟩
      · obtain ⟨v9, e10, e14⟩ := bind_some e14
        obtain ⟨v11, e12, e14⟩ := bind_some e14
        replace e14 := some_eq e14
        subst e14
        let z3 := Fl.cv .f32 .f64 a0
        let z4 := Fl.cv .f32 .f64 a1
        exact AW.rA ⟨[(4, (vB (v9 == v11)))], []⟩ (Tt ∧ T2 ((Tt ∧ (a0.eq a1) = true) ∧ Tt ∧ ((convBits .f32 a0.bits .f64).isSome = true) ∧ (((Eqc (.flt .f64 z3.bits)) ∧ Tt) ∧ CallOK Try.prog 66 [.one (.flt .f64 z3.bits)] [.one (.bool v9)]) ∧ Tt ∧ ((convBits .f32 a1.bits .f64).isSome = true) ∧ (((Eqc (.flt .f64 z4.bits)) ∧ Tt) ∧ CallOK Try.prog 66 [.one (.flt .f64 z4.bits)] [.one (.bool v11)]) ∧ Tt ∧ T2 Tt)) [.no, .no, .no, .dec true, .no, .no, .call [.one (.flt .f64 z3.bits)] [.one (.bool v9)] [[.view]], .no, .no, .call [.one (.flt .f64 z4.bits)] [.one (.bool v11)] [[.view]]] [4] [] ⟨tr, tr, tr, ⟨tr, b8⟩, tr, cv_wide a0, ⟨⟨rfl, tr⟩, ok_math_Signbit K z3 v9 e10⟩, tr, cv_wide a1, ⟨⟨rfl, tr⟩, ok_math_Signbit K z4 v11 e12⟩, tr, tr, tr, tr⟩ ⟨rfl, rfl⟩
      · replace e14 := some_eq e14
        subst e14
        exact AW.rA ⟨[(4, (vB false))], []⟩ (Tt ∧ T2 ((Tt ∧ (a0.eq a1) = false) ∧ Tt ∧ T4 (T4 Tt))) [.no, .no, .no, .dec false] [4] [] ⟨tr, tr, tr, ⟨tr, b8⟩, tr, tr, tr, tr, tr, tr, tr, tr, tr, tr⟩ ⟨rfl, rfl⟩
    refine thenQ_normal ?_
    refine AW.ret ?_
    replace h := some_eq h
    subst h
    exact ⟨.inr rfl, retOK_of [(.one (.c (.bool j13)))] (by kernel_rfl) ⟨⟨rfl, tr⟩, tr⟩ (of_decide_eq_true (by kernel_rfl))⟩

/-! impl.SameVector -/
def impl_SameVector (K : Nat) (a0 : Vector) (a1 : Vector) : Option (Bool) :=
  (impl_SameNumber K a0.X a1.X).bind fun v1 => (ite2 (v1) ((impl_SameNumber K a0.Y a1.Y).bind fun v4 => ite2 (v4) ((impl_SameNumber K a0.Z a1.Z).bind fun v7 => some v7) (some false)) (some false)).bind fun j9 => some j9

theorem ok_impl_SameVector (K : Nat) (a0 : Vector) (a1 : Vector) (o : (Bool)) (h : impl_SameVector K a0 a1 = some o) : CallOK Try.prog 29 [.agg (cs_Vector a0), .agg (cs_Vector a1)] [.one (.bool o)] := by
  refine callOK_of_AW Try.func29 rfl (by kernel_rfl) (Nat.le_of_ble_eq_true (by kernel_rfl)) ?_
  intro w0
  unfold impl_SameVector at h
  refine AW.sA ⟨[(2, (vp 1 0)), (3, (vp 2 0))], [(1, (.box [(cF a0.X), (cF a0.Y), (cF a0.Z)])), (2, (.box [(cF a1.X), (cF a1.Y), (cF a1.Z)]))]⟩ (Tt ∧ T2 Tt) [.box 1, .box 2] [2, 3] [1, 2] ⟨tr, tr, tr, tr⟩ ?_
  refine AW.seq ?_
  obtain ⟨v1, e2, h⟩ := bind_some h
  obtain ⟨j9, e10, h⟩ := bind_some h
  refine AW.join1 (s2 := ⟨[(4, (vB j9))], []⟩) ?_ ?_
  · rcases ite2_cases e10 with ⟨b3, e10⟩ | ⟨b3, e10⟩
    · obtain ⟨v4, e5, e10⟩ := bind_some e10
      rcases ite2_cases e10 with ⟨b6, e10⟩ | ⟨b6, e10⟩
      · obtain ⟨v7, e8, e10⟩ := bind_some e10
        replace e10 := some_eq e10
        subst e10
        let z2 : List CT := [.one (.flt .f32 a0.X.bits), .one (.flt .f32 a1.X.bits)]
        let z3 : List CT := [.one (.flt .f32 a0.Y.bits), .one (.flt .f32 a1.Y.bits)]
        let z4 : List CT := [.one (.flt .f32 a0.Z.bits), .one (.flt .f32 a1.Z.bits)]
        exact AW.rA ⟨[(4, (vB v7))], []⟩ (T4 ((((eF a0.X) ∧ (eF a1.X) ∧ Tt) ∧ CallOK Try.prog 49 z2 [.one (.bool v1)]) ∧ (Tt ∧ v1 = true) ∧ T4 ((((eF a0.Y) ∧ (eF a1.Y) ∧ Tt) ∧ CallOK Try.prog 49 z3 [.one (.bool v4)]) ∧ Tt ∧ (Tt ∧ v4 = true) ∧ T4 ((((eF a0.Z) ∧ (eF a1.Z) ∧ Tt) ∧ CallOK Try.prog 49 z4 [.one (.bool v7)]) ∧ T2 Tt)))) [.no, .no, .no, .no, .call z2 [.one (.bool v1)] [[.view]], .dec true, .no, .no, .no, .no, .call z3 [.one (.bool v4)] [[.view]], .no, .dec true, .no, .no, .no, .no, .call z4 [.one (.bool v7)] [[.view]]] [4] [] ⟨tr, tr, tr, tr, ⟨⟨rfl, rfl, tr⟩, ok_impl_SameNumber K a0.X a1.X v1 e2⟩, ⟨tr, b3⟩, tr, tr, tr, tr, ⟨⟨rfl, rfl, tr⟩, ok_impl_SameNumber K a0.Y a1.Y v4 e5⟩, tr, ⟨tr, b6⟩, tr, tr, tr, tr, ⟨⟨rfl, rfl, tr⟩, ok_impl_SameNumber K a0.Z a1.Z v7 e8⟩, tr, tr, tr⟩ ⟨rfl, rfl⟩
      · replace e10 := some_eq e10
        subst e10
        let z5 : List CT := [.one (.flt .f32 a0.X.bits), .one (.flt .f32 a1.X.bits)]
        let z6 : List CT := [.one (.flt .f32 a0.Y.bits), .one (.flt .f32 a1.Y.bits)]
        exact AW.rA ⟨[(4, (vB false))], []⟩ (T4 ((((eF a0.X) ∧ (eF a1.X) ∧ Tt) ∧ CallOK Try.prog 49 z5 [.one (.bool v1)]) ∧ (Tt ∧ v1 = true) ∧ T4 ((((eF a0.Y) ∧ (eF a1.Y) ∧ Tt) ∧ CallOK Try.prog 49 z6 [.one (.bool v4)]) ∧ Tt ∧ (Tt ∧ v4 = false) ∧ Tt ∧ T2 (T4 Tt)))) [.no, .no, .no, .no, .call z5 [.one (.bool v1)] [[.view]], .dec true, .no, .no, .no, .no, .call z6 [.one (.bool v4)] [[.view]], .no, .dec false] [4] [] ⟨tr, tr, tr, tr, ⟨⟨rfl, rfl, tr⟩, ok_impl_SameNumber K a0.X a1.X v1 e2⟩, ⟨tr, b3⟩, tr, tr, tr, tr, ⟨⟨rfl, rfl, tr⟩, ok_impl_SameNumber K a0.Y a1.Y v4 e5⟩, tr, ⟨tr, b6⟩, tr, tr, tr, tr, tr, tr, tr, tr⟩ ⟨rfl, rfl⟩
    · replace e10 := some_eq e10
      subst e10
      let z1 : List CT := [.one (.flt .f32 a0.X.bits), .one (.flt .f32 a1.X.bits)]
      exact AW.rA ⟨[(4, (vB false))], []⟩ (T4 ((((eF a0.X) ∧ (eF a1.X) ∧ Tt) ∧ CallOK Try.prog 49 z1 [.one (.bool v1)]) ∧ (Tt ∧ v1 = false) ∧ T2 (T4 (T4 (T4 Tt))))) [.no, .no, .no, .no, .call z1 [.one (.bool v1)] [[.view]], .dec false] [4] [] ⟨tr, tr, tr, tr, ⟨⟨rfl, rfl, tr⟩, ok_impl_SameNumber K a0.X a1.X v1 e2⟩, ⟨tr, b3⟩, tr, tr, tr, tr, tr, tr, tr, tr, tr, tr, tr, tr, tr, tr, tr⟩ ⟨rfl, rfl⟩
  refine thenQ_normal ?_
  refine AW.ret ?_
  replace h := some_eq h
  subst h
  exact ⟨.inr rfl, retOK_of [(.one (.c (.bool j9)))] (by kernel_rfl) ⟨⟨rfl, tr⟩, tr⟩ (of_decide_eq_true (by kernel_rfl))⟩

/-! impl.SameTurn -/
def impl_SameTurn (K : Nat) (a0 : Turn) (a1 : Turn) : Option (Bool) :=
  (impl_SameNumber K a0.W a1.W).bind fun v1 => (ite2 (v1) ((impl_SameNumber K a0.X a1.X).bind fun v4 => ite2 (v4) ((impl_SameNumber K a0.Y a1.Y).bind fun v7 => ite2 (v7) ((impl_SameNumber K a0.Z a1.Z).bind fun v10 => some v10) (some false)) (some false)) (some false)).bind fun j12 => some j12

theorem ok_impl_SameTurn (K : Nat) (a0 : Turn) (a1 : Turn) (o : (Bool)) (h : impl_SameTurn K a0 a1 = some o) : CallOK Try.prog 31 [.agg (cs_Turn a0), .agg (cs_Turn a1)] [.one (.bool o)] := by
  refine callOK_of_AW Try.func31 rfl (by kernel_rfl) (Nat.le_of_ble_eq_true (by kernel_rfl)) ?_
  intro w0
  unfold impl_SameTurn at h
  refine AW.sA ⟨[(2, (vp 1 0)), (3, (vp 2 0))], [(1, (.box [(cF a0.W), (cF a0.X), (cF a0.Y), (cF a0.Z)])), (2, (.box [(cF a1.W), (cF a1.X), (cF a1.Y), (cF a1.Z)]))]⟩ (Tt ∧ T2 Tt) [.box 1, .box 2] [2, 3] [1, 2] ⟨tr, tr, tr, tr⟩ ?_
  refine AW.seq ?_
  obtain ⟨v1, e2, h⟩ := bind_some h
  obtain ⟨j12, e13, h⟩ := bind_some h
  refine AW.join1 (s2 := ⟨[(4, (vB j12))], []⟩) ?_ ?_
  · rcases ite2_cases e13 with ⟨b3, e13⟩ | ⟨b3, e13⟩
    · obtain ⟨v4, e5, e13⟩ := bind_some e13
      rcases ite2_cases e13 with ⟨b6, e13⟩ | ⟨b6, e13⟩
      · obtain ⟨v7, e8, e13⟩ := bind_some e13
        rcases ite2_cases e13 with ⟨b9, e13⟩ | ⟨b9, e13⟩
        · obtain ⟨v10, e11, e13⟩ := bind_some e13
          replace e13 := some_eq e13
          subst e13
          let z4 : List CT := [.one (.flt .f32 a0.W.bits), .one (.flt .f32 a1.W.bits)]
          let z5 : List CT := [.one (.flt .f32 a0.X.bits), .one (.flt .f32 a1.X.bits)]
          let z6 : List CT := [.one (.flt .f32 a0.Y.bits), .one (.flt .f32 a1.Y.bits)]
          let z7 : List CT := [.one (.flt .f32 a0.Z.bits), .one (.flt .f32 a1.Z.bits)]
          exact AW.rA ⟨[(4, (vB v10))], []⟩ (T4 ((((eF a0.W) ∧ (eF a1.W) ∧ Tt) ∧ CallOK Try.prog 49 z4 [.one (.bool v1)]) ∧ (Tt ∧ v1 = true) ∧ T4 ((((eF a0.X) ∧ (eF a1.X) ∧ Tt) ∧ CallOK Try.prog 49 z5 [.one (.bool v4)]) ∧ Tt ∧ (Tt ∧ v4 = true) ∧ T4 ((((eF a0.Y) ∧ (eF a1.Y) ∧ Tt) ∧ CallOK Try.prog 49 z6 [.one (.bool v7)]) ∧ Tt ∧ (Tt ∧ v7 = true) ∧ T4 ((((eF a0.Z) ∧ (eF a1.Z) ∧ Tt) ∧ CallOK Try.prog 49 z7 [.one (.bool v10)]) ∧ T2 Tt))))) [.no, .no, .no, .no, .call z4 [.one (.bool v1)] [[.view]], .dec true, .no, .no, .no, .no, .call z5 [.one (.bool v4)] [[.view]], .no, .dec true, .no, .no, .no, .no, .call z6 [.one (.bool v7)] [[.view]], .no, .dec true, .no, .no, .no, .no, .call z7 [.one (.bool v10)] [[.view]]] [4] [] ⟨tr, tr, tr, tr, ⟨⟨rfl, rfl, tr⟩, ok_impl_SameNumber K a0.W a1.W v1 e2⟩, ⟨tr, b3⟩, tr, tr, tr, tr, ⟨⟨rfl, rfl, tr⟩, ok_impl_SameNumber K a0.X a1.X v4 e5⟩, tr, ⟨tr, b6⟩, tr, tr, tr, tr, ⟨⟨rfl, rfl, tr⟩, ok_impl_SameNumber K a0.Y a1.Y v7 e8⟩, tr, ⟨tr, b9⟩, tr, tr, tr, tr, ⟨⟨rfl, rfl, tr⟩, ok_impl_SameNumber K a0.Z a1.Z v10 e11⟩, tr, tr, tr⟩ ⟨rfl, rfl⟩
        · replace e13 := some_eq e13
          subst e13
          let z8 : List CT := [.one (.flt .f32 a0.W.bits), .one (.flt .f32 a1.W.bits)]
          let z9 : List CT := [.one (.flt .f32 a0.X.bits), .one (.flt .f32 a1.X.bits)]
          let z10 : List CT := [.one (.flt .f32 a0.Y.bits), .one (.flt .f32 a1.Y.bits)]
          exact AW.rA ⟨[(4, (vB false))], []⟩ (T4 ((((eF a0.W) ∧ (eF a1.W) ∧ Tt) ∧ CallOK Try.prog 49 z8 [.one (.bool v1)]) ∧ (Tt ∧ v1 = true) ∧ T4 ((((eF a0.X) ∧ (eF a1.X) ∧ Tt) ∧ CallOK Try.prog 49 z9 [.one (.bool v4)]) ∧ Tt ∧ (Tt ∧ v4 = true) ∧ T4 ((((eF a0.Y) ∧ (eF a1.Y) ∧ Tt) ∧ CallOK Try.prog 49 z10 [.one (.bool v7)]) ∧ Tt ∧ (Tt ∧ v7 = false) ∧ Tt ∧ T2 (T4 Tt))))) [.no, .no, .no, .no, .call z8 [.one (.bool v1)] [[.view]], .dec true, .no, .no, .no, .no, .call z9 [.one (.bool v4)] [[.view]], .no, .dec true, .no, .no, .no, .no, .call z10 [.one (.bool v7)] [[.view]], .no, .dec false] [4] [] ⟨tr, tr, tr, tr, ⟨⟨rfl, rfl, tr⟩, ok_impl_SameNumber K a0.W a1.W v1 e2⟩, ⟨tr, b3⟩, tr, tr, tr, tr, ⟨⟨rfl, rfl, tr⟩, ok_impl_SameNumber K a0.X a1.X v4 e5⟩, tr, ⟨tr, b6⟩, tr, tr, tr, tr, ⟨⟨rfl, rfl, tr⟩, ok_impl_SameNumber K a0.Y a1.Y v7 e8⟩, tr, ⟨tr, b9⟩, tr, tr, tr, tr, tr, tr, tr, tr⟩ ⟨rfl, rfl⟩
      · replace e13 := some_eq e13
        subst e13
        let z2 : List CT := [.one (.flt .f32 a0.W.bits), .one (.flt .f32 a1.W.bits)]
        let z3 : List CT := [.one (.flt .f32 a0.X.bits), .one (.flt .f32 a1.X.bits)]
        exact AW.rA ⟨[(4, (vB false))], []⟩ (T4 ((((eF a0.W) ∧ (eF a1.W) ∧ Tt) ∧ CallOK Try.prog 49 z2 [.one (.bool v1)]) ∧ (Tt ∧ v1 = true) ∧ T4 ((((eF a0.X) ∧ (eF a1.X) ∧ Tt) ∧ CallOK Try.prog 49 z3 [.one (.bool v4)]) ∧ Tt ∧ (Tt ∧ v4 = false) ∧ T2 (T4 (T4 (T4 Tt)))))) [.no, .no, .no, .no, .call z2 [.one (.bool v1)] [[.view]], .dec true, .no, .no, .no, .no, .call z3 [.one (.bool v4)] [[.view]], .no, .dec false] [4] [] ⟨tr, tr, tr, tr, ⟨⟨rfl, rfl, tr⟩, ok_impl_SameNumber K a0.W a1.W v1 e2⟩, ⟨tr, b3⟩, tr, tr, tr, tr, ⟨⟨rfl, rfl, tr⟩, ok_impl_SameNumber K a0.X a1.X v4 e5⟩, tr, ⟨tr, b6⟩, tr, tr, tr, tr, tr, tr, tr, tr, tr, tr, tr, tr, tr, tr, tr⟩ ⟨rfl, rfl⟩
    · replace e13 := some_eq e13
      subst e13
      let z1 : List CT := [.one (.flt .f32 a0.W.bits), .one (.flt .f32 a1.W.bits)]
      exact AW.rA ⟨[(4, (vB false))], []⟩ (T4 ((((eF a0.W) ∧ (eF a1.W) ∧ Tt) ∧ CallOK Try.prog 49 z1 [.one (.bool v1)]) ∧ (Tt ∧ v1 = false) ∧ Tt ∧ T4 (T4 (T4 (T4 (T4 Tt)))))) [.no, .no, .no, .no, .call z1 [.one (.bool v1)] [[.view]], .dec false] [4] [] ⟨tr, tr, tr, tr, ⟨⟨rfl, rfl, tr⟩, ok_impl_SameNumber K a0.W a1.W v1 e2⟩, ⟨tr, b3⟩, tr, tr, tr, tr, tr, tr, tr, tr, tr, tr, tr, tr, tr, tr, tr, tr, tr, tr, tr, tr, tr, tr⟩ ⟨rfl, rfl⟩
  refine thenQ_normal ?_
  refine AW.ret ?_
  replace h := some_eq h
  subst h
  exact ⟨.inr rfl, retOK_of [(.one (.c (.bool j12)))] (by kernel_rfl) ⟨⟨rfl, tr⟩, tr⟩ (of_decide_eq_true (by kernel_rfl))⟩

/-! slices.EqualFunc[[]impl.Turn,[]impl.Turn,impl.Turn,impl.Turn] -/
def slices_EqualFunc_impl_Turn_impl_Turn_impl_Turn_impl_Turn_l1 (K : Nat) (a0 : (List Turn)) (a1 : (List Turn)) : Nat → Int → Option (Bool)
  | 0, _ => none
  | k + 1, x3 => ite2 ((decide (x3 < (a0.length : Int)))) (chk (0 ≤ x3 ∧ x3 < (a0.length : Int)) (chk (0 ≤ x3 ∧ x3 < (a1.length : Int)) ((impl_SameTurn K (a0.getD x3.toNat default) (a1.getD x3.toNat default)).bind fun v7 => ite2 ((!v7)) (some false) (slices_EqualFunc_impl_Turn_impl_Turn_impl_Turn_impl_Turn_l1 K a0 a1 k (IntKind.i64.wrap (x3 + (1 : Int))))))) (some true)

def slices_EqualFunc_impl_Turn_impl_Turn_impl_Turn_impl_Turn (K : Nat) (a0 : (List Turn)) (a1 : (List Turn)) : Option (Bool) :=
  ite2 (((a0.length : Int) != (a1.length : Int))) (some false) (slices_EqualFunc_impl_Turn_impl_Turn_impl_Turn_impl_Turn_l1 K a0 a1 K (0 : Int))

theorem ok_slices_EqualFunc_impl_Turn_impl_Turn_impl_Turn_impl_Turn (K : Nat) (a0 : (List Turn)) (a1 : (List Turn)) (o : (Bool)) (h : slices_EqualFunc_impl_Turn_impl_Turn_impl_Turn_impl_Turn K a0 a1 = some o) : CallOK Try.prog 30 [.one (sl 4 cs_Turn a0), .one (sl 4 cs_Turn a1), .one (.fn 31 0 fun _ => .nilptr)] [.one (.bool o)] := by
  refine callOK_of_AW Try.func30 rfl (by kernel_rfl) (Nat.le_of_ble_eq_true (by kernel_rfl)) ?_
  intro w0
  unfold slices_EqualFunc_impl_Turn_impl_Turn_impl_Turn_impl_Turn at h
  refine AW.sC (Tt ∧ Tt) [] [0, 1, 2] [] ⟨tr, tr⟩ ?_
  refine AW.seq ?_
  let z3 := vc (sl 4 cs_Turn a0)
  let z4 := vc (sl 4 cs_Turn a1)
  refine AW.sA ⟨[(0, z3), (1, z4), (2, (vc (.fn 31 0 fun _ => .nilptr))), (14, (vB ((a0.length : Int) != (a1.length : Int))))], []⟩ (Tt ∧ T4 Tt) [] [0, 1, 2, 14] [] ⟨tr, tr, tr, tr, tr, tr⟩ ?_
  rcases ite2_cases h with ⟨b1, h⟩ | ⟨b1, h⟩
  · refine AW.cond_t rfl b1 ?_
    refine AW.sA ⟨[(6, (vB false))], []⟩ (Tt ∧ Tt) [] [6] [] ⟨tr, tr⟩ ?_
    refine AW.ret ?_
    refine thenQ_ret ?_
    replace h := some_eq h
    subst h
    exact ⟨.inr rfl, retOK_of [(.one (.c (.bool false)))] (by kernel_rfl) ⟨⟨rfl, tr⟩, tr⟩ (of_decide_eq_true (by kernel_rfl))⟩
  · refine AW.cond_f rfl b1 ?_
    refine AW.skip ?_
    refine thenQ_normal ?_
    refine AW.seq ?_
    let z5 := vI (a0.length : Int)
    refine AW.sA ⟨[(1, z4), (2, (vc (.fn 31 0 fun _ => .nilptr))), (15, z3), (16, z5), (17, (vI (0 : Int)))], []⟩ (Tt ∧ T2 Tt) [] [1, 2, 15, 16, 17] [] ⟨tr, tr, tr, tr⟩ ?_
    refine AW.block ?_
    refine AW.loopQ (σ := Nat × Int) (fun p => ⟨[(1, z4), (2, (vc (.fn 31 0 fun _ => .nilptr))), (15, z3), (16, z5), (17, (vI p.2))], []⟩) (fun p => slices_EqualFunc_impl_Turn_impl_Turn_impl_Turn_impl_Turn_l1 K a0 a1 p.1 p.2 = some o) (fun p => p.1) (K, (0 : Int)) h ?_
    clear h
    rintro ⟨k, x3⟩ h
    replace h : slices_EqualFunc_impl_Turn_impl_Turn_impl_Turn_impl_Turn_l1 K a0 a1 k x3 = some o := h
    show AW _ _ (⟨[(1, z4), (2, (vc (.fn 31 0 fun _ => .nilptr))), (15, z3), (16, z5), (17, (vI x3))], []⟩ : St) _
    obtain _ | k := k
    · rw [slices_EqualFunc_impl_Turn_impl_Turn_impl_Turn_impl_Turn_l1] at h; cases h
    rw [slices_EqualFunc_impl_Turn_impl_Turn_impl_Turn_impl_Turn_l1] at h
    refine AW.sA ⟨[(1, z4), (2, (vc (.fn 31 0 fun _ => .nilptr))), (15, z3), (16, z5), (17, (vI x3)), (18, (vB (decide (x3 < (a0.length : Int)))))], []⟩ (Tt ∧ Tt) [] [1, 2, 15, 16, 17, 18] [] ⟨tr, tr⟩ ?_
    refine AW.seq ?_
    rcases ite2_cases h with ⟨b4, h⟩ | ⟨b4, h⟩
    · refine AW.cond_t rfl b4 ?_
      refine AW.skip ?_
      refine thenQ_normal ?_
      refine AW.seq ?_
      refine AW.block ?_
      refine AW.seq ?_
      obtain ⟨c5, h⟩ := chk_some h
      refine AW.tC (Tt ∧ (0 ≤ x3 ∧ x3 < (a0.length : Int)) ∧ T4 Tt) [.no, .no, .no, .box 5] [1, 2, 7, 8, 15, 16, 17] [5] ⟨tr, c5, tr, tr, tr, tr, tr⟩ ?_
      refine AW.seq ?_
      obtain ⟨c6, h⟩ := chk_some h
      refine AW.tC (T2 ((0 ≤ x3 ∧ x3 < (a1.length : Int)) ∧ Tt ∧ T2 Tt)) [.no, .no, .no, .no, .box 6] [1, 2, 8, 9, 15, 16, 17] [5, 6] ⟨tr, tr, c6, tr, tr, tr, tr⟩ ?_
      refine AW.seq ?_
      obtain ⟨v7, e8, h⟩ := bind_some h
      let z1 := a0.getD x3.toNat default
      let z2 := a1.getD x3.toNat default
      refine AW.tA ⟨[(1, z4), (2, (vc (.fn 31 0 fun _ => .nilptr))), (15, z3), (16, z5), (17, (vI x3)), (30, (vB (!v7)))], []⟩ (Tt ∧ T2 (((((eF (z1.W)) ∧ (eF (z1.X)) ∧ (eF (z1.Y)) ∧ (eF (z1.Z)) ∧ Tt) ∧ ((eF (z2.W)) ∧ (eF (z2.X)) ∧ (eF (z2.Y)) ∧ (eF (z2.Z)) ∧ Tt) ∧ Tt) ∧ CallOK Try.prog 31 [.agg (cs_Turn z1), .agg (cs_Turn z2)] [.one (.bool v7)]) ∧ Tt ∧ Tt)) [.no, .no, .no, .call [.agg (cs_Turn z1), .agg (cs_Turn z2)] [.one (.bool v7)] [[.view]]] [1, 2, 15, 16, 17, 30] [] ⟨tr, tr, tr, ⟨⟨⟨rfl, rfl, rfl, rfl, tr⟩, ⟨rfl, rfl, rfl, rfl, tr⟩, tr⟩, ok_impl_SameTurn K z1 z2 v7 e8⟩, tr, tr⟩ ?_
      rcases ite2_cases h with ⟨b9, h⟩ | ⟨b9, h⟩
      · refine AW.cond_t rfl b9 ?_
        refine AW.sA ⟨[(6, (vB false))], []⟩ (Tt ∧ Tt) [] [6] [] ⟨tr, tr⟩ ?_
        refine AW.ret ?_
        refine blockQ_ret ?_
        refine thenQ_ret ?_
        refine loopQ_ret ?_
        refine blockQ_ret ?_
        refine thenQ_ret ?_
        replace h := some_eq h
        subst h
        exact ⟨.inr rfl, retOK_of [(.one (.c (.bool false)))] (by kernel_rfl) ⟨⟨rfl, tr⟩, tr⟩ (of_decide_eq_true (by kernel_rfl))⟩
      · refine AW.cond_f rfl b9 ?_
        refine AW.skip ?_
        refine blockQ_normal ?_
        refine thenQ_normal ?_
        let z6 := IntKind.i64.wrap (x3 + (1 : Int))
        refine AW.rA ⟨[(1, z4), (2, (vc (.fn 31 0 fun _ => .nilptr))), (15, z3), (16, z5), (17, (vI z6))], []⟩ (T2 Tt) [] [1, 2, 15, 16, 17] [] ⟨tr, tr, tr⟩ ?_
        exact loopQ_normal (k, z6) h (Nat.lt_succ_self k) (Sub.keep [1, 2, 15, 16, 17] [] (by kernel_rfl) (by kernel_rfl))
    · refine AW.cond_f rfl b4 ?_
      refine AW.exit ?_
      refine thenQ_exit ?_
      refine loopQ_exit ?_
      refine blockQ_exit ?_
      refine thenQ_normal ?_
      refine AW.sA ⟨[(6, (vB true))], []⟩ (Tt ∧ Tt) [] [6] [] ⟨tr, tr⟩ ?_
      refine AW.ret ?_
      replace h := some_eq h
      subst h
      exact ⟨.inr rfl, retOK_of [(.one (.c (.bool true)))] (by kernel_rfl) ⟨⟨rfl, tr⟩, tr⟩ (of_decide_eq_true (by kernel_rfl))⟩

/-! impl.SamePose -/
def impl_SamePose (K : Nat) (a0 : Pose) (a1 : Pose) : Option (Bool) :=
  (impl_SameVector K a0.Root a1.Root).bind fun v1 => (ite2 (v1) ((slices_EqualFunc_impl_Turn_impl_Turn_impl_Turn_impl_Turn K a0.Turns a1.Turns).bind fun v4 => some v4) (some false)).bind fun j6 => some j6

theorem ok_impl_SamePose (K : Nat) (a0 : Pose) (a1 : Pose) (o : (Bool)) (h : impl_SamePose K a0 a1 = some o) : CallOK Try.prog 11 [.agg (cs_Pose a0), .agg (cs_Pose a1)] [.one (.bool o)] := by
  refine callOK_of_AW Try.func11 rfl (by kernel_rfl) (Nat.le_of_ble_eq_true (by kernel_rfl)) ?_
  intro w0
  unfold impl_SamePose at h
  let z1 := sl 4 cs_Turn a0.Turns
  let z2 := sl 4 cs_Turn a1.Turns
  refine AW.sA ⟨[(2, (vp 1 0)), (3, (vp 2 0))], [(1, (.box [(cF a0.Root.X), (cF a0.Root.Y), (cF a0.Root.Z), (.c z1)])), (2, (.box [(cF a1.Root.X), (cF a1.Root.Y), (cF a1.Root.Z), (.c z2)]))]⟩ (Tt ∧ T2 Tt) [.box 1, .box 2] [2, 3] [1, 2] ⟨tr, tr, tr, tr⟩ ?_
  refine AW.seq ?_
  obtain ⟨v1, e2, h⟩ := bind_some h
  obtain ⟨j6, e7, h⟩ := bind_some h
  refine AW.join1 (s2 := ⟨[(4, (vB j6))], []⟩) ?_ ?_
  · rcases ite2_cases e7 with ⟨b3, e7⟩ | ⟨b3, e7⟩
    · obtain ⟨v4, e5, e7⟩ := bind_some e7
      replace e7 := some_eq e7
      subst e7
      let z3 : List CT := [.agg (cs_Vector a0.Root), .agg (cs_Vector a1.Root)]
      exact AW.rA ⟨[(4, (vB v4))], []⟩ (T4 (((((eF a0.Root.X) ∧ (eF a0.Root.Y) ∧ (eF a0.Root.Z) ∧ Tt) ∧ ((eF a1.Root.X) ∧ (eF a1.Root.Y) ∧ (eF a1.Root.Z) ∧ Tt) ∧ Tt) ∧ CallOK Try.prog 29 z3 [.one (.bool v1)]) ∧ (Tt ∧ v1 = true) ∧ T4 ((((Eqc z1) ∧ (Eqc z2) ∧ (Eqc (.fn 31 0 fun _ => .nilptr)) ∧ Tt) ∧ CallOK Try.prog 30 [.one z1, .one z2, .one (.fn 31 0 fun _ => .nilptr)] [.one (.bool v4)]) ∧ T2 Tt))) [.no, .no, .no, .no, .call z3 [.one (.bool v1)] [[.view]], .dec true, .no, .no, .no, .no, .call [.one z1, .one z2, .one (.fn 31 0 fun _ => .nilptr)] [.one (.bool v4)] [[.view]]] [4] [] ⟨tr, tr, tr, tr, ⟨⟨⟨rfl, rfl, rfl, tr⟩, ⟨rfl, rfl, rfl, tr⟩, tr⟩, ok_impl_SameVector K a0.Root a1.Root v1 e2⟩, ⟨tr, b3⟩, tr, tr, tr, tr, ⟨⟨rfl, rfl, rfl, tr⟩, ok_slices_EqualFunc_impl_Turn_impl_Turn_impl_Turn_impl_Turn K a0.Turns a1.Turns v4 e5⟩, tr, tr, tr⟩ ⟨rfl, rfl⟩
    · replace e7 := some_eq e7
      subst e7
      let z4 : List CT := [.agg (cs_Vector a0.Root), .agg (cs_Vector a1.Root)]
      exact AW.rA ⟨[(4, (vB false))], []⟩ (T4 (((((eF a0.Root.X) ∧ (eF a0.Root.Y) ∧ (eF a0.Root.Z) ∧ Tt) ∧ ((eF a1.Root.X) ∧ (eF a1.Root.Y) ∧ (eF a1.Root.Z) ∧ Tt) ∧ Tt) ∧ CallOK Try.prog 29 z4 [.one (.bool v1)]) ∧ (Tt ∧ v1 = false) ∧ Tt ∧ T2 (T4 Tt))) [.no, .no, .no, .no, .call z4 [.one (.bool v1)] [[.view]], .dec false] [4] [] ⟨tr, tr, tr, tr, ⟨⟨⟨rfl, rfl, rfl, tr⟩, ⟨rfl, rfl, rfl, tr⟩, tr⟩, ok_impl_SameVector K a0.Root a1.Root v1 e2⟩, ⟨tr, b3⟩, tr, tr, tr, tr, tr, tr, tr, tr⟩ ⟨rfl, rfl⟩
  refine thenQ_normal ?_
  refine AW.ret ?_
  replace h := some_eq h
  subst h
  exact ⟨.inr rfl, retOK_of [(.one (.c (.bool j6)))] (by kernel_rfl) ⟨⟨rfl, tr⟩, tr⟩ (of_decide_eq_true (by kernel_rfl))⟩

/-! math.Float32bits -/
def math_Float32bits (_K : Nat) (a0 : F32) : Option (Int) :=
  a0.toBits

theorem ok_math_Float32bits (K : Nat) (a0 : F32) (o : Int) (h : math_Float32bits K a0 = some o) : CallOK Try.prog 87 [.one (.flt .f32 a0.bits)] [.one (.int .u32 o)] :=
  hand_toBits (e := Extern.MathFloatBits.float32bits) Try.func87 (by kernel_rfl) (by kernel_rfl) (by kernel_rfl) (by kernel_rfl) (fun _ _ => rfl) a0 o h

/-! spec.l01Bits -/
def spec_l01Bits (K : Nat) (a0 : F32) : Option (Int) :=
  ite2 ((a0.ne a0)) (some (2143289344 : Int)) ((math_Float32bits K a0).bind fun v2 => some (IntKind.i64.wrap v2))

theorem ok_spec_l01Bits (K : Nat) (a0 : F32) (o : (Int)) (h : spec_l01Bits K a0 = some o) : CallOK Try.prog 67 [.one (.flt .f32 a0.bits)] [.one (.int .i64 o)] := by
  refine callOK_of_AW Try.func67 rfl (by kernel_rfl) (Nat.le_of_ble_eq_true (by kernel_rfl)) ?_
  intro w0
  unfold spec_l01Bits at h
  refine AW.sC (Tt ∧ Tt) [] [0] [] ⟨tr, tr⟩ ?_
  refine AW.seq ?_
  refine AW.sA ⟨[(0, (vc (.flt .f32 a0.bits))), (5, (vB (a0.ne a0)))], []⟩ (Tt ∧ T2 Tt) [] [0, 5] [] ⟨tr, tr, tr, tr⟩ ?_
  rcases ite2_cases h with ⟨b1, h⟩ | ⟨b1, h⟩
  · refine AW.cond_t rfl b1 ?_
    refine AW.sA ⟨[(2, (vI (2143289344 : Int)))], []⟩ (Tt ∧ Tt) [] [2] [] ⟨tr, tr⟩ ?_
    refine AW.ret ?_
    refine thenQ_ret ?_
    replace h := some_eq h
    subst h
    exact ⟨.inr rfl, retOK_of [(.one (cI (2143289344 : Int)))] (by kernel_rfl) ⟨⟨rfl, tr⟩, tr⟩ (of_decide_eq_true (by kernel_rfl))⟩
  · refine AW.cond_f rfl b1 ?_
    refine AW.skip ?_
    refine thenQ_normal ?_
    refine AW.seq ?_
    obtain ⟨v2, e3, h⟩ := bind_some h
    refine AW.tA ⟨[(2, (vI (IntKind.i64.wrap v2)))], []⟩ (Tt ∧ (((eF a0) ∧ Tt) ∧ CallOK Try.prog 87 [.one (.flt .f32 a0.bits)] [.one (.int .u32 v2)]) ∧ T2 Tt) [.no, .call [.one (.flt .f32 a0.bits)] [.one (.int .u32 v2)] [[.view]]] [2] [] ⟨tr, ⟨⟨rfl, tr⟩, ok_math_Float32bits K a0 v2 e3⟩, tr, tr, tr⟩ ?_
    refine AW.ret ?_
    replace h := some_eq h
    subst h
    exact ⟨.inr rfl, retOK_of [(.one (cI (IntKind.i64.wrap v2)))] (by kernel_rfl) ⟨⟨rfl, tr⟩, tr⟩ (of_decide_eq_true (by kernel_rfl))⟩

/-! spec.l01Same -/
def spec_l01Same (K : Nat) (a0 : F32) (a1 : F32) : Option (Bool) :=
  (spec_l01Bits K a0).bind fun v1 => (spec_l01Bits K a1).bind fun v3 => some (v1 == v3)

theorem ok_spec_l01Same (K : Nat) (a0 : F32) (a1 : F32) (o : (Bool)) (h : spec_l01Same K a0 a1 = some o) : CallOK Try.prog 50 [.one (.flt .f32 a0.bits), .one (.flt .f32 a1.bits)] [.one (.bool o)] := by
  refine callOK_of_AW Try.func50 rfl (by kernel_rfl) (Nat.le_of_ble_eq_true (by kernel_rfl)) ?_
  intro w0
  unfold spec_l01Same at h
  refine AW.sC (Tt ∧ Tt) [] [0, 1] [] ⟨tr, tr⟩ ?_
  refine AW.seq ?_
  obtain ⟨v1, e2, h⟩ := bind_some h
  obtain ⟨v3, e4, h⟩ := bind_some h
  refine AW.tA ⟨[(4, (vB (v1 == v3)))], []⟩ (Tt ∧ (((eF a0) ∧ Tt) ∧ CallOK Try.prog 67 [.one (.flt .f32 a0.bits)] [.one (.int .i64 v1)]) ∧ Tt ∧ (((eF a1) ∧ Tt) ∧ CallOK Try.prog 67 [.one (.flt .f32 a1.bits)] [.one (.int .i64 v3)]) ∧ T2 Tt) [.no, .call [.one (.flt .f32 a0.bits)] [.one (.int .i64 v1)] [[.view]], .no, .call [.one (.flt .f32 a1.bits)] [.one (.int .i64 v3)] [[.view]]] [4] [] ⟨tr, ⟨⟨rfl, tr⟩, ok_spec_l01Bits K a0 v1 e2⟩, tr, ⟨⟨rfl, tr⟩, ok_spec_l01Bits K a1 v3 e4⟩, tr, tr, tr⟩ ?_
  refine AW.ret ?_
  replace h := some_eq h
  subst h
  exact ⟨.inr rfl, retOK_of [(.one (.c (.bool (v1 == v3))))] (by kernel_rfl) ⟨⟨rfl, tr⟩, tr⟩ (of_decide_eq_true (by kernel_rfl))⟩

/-! spec.l01VSame -/
def spec_l01VSame (K : Nat) (a0 : Vector) (a1 : Vector) : Option (Bool) :=
  (spec_l01Same K a0.X a1.X).bind fun v1 => (ite2 (v1) ((spec_l01Same K a0.Y a1.Y).bind fun v4 => ite2 (v4) ((spec_l01Same K a0.Z a1.Z).bind fun v7 => some v7) (some false)) (some false)).bind fun j9 => some j9

theorem ok_spec_l01VSame (K : Nat) (a0 : Vector) (a1 : Vector) (o : (Bool)) (h : spec_l01VSame K a0 a1 = some o) : CallOK Try.prog 32 [.agg (cs_Vector a0), .agg (cs_Vector a1)] [.one (.bool o)] := by
  refine callOK_of_AW Try.func32 rfl (by kernel_rfl) (Nat.le_of_ble_eq_true (by kernel_rfl)) ?_
  intro w0
  unfold spec_l01VSame at h
  refine AW.sA ⟨[(2, (vp 1 0)), (3, (vp 2 0))], [(1, (.box [(cF a0.X), (cF a0.Y), (cF a0.Z)])), (2, (.box [(cF a1.X), (cF a1.Y), (cF a1.Z)]))]⟩ (Tt ∧ T2 Tt) [.box 1, .box 2] [2, 3] [1, 2] ⟨tr, tr, tr, tr⟩ ?_
  refine AW.seq ?_
  obtain ⟨v1, e2, h⟩ := bind_some h
  obtain ⟨j9, e10, h⟩ := bind_some h
  refine AW.join1 (s2 := ⟨[(4, (vB j9))], []⟩) ?_ ?_
  · rcases ite2_cases e10 with ⟨b3, e10⟩ | ⟨b3, e10⟩
    · obtain ⟨v4, e5, e10⟩ := bind_some e10
      rcases ite2_cases e10 with ⟨b6, e10⟩ | ⟨b6, e10⟩
      · obtain ⟨v7, e8, e10⟩ := bind_some e10
        replace e10 := some_eq e10
        subst e10
        let z2 : List CT := [.one (.flt .f32 a0.X.bits), .one (.flt .f32 a1.X.bits)]
        let z3 : List CT := [.one (.flt .f32 a0.Y.bits), .one (.flt .f32 a1.Y.bits)]
        let z4 : List CT := [.one (.flt .f32 a0.Z.bits), .one (.flt .f32 a1.Z.bits)]
        exact AW.rA ⟨[(4, (vB v7))], []⟩ (T4 ((((eF a0.X) ∧ (eF a1.X) ∧ Tt) ∧ CallOK Try.prog 50 z2 [.one (.bool v1)]) ∧ (Tt ∧ v1 = true) ∧ T4 ((((eF a0.Y) ∧ (eF a1.Y) ∧ Tt) ∧ CallOK Try.prog 50 z3 [.one (.bool v4)]) ∧ Tt ∧ (Tt ∧ v4 = true) ∧ T4 ((((eF a0.Z) ∧ (eF a1.Z) ∧ Tt) ∧ CallOK Try.prog 50 z4 [.one (.bool v7)]) ∧ T2 Tt)))) [.no, .no, .no, .no, .call z2 [.one (.bool v1)] [[.view]], .dec true, .no, .no, .no, .no, .call z3 [.one (.bool v4)] [[.view]], .no, .dec true, .no, .no, .no, .no, .call z4 [.one (.bool v7)] [[.view]]] [4] [] ⟨tr, tr, tr, tr, ⟨⟨rfl, rfl, tr⟩, ok_spec_l01Same K a0.X a1.X v1 e2⟩, ⟨tr, b3⟩, tr, tr, tr, tr, ⟨⟨rfl, rfl, tr⟩, ok_spec_l01Same K a0.Y a1.Y v4 e5⟩, tr, ⟨tr, b6⟩, tr, tr, tr, tr, ⟨⟨rfl, rfl, tr⟩, ok_spec_l01Same K a0.Z a1.Z v7 e8⟩, tr, tr, tr⟩ ⟨rfl, rfl⟩
      · replace e10 := some_eq e10
        subst e10
        let z5 : List CT := [.one (.flt .f32 a0.X.bits), .one (.flt .f32 a1.X.bits)]
        let z6 : List CT := [.one (.flt .f32 a0.Y.bits), .one (.flt .f32 a1.Y.bits)]
        exact AW.rA ⟨[(4, (vB false))], []⟩ (T4 ((((eF a0.X) ∧ (eF a1.X) ∧ Tt) ∧ CallOK Try.prog 50 z5 [.one (.bool v1)]) ∧ (Tt ∧ v1 = true) ∧ T4 ((((eF a0.Y) ∧ (eF a1.Y) ∧ Tt) ∧ CallOK Try.prog 50 z6 [.one (.bool v4)]) ∧ Tt ∧ (Tt ∧ v4 = false) ∧ Tt ∧ T2 (T4 Tt)))) [.no, .no, .no, .no, .call z5 [.one (.bool v1)] [[.view]], .dec true, .no, .no, .no, .no, .call z6 [.one (.bool v4)] [[.view]], .no, .dec false] [4] [] ⟨tr, tr, tr, tr, ⟨⟨rfl, rfl, tr⟩, ok_spec_l01Same K a0.X a1.X v1 e2⟩, ⟨tr, b3⟩, tr, tr, tr, tr, ⟨⟨rfl, rfl, tr⟩, ok_spec_l01Same K a0.Y a1.Y v4 e5⟩, tr, ⟨tr, b6⟩, tr, tr, tr, tr, tr, tr, tr, tr⟩ ⟨rfl, rfl⟩
    · replace e10 := some_eq e10
      subst e10
      let z1 : List CT := [.one (.flt .f32 a0.X.bits), .one (.flt .f32 a1.X.bits)]
      exact AW.rA ⟨[(4, (vB false))], []⟩ (T4 ((((eF a0.X) ∧ (eF a1.X) ∧ Tt) ∧ CallOK Try.prog 50 z1 [.one (.bool v1)]) ∧ (Tt ∧ v1 = false) ∧ T2 (T4 (T4 (T4 Tt))))) [.no, .no, .no, .no, .call z1 [.one (.bool v1)] [[.view]], .dec false] [4] [] ⟨tr, tr, tr, tr, ⟨⟨rfl, rfl, tr⟩, ok_spec_l01Same K a0.X a1.X v1 e2⟩, ⟨tr, b3⟩, tr, tr, tr, tr, tr, tr, tr, tr, tr, tr, tr, tr, tr, tr, tr⟩ ⟨rfl, rfl⟩
  refine thenQ_normal ?_
  refine AW.ret ?_
  replace h := some_eq h
  subst h
  exact ⟨.inr rfl, retOK_of [(.one (.c (.bool j9)))] (by kernel_rfl) ⟨⟨rfl, tr⟩, tr⟩ (of_decide_eq_true (by kernel_rfl))⟩

/-! spec.SameVector -/
def spec_SameVector (K : Nat) (a0 : Vector) (a1 : Vector) : Option (Bool) :=
  (spec_l01VSame K a0 a1).bind fun v1 => some v1

theorem ok_spec_SameVector (K : Nat) (a0 : Vector) (a1 : Vector) (o : (Bool)) (h : spec_SameVector K a0 a1 = some o) : CallOK Try.prog 12 [.agg (cs_Vector a0), .agg (cs_Vector a1)] [.one (.bool o)] := by
  refine callOK_of_AW Try.func12 rfl (by kernel_rfl) (Nat.le_of_ble_eq_true (by kernel_rfl)) ?_
  intro w0
  unfold spec_SameVector at h
  refine AW.sC (Tt ∧ T2 Tt) [.box 1, .box 2] [2, 3] [1, 2] ⟨tr, tr, tr, tr⟩ ?_
  refine AW.seq ?_
  obtain ⟨v1, e2, h⟩ := bind_some h
  let z1 : List CT := [.agg (cs_Vector a0), .agg (cs_Vector a1)]
  refine AW.tA ⟨[(4, (vB v1))], []⟩ (T2 (((((eF a0.X) ∧ (eF a0.Y) ∧ (eF a0.Z) ∧ Tt) ∧ ((eF a1.X) ∧ (eF a1.Y) ∧ (eF a1.Z) ∧ Tt) ∧ Tt) ∧ CallOK Try.prog 32 z1 [.one (.bool v1)]) ∧ Tt ∧ Tt)) [.no, .no, .call z1 [.one (.bool v1)] [[.view]]] [4] [] ⟨tr, tr, ⟨⟨⟨rfl, rfl, rfl, tr⟩, ⟨rfl, rfl, rfl, tr⟩, tr⟩, ok_spec_l01VSame K a0 a1 v1 e2⟩, tr, tr⟩ ?_
  refine AW.ret ?_
  replace h := some_eq h
  subst h
  exact ⟨.inr rfl, retOK_of [(.one (.c (.bool v1)))] (by kernel_rfl) ⟨⟨rfl, tr⟩, tr⟩ (of_decide_eq_true (by kernel_rfl))⟩

/-! laws.b10At -/
def laws_b10At (_K : Nat) (a0 : (List Int)) (a1 : Int) (a2 : Int) : Option (Int) :=
  ite2 ((decide (a2 ≤ (1 : Int)))) (some (0 : Int)) (ite2 ((decide (a1 < (a0.length : Int)))) (chk (0 ≤ a1 ∧ a1 < (a0.length : Int)) (chk (a2 ≠ 0) (some ((IntKind.i64.wrap (a0.getD a1.toNat default)).tmod a2)))) (chk (a2 ≠ 0) (some ((IntKind.i64.wrap ((IntKind.i64.wrap (a1 * (37 : Int))) + (11 : Int))).tmod a2))))

theorem ok_laws_b10At (K : Nat) (a0 : (List Int)) (a1 : Int) (a2 : Int) (o : (Int)) (h : laws_b10At K a0 a1 a2 = some o) : CallOK Try.prog 13 [.one (sl 1 (csI .u8) a0), .one (.int .i64 a1), .one (.int .i64 a2)] [.one (.int .i64 o)] := by
  refine callOK_of_AW Try.func13 rfl (by kernel_rfl) (Nat.le_of_ble_eq_true (by kernel_rfl)) ?_
  intro w0
  unfold laws_b10At at h
  refine AW.sC (Tt ∧ Tt) [] [0, 1, 2] [] ⟨tr, tr⟩ ?_
  refine AW.seq ?_
  refine AW.sA ⟨[(0, (vc (sl 1 (csI .u8) a0))), (1, (vI a1)), (2, (vI a2)), (8, (vB (decide (a2 ≤ (1 : Int)))))], []⟩ (T2 Tt) [] [0, 1, 2, 8] [] ⟨tr, tr, tr⟩ ?_
  rcases ite2_cases h with ⟨b1, h⟩ | ⟨b1, h⟩
  · refine AW.cond_t rfl b1 ?_
    refine AW.sA ⟨[(6, (vI (0 : Int)))], []⟩ (Tt ∧ Tt) [] [6] [] ⟨tr, tr⟩ ?_
    refine AW.ret ?_
    refine thenQ_ret ?_
    replace h := some_eq h
    subst h
    exact ⟨.inr rfl, retOK_of [(.one (cI (0 : Int)))] (by kernel_rfl) ⟨⟨rfl, tr⟩, tr⟩ (of_decide_eq_true (by kernel_rfl))⟩
  · refine AW.cond_f rfl b1 ?_
    refine AW.skip ?_
    refine thenQ_normal ?_
    refine AW.seq ?_
    refine AW.sA ⟨[(0, (vc (sl 1 (csI .u8) a0))), (1, (vI a1)), (2, (vI a2)), (12, (vB (decide (a1 < (a0.length : Int)))))], []⟩ (T4 Tt) [] [0, 1, 2, 12] [] ⟨tr, tr, tr, tr, tr⟩ ?_
    rcases ite2_cases h with ⟨b2, h⟩ | ⟨b2, h⟩
    · refine AW.cond_t rfl b2 ?_
      refine AW.seq ?_
      obtain ⟨c3, h⟩ := chk_some h
      obtain ⟨c4, h⟩ := chk_some h
      let z2 := (IntKind.i64.wrap (a0.getD a1.toNat default)).tmod a2
      refine AW.tA ⟨[(6, (vI z2))], []⟩ (T2 ((0 ≤ a1 ∧ a1 < (a0.length : Int)) ∧ Tt ∧ T2 ((a2 ≠ 0) ∧ Tt ∧ Tt))) [] [6] [] ⟨tr, tr, c3, tr, tr, tr, c4, tr, tr⟩ ?_
      refine AW.ret ?_
      refine thenQ_ret ?_
      replace h := some_eq h
      subst h
      exact ⟨.inr rfl, retOK_of [(.one (cI z2))] (by kernel_rfl) ⟨⟨rfl, tr⟩, tr⟩ (of_decide_eq_true (by kernel_rfl))⟩
    · refine AW.cond_f rfl b2 ?_
      refine AW.skip ?_
      refine thenQ_normal ?_
      refine AW.seq ?_
      obtain ⟨c5, h⟩ := chk_some h
      let z1 := (IntKind.i64.wrap ((IntKind.i64.wrap (a1 * (37 : Int))) + (11 : Int))).tmod a2
      refine AW.tA ⟨[(6, (vI z1))], []⟩ (T4 ((a2 ≠ 0) ∧ Tt ∧ Tt)) [] [6] [] ⟨tr, tr, tr, tr, c5, tr, tr⟩ ?_
      refine AW.ret ?_
      replace h := some_eq h
      subst h
      exact ⟨.inr rfl, retOK_of [(.one (cI z1))] (by kernel_rfl) ⟨⟨rfl, tr⟩, tr⟩ (of_decide_eq_true (by kernel_rfl))⟩

/-! spec.l00Put -/
def spec_l00Put_l1 (K : Nat) (a0 : (List Int)) (a1 : Int) : Nat → Bool → Int → (List Int) → Option ((List Int))
  | 0, _, _, _ => none
  | k + 1, x4, x5, x6 => ite2 ((decide (x5 < (a0.length : Int)))) ((ite2 ((!x4)) (chk (0 ≤ x5 ∧ x5 < (a0.length : Int)) (some (decide ((a0.getD x5.toNat default) ≥ a1)))) (some false)).bind fun j10 => ite2 (j10) (chk (0 ≤ x5 ∧ x5 < (a0.length : Int)) (ite2 ((decide ((a0.getD x5.toNat default) > a1))) (chk ((x6.length + ([a1]).length) * 8 ≤ 140737488355328) (chk (((x6 ++ ([a1])).length + ([(a0.getD x5.toNat default)]).length) * 8 ≤ 140737488355328) (spec_l00Put_l1 K a0 a1 k true (IntKind.i64.wrap (x5 + (1 : Int))) ((x6 ++ ([a1])) ++ ([(a0.getD x5.toNat default)]))))) (chk ((x6.length + ([(a0.getD x5.toNat default)]).length) * 8 ≤ 140737488355328) (spec_l00Put_l1 K a0 a1 k true (IntKind.i64.wrap (x5 + (1 : Int))) (x6 ++ ([(a0.getD x5.toNat default)])))))) (chk (0 ≤ x5 ∧ x5 < (a0.length : Int)) (chk ((x6.length + ([(a0.getD x5.toNat default)]).length) * 8 ≤ 140737488355328) (spec_l00Put_l1 K a0 a1 k x4 (IntKind.i64.wrap (x5 + (1 : Int))) (x6 ++ ([(a0.getD x5.toNat default)])))))) (ite2 ((!x4)) (chk ((x6.length + ([a1]).length) * 8 ≤ 140737488355328) (some (x6 ++ ([a1])))) (some x6))

def spec_l00Put (K : Nat) (a0 : (List Int)) (a1 : Int) : Option ((List Int)) :=
  spec_l00Put_l1 K a0 a1 K false (0 : Int) ([] : List Int)

theorem ok_spec_l00Put (K : Nat) (a0 : (List Int)) (a1 : Int) (o : ((List Int))) (h : spec_l00Put K a0 a1 = some o) : CallOK Try.prog 68 [.one (sl 1 (csI .i64) a0), .one (.int .i64 a1)] [.one (sl 1 (csI .i64) o)] := by
  refine callOK_of_AW Try.func68 rfl (by kernel_rfl) (Nat.le_of_ble_eq_true (by kernel_rfl)) ?_
  intro w0
  unfold spec_l00Put at h
  refine AW.sC (Tt ∧ Tt) [] [0, 1] [] ⟨tr, tr⟩ ?_
  refine AW.sC ((([] : List Int).length = 0 ∧ Tt) ∧ Tt ∧ Tt) [.obj 1 ([] : List Int).length (gl (csI .i64) ([] : List Int))] [0, 1, 5] [1] ⟨⟨rfl, tr⟩, tr, tr⟩ ?_
  refine AW.sC (Tt ∧ Tt) [] [0, 1, 5, 6] [1] ⟨tr, tr⟩ ?_
  refine AW.seq ?_
  let z3 := vc (sl 1 (csI .i64) a0)
  refine AW.sA ⟨[(0, z3), (1, (vI a1)), (5, (vL 1 1 (csI .i64) ([] : List Int))), (6, (vB false)), (7, (vI (0 : Int)))], [(1, (oL 1 (csI .i64) ([] : List Int)))]⟩ (Tt ∧ Tt) [] [0, 1, 5, 6, 7] [1] ⟨tr, tr⟩ ?_
  refine AW.block ?_
  refine AW.loopQ (σ := Nat × Bool × Int × (List Int)) (fun p => ⟨[(0, z3), (1, (vI a1)), (5, (vL 1 1 (csI .i64) p.2.2.2)), (6, (vB p.2.1)), (7, (vI p.2.2.1))], [(1, (oL 1 (csI .i64) p.2.2.2))]⟩) (fun p => spec_l00Put_l1 K a0 a1 p.1 p.2.1 p.2.2.1 p.2.2.2 = some o) (fun p => p.1) (K, false, (0 : Int), ([] : List Int)) h ?_
  clear h
  rintro ⟨k, x4, x5, x6⟩ h
  replace h : spec_l00Put_l1 K a0 a1 k x4 x5 x6 = some o := h
  let z5 := vL 1 1 (csI .i64) x6
  let z6 := oL 1 (csI .i64) x6
  show AW _ _ (⟨[(0, z3), (1, (vI a1)), (5, z5), (6, (vB x4)), (7, (vI x5))], [(1, z6)]⟩ : St) _
  obtain _ | k := k
  · rw [spec_l00Put_l1] at h; cases h
  rw [spec_l00Put_l1] at h
  refine AW.seq ?_
  refine AW.sA ⟨[(0, z3), (1, (vI a1)), (5, z5), (6, (vB x4)), (7, (vI x5)), (12, (vB (decide (x5 < (a0.length : Int)))))], [(1, z6)]⟩ (T4 Tt) [] [0, 1, 5, 6, 7, 12] [1] ⟨tr, tr, tr, tr, tr⟩ ?_
  rcases ite2_cases h with ⟨b7, h⟩ | ⟨b7, h⟩
  · refine AW.cond_t rfl b7 ?_
    refine AW.skip ?_
    refine thenQ_normal ?_
    refine AW.seq ?_
    refine AW.block ?_
    refine AW.seq ?_
    refine AW.seq ?_
    obtain ⟨j10, e11, h⟩ := bind_some h
    refine AW.join1 (s2 := ⟨[(0, z3), (1, (vI a1)), (5, z5), (6, (vB x4)), (7, (vI x5)), (24, (vB j10))], [(1, z6)]⟩) ?_ ?_
    · rcases ite2_cases e11 with ⟨b8, e11⟩ | ⟨b8, e11⟩
      · obtain ⟨c9, e11⟩ := chk_some e11
        replace e11 := some_eq e11
        subst e11
        exact AW.rA ⟨[(0, z3), (1, (vI a1)), (5, z5), (6, (vB x4)), (7, (vI x5)), (24, (vB (decide ((a0.getD x5.toNat default) ≥ a1))))], [(1, z6)]⟩ (T2 ((Tt ∧ (!x4) = true) ∧ T2 ((0 ≤ x5 ∧ x5 < (a0.length : Int)) ∧ T4 Tt))) [.no, .no, .dec true] [0, 1, 5, 6, 7, 24] [1] ⟨tr, tr, ⟨tr, b8⟩, tr, tr, c9, tr, tr, tr, tr, tr⟩ ⟨rfl, rfl⟩
      · replace e11 := some_eq e11
        subst e11
        exact AW.rA ⟨[(0, z3), (1, (vI a1)), (5, z5), (6, (vB x4)), (7, (vI x5)), (24, (vB false))], [(1, z6)]⟩ (T2 ((Tt ∧ (!x4) = false) ∧ Tt ∧ T2 (T4 Tt))) [.no, .no, .dec false] [0, 1, 5, 6, 7, 24] [1] ⟨tr, tr, ⟨tr, b8⟩, tr, tr, tr, tr, tr, tr, tr, tr⟩ ⟨rfl, rfl⟩
    refine thenQ_normal ?_
    rcases ite2_cases h with ⟨b12, h⟩ | ⟨b12, h⟩
    · refine AW.cond_t rfl b12 ?_
      refine AW.sC (Tt ∧ Tt) [] [0, 1, 5, 6, 7] [1] ⟨tr, tr⟩ ?_
      refine AW.seq ?_
      obtain ⟨c13, h⟩ := chk_some h
      let z1 := a0.getD x5.toNat default
      let z10 := 0 ≤ x5 ∧ x5 < (a0.length : Int)
      refine AW.tA ⟨[(0, z3), (1, (vI a1)), (5, z5), (6, (vB true)), (7, (vI x5)), (30, (vB (decide (z1 > a1))))], [(1, z6)]⟩ (T2 (z10 ∧ Tt ∧ T2 Tt)) [] [0, 1, 5, 6, 7, 30] [1] ⟨tr, tr, c13, tr, tr, tr, tr⟩ ?_
      rcases ite2_cases h with ⟨b14, h⟩ | ⟨b14, h⟩
      · refine AW.cond_t rfl b14 ?_
        obtain ⟨c15, h⟩ := chk_some h
        let z7 := x6 ++ ([a1])
        refine AW.tC (T2 ((([a1]).length = 1 ∧ (((.int .i64 a1) : C) = (.int .i64 a1) ∧ Tt) ∧ Tt) ∧ (z7.length = x6.length + ([a1]).length ∧ AppOb (x6.length) (([a1]).length) 1 (gl (csI .i64) x6) (gl (csI .i64) ([a1])) (gl (csI .i64) z7) ∧ (∀ i j, i < ([a1]).length → j < 1 → scalarC (gl (csI .i64) ([a1]) i j)) ∧ (x6.length + ([a1]).length) * 8 ≤ 140737488355328) ∧ Tt ∧ Tt)) [.no, .no, .obj 18 ([a1]).length (gl (csI .i64) ([a1])), .objK 19 z7.length (gl (csI .i64) z7)] [0, 1, 5, 6, 7] [19] ⟨tr, tr, ⟨rfl, ⟨⟨rfl, tr⟩, tr⟩⟩, ⟨List.length_append, gl_append, gl_scalar scI _, c15⟩, tr, tr⟩ ?_
        obtain ⟨c16, h⟩ := chk_some h
        let z4 := z7 ++ ([z1])
        refine AW.rA ⟨[(0, z3), (1, (vI a1)), (5, (vL 21 1 (csI .i64) z4)), (6, (vB true)), (7, (vI x5))], [(21, (oL 1 (csI .i64) z4))]⟩ (Tt ∧ T2 (z10 ∧ Tt ∧ (([z1]).length = 1 ∧ (((.int .i64 z1) : C) = (.int .i64 z1) ∧ Tt) ∧ Tt) ∧ (z4.length = z7.length + ([z1]).length ∧ AppOb (z7.length) (([z1]).length) 1 (gl (csI .i64) z7) (gl (csI .i64) ([z1])) (gl (csI .i64) z4) ∧ (∀ i j, i < ([z1]).length → j < 1 → scalarC (gl (csI .i64) ([z1]) i j)) ∧ (z7.length + ([z1]).length) * 8 ≤ 140737488355328) ∧ Tt ∧ Tt)) [.no, .no, .no, .no, .no, .obj 20 ([z1]).length (gl (csI .i64) ([z1])), .objK 21 z4.length (gl (csI .i64) z4)] [0, 1, 5, 6, 7] [21] ⟨tr, tr, tr, c13, tr, ⟨rfl, ⟨⟨rfl, tr⟩, tr⟩⟩, ⟨List.length_append, gl_append, gl_scalar scI _, c16⟩, tr, tr⟩ ?_
        refine blockQ_normal ?_
        refine thenQ_normal ?_
        let z13 := IntKind.i64.wrap (x5 + (1 : Int))
        refine AW.rA ⟨[(0, z3), (1, (vI a1)), (5, (vL 21 1 (csI .i64) z4)), (6, (vB true)), (7, (vI z13))], [(21, (oL 1 (csI .i64) z4))]⟩ (Tt ∧ T2 Tt) [] [0, 1, 5, 6, 7] [21] ⟨tr, tr, tr, tr⟩ ?_
        exact loopQ_normal (k, true, z13, z4) h (Nat.lt_succ_self k) (Sub.trans (Sub.swap 1 21 _ (by kernel_rfl) (by kernel_rfl)) (Sub.keep [0, 1, 5, 6, 7] [1] (by kernel_rfl) (by kernel_rfl)))
      · refine AW.cond_f rfl b14 ?_
        refine AW.skip ?_
        refine thenQ_normal ?_
        obtain ⟨c17, h⟩ := chk_some h
        let z8 := x6 ++ ([z1])
        refine AW.rA ⟨[(0, z3), (1, (vI a1)), (5, (vL 23 1 (csI .i64) z8)), (6, (vB true)), (7, (vI x5))], [(23, (oL 1 (csI .i64) z8))]⟩ (Tt ∧ T2 (z10 ∧ Tt ∧ (([z1]).length = 1 ∧ (((.int .i64 z1) : C) = (.int .i64 z1) ∧ Tt) ∧ Tt) ∧ (z8.length = x6.length + ([z1]).length ∧ AppOb (x6.length) (([z1]).length) 1 (gl (csI .i64) x6) (gl (csI .i64) ([z1])) (gl (csI .i64) z8) ∧ (∀ i j, i < ([z1]).length → j < 1 → scalarC (gl (csI .i64) ([z1]) i j)) ∧ (x6.length + ([z1]).length) * 8 ≤ 140737488355328) ∧ Tt ∧ Tt)) [.no, .no, .no, .no, .no, .obj 22 ([z1]).length (gl (csI .i64) ([z1])), .objK 23 z8.length (gl (csI .i64) z8)] [0, 1, 5, 6, 7] [23] ⟨tr, tr, tr, c13, tr, ⟨rfl, ⟨⟨rfl, tr⟩, tr⟩⟩, ⟨List.length_append, gl_append, gl_scalar scI _, c17⟩, tr, tr⟩ ?_
        refine blockQ_normal ?_
        refine thenQ_normal ?_
        let z14 := IntKind.i64.wrap (x5 + (1 : Int))
        refine AW.rA ⟨[(0, z3), (1, (vI a1)), (5, (vL 23 1 (csI .i64) z8)), (6, (vB true)), (7, (vI z14))], [(23, (oL 1 (csI .i64) z8))]⟩ (Tt ∧ T2 Tt) [] [0, 1, 5, 6, 7] [23] ⟨tr, tr, tr, tr⟩ ?_
        exact loopQ_normal (k, true, z14, z8) h (Nat.lt_succ_self k) (Sub.trans (Sub.swap 1 23 _ (by kernel_rfl) (by kernel_rfl)) (Sub.keep [0, 1, 5, 6, 7] [1] (by kernel_rfl) (by kernel_rfl)))
    · refine AW.cond_f rfl b12 ?_
      refine AW.skip ?_
      refine thenQ_normal ?_
      obtain ⟨c18, h⟩ := chk_some h
      obtain ⟨c19, h⟩ := chk_some h
      let z11 := a0.getD x5.toNat default
      let z2 := [z11]
      refine AW.rA ⟨[(0, z3), (1, (vI a1)), (5, (vL 25 1 (csI .i64) (x6 ++ z2))), (6, (vB x4)), (7, (vI x5))], [(25, (oL 1 (csI .i64) (x6 ++ z2)))]⟩ (Tt ∧ T2 ((0 ≤ x5 ∧ x5 < (a0.length : Int)) ∧ Tt ∧ (z2.length = 1 ∧ (((.int .i64 z11) : C) = (.int .i64 z11) ∧ Tt) ∧ Tt) ∧ ((x6 ++ z2).length = x6.length + z2.length ∧ AppOb (x6.length) (z2.length) 1 (gl (csI .i64) x6) (gl (csI .i64) z2) (gl (csI .i64) (x6 ++ z2)) ∧ (∀ i j, i < z2.length → j < 1 → scalarC (gl (csI .i64) z2 i j)) ∧ (x6.length + z2.length) * 8 ≤ 140737488355328) ∧ Tt ∧ Tt)) [.no, .no, .no, .no, .no, .obj 24 z2.length (gl (csI .i64) z2), .objK 25 (x6 ++ z2).length (gl (csI .i64) (x6 ++ z2))] [0, 1, 5, 6, 7] [25] ⟨tr, tr, tr, c18, tr, ⟨rfl, ⟨⟨rfl, tr⟩, tr⟩⟩, ⟨List.length_append, gl_append, gl_scalar scI _, c19⟩, tr, tr⟩ ?_
      refine blockQ_normal ?_
      refine thenQ_normal ?_
      let z12 := IntKind.i64.wrap (x5 + (1 : Int))
      refine AW.rA ⟨[(0, z3), (1, (vI a1)), (5, (vL 25 1 (csI .i64) (x6 ++ z2))), (6, (vB x4)), (7, (vI z12))], [(25, (oL 1 (csI .i64) (x6 ++ z2)))]⟩ (Tt ∧ T2 Tt) [] [0, 1, 5, 6, 7] [25] ⟨tr, tr, tr, tr⟩ ?_
      exact loopQ_normal (k, x4, z12, (x6 ++ z2)) h (Nat.lt_succ_self k) (Sub.trans (Sub.swap 1 25 _ (by kernel_rfl) (by kernel_rfl)) (Sub.keep [0, 1, 5, 6, 7] [1] (by kernel_rfl) (by kernel_rfl)))
  · refine AW.cond_f rfl b7 ?_
    refine AW.exit ?_
    refine thenQ_exit ?_
    refine loopQ_exit ?_
    refine blockQ_exit ?_
    refine thenQ_normal ?_
    refine AW.seq ?_
    refine AW.sA ⟨[(1, (vI a1)), (5, z5), (43, (vB (!x4)))], [(1, z6)]⟩ (T2 Tt) [] [1, 5, 43] [1] ⟨tr, tr, tr⟩ ?_
    rcases ite2_cases h with ⟨b20, h⟩ | ⟨b20, h⟩
    · refine AW.cond_t rfl b20 ?_
      obtain ⟨c21, h⟩ := chk_some h
      let z9 := x6 ++ ([a1])
      refine AW.tC (T2 ((([a1]).length = 1 ∧ (((.int .i64 a1) : C) = (.int .i64 a1) ∧ Tt) ∧ Tt) ∧ (z9.length = x6.length + ([a1]).length ∧ AppOb (x6.length) (([a1]).length) 1 (gl (csI .i64) x6) (gl (csI .i64) ([a1])) (gl (csI .i64) z9) ∧ (∀ i j, i < ([a1]).length → j < 1 → scalarC (gl (csI .i64) ([a1]) i j)) ∧ (x6.length + ([a1]).length) * 8 ≤ 140737488355328) ∧ Tt ∧ Tt)) [.no, .no, .obj 26 ([a1]).length (gl (csI .i64) ([a1])), .objK 27 z9.length (gl (csI .i64) z9)] [5] [27] ⟨tr, tr, ⟨rfl, ⟨⟨rfl, tr⟩, tr⟩⟩, ⟨List.length_append, gl_append, gl_scalar scI _, c21⟩, tr, tr⟩ ?_
      refine AW.sA ⟨[(4, (vL 27 1 (csI .i64) z9))], [(27, (oL 1 (csI .i64) z9))]⟩ (T2 Tt) [] [4] [27] ⟨tr, tr, tr⟩ ?_
      refine AW.ret ?_
      replace h := some_eq h
      subst h
      exact ⟨.inr rfl, retOK_of [(.one (xL 27 1 (csI .i64) z9))] (by kernel_rfl) ⟨rfl, tr⟩ (of_decide_eq_true (by kernel_rfl))⟩
    · refine AW.cond_f rfl b20 ?_
      refine AW.skip ?_
      refine thenQ_normal ?_
      refine AW.sA ⟨[(4, z5)], [(1, z6)]⟩ (T2 Tt) [] [4] [1] ⟨tr, tr, tr⟩ ?_
      refine AW.ret ?_
      replace h := some_eq h
      subst h
      exact ⟨.inr rfl, retOK_of [(.one (xL 1 1 (csI .i64) x6))] (by kernel_rfl) ⟨rfl, tr⟩ (of_decide_eq_true (by kernel_rfl))⟩

/-! spec.l05DrawTimes -/
def spec_l05DrawTimes_l1 (K : Nat) (a0 : l00Src) (a1 : Int) : Nat → Int → Int → Int → (List Int) → Option ((List Int) × Int × Int)
  | 0, _, _, _, _ => none
  | k + 1, x7, x8, x9, x10 => ite2 ((decide (x7 > (0 : Int)))) ((spec_l00Src_pick K (l00Src.mk a0.code x8 x9) (IntKind.i64.wrap (a1 + (1 : Int)))).bind fun v12 => (spec_l00Put K x10 v12.1).bind fun v14 => spec_l05DrawTimes_l1 K a0 a1 k (IntKind.i64.wrap (x7 - (1 : Int))) v12.2.1 v12.2.2 v14) ((spec_l00Src_one K (l00Src.mk a0.code x8 x9) (3 : Int)).bind fun v16 => ite2 (v16.1) ((spec_l00Put K x10 (0 : Int)).bind fun v19 => (spec_l00Put K v19 a1).bind fun v21 => some (v21, v16.2.1, v16.2.2)) (some (x10, v16.2.1, v16.2.2)))

def spec_l05DrawTimes (K : Nat) (a0 : l00Src) (a1 : Int) : Option ((List Int) × Int × Int) :=
  (spec_l00Src_pick K a0 (4 : Int)).bind fun v1 => spec_l05DrawTimes_l1 K a0 a1 K (IntKind.i64.wrap ((1 : Int) + v1.1)) v1.2.1 v1.2.2 ([] : List Int)

theorem ok_spec_l05DrawTimes (K : Nat) (a0 : l00Src) (a1 : Int) (o : ((List Int) × Int × Int)) (h : spec_l05DrawTimes K a0 a1 = some o) : MutOK Try.prog 51 [(.box 3 (fun j => [true, false, false].getD j true) (fun j => (cs_l00Src a0).getD j .nilptr) (fun j => [.nilptr, (.int .i64 o.2.1), (.int .u64 o.2.2)].getD j .nilptr)), (.one (.ro (.int .i64 a1)))] [.one (sl 1 (csI .i64) o.1)] := by
  refine mutOK_of_AW 1 Try.func51 rfl (by kernel_rfl) (Nat.le_of_ble_eq_true (by kernel_rfl)) (by kernel_rfl) (by kernel_rfl) ?_
  intro w0 K0 v0 s0
  unfold spec_l05DrawTimes at h
  let z1 := sl 1 (csI .u8) a0.code
  refine AW.weak (s' := ⟨[(0, (vp 0 0)), (1, (vI a1))], [(0, (.box [(.fx 0 0 z1), (cI a0.at_), (.c (.int .u64 a0.seed))]))]⟩) (subUnfx 0 [1, 2] (by kernel_rfl)) ?_
  refine AW.sC (Tt ∧ Tt) [] [0, 1] [0] ⟨tr, tr⟩ ?_
  refine AW.sC ((([] : List Int).length = 0 ∧ Tt) ∧ Tt ∧ Tt) [.obj 1 ([] : List Int).length (gl (csI .i64) ([] : List Int))] [0, 1, 5] [0, 1] ⟨⟨rfl, tr⟩, tr, tr⟩ ?_
  refine AW.seq ?_
  refine AW.seq ?_
  obtain ⟨v1, e2, h⟩ := bind_some h
  let z10 := IntKind.i64.wrap ((1 : Int) + v1.1)
  refine AW.tA ⟨[(0, (vp 0 0)), (1, (vI a1)), (5, (vL 1 1 (csI .i64) ([] : List Int))), (6, (vI z10))], [(0, (.box [(.fx 0 0 z1), (cI v1.2.1), (.c (.int .u64 v1.2.2))])), (1, (oL 1 (csI .i64) ([] : List Int)))]⟩ (Tt ∧ ((((Eqc z1) ∧ (eI a0.at_) ∧ (Eqc (.int .u64 a0.seed)) ∧ Tt) ∧ (eI (4 : Int)) ∧ Tt) ∧ MutOK Try.prog 45 [(.box 3 (fun j => [true, false, false].getD j true) (fun j => (cs_l00Src a0).getD j .nilptr) (fun j => [.nilptr, (.int .i64 v1.2.1), (.int .u64 v1.2.2)].getD j .nilptr)), .one (.ro (.int .i64 (4 : Int)))] [.one (.int .i64 v1.1)]) ∧ T2 Tt) [.no, .callM [(.box 3 (fun j => [true, false, false].getD j true) (fun j => (cs_l00Src a0).getD j .nilptr) (fun j => [.nilptr, (.int .i64 v1.2.1), (.int .u64 v1.2.2)].getD j .nilptr)), .one (.ro (.int .i64 (4 : Int)))] [.one (.int .i64 v1.1)] [[.view]] none] [0, 1, 5, 6] [0, 1] ⟨tr, ⟨⟨⟨rfl, rfl, rfl, tr⟩, rfl, tr⟩, ok_spec_l00Src_pick K a0 (4 : Int) v1 e2⟩, tr, tr, tr⟩ ?_
  refine AW.block ?_
  refine AW.loopQ (σ := Nat × Int × Int × Int × (List Int)) (fun p => ⟨[(0, (vp 0 0)), (1, (vI a1)), (5, (vL 1 1 (csI .i64) p.2.2.2.2)), (6, (vI p.2.1))], [(0, (.box [(.fx 0 0 z1), (cI p.2.2.1), (.c (.int .u64 p.2.2.2.1))])), (1, (oL 1 (csI .i64) p.2.2.2.2))]⟩) (fun p => spec_l05DrawTimes_l1 K a0 a1 p.1 p.2.1 p.2.2.1 p.2.2.2.1 p.2.2.2.2 = some o) (fun p => p.1) (K, z10, v1.2.1, v1.2.2, ([] : List Int)) h ?_
  clear h
  rintro ⟨k, x7, x8, x9, x10⟩ h
  replace h : spec_l05DrawTimes_l1 K a0 a1 k x7 x8 x9 x10 = some o := h
  let z4 := vL 1 1 (csI .i64) x10
  let z5 := oL 1 (csI .i64) x10
  show AW _ _ (⟨[(0, (vp 0 0)), (1, (vI a1)), (5, z4), (6, (vI x7))], [(0, (.box [(.fx 0 0 z1), (cI x8), (.c (.int .u64 x9))])), (1, z5)]⟩ : St) _
  obtain _ | k := k
  · rw [spec_l05DrawTimes_l1] at h; cases h
  rw [spec_l05DrawTimes_l1] at h
  refine AW.seq ?_
  refine AW.sA ⟨[(0, (vp 0 0)), (1, (vI a1)), (5, z4), (6, (vI x7)), (12, (vB (decide (x7 > (0 : Int)))))], [(0, (.box [(.fx 0 0 z1), (cI x8), (.c (.int .u64 x9))])), (1, z5)]⟩ (T2 Tt) [] [0, 1, 5, 6, 12] [0, 1] ⟨tr, tr, tr⟩ ?_
  rcases ite2_cases h with ⟨b11, h⟩ | ⟨b11, h⟩
  · refine AW.cond_t rfl b11 ?_
    refine AW.skip ?_
    refine thenQ_normal ?_
    refine AW.seq ?_
    refine AW.block ?_
    obtain ⟨v12, e13, h⟩ := bind_some h
    obtain ⟨v14, e15, h⟩ := bind_some h
    let z2 := IntKind.i64.wrap (a1 + (1 : Int))
    let z6 := l00Src.mk a0.code x8 x9
    let z9 : List CT := [.one (sl 1 (csI .i64) x10), .one (.int .i64 v12.1)]
    refine AW.rA ⟨[(0, (vp 0 0)), (1, (vI a1)), (5, (vL 4 1 (csI .i64) v14)), (6, (vI x7))], [(0, (.box [(.fx 0 0 z1), (cI v12.2.1), (.c (.int .u64 v12.2.2))])), (4, (oL 1 (csI .i64) v14))]⟩ (T4 (((((Eqc z1) ∧ (eI x8) ∧ (Eqc (.int .u64 x9)) ∧ Tt) ∧ (eI z2) ∧ Tt) ∧ MutOK Try.prog 45 [(.box 3 (fun j => [true, false, false].getD j true) (fun j => (cs_l00Src z6).getD j .nilptr) (fun j => [.nilptr, (.int .i64 v12.2.1), (.int .u64 v12.2.2)].getD j .nilptr)), .one (.ro (.int .i64 z2))] [.one (.int .i64 v12.1)]) ∧ (((Eqc (sl 1 (csI .i64) x10)) ∧ (eI v12.1) ∧ Tt) ∧ CallOK Try.prog 68 z9 [.one (sl 1 (csI .i64) v14)]) ∧ Tt ∧ Tt)) [.no, .no, .no, .no, .callM [(.box 3 (fun j => [true, false, false].getD j true) (fun j => (cs_l00Src z6).getD j .nilptr) (fun j => [.nilptr, (.int .i64 v12.2.1), (.int .u64 v12.2.2)].getD j .nilptr)), .one (.ro (.int .i64 z2))] [.one (.int .i64 v12.1)] [[.view]] none, .call z9 [.one (sl 1 (csI .i64) v14)] [[.lst 4]]] [0, 1, 5, 6] [0, 4] ⟨tr, tr, tr, tr, ⟨⟨⟨rfl, rfl, rfl, tr⟩, rfl, tr⟩, ok_spec_l00Src_pick K z6 z2 v12 e13⟩, ⟨⟨rfl, rfl, tr⟩, ok_spec_l00Put K x10 v12.1 v14 e15⟩, tr, tr⟩ ?_
    refine blockQ_normal ?_
    refine thenQ_normal ?_
    let z11 := IntKind.i64.wrap (x7 - (1 : Int))
    refine AW.rA ⟨[(0, (vp 0 0)), (1, (vI a1)), (5, (vL 4 1 (csI .i64) v14)), (6, (vI z11))], [(0, (.box [(.fx 0 0 z1), (cI v12.2.1), (.c (.int .u64 v12.2.2))])), (4, (oL 1 (csI .i64) v14))]⟩ (Tt ∧ T2 Tt) [] [0, 1, 5, 6] [0, 4] ⟨tr, tr, tr, tr⟩ ?_
    exact loopQ_normal (k, z11, v12.2.1, v12.2.2, v14) h (Nat.lt_succ_self k) (Sub.trans (Sub.swap 1 4 _ (by kernel_rfl) (by kernel_rfl)) (Sub.keep [0, 1, 5, 6] [0, 1] (by kernel_rfl) (by kernel_rfl)))
  · refine AW.cond_f rfl b11 ?_
    refine AW.exit ?_
    refine thenQ_exit ?_
    refine loopQ_exit ?_
    refine blockQ_exit ?_
    refine thenQ_normal ?_
    refine AW.seq ?_
    refine AW.seq ?_
    obtain ⟨v16, e17, h⟩ := bind_some h
    let z7 := l00Src.mk a0.code x8 x9
    refine AW.tA ⟨[(0, (vp 0 0)), (1, (vI a1)), (5, z4), (22, (vB v16.1))], [(0, (.box [(.fx 0 0 z1), (cI v16.2.1), (.c (.int .u64 v16.2.2))])), (1, z5)]⟩ (Tt ∧ ((((Eqc z1) ∧ (eI x8) ∧ (Eqc (.int .u64 x9)) ∧ Tt) ∧ (eI (3 : Int)) ∧ Tt) ∧ MutOK Try.prog 60 [(.box 3 (fun j => [true, false, false].getD j true) (fun j => (cs_l00Src z7).getD j .nilptr) (fun j => [.nilptr, (.int .i64 v16.2.1), (.int .u64 v16.2.2)].getD j .nilptr)), .one (.ro (.int .i64 (3 : Int)))] [.one (.bool v16.1)]) ∧ Tt) [.no, .callM [(.box 3 (fun j => [true, false, false].getD j true) (fun j => (cs_l00Src z7).getD j .nilptr) (fun j => [.nilptr, (.int .i64 v16.2.1), (.int .u64 v16.2.2)].getD j .nilptr)), .one (.ro (.int .i64 (3 : Int)))] [.one (.bool v16.1)] [[.view]] none] [0, 1, 5, 22] [0, 1] ⟨tr, ⟨⟨⟨rfl, rfl, rfl, tr⟩, rfl, tr⟩, ok_spec_l00Src_one K z7 (3 : Int) v16 e17⟩, tr⟩ ?_
    rcases ite2_cases h with ⟨b18, h⟩ | ⟨b18, h⟩
    · refine AW.cond_t rfl b18 ?_
      refine AW.seq ?_
      obtain ⟨v19, e20, h⟩ := bind_some h
      let z3 := sl 1 (csI .i64) v19
      let z8 : List CT := [.one (sl 1 (csI .i64) x10), .one (.int .i64 (0 : Int))]
      refine AW.tC (Tt ∧ (((Eqc (sl 1 (csI .i64) x10)) ∧ (eI (0 : Int)) ∧ Tt) ∧ CallOK Try.prog 68 z8 [.one z3]) ∧ Tt ∧ Tt) [.no, .call z8 [.one z3] [[.lst 5]]] [0, 1, 5] [0, 5] ⟨tr, ⟨⟨rfl, rfl, tr⟩, ok_spec_l00Put K x10 (0 : Int) v19 e20⟩, tr, tr⟩ ?_
      obtain ⟨v21, e22, h⟩ := bind_some h
      refine AW.tC (T2 ((((Eqc z3) ∧ (eI a1) ∧ Tt) ∧ CallOK Try.prog 68 [.one z3, .one (.int .i64 a1)] [.one (sl 1 (csI .i64) v21)]) ∧ Tt ∧ Tt)) [.no, .no, .call [.one z3, .one (.int .i64 a1)] [.one (sl 1 (csI .i64) v21)] [[.lst 6]]] [0, 1, 5] [0, 6] ⟨tr, tr, ⟨⟨rfl, rfl, tr⟩, ok_spec_l00Put K v19 a1 v21 e22⟩, tr, tr⟩ ?_
      refine AW.sA ⟨[(0, (vp 0 0)), (1, (vI a1)), (4, (vL 6 1 (csI .i64) v21))], [(0, (.box [(.fx 0 0 z1), (cI v16.2.1), (.c (.int .u64 v16.2.2))])), (6, (oL 1 (csI .i64) v21))]⟩ (T2 Tt) [] [0, 1, 4] [0, 6] ⟨tr, tr, tr⟩ ?_
      refine AW.ret ?_
      replace h := some_eq h
      subst h
      exact ⟨.inr rfl, retOK_of [(.one (xL 6 1 (csI .i64) v21))] (by kernel_rfl) ⟨rfl, tr⟩ (of_decide_eq_true (by kernel_rfl)), by kernel_rfl, ⟨⟨rfl, ⟨⟨rfl, rfl⟩, ⟨rfl, rfl⟩, ⟨rfl, rfl⟩, tr⟩⟩, tr, tr⟩⟩
    · refine AW.cond_f rfl b18 ?_
      refine AW.skip ?_
      refine thenQ_normal ?_
      refine AW.sA ⟨[(0, (vp 0 0)), (1, (vI a1)), (4, z4)], [(0, (.box [(.fx 0 0 z1), (cI v16.2.1), (.c (.int .u64 v16.2.2))])), (1, z5)]⟩ (T2 Tt) [] [0, 1, 4] [0, 1] ⟨tr, tr, tr⟩ ?_
      refine AW.ret ?_
      replace h := some_eq h
      subst h
      exact ⟨.inr rfl, retOK_of [(.one (xL 1 1 (csI .i64) x10))] (by kernel_rfl) ⟨rfl, tr⟩ (of_decide_eq_true (by kernel_rfl)), by kernel_rfl, ⟨⟨rfl, ⟨⟨rfl, rfl⟩, ⟨rfl, rfl⟩, ⟨rfl, rfl⟩, tr⟩⟩, tr, tr⟩⟩

/-! spec.l05DrawSized -/
def Zt31 (Q1 Q2 Q3 : Prop) : Prop := (Q1 ∧ (Tt ∧ (Q2 ∧ (Q3 ∧ (Tt ∧ Tt)))))
theorem zt31 {Q1 Q2 Q3 : Prop} (q1 : Q1) (q2 : Q2) (q3 : Q3) : Zt31 Q1 Q2 Q3 := ⟨q1, ⟨tr, ⟨q2, ⟨q3, ⟨tr, tr⟩⟩⟩⟩⟩
def Zt32 (Q2 Q3 : Prop) : Prop := (Tt ∧ (Tt ∧ (Q2 ∧ (Q3 ∧ (Tt ∧ Tt)))))
theorem zt32 {Q2 Q3 : Prop} (q2 : Q2) (q3 : Q3) : Zt32 Q2 Q3 := ⟨tr, ⟨tr, ⟨q2, ⟨q3, ⟨tr, tr⟩⟩⟩⟩⟩
def Zt33 (QE Q1 Q2 Q3 : Prop) : Prop := ((Tt ∧ (Zt31 Q1 Q2 Q3)) ∧ (Q1 ∧ (Zt32 Q2 Q3)) ∧ QE)
theorem zt33 {QE Q1 Q2 Q3 : Prop} (qe : QE) (q1 : Q1) (q2 : Q2) (q3 : Q3) : Zt33 QE Q1 Q2 Q3 := ⟨⟨tr, (zt31 q1 q2 q3)⟩, ⟨q1, (zt32 q2 q3)⟩, qe⟩
def Zt34 (QE Q0 Q1 Q2 Q3 : Prop) : Prop := ((Q0 ∧ (Zt33 QE Q1 Q2 Q3)) ∧ (Q1 ∧ (Q0 ∧ (Zt32 Q2 Q3))) ∧ QE)
theorem zt34 {QE Q0 Q1 Q2 Q3 : Prop} (qe : QE) (q0 : Q0) (q1 : Q1) (q2 : Q2) (q3 : Q3) : Zt34 QE Q0 Q1 Q2 Q3 := ⟨⟨q0, (zt33 qe q1 q2 q3)⟩, ⟨q1, ⟨q0, (zt32 q2 q3)⟩⟩, qe⟩
def Zt35 (Q2 Q3 : Prop) : Prop := (Tt ∧ (Q2 ∧ (Q3 ∧ (Tt ∧ (Tt ∧ Tt)))))
theorem zt35 {Q2 Q3 : Prop} (q2 : Q2) (q3 : Q3) : Zt35 Q2 Q3 := ⟨tr, ⟨q2, ⟨q3, ⟨tr, ⟨tr, tr⟩⟩⟩⟩⟩
def Zt36 (QE Q1 Q2 Q3 : Prop) : Prop := ((Tt ∧ (Q1 ∧ (Zt35 Q2 Q3))) ∧ (Q1 ∧ (Tt ∧ (Zt35 Q2 Q3))) ∧ QE)
theorem zt36 {QE Q1 Q2 Q3 : Prop} (qe : QE) (q1 : Q1) (q2 : Q2) (q3 : Q3) : Zt36 QE Q1 Q2 Q3 := ⟨⟨tr, ⟨q1, (zt35 q2 q3)⟩⟩, ⟨q1, ⟨tr, (zt35 q2 q3)⟩⟩, qe⟩
def Zt37 (QE Q0 Q1 Q2 Q3 : Prop) : Prop := ((Q0 ∧ (Zt36 QE Q1 Q2 Q3)) ∧ (Q1 ∧ (Q0 ∧ (Tt ∧ (Zt35 Q2 Q3)))) ∧ QE)
theorem zt37 {QE Q0 Q1 Q2 Q3 : Prop} (qe : QE) (q0 : Q0) (q1 : Q1) (q2 : Q2) (q3 : Q3) : Zt37 QE Q0 Q1 Q2 Q3 := ⟨⟨q0, (zt36 qe q1 q2 q3)⟩, ⟨q1, ⟨q0, ⟨tr, (zt35 q2 q3)⟩⟩⟩, qe⟩
def Zt38 (QE Q2 Q3 : Prop) : Prop := ((Tt ∧ (Q2 ∧ (Q3 ∧ (Tt ∧ (Tt ∧ Tt))))) ∧ (Q2 ∧ (Tt ∧ (Q3 ∧ (Tt ∧ (Tt ∧ Tt))))) ∧ QE)
theorem zt38 {QE Q2 Q3 : Prop} (qe : QE) (q2 : Q2) (q3 : Q3) : Zt38 QE Q2 Q3 := ⟨⟨tr, ⟨q2, ⟨q3, ⟨tr, ⟨tr, tr⟩⟩⟩⟩⟩, ⟨q2, ⟨tr, ⟨q3, ⟨tr, ⟨tr, tr⟩⟩⟩⟩⟩, qe⟩
def Zt39 (QE Q2 Q3 : Prop) : Prop := ((Tt ∧ (Zt35 Q2 Q3)) ∧ (Tt ∧ (Zt38 QE Q2 Q3)) ∧ QE)
theorem zt39 {QE Q2 Q3 : Prop} (qe : QE) (q2 : Q2) (q3 : Q3) : Zt39 QE Q2 Q3 := ⟨⟨tr, (zt35 q2 q3)⟩, ⟨tr, (zt38 qe q2 q3)⟩, qe⟩
def Zt40 (QE Q1 Q2 Q3 : Prop) : Prop := ((Tt ∧ (Q1 ∧ (Zt35 Q2 Q3))) ∧ (Q1 ∧ (Zt39 QE Q2 Q3)) ∧ QE)
theorem zt40 {QE Q1 Q2 Q3 : Prop} (qe : QE) (q1 : Q1) (q2 : Q2) (q3 : Q3) : Zt40 QE Q1 Q2 Q3 := ⟨⟨tr, ⟨q1, (zt35 q2 q3)⟩⟩, ⟨q1, (zt39 qe q2 q3)⟩, qe⟩
def Zt41 (QE Q2 Q3 : Prop) : Prop := ((Tt ∧ (Tt ∧ (Zt35 Q2 Q3))) ∧ (Tt ∧ (Zt39 QE Q2 Q3)) ∧ QE)
theorem zt41 {QE Q2 Q3 : Prop} (qe : QE) (q2 : Q2) (q3 : Q3) : Zt41 QE Q2 Q3 := ⟨⟨tr, ⟨tr, (zt35 q2 q3)⟩⟩, ⟨tr, (zt39 qe q2 q3)⟩, qe⟩
def Zt42 (QE Q1 Q2 Q3 : Prop) : Prop := ((Tt ∧ (Zt36 QE Q1 Q2 Q3)) ∧ ((Tt ∧ (Zt40 QE Q1 Q2 Q3)) ∧ (Q1 ∧ (Zt41 QE Q2 Q3)) ∧ QE) ∧ QE)
theorem zt42 {QE Q1 Q2 Q3 : Prop} (qe : QE) (q1 : Q1) (q2 : Q2) (q3 : Q3) : Zt42 QE Q1 Q2 Q3 := ⟨⟨tr, (zt36 qe q1 q2 q3)⟩, ⟨⟨tr, (zt40 qe q1 q2 q3)⟩, ⟨q1, (zt41 qe q2 q3)⟩, qe⟩, qe⟩
def Zt43 (QE Q0 Q2 Q3 : Prop) : Prop := ((Tt ∧ (Q0 ∧ (Tt ∧ (Zt35 Q2 Q3)))) ∧ (Q0 ∧ (Zt41 QE Q2 Q3)) ∧ QE)
theorem zt43 {QE Q0 Q2 Q3 : Prop} (qe : QE) (q0 : Q0) (q2 : Q2) (q3 : Q3) : Zt43 QE Q0 Q2 Q3 := ⟨⟨tr, ⟨q0, ⟨tr, (zt35 q2 q3)⟩⟩⟩, ⟨q0, (zt41 qe q2 q3)⟩, qe⟩
def Zt44 (QE Q0 Q1 Q2 Q3 : Prop) : Prop := ((Tt ∧ (Zt37 QE Q0 Q1 Q2 Q3)) ∧ ((Q0 ∧ (Zt42 QE Q1 Q2 Q3)) ∧ (Q1 ∧ (Zt43 QE Q0 Q2 Q3)) ∧ QE) ∧ QE)
theorem zt44 {QE Q0 Q1 Q2 Q3 : Prop} (qe : QE) (q0 : Q0) (q1 : Q1) (q2 : Q2) (q3 : Q3) : Zt44 QE Q0 Q1 Q2 Q3 := ⟨⟨tr, (zt37 qe q0 q1 q2 q3)⟩, ⟨⟨q0, (zt42 qe q1 q2 q3)⟩, ⟨q1, (zt43 qe q0 q2 q3)⟩, qe⟩, qe⟩
def spec_l05DrawSized_l5 (K : Nat) (a0 : l00Src) (v12 : ((List Int) × Int × Int)) : Nat → Int → Int → Int → (List Key) → Option (Int × Int × (List Key))
  | 0, _, _, _, _ => none
  | k + 1, x33, x34, x35, x36 => ite2 ((decide (x33 < (v12.1.length : Int)))) (chk (0 ≤ x33 ∧ x33 < (v12.1.length : Int)) ((spec_l02DrawTurn K (l00Src.mk a0.code x34 x35)).bind fun v39 => chk ((x36.length + ([(Key.mk (v12.1.getD x33.toNat default) v39.1)]).length) * 24 ≤ 140737488355328) (spec_l05DrawSized_l5 K a0 v12 k (IntKind.i64.wrap (x33 + (1 : Int))) v39.2.1 v39.2.2 (x36 ++ ([(Key.mk (v12.1.getD x33.toNat default) v39.1)]))))) (some (x34, x35, x36))

def spec_l05DrawSized_l6 (K : Nat) (a0 : l00Src) (a2 : Int) (v1 : (Int × Int × Int)) (x10 : (List (List Key))) (v43 : ((List Int) × Int × Int)) : Nat → Int → Int → Int → (List RootKey) → Option (Clip × Int × Int)
  | 0, _, _, _, _ => none
  | k + 1, x49, x50, x51, x52 => ite2 ((decide (x49 < (v43.1.length : Int)))) (chk (0 ≤ x49 ∧ x49 < (v43.1.length : Int)) ((spec_l01DrawVector K (l00Src.mk a0.code x50 x51)).bind fun v55 => chk ((x52.length + ([(RootKey.mk (v43.1.getD x49.toNat default) v55.1)]).length) * 24 ≤ 140737488355328) (spec_l05DrawSized_l6 K a0 a2 v1 x10 v43 k (IntKind.i64.wrap (x49 + (1 : Int))) v55.2.1 v55.2.2 (x52 ++ ([(RootKey.mk (v43.1.getD x49.toNat default) v55.1)]))))) (some ((Clip.mk (IntKind.i64.wrap ((1 : Int) + v1.1)) a2 x10 x52), x50, x51))

def spec_l05DrawSized_l4 (K : Nat) (a0 : l00Src) (a2 : Int) (v1 : (Int × Int × Int)) : Nat → Int → Int → Int → (List (List Key)) → Option (Clip × Int × Int)
  | 0, _, _, _, _ => none
  | k + 1, x7, x8, x9, x10 => ite2 ((decide (x7 > (0 : Int)))) ((spec_l05DrawTimes K (l00Src.mk a0.code x8 x9) (IntKind.i64.wrap ((1 : Int) + v1.1))).bind fun v12 => (spec_l05DrawSized_l5 K a0 v12 K (0 : Int) v12.2.1 v12.2.2 ([] : List Key)).bind fun j28 => chk ((x10.length + ([j28.2.2]).length) * 24 ≤ 140737488355328) (spec_l05DrawSized_l4 K a0 a2 v1 k (IntKind.i64.wrap (x7 - (1 : Int))) j28.1 j28.2.1 (x10 ++ ([j28.2.2])))) ((spec_l05DrawTimes K (l00Src.mk a0.code x8 x9) (IntKind.i64.wrap ((1 : Int) + v1.1))).bind fun v43 => spec_l05DrawSized_l6 K a0 a2 v1 x10 v43 K (0 : Int) v43.2.1 v43.2.2 ([] : (List RootKey)))

def spec_l05DrawSized (K : Nat) (a0 : l00Src) (a1 : Int) (a2 : Int) : Option (Clip × Int × Int) :=
  (spec_l00Src_pick K a0 (16 : Int)).bind fun v1 => spec_l05DrawSized_l4 K a0 a2 v1 K a1 v1.2.1 v1.2.2 ([] : (List (List Key)))

theorem ok_spec_l05DrawSized (K : Nat) (a0 : l00Src) (a1 : Int) (a2 : Int) (o : (Clip × Int × Int)) (h : spec_l05DrawSized K a0 a1 a2 = some o) : MutOK Try.prog 33 [(.box 3 (fun j => [true, false, false].getD j true) (fun j => (cs_l00Src a0).getD j .nilptr) (fun j => [.nilptr, (.int .i64 o.2.1), (.int .u64 o.2.2)].getD j .nilptr)), (.one (.ro (.int .i64 a1))), (.one (.ro (.int .i64 a2)))] [.agg (cs_Clip o.1)] := by
  refine mutOK_of_AW 1 Try.func33 rfl (by kernel_rfl) (Nat.le_of_ble_eq_true (by kernel_rfl)) (by kernel_rfl) (by kernel_rfl) ?_
  intro w0 K0 v0 s0
  unfold spec_l05DrawSized at h
  let z4 := sl 1 (csI .u8) a0.code
  refine AW.weak (s' := ⟨[(0, (vp 0 0)), (1, (vI a1)), (2, (vI a2))], [(0, (.box [(.fx 0 0 z4), (cI a0.at_), (.c (.int .u64 a0.seed))]))]⟩) (subUnfx 0 [1, 2] (by kernel_rfl)) ?_
  refine AW.sC (Tt ∧ Tt) [.box 1] [0, 1, 2, 6] [0, 1] ⟨tr, tr⟩ ?_
  refine AW.seq ?_
  obtain ⟨v1, e2, h⟩ := bind_some h
  let z1 := IntKind.i64.wrap ((1 : Int) + v1.1)
  let z6 := cI (0 : Int)
  refine AW.tA ⟨[(0, (vp 0 0)), (1, (vI a1)), (2, (vI a2)), (6, (vp 1 0)), (7, (vp 2 0))], [(0, (.box [(.fx 0 0 z4), (cI v1.2.1), (.c (.int .u64 v1.2.2))])), (1, (.box [z6, z6, .nils, .nils])), (2, (.box [(cI z1), (cI a2), .nils, .nils]))]⟩ (Tt ∧ ((((Eqc z4) ∧ (eI a0.at_) ∧ (Eqc (.int .u64 a0.seed)) ∧ Tt) ∧ (eI (16 : Int)) ∧ Tt) ∧ MutOK Try.prog 45 [(.box 3 (fun j => [true, false, false].getD j true) (fun j => (cs_l00Src a0).getD j .nilptr) (fun j => [.nilptr, (.int .i64 v1.2.1), (.int .u64 v1.2.2)].getD j .nilptr)), .one (.ro (.int .i64 (16 : Int)))] [.one (.int .i64 v1.1)]) ∧ Tt ∧ T4 Tt) [.no, .callM [(.box 3 (fun j => [true, false, false].getD j true) (fun j => (cs_l00Src a0).getD j .nilptr) (fun j => [.nilptr, (.int .i64 v1.2.1), (.int .u64 v1.2.2)].getD j .nilptr)), .one (.ro (.int .i64 (16 : Int)))] [.one (.int .i64 v1.1)] [[.view]] none, .no, .no, .no, .box 2] [0, 1, 2, 6, 7] [0, 1, 2] ⟨tr, ⟨⟨⟨rfl, rfl, rfl, tr⟩, rfl, tr⟩, ok_spec_l00Src_pick K a0 (16 : Int) v1 e2⟩, tr, tr, tr, tr, tr, tr⟩ ?_
  refine AW.seq ?_
  refine AW.block ?_
  let z5 := csL 5 cs_Key
  let z20 := List (List Key)
  refine AW.weak (s' := ⟨[(0, (vp 0 0)), (1, (vI a1)), (2, (vI a2)), (6, (vp 1 0)), (7, (vp 2 0))], [(0, (.box [(.fx 0 0 z4), (cI v1.2.1), (.c (.int .u64 v1.2.2))])), (1, (.box [z6, z6, .nils, .nils])), (2, (.box [(cI z1), (cI a2), (xL 19 1 z5 ([] : z20)), .nils])), (19, (oL 1 z5 ([] : z20)))]⟩) (Sub.trans (Sub.unnil 19 1 (gl z5 ([] : z20)) [] [(2, 2)] _ (by kernel_rfl) (by kernel_rfl)) (Sub.keep [0, 1, 2, 6, 7] [0, 1, 2, 19] (by kernel_rfl) (by kernel_rfl))) ?_
  refine AW.loopQ (σ := Nat × Int × Int × Int × z20) (fun p => ⟨[(0, (vp 0 0)), (1, (vI p.2.1)), (2, (vI a2)), (6, (vp 1 0)), (7, (vp 2 0))], [(0, (.box [(.fx 0 0 z4), (cI p.2.2.1), (.c (.int .u64 p.2.2.2.1))])), (1, (.box [z6, z6, .nils, .nils])), (2, (.box [(cI z1), (cI a2), (xL 19 1 z5 p.2.2.2.2), .nils])), (19, (oL 1 z5 p.2.2.2.2))]⟩) (fun p => spec_l05DrawSized_l4 K a0 a2 v1 p.1 p.2.1 p.2.2.1 p.2.2.2.1 p.2.2.2.2 = some o) (fun p => p.1) (K, a1, v1.2.1, v1.2.2, ([] : z20)) h ?_
  clear h
  rintro ⟨k, x7, x8, x9, x10⟩ h
  replace h : spec_l05DrawSized_l4 K a0 a2 v1 k x7 x8 x9 x10 = some o := h
  let z7 := xL 19 1 z5 x10
  show AW _ _ (⟨[(0, (vp 0 0)), (1, (vI x7)), (2, (vI a2)), (6, (vp 1 0)), (7, (vp 2 0))], [(0, (.box [(.fx 0 0 z4), (cI x8), (.c (.int .u64 x9))])), (1, (.box [z6, z6, .nils, .nils])), (2, (.box [(cI z1), (cI a2), z7, .nils])), (19, (oL 1 z5 x10))]⟩ : St) _
  obtain _ | k := k
  · rw [spec_l05DrawSized_l4] at h; cases h
  rw [spec_l05DrawSized_l4] at h
  refine AW.seq ?_
  refine AW.sA ⟨[(0, (vp 0 0)), (1, (vI x7)), (2, (vI a2)), (6, (vp 1 0)), (7, (vp 2 0)), (19, (vB (decide (x7 > (0 : Int)))))], [(0, (.box [(.fx 0 0 z4), (cI x8), (.c (.int .u64 x9))])), (1, (.box [z6, z6, .nils, .nils])), (2, (.box [(cI z1), (cI a2), z7, .nils])), (19, (oL 1 z5 x10))]⟩ (T2 Tt) [] [0, 1, 2, 6, 7, 19] [0, 1, 2, 19] ⟨tr, tr, tr⟩ ?_
  rcases ite2_cases h with ⟨b11, h⟩ | ⟨b11, h⟩
  · refine AW.cond_t rfl b11 ?_
    refine AW.skip ?_
    refine thenQ_normal ?_
    refine AW.seq ?_
    refine AW.block ?_
    refine AW.sC ((([] : List Key).length = 0 ∧ Tt) ∧ Tt ∧ Tt) [.obj 52 ([] : List Key).length (gl cs_Key ([] : List Key))] [0, 1, 2, 6, 7, 8] [0, 1, 2, 19, 52] ⟨⟨rfl, tr⟩, tr, tr⟩ ?_
    refine AW.seq ?_
    obtain ⟨v12, e13, h⟩ := bind_some h
    let z25 := l00Src.mk a0.code x8 x9
    refine AW.tC (Tt ∧ T2 (((((Eqc z4) ∧ (eI x8) ∧ (Eqc (.int .u64 x9)) ∧ Tt) ∧ (eI z1) ∧ Tt) ∧ MutOK Try.prog 51 [(.box 3 (fun j => [true, false, false].getD j true) (fun j => (cs_l00Src z25).getD j .nilptr) (fun j => [.nilptr, (.int .i64 v12.2.1), (.int .u64 v12.2.2)].getD j .nilptr)), .one (.ro (.int .i64 z1))] [.one (sl 1 (csI .i64) v12.1)]) ∧ Tt ∧ Tt)) [.no, .no, .no, .callM [(.box 3 (fun j => [true, false, false].getD j true) (fun j => (cs_l00Src z25).getD j .nilptr) (fun j => [.nilptr, (.int .i64 v12.2.1), (.int .u64 v12.2.2)].getD j .nilptr)), .one (.ro (.int .i64 z1))] [.one (sl 1 (csI .i64) v12.1)] [[.lst 53]] none] [0, 1, 2, 6, 7, 8, 9] [0, 1, 2, 19, 52, 53] ⟨tr, tr, tr, ⟨⟨⟨rfl, rfl, rfl, tr⟩, rfl, tr⟩, ok_spec_l05DrawTimes K z25 z1 v12 e13⟩, tr, tr⟩ ?_
    refine AW.seq ?_
    let z10 := vL 53 1 (csI .i64) v12.1
    let z12 := vI (v12.1.length : Int)
    let z13 := oL 1 (csI .i64) v12.1
    refine AW.sA ⟨[(0, (vp 0 0)), (1, (vI x7)), (2, (vI a2)), (6, (vp 1 0)), (7, (vp 2 0)), (8, (vL 52 5 cs_Key ([] : List Key))), (9, z10), (28, z12), (29, (vI (0 : Int)))], [(0, (.box [(.fx 0 0 z4), (cI v12.2.1), (.c (.int .u64 v12.2.2))])), (1, (.box [z6, z6, .nils, .nils])), (2, (.box [(cI z1), (cI a2), z7, .nils])), (19, (oL 1 z5 x10)), (52, (oL 5 cs_Key ([] : List Key))), (53, z13)]⟩ (Tt ∧ T2 Tt) [] [0, 1, 2, 6, 7, 8, 9, 28, 29] [0, 1, 2, 19, 52, 53] ⟨tr, tr, tr, tr⟩ ?_
    obtain ⟨j28, e27, h⟩ := bind_some h
    refine AW.joinS (s2 := ⟨[(0, (vp 0 0)), (1, (vI x7)), (2, (vI a2)), (6, (vp 1 0)), (7, (vp 2 0)), (8, (vL 52 5 cs_Key j28.2.2))], [(0, (.box [(.fx 0 0 z4), (cI j28.1), (.c (.int .u64 j28.2.1))])), (1, (.box [z6, z6, .nils, .nils])), (2, (.box [(cI z1), (cI a2), z7, .nils])), (19, (oL 1 z5 x10)), (52, (oL 5 cs_Key j28.2.2))]⟩) ?_ ?_
    · replace h := e27
      refine AW.block ?_
      refine AW.loopQ (σ := Nat × Int × Int × Int × (List Key)) (fun p => ⟨[(0, (vp 0 0)), (1, (vI x7)), (2, (vI a2)), (6, (vp 1 0)), (7, (vp 2 0)), (8, (vL 52 5 cs_Key p.2.2.2.2)), (9, z10), (28, z12), (29, (vI p.2.1))], [(0, (.box [(.fx 0 0 z4), (cI p.2.2.1), (.c (.int .u64 p.2.2.2.1))])), (1, (.box [z6, z6, .nils, .nils])), (2, (.box [(cI z1), (cI a2), z7, .nils])), (19, (oL 1 z5 x10)), (52, (oL 5 cs_Key p.2.2.2.2)), (53, z13)]⟩) (fun p => spec_l05DrawSized_l5 K a0 v12 p.1 p.2.1 p.2.2.1 p.2.2.2.1 p.2.2.2.2 = some j28) (fun p => p.1) (K, (0 : Int), v12.2.1, v12.2.2, ([] : List Key)) h ?_
      clear h
      rintro ⟨k, x33, x34, x35, x36⟩ h
      replace h : spec_l05DrawSized_l5 K a0 v12 k x33 x34 x35 x36 = some j28 := h
      let z29 := vL 52 5 cs_Key x36
      show AW _ _ (⟨[(0, (vp 0 0)), (1, (vI x7)), (2, (vI a2)), (6, (vp 1 0)), (7, (vp 2 0)), (8, z29), (9, z10), (28, z12), (29, (vI x33))], [(0, (.box [(.fx 0 0 z4), (cI x34), (.c (.int .u64 x35))])), (1, (.box [z6, z6, .nils, .nils])), (2, (.box [(cI z1), (cI a2), z7, .nils])), (19, (oL 1 z5 x10)), (52, (oL 5 cs_Key x36)), (53, z13)]⟩ : St) _
      obtain _ | k := k
      · rw [spec_l05DrawSized_l5] at h; cases h
      rw [spec_l05DrawSized_l5] at h
      refine AW.sA ⟨[(0, (vp 0 0)), (1, (vI x7)), (2, (vI a2)), (6, (vp 1 0)), (7, (vp 2 0)), (8, z29), (9, z10), (28, z12), (29, (vI x33)), (30, (vB (decide (x33 < (v12.1.length : Int)))))], [(0, (.box [(.fx 0 0 z4), (cI x34), (.c (.int .u64 x35))])), (1, (.box [z6, z6, .nils, .nils])), (2, (.box [(cI z1), (cI a2), z7, .nils])), (19, (oL 1 z5 x10)), (52, (oL 5 cs_Key x36)), (53, z13)]⟩ (Tt ∧ Tt) [] [0, 1, 2, 6, 7, 8, 9, 28, 29, 30] [0, 1, 2, 19, 52, 53] ⟨tr, tr⟩ ?_
      refine AW.seq ?_
      rcases ite2_cases h with ⟨b37, h⟩ | ⟨b37, h⟩
      · refine AW.cond_t rfl b37 ?_
        refine AW.skip ?_
        refine thenQ_normal ?_
        refine AW.seq ?_
        refine AW.block ?_
        refine AW.sA ⟨[(0, (vp 0 0)), (1, (vI x7)), (2, (vI a2)), (6, (vp 1 0)), (7, (vp 2 0)), (8, z29), (9, z10), (10, (vI x33)), (28, z12), (29, (vI x33))], [(0, (.box [(.fx 0 0 z4), (cI x34), (.c (.int .u64 x35))])), (1, (.box [z6, z6, .nils, .nils])), (2, (.box [(cI z1), (cI a2), z7, .nils])), (19, (oL 1 z5 x10)), (52, (oL 5 cs_Key x36)), (53, z13)]⟩ (T2 Tt) [] [0, 1, 2, 6, 7, 8, 9, 10, 28, 29] [0, 1, 2, 19, 52, 53] ⟨tr, tr, tr⟩ ?_
        obtain ⟨c38, h⟩ := chk_some h
        obtain ⟨v39, e40, h⟩ := bind_some h
        obtain ⟨c41, h⟩ := chk_some h
        let z23 := v12.1.getD x33.toNat default
        let z3 := [(Key.mk z23 v39.1)]
        let z18 := vL 65 5 cs_Key (x36 ++ z3)
        let z19 := oL 5 cs_Key (x36 ++ z3)
        let z26 := l00Src.mk a0.code x34 x35
        refine AW.firstA (by kernel_rfl) [0, 1, 2, 5] [.no, .no, .no, .no, .no, .no, .callM [(.box 3 (fun j => [true, false, false].getD j true) (fun j => (cs_l00Src z26).getD j .nilptr) (fun j => [.nilptr, (.int .i64 v39.2.1), (.int .u64 v39.2.2)].getD j .nilptr))] [.agg (cs_Turn v39.1)] [[.view, .view, .view, .view]] none, .no, .obj 64 z3.length (gl cs_Key z3), .objK 65 (x36 ++ z3).length (gl cs_Key (x36 ++ z3))] [0, 1, 2, 6, 7, 8, 9, 28, 29] [0, 1, 2, 19, 53, 65] (s' := ⟨[(0, (vp 0 0)), (1, (vI x7)), (2, (vI a2)), (6, (vp 1 0)), (7, (vp 2 0)), (8, z18), (9, z10), (28, z12), (29, (vI x33))], [(0, (.box [(.fx 0 0 z4), (cI v39.2.1), (.c (.int .u64 v39.2.2))])), (1, (.box [z6, z6, .nils, .nils])), (2, (.box [(cI z1), (cI a2), z7, .nils])), (19, (oL 1 z5 x10)), (53, z13), (65, z19)]⟩) (ob := (Zt34 ((⟨[(0, (vp 0 0)), (1, (vI x7)), (2, (vI a2)), (6, (vp 1 0)), (7, (vp 2 0)), (8, z18), (9, z10), (28, z12), (29, (vI x33))], [(0, (.box [(.fx 0 0 z4), (cI v39.2.1), (.c (.int .u64 v39.2.2))])), (1, (.box [z6, z6, .nils, .nils])), (2, (.box [(cI z1), (cI a2), z7, .nils])), (19, (oL 1 z5 x10)), (53, z13), (65, z19)]⟩ : St) = ⟨[(0, (vp 0 0)), (1, (vI x7)), (2, (vI a2)), (6, (vp 1 0)), (7, (vp 2 0)), (8, z18), (9, z10), (28, z12), (29, (vI x33))], [(0, (.box [(.fx 0 0 z4), (cI v39.2.1), (.c (.int .u64 v39.2.2))])), (1, (.box [z6, z6, .nils, .nils])), (2, (.box [(cI z1), (cI a2), z7, .nils])), (19, (oL 1 z5 x10)), (53, z13), (65, z19)]⟩) ((0 ≤ x33 ∧ x33 < (v12.1.length : Int))) (((((Eqc z4) ∧ (eI x34) ∧ (Eqc (.int .u64 x35)) ∧ Tt) ∧ Tt) ∧ MutOK Try.prog 47 [(.box 3 (fun j => [true, false, false].getD j true) (fun j => (cs_l00Src z26).getD j .nilptr) (fun j => [.nilptr, (.int .i64 v39.2.1), (.int .u64 v39.2.2)].getD j .nilptr))] [.agg (cs_Turn v39.1)])) ((z3.length = 1 ∧ (((.int .i64 z23) : C) = (.int .i64 z23) ∧ Tt) ∧ (((.flt .f32 v39.1.W.bits) : C) = (.flt .f32 v39.1.W.bits) ∧ Tt) ∧ (((.flt .f32 v39.1.X.bits) : C) = (.flt .f32 v39.1.X.bits) ∧ Tt) ∧ (((.flt .f32 v39.1.Y.bits) : C) = (.flt .f32 v39.1.Y.bits) ∧ Tt) ∧ (((.flt .f32 v39.1.Z.bits) : C) = (.flt .f32 v39.1.Z.bits) ∧ Tt) ∧ Tt)) (((x36 ++ z3).length = x36.length + z3.length ∧ AppOb (x36.length) (z3.length) 5 (gl cs_Key x36) (gl cs_Key z3) (gl cs_Key (x36 ++ z3)) ∧ (∀ i j, i < z3.length → j < 5 → scalarC (gl cs_Key z3 i j)) ∧ (x36.length + z3.length) * 24 ≤ 140737488355328)))) (by kernel_rfl) (zt34 rfl (c38) ⟨⟨⟨rfl, rfl, rfl, tr⟩, tr⟩, ok_spec_l02DrawTurn K z26 v39 e40⟩ ⟨rfl, ⟨⟨rfl, tr⟩, ⟨rfl, tr⟩, ⟨rfl, tr⟩, ⟨rfl, tr⟩, ⟨rfl, tr⟩, tr⟩⟩ ⟨List.length_append, gl_append, gl_scalar sc_Key _, c41⟩) ?_
        refine blockQ_normal ?_
        refine thenQ_normal ?_
        let z32 := IntKind.i64.wrap (x33 + (1 : Int))
        refine AW.rA ⟨[(0, (vp 0 0)), (1, (vI x7)), (2, (vI a2)), (6, (vp 1 0)), (7, (vp 2 0)), (8, z18), (9, z10), (28, z12), (29, (vI z32))], [(0, (.box [(.fx 0 0 z4), (cI v39.2.1), (.c (.int .u64 v39.2.2))])), (1, (.box [z6, z6, .nils, .nils])), (2, (.box [(cI z1), (cI a2), z7, .nils])), (19, (oL 1 z5 x10)), (53, z13), (65, z19)]⟩ (T2 Tt) [] [0, 1, 2, 6, 7, 8, 9, 28, 29] [0, 1, 2, 19, 53, 65] ⟨tr, tr, tr⟩ ?_
        exact loopQ_normal (k, z32, v39.2.1, v39.2.2, (x36 ++ z3)) h (Nat.lt_succ_self k) (Sub.trans (Sub.swap 52 65 _ (by kernel_rfl) (by kernel_rfl)) (Sub.keep [0, 1, 2, 6, 7, 8, 9, 28, 29] [0, 1, 2, 19, 52, 53] (by kernel_rfl) (by kernel_rfl)))
      · refine AW.cond_f rfl b37 ?_
        refine AW.exit ?_
        refine thenQ_exit ?_
        refine loopQ_exit ?_
        refine blockQ_exit ?_
        replace h := some_eq h
        subst h
        exact ⟨rfl, Sub.keep [0, 1, 2, 6, 7, 8] [0, 1, 2, 19, 52] (by kernel_rfl) (by kernel_rfl)⟩
    refine thenQ_normal ?_
    obtain ⟨c42, h⟩ := chk_some h
    let z14 := x10 ++ ([j28.2.2])
    refine AW.rA ⟨[(0, (vp 0 0)), (1, (vI x7)), (2, (vI a2)), (6, (vp 1 0)), (7, (vp 2 0))], [(0, (.box [(.fx 0 0 z4), (cI j28.1), (.c (.int .u64 j28.2.1))])), (1, (.box [z6, z6, .nils, .nils])), (2, (.box [(cI z1), (cI a2), (xL 67 1 z5 z14), .nils])), (67, (oL 1 z5 z14))]⟩ (Tt ∧ T2 ((([j28.2.2]).length = 1 ∧ (Eqc (sl 5 cs_Key j28.2.2)) ∧ Tt) ∧ (z14.length = x10.length + ([j28.2.2]).length ∧ AppOb (x10.length) (([j28.2.2]).length) 1 (gl z5 x10) (gl z5 ([j28.2.2])) (gl z5 z14) ∧ Tt ∧ (x10.length + ([j28.2.2]).length) * 24 ≤ 140737488355328) ∧ T2 Tt)) [.no, .no, .no, .obj 66 ([j28.2.2]).length (gl z5 ([j28.2.2])), .obj 67 z14.length (gl z5 z14)] [0, 1, 2, 6, 7] [0, 1, 2, 67] ⟨tr, tr, tr, ⟨rfl, ⟨rfl, tr⟩⟩, ⟨List.length_append, gl_append, tr, c42⟩, tr, tr, tr⟩ ?_
    refine blockQ_normal ?_
    refine thenQ_normal ?_
    let z30 := IntKind.i64.wrap (x7 - (1 : Int))
    refine AW.rA ⟨[(0, (vp 0 0)), (1, (vI z30)), (2, (vI a2)), (6, (vp 1 0)), (7, (vp 2 0))], [(0, (.box [(.fx 0 0 z4), (cI j28.1), (.c (.int .u64 j28.2.1))])), (1, (.box [z6, z6, .nils, .nils])), (2, (.box [(cI z1), (cI a2), (xL 67 1 z5 z14), .nils])), (67, (oL 1 z5 z14))]⟩ (Tt ∧ T2 Tt) [] [0, 1, 2, 6, 7] [0, 1, 2, 67] ⟨tr, tr, tr, tr⟩ ?_
    exact loopQ_normal (k, z30, j28.1, j28.2.1, z14) h (Nat.lt_succ_self k) (Sub.trans (Sub.swap 19 67 _ (by kernel_rfl) (by kernel_rfl)) (Sub.keep [0, 1, 2, 6, 7] [0, 1, 2, 19] (by kernel_rfl) (by kernel_rfl)))
  · refine AW.cond_f rfl b11 ?_
    refine AW.exit ?_
    refine thenQ_exit ?_
    refine loopQ_exit ?_
    refine blockQ_exit ?_
    refine thenQ_normal ?_
    refine AW.seq ?_
    obtain ⟨v43, e44, h⟩ := bind_some h
    let z27 := l00Src.mk a0.code x8 x9
    refine AW.tC (Tt ∧ T2 (((((Eqc z4) ∧ (eI x8) ∧ (Eqc (.int .u64 x9)) ∧ Tt) ∧ (eI z1) ∧ Tt) ∧ MutOK Try.prog 51 [(.box 3 (fun j => [true, false, false].getD j true) (fun j => (cs_l00Src z27).getD j .nilptr) (fun j => [.nilptr, (.int .i64 v43.2.1), (.int .u64 v43.2.2)].getD j .nilptr)), .one (.ro (.int .i64 z1))] [.one (sl 1 (csI .i64) v43.1)]) ∧ Tt ∧ Tt)) [.no, .no, .no, .callM [(.box 3 (fun j => [true, false, false].getD j true) (fun j => (cs_l00Src z27).getD j .nilptr) (fun j => [.nilptr, (.int .i64 v43.2.1), (.int .u64 v43.2.2)].getD j .nilptr)), .one (.ro (.int .i64 z1))] [.one (sl 1 (csI .i64) v43.1)] [[.lst 68]] none] [0, 1, 2, 6, 7, 11] [0, 1, 2, 19, 68] ⟨tr, tr, tr, ⟨⟨⟨rfl, rfl, rfl, tr⟩, rfl, tr⟩, ok_spec_l05DrawTimes K z27 z1 v43 e44⟩, tr, tr⟩ ?_
    refine AW.seq ?_
    let z8 := vL 68 1 (csI .i64) v43.1
    let z9 := vI (v43.1.length : Int)
    let z11 := oL 1 (csI .i64) v43.1
    refine AW.sA ⟨[(0, (vp 0 0)), (1, (vI x7)), (2, (vI a2)), (6, (vp 1 0)), (7, (vp 2 0)), (11, z8), (54, z9), (55, (vI (0 : Int)))], [(0, (.box [(.fx 0 0 z4), (cI v43.2.1), (.c (.int .u64 v43.2.2))])), (1, (.box [z6, z6, .nils, .nils])), (2, (.box [(cI z1), (cI a2), z7, .nils])), (19, (oL 1 z5 x10)), (68, z11)]⟩ (Tt ∧ T2 Tt) [] [0, 1, 2, 6, 7, 11, 54, 55] [0, 1, 2, 19, 68] ⟨tr, tr, tr, tr⟩ ?_
    refine AW.block ?_
    let z28 := List RootKey
    refine AW.weak (s' := ⟨[(0, (vp 0 0)), (1, (vI x7)), (2, (vI a2)), (6, (vp 1 0)), (7, (vp 2 0)), (11, z8), (54, z9), (55, (vI (0 : Int)))], [(0, (.box [(.fx 0 0 z4), (cI v43.2.1), (.c (.int .u64 v43.2.2))])), (1, (.box [z6, z6, .nils, .nils])), (2, (.box [(cI z1), (cI a2), z7, (xL 71 4 cs_RootKey ([] : z28))])), (19, (oL 1 z5 x10)), (68, z11), (71, (oL 4 cs_RootKey ([] : z28)))]⟩) (Sub.trans (Sub.unnil 71 4 (gl cs_RootKey ([] : z28)) [] [(2, 3)] _ (by kernel_rfl) (by kernel_rfl)) (Sub.keep [0, 1, 2, 6, 7, 11, 54, 55] [0, 1, 2, 19, 68, 71] (by kernel_rfl) (by kernel_rfl))) ?_
    refine AW.loopQ (σ := Nat × Int × Int × Int × z28) (fun p => ⟨[(0, (vp 0 0)), (1, (vI x7)), (2, (vI a2)), (6, (vp 1 0)), (7, (vp 2 0)), (11, z8), (54, z9), (55, (vI p.2.1))], [(0, (.box [(.fx 0 0 z4), (cI p.2.2.1), (.c (.int .u64 p.2.2.2.1))])), (1, (.box [z6, z6, .nils, .nils])), (2, (.box [(cI z1), (cI a2), z7, (xL 71 4 cs_RootKey p.2.2.2.2)])), (19, (oL 1 z5 x10)), (68, z11), (71, (oL 4 cs_RootKey p.2.2.2.2))]⟩) (fun p => spec_l05DrawSized_l6 K a0 a2 v1 x10 v43 p.1 p.2.1 p.2.2.1 p.2.2.2.1 p.2.2.2.2 = some o) (fun p => p.1) (K, (0 : Int), v43.2.1, v43.2.2, ([] : z28)) h ?_
    clear h
    rintro ⟨k, x49, x50, x51, x52⟩ h
    replace h : spec_l05DrawSized_l6 K a0 a2 v1 x10 v43 k x49 x50 x51 x52 = some o := h
    let z16 := xL 71 4 cs_RootKey x52
    let z21 := oL 4 cs_RootKey x52
    show AW _ _ (⟨[(0, (vp 0 0)), (1, (vI x7)), (2, (vI a2)), (6, (vp 1 0)), (7, (vp 2 0)), (11, z8), (54, z9), (55, (vI x49))], [(0, (.box [(.fx 0 0 z4), (cI x50), (.c (.int .u64 x51))])), (1, (.box [z6, z6, .nils, .nils])), (2, (.box [(cI z1), (cI a2), z7, z16])), (19, (oL 1 z5 x10)), (68, z11), (71, z21)]⟩ : St) _
    obtain _ | k := k
    · rw [spec_l05DrawSized_l6] at h; cases h
    rw [spec_l05DrawSized_l6] at h
    refine AW.sA ⟨[(0, (vp 0 0)), (1, (vI x7)), (2, (vI a2)), (6, (vp 1 0)), (7, (vp 2 0)), (11, z8), (54, z9), (55, (vI x49)), (56, (vB (decide (x49 < (v43.1.length : Int)))))], [(0, (.box [(.fx 0 0 z4), (cI x50), (.c (.int .u64 x51))])), (1, (.box [z6, z6, .nils, .nils])), (2, (.box [(cI z1), (cI a2), z7, z16])), (19, (oL 1 z5 x10)), (68, z11), (71, z21)]⟩ (Tt ∧ Tt) [] [0, 1, 2, 6, 7, 11, 54, 55, 56] [0, 1, 2, 19, 68, 71] ⟨tr, tr⟩ ?_
    refine AW.seq ?_
    rcases ite2_cases h with ⟨b53, h⟩ | ⟨b53, h⟩
    · refine AW.cond_t rfl b53 ?_
      refine AW.skip ?_
      refine thenQ_normal ?_
      refine AW.seq ?_
      refine AW.block ?_
      refine AW.sA ⟨[(0, (vp 0 0)), (1, (vI x7)), (2, (vI a2)), (6, (vp 1 0)), (7, (vp 2 0)), (11, z8), (12, (vI x49)), (54, z9), (55, (vI x49))], [(0, (.box [(.fx 0 0 z4), (cI x50), (.c (.int .u64 x51))])), (1, (.box [z6, z6, .nils, .nils])), (2, (.box [(cI z1), (cI a2), z7, z16])), (19, (oL 1 z5 x10)), (68, z11), (71, z21)]⟩ (T2 Tt) [] [0, 1, 2, 6, 7, 11, 12, 54, 55] [0, 1, 2, 19, 68, 71] ⟨tr, tr, tr⟩ ?_
      obtain ⟨c54, h⟩ := chk_some h
      obtain ⟨v55, e56, h⟩ := bind_some h
      obtain ⟨c57, h⟩ := chk_some h
      let z22 := v43.1.getD x49.toNat default
      let z2 := [(RootKey.mk z22 v55.1)]
      let z15 := xL 77 4 cs_RootKey (x52 ++ z2)
      let z17 := oL 4 cs_RootKey (x52 ++ z2)
      let z24 := l00Src.mk a0.code x50 x51
      refine AW.firstA (by kernel_rfl) [0, 2, 3, 6] [.no, .no, .no, .no, .no, .no, .no, .callM [(.box 3 (fun j => [true, false, false].getD j true) (fun j => (cs_l00Src z24).getD j .nilptr) (fun j => [.nilptr, (.int .i64 v55.2.1), (.int .u64 v55.2.2)].getD j .nilptr))] [.agg (cs_Vector v55.1)] [[.view, .view, .view]] none, .no, .obj 76 z2.length (gl cs_RootKey z2), .objK 77 (x52 ++ z2).length (gl cs_RootKey (x52 ++ z2))] [0, 1, 2, 6, 7, 11, 54, 55] [0, 1, 2, 19, 68, 77] (s' := ⟨[(0, (vp 0 0)), (1, (vI x7)), (2, (vI a2)), (6, (vp 1 0)), (7, (vp 2 0)), (11, z8), (54, z9), (55, (vI x49))], [(0, (.box [(.fx 0 0 z4), (cI v55.2.1), (.c (.int .u64 v55.2.2))])), (1, (.box [z6, z6, .nils, .nils])), (2, (.box [(cI z1), (cI a2), z7, z15])), (19, (oL 1 z5 x10)), (68, z11), (77, z17)]⟩) (ob := (Zt44 ((⟨[(0, (vp 0 0)), (1, (vI x7)), (2, (vI a2)), (6, (vp 1 0)), (7, (vp 2 0)), (11, z8), (54, z9), (55, (vI x49))], [(0, (.box [(.fx 0 0 z4), (cI v55.2.1), (.c (.int .u64 v55.2.2))])), (1, (.box [z6, z6, .nils, .nils])), (2, (.box [(cI z1), (cI a2), z7, z15])), (19, (oL 1 z5 x10)), (68, z11), (77, z17)]⟩ : St) = ⟨[(0, (vp 0 0)), (1, (vI x7)), (2, (vI a2)), (6, (vp 1 0)), (7, (vp 2 0)), (11, z8), (54, z9), (55, (vI x49))], [(0, (.box [(.fx 0 0 z4), (cI v55.2.1), (.c (.int .u64 v55.2.2))])), (1, (.box [z6, z6, .nils, .nils])), (2, (.box [(cI z1), (cI a2), z7, z15])), (19, (oL 1 z5 x10)), (68, z11), (77, z17)]⟩) ((0 ≤ x49 ∧ x49 < (v43.1.length : Int))) (((((Eqc z4) ∧ (eI x50) ∧ (Eqc (.int .u64 x51)) ∧ Tt) ∧ Tt) ∧ MutOK Try.prog 46 [(.box 3 (fun j => [true, false, false].getD j true) (fun j => (cs_l00Src z24).getD j .nilptr) (fun j => [.nilptr, (.int .i64 v55.2.1), (.int .u64 v55.2.2)].getD j .nilptr))] [.agg (cs_Vector v55.1)])) ((z2.length = 1 ∧ (((.int .i64 z22) : C) = (.int .i64 z22) ∧ Tt) ∧ (((.flt .f32 v55.1.X.bits) : C) = (.flt .f32 v55.1.X.bits) ∧ Tt) ∧ (((.flt .f32 v55.1.Y.bits) : C) = (.flt .f32 v55.1.Y.bits) ∧ Tt) ∧ (((.flt .f32 v55.1.Z.bits) : C) = (.flt .f32 v55.1.Z.bits) ∧ Tt) ∧ Tt)) (((x52 ++ z2).length = x52.length + z2.length ∧ AppOb (x52.length) (z2.length) 4 (gl cs_RootKey x52) (gl cs_RootKey z2) (gl cs_RootKey (x52 ++ z2)) ∧ (∀ i j, i < z2.length → j < 4 → scalarC (gl cs_RootKey z2 i j)) ∧ (x52.length + z2.length) * 24 ≤ 140737488355328)))) (by kernel_rfl) (zt44 rfl (c54) ⟨⟨⟨rfl, rfl, rfl, tr⟩, tr⟩, ok_spec_l01DrawVector K z24 v55 e56⟩ ⟨rfl, ⟨⟨rfl, tr⟩, ⟨rfl, tr⟩, ⟨rfl, tr⟩, ⟨rfl, tr⟩, tr⟩⟩ ⟨List.length_append, gl_append, gl_scalar sc_RootKey _, c57⟩) ?_
      refine blockQ_normal ?_
      refine thenQ_normal ?_
      let z31 := IntKind.i64.wrap (x49 + (1 : Int))
      refine AW.rA ⟨[(0, (vp 0 0)), (1, (vI x7)), (2, (vI a2)), (6, (vp 1 0)), (7, (vp 2 0)), (11, z8), (54, z9), (55, (vI z31))], [(0, (.box [(.fx 0 0 z4), (cI v55.2.1), (.c (.int .u64 v55.2.2))])), (1, (.box [z6, z6, .nils, .nils])), (2, (.box [(cI z1), (cI a2), z7, z15])), (19, (oL 1 z5 x10)), (68, z11), (77, z17)]⟩ (T2 Tt) [] [0, 1, 2, 6, 7, 11, 54, 55] [0, 1, 2, 19, 68, 77] ⟨tr, tr, tr⟩ ?_
      exact loopQ_normal (k, z31, v55.2.1, v55.2.2, (x52 ++ z2)) h (Nat.lt_succ_self k) (Sub.trans (Sub.swap 71 77 _ (by kernel_rfl) (by kernel_rfl)) (Sub.keep [0, 1, 2, 6, 7, 11, 54, 55] [0, 1, 2, 19, 68, 71] (by kernel_rfl) (by kernel_rfl)))
    · refine AW.cond_f rfl b53 ?_
      refine AW.exit ?_
      refine thenQ_exit ?_
      refine loopQ_exit ?_
      refine blockQ_exit ?_
      refine thenQ_normal ?_
      refine AW.sA ⟨[(0, (vp 0 0)), (1, (vI x7)), (2, (vI a2)), (6, (vp 1 0))], [(0, (.box [(.fx 0 0 z4), (cI x50), (.c (.int .u64 x51))])), (1, (.box [(cI z1), (cI a2), z7, z16])), (19, (oL 1 z5 x10)), (71, z21)]⟩ (T2 Tt) [] [0, 1, 2, 6] [0, 1, 19, 71] ⟨tr, tr, tr⟩ ?_
      refine AW.ret ?_
      replace h := some_eq h
      subst h
      exact ⟨.inr rfl, retOK_of [(.agg [(cI z1), (cI a2), z7, z16])] (by kernel_rfl) ⟨⟨⟨rfl, tr⟩, ⟨rfl, tr⟩, rfl, rfl, tr⟩, tr⟩ (of_decide_eq_true (by kernel_rfl)), by kernel_rfl, ⟨⟨rfl, ⟨⟨rfl, rfl⟩, ⟨rfl, rfl⟩, ⟨rfl, rfl⟩, tr⟩⟩, tr, tr, tr⟩⟩

/-! spec.B10Like -/
def spec_B10Like (K : Nat) (a0 : (List Int)) (a1 : Clip) : Option (Clip) :=
  (spec_l05DrawSized K (l00Src.mk a0 (0 : Int) (0 : Int)) (a1.Tracks.length : Int) a1.Kind).bind fun v1 => some v1.1

theorem ok_spec_B10Like (K : Nat) (a0 : (List Int)) (a1 : Clip) (o : (Clip)) (h : spec_B10Like K a0 a1 = some o) : CallOK Try.prog 14 [.one (sl 1 (csI .u8) a0), .agg (cs_Clip a1)] [.agg (cs_Clip o)] := by
  refine callOK_of_AW Try.func14 rfl (by kernel_rfl) (Nat.le_of_ble_eq_true (by kernel_rfl)) ?_
  intro w0
  unfold spec_B10Like at h
  let z3 := csL 5 cs_Key
  let z4 := cI (0 : Int)
  let z5 := sl 1 (csI .u8) a0
  refine AW.sA ⟨[(0, (vc z5)), (3, (vp 1 0)), (4, (vp 2 0))], [(1, (.box [(cI a1.Length), (cI a1.Kind), (.c (sl 1 z3 a1.Tracks)), (.c (sl 4 cs_RootKey a1.Roots))])), (2, (.box [z4, z4, .nils, .nils]))]⟩ (T2 Tt) [.box 1, .box 2] [0, 3, 4] [1, 2] ⟨tr, tr, tr⟩ ?_
  refine AW.seq (AW.mkA 1 3 [(.i64, 0), (.u64, 0)] [.no] [] [3, 4, 5] [1, 2, 3] (s' := ⟨[(3, (vp 1 0)), (4, (vp 2 0)), (5, (vp 3 0))], [(1, (.box [(cI a1.Length), (cI a1.Kind), (.c (sl 1 z3 a1.Tracks)), (.c (sl 4 cs_RootKey a1.Roots))])), (2, (.box [z4, z4, .nils, .nils])), (3, (.box [(.c z5), z4, (.c (.int .u64 (0 : Int)))]))]⟩) (ob := (Tt ∧ Tt) ∧ Tt ∧ (Tt ∧ Tt)) (by kernel_rfl) ⟨⟨tr, tr⟩, tr, ⟨tr, tr⟩⟩ mk_spec_l00From (thenQ_normal ?_))
  refine AW.seq ?_
  obtain ⟨v1, e2, h⟩ := bind_some h
  let z1 := (a1.Tracks.length : Int)
  let z2 := l00Src.mk a0 (0 : Int) (0 : Int)
  let z6 := xL 5 4 cs_RootKey v1.1.Roots
  refine AW.tA ⟨[(4, (vp 2 0))], [(2, (.box [(cI v1.1.Length), (cI v1.1.Kind), (xL 4 1 z3 v1.1.Tracks), z6])), (4, (oL 1 z3 v1.1.Tracks)), (5, (oL 4 cs_RootKey v1.1.Roots))]⟩ (T2 (T4 (((((Eqc z5) ∧ (eI (0 : Int)) ∧ (Eqc (.int .u64 (0 : Int))) ∧ Tt) ∧ (eI z1) ∧ (eI a1.Kind) ∧ Tt) ∧ MutOK Try.prog 33 [(.box 3 (fun j => [true, false, false].getD j true) (fun j => (cs_l00Src z2).getD j .nilptr) (fun j => [.nilptr, (.int .i64 v1.2.1), (.int .u64 v1.2.2)].getD j .nilptr)), .one (.ro (.int .i64 z1)), .one (.ro (.int .i64 a1.Kind))] [.agg (cs_Clip v1.1)]) ∧ Tt ∧ Tt))) [.no, .no, .no, .no, .no, .no, .callM [(.box 3 (fun j => [true, false, false].getD j true) (fun j => (cs_l00Src z2).getD j .nilptr) (fun j => [.nilptr, (.int .i64 v1.2.1), (.int .u64 v1.2.2)].getD j .nilptr)), .one (.ro (.int .i64 z1)), .one (.ro (.int .i64 a1.Kind))] [.agg (cs_Clip v1.1)] [[.view, .view, .lst 4, .lst 5]] none] [4] [2, 4, 5] ⟨tr, tr, tr, tr, tr, tr, ⟨⟨⟨rfl, rfl, rfl, tr⟩, rfl, rfl, tr⟩, ok_spec_l05DrawSized K z2 z1 a1.Kind v1 e2⟩, tr, tr⟩ ?_
  refine AW.ret ?_
  replace h := some_eq h
  subst h
  exact ⟨.inr rfl, retOK_of [(.agg [(cI v1.1.Length), (cI v1.1.Kind), (xL 4 1 z3 v1.1.Tracks), z6])] (by kernel_rfl) ⟨⟨⟨rfl, tr⟩, ⟨rfl, tr⟩, rfl, rfl, tr⟩, tr⟩ (of_decide_eq_true (by kernel_rfl))⟩

/-! impl.turnTrack -/
def impl_turnTrack (_K : Nat) : Option (Unit) :=
  some ()

theorem ok_impl_turnTrack (K : Nat) (o : (Unit)) (h : impl_turnTrack K  = some o) : CallOK Try.prog 52 [] [.agg [(.fn 69 0 fun _ => .nilptr), (.fn 70 0 fun _ => .nilptr), (.fn 71 0 fun _ => .nilptr)]] := by
  refine callOK_of_AW Try.func52 rfl (by kernel_rfl) (Nat.le_of_ble_eq_true (by kernel_rfl)) ?_
  intro w0
  unfold impl_turnTrack at h
  refine AW.sC (Tt ∧ Tt) [.box 1] [0] [1] ⟨tr, tr⟩ ?_
  refine AW.sA ⟨[(0, (vp 1 0))], [(1, (.box [(.c (.fn 69 0 fun _ => .nilptr)), (.c (.fn 70 0 fun _ => .nilptr)), (.c (.fn 71 0 fun _ => .nilptr))]))]⟩ (T2 Tt) [] [0] [1] ⟨tr, tr, tr⟩ ?_
  refine AW.ret ?_
  replace h := some_eq h
  subst h
  exact ⟨.inr rfl, retOK_of [(.agg [(.c (.fn 69 0 fun _ => .nilptr)), (.c (.fn 70 0 fun _ => .nilptr)), (.c (.fn 71 0 fun _ => .nilptr))])] (by kernel_rfl) ⟨⟨⟨rfl, rfl⟩, ⟨rfl, rfl⟩, ⟨rfl, rfl⟩, tr⟩, tr⟩ (of_decide_eq_true (by kernel_rfl))⟩

/-! impl.turnTrack$1 -/
def impl_turnTrack_1 (_K : Nat) (a0 : Key) : Option (Int) :=
  some a0.At

theorem ok_impl_turnTrack_1 (K : Nat) (a0 : Key) (o : (Int)) (h : impl_turnTrack_1 K a0 = some o) : CallOK Try.prog 69 [.agg (cs_Key a0)] [.one (.int .i64 o)] := by
  refine callOK_of_AW Try.func69 rfl (by kernel_rfl) (Nat.le_of_ble_eq_true (by kernel_rfl)) ?_
  intro w0
  unfold impl_turnTrack_1 at h
  refine AW.sC (T2 Tt) [.box 1] [1] [1] ⟨tr, tr, tr⟩ ?_
  refine AW.sA ⟨[(2, (vI a0.At))], []⟩ (Tt ∧ T2 Tt) [] [2] [] ⟨tr, tr, tr, tr⟩ ?_
  refine AW.ret ?_
  replace h := some_eq h
  subst h
  exact ⟨.inr rfl, retOK_of [(.one (cI a0.At))] (by kernel_rfl) ⟨⟨rfl, tr⟩, tr⟩ (of_decide_eq_true (by kernel_rfl))⟩

/-! (impl.track[impl.Key]).valid -/
def impl_track_impl_Key_valid_l1 (K : Nat) (a1 : (List Key)) (a2 : Int) : Nat → Int → Int → Option (Bool)
  | 0, _, _ => none
  | k + 1, x3, x4 => ite2 ((decide (x4 < (a1.length : Int)))) (chk (0 ≤ x4 ∧ x4 < (a1.length : Int)) ((impl_turnTrack_1 K (a1.getD x4.toNat default)).bind fun v7 => (ite2 ((decide (v7 ≤ x3))) (some true) (some (decide (v7 > a2)))).bind fun j10 => ite2 (j10) (some false) ((impl_turnTrack_1 K (a1.getD x4.toNat default)).bind fun v13 => impl_track_impl_Key_valid_l1 K a1 a2 k v13 (IntKind.i64.wrap (x4 + (1 : Int)))))) ((ite2 ((decide ((a1.length : Int) ≥ (1 : Int)))) (some (decide ((a1.length : Int) ≤ (12 : Int)))) (some false)).bind fun j16 => some j16)

def impl_track_impl_Key_valid (K : Nat) (a1 : (List Key)) (a2 : Int) : Option (Bool) :=
  impl_track_impl_Key_valid_l1 K a1 a2 K ((-1) : Int) (0 : Int)

theorem ok_impl_track_impl_Key_valid (K : Nat) (a1 : (List Key)) (a2 : Int) (o : (Bool)) (h : impl_track_impl_Key_valid K a1 a2 = some o) : CallOK Try.prog 53 [.agg [(.fn 69 0 fun _ => .nilptr), (.fn 70 0 fun _ => .nilptr), (.fn 71 0 fun _ => .nilptr)], .one (sl 5 cs_Key a1), .one (.int .i64 a2)] [.one (.bool o)] := by
  refine callOK_of_AW Try.func53 rfl (by kernel_rfl) (Nat.le_of_ble_eq_true (by kernel_rfl)) ?_
  intro w0
  unfold impl_track_impl_Key_valid at h
  refine AW.sC (T2 Tt) [.box 1] [1, 2, 3] [1] ⟨tr, tr, tr⟩ ?_
  refine AW.sC (Tt ∧ Tt) [] [1, 2, 3, 7] [1] ⟨tr, tr⟩ ?_
  refine AW.seq ?_
  let z2 := vc (sl 5 cs_Key a1)
  let z3 := vI (a1.length : Int)
  refine AW.sA ⟨[(1, z2), (2, (vI a2)), (3, (vp 1 0)), (7, (vI ((-1) : Int))), (11, z2), (12, z3), (13, (vI (0 : Int)))], [(1, (.box [(.c (.fn 69 0 fun _ => .nilptr)), (.c (.fn 70 0 fun _ => .nilptr)), (.c (.fn 71 0 fun _ => .nilptr))]))]⟩ (Tt ∧ T2 Tt) [] [1, 2, 3, 7, 11, 12, 13] [1] ⟨tr, tr, tr, tr⟩ ?_
  refine AW.block ?_
  refine AW.loopQ (σ := Nat × Int × Int) (fun p => ⟨[(1, z2), (2, (vI a2)), (3, (vp 1 0)), (7, (vI p.2.1)), (11, z2), (12, z3), (13, (vI p.2.2))], [(1, (.box [(.c (.fn 69 0 fun _ => .nilptr)), (.c (.fn 70 0 fun _ => .nilptr)), (.c (.fn 71 0 fun _ => .nilptr))]))]⟩) (fun p => impl_track_impl_Key_valid_l1 K a1 a2 p.1 p.2.1 p.2.2 = some o) (fun p => p.1) (K, ((-1) : Int), (0 : Int)) h ?_
  clear h
  rintro ⟨k, x3, x4⟩ h
  replace h : impl_track_impl_Key_valid_l1 K a1 a2 k x3 x4 = some o := h
  show AW _ _ (⟨[(1, z2), (2, (vI a2)), (3, (vp 1 0)), (7, (vI x3)), (11, z2), (12, z3), (13, (vI x4))], [(1, (.box [(.c (.fn 69 0 fun _ => .nilptr)), (.c (.fn 70 0 fun _ => .nilptr)), (.c (.fn 71 0 fun _ => .nilptr))]))]⟩ : St) _
  obtain _ | k := k
  · rw [impl_track_impl_Key_valid_l1] at h; cases h
  rw [impl_track_impl_Key_valid_l1] at h
  refine AW.sA ⟨[(1, z2), (2, (vI a2)), (3, (vp 1 0)), (7, (vI x3)), (11, z2), (12, z3), (13, (vI x4)), (14, (vB (decide (x4 < (a1.length : Int)))))], [(1, (.box [(.c (.fn 69 0 fun _ => .nilptr)), (.c (.fn 70 0 fun _ => .nilptr)), (.c (.fn 71 0 fun _ => .nilptr))]))]⟩ (Tt ∧ Tt) [] [1, 2, 3, 7, 11, 12, 13, 14] [1] ⟨tr, tr⟩ ?_
  refine AW.seq ?_
  rcases ite2_cases h with ⟨b5, h⟩ | ⟨b5, h⟩
  · refine AW.cond_t rfl b5 ?_
    refine AW.skip ?_
    refine thenQ_normal ?_
    refine AW.seq ?_
    refine AW.block ?_
    refine AW.seq ?_
    obtain ⟨c6, h⟩ := chk_some h
    refine AW.tC ((0 ≤ x4 ∧ x4 < (a1.length : Int)) ∧ Tt ∧ T2 Tt) [.no, .no, .box 4] [1, 2, 3, 7, 9, 11, 12, 13] [1, 4] ⟨c6, tr, tr, tr, tr⟩ ?_
    refine AW.seq ?_
    refine AW.seq ?_
    obtain ⟨v7, e8, h⟩ := bind_some h
    let z1 := a1.getD x4.toNat default
    let z4 := ((eI (z1.At)) ∧ (eF ((z1.Turn).W)) ∧ (eF ((z1.Turn).X)) ∧ (eF ((z1.Turn).Y)) ∧ (eF ((z1.Turn).Z)) ∧ Tt) ∧ Tt
    let z5 := cF ((z1.Turn).W)
    let z6 := cF ((z1.Turn).X)
    let z7 := cF ((z1.Turn).Y)
    let z8 := cF ((z1.Turn).Z)
    let z9 : List CT := [.agg (cs_Key z1)]
    refine AW.tA ⟨[(1, z2), (2, (vI a2)), (3, (vp 1 0)), (7, (vI x3)), (9, (vp 4 0)), (10, (vI v7)), (11, z2), (12, z3), (13, (vI x4))], [(1, (.box [(.c (.fn 69 0 fun _ => .nilptr)), (.c (.fn 70 0 fun _ => .nilptr)), (.c (.fn 71 0 fun _ => .nilptr))])), (4, (.box [(cI (z1.At)), z5, z6, z7, z8]))]⟩ (Tt ∧ T2 ((z4 ∧ CallOK Try.prog 69 z9 [.one (.int .i64 v7)]) ∧ Tt ∧ Tt)) [.no, .no, .no, .call z9 [.one (.int .i64 v7)] [[.view]]] [1, 2, 3, 7, 9, 10, 11, 12, 13] [1, 4] ⟨tr, tr, tr, ⟨⟨⟨rfl, rfl, rfl, rfl, rfl, tr⟩, tr⟩, ok_impl_turnTrack_1 K z1 v7 e8⟩, tr, tr⟩ ?_
    refine AW.seq ?_
    obtain ⟨j10, e11, h⟩ := bind_some h
    refine AW.join1 (s2 := ⟨[(1, z2), (2, (vI a2)), (3, (vp 1 0)), (9, (vp 4 0)), (11, z2), (12, z3), (13, (vI x4)), (28, (vB j10))], [(1, (.box [(.c (.fn 69 0 fun _ => .nilptr)), (.c (.fn 70 0 fun _ => .nilptr)), (.c (.fn 71 0 fun _ => .nilptr))])), (4, (.box [(cI (z1.At)), z5, z6, z7, z8]))]⟩) ?_ ?_
    · rcases ite2_cases e11 with ⟨b9, e11⟩ | ⟨b9, e11⟩
      · replace e11 := some_eq e11
        subst e11
        exact AW.rA ⟨[(1, z2), (2, (vI a2)), (3, (vp 1 0)), (9, (vp 4 0)), (11, z2), (12, z3), (13, (vI x4)), (28, (vB true))], [(1, (.box [(.c (.fn 69 0 fun _ => .nilptr)), (.c (.fn 70 0 fun _ => .nilptr)), (.c (.fn 71 0 fun _ => .nilptr))])), (4, (.box [(cI (z1.At)), z5, z6, z7, z8]))]⟩ (Tt ∧ T2 ((Tt ∧ (decide (v7 ≤ x3)) = true) ∧ T4 Tt)) [.no, .no, .no, .dec true] [1, 2, 3, 9, 11, 12, 13, 28] [1, 4] ⟨tr, tr, tr, ⟨tr, b9⟩, tr, tr, tr, tr, tr⟩ ⟨rfl, rfl⟩
      · replace e11 := some_eq e11
        subst e11
        exact AW.rA ⟨[(1, z2), (2, (vI a2)), (3, (vp 1 0)), (9, (vp 4 0)), (11, z2), (12, z3), (13, (vI x4)), (28, (vB (decide (v7 > a2))))], [(1, (.box [(.c (.fn 69 0 fun _ => .nilptr)), (.c (.fn 70 0 fun _ => .nilptr)), (.c (.fn 71 0 fun _ => .nilptr))])), (4, (.box [(cI (z1.At)), z5, z6, z7, z8]))]⟩ (Tt ∧ T2 ((Tt ∧ (decide (v7 ≤ x3)) = false) ∧ T4 Tt)) [.no, .no, .no, .dec false] [1, 2, 3, 9, 11, 12, 13, 28] [1, 4] ⟨tr, tr, tr, ⟨tr, b9⟩, tr, tr, tr, tr, tr⟩ ⟨rfl, rfl⟩
    refine thenQ_normal ?_
    rcases ite2_cases h with ⟨b12, h⟩ | ⟨b12, h⟩
    · refine AW.cond_t rfl b12 ?_
      refine AW.sA ⟨[(6, (vB false))], []⟩ (Tt ∧ Tt) [] [6] [] ⟨tr, tr⟩ ?_
      refine AW.ret ?_
      refine thenQ_ret ?_
      refine blockQ_ret ?_
      refine thenQ_ret ?_
      refine loopQ_ret ?_
      refine blockQ_ret ?_
      refine thenQ_ret ?_
      replace h := some_eq h
      subst h
      exact ⟨.inr rfl, retOK_of [(.one (.c (.bool false)))] (by kernel_rfl) ⟨⟨rfl, tr⟩, tr⟩ (of_decide_eq_true (by kernel_rfl))⟩
    · refine AW.cond_f rfl b12 ?_
      refine AW.skip ?_
      refine thenQ_normal ?_
      obtain ⟨v13, e14, h⟩ := bind_some h
      refine AW.rA ⟨[(1, z2), (2, (vI a2)), (3, (vp 1 0)), (7, (vI v13)), (11, z2), (12, z3), (13, (vI x4))], [(1, (.box [(.c (.fn 69 0 fun _ => .nilptr)), (.c (.fn 70 0 fun _ => .nilptr)), (.c (.fn 71 0 fun _ => .nilptr))]))]⟩ (Tt ∧ T2 ((z4 ∧ CallOK Try.prog 69 z9 [.one (.int .i64 v13)]) ∧ Tt ∧ Tt)) [.no, .no, .no, .call z9 [.one (.int .i64 v13)] [[.view]]] [1, 2, 3, 7, 11, 12, 13] [1] ⟨tr, tr, tr, ⟨⟨⟨rfl, rfl, rfl, rfl, rfl, tr⟩, tr⟩, ok_impl_turnTrack_1 K z1 v13 e14⟩, tr, tr⟩ ?_
      refine blockQ_normal ?_
      refine thenQ_normal ?_
      let z10 := IntKind.i64.wrap (x4 + (1 : Int))
      refine AW.rA ⟨[(1, z2), (2, (vI a2)), (3, (vp 1 0)), (7, (vI v13)), (11, z2), (12, z3), (13, (vI z10))], [(1, (.box [(.c (.fn 69 0 fun _ => .nilptr)), (.c (.fn 70 0 fun _ => .nilptr)), (.c (.fn 71 0 fun _ => .nilptr))]))]⟩ (T2 Tt) [] [1, 2, 3, 7, 11, 12, 13] [1] ⟨tr, tr, tr⟩ ?_
      exact loopQ_normal (k, v13, z10) h (Nat.lt_succ_self k) (Sub.keep [1, 2, 3, 7, 11, 12, 13] [1] (by kernel_rfl) (by kernel_rfl))
  · refine AW.cond_f rfl b5 ?_
    refine AW.exit ?_
    refine thenQ_exit ?_
    refine loopQ_exit ?_
    refine blockQ_exit ?_
    refine thenQ_normal ?_
    refine AW.seq ?_
    obtain ⟨j16, e17, h⟩ := bind_some h
    refine AW.join1 (s2 := ⟨[(6, (vB j16))], []⟩) ?_ ?_
    · rcases ite2_cases e17 with ⟨b15, e17⟩ | ⟨b15, e17⟩
      · replace e17 := some_eq e17
        subst e17
        exact AW.rA ⟨[(6, (vB (decide ((a1.length : Int) ≤ (12 : Int)))))], []⟩ (Tt ∧ T2 ((Tt ∧ (decide ((a1.length : Int) ≥ (1 : Int))) = true) ∧ Tt ∧ T4 Tt)) [.no, .no, .no, .dec true] [6] [] ⟨tr, tr, tr, ⟨tr, b15⟩, tr, tr, tr, tr, tr, tr⟩ ⟨rfl, rfl⟩
      · replace e17 := some_eq e17
        subst e17
        exact AW.rA ⟨[(6, (vB false))], []⟩ (Tt ∧ T2 ((Tt ∧ (decide ((a1.length : Int) ≥ (1 : Int))) = false) ∧ Tt ∧ T4 Tt)) [.no, .no, .no, .dec false] [6] [] ⟨tr, tr, tr, ⟨tr, b15⟩, tr, tr, tr, tr, tr, tr⟩ ⟨rfl, rfl⟩
    refine thenQ_normal ?_
    refine AW.ret ?_
    replace h := some_eq h
    subst h
    exact ⟨.inr rfl, retOK_of [(.one (.c (.bool j16)))] (by kernel_rfl) ⟨⟨rfl, tr⟩, tr⟩ (of_decide_eq_true (by kernel_rfl))⟩

/-! impl.rootTrack -/
def impl_rootTrack (_K : Nat) : Option (Unit) :=
  some ()

theorem ok_impl_rootTrack (K : Nat) (o : (Unit)) (h : impl_rootTrack K  = some o) : CallOK Try.prog 54 [] [.agg [(.fn 73 0 fun _ => .nilptr), (.fn 74 0 fun _ => .nilptr), (.fn 75 0 fun _ => .nilptr)]] := by
  refine callOK_of_AW Try.func54 rfl (by kernel_rfl) (Nat.le_of_ble_eq_true (by kernel_rfl)) ?_
  intro w0
  unfold impl_rootTrack at h
  refine AW.sC (Tt ∧ Tt) [.box 1] [0] [1] ⟨tr, tr⟩ ?_
  refine AW.sA ⟨[(0, (vp 1 0))], [(1, (.box [(.c (.fn 73 0 fun _ => .nilptr)), (.c (.fn 74 0 fun _ => .nilptr)), (.c (.fn 75 0 fun _ => .nilptr))]))]⟩ (T2 Tt) [] [0] [1] ⟨tr, tr, tr⟩ ?_
  refine AW.ret ?_
  replace h := some_eq h
  subst h
  exact ⟨.inr rfl, retOK_of [(.agg [(.c (.fn 73 0 fun _ => .nilptr)), (.c (.fn 74 0 fun _ => .nilptr)), (.c (.fn 75 0 fun _ => .nilptr))])] (by kernel_rfl) ⟨⟨⟨rfl, rfl⟩, ⟨rfl, rfl⟩, ⟨rfl, rfl⟩, tr⟩, tr⟩ (of_decide_eq_true (by kernel_rfl))⟩

/-! impl.rootTrack$1 -/
def impl_rootTrack_1 (_K : Nat) (a0 : RootKey) : Option (Int) :=
  some a0.At

theorem ok_impl_rootTrack_1 (K : Nat) (a0 : RootKey) (o : (Int)) (h : impl_rootTrack_1 K a0 = some o) : CallOK Try.prog 73 [.agg (cs_RootKey a0)] [.one (.int .i64 o)] := by
  refine callOK_of_AW Try.func73 rfl (by kernel_rfl) (Nat.le_of_ble_eq_true (by kernel_rfl)) ?_
  intro w0
  unfold impl_rootTrack_1 at h
  refine AW.sC (T2 Tt) [.box 1] [1] [1] ⟨tr, tr, tr⟩ ?_
  refine AW.sA ⟨[(2, (vI a0.At))], []⟩ (Tt ∧ T2 Tt) [] [2] [] ⟨tr, tr, tr, tr⟩ ?_
  refine AW.ret ?_
  replace h := some_eq h
  subst h
  exact ⟨.inr rfl, retOK_of [(.one (cI a0.At))] (by kernel_rfl) ⟨⟨rfl, tr⟩, tr⟩ (of_decide_eq_true (by kernel_rfl))⟩

/-! (impl.track[impl.RootKey]).valid -/
def impl_track_impl_RootKey_valid_l1 (K : Nat) (a1 : (List RootKey)) (a2 : Int) : Nat → Int → Int → Option (Bool)
  | 0, _, _ => none
  | k + 1, x3, x4 => ite2 ((decide (x4 < (a1.length : Int)))) (chk (0 ≤ x4 ∧ x4 < (a1.length : Int)) ((impl_rootTrack_1 K (a1.getD x4.toNat default)).bind fun v7 => (ite2 ((decide (v7 ≤ x3))) (some true) (some (decide (v7 > a2)))).bind fun j10 => ite2 (j10) (some false) ((impl_rootTrack_1 K (a1.getD x4.toNat default)).bind fun v13 => impl_track_impl_RootKey_valid_l1 K a1 a2 k v13 (IntKind.i64.wrap (x4 + (1 : Int)))))) ((ite2 ((decide ((a1.length : Int) ≥ (1 : Int)))) (some (decide ((a1.length : Int) ≤ (12 : Int)))) (some false)).bind fun j16 => some j16)

def impl_track_impl_RootKey_valid (K : Nat) (a1 : (List RootKey)) (a2 : Int) : Option (Bool) :=
  impl_track_impl_RootKey_valid_l1 K a1 a2 K ((-1) : Int) (0 : Int)

theorem ok_impl_track_impl_RootKey_valid (K : Nat) (a1 : (List RootKey)) (a2 : Int) (o : (Bool)) (h : impl_track_impl_RootKey_valid K a1 a2 = some o) : CallOK Try.prog 55 [.agg [(.fn 73 0 fun _ => .nilptr), (.fn 74 0 fun _ => .nilptr), (.fn 75 0 fun _ => .nilptr)], .one (sl 4 cs_RootKey a1), .one (.int .i64 a2)] [.one (.bool o)] := by
  refine callOK_of_AW Try.func55 rfl (by kernel_rfl) (Nat.le_of_ble_eq_true (by kernel_rfl)) ?_
  intro w0
  unfold impl_track_impl_RootKey_valid at h
  refine AW.sC (T2 Tt) [.box 1] [1, 2, 3] [1] ⟨tr, tr, tr⟩ ?_
  refine AW.sC (Tt ∧ Tt) [] [1, 2, 3, 7] [1] ⟨tr, tr⟩ ?_
  refine AW.seq ?_
  let z2 := vc (sl 4 cs_RootKey a1)
  let z3 := vI (a1.length : Int)
  refine AW.sA ⟨[(1, z2), (2, (vI a2)), (3, (vp 1 0)), (7, (vI ((-1) : Int))), (11, z2), (12, z3), (13, (vI (0 : Int)))], [(1, (.box [(.c (.fn 73 0 fun _ => .nilptr)), (.c (.fn 74 0 fun _ => .nilptr)), (.c (.fn 75 0 fun _ => .nilptr))]))]⟩ (Tt ∧ T2 Tt) [] [1, 2, 3, 7, 11, 12, 13] [1] ⟨tr, tr, tr, tr⟩ ?_
  refine AW.block ?_
  refine AW.loopQ (σ := Nat × Int × Int) (fun p => ⟨[(1, z2), (2, (vI a2)), (3, (vp 1 0)), (7, (vI p.2.1)), (11, z2), (12, z3), (13, (vI p.2.2))], [(1, (.box [(.c (.fn 73 0 fun _ => .nilptr)), (.c (.fn 74 0 fun _ => .nilptr)), (.c (.fn 75 0 fun _ => .nilptr))]))]⟩) (fun p => impl_track_impl_RootKey_valid_l1 K a1 a2 p.1 p.2.1 p.2.2 = some o) (fun p => p.1) (K, ((-1) : Int), (0 : Int)) h ?_
  clear h
  rintro ⟨k, x3, x4⟩ h
  replace h : impl_track_impl_RootKey_valid_l1 K a1 a2 k x3 x4 = some o := h
  show AW _ _ (⟨[(1, z2), (2, (vI a2)), (3, (vp 1 0)), (7, (vI x3)), (11, z2), (12, z3), (13, (vI x4))], [(1, (.box [(.c (.fn 73 0 fun _ => .nilptr)), (.c (.fn 74 0 fun _ => .nilptr)), (.c (.fn 75 0 fun _ => .nilptr))]))]⟩ : St) _
  obtain _ | k := k
  · rw [impl_track_impl_RootKey_valid_l1] at h; cases h
  rw [impl_track_impl_RootKey_valid_l1] at h
  refine AW.sA ⟨[(1, z2), (2, (vI a2)), (3, (vp 1 0)), (7, (vI x3)), (11, z2), (12, z3), (13, (vI x4)), (14, (vB (decide (x4 < (a1.length : Int)))))], [(1, (.box [(.c (.fn 73 0 fun _ => .nilptr)), (.c (.fn 74 0 fun _ => .nilptr)), (.c (.fn 75 0 fun _ => .nilptr))]))]⟩ (Tt ∧ Tt) [] [1, 2, 3, 7, 11, 12, 13, 14] [1] ⟨tr, tr⟩ ?_
  refine AW.seq ?_
  rcases ite2_cases h with ⟨b5, h⟩ | ⟨b5, h⟩
  · refine AW.cond_t rfl b5 ?_
    refine AW.skip ?_
    refine thenQ_normal ?_
    refine AW.seq ?_
    refine AW.block ?_
    refine AW.seq ?_
    obtain ⟨c6, h⟩ := chk_some h
    refine AW.tC ((0 ≤ x4 ∧ x4 < (a1.length : Int)) ∧ Tt ∧ T2 Tt) [.no, .no, .box 4] [1, 2, 3, 7, 9, 11, 12, 13] [1, 4] ⟨c6, tr, tr, tr, tr⟩ ?_
    refine AW.seq ?_
    refine AW.seq ?_
    obtain ⟨v7, e8, h⟩ := bind_some h
    let z1 := a1.getD x4.toNat default
    let z4 := ((eI (z1.At)) ∧ (eF ((z1.Place).X)) ∧ (eF ((z1.Place).Y)) ∧ (eF ((z1.Place).Z)) ∧ Tt) ∧ Tt
    let z5 := cF ((z1.Place).X)
    let z6 := cF ((z1.Place).Y)
    let z7 := cF ((z1.Place).Z)
    let z8 : List CT := [.agg (cs_RootKey z1)]
    refine AW.tA ⟨[(1, z2), (2, (vI a2)), (3, (vp 1 0)), (7, (vI x3)), (9, (vp 4 0)), (10, (vI v7)), (11, z2), (12, z3), (13, (vI x4))], [(1, (.box [(.c (.fn 73 0 fun _ => .nilptr)), (.c (.fn 74 0 fun _ => .nilptr)), (.c (.fn 75 0 fun _ => .nilptr))])), (4, (.box [(cI (z1.At)), z5, z6, z7]))]⟩ (Tt ∧ T2 ((z4 ∧ CallOK Try.prog 73 z8 [.one (.int .i64 v7)]) ∧ Tt ∧ Tt)) [.no, .no, .no, .call z8 [.one (.int .i64 v7)] [[.view]]] [1, 2, 3, 7, 9, 10, 11, 12, 13] [1, 4] ⟨tr, tr, tr, ⟨⟨⟨rfl, rfl, rfl, rfl, tr⟩, tr⟩, ok_impl_rootTrack_1 K z1 v7 e8⟩, tr, tr⟩ ?_
    refine AW.seq ?_
    obtain ⟨j10, e11, h⟩ := bind_some h
    refine AW.join1 (s2 := ⟨[(1, z2), (2, (vI a2)), (3, (vp 1 0)), (9, (vp 4 0)), (11, z2), (12, z3), (13, (vI x4)), (28, (vB j10))], [(1, (.box [(.c (.fn 73 0 fun _ => .nilptr)), (.c (.fn 74 0 fun _ => .nilptr)), (.c (.fn 75 0 fun _ => .nilptr))])), (4, (.box [(cI (z1.At)), z5, z6, z7]))]⟩) ?_ ?_
    · rcases ite2_cases e11 with ⟨b9, e11⟩ | ⟨b9, e11⟩
      · replace e11 := some_eq e11
        subst e11
        exact AW.rA ⟨[(1, z2), (2, (vI a2)), (3, (vp 1 0)), (9, (vp 4 0)), (11, z2), (12, z3), (13, (vI x4)), (28, (vB true))], [(1, (.box [(.c (.fn 73 0 fun _ => .nilptr)), (.c (.fn 74 0 fun _ => .nilptr)), (.c (.fn 75 0 fun _ => .nilptr))])), (4, (.box [(cI (z1.At)), z5, z6, z7]))]⟩ (Tt ∧ T2 ((Tt ∧ (decide (v7 ≤ x3)) = true) ∧ T4 Tt)) [.no, .no, .no, .dec true] [1, 2, 3, 9, 11, 12, 13, 28] [1, 4] ⟨tr, tr, tr, ⟨tr, b9⟩, tr, tr, tr, tr, tr⟩ ⟨rfl, rfl⟩
      · replace e11 := some_eq e11
        subst e11
        exact AW.rA ⟨[(1, z2), (2, (vI a2)), (3, (vp 1 0)), (9, (vp 4 0)), (11, z2), (12, z3), (13, (vI x4)), (28, (vB (decide (v7 > a2))))], [(1, (.box [(.c (.fn 73 0 fun _ => .nilptr)), (.c (.fn 74 0 fun _ => .nilptr)), (.c (.fn 75 0 fun _ => .nilptr))])), (4, (.box [(cI (z1.At)), z5, z6, z7]))]⟩ (Tt ∧ T2 ((Tt ∧ (decide (v7 ≤ x3)) = false) ∧ T4 Tt)) [.no, .no, .no, .dec false] [1, 2, 3, 9, 11, 12, 13, 28] [1, 4] ⟨tr, tr, tr, ⟨tr, b9⟩, tr, tr, tr, tr, tr⟩ ⟨rfl, rfl⟩
    refine thenQ_normal ?_
    rcases ite2_cases h with ⟨b12, h⟩ | ⟨b12, h⟩
    · refine AW.cond_t rfl b12 ?_
      refine AW.sA ⟨[(6, (vB false))], []⟩ (Tt ∧ Tt) [] [6] [] ⟨tr, tr⟩ ?_
      refine AW.ret ?_
      refine thenQ_ret ?_
      refine blockQ_ret ?_
      refine thenQ_ret ?_
      refine loopQ_ret ?_
      refine blockQ_ret ?_
      refine thenQ_ret ?_
      replace h := some_eq h
      subst h
      exact ⟨.inr rfl, retOK_of [(.one (.c (.bool false)))] (by kernel_rfl) ⟨⟨rfl, tr⟩, tr⟩ (of_decide_eq_true (by kernel_rfl))⟩
    · refine AW.cond_f rfl b12 ?_
      refine AW.skip ?_
      refine thenQ_normal ?_
      obtain ⟨v13, e14, h⟩ := bind_some h
      refine AW.rA ⟨[(1, z2), (2, (vI a2)), (3, (vp 1 0)), (7, (vI v13)), (11, z2), (12, z3), (13, (vI x4))], [(1, (.box [(.c (.fn 73 0 fun _ => .nilptr)), (.c (.fn 74 0 fun _ => .nilptr)), (.c (.fn 75 0 fun _ => .nilptr))]))]⟩ (Tt ∧ T2 ((z4 ∧ CallOK Try.prog 73 z8 [.one (.int .i64 v13)]) ∧ Tt ∧ Tt)) [.no, .no, .no, .call z8 [.one (.int .i64 v13)] [[.view]]] [1, 2, 3, 7, 11, 12, 13] [1] ⟨tr, tr, tr, ⟨⟨⟨rfl, rfl, rfl, rfl, tr⟩, tr⟩, ok_impl_rootTrack_1 K z1 v13 e14⟩, tr, tr⟩ ?_
      refine blockQ_normal ?_
      refine thenQ_normal ?_
      let z9 := IntKind.i64.wrap (x4 + (1 : Int))
      refine AW.rA ⟨[(1, z2), (2, (vI a2)), (3, (vp 1 0)), (7, (vI v13)), (11, z2), (12, z3), (13, (vI z9))], [(1, (.box [(.c (.fn 73 0 fun _ => .nilptr)), (.c (.fn 74 0 fun _ => .nilptr)), (.c (.fn 75 0 fun _ => .nilptr))]))]⟩ (T2 Tt) [] [1, 2, 3, 7, 11, 12, 13] [1] ⟨tr, tr, tr⟩ ?_
      exact loopQ_normal (k, v13, z9) h (Nat.lt_succ_self k) (Sub.keep [1, 2, 3, 7, 11, 12, 13] [1] (by kernel_rfl) (by kernel_rfl))
  · refine AW.cond_f rfl b5 ?_
    refine AW.exit ?_
    refine thenQ_exit ?_
    refine loopQ_exit ?_
    refine blockQ_exit ?_
    refine thenQ_normal ?_
    refine AW.seq ?_
    obtain ⟨j16, e17, h⟩ := bind_some h
    refine AW.join1 (s2 := ⟨[(6, (vB j16))], []⟩) ?_ ?_
    · rcases ite2_cases e17 with ⟨b15, e17⟩ | ⟨b15, e17⟩
      · replace e17 := some_eq e17
        subst e17
        exact AW.rA ⟨[(6, (vB (decide ((a1.length : Int) ≤ (12 : Int)))))], []⟩ (Tt ∧ T2 ((Tt ∧ (decide ((a1.length : Int) ≥ (1 : Int))) = true) ∧ Tt ∧ T4 Tt)) [.no, .no, .no, .dec true] [6] [] ⟨tr, tr, tr, ⟨tr, b15⟩, tr, tr, tr, tr, tr, tr⟩ ⟨rfl, rfl⟩
      · replace e17 := some_eq e17
        subst e17
        exact AW.rA ⟨[(6, (vB false))], []⟩ (Tt ∧ T2 ((Tt ∧ (decide ((a1.length : Int) ≥ (1 : Int))) = false) ∧ Tt ∧ T4 Tt)) [.no, .no, .no, .dec false] [6] [] ⟨tr, tr, tr, ⟨tr, b15⟩, tr, tr, tr, tr, tr, tr⟩ ⟨rfl, rfl⟩
    refine thenQ_normal ?_
    refine AW.ret ?_
    replace h := some_eq h
    subst h
    exact ⟨.inr rfl, retOK_of [(.one (.c (.bool j16)))] (by kernel_rfl) ⟨⟨rfl, tr⟩, tr⟩ (of_decide_eq_true (by kernel_rfl))⟩

/-! impl.ValidClip -/
def impl_ValidClip_l1 (K : Nat) (a0 : Clip) : Nat → Int → Option (Bool)
  | 0, _ => none
  | k + 1, x10 => ite2 ((decide (x10 < (a0.Tracks.length : Int)))) (chk (0 ≤ x10 ∧ x10 < (a0.Tracks.length : Int)) ((impl_turnTrack K ).bind fun v13 => (impl_track_impl_Key_valid K (a0.Tracks.getD x10.toNat default) a0.Length).bind fun v15 => ite2 ((!v15)) (some false) (impl_ValidClip_l1 K a0 k (IntKind.i64.wrap (x10 + (1 : Int)))))) ((impl_rootTrack K ).bind fun v18 => (impl_track_impl_RootKey_valid K a0.Roots a0.Length).bind fun v20 => some v20)

def impl_ValidClip (K : Nat) (a0 : Clip) : Option (Bool) :=
  (ite2 ((decide (a0.Length < (1 : Int)))) (some true) (ite2 ((decide (a0.Length > (1000 : Int)))) (some true) (ite2 ((decide (a0.Kind < (0 : Int)))) (some true) (ite2 ((decide (a0.Kind > (2 : Int)))) (some true) (ite2 ((decide ((a0.Tracks.length : Int) < (1 : Int)))) (some true) (some (decide ((a0.Tracks.length : Int) > (12 : Int))))))))).bind fun j6 => ite2 (j6) (some false) (impl_ValidClip_l1 K a0 K (0 : Int))

theorem ok_impl_ValidClip (K : Nat) (a0 : Clip) (o : (Bool)) (h : impl_ValidClip K a0 = some o) : CallOK Try.prog 34 [.agg (cs_Clip a0)] [.one (.bool o)] := by
  refine callOK_of_AW Try.func34 rfl (by kernel_rfl) (Nat.le_of_ble_eq_true (by kernel_rfl)) ?_
  intro w0
  unfold impl_ValidClip at h
  let z1 := sl 1 (csL 5 cs_Key) a0.Tracks
  let z2 := sl 4 cs_RootKey a0.Roots
  let z4 := cI a0.Length
  refine AW.sA ⟨[(1, (vp 1 0))], [(1, (.box [z4, (cI a0.Kind), (.c z1), (.c z2)]))]⟩ (T2 Tt) [.box 1] [1] [1] ⟨tr, tr, tr⟩ ?_
  refine AW.seq ?_
  refine AW.seq ?_
  obtain ⟨j6, e7, h⟩ := bind_some h
  refine AW.join1 (s2 := ⟨[(1, (vp 1 0)), (34, (vB j6))], [(1, (.box [z4, (cI a0.Kind), (.c z1), (.c z2)]))]⟩) ?_ ?_
  · rcases ite2_cases e7 with ⟨b1, e7⟩ | ⟨b1, e7⟩
    · replace e7 := some_eq e7
      subst e7
      exact AW.rA ⟨[(1, (vp 1 0)), (34, (vB true))], [(1, (.box [z4, (cI a0.Kind), (.c z1), (.c z2)]))]⟩ (Tt ∧ T2 ((Tt ∧ (decide (a0.Length < (1 : Int))) = true) ∧ T2 (T4 (T4 (T4 (T4 (T4 (T4 Tt)))))))) [.no, .no, .no, .dec true] [1, 34] [1] ⟨tr, tr, tr, ⟨tr, b1⟩, tr, tr, tr, tr, tr, tr, tr, tr, tr, tr, tr, tr, tr, tr, tr, tr, tr, tr, tr, tr, tr, tr, tr, tr, tr, tr, tr⟩ ⟨rfl, rfl⟩
    · rcases ite2_cases e7 with ⟨b2, e7⟩ | ⟨b2, e7⟩
      · replace e7 := some_eq e7
        subst e7
        exact AW.rA ⟨[(1, (vp 1 0)), (34, (vB true))], [(1, (.box [z4, (cI a0.Kind), (.c z1), (.c z2)]))]⟩ (Tt ∧ T2 ((Tt ∧ (decide (a0.Length < (1 : Int))) = false) ∧ T4 ((Tt ∧ (decide (a0.Length > (1000 : Int))) = true) ∧ Tt ∧ T4 (T4 (T4 (T4 (T4 Tt))))))) [.no, .no, .no, .dec false, .no, .no, .no, .no, .dec true] [1, 34] [1] ⟨tr, tr, tr, ⟨tr, b1⟩, tr, tr, tr, tr, ⟨tr, b2⟩, tr, tr, tr, tr, tr, tr, tr, tr, tr, tr, tr, tr, tr, tr, tr, tr, tr, tr, tr, tr, tr, tr⟩ ⟨rfl, rfl⟩
      · rcases ite2_cases e7 with ⟨b3, e7⟩ | ⟨b3, e7⟩
        · replace e7 := some_eq e7
          subst e7
          exact AW.rA ⟨[(1, (vp 1 0)), (34, (vB true))], [(1, (.box [z4, (cI a0.Kind), (.c z1), (.c z2)]))]⟩ (Tt ∧ T2 ((Tt ∧ (decide (a0.Length < (1 : Int))) = false) ∧ T4 ((Tt ∧ (decide (a0.Length > (1000 : Int))) = false) ∧ T4 ((Tt ∧ (decide (a0.Kind < (0 : Int))) = true) ∧ T4 (T4 (T4 (T4 Tt))))))) [.no, .no, .no, .dec false, .no, .no, .no, .no, .dec false, .no, .no, .no, .no, .dec true] [1, 34] [1] ⟨tr, tr, tr, ⟨tr, b1⟩, tr, tr, tr, tr, ⟨tr, b2⟩, tr, tr, tr, tr, ⟨tr, b3⟩, tr, tr, tr, tr, tr, tr, tr, tr, tr, tr, tr, tr, tr, tr, tr, tr, tr⟩ ⟨rfl, rfl⟩
        · rcases ite2_cases e7 with ⟨b4, e7⟩ | ⟨b4, e7⟩
          · replace e7 := some_eq e7
            subst e7
            exact AW.rA ⟨[(1, (vp 1 0)), (34, (vB true))], [(1, (.box [z4, (cI a0.Kind), (.c z1), (.c z2)]))]⟩ (Tt ∧ T2 ((Tt ∧ (decide (a0.Length < (1 : Int))) = false) ∧ T4 ((Tt ∧ (decide (a0.Length > (1000 : Int))) = false) ∧ T4 ((Tt ∧ (decide (a0.Kind < (0 : Int))) = false) ∧ T4 ((Tt ∧ (decide (a0.Kind > (2 : Int))) = true) ∧ Tt ∧ T2 (T4 (T4 Tt))))))) [.no, .no, .no, .dec false, .no, .no, .no, .no, .dec false, .no, .no, .no, .no, .dec false, .no, .no, .no, .no, .dec true] [1, 34] [1] ⟨tr, tr, tr, ⟨tr, b1⟩, tr, tr, tr, tr, ⟨tr, b2⟩, tr, tr, tr, tr, ⟨tr, b3⟩, tr, tr, tr, tr, ⟨tr, b4⟩, tr, tr, tr, tr, tr, tr, tr, tr, tr, tr, tr, tr⟩ ⟨rfl, rfl⟩
          · rcases ite2_cases e7 with ⟨b5, e7⟩ | ⟨b5, e7⟩
            · replace e7 := some_eq e7
              subst e7
              exact AW.rA ⟨[(1, (vp 1 0)), (34, (vB true))], [(1, (.box [z4, (cI a0.Kind), (.c z1), (.c z2)]))]⟩ (Tt ∧ T2 ((Tt ∧ (decide (a0.Length < (1 : Int))) = false) ∧ T4 ((Tt ∧ (decide (a0.Length > (1000 : Int))) = false) ∧ T4 ((Tt ∧ (decide (a0.Kind < (0 : Int))) = false) ∧ T4 ((Tt ∧ (decide (a0.Kind > (2 : Int))) = false) ∧ Tt ∧ T4 ((Tt ∧ (decide ((a0.Tracks.length : Int) < (1 : Int))) = true) ∧ Tt ∧ T4 Tt)))))) [.no, .no, .no, .dec false, .no, .no, .no, .no, .dec false, .no, .no, .no, .no, .dec false, .no, .no, .no, .no, .dec false, .no, .no, .no, .no, .no, .dec true] [1, 34] [1] ⟨tr, tr, tr, ⟨tr, b1⟩, tr, tr, tr, tr, ⟨tr, b2⟩, tr, tr, tr, tr, ⟨tr, b3⟩, tr, tr, tr, tr, ⟨tr, b4⟩, tr, tr, tr, tr, tr, ⟨tr, b5⟩, tr, tr, tr, tr, tr, tr⟩ ⟨rfl, rfl⟩
            · replace e7 := some_eq e7
              subst e7
              exact AW.rA ⟨[(1, (vp 1 0)), (34, (vB (decide ((a0.Tracks.length : Int) > (12 : Int)))))], [(1, (.box [z4, (cI a0.Kind), (.c z1), (.c z2)]))]⟩ (Tt ∧ T2 ((Tt ∧ (decide (a0.Length < (1 : Int))) = false) ∧ T4 ((Tt ∧ (decide (a0.Length > (1000 : Int))) = false) ∧ T4 ((Tt ∧ (decide (a0.Kind < (0 : Int))) = false) ∧ T4 ((Tt ∧ (decide (a0.Kind > (2 : Int))) = false) ∧ Tt ∧ T4 ((Tt ∧ (decide ((a0.Tracks.length : Int) < (1 : Int))) = false) ∧ Tt ∧ T4 Tt)))))) [.no, .no, .no, .dec false, .no, .no, .no, .no, .dec false, .no, .no, .no, .no, .dec false, .no, .no, .no, .no, .dec false, .no, .no, .no, .no, .no, .dec false] [1, 34] [1] ⟨tr, tr, tr, ⟨tr, b1⟩, tr, tr, tr, tr, ⟨tr, b2⟩, tr, tr, tr, tr, ⟨tr, b3⟩, tr, tr, tr, tr, ⟨tr, b4⟩, tr, tr, tr, tr, tr, ⟨tr, b5⟩, tr, tr, tr, tr, tr, tr⟩ ⟨rfl, rfl⟩
  refine thenQ_normal ?_
  rcases ite2_cases h with ⟨b8, h⟩ | ⟨b8, h⟩
  · refine AW.cond_t rfl b8 ?_
    refine AW.sA ⟨[(2, (vB false))], []⟩ (Tt ∧ Tt) [] [2] [] ⟨tr, tr⟩ ?_
    refine AW.ret ?_
    refine thenQ_ret ?_
    replace h := some_eq h
    subst h
    exact ⟨.inr rfl, retOK_of [(.one (.c (.bool false)))] (by kernel_rfl) ⟨⟨rfl, tr⟩, tr⟩ (of_decide_eq_true (by kernel_rfl))⟩
  · refine AW.cond_f rfl b8 ?_
    refine AW.skip ?_
    refine thenQ_normal ?_
    refine AW.seq ?_
    let z3 := (a0.Tracks.length : Int)
    refine AW.sA ⟨[(1, (vp 1 0)), (36, (vc z1)), (37, (vI z3)), (38, (vI (0 : Int)))], [(1, (.box [z4, (cI a0.Kind), (.c z1), (.c z2)]))]⟩ (T4 Tt) [] [1, 36, 37, 38] [1] ⟨tr, tr, tr, tr, tr⟩ ?_
    refine AW.block ?_
    refine AW.loopQ (σ := Nat × Int) (fun p => ⟨[(1, (vp 1 0)), (36, (vc z1)), (37, (vI z3)), (38, (vI p.2))], [(1, (.box [z4, (cI a0.Kind), (.c z1), (.c z2)]))]⟩) (fun p => impl_ValidClip_l1 K a0 p.1 p.2 = some o) (fun p => p.1) (K, (0 : Int)) h ?_
    clear h
    rintro ⟨k, x10⟩ h
    replace h : impl_ValidClip_l1 K a0 k x10 = some o := h
    show AW _ _ (⟨[(1, (vp 1 0)), (36, (vc z1)), (37, (vI z3)), (38, (vI x10))], [(1, (.box [z4, (cI a0.Kind), (.c z1), (.c z2)]))]⟩ : St) _
    obtain _ | k := k
    · rw [impl_ValidClip_l1] at h; cases h
    rw [impl_ValidClip_l1] at h
    refine AW.sA ⟨[(1, (vp 1 0)), (36, (vc z1)), (37, (vI z3)), (38, (vI x10)), (39, (vB (decide (x10 < z3))))], [(1, (.box [z4, (cI a0.Kind), (.c z1), (.c z2)]))]⟩ (Tt ∧ Tt) [] [1, 36, 37, 38, 39] [1] ⟨tr, tr⟩ ?_
    refine AW.seq ?_
    rcases ite2_cases h with ⟨b11, h⟩ | ⟨b11, h⟩
    · refine AW.cond_t rfl b11 ?_
      refine AW.skip ?_
      refine thenQ_normal ?_
      refine AW.seq ?_
      refine AW.block ?_
      refine AW.seq ?_
      obtain ⟨c12, h⟩ := chk_some h
      let z6 := a0.Tracks.getD x10.toNat default
      let z5 := sl 5 cs_Key z6
      refine AW.tA ⟨[(1, (vp 1 0)), (4, (vc z5)), (36, (vc z1)), (37, (vI z3)), (38, (vI x10))], [(1, (.box [z4, (cI a0.Kind), (.c z1), (.c z2)]))]⟩ ((0 ≤ x10 ∧ x10 < z3) ∧ T2 Tt) [] [1, 4, 36, 37, 38] [1] ⟨c12, tr, tr, tr⟩ ?_
      refine AW.seq ?_
      obtain ⟨v13, e14, h⟩ := bind_some h
      obtain ⟨v15, e16, h⟩ := bind_some h
      refine AW.dA ⟨[(1, (vp 1 0)), (36, (vc z1)), (37, (vI z3)), (38, (vI x10)), (47, (vB (!v15)))], [(1, (.box [z4, (cI a0.Kind), (.c z1), (.c z2)]))]⟩ ((((Tt) ∧ CallOK Try.prog 52 [] [.agg [(.fn 69 0 fun _ => .nilptr), (.fn 70 0 fun _ => .nilptr), (.fn 71 0 fun _ => .nilptr)]]) ∧ Tt ∧ T2 (((((Eqc (.fn 69 0 fun _ => .nilptr)) ∧ (Eqc (.fn 70 0 fun _ => .nilptr)) ∧ (Eqc (.fn 71 0 fun _ => .nilptr)) ∧ Tt) ∧ (Eqc z5) ∧ (eI a0.Length) ∧ Tt) ∧ CallOK Try.prog 53 [.agg [(.fn 69 0 fun _ => .nilptr), (.fn 70 0 fun _ => .nilptr), (.fn 71 0 fun _ => .nilptr)], .one z5, .one (.int .i64 a0.Length)] [.one (.bool v15)]) ∧ Tt ∧ Tt)) ∧ (Tt)) 6 [.call [] [.agg [(.fn 69 0 fun _ => .nilptr), (.fn 70 0 fun _ => .nilptr), (.fn 71 0 fun _ => .nilptr)]] [[.view, .view, .view]], .no, .no, .no, .call [.agg [(.fn 69 0 fun _ => .nilptr), (.fn 70 0 fun _ => .nilptr), (.fn 71 0 fun _ => .nilptr)], .one z5, .one (.int .i64 a0.Length)] [.one (.bool v15)] [[.view]]] [1, 36, 37, 38, 47] [1] ⟨⟨⟨tr, ok_impl_turnTrack K v13 e14⟩, tr, tr, tr, ⟨⟨⟨rfl, rfl, rfl, tr⟩, rfl, rfl, tr⟩, ok_impl_track_impl_Key_valid K z6 a0.Length v15 e16⟩, tr, tr⟩, tr⟩ ?_
      refine thenQ_normal ?_
      rcases ite2_cases h with ⟨b17, h⟩ | ⟨b17, h⟩
      · refine AW.cond_t rfl b17 ?_
        refine AW.sA ⟨[(2, (vB false))], []⟩ (Tt ∧ Tt) [] [2] [] ⟨tr, tr⟩ ?_
        refine AW.ret ?_
        refine blockQ_ret ?_
        refine thenQ_ret ?_
        refine loopQ_ret ?_
        refine blockQ_ret ?_
        refine thenQ_ret ?_
        replace h := some_eq h
        subst h
        exact ⟨.inr rfl, retOK_of [(.one (.c (.bool false)))] (by kernel_rfl) ⟨⟨rfl, tr⟩, tr⟩ (of_decide_eq_true (by kernel_rfl))⟩
      · refine AW.cond_f rfl b17 ?_
        refine AW.skip ?_
        refine blockQ_normal ?_
        refine thenQ_normal ?_
        let z7 := IntKind.i64.wrap (x10 + (1 : Int))
        refine AW.rA ⟨[(1, (vp 1 0)), (36, (vc z1)), (37, (vI z3)), (38, (vI z7))], [(1, (.box [z4, (cI a0.Kind), (.c z1), (.c z2)]))]⟩ (T2 Tt) [] [1, 36, 37, 38] [1] ⟨tr, tr, tr⟩ ?_
        exact loopQ_normal (k, z7) h (Nat.lt_succ_self k) (Sub.keep [1, 36, 37, 38] [1] (by kernel_rfl) (by kernel_rfl))
    · refine AW.cond_f rfl b11 ?_
      refine AW.exit ?_
      refine thenQ_exit ?_
      refine loopQ_exit ?_
      refine blockQ_exit ?_
      refine thenQ_normal ?_
      refine AW.seq ?_
      obtain ⟨v18, e19, h⟩ := bind_some h
      obtain ⟨v20, e21, h⟩ := bind_some h
      refine AW.dA ⟨[(2, (vB v20))], []⟩ ((((Tt) ∧ CallOK Try.prog 54 [] [.agg [(.fn 73 0 fun _ => .nilptr), (.fn 74 0 fun _ => .nilptr), (.fn 75 0 fun _ => .nilptr)]]) ∧ T4 (((((Eqc (.fn 73 0 fun _ => .nilptr)) ∧ (Eqc (.fn 74 0 fun _ => .nilptr)) ∧ (Eqc (.fn 75 0 fun _ => .nilptr)) ∧ Tt) ∧ (Eqc z2) ∧ (eI a0.Length) ∧ Tt) ∧ CallOK Try.prog 55 [.agg [(.fn 73 0 fun _ => .nilptr), (.fn 74 0 fun _ => .nilptr), (.fn 75 0 fun _ => .nilptr)], .one z2, .one (.int .i64 a0.Length)] [.one (.bool v20)]) ∧ Tt ∧ Tt)) ∧ (Tt)) 7 [.call [] [.agg [(.fn 73 0 fun _ => .nilptr), (.fn 74 0 fun _ => .nilptr), (.fn 75 0 fun _ => .nilptr)]] [[.view, .view, .view]], .no, .no, .no, .no, .call [.agg [(.fn 73 0 fun _ => .nilptr), (.fn 74 0 fun _ => .nilptr), (.fn 75 0 fun _ => .nilptr)], .one z2, .one (.int .i64 a0.Length)] [.one (.bool v20)] [[.view]]] [2] [] ⟨⟨⟨tr, ok_impl_rootTrack K v18 e19⟩, tr, tr, tr, tr, ⟨⟨⟨rfl, rfl, rfl, tr⟩, rfl, rfl, tr⟩, ok_impl_track_impl_RootKey_valid K a0.Roots a0.Length v20 e21⟩, tr, tr⟩, tr⟩ ?_
      refine thenQ_normal ?_
      refine AW.ret ?_
      replace h := some_eq h
      subst h
      exact ⟨.inr rfl, retOK_of [(.one (.c (.bool v20)))] (by kernel_rfl) ⟨⟨rfl, tr⟩, tr⟩ (of_decide_eq_true (by kernel_rfl))⟩

/-! slices.Clone[[]impl.RootKey,impl.RootKey] -/
def slices_Clone_impl_RootKey_impl_RootKey (_K : Nat) (a0 : (List RootKey)) : Option ((List RootKey)) :=
  chk ((([] : List RootKey).length + a0.length) * 24 ≤ 140737488355328) (some (([] : List RootKey) ++ a0))

theorem ok_slices_Clone_impl_RootKey_impl_RootKey (K : Nat) (a0 : (List RootKey)) (o : ((List RootKey))) (h : slices_Clone_impl_RootKey_impl_RootKey K a0 = some o) : CallOK Try.prog 39 [.one (sl 4 cs_RootKey a0)] [.one (sl 4 cs_RootKey o)] := by
  refine callOK_of_AW Try.func39 rfl (by kernel_rfl) (Nat.le_of_ble_eq_true (by kernel_rfl)) ?_
  intro w0
  unfold slices_Clone_impl_RootKey_impl_RootKey at h
  refine AW.sA ⟨[(0, (vc (sl 4 cs_RootKey a0)))], []⟩ (Tt ∧ Tt) [] [0] [] ⟨tr, tr⟩ ?_
  refine AW.seq ?_
  refine AW.seq ?_
  refine AW.nilA (d := 4) (n := a0.length) 1 [.no] [0] [] (s' := ⟨[(0, (vc (sl 4 cs_RootKey a0)))], []⟩) (ob := Tt ∧ Tt) (by kernel_rfl) ⟨tr, tr⟩ ?_
  intro b2 b1
  cases b2
  · refine thenQ_normal ?_
    refine AW.cond_f (b := false) rfl rfl ?_
    refine AW.skip ?_
    refine thenQ_normal ?_
    refine AW.seq ?_
    obtain ⟨c3, h⟩ := chk_some h
    refine AW.tA ⟨[(2, (vL 2 4 cs_RootKey (([] : List RootKey) ++ a0)))], [(2, (oL 4 cs_RootKey (([] : List RootKey) ++ a0)))]⟩ ((([] : List RootKey).length = 0 ∧ Tt) ∧ Tt ∧ ((([] : List RootKey) ++ a0).length = ([] : List RootKey).length + a0.length ∧ AppOb (([] : List RootKey).length) (a0.length) 4 (gl cs_RootKey ([] : List RootKey)) (gl cs_RootKey a0) (gl cs_RootKey (([] : List RootKey) ++ a0)) ∧ (∀ i j, i < a0.length → j < 4 → scalarC (gl cs_RootKey a0 i j)) ∧ (([] : List RootKey).length + a0.length) * 24 ≤ 140737488355328) ∧ Tt ∧ Tt) [.obj 1 ([] : List RootKey).length (gl cs_RootKey ([] : List RootKey)), .no, .obj 2 (([] : List RootKey) ++ a0).length (gl cs_RootKey (([] : List RootKey) ++ a0))] [2] [2] ⟨⟨rfl, tr⟩, tr, ⟨List.length_append, gl_append, gl_scalar sc_RootKey _, c3⟩, tr, tr⟩ ?_
    refine AW.ret ?_
    replace h := some_eq h
    subst h
    exact ⟨.inr rfl, retOK_of [(.one (xL 2 4 cs_RootKey (([] : List RootKey) ++ a0)))] (by kernel_rfl) ⟨rfl, tr⟩ (of_decide_eq_true (by kernel_rfl))⟩
  · obtain rfl := List.eq_nil_of_length_eq_zero (b1 rfl)
    replace h : some ([] : (List RootKey)) = some o := by simpa [chk] using h
    refine thenQ_normal ?_
    refine AW.cond_t (b := true) rfl rfl ?_
    refine AW.sA ⟨[(2, (.v (.one .nils)))], []⟩ (Tt ∧ Tt) [] [2] [] ⟨tr, tr⟩ ?_
    refine AW.ret ?_
    refine thenQ_ret ?_
    replace h := some_eq h
    subst h
    exact ⟨.inr rfl, retOK_of [(.one .nils)] (by kernel_rfl) ⟨rfl, tr⟩ (of_decide_eq_true (by kernel_rfl))⟩

/-! impl.MirrorClip$2 -/
def impl_MirrorClip_2_l1 (K : Nat) (v1 : ((List RootKey))) : Nat → Int → (List RootKey) → Option ((List RootKey))
  | 0, _, _ => none
  | k + 1, x5, x6 => ite2 ((decide (x5 < (v1.length : Int)))) (chk (0 ≤ x5 ∧ x5 < (x6.length : Int)) ((impl_Vector_mirrored K ((x6.getD x5.toNat default).Place)).bind fun v9 => (some (x6.set x5.toNat (RootKey.mk ((x6.getD x5.toNat default).At) v9))).bind fun y11 => impl_MirrorClip_2_l1 K v1 k (IntKind.i64.wrap (x5 + (1 : Int))) y11)) (some x6)

def impl_MirrorClip_2 (K : Nat) (a0 : (List RootKey)) : Option ((List RootKey)) :=
  (slices_Clone_impl_RootKey_impl_RootKey K a0).bind fun v1 => impl_MirrorClip_2_l1 K v1 K (0 : Int) v1

theorem ok_impl_MirrorClip_2 (K : Nat) (a0 : (List RootKey)) (o : ((List RootKey))) (h : impl_MirrorClip_2 K a0 = some o) : CallOK Try.prog 38 [.one (sl 4 cs_RootKey a0)] [.one (sl 4 cs_RootKey o)] := by
  refine callOK_of_AW Try.func38 rfl (by kernel_rfl) (Nat.le_of_ble_eq_true (by kernel_rfl)) ?_
  intro w0
  unfold impl_MirrorClip_2 at h
  refine AW.sC (Tt ∧ Tt) [] [0] [] ⟨tr, tr⟩ ?_
  refine AW.seq ?_
  obtain ⟨v1, e2, h⟩ := bind_some h
  let z2 := sl 4 cs_RootKey a0
  refine AW.tC (Tt ∧ (((Eqc z2) ∧ Tt) ∧ CallOK Try.prog 39 [.one z2] [.one (sl 4 cs_RootKey v1)]) ∧ Tt ∧ Tt) [.no, .call [.one z2] [.one (sl 4 cs_RootKey v1)] [[.own 1]]] [3] [1] ⟨tr, ⟨⟨rfl, tr⟩, ok_slices_Clone_impl_RootKey_impl_RootKey K a0 v1 e2⟩, tr, tr⟩ ?_
  refine AW.seq ?_
  let z1 := vI (v1.length : Int)
  refine AW.sA ⟨[(3, (.v (.one (.arr 1)))), (8, z1), (9, (vI (0 : Int)))], [(1, (oA 4 cs_RootKey v1))]⟩ (Tt ∧ T2 Tt) [] [3, 8, 9] [1] ⟨tr, tr, tr, tr⟩ ?_
  refine AW.block ?_
  refine AW.loopQ (σ := Nat × Int × (List RootKey)) (fun p => ⟨[(3, (.v (.one (.arr 1)))), (8, z1), (9, (vI p.2.1))], [(1, (oA 4 cs_RootKey p.2.2))]⟩) (fun p => impl_MirrorClip_2_l1 K v1 p.1 p.2.1 p.2.2 = some o) (fun p => p.1) (K, (0 : Int), v1) h ?_
  clear h
  rintro ⟨k, x5, x6⟩ h
  replace h : impl_MirrorClip_2_l1 K v1 k x5 x6 = some o := h
  let z3 := oA 4 cs_RootKey x6
  show AW _ _ (⟨[(3, (.v (.one (.arr 1)))), (8, z1), (9, (vI x5))], [(1, z3)]⟩ : St) _
  obtain _ | k := k
  · rw [impl_MirrorClip_2_l1] at h; cases h
  rw [impl_MirrorClip_2_l1] at h
  refine AW.sA ⟨[(3, (.v (.one (.arr 1)))), (8, z1), (9, (vI x5)), (10, (vB (decide (x5 < (v1.length : Int)))))], [(1, z3)]⟩ (Tt ∧ Tt) [] [3, 8, 9, 10] [1] ⟨tr, tr⟩ ?_
  refine AW.seq ?_
  rcases ite2_cases h with ⟨b7, h⟩ | ⟨b7, h⟩
  · refine AW.cond_t rfl b7 ?_
    refine AW.skip ?_
    refine thenQ_normal ?_
    refine AW.seq ?_
    refine AW.block ?_
    refine AW.sC (T2 Tt) [] [3, 4, 8, 9] [1] ⟨tr, tr, tr⟩ ?_
    obtain ⟨c8, h⟩ := chk_some h
    obtain ⟨v9, e10, h⟩ := bind_some h
    obtain ⟨y11, e12, h⟩ := bind_some h
    refine AW.rA ⟨[(3, (.v (.one (.arr 1)))), (8, (vI (v1.length : Int))), (9, (vI x5))], [(1, (oA 4 cs_RootKey y11))]⟩ (T4 ((0 ≤ x5 ∧ x5 < (x6.length : Int)) ∧ T2 (((((eF (((x6.getD x5.toNat default).Place).X)) ∧ (eF (((x6.getD x5.toNat default).Place).Y)) ∧ (eF (((x6.getD x5.toNat default).Place).Z)) ∧ Tt) ∧ Tt) ∧ CallOK Try.prog 23 [.agg (cs_Vector ((x6.getD x5.toNat default).Place))] [.agg (cs_Vector v9)]) ∧ (0 ≤ x5 ∧ x5 < (x6.length : Int)) ∧ Tt ∧ (y11.length = x6.length ∧ SetOb x6.length 4 x5.toNat 1 3 (gl cs_RootKey x6) (gl cs_RootKey y11) ∧ ((List.range 3).map fun j => (cs_RootKey (RootKey.mk ((x6.getD x5.toNat default).At) v9)).getD (1 + j) .nilptr) = ((List.range 3).map fun j => gl cs_RootKey y11 x5.toNat (1 + j)) ∧ ((((.flt .f32 v9.X.bits) : C) = (.flt .f32 v9.X.bits) ∧ Tt) ∧ (((.flt .f32 v9.Y.bits) : C) = (.flt .f32 v9.Y.bits) ∧ Tt) ∧ (((.flt .f32 v9.Z.bits) : C) = (.flt .f32 v9.Z.bits) ∧ Tt) ∧ Tt) ∧ (true = true → ∀ j, j < 3 → isSeq (gl cs_RootKey x6 x5.toNat (1 + j)) = false ∧ isSeq (gl cs_RootKey y11 x5.toNat (1 + j)) = false)) ∧ Tt))) [.no, .no, .no, .no, .no, .no, .no, .call [.agg (cs_Vector ((x6.getD x5.toNat default).Place))] [.agg (cs_Vector v9)] [[.view, .view, .view]], .no, .no, .set y11.length (gl cs_RootKey y11) ((List.range 3).map fun j => (cs_RootKey (RootKey.mk ((x6.getD x5.toNat default).At) v9)).getD (1 + j) .nilptr)] [3, 8, 9] [1] ⟨tr, tr, tr, tr, c8, tr, tr, ⟨⟨⟨rfl, rfl, rfl, tr⟩, tr⟩, ok_impl_Vector_mirrored K ((x6.getD x5.toNat default).Place) v9 e10⟩, c8, tr, (letP (some_eq e12) (fun z => (z.length = x6.length ∧ SetOb x6.length 4 x5.toNat 1 3 (gl cs_RootKey x6) (gl cs_RootKey z) ∧ ((List.range 3).map fun j => (cs_RootKey (RootKey.mk ((x6.getD x5.toNat default).At) v9)).getD (1 + j) .nilptr) = ((List.range 3).map fun j => gl cs_RootKey z x5.toNat (1 + j)) ∧ ((((.flt .f32 v9.X.bits) : C) = (.flt .f32 v9.X.bits) ∧ Tt) ∧ (((.flt .f32 v9.Y.bits) : C) = (.flt .f32 v9.Y.bits) ∧ Tt) ∧ (((.flt .f32 v9.Z.bits) : C) = (.flt .f32 v9.Z.bits) ∧ Tt) ∧ Tt) ∧ (true = true → ∀ j, j < 3 → isSeq (gl cs_RootKey x6 x5.toNat (1 + j)) = false ∧ isSeq (gl cs_RootKey z x5.toNat (1 + j)) = false))) ⟨List.length_set, gl_setp (fun j hj hn => match j, hj, hn with | 0, _, _ => rfl | 1, _, hn => absurd ⟨by decide, by decide⟩ hn | 2, _, hn => absurd ⟨by decide, by decide⟩ hn | 3, _, hn => absurd ⟨by decide, by decide⟩ hn) (lt_of_bound c8), (gl_atp (lt_of_bound c8)).symm, ⟨⟨rfl, tr⟩, ⟨rfl, tr⟩, ⟨rfl, tr⟩, tr⟩, (fun _ j hj => match j, hj with | 0, _ => ⟨rfl, rfl⟩ | 1, _ => ⟨rfl, rfl⟩ | 2, _ => ⟨rfl, rfl⟩)⟩), tr⟩ ?_
    refine blockQ_normal ?_
    refine thenQ_normal ?_
    let z4 := IntKind.i64.wrap (x5 + (1 : Int))
    refine AW.rA ⟨[(3, (.v (.one (.arr 1)))), (8, z1), (9, (vI z4))], [(1, (oA 4 cs_RootKey y11))]⟩ (T2 Tt) [] [3, 8, 9] [1] ⟨tr, tr, tr⟩ ?_
    exact loopQ_normal (k, z4, y11) h (Nat.lt_succ_self k) (Sub.keep [3, 8, 9] [1] (by kernel_rfl) (by kernel_rfl))
  · refine AW.cond_f rfl b7 ?_
    refine AW.exit ?_
    refine thenQ_exit ?_
    refine loopQ_exit ?_
    refine blockQ_exit ?_
    refine thenQ_normal ?_
    refine AW.sA ⟨[(2, (.v (.one (.arr 1))))], [(1, z3)]⟩ (T2 Tt) [] [2] [1] ⟨tr, tr, tr⟩ ?_
    refine AW.ret ?_
    replace h := some_eq h
    subst h
    exact ⟨.inr rfl, retOK_of [(.one (.arr 1))] (by kernel_rfl) ⟨rfl, tr⟩ (of_decide_eq_true (by kernel_rfl))⟩

/-! slices.Clone[[]impl.Key,impl.Key] -/
def slices_Clone_impl_Key_impl_Key (_K : Nat) (a0 : (List Key)) : Option ((List Key)) :=
  chk ((([] : List Key).length + a0.length) * 24 ≤ 140737488355328) (some (([] : List Key) ++ a0))

theorem ok_slices_Clone_impl_Key_impl_Key (K : Nat) (a0 : (List Key)) (o : ((List Key))) (h : slices_Clone_impl_Key_impl_Key K a0 = some o) : CallOK Try.prog 37 [.one (sl 5 cs_Key a0)] [.one (sl 5 cs_Key o)] := by
  refine callOK_of_AW Try.func37 rfl (by kernel_rfl) (Nat.le_of_ble_eq_true (by kernel_rfl)) ?_
  intro w0
  unfold slices_Clone_impl_Key_impl_Key at h
  refine AW.sA ⟨[(0, (vc (sl 5 cs_Key a0)))], []⟩ (Tt ∧ Tt) [] [0] [] ⟨tr, tr⟩ ?_
  refine AW.seq ?_
  refine AW.seq ?_
  refine AW.nilA (d := 4) (n := a0.length) 1 [.no] [0] [] (s' := ⟨[(0, (vc (sl 5 cs_Key a0)))], []⟩) (ob := Tt ∧ Tt) (by kernel_rfl) ⟨tr, tr⟩ ?_
  intro b2 b1
  cases b2
  · refine thenQ_normal ?_
    refine AW.cond_f (b := false) rfl rfl ?_
    refine AW.skip ?_
    refine thenQ_normal ?_
    refine AW.seq ?_
    obtain ⟨c3, h⟩ := chk_some h
    refine AW.tA ⟨[(2, (vL 2 5 cs_Key (([] : List Key) ++ a0)))], [(2, (oL 5 cs_Key (([] : List Key) ++ a0)))]⟩ ((([] : List Key).length = 0 ∧ Tt) ∧ Tt ∧ ((([] : List Key) ++ a0).length = ([] : List Key).length + a0.length ∧ AppOb (([] : List Key).length) (a0.length) 5 (gl cs_Key ([] : List Key)) (gl cs_Key a0) (gl cs_Key (([] : List Key) ++ a0)) ∧ (∀ i j, i < a0.length → j < 5 → scalarC (gl cs_Key a0 i j)) ∧ (([] : List Key).length + a0.length) * 24 ≤ 140737488355328) ∧ Tt ∧ Tt) [.obj 1 ([] : List Key).length (gl cs_Key ([] : List Key)), .no, .obj 2 (([] : List Key) ++ a0).length (gl cs_Key (([] : List Key) ++ a0))] [2] [2] ⟨⟨rfl, tr⟩, tr, ⟨List.length_append, gl_append, gl_scalar sc_Key _, c3⟩, tr, tr⟩ ?_
    refine AW.ret ?_
    replace h := some_eq h
    subst h
    exact ⟨.inr rfl, retOK_of [(.one (xL 2 5 cs_Key (([] : List Key) ++ a0)))] (by kernel_rfl) ⟨rfl, tr⟩ (of_decide_eq_true (by kernel_rfl))⟩
  · obtain rfl := List.eq_nil_of_length_eq_zero (b1 rfl)
    replace h : some ([] : (List Key)) = some o := by simpa [chk] using h
    refine thenQ_normal ?_
    refine AW.cond_t (b := true) rfl rfl ?_
    refine AW.sA ⟨[(2, (.v (.one .nils)))], []⟩ (Tt ∧ Tt) [] [2] [] ⟨tr, tr⟩ ?_
    refine AW.ret ?_
    refine thenQ_ret ?_
    replace h := some_eq h
    subst h
    exact ⟨.inr rfl, retOK_of [(.one .nils)] (by kernel_rfl) ⟨rfl, tr⟩ (of_decide_eq_true (by kernel_rfl))⟩

/-! impl.MirrorClip$1 -/
def impl_MirrorClip_1_l1 (K : Nat) (v3 : ((List Key))) : Nat → Int → (List Key) → Option ((List Key))
  | 0, _, _ => none
  | k + 1, x7, x8 => ite2 ((decide (x7 < (v3.length : Int)))) (chk (0 ≤ x7 ∧ x7 < (x8.length : Int)) ((impl_Turn_mirrored K ((x8.getD x7.toNat default).Turn)).bind fun v11 => (some (x8.set x7.toNat (Key.mk ((x8.getD x7.toNat default).At) v11))).bind fun y13 => impl_MirrorClip_1_l1 K v3 k (IntKind.i64.wrap (x7 + (1 : Int))) y13)) (some x8)

def impl_MirrorClip_1 (K : Nat) (a0 : Int) (a1 : (List Key)) (a2 : Clip) (a3 : (List Int)) : Option ((List Key)) :=
  chk (0 ≤ a0 ∧ a0 < (a3.length : Int)) (chk (0 ≤ (a3.getD a0.toNat default) ∧ (a3.getD a0.toNat default) < (a2.Tracks.length : Int)) ((slices_Clone_impl_Key_impl_Key K (a2.Tracks.getD ((a3.getD a0.toNat default).toNat) default)).bind fun v3 => impl_MirrorClip_1_l1 K v3 K (0 : Int) v3))

theorem ok_impl_MirrorClip_1 (K : Nat) (a0 : Int) (a1 : (List Key)) (a2 : Clip) (a3 : (List Int)) (o : ((List Key))) (h : impl_MirrorClip_1 K a0 a1 a2 a3 = some o) : CallOK Try.prog 36 [.one (.int .i64 a0), .one (sl 5 cs_Key a1), .one (pl 4 cs_Clip a2), .one (pl 1 (csL 1 (csI .i64)) a3)] [.one (sl 5 cs_Key o)] := by
  refine callOK_of_AW Try.func36 rfl (by kernel_rfl) (Nat.le_of_ble_eq_true (by kernel_rfl)) ?_
  intro w0
  unfold impl_MirrorClip_1 at h
  refine AW.sA ⟨[(0, (vI a0)), (2, (vc (pl 4 cs_Clip a2))), (3, (vc (pl 1 (csL 1 (csI .i64)) a3)))], []⟩ (Tt ∧ Tt) [] [0, 2, 3] [] ⟨tr, tr⟩ ?_
  refine AW.seq ?_
  obtain ⟨c1, h⟩ := chk_some h
  obtain ⟨c2, h⟩ := chk_some h
  obtain ⟨v3, e4, h⟩ := bind_some h
  let z3 := a3.getD a0.toNat default
  let z1 := a2.Tracks.getD (z3.toNat) default
  let z5 := sl 5 cs_Key z1
  refine AW.dA ⟨[(7, (.v (.one (.arr 1))))], [(1, (oA 5 cs_Key v3))]⟩ ((T4 ((0 ≤ a0 ∧ a0 < (a3.length : Int)) ∧ Tt ∧ (0 ≤ z3 ∧ z3 < (a2.Tracks.length : Int)) ∧ Tt ∧ (((Eqc z5) ∧ Tt) ∧ CallOK Try.prog 37 [.one z5] [.one (sl 5 cs_Key v3)]) ∧ Tt ∧ Tt)) ∧ (Tt)) 10 [.no, .no, .no, .no, .no, .no, .no, .no, .call [.one z5] [.one (sl 5 cs_Key v3)] [[.own 1]]] [7] [1] ⟨⟨tr, tr, tr, tr, c1, tr, c2, tr, ⟨⟨rfl, tr⟩, ok_slices_Clone_impl_Key_impl_Key K z1 v3 e4⟩, tr, tr⟩, tr⟩ ?_
  refine thenQ_normal ?_
  refine AW.seq ?_
  let z2 := vI (v3.length : Int)
  refine AW.sA ⟨[(7, (.v (.one (.arr 1)))), (19, z2), (20, (vI (0 : Int)))], [(1, (oA 5 cs_Key v3))]⟩ (Tt ∧ T2 Tt) [] [7, 19, 20] [1] ⟨tr, tr, tr, tr⟩ ?_
  refine AW.block ?_
  refine AW.loopQ (σ := Nat × Int × (List Key)) (fun p => ⟨[(7, (.v (.one (.arr 1)))), (19, z2), (20, (vI p.2.1))], [(1, (oA 5 cs_Key p.2.2))]⟩) (fun p => impl_MirrorClip_1_l1 K v3 p.1 p.2.1 p.2.2 = some o) (fun p => p.1) (K, (0 : Int), v3) h ?_
  clear h
  rintro ⟨k, x7, x8⟩ h
  replace h : impl_MirrorClip_1_l1 K v3 k x7 x8 = some o := h
  let z6 := oA 5 cs_Key x8
  show AW _ _ (⟨[(7, (.v (.one (.arr 1)))), (19, z2), (20, (vI x7))], [(1, z6)]⟩ : St) _
  obtain _ | k := k
  · rw [impl_MirrorClip_1_l1] at h; cases h
  rw [impl_MirrorClip_1_l1] at h
  refine AW.sA ⟨[(7, (.v (.one (.arr 1)))), (19, z2), (20, (vI x7)), (21, (vB (decide (x7 < (v3.length : Int)))))], [(1, z6)]⟩ (Tt ∧ Tt) [] [7, 19, 20, 21] [1] ⟨tr, tr⟩ ?_
  refine AW.seq ?_
  rcases ite2_cases h with ⟨b9, h⟩ | ⟨b9, h⟩
  · refine AW.cond_t rfl b9 ?_
    refine AW.skip ?_
    refine thenQ_normal ?_
    refine AW.seq ?_
    refine AW.block ?_
    refine AW.sC (T2 Tt) [] [7, 8, 19, 20] [1] ⟨tr, tr, tr⟩ ?_
    obtain ⟨c10, h⟩ := chk_some h
    obtain ⟨v11, e12, h⟩ := bind_some h
    obtain ⟨y13, e14, h⟩ := bind_some h
    refine AW.rA ⟨[(7, (.v (.one (.arr 1)))), (19, (vI (v3.length : Int))), (20, (vI x7))], [(1, (oA 5 cs_Key y13))]⟩ (T4 ((0 ≤ x7 ∧ x7 < (x8.length : Int)) ∧ T2 (((((eF (((x8.getD x7.toNat default).Turn).W)) ∧ (eF (((x8.getD x7.toNat default).Turn).X)) ∧ (eF (((x8.getD x7.toNat default).Turn).Y)) ∧ (eF (((x8.getD x7.toNat default).Turn).Z)) ∧ Tt) ∧ Tt) ∧ CallOK Try.prog 24 [.agg (cs_Turn ((x8.getD x7.toNat default).Turn))] [.agg (cs_Turn v11)]) ∧ (0 ≤ x7 ∧ x7 < (x8.length : Int)) ∧ Tt ∧ (y13.length = x8.length ∧ SetOb x8.length 5 x7.toNat 1 4 (gl cs_Key x8) (gl cs_Key y13) ∧ ((List.range 4).map fun j => (cs_Key (Key.mk ((x8.getD x7.toNat default).At) v11)).getD (1 + j) .nilptr) = ((List.range 4).map fun j => gl cs_Key y13 x7.toNat (1 + j)) ∧ ((((.flt .f32 v11.W.bits) : C) = (.flt .f32 v11.W.bits) ∧ Tt) ∧ (((.flt .f32 v11.X.bits) : C) = (.flt .f32 v11.X.bits) ∧ Tt) ∧ (((.flt .f32 v11.Y.bits) : C) = (.flt .f32 v11.Y.bits) ∧ Tt) ∧ (((.flt .f32 v11.Z.bits) : C) = (.flt .f32 v11.Z.bits) ∧ Tt) ∧ Tt) ∧ (true = true → ∀ j, j < 4 → isSeq (gl cs_Key x8 x7.toNat (1 + j)) = false ∧ isSeq (gl cs_Key y13 x7.toNat (1 + j)) = false)) ∧ Tt))) [.no, .no, .no, .no, .no, .no, .no, .call [.agg (cs_Turn ((x8.getD x7.toNat default).Turn))] [.agg (cs_Turn v11)] [[.view, .view, .view, .view]], .no, .no, .set y13.length (gl cs_Key y13) ((List.range 4).map fun j => (cs_Key (Key.mk ((x8.getD x7.toNat default).At) v11)).getD (1 + j) .nilptr)] [7, 19, 20] [1] ⟨tr, tr, tr, tr, c10, tr, tr, ⟨⟨⟨rfl, rfl, rfl, rfl, tr⟩, tr⟩, ok_impl_Turn_mirrored K ((x8.getD x7.toNat default).Turn) v11 e12⟩, c10, tr, (letP (some_eq e14) (fun z => (z.length = x8.length ∧ SetOb x8.length 5 x7.toNat 1 4 (gl cs_Key x8) (gl cs_Key z) ∧ ((List.range 4).map fun j => (cs_Key (Key.mk ((x8.getD x7.toNat default).At) v11)).getD (1 + j) .nilptr) = ((List.range 4).map fun j => gl cs_Key z x7.toNat (1 + j)) ∧ ((((.flt .f32 v11.W.bits) : C) = (.flt .f32 v11.W.bits) ∧ Tt) ∧ (((.flt .f32 v11.X.bits) : C) = (.flt .f32 v11.X.bits) ∧ Tt) ∧ (((.flt .f32 v11.Y.bits) : C) = (.flt .f32 v11.Y.bits) ∧ Tt) ∧ (((.flt .f32 v11.Z.bits) : C) = (.flt .f32 v11.Z.bits) ∧ Tt) ∧ Tt) ∧ (true = true → ∀ j, j < 4 → isSeq (gl cs_Key x8 x7.toNat (1 + j)) = false ∧ isSeq (gl cs_Key z x7.toNat (1 + j)) = false))) ⟨List.length_set, gl_setp (fun j hj hn => match j, hj, hn with | 0, _, _ => rfl | 1, _, hn => absurd ⟨by decide, by decide⟩ hn | 2, _, hn => absurd ⟨by decide, by decide⟩ hn | 3, _, hn => absurd ⟨by decide, by decide⟩ hn | 4, _, hn => absurd ⟨by decide, by decide⟩ hn) (lt_of_bound c10), (gl_atp (lt_of_bound c10)).symm, ⟨⟨rfl, tr⟩, ⟨rfl, tr⟩, ⟨rfl, tr⟩, ⟨rfl, tr⟩, tr⟩, (fun _ j hj => match j, hj with | 0, _ => ⟨rfl, rfl⟩ | 1, _ => ⟨rfl, rfl⟩ | 2, _ => ⟨rfl, rfl⟩ | 3, _ => ⟨rfl, rfl⟩)⟩), tr⟩ ?_
    refine blockQ_normal ?_
    refine thenQ_normal ?_
    let z4 := IntKind.i64.wrap (x7 + (1 : Int))
    refine AW.rA ⟨[(7, (.v (.one (.arr 1)))), (19, z2), (20, (vI z4))], [(1, (oA 5 cs_Key y13))]⟩ (T2 Tt) [] [7, 19, 20] [1] ⟨tr, tr, tr⟩ ?_
    exact loopQ_normal (k, z4, y13) h (Nat.lt_succ_self k) (Sub.keep [7, 19, 20] [1] (by kernel_rfl) (by kernel_rfl))
  · refine AW.cond_f rfl b9 ?_
    refine AW.exit ?_
    refine thenQ_exit ?_
    refine loopQ_exit ?_
    refine blockQ_exit ?_
    refine thenQ_normal ?_
    refine AW.sA ⟨[(6, (.v (.one (.arr 1))))], [(1, z6)]⟩ (T2 Tt) [] [6] [1] ⟨tr, tr, tr⟩ ?_
    refine AW.ret ?_
    replace h := some_eq h
    subst h
    exact ⟨.inr rfl, retOK_of [(.one (.arr 1))] (by kernel_rfl) ⟨rfl, tr⟩ (of_decide_eq_true (by kernel_rfl))⟩

/-! impl.validClip -/
def impl_validClip (K : Nat) (a0 : Clip) : Option (Clip × Bool) :=
  (impl_ValidClip K a0).bind fun v1 => ite2 ((!v1)) (some ((Clip.mk (0 : Int) (0 : Int) ([] : (List (List Key))) ([] : (List RootKey))), false)) (some (a0, true))

theorem ok_impl_validClip (K : Nat) (a0 : Clip) (o : (Clip × Bool)) (h : impl_validClip K a0 = some o) : MutOK Try.prog 56 [(.agg [(.ro (.int .i64 a0.Length)), (.ro (.int .i64 a0.Kind)), (.mv (sl 1 (csL 5 cs_Key) a0.Tracks)), (.mv (sl 4 cs_RootKey a0.Roots))])] [.agg (cs_Clip o.1), .one (.bool o.2)] := by
  refine mutOK_of_AW 2 Try.func56 rfl (by kernel_rfl) (Nat.le_of_ble_eq_true (by kernel_rfl)) (by kernel_rfl) (by kernel_rfl) ?_
  intro w0 K0 v0 s0
  unfold impl_validClip at h
  refine AW.sC (Tt ∧ T2 Tt) [.box 2, .box 3] [0, 1, 2] [0, 1, 2, 3] ⟨tr, tr, tr, tr⟩ ?_
  refine AW.seq ?_
  refine AW.seq ?_
  obtain ⟨v1, e2, h⟩ := bind_some h
  let z1 := oA 1 (csL 5 cs_Key) a0.Tracks
  let z2 := cI a0.Length
  let z3 := cI (0 : Int)
  let z4 := oA 4 cs_RootKey a0.Roots
  refine AW.tA ⟨[(0, (.v (.agg [z2, (cI a0.Kind), (.arr 0), (.arr 1)]))), (1, (vp 2 0)), (2, (vp 3 0)), (6, (vB (!v1)))], [(0, z1), (1, z4), (2, (.box [z2, (cI a0.Kind), (.arr 0), (.arr 1)])), (3, (.box [z3, z3, .nils, .nils]))]⟩ (Tt ∧ ((((eI a0.Length) ∧ (eI a0.Kind) ∧ (Eqc (sl 1 (csL 5 cs_Key) a0.Tracks)) ∧ (Eqc (sl 4 cs_RootKey a0.Roots)) ∧ Tt) ∧ Tt) ∧ CallOK Try.prog 34 [.agg (cs_Clip a0)] [.one (.bool v1)]) ∧ Tt ∧ Tt) [.no, .call [.agg (cs_Clip a0)] [.one (.bool v1)] [[.view]]] [0, 1, 2, 6] [0, 1, 2, 3] ⟨tr, ⟨⟨⟨rfl, rfl, rfl, rfl, tr⟩, tr⟩, ok_impl_ValidClip K a0 v1 e2⟩, tr, tr⟩ ?_
  rcases ite2_cases h with ⟨b3, h⟩ | ⟨b3, h⟩
  · refine AW.cond_t rfl b3 ?_
    refine AW.sA ⟨[(0, (.v (.agg [z2, (cI a0.Kind), (.arr 0), (.arr 1)]))), (2, (vp 3 0)), (3, (vB false))], [(0, z1), (1, z4), (3, (.box [z3, z3, .nils, .nils]))]⟩ (Tt ∧ T2 Tt) [] [0, 2, 3] [0, 1, 3] ⟨tr, tr, tr, tr⟩ ?_
    refine AW.ret ?_
    refine thenQ_ret ?_
    replace h := some_eq h
    subst h
    exact ⟨.inr rfl, retOK_of [(.agg [z3, z3, .nils, .nils]), (.one (.c (.bool false)))] (by kernel_rfl) ⟨⟨⟨rfl, tr⟩, ⟨rfl, tr⟩, rfl, rfl, tr⟩, ⟨rfl, tr⟩, tr⟩ (of_decide_eq_true (by kernel_rfl)), by kernel_rfl, ⟨⟨tr, tr, tr, tr, tr⟩, tr⟩⟩
  · refine AW.cond_f rfl b3 ?_
    refine AW.skip ?_
    refine thenQ_normal ?_
    refine AW.sA ⟨[(0, (.v (.agg [z2, (cI a0.Kind), (.arr 0), (.arr 1)]))), (2, (vp 3 0)), (3, (vB true))], [(0, z1), (1, z4), (3, (.box [z2, (cI a0.Kind), (.arr 0), (.arr 1)]))]⟩ (Tt ∧ T2 Tt) [] [0, 2, 3] [0, 1, 3] ⟨tr, tr, tr, tr⟩ ?_
    refine AW.ret ?_
    replace h := some_eq h
    subst h
    exact ⟨.inr rfl, retOK_of [(.agg [z2, (cI a0.Kind), (.arr 0), (.arr 1)]), (.one (.c (.bool true)))] (by kernel_rfl) ⟨⟨⟨rfl, tr⟩, ⟨rfl, tr⟩, rfl, rfl, tr⟩, ⟨rfl, tr⟩, tr⟩ (of_decide_eq_true (by kernel_rfl)), by kernel_rfl, ⟨⟨tr, tr, tr, tr, tr⟩, tr⟩⟩

/-! (impl.Clip).changed -/
def impl_Clip_changed_l1 (K : Nat) (a0 : Clip) (a1 : Int) (a2_0_0 : Clip) (a2_0_1 : (List Int)) (v1 : ((List RootKey))) : Nat → Int → (List (List Key)) → Option (Clip × Bool)
  | 0, _, _ => none
  | k + 1, x5, x6 => ite2 ((decide (x5 < (a0.Tracks.length : Int)))) (chk (0 ≤ x5 ∧ x5 < (a0.Tracks.length : Int)) ((impl_MirrorClip_1 K x5 (a0.Tracks.getD x5.toNat default) a2_0_0 a2_0_1).bind fun v9 => chk ((x6.length + ([v9]).length) * 24 ≤ 140737488355328) (impl_Clip_changed_l1 K a0 a1 a2_0_0 a2_0_1 v1 k (IntKind.i64.wrap (x5 + (1 : Int))) (x6 ++ ([v9]))))) ((impl_validClip K (Clip.mk a1 a0.Kind x6 v1)).bind fun v12 => some (v12.1, v12.2))

def impl_Clip_changed (K : Nat) (a0 : Clip) (a1 : Int) (a2_0_0 : Clip) (a2_0_1 : (List Int)) : Option (Clip × Bool) :=
  (impl_MirrorClip_2 K a0.Roots).bind fun v1 => impl_Clip_changed_l1 K a0 a1 a2_0_0 a2_0_1 v1 K (0 : Int) ([] : (List (List Key)))

theorem ok_impl_Clip_changed (K : Nat) (a0 : Clip) (a1 : Int) (a2_0_0 : Clip) (a2_0_1 : (List Int)) (o : (Clip × Bool)) (h : impl_Clip_changed K a0 a1 a2_0_0 a2_0_1 = some o) : CallOK Try.prog 35 [.agg (cs_Clip a0), .one (.int .i64 a1), .one (.fn 36 2 fun j => [(pl 4 cs_Clip a2_0_0), (pl 1 (csL 1 (csI .i64)) a2_0_1)].getD j .nilptr), .one (.fn 38 0 fun _ => .nilptr)] [.agg (cs_Clip o.1), .one (.bool o.2)] := by
  refine callOK_of_AW Try.func35 rfl (by kernel_rfl) (Nat.le_of_ble_eq_true (by kernel_rfl)) ?_
  intro w0
  unfold impl_Clip_changed at h
  let z1 := csL 5 cs_Key
  let z17 := csL 1 (csI .i64)
  let z2 := pl 1 z17 a2_0_1
  let z3 := cI (0 : Int)
  let z4 := pl 4 cs_Clip a2_0_0
  let z10 := sl 4 cs_RootKey a0.Roots
  let z16 := sl 1 z1 a0.Tracks
  refine AW.sA ⟨[(1, (vI a1)), (2, (vc (.fn 36 2 fun j => [z4, z2].getD j .nilptr))), (3, (vc (.fn 38 0 fun _ => .nilptr))), (4, (vp 1 0)), (8, (vp 2 0))], [(1, (.box [(cI a0.Length), (cI a0.Kind), (.c z16), (.c z10)])), (2, (.box [z3, z3, .nils, .nils]))]⟩ (Tt ∧ T2 Tt) [.box 1, .box 2] [1, 2, 3, 4, 8] [1, 2] ⟨tr, tr, tr, tr⟩ ?_
  refine AW.seq ?_
  obtain ⟨v1, e2, h⟩ := bind_some h
  let z6 := xL 3 4 cs_RootKey v1
  let z7 := oL 4 cs_RootKey v1
  let z12 := sl 4 cs_RootKey v1
  refine AW.dA ⟨[(2, (vc (.fn 36 2 fun j => [z4, z2].getD j .nilptr))), (4, (vp 1 0)), (8, (vp 2 0)), (10, (vp 4 0))], [(1, (.box [(cI a0.Length), (cI a0.Kind), (.c z16), (.c z10)])), (2, (.box [z3, z3, .nils, .nils])), (3, z7), (4, (.box [(cI a1), (cI a0.Kind), .nils, z6]))]⟩ ((T2 (T4 ((((Eqc z10) ∧ Tt) ∧ CallOK Try.prog 38 [.one z10] [.one z12]) ∧ T2 Tt))) ∧ (Tt ∧ Tt)) 9 [.no, .no, .no, .no, .no, .no, .call [.one z10] [.one z12] [[.lst 3]], .no, .box 4] [2, 4, 8, 10] [1, 2, 3, 4] ⟨⟨tr, tr, tr, tr, tr, tr, ⟨⟨rfl, tr⟩, ok_impl_MirrorClip_2 K a0.Roots v1 e2⟩, tr, tr, tr⟩, ⟨tr, tr⟩⟩ ?_
  refine thenQ_normal ?_
  refine AW.seq ?_
  let z5 := (a0.Tracks.length : Int)
  let z8 := vc z16
  refine AW.sA ⟨[(2, (vc (.fn 36 2 fun j => [z4, z2].getD j .nilptr))), (8, (vp 2 0)), (10, (vp 4 0)), (22, z8), (23, (vI z5)), (24, (vI (0 : Int)))], [(2, (.box [z3, z3, .nils, .nils])), (3, z7), (4, (.box [(cI a1), (cI a0.Kind), .nils, z6]))]⟩ (T4 Tt) [] [2, 8, 10, 22, 23, 24] [2, 3, 4] ⟨tr, tr, tr, tr, tr⟩ ?_
  refine AW.block ?_
  let z13 := List (List Key)
  refine AW.weak (s' := ⟨[(2, (vc (.fn 36 2 fun j => [z4, z2].getD j .nilptr))), (8, (vp 2 0)), (10, (vp 4 0)), (22, z8), (23, (vI z5)), (24, (vI (0 : Int)))], [(2, (.box [z3, z3, .nils, .nils])), (3, z7), (4, (.box [(cI a1), (cI a0.Kind), (xL 8 1 z1 ([] : z13)), z6])), (8, (oL 1 z1 ([] : z13)))]⟩) (Sub.trans (Sub.unnil 8 1 (gl z1 ([] : z13)) [] [(4, 2)] _ (by kernel_rfl) (by kernel_rfl)) (Sub.keep [2, 8, 10, 22, 23, 24] [2, 3, 4, 8] (by kernel_rfl) (by kernel_rfl))) ?_
  refine AW.loopQ (σ := Nat × Int × z13) (fun p => ⟨[(2, (vc (.fn 36 2 fun j => [z4, z2].getD j .nilptr))), (8, (vp 2 0)), (10, (vp 4 0)), (22, z8), (23, (vI z5)), (24, (vI p.2.1))], [(2, (.box [z3, z3, .nils, .nils])), (3, z7), (4, (.box [(cI a1), (cI a0.Kind), (xL 8 1 z1 p.2.2), z6])), (8, (oL 1 z1 p.2.2))]⟩) (fun p => impl_Clip_changed_l1 K a0 a1 a2_0_0 a2_0_1 v1 p.1 p.2.1 p.2.2 = some o) (fun p => p.1) (K, (0 : Int), ([] : z13)) h ?_
  clear h
  rintro ⟨k, x5, x6⟩ h
  replace h : impl_Clip_changed_l1 K a0 a1 a2_0_0 a2_0_1 v1 k x5 x6 = some o := h
  let z14 := xL 8 1 z1 x6
  show AW _ _ (⟨[(2, (vc (.fn 36 2 fun j => [z4, z2].getD j .nilptr))), (8, (vp 2 0)), (10, (vp 4 0)), (22, z8), (23, (vI z5)), (24, (vI x5))], [(2, (.box [z3, z3, .nils, .nils])), (3, z7), (4, (.box [(cI a1), (cI a0.Kind), z14, z6])), (8, (oL 1 z1 x6))]⟩ : St) _
  obtain _ | k := k
  · rw [impl_Clip_changed_l1] at h; cases h
  rw [impl_Clip_changed_l1] at h
  refine AW.sA ⟨[(2, (vc (.fn 36 2 fun j => [z4, z2].getD j .nilptr))), (8, (vp 2 0)), (10, (vp 4 0)), (22, z8), (23, (vI z5)), (24, (vI x5)), (25, (vB (decide (x5 < z5))))], [(2, (.box [z3, z3, .nils, .nils])), (3, z7), (4, (.box [(cI a1), (cI a0.Kind), z14, z6])), (8, (oL 1 z1 x6))]⟩ (Tt ∧ Tt) [] [2, 8, 10, 22, 23, 24, 25] [2, 3, 4, 8] ⟨tr, tr⟩ ?_
  refine AW.seq ?_
  rcases ite2_cases h with ⟨b7, h⟩ | ⟨b7, h⟩
  · refine AW.cond_t rfl b7 ?_
    refine AW.skip ?_
    refine thenQ_normal ?_
    refine AW.seq ?_
    refine AW.block ?_
    refine AW.seq ?_
    obtain ⟨c8, h⟩ := chk_some h
    let z19 := a0.Tracks.getD x5.toNat default
    let z9 := sl 5 cs_Key z19
    refine AW.tA ⟨[(2, (vc (.fn 36 2 fun j => [z4, z2].getD j .nilptr))), (8, (vp 2 0)), (10, (vp 4 0)), (11, (vI x5)), (12, (vc z9)), (22, z8), (23, (vI z5)), (24, (vI x5))], [(2, (.box [z3, z3, .nils, .nils])), (3, z7), (4, (.box [(cI a1), (cI a0.Kind), z14, z6])), (8, (oL 1 z1 x6))]⟩ (Tt ∧ (0 ≤ x5 ∧ x5 < z5) ∧ Tt ∧ T2 Tt) [] [2, 8, 10, 11, 12, 22, 23, 24] [2, 3, 4, 8] ⟨tr, c8, tr, tr, tr, tr⟩ ?_
    obtain ⟨v9, e10, h⟩ := bind_some h
    obtain ⟨c11, h⟩ := chk_some h
    let z11 := x6 ++ ([v9])
    let z15 : List CT := [.one (.int .i64 x5), .one z9, .one z4, .one z2]
    refine AW.dA ⟨[(2, (vc (.fn 36 2 fun j => [z4, z2].getD j .nilptr))), (8, (vp 2 0)), (10, (vp 4 0)), (22, z8), (23, (vI z5)), (24, (vI x5))], [(2, (.box [z3, z3, .nils, .nils])), (3, z7), (4, (.box [(cI a1), (cI a0.Kind), (xL 17 1 z1 z11), z6])), (17, (oL 1 z1 z11))]⟩ ((Tt ∧ T4 ((((eI x5) ∧ (Eqc z9) ∧ (4 = 4 ∧ ∀ j, j < 4 → (cs_Clip a2_0_0).getD j .nilptr = (cs_Clip a2_0_0).getD j .nilptr) ∧ (1 = 1 ∧ ∀ j, j < 1 → (z17 a2_0_1).getD j .nilptr = (z17 a2_0_1).getD j .nilptr) ∧ Tt) ∧ CallOK Try.prog 36 z15 [.one (sl 5 cs_Key v9)]) ∧ (([v9]).length = 1 ∧ (Eqc (sl 5 cs_Key v9)) ∧ Tt) ∧ (z11.length = x6.length + ([v9]).length ∧ AppOb (x6.length) (([v9]).length) 1 (gl z1 x6) (gl z1 ([v9])) (gl z1 z11) ∧ Tt ∧ (x6.length + ([v9]).length) * 24 ≤ 140737488355328) ∧ Tt ∧ Tt)) ∧ (Tt ∧ Tt)) 9 [.no, .no, .no, .no, .no, .call z15 [.one (sl 5 cs_Key v9)] [[.lst 15]], .obj 16 ([v9]).length (gl z1 ([v9])), .obj 17 z11.length (gl z1 z11)] [2, 8, 10, 22, 23, 24] [2, 3, 4, 17] ⟨⟨tr, tr, tr, tr, tr, ⟨⟨rfl, rfl, ⟨rfl, fun j hj => rfl⟩, ⟨rfl, fun j hj => rfl⟩, tr⟩, ok_impl_MirrorClip_1 K x5 z19 a2_0_0 a2_0_1 v9 e10⟩, ⟨rfl, ⟨rfl, tr⟩⟩, ⟨List.length_append, gl_append, tr, c11⟩, tr, tr⟩, ⟨tr, tr⟩⟩ ?_
    refine blockQ_normal ?_
    refine thenQ_normal ?_
    let z18 := IntKind.i64.wrap (x5 + (1 : Int))
    refine AW.rA ⟨[(2, (vc (.fn 36 2 fun j => [z4, z2].getD j .nilptr))), (8, (vp 2 0)), (10, (vp 4 0)), (22, z8), (23, (vI z5)), (24, (vI z18))], [(2, (.box [z3, z3, .nils, .nils])), (3, z7), (4, (.box [(cI a1), (cI a0.Kind), (xL 17 1 z1 z11), z6])), (17, (oL 1 z1 z11))]⟩ (T2 Tt) [] [2, 8, 10, 22, 23, 24] [2, 3, 4, 17] ⟨tr, tr, tr⟩ ?_
    exact loopQ_normal (k, z18, z11) h (Nat.lt_succ_self k) (Sub.trans (Sub.swap 8 17 _ (by kernel_rfl) (by kernel_rfl)) (Sub.keep [2, 8, 10, 22, 23, 24] [2, 3, 4, 8] (by kernel_rfl) (by kernel_rfl)))
  · refine AW.cond_f rfl b7 ?_
    refine AW.exit ?_
    refine thenQ_exit ?_
    refine loopQ_exit ?_
    refine blockQ_exit ?_
    refine thenQ_normal ?_
    refine AW.seq ?_
    refine AW.weak (s' := ⟨[(8, (vp 2 0)), (10, (vp 4 0))], [(2, (.box [z3, z3, .nils, .nils])), (3, z7), (4, (.box [(cI a1), (cI a0.Kind), z14, z6])), (8, (oL 1 z1 x6))]⟩) (Sub.keep [8, 10] [2, 3, 4, 8] (by kernel_rfl) (by kernel_rfl)) ?_
    refine AW.weak (s' := ⟨[(8, (vp 2 0)), (10, (vp 4 0))], [(2, (.box [z3, z3, .nils, .nils])), (3, (oA 4 cs_RootKey v1)), (4, (.box [(cI a1), (cI a0.Kind), (.arr 8), (.arr 3)])), (8, (oA 1 z1 x6))]⟩) (Sub.lstOwn [3, 8] (by kernel_rfl)) ?_
    obtain ⟨v12, e13, h⟩ := bind_some h
    let z20 : List CT := [.agg (cs_Clip v12.1), .one (.bool v12.2)]
    let z21 := xL 19 4 cs_RootKey v12.1.Roots
    refine AW.splitA 1 [.no] [8, 39] [2, 3, 8] [.callM [(.agg [(.ro (.int .i64 a1)), (.ro (.int .i64 a0.Kind)), (.mv (sl 1 z1 x6)), (.mv z12)])] z20 [[.view, .view, .lst 18, .lst 19], [.view]] none] [8, 9] [2, 18, 19] (s' := ⟨[(8, (vp 2 0)), (9, (vB v12.2))], [(2, (.box [(cI v12.1.Length), (cI v12.1.Kind), (xL 18 1 z1 v12.1.Tracks), z21])), (18, (oL 1 z1 v12.1.Tracks)), (19, (oL 4 cs_RootKey v12.1.Roots))]⟩) (ob := (Tt ∧ Tt) ∧ (((((eI a1) ∧ (eI a0.Kind) ∧ (Eqc (sl 1 z1 x6)) ∧ (Eqc z12) ∧ Tt) ∧ Tt) ∧ MutOK Try.prog 56 [(.agg [(.ro (.int .i64 a1)), (.ro (.int .i64 a0.Kind)), (.mv (sl 1 z1 x6)), (.mv z12)])] z20) ∧ T4 Tt)) (by kernel_rfl) ⟨⟨tr, tr⟩, ⟨⟨⟨⟨rfl, rfl, rfl, rfl, tr⟩, tr⟩, ok_impl_validClip K (Clip.mk a1 a0.Kind x6 v1) v12 e13⟩, tr, tr, tr, tr, tr⟩⟩ ?_
    refine thenQ_normal ?_
    refine AW.ret ?_
    replace h := some_eq h
    subst h
    exact ⟨.inr rfl, retOK_of [(.agg [(cI v12.1.Length), (cI v12.1.Kind), (xL 18 1 z1 v12.1.Tracks), z21]), (.one (.c (.bool v12.2)))] (by kernel_rfl) ⟨⟨⟨rfl, tr⟩, ⟨rfl, tr⟩, rfl, rfl, tr⟩, ⟨rfl, tr⟩, tr⟩ (of_decide_eq_true (by kernel_rfl))⟩

/-! impl.MirrorClip -/
def impl_MirrorClip (K : Nat) (a0 : Skeleton) (a1 : Clip) (a2 : (List Int)) : Option (Clip × Bool) :=
  (impl_ValidClip K a1).bind fun v1 => (ite2 ((!v1)) (some true) ((impl_IsPairing K a0 a2).bind fun v4 => ite2 ((!v4)) (some true) (some ((a1.Tracks.length : Int) != (a0.Bones.length : Int))))).bind fun j7 => ite2 (j7) (some ((Clip.mk (0 : Int) (0 : Int) ([] : (List (List Key))) ([] : (List RootKey))), false)) ((impl_Clip_changed K a1 a1.Length a1 a2).bind fun v10 => some (v10.1, v10.2))

theorem ok_impl_MirrorClip (K : Nat) (a0 : Skeleton) (a1 : Clip) (a2 : (List Int)) (o : (Clip × Bool)) (h : impl_MirrorClip K a0 a1 a2 = some o) : CallOK Try.prog 15 [.agg (cs_Skeleton a0), .agg (cs_Clip a1), .one (sl 1 (csI .i64) a2)] [.agg (cs_Clip o.1), .one (.bool o.2)] := by
  refine callOK_of_AW Try.func15 rfl (by kernel_rfl) (Nat.le_of_ble_eq_true (by kernel_rfl)) ?_
  intro w0
  unfold impl_MirrorClip at h
  let z8 := csL 5 cs_Key
  let z1 := sl 1 z8 a1.Tracks
  let z2 := sl 4 cs_RootKey a1.Roots
  let z3 := sl 1 (csI .i64) a2
  let z4 := cI (0 : Int)
  let z6 := cI a1.Length
  let z7 := sl 4 cs_Bone a0.Bones
  refine AW.sA ⟨[(3, (vp 1 0)), (4, (vp 2 0)), (5, (vp 3 0)), (6, (vp 4 0))], [(1, (.box [(.c z7)])), (2, (.box [z6, (cI a1.Kind), (.c z1), (.c z2)])), (3, (.box [(.c z3)])), (4, (.box [z4, z4, .nils, .nils]))]⟩ (Tt ∧ T4 Tt) [.box 1, .box 2, .box 3, .box 4] [3, 4, 5, 6] [1, 2, 3, 4] ⟨tr, tr, tr, tr, tr, tr⟩ ?_
  refine AW.seq ?_
  refine AW.seq ?_
  obtain ⟨v1, e2, h⟩ := bind_some h
  obtain ⟨j7, e8, h⟩ := bind_some h
  refine AW.join1 (s2 := ⟨[(4, (vp 2 0)), (5, (vp 3 0)), (6, (vp 4 0)), (25, (vB j7))], [(2, (.box [z6, (cI a1.Kind), (.c z1), (.c z2)])), (3, (.box [(.c z3)])), (4, (.box [z4, z4, .nils, .nils]))]⟩) ?_ ?_
  · rcases ite2_cases e8 with ⟨b3, e8⟩ | ⟨b3, e8⟩
    · replace e8 := some_eq e8
      subst e8
      exact AW.rA ⟨[(4, (vp 2 0)), (5, (vp 3 0)), (6, (vp 4 0)), (25, (vB true))], [(2, (.box [z6, (cI a1.Kind), (.c z1), (.c z2)])), (3, (.box [(.c z3)])), (4, (.box [z4, z4, .nils, .nils]))]⟩ (Tt ∧ ((((eI a1.Length) ∧ (eI a1.Kind) ∧ (Eqc z1) ∧ (Eqc z2) ∧ Tt) ∧ Tt) ∧ CallOK Try.prog 34 [.agg (cs_Clip a1)] [.one (.bool v1)]) ∧ Tt ∧ (Tt ∧ (!v1) = true) ∧ T2 (T4 (T4 (T4 Tt)))) [.no, .call [.agg (cs_Clip a1)] [.one (.bool v1)] [[.view]], .no, .dec true] [4, 5, 6, 25] [2, 3, 4] ⟨tr, ⟨⟨⟨rfl, rfl, rfl, rfl, tr⟩, tr⟩, ok_impl_ValidClip K a1 v1 e2⟩, tr, ⟨tr, b3⟩, tr, tr, tr, tr, tr, tr, tr, tr, tr, tr, tr, tr, tr, tr, tr⟩ ⟨rfl, rfl⟩
    · obtain ⟨v4, e5, e8⟩ := bind_some e8
      rcases ite2_cases e8 with ⟨b6, e8⟩ | ⟨b6, e8⟩
      · replace e8 := some_eq e8
        subst e8
        exact AW.rA ⟨[(4, (vp 2 0)), (5, (vp 3 0)), (6, (vp 4 0)), (25, (vB true))], [(2, (.box [z6, (cI a1.Kind), (.c z1), (.c z2)])), (3, (.box [(.c z3)])), (4, (.box [z4, z4, .nils, .nils]))]⟩ (Tt ∧ ((((eI a1.Length) ∧ (eI a1.Kind) ∧ (Eqc z1) ∧ (Eqc z2) ∧ Tt) ∧ Tt) ∧ CallOK Try.prog 34 [.agg (cs_Clip a1)] [.one (.bool v1)]) ∧ Tt ∧ (Tt ∧ (!v1) = false) ∧ T2 (((((Eqc z7) ∧ Tt) ∧ (Eqc z3) ∧ Tt) ∧ CallOK Try.prog 10 [.agg (cs_Skeleton a0), .one z3] [.one (.bool v4)]) ∧ T2 ((Tt ∧ (!v4) = true) ∧ T4 (T4 Tt)))) [.no, .call [.agg (cs_Clip a1)] [.one (.bool v1)] [[.view]], .no, .dec false, .no, .no, .call [.agg (cs_Skeleton a0), .one z3] [.one (.bool v4)] [[.view]], .no, .no, .dec true] [4, 5, 6, 25] [2, 3, 4] ⟨tr, ⟨⟨⟨rfl, rfl, rfl, rfl, tr⟩, tr⟩, ok_impl_ValidClip K a1 v1 e2⟩, tr, ⟨tr, b3⟩, tr, tr, ⟨⟨⟨rfl, tr⟩, rfl, tr⟩, ok_impl_IsPairing K a0 a2 v4 e5⟩, tr, tr, ⟨tr, b6⟩, tr, tr, tr, tr, tr, tr, tr, tr, tr⟩ ⟨rfl, rfl⟩
      · replace e8 := some_eq e8
        subst e8
        exact AW.rA ⟨[(4, (vp 2 0)), (5, (vp 3 0)), (6, (vp 4 0)), (25, (vB ((a1.Tracks.length : Int) != (a0.Bones.length : Int))))], [(2, (.box [z6, (cI a1.Kind), (.c z1), (.c z2)])), (3, (.box [(.c z3)])), (4, (.box [z4, z4, .nils, .nils]))]⟩ (Tt ∧ ((((eI a1.Length) ∧ (eI a1.Kind) ∧ (Eqc z1) ∧ (Eqc z2) ∧ Tt) ∧ Tt) ∧ CallOK Try.prog 34 [.agg (cs_Clip a1)] [.one (.bool v1)]) ∧ Tt ∧ (Tt ∧ (!v1) = false) ∧ T2 (((((Eqc z7) ∧ Tt) ∧ (Eqc z3) ∧ Tt) ∧ CallOK Try.prog 10 [.agg (cs_Skeleton a0), .one z3] [.one (.bool v4)]) ∧ T2 ((Tt ∧ (!v4) = false) ∧ T4 (T4 Tt)))) [.no, .call [.agg (cs_Clip a1)] [.one (.bool v1)] [[.view]], .no, .dec false, .no, .no, .call [.agg (cs_Skeleton a0), .one z3] [.one (.bool v4)] [[.view]], .no, .no, .dec false] [4, 5, 6, 25] [2, 3, 4] ⟨tr, ⟨⟨⟨rfl, rfl, rfl, rfl, tr⟩, tr⟩, ok_impl_ValidClip K a1 v1 e2⟩, tr, ⟨tr, b3⟩, tr, tr, ⟨⟨⟨rfl, tr⟩, rfl, tr⟩, ok_impl_IsPairing K a0 a2 v4 e5⟩, tr, tr, ⟨tr, b6⟩, tr, tr, tr, tr, tr, tr, tr, tr, tr⟩ ⟨rfl, rfl⟩
  refine thenQ_normal ?_
  rcases ite2_cases h with ⟨b9, h⟩ | ⟨b9, h⟩
  · refine AW.cond_t rfl b9 ?_
    refine AW.sA ⟨[(6, (vp 4 0)), (7, (vB false))], [(4, (.box [z4, z4, .nils, .nils]))]⟩ (Tt ∧ T2 Tt) [] [6, 7] [4] ⟨tr, tr, tr, tr⟩ ?_
    refine AW.ret ?_
    refine thenQ_ret ?_
    replace h := some_eq h
    subst h
    exact ⟨.inr rfl, retOK_of [(.agg [z4, z4, .nils, .nils]), (.one (.c (.bool false)))] (by kernel_rfl) ⟨⟨⟨rfl, tr⟩, ⟨rfl, tr⟩, rfl, rfl, tr⟩, ⟨rfl, tr⟩, tr⟩ (of_decide_eq_true (by kernel_rfl))⟩
  · refine AW.cond_f rfl b9 ?_
    refine AW.skip ?_
    refine thenQ_normal ?_
    refine AW.seq ?_
    obtain ⟨v10, e11, h⟩ := bind_some h
    let z5 := (eI a1.Length) ∧ (eI a1.Kind) ∧ (Eqc z1) ∧ (Eqc z2) ∧ Tt
    let z9 : List CT := [.agg (cs_Clip v10.1), .one (.bool v10.2)]
    let z10 := xL 6 4 cs_RootKey v10.1.Roots
    refine AW.tA ⟨[(6, (vp 4 0)), (7, (vB v10.2))], [(4, (.box [(cI v10.1.Length), (cI v10.1.Kind), (xL 5 1 z8 v10.1.Tracks), z10])), (5, (oL 1 z8 v10.1.Tracks)), (6, (oL 4 cs_RootKey v10.1.Roots))]⟩ (T4 (((z5 ∧ (eI a1.Length) ∧ (36 = 36 ∧ 2 = 2 ∧ z5 ∧ ((Eqc z3) ∧ Tt) ∧ Tt) ∧ (Eqc (.fn 38 0 fun _ => .nilptr)) ∧ Tt) ∧ CallOK Try.prog 35 [.agg (cs_Clip a1), .one (.int .i64 a1.Length), .one (.fn 36 2 fun j => [(pl 4 cs_Clip a1), (pl 1 (csL 1 (csI .i64)) a2)].getD j .nilptr), .one (.fn 38 0 fun _ => .nilptr)] z9) ∧ T4 Tt)) [.no, .no, .no, .no, .call [.agg (cs_Clip a1), .one (.int .i64 a1.Length), .one (.fn 36 2 fun j => [(pl 4 cs_Clip a1), (pl 1 (csL 1 (csI .i64)) a2)].getD j .nilptr), .one (.fn 38 0 fun _ => .nilptr)] z9 [[.view, .view, .lst 5, .lst 6], [.view]]] [6, 7] [4, 5, 6] ⟨tr, tr, tr, tr, ⟨⟨⟨rfl, rfl, rfl, rfl, tr⟩, rfl, ⟨rfl, rfl, ⟨⟨rfl, rfl, rfl, rfl, tr⟩, ⟨rfl, tr⟩, tr⟩⟩, rfl, tr⟩, ok_impl_Clip_changed K a1 a1.Length a1 a2 v10 e11⟩, tr, tr, tr, tr, tr⟩ ?_
    refine AW.ret ?_
    replace h := some_eq h
    subst h
    exact ⟨.inr rfl, retOK_of [(.agg [(cI v10.1.Length), (cI v10.1.Kind), (xL 5 1 z8 v10.1.Tracks), z10]), (.one (.c (.bool v10.2)))] (by kernel_rfl) ⟨⟨⟨rfl, tr⟩, ⟨rfl, tr⟩, rfl, rfl, tr⟩, ⟨rfl, tr⟩, tr⟩ (of_decide_eq_true (by kernel_rfl))⟩

/-! spec.l02Same -/
def spec_l02Same (K : Nat) (a0 : Turn) (a1 : Turn) : Option (Bool) :=
  (spec_l01Same K a0.W a1.W).bind fun v1 => (ite2 (v1) ((spec_l01Same K a0.X a1.X).bind fun v4 => ite2 (v4) ((spec_l01Same K a0.Y a1.Y).bind fun v7 => ite2 (v7) ((spec_l01Same K a0.Z a1.Z).bind fun v10 => some v10) (some false)) (some false)) (some false)).bind fun j12 => some j12

theorem ok_spec_l02Same (K : Nat) (a0 : Turn) (a1 : Turn) (o : (Bool)) (h : spec_l02Same K a0 a1 = some o) : CallOK Try.prog 43 [.agg (cs_Turn a0), .agg (cs_Turn a1)] [.one (.bool o)] := by
  refine callOK_of_AW Try.func43 rfl (by kernel_rfl) (Nat.le_of_ble_eq_true (by kernel_rfl)) ?_
  intro w0
  unfold spec_l02Same at h
  refine AW.sA ⟨[(2, (vp 1 0)), (3, (vp 2 0))], [(1, (.box [(cF a0.W), (cF a0.X), (cF a0.Y), (cF a0.Z)])), (2, (.box [(cF a1.W), (cF a1.X), (cF a1.Y), (cF a1.Z)]))]⟩ (Tt ∧ T2 Tt) [.box 1, .box 2] [2, 3] [1, 2] ⟨tr, tr, tr, tr⟩ ?_
  refine AW.seq ?_
  obtain ⟨v1, e2, h⟩ := bind_some h
  obtain ⟨j12, e13, h⟩ := bind_some h
  refine AW.join1 (s2 := ⟨[(4, (vB j12))], []⟩) ?_ ?_
  · rcases ite2_cases e13 with ⟨b3, e13⟩ | ⟨b3, e13⟩
    · obtain ⟨v4, e5, e13⟩ := bind_some e13
      rcases ite2_cases e13 with ⟨b6, e13⟩ | ⟨b6, e13⟩
      · obtain ⟨v7, e8, e13⟩ := bind_some e13
        rcases ite2_cases e13 with ⟨b9, e13⟩ | ⟨b9, e13⟩
        · obtain ⟨v10, e11, e13⟩ := bind_some e13
          replace e13 := some_eq e13
          subst e13
          let z4 : List CT := [.one (.flt .f32 a0.W.bits), .one (.flt .f32 a1.W.bits)]
          let z5 : List CT := [.one (.flt .f32 a0.X.bits), .one (.flt .f32 a1.X.bits)]
          let z6 : List CT := [.one (.flt .f32 a0.Y.bits), .one (.flt .f32 a1.Y.bits)]
          let z7 : List CT := [.one (.flt .f32 a0.Z.bits), .one (.flt .f32 a1.Z.bits)]
          exact AW.rA ⟨[(4, (vB v10))], []⟩ (T4 ((((eF a0.W) ∧ (eF a1.W) ∧ Tt) ∧ CallOK Try.prog 50 z4 [.one (.bool v1)]) ∧ (Tt ∧ v1 = true) ∧ T4 ((((eF a0.X) ∧ (eF a1.X) ∧ Tt) ∧ CallOK Try.prog 50 z5 [.one (.bool v4)]) ∧ Tt ∧ (Tt ∧ v4 = true) ∧ T4 ((((eF a0.Y) ∧ (eF a1.Y) ∧ Tt) ∧ CallOK Try.prog 50 z6 [.one (.bool v7)]) ∧ Tt ∧ (Tt ∧ v7 = true) ∧ T4 ((((eF a0.Z) ∧ (eF a1.Z) ∧ Tt) ∧ CallOK Try.prog 50 z7 [.one (.bool v10)]) ∧ T2 Tt))))) [.no, .no, .no, .no, .call z4 [.one (.bool v1)] [[.view]], .dec true, .no, .no, .no, .no, .call z5 [.one (.bool v4)] [[.view]], .no, .dec true, .no, .no, .no, .no, .call z6 [.one (.bool v7)] [[.view]], .no, .dec true, .no, .no, .no, .no, .call z7 [.one (.bool v10)] [[.view]]] [4] [] ⟨tr, tr, tr, tr, ⟨⟨rfl, rfl, tr⟩, ok_spec_l01Same K a0.W a1.W v1 e2⟩, ⟨tr, b3⟩, tr, tr, tr, tr, ⟨⟨rfl, rfl, tr⟩, ok_spec_l01Same K a0.X a1.X v4 e5⟩, tr, ⟨tr, b6⟩, tr, tr, tr, tr, ⟨⟨rfl, rfl, tr⟩, ok_spec_l01Same K a0.Y a1.Y v7 e8⟩, tr, ⟨tr, b9⟩, tr, tr, tr, tr, ⟨⟨rfl, rfl, tr⟩, ok_spec_l01Same K a0.Z a1.Z v10 e11⟩, tr, tr, tr⟩ ⟨rfl, rfl⟩
        · replace e13 := some_eq e13
          subst e13
          let z8 : List CT := [.one (.flt .f32 a0.W.bits), .one (.flt .f32 a1.W.bits)]
          let z9 : List CT := [.one (.flt .f32 a0.X.bits), .one (.flt .f32 a1.X.bits)]
          let z10 : List CT := [.one (.flt .f32 a0.Y.bits), .one (.flt .f32 a1.Y.bits)]
          exact AW.rA ⟨[(4, (vB false))], []⟩ (T4 ((((eF a0.W) ∧ (eF a1.W) ∧ Tt) ∧ CallOK Try.prog 50 z8 [.one (.bool v1)]) ∧ (Tt ∧ v1 = true) ∧ T4 ((((eF a0.X) ∧ (eF a1.X) ∧ Tt) ∧ CallOK Try.prog 50 z9 [.one (.bool v4)]) ∧ Tt ∧ (Tt ∧ v4 = true) ∧ T4 ((((eF a0.Y) ∧ (eF a1.Y) ∧ Tt) ∧ CallOK Try.prog 50 z10 [.one (.bool v7)]) ∧ Tt ∧ (Tt ∧ v7 = false) ∧ Tt ∧ T2 (T4 Tt))))) [.no, .no, .no, .no, .call z8 [.one (.bool v1)] [[.view]], .dec true, .no, .no, .no, .no, .call z9 [.one (.bool v4)] [[.view]], .no, .dec true, .no, .no, .no, .no, .call z10 [.one (.bool v7)] [[.view]], .no, .dec false] [4] [] ⟨tr, tr, tr, tr, ⟨⟨rfl, rfl, tr⟩, ok_spec_l01Same K a0.W a1.W v1 e2⟩, ⟨tr, b3⟩, tr, tr, tr, tr, ⟨⟨rfl, rfl, tr⟩, ok_spec_l01Same K a0.X a1.X v4 e5⟩, tr, ⟨tr, b6⟩, tr, tr, tr, tr, ⟨⟨rfl, rfl, tr⟩, ok_spec_l01Same K a0.Y a1.Y v7 e8⟩, tr, ⟨tr, b9⟩, tr, tr, tr, tr, tr, tr, tr, tr⟩ ⟨rfl, rfl⟩
      · replace e13 := some_eq e13
        subst e13
        let z2 : List CT := [.one (.flt .f32 a0.W.bits), .one (.flt .f32 a1.W.bits)]
        let z3 : List CT := [.one (.flt .f32 a0.X.bits), .one (.flt .f32 a1.X.bits)]
        exact AW.rA ⟨[(4, (vB false))], []⟩ (T4 ((((eF a0.W) ∧ (eF a1.W) ∧ Tt) ∧ CallOK Try.prog 50 z2 [.one (.bool v1)]) ∧ (Tt ∧ v1 = true) ∧ T4 ((((eF a0.X) ∧ (eF a1.X) ∧ Tt) ∧ CallOK Try.prog 50 z3 [.one (.bool v4)]) ∧ Tt ∧ (Tt ∧ v4 = false) ∧ T2 (T4 (T4 (T4 Tt)))))) [.no, .no, .no, .no, .call z2 [.one (.bool v1)] [[.view]], .dec true, .no, .no, .no, .no, .call z3 [.one (.bool v4)] [[.view]], .no, .dec false] [4] [] ⟨tr, tr, tr, tr, ⟨⟨rfl, rfl, tr⟩, ok_spec_l01Same K a0.W a1.W v1 e2⟩, ⟨tr, b3⟩, tr, tr, tr, tr, ⟨⟨rfl, rfl, tr⟩, ok_spec_l01Same K a0.X a1.X v4 e5⟩, tr, ⟨tr, b6⟩, tr, tr, tr, tr, tr, tr, tr, tr, tr, tr, tr, tr, tr, tr, tr⟩ ⟨rfl, rfl⟩
    · replace e13 := some_eq e13
      subst e13
      let z1 : List CT := [.one (.flt .f32 a0.W.bits), .one (.flt .f32 a1.W.bits)]
      exact AW.rA ⟨[(4, (vB false))], []⟩ (T4 ((((eF a0.W) ∧ (eF a1.W) ∧ Tt) ∧ CallOK Try.prog 50 z1 [.one (.bool v1)]) ∧ (Tt ∧ v1 = false) ∧ Tt ∧ T4 (T4 (T4 (T4 (T4 Tt)))))) [.no, .no, .no, .no, .call z1 [.one (.bool v1)] [[.view]], .dec false] [4] [] ⟨tr, tr, tr, tr, ⟨⟨rfl, rfl, tr⟩, ok_spec_l01Same K a0.W a1.W v1 e2⟩, ⟨tr, b3⟩, tr, tr, tr, tr, tr, tr, tr, tr, tr, tr, tr, tr, tr, tr, tr, tr, tr, tr, tr, tr, tr, tr⟩ ⟨rfl, rfl⟩
  refine thenQ_normal ?_
  refine AW.ret ?_
  replace h := some_eq h
  subst h
  exact ⟨.inr rfl, retOK_of [(.one (.c (.bool j12)))] (by kernel_rfl) ⟨⟨rfl, tr⟩, tr⟩ (of_decide_eq_true (by kernel_rfl))⟩

/-! spec.l05Same -/
def spec_l05Same_l4 (K : Nat) (a0 : Clip) (a1 : Clip) (x8 : Int) : Nat → Int → Option ((Unit) ⊕ (Unit))
  | 0, _ => none
  | k + 1, x31 => ite2 ((decide (x31 < ((a0.Tracks.getD x8.toNat default).length : Int)))) (chk (0 ≤ x8 ∧ x8 < (a0.Tracks.length : Int)) (chk (0 ≤ x31 ∧ x31 < ((a0.Tracks.getD x8.toNat default).length : Int)) (chk (0 ≤ x8 ∧ x8 < (a1.Tracks.length : Int)) (chk (0 ≤ x31 ∧ x31 < ((a1.Tracks.getD x8.toNat default).length : Int)) ((ite2 (((((a0.Tracks.getD x8.toNat default).getD x31.toNat default).At) != (((a1.Tracks.getD x8.toNat default).getD x31.toNat default).At))) (some true) ((spec_l02Same K (((a0.Tracks.getD x8.toNat default).getD x31.toNat default).Turn) (((a1.Tracks.getD x8.toNat default).getD x31.toNat default).Turn)).bind fun v38 => some (!v38))).bind fun j40 => ite2 (j40) (some (.inr ())) (spec_l05Same_l4 K a0 a1 x8 k (IntKind.i64.wrap (x31 + (1 : Int))))))))) (some (.inl ()))

def spec_l05Same_l5 (K : Nat) (a0 : Clip) (a1 : Clip) : Nat → Int → Option (Bool)
  | 0, _ => none
  | k + 1, x44 => ite2 ((decide (x44 < (a0.Roots.length : Int)))) (chk (0 ≤ x44 ∧ x44 < (a0.Roots.length : Int)) (chk (0 ≤ x44 ∧ x44 < (a1.Roots.length : Int)) ((ite2 ((((a0.Roots.getD x44.toNat default).At) != ((a1.Roots.getD x44.toNat default).At))) (some true) ((spec_l01VSame K ((a0.Roots.getD x44.toNat default).Place) ((a1.Roots.getD x44.toNat default).Place)).bind fun v49 => some (!v49))).bind fun j51 => ite2 (j51) (some false) (spec_l05Same_l5 K a0 a1 k (IntKind.i64.wrap (x44 + (1 : Int))))))) (some true)

def spec_l05Same_l3 (K : Nat) (a0 : Clip) (a1 : Clip) : Nat → Int → Option (Bool)
  | 0, _ => none
  | k + 1, x8 => ite2 ((decide (x8 < (a0.Tracks.length : Int)))) (chk (0 ≤ x8 ∧ x8 < (a0.Tracks.length : Int)) (chk (0 ≤ x8 ∧ x8 < (a1.Tracks.length : Int)) (ite2 ((((a0.Tracks.getD x8.toNat default).length : Int) != ((a1.Tracks.getD x8.toNat default).length : Int))) (some false) ((spec_l05Same_l4 K a0 a1 x8 K (0 : Int)).bind (fun z0 => sumC z0 (fun j28 => spec_l05Same_l3 K a0 a1 k (IntKind.i64.wrap (x8 + (1 : Int)))) (fun j29 => some false)))))) (spec_l05Same_l5 K a0 a1 K (0 : Int))

def spec_l05Same (K : Nat) (a0 : Clip) (a1 : Clip) : Option (Bool) :=
  (ite2 ((a0.Length != a1.Length)) (some true) (ite2 ((a0.Kind != a1.Kind)) (some true) (ite2 (((a0.Tracks.length : Int) != (a1.Tracks.length : Int))) (some true) (some ((a0.Roots.length : Int) != (a1.Roots.length : Int)))))).bind fun j4 => ite2 (j4) (some false) (spec_l05Same_l3 K a0 a1 K (0 : Int))

theorem ok_spec_l05Same (K : Nat) (a0 : Clip) (a1 : Clip) (o : (Bool)) (h : spec_l05Same K a0 a1 = some o) : CallOK Try.prog 57 [.one (pl 4 cs_Clip a0), .one (pl 4 cs_Clip a1)] [.one (.bool o)] := by
  refine callOK_of_AW Try.func57 rfl (by kernel_rfl) (Nat.le_of_ble_eq_true (by kernel_rfl)) ?_
  intro w0
  unfold spec_l05Same at h
  let z2 := vc (pl 4 cs_Clip a0)
  let z3 := vc (pl 4 cs_Clip a1)
  refine AW.sA ⟨[(0, z2), (1, z3)], []⟩ (Tt ∧ Tt) [] [0, 1] [] ⟨tr, tr⟩ ?_
  refine AW.seq ?_
  refine AW.seq ?_
  obtain ⟨j4, e5, h⟩ := bind_some h
  refine AW.join1 (s2 := ⟨[(0, z2), (1, z3), (53, (vB j4))], []⟩) ?_ ?_
  · rcases ite2_cases e5 with ⟨b1, e5⟩ | ⟨b1, e5⟩
    · replace e5 := some_eq e5
      subst e5
      exact AW.dA ⟨[(0, z2), (1, z3), (53, (vB true))], []⟩ ((Tt ∧ T4 (T4 ((Tt ∧ (a0.Length != a1.Length) = true) ∧ T4 (T4 (T4 (T4 (T4 (T4 (T4 (T4 (T4 Tt))))))))))) ∧ (Tt)) 46 [.no, .no, .no, .no, .no, .no, .no, .no, .no, .dec true] [0, 1, 53] [] ⟨⟨tr, tr, tr, tr, tr, tr, tr, tr, tr, ⟨tr, b1⟩, tr, tr, tr, tr, tr, tr, tr, tr, tr, tr, tr, tr, tr, tr, tr, tr, tr, tr, tr, tr, tr, tr, tr, tr, tr, tr, tr, tr, tr, tr, tr, tr, tr, tr, tr, tr, tr⟩, tr⟩ ⟨rfl, rfl⟩
    · rcases ite2_cases e5 with ⟨b2, e5⟩ | ⟨b2, e5⟩
      · replace e5 := some_eq e5
        subst e5
        exact AW.dA ⟨[(0, z2), (1, z3), (53, (vB true))], []⟩ ((Tt ∧ T4 (T4 ((Tt ∧ (a0.Length != a1.Length) = false) ∧ T2 (T4 (T4 ((Tt ∧ (a0.Kind != a1.Kind) = true) ∧ Tt ∧ T4 (T4 (T4 (T4 (T4 (T4 Tt))))))))))) ∧ (Tt)) 46 [.no, .no, .no, .no, .no, .no, .no, .no, .no, .dec false, .no, .no, .no, .no, .no, .no, .no, .no, .no, .no, .dec true] [0, 1, 53] [] ⟨⟨tr, tr, tr, tr, tr, tr, tr, tr, tr, ⟨tr, b1⟩, tr, tr, tr, tr, tr, tr, tr, tr, tr, tr, ⟨tr, b2⟩, tr, tr, tr, tr, tr, tr, tr, tr, tr, tr, tr, tr, tr, tr, tr, tr, tr, tr, tr, tr, tr, tr, tr, tr, tr, tr⟩, tr⟩ ⟨rfl, rfl⟩
      · rcases ite2_cases e5 with ⟨b3, e5⟩ | ⟨b3, e5⟩
        · replace e5 := some_eq e5
          subst e5
          exact AW.dA ⟨[(0, z2), (1, z3), (53, (vB true))], []⟩ ((Tt ∧ T4 (T4 ((Tt ∧ (a0.Length != a1.Length) = false) ∧ T2 (T4 (T4 ((Tt ∧ (a0.Kind != a1.Kind) = false) ∧ T4 (T4 (T4 ((Tt ∧ ((a0.Tracks.length : Int) != (a1.Tracks.length : Int)) = true) ∧ T4 (T4 (T4 Tt))))))))))) ∧ (Tt)) 46 [.no, .no, .no, .no, .no, .no, .no, .no, .no, .dec false, .no, .no, .no, .no, .no, .no, .no, .no, .no, .no, .dec false, .no, .no, .no, .no, .no, .no, .no, .no, .no, .no, .no, .no, .dec true] [0, 1, 53] [] ⟨⟨tr, tr, tr, tr, tr, tr, tr, tr, tr, ⟨tr, b1⟩, tr, tr, tr, tr, tr, tr, tr, tr, tr, tr, ⟨tr, b2⟩, tr, tr, tr, tr, tr, tr, tr, tr, tr, tr, tr, tr, ⟨tr, b3⟩, tr, tr, tr, tr, tr, tr, tr, tr, tr, tr, tr, tr, tr⟩, tr⟩ ⟨rfl, rfl⟩
        · replace e5 := some_eq e5
          subst e5
          exact AW.dA ⟨[(0, z2), (1, z3), (53, (vB ((a0.Roots.length : Int) != (a1.Roots.length : Int))))], []⟩ ((Tt ∧ T4 (T4 ((Tt ∧ (a0.Length != a1.Length) = false) ∧ T2 (T4 (T4 ((Tt ∧ (a0.Kind != a1.Kind) = false) ∧ T4 (T4 (T4 ((Tt ∧ ((a0.Tracks.length : Int) != (a1.Tracks.length : Int)) = false) ∧ T4 (T4 (T4 Tt))))))))))) ∧ (Tt)) 46 [.no, .no, .no, .no, .no, .no, .no, .no, .no, .dec false, .no, .no, .no, .no, .no, .no, .no, .no, .no, .no, .dec false, .no, .no, .no, .no, .no, .no, .no, .no, .no, .no, .no, .no, .dec false] [0, 1, 53] [] ⟨⟨tr, tr, tr, tr, tr, tr, tr, tr, tr, ⟨tr, b1⟩, tr, tr, tr, tr, tr, tr, tr, tr, tr, tr, ⟨tr, b2⟩, tr, tr, tr, tr, tr, tr, tr, tr, tr, tr, tr, tr, ⟨tr, b3⟩, tr, tr, tr, tr, tr, tr, tr, tr, tr, tr, tr, tr, tr⟩, tr⟩ ⟨rfl, rfl⟩
  refine thenQ_normal ?_
  rcases ite2_cases h with ⟨b6, h⟩ | ⟨b6, h⟩
  · refine AW.cond_t rfl b6 ?_
    refine AW.sA ⟨[(4, (vB false))], []⟩ (Tt ∧ Tt) [] [4] [] ⟨tr, tr⟩ ?_
    refine AW.ret ?_
    refine thenQ_ret ?_
    replace h := some_eq h
    subst h
    exact ⟨.inr rfl, retOK_of [(.one (.c (.bool false)))] (by kernel_rfl) ⟨⟨rfl, tr⟩, tr⟩ (of_decide_eq_true (by kernel_rfl))⟩
  · refine AW.cond_f rfl b6 ?_
    refine AW.skip ?_
    refine thenQ_normal ?_
    refine AW.seq ?_
    let z4 := (a0.Tracks.length : Int)
    refine AW.sA ⟨[(0, z2), (1, z3), (58, (vI z4)), (59, (vI (0 : Int)))], []⟩ (T2 (T4 Tt)) [] [0, 1, 58, 59] [] ⟨tr, tr, tr, tr, tr, tr, tr⟩ ?_
    refine AW.block ?_
    refine AW.loopQ (σ := Nat × Int) (fun p => ⟨[(0, z2), (1, z3), (58, (vI z4)), (59, (vI p.2))], []⟩) (fun p => spec_l05Same_l3 K a0 a1 p.1 p.2 = some o) (fun p => p.1) (K, (0 : Int)) h ?_
    clear h
    rintro ⟨k, x8⟩ h
    replace h : spec_l05Same_l3 K a0 a1 k x8 = some o := h
    show AW _ _ (⟨[(0, z2), (1, z3), (58, (vI z4)), (59, (vI x8))], []⟩ : St) _
    obtain _ | k := k
    · rw [spec_l05Same_l3] at h; cases h
    rw [spec_l05Same_l3] at h
    refine AW.sA ⟨[(0, z2), (1, z3), (58, (vI z4)), (59, (vI x8)), (60, (vB (decide (x8 < z4))))], []⟩ (Tt ∧ Tt) [] [0, 1, 58, 59, 60] [] ⟨tr, tr⟩ ?_
    refine AW.seq ?_
    rcases ite2_cases h with ⟨b9, h⟩ | ⟨b9, h⟩
    · refine AW.cond_t rfl b9 ?_
      refine AW.skip ?_
      refine thenQ_normal ?_
      refine AW.seq ?_
      refine AW.block ?_
      refine AW.sA ⟨[(0, z2), (1, z3), (5, (vI x8)), (58, (vI z4)), (59, (vI x8))], []⟩ (T2 Tt) [] [0, 1, 5, 58, 59] [] ⟨tr, tr, tr⟩ ?_
      refine AW.seq ?_
      refine AW.seq ?_
      obtain ⟨c10, h⟩ := chk_some h
      obtain ⟨c11, h⟩ := chk_some h
      let z1 := a0.Tracks.getD x8.toNat default
      let z10 := a1.Tracks.getD x8.toNat default
      let z12 := 0 ≤ x8 ∧ x8 < (a1.Tracks.length : Int)
      let z13 := 0 ≤ x8 ∧ x8 < z4
      refine AW.dA ⟨[(0, z2), (1, z3), (5, (vI x8)), (58, (vI z4)), (59, (vI x8)), (78, (vB ((z1.length : Int) != (z10.length : Int))))], []⟩ ((Tt ∧ T4 (z13 ∧ Tt ∧ T2 (T4 (z12 ∧ Tt ∧ T2 Tt)))) ∧ (Tt)) 17 [] [0, 1, 5, 58, 59, 78] [] ⟨⟨tr, tr, tr, tr, tr, c10, tr, tr, tr, tr, tr, tr, tr, c11, tr, tr, tr, tr⟩, tr⟩ ?_
      refine thenQ_normal ?_
      rcases ite2_cases h with ⟨b12, h⟩ | ⟨b12, h⟩
      · refine AW.cond_t rfl b12 ?_
        refine AW.sA ⟨[(4, (vB false))], []⟩ (Tt ∧ Tt) [] [4] [] ⟨tr, tr⟩ ?_
        refine AW.ret ?_
        refine thenQ_ret ?_
        refine blockQ_ret ?_
        refine thenQ_ret ?_
        refine loopQ_ret ?_
        refine blockQ_ret ?_
        refine thenQ_ret ?_
        replace h := some_eq h
        subst h
        exact ⟨.inr rfl, retOK_of [(.one (.c (.bool false)))] (by kernel_rfl) ⟨⟨rfl, tr⟩, tr⟩ (of_decide_eq_true (by kernel_rfl))⟩
      · refine AW.cond_f rfl b12 ?_
        refine AW.skip ?_
        refine thenQ_normal ?_
        let z11 := vI (z1.length : Int)
        refine AW.sA ⟨[(0, z2), (1, z3), (5, (vI x8)), (58, (vI z4)), (59, (vI x8)), (86, z11), (87, (vI (0 : Int)))], []⟩ (Tt ∧ T4 (z13 ∧ Tt ∧ T2 Tt)) [] [0, 1, 5, 58, 59, 86, 87] [] ⟨tr, tr, tr, tr, tr, c10, tr, tr, tr, tr⟩ ?_
        obtain ⟨j27, e26, h⟩ := bind_some h
        refine AW.joinM (cx := ?cx) ((fun z0 => sumQ z0 (fun j28 => OnlyE ?cx .normal ⟨[(0, z2), (1, z3), (58, (vI z4)), (59, (vI x8))], []⟩) (fun j29 => OnlyE ?cx .ret ⟨[(4, (vB false))], []⟩)) j27) ?_ ?_
        · replace h := e26
          refine AW.block ?_
          refine AW.loopQ (σ := Nat × Int) (fun p => ⟨[(0, z2), (1, z3), (5, (vI x8)), (58, (vI z4)), (59, (vI x8)), (86, z11), (87, (vI p.2))], []⟩) (fun p => spec_l05Same_l4 K a0 a1 x8 p.1 p.2 = some j27) (fun p => p.1) (K, (0 : Int)) h ?_
          clear h
          rintro ⟨k, x31⟩ h
          replace h : spec_l05Same_l4 K a0 a1 x8 k x31 = some j27 := h
          show AW _ _ (⟨[(0, z2), (1, z3), (5, (vI x8)), (58, (vI z4)), (59, (vI x8)), (86, z11), (87, (vI x31))], []⟩ : St) _
          obtain _ | k := k
          · rw [spec_l05Same_l4] at h; cases h
          rw [spec_l05Same_l4] at h
          refine AW.sA ⟨[(0, z2), (1, z3), (5, (vI x8)), (58, (vI z4)), (59, (vI x8)), (86, z11), (87, (vI x31)), (88, (vB (decide (x31 < (z1.length : Int)))))], []⟩ (Tt ∧ Tt) [] [0, 1, 5, 58, 59, 86, 87, 88] [] ⟨tr, tr⟩ ?_
          refine AW.seq ?_
          rcases ite2_cases h with ⟨b32, h⟩ | ⟨b32, h⟩
          · refine AW.cond_t rfl b32 ?_
            refine AW.skip ?_
            refine thenQ_normal ?_
            refine AW.seq ?_
            refine AW.block ?_
            refine AW.sA ⟨[(0, z2), (1, z3), (5, (vI x8)), (6, (vI x31)), (58, (vI z4)), (59, (vI x8)), (86, z11), (87, (vI x31))], []⟩ (T2 Tt) [] [0, 1, 5, 6, 58, 59, 86, 87] [] ⟨tr, tr, tr⟩ ?_
            refine AW.seq ?_
            obtain ⟨c33, h⟩ := chk_some h
            obtain ⟨c34, h⟩ := chk_some h
            obtain ⟨c35, h⟩ := chk_some h
            obtain ⟨c36, h⟩ := chk_some h
            obtain ⟨j40, e41, h⟩ := bind_some h
            refine AW.join1 (s2 := ⟨[(0, z2), (1, z3), (5, (vI x8)), (58, (vI z4)), (59, (vI x8)), (86, z11), (87, (vI x31)), (138, (vB j40))], []⟩) ?_ ?_
            · rcases ite2_cases e41 with ⟨b37, e41⟩ | ⟨b37, e41⟩
              · replace e41 := some_eq e41
                subst e41
                exact AW.dA ⟨[(0, z2), (1, z3), (5, (vI x8)), (58, (vI z4)), (59, (vI x8)), (86, z11), (87, (vI x31)), (138, (vB true))], []⟩ ((Tt ∧ T4 (z13 ∧ T2 ((0 ≤ x31 ∧ x31 < (z1.length : Int)) ∧ Tt ∧ T2 (T4 (z12 ∧ T2 ((0 ≤ x31 ∧ x31 < (z10.length : Int)) ∧ Tt ∧ T2 ((Tt ∧ (((z1.getD x31.toNat default).At) != ((z10.getD x31.toNat default).At)) = true) ∧ Tt ∧ T4 (T4 (T4 (T4 (T4 (T4 Tt)))))))))))) ∧ (Tt)) 49 [.no, .no, .no, .no, .no, .no, .no, .no, .no, .no, .no, .no, .no, .no, .no, .no, .no, .no, .no, .no, .no, .no, .no, .dec true] [0, 1, 5, 58, 59, 86, 87, 138] [] ⟨⟨tr, tr, tr, tr, tr, c33, tr, tr, c34, tr, tr, tr, tr, tr, tr, tr, c35, tr, tr, c36, tr, tr, tr, ⟨tr, b37⟩, tr, tr, tr, tr, tr, tr, tr, tr, tr, tr, tr, tr, tr, tr, tr, tr, tr, tr, tr, tr, tr, tr, tr, tr, tr, tr⟩, tr⟩ ⟨rfl, rfl⟩
              · obtain ⟨v38, e39, e41⟩ := bind_some e41
                replace e41 := some_eq e41
                subst e41
                let z5 := z10.getD x31.toNat default
                let z9 := (z1.getD x31.toNat default).Turn
                exact AW.dA ⟨[(0, z2), (1, z3), (5, (vI x8)), (58, (vI z4)), (59, (vI x8)), (86, z11), (87, (vI x31)), (138, (vB (!v38)))], []⟩ ((Tt ∧ T4 (z13 ∧ T2 ((0 ≤ x31 ∧ x31 < (z1.length : Int)) ∧ Tt ∧ T2 (T4 (z12 ∧ T2 ((0 ≤ x31 ∧ x31 < (z10.length : Int)) ∧ Tt ∧ T2 ((Tt ∧ (((z1.getD x31.toNat default).At) != (z5.At)) = false) ∧ Tt ∧ T4 (z13 ∧ T2 ((0 ≤ x31 ∧ x31 < (z1.length : Int)) ∧ Tt ∧ T2 (T4 (z12 ∧ T2 ((0 ≤ x31 ∧ x31 < (z10.length : Int)) ∧ T2 (((((eF (z9.W)) ∧ (eF (z9.X)) ∧ (eF (z9.Y)) ∧ (eF (z9.Z)) ∧ Tt) ∧ ((eF ((z5.Turn).W)) ∧ (eF ((z5.Turn).X)) ∧ (eF ((z5.Turn).Y)) ∧ (eF ((z5.Turn).Z)) ∧ Tt) ∧ Tt) ∧ CallOK Try.prog 43 [.agg (cs_Turn z9), .agg (cs_Turn (z5.Turn))] [.one (.bool v38)]) ∧ T2 Tt))))))))))))) ∧ (Tt)) 49 [.no, .no, .no, .no, .no, .no, .no, .no, .no, .no, .no, .no, .no, .no, .no, .no, .no, .no, .no, .no, .no, .no, .no, .dec false, .no, .no, .no, .no, .no, .no, .no, .no, .no, .no, .no, .no, .no, .no, .no, .no, .no, .no, .no, .no, .no, .no, .call [.agg (cs_Turn z9), .agg (cs_Turn (z5.Turn))] [.one (.bool v38)] [[.view]]] [0, 1, 5, 58, 59, 86, 87, 138] [] ⟨⟨tr, tr, tr, tr, tr, c33, tr, tr, c34, tr, tr, tr, tr, tr, tr, tr, c35, tr, tr, c36, tr, tr, tr, ⟨tr, b37⟩, tr, tr, tr, tr, tr, c33, tr, tr, c34, tr, tr, tr, tr, tr, tr, tr, c35, tr, tr, c36, tr, tr, ⟨⟨⟨rfl, rfl, rfl, rfl, tr⟩, ⟨rfl, rfl, rfl, rfl, tr⟩, tr⟩, ok_spec_l02Same K z9 (z5.Turn) v38 e39⟩, tr, tr, tr⟩, tr⟩ ⟨rfl, rfl⟩
            refine thenQ_normal ?_
            rcases ite2_cases h with ⟨b42, h⟩ | ⟨b42, h⟩
            · refine AW.cond_t rfl b42 ?_
              refine AW.sA ⟨[(4, (vB false))], []⟩ (Tt ∧ Tt) [] [4] [] ⟨tr, tr⟩ ?_
              refine AW.ret ?_
              refine blockQ_ret ?_
              refine thenQ_ret ?_
              refine loopQ_ret ?_
              refine blockQ_ret ?_
              replace h := some_eq h
              subst h
              exact ⟨rfl, Sub.keep [4] [] (by kernel_rfl) (by kernel_rfl)⟩
            · refine AW.cond_f rfl b42 ?_
              refine AW.skip ?_
              refine blockQ_normal ?_
              refine thenQ_normal ?_
              refine AW.rA ⟨[(0, z2), (1, z3), (5, (vI x8)), (58, (vI z4)), (59, (vI x8)), (86, z11), (87, (vI (IntKind.i64.wrap (x31 + (1 : Int)))))], []⟩ (T2 Tt) [] [0, 1, 5, 58, 59, 86, 87] [] ⟨tr, tr, tr⟩ ?_
              exact loopQ_normal (k, (IntKind.i64.wrap (x31 + (1 : Int)))) h (Nat.lt_succ_self k) (Sub.keep [0, 1, 5, 58, 59, 86, 87] [] (by kernel_rfl) (by kernel_rfl))
          · refine AW.cond_f rfl b32 ?_
            refine AW.exit ?_
            refine thenQ_exit ?_
            refine loopQ_exit ?_
            refine blockQ_exit ?_
            replace h := some_eq h
            subst h
            exact ⟨rfl, Sub.keep [0, 1, 58, 59] [] (by kernel_rfl) (by kernel_rfl)⟩
        clear e26
        intro ex1 st1 hq
        obtain j28 | j29 := j27
        · replace h := sumC_inl h
          obtain ⟨he, hs⟩ := hq
          subst he
          refine ⟨⟨[(0, z2), (1, z3), (58, (vI z4)), (59, (vI x8))], []⟩, hs, ?_⟩
          clear hs st1
          refine blockQ_normal ?_
          refine thenQ_normal ?_
          refine AW.rA ⟨[(0, z2), (1, z3), (58, (vI z4)), (59, (vI (IntKind.i64.wrap (x8 + (1 : Int)))))], []⟩ (T2 Tt) [] [0, 1, 58, 59] [] ⟨tr, tr, tr⟩ ?_
          exact loopQ_normal (k, (IntKind.i64.wrap (x8 + (1 : Int)))) h (Nat.lt_succ_self k) (Sub.keep [0, 1, 58, 59] [] (by kernel_rfl) (by kernel_rfl))
        · replace h := sumC_inr h
          obtain ⟨he, hs⟩ := hq
          subst he
          refine ⟨⟨[(4, (vB false))], []⟩, hs, ?_⟩
          clear hs st1
          refine blockQ_ret ?_
          refine thenQ_ret ?_
          refine loopQ_ret ?_
          refine blockQ_ret ?_
          refine thenQ_ret ?_
          replace h := some_eq h
          subst h
          exact ⟨.inr rfl, retOK_of [(.one (.c (.bool false)))] (by kernel_rfl) ⟨⟨rfl, tr⟩, tr⟩ (of_decide_eq_true (by kernel_rfl))⟩
    · refine AW.cond_f rfl b9 ?_
      refine AW.exit ?_
      refine thenQ_exit ?_
      refine loopQ_exit ?_
      refine blockQ_exit ?_
      refine thenQ_normal ?_
      refine AW.seq ?_
      let z6 := vI (a0.Roots.length : Int)
      refine AW.sA ⟨[(0, z2), (1, z3), (145, z6), (146, (vI (0 : Int)))], []⟩ (T2 (T4 Tt)) [] [0, 1, 145, 146] [] ⟨tr, tr, tr, tr, tr, tr, tr⟩ ?_
      refine AW.block ?_
      refine AW.loopQ (σ := Nat × Int) (fun p => ⟨[(0, z2), (1, z3), (145, z6), (146, (vI p.2))], []⟩) (fun p => spec_l05Same_l5 K a0 a1 p.1 p.2 = some o) (fun p => p.1) (K, (0 : Int)) h ?_
      clear h
      rintro ⟨k, x44⟩ h
      replace h : spec_l05Same_l5 K a0 a1 k x44 = some o := h
      show AW _ _ (⟨[(0, z2), (1, z3), (145, z6), (146, (vI x44))], []⟩ : St) _
      obtain _ | k := k
      · rw [spec_l05Same_l5] at h; cases h
      rw [spec_l05Same_l5] at h
      refine AW.sA ⟨[(0, z2), (1, z3), (145, z6), (146, (vI x44)), (147, (vB (decide (x44 < (a0.Roots.length : Int)))))], []⟩ (Tt ∧ Tt) [] [0, 1, 145, 146, 147] [] ⟨tr, tr⟩ ?_
      refine AW.seq ?_
      rcases ite2_cases h with ⟨b45, h⟩ | ⟨b45, h⟩
      · refine AW.cond_t rfl b45 ?_
        refine AW.skip ?_
        refine thenQ_normal ?_
        refine AW.seq ?_
        refine AW.block ?_
        refine AW.sA ⟨[(0, z2), (1, z3), (7, (vI x44)), (145, z6), (146, (vI x44))], []⟩ (T2 Tt) [] [0, 1, 7, 145, 146] [] ⟨tr, tr, tr⟩ ?_
        refine AW.seq ?_
        obtain ⟨c46, h⟩ := chk_some h
        obtain ⟨c47, h⟩ := chk_some h
        obtain ⟨j51, e52, h⟩ := bind_some h
        refine AW.join1 (s2 := ⟨[(0, z2), (1, z3), (145, z6), (146, (vI x44)), (185, (vB j51))], []⟩) ?_ ?_
        · rcases ite2_cases e52 with ⟨b48, e52⟩ | ⟨b48, e52⟩
          · replace e52 := some_eq e52
            subst e52
            exact AW.dA ⟨[(0, z2), (1, z3), (145, z6), (146, (vI x44)), (185, (vB true))], []⟩ ((Tt ∧ T4 ((0 ≤ x44 ∧ x44 < (a0.Roots.length : Int)) ∧ Tt ∧ T2 (T4 ((0 ≤ x44 ∧ x44 < (a1.Roots.length : Int)) ∧ Tt ∧ T2 ((Tt ∧ (((a0.Roots.getD x44.toNat default).At) != ((a1.Roots.getD x44.toNat default).At)) = true) ∧ Tt ∧ T2 (T4 (T4 (T4 (T4 Tt))))))))) ∧ (Tt)) 37 [.no, .no, .no, .no, .no, .no, .no, .no, .no, .no, .no, .no, .no, .no, .no, .no, .no, .dec true] [0, 1, 145, 146, 185] [] ⟨⟨tr, tr, tr, tr, tr, c46, tr, tr, tr, tr, tr, tr, tr, c47, tr, tr, tr, ⟨tr, b48⟩, tr, tr, tr, tr, tr, tr, tr, tr, tr, tr, tr, tr, tr, tr, tr, tr, tr, tr, tr, tr⟩, tr⟩ ⟨rfl, rfl⟩
          · obtain ⟨v49, e50, e52⟩ := bind_some e52
            replace e52 := some_eq e52
            subst e52
            let z7 := (a0.Roots.getD x44.toNat default).Place
            let z8 := (a1.Roots.getD x44.toNat default).Place
            let z14 := 0 ≤ x44 ∧ x44 < (a0.Roots.length : Int)
            let z15 := 0 ≤ x44 ∧ x44 < (a1.Roots.length : Int)
            exact AW.dA ⟨[(0, z2), (1, z3), (145, z6), (146, (vI x44)), (185, (vB (!v49)))], []⟩ ((Tt ∧ T4 (z14 ∧ Tt ∧ T2 (T4 (z15 ∧ Tt ∧ T2 ((Tt ∧ (((a0.Roots.getD x44.toNat default).At) != ((a1.Roots.getD x44.toNat default).At)) = false) ∧ Tt ∧ T4 (z14 ∧ Tt ∧ T2 (T4 (z15 ∧ T2 (((((eF (z7.X)) ∧ (eF (z7.Y)) ∧ (eF (z7.Z)) ∧ Tt) ∧ ((eF (z8.X)) ∧ (eF (z8.Y)) ∧ (eF (z8.Z)) ∧ Tt) ∧ Tt) ∧ CallOK Try.prog 32 [.agg (cs_Vector z7), .agg (cs_Vector z8)] [.one (.bool v49)]) ∧ T2 Tt))))))))) ∧ (Tt)) 37 [.no, .no, .no, .no, .no, .no, .no, .no, .no, .no, .no, .no, .no, .no, .no, .no, .no, .dec false, .no, .no, .no, .no, .no, .no, .no, .no, .no, .no, .no, .no, .no, .no, .no, .no, .call [.agg (cs_Vector z7), .agg (cs_Vector z8)] [.one (.bool v49)] [[.view]]] [0, 1, 145, 146, 185] [] ⟨⟨tr, tr, tr, tr, tr, c46, tr, tr, tr, tr, tr, tr, tr, c47, tr, tr, tr, ⟨tr, b48⟩, tr, tr, tr, tr, tr, c46, tr, tr, tr, tr, tr, tr, tr, c47, tr, tr, ⟨⟨⟨rfl, rfl, rfl, tr⟩, ⟨rfl, rfl, rfl, tr⟩, tr⟩, ok_spec_l01VSame K z7 z8 v49 e50⟩, tr, tr, tr⟩, tr⟩ ⟨rfl, rfl⟩
        refine thenQ_normal ?_
        rcases ite2_cases h with ⟨b53, h⟩ | ⟨b53, h⟩
        · refine AW.cond_t rfl b53 ?_
          refine AW.sA ⟨[(4, (vB false))], []⟩ (Tt ∧ Tt) [] [4] [] ⟨tr, tr⟩ ?_
          refine AW.ret ?_
          refine blockQ_ret ?_
          refine thenQ_ret ?_
          refine loopQ_ret ?_
          refine blockQ_ret ?_
          refine thenQ_ret ?_
          replace h := some_eq h
          subst h
          exact ⟨.inr rfl, retOK_of [(.one (.c (.bool false)))] (by kernel_rfl) ⟨⟨rfl, tr⟩, tr⟩ (of_decide_eq_true (by kernel_rfl))⟩
        · refine AW.cond_f rfl b53 ?_
          refine AW.skip ?_
          refine blockQ_normal ?_
          refine thenQ_normal ?_
          let z16 := IntKind.i64.wrap (x44 + (1 : Int))
          refine AW.rA ⟨[(0, z2), (1, z3), (145, z6), (146, (vI z16))], []⟩ (T2 Tt) [] [0, 1, 145, 146] [] ⟨tr, tr, tr⟩ ?_
          exact loopQ_normal (k, z16) h (Nat.lt_succ_self k) (Sub.keep [0, 1, 145, 146] [] (by kernel_rfl) (by kernel_rfl))
      · refine AW.cond_f rfl b45 ?_
        refine AW.exit ?_
        refine thenQ_exit ?_
        refine loopQ_exit ?_
        refine blockQ_exit ?_
        refine thenQ_normal ?_
        refine AW.sA ⟨[(4, (vB true))], []⟩ (Tt ∧ Tt) [] [4] [] ⟨tr, tr⟩ ?_
        refine AW.ret ?_
        replace h := some_eq h
        subst h
        exact ⟨.inr rfl, retOK_of [(.one (.c (.bool true)))] (by kernel_rfl) ⟨⟨rfl, tr⟩, tr⟩ (of_decide_eq_true (by kernel_rfl))⟩

/-! spec.SameClip -/
def spec_SameClip (K : Nat) (a0 : Clip) (a1 : Clip) : Option (Bool) :=
  (spec_l05Same K a0 a1).bind fun v1 => some v1

theorem ok_spec_SameClip (K : Nat) (a0 : Clip) (a1 : Clip) (o : (Bool)) (h : spec_SameClip K a0 a1 = some o) : CallOK Try.prog 40 [.agg (cs_Clip a0), .agg (cs_Clip a1)] [.one (.bool o)] := by
  refine callOK_of_AW Try.func40 rfl (by kernel_rfl) (Nat.le_of_ble_eq_true (by kernel_rfl)) ?_
  intro w0
  unfold spec_SameClip at h
  refine AW.sC (Tt ∧ T2 Tt) [.box 1, .box 2] [2, 3] [1, 2] ⟨tr, tr, tr, tr⟩ ?_
  refine AW.seq ?_
  obtain ⟨v1, e2, h⟩ := bind_some h
  let z1 : List CT := [.one (pl 4 cs_Clip a0), .one (pl 4 cs_Clip a1)]
  refine AW.tA ⟨[(4, (vB v1))], []⟩ ((((0 = 0 ∧ (eI a0.Length) ∧ (eI a0.Kind) ∧ (Eqc (sl 1 (csL 5 cs_Key) a0.Tracks)) ∧ (Eqc (sl 4 cs_RootKey a0.Roots)) ∧ Tt) ∧ (0 = 0 ∧ (eI a1.Length) ∧ (eI a1.Kind) ∧ (Eqc (sl 1 (csL 5 cs_Key) a1.Tracks)) ∧ (Eqc (sl 4 cs_RootKey a1.Roots)) ∧ Tt) ∧ Tt) ∧ CallOK Try.prog 57 z1 [.one (.bool v1)]) ∧ Tt ∧ Tt) [.call z1 [.one (.bool v1)] [[.view]]] [4] [] ⟨⟨⟨⟨rfl, rfl, rfl, rfl, rfl, tr⟩, ⟨rfl, rfl, rfl, rfl, rfl, tr⟩, tr⟩, ok_spec_l05Same K a0 a1 v1 e2⟩, tr, tr⟩ ?_
  refine AW.ret ?_
  replace h := some_eq h
  subst h
  exact ⟨.inr rfl, retOK_of [(.one (.c (.bool v1)))] (by kernel_rfl) ⟨⟨rfl, tr⟩, tr⟩ (of_decide_eq_true (by kernel_rfl))⟩

/-! laws.b10Clips -/
def laws_b10Clips (K : Nat) (a0 : Clip) (a1 : Clip) : Option (Bool) :=
  (spec_SameClip K a0 a1).bind fun v1 => some v1

theorem ok_laws_b10Clips (K : Nat) (a0 : Clip) (a1 : Clip) (o : (Bool)) (h : laws_b10Clips K a0 a1 = some o) : CallOK Try.prog 16 [.agg (cs_Clip a0), .agg (cs_Clip a1)] [.one (.bool o)] := by
  refine callOK_of_AW Try.func16 rfl (by kernel_rfl) (Nat.le_of_ble_eq_true (by kernel_rfl)) ?_
  intro w0
  unfold laws_b10Clips at h
  refine AW.sC (Tt ∧ T2 Tt) [.box 1, .box 2] [2, 3] [1, 2] ⟨tr, tr, tr, tr⟩ ?_
  refine AW.seq ?_
  obtain ⟨v1, e2, h⟩ := bind_some h
  let z1 : List CT := [.agg (cs_Clip a0), .agg (cs_Clip a1)]
  refine AW.tA ⟨[(4, (vB v1))], []⟩ (T2 (((((eI a0.Length) ∧ (eI a0.Kind) ∧ (Eqc (sl 1 (csL 5 cs_Key) a0.Tracks)) ∧ (Eqc (sl 4 cs_RootKey a0.Roots)) ∧ Tt) ∧ ((eI a1.Length) ∧ (eI a1.Kind) ∧ (Eqc (sl 1 (csL 5 cs_Key) a1.Tracks)) ∧ (Eqc (sl 4 cs_RootKey a1.Roots)) ∧ Tt) ∧ Tt) ∧ CallOK Try.prog 40 z1 [.one (.bool v1)]) ∧ Tt ∧ Tt)) [.no, .no, .call z1 [.one (.bool v1)] [[.view]]] [4] [] ⟨tr, tr, ⟨⟨⟨rfl, rfl, rfl, rfl, tr⟩, ⟨rfl, rfl, rfl, rfl, tr⟩, tr⟩, ok_spec_SameClip K a0 a1 v1 e2⟩, tr, tr⟩ ?_
  refine AW.ret ?_
  replace h := some_eq h
  subst h
  exact ⟨.inr rfl, retOK_of [(.one (.c (.bool v1)))] (by kernel_rfl) ⟨⟨rfl, tr⟩, tr⟩ (of_decide_eq_true (by kernel_rfl))⟩

/-! impl.hasTime -/
def impl_hasTime (K : Nat) (a0 : Clip) (a1 : Int) : Option (Bool) :=
  (impl_ValidClip K a0).bind fun v1 => (ite2 (v1) (ite2 ((decide (a1 ≥ (0 : Int)))) (some (decide (a1 ≤ a0.Length))) (some false)) (some false)).bind fun j5 => some j5

theorem ok_impl_hasTime (K : Nat) (a0 : Clip) (a1 : Int) (o : (Bool)) (h : impl_hasTime K a0 a1 = some o) : CallOK Try.prog 41 [.agg (cs_Clip a0), .one (.int .i64 a1)] [.one (.bool o)] := by
  refine callOK_of_AW Try.func41 rfl (by kernel_rfl) (Nat.le_of_ble_eq_true (by kernel_rfl)) ?_
  intro w0
  unfold impl_hasTime at h
  let z1 := sl 1 (csL 5 cs_Key) a0.Tracks
  let z2 := sl 4 cs_RootKey a0.Roots
  refine AW.sA ⟨[(1, (vI a1)), (2, (vp 1 0))], [(1, (.box [(cI a0.Length), (cI a0.Kind), (.c z1), (.c z2)]))]⟩ (T2 Tt) [.box 1] [1, 2] [1] ⟨tr, tr, tr⟩ ?_
  refine AW.seq ?_
  obtain ⟨v1, e2, h⟩ := bind_some h
  obtain ⟨j5, e6, h⟩ := bind_some h
  refine AW.join1 (s2 := ⟨[(4, (vB j5))], []⟩) ?_ ?_
  · rcases ite2_cases e6 with ⟨b3, e6⟩ | ⟨b3, e6⟩
    · rcases ite2_cases e6 with ⟨b4, e6⟩ | ⟨b4, e6⟩
      · replace e6 := some_eq e6
        subst e6
        exact AW.rA ⟨[(4, (vB (decide (a1 ≤ a0.Length))))], []⟩ (Tt ∧ ((((eI a0.Length) ∧ (eI a0.Kind) ∧ (Eqc z1) ∧ (Eqc z2) ∧ Tt) ∧ Tt) ∧ CallOK Try.prog 34 [.agg (cs_Clip a0)] [.one (.bool v1)]) ∧ (Tt ∧ v1 = true) ∧ Tt ∧ T2 ((Tt ∧ (decide (a1 ≥ (0 : Int))) = true) ∧ T2 (T4 Tt))) [.no, .call [.agg (cs_Clip a0)] [.one (.bool v1)] [[.view]], .dec true, .no, .no, .no, .dec true] [4] [] ⟨tr, ⟨⟨⟨rfl, rfl, rfl, rfl, tr⟩, tr⟩, ok_impl_ValidClip K a0 v1 e2⟩, ⟨tr, b3⟩, tr, tr, tr, ⟨tr, b4⟩, tr, tr, tr, tr, tr, tr, tr⟩ ⟨rfl, rfl⟩
      · replace e6 := some_eq e6
        subst e6
        exact AW.rA ⟨[(4, (vB false))], []⟩ (Tt ∧ ((((eI a0.Length) ∧ (eI a0.Kind) ∧ (Eqc z1) ∧ (Eqc z2) ∧ Tt) ∧ Tt) ∧ CallOK Try.prog 34 [.agg (cs_Clip a0)] [.one (.bool v1)]) ∧ (Tt ∧ v1 = true) ∧ Tt ∧ T2 ((Tt ∧ (decide (a1 ≥ (0 : Int))) = false) ∧ T2 (T4 Tt))) [.no, .call [.agg (cs_Clip a0)] [.one (.bool v1)] [[.view]], .dec true, .no, .no, .no, .dec false] [4] [] ⟨tr, ⟨⟨⟨rfl, rfl, rfl, rfl, tr⟩, tr⟩, ok_impl_ValidClip K a0 v1 e2⟩, ⟨tr, b3⟩, tr, tr, tr, ⟨tr, b4⟩, tr, tr, tr, tr, tr, tr, tr⟩ ⟨rfl, rfl⟩
    · replace e6 := some_eq e6
      subst e6
      exact AW.rA ⟨[(4, (vB false))], []⟩ (Tt ∧ ((((eI a0.Length) ∧ (eI a0.Kind) ∧ (Eqc z1) ∧ (Eqc z2) ∧ Tt) ∧ Tt) ∧ CallOK Try.prog 34 [.agg (cs_Clip a0)] [.one (.bool v1)]) ∧ (Tt ∧ v1 = false) ∧ T2 (T4 (T4 Tt))) [.no, .call [.agg (cs_Clip a0)] [.one (.bool v1)] [[.view]], .dec false] [4] [] ⟨tr, ⟨⟨⟨rfl, rfl, rfl, rfl, tr⟩, tr⟩, ok_impl_ValidClip K a0 v1 e2⟩, ⟨tr, b3⟩, tr, tr, tr, tr, tr, tr, tr, tr, tr, tr, tr⟩ ⟨rfl, rfl⟩
  refine thenQ_normal ?_
  refine AW.ret ?_
  replace h := some_eq h
  subst h
  exact ⟨.inr rfl, retOK_of [(.one (.c (.bool j5)))] (by kernel_rfl) ⟨⟨rfl, tr⟩, tr⟩ (of_decide_eq_true (by kernel_rfl))⟩

/-! impl.rootTrack$2 -/
def impl_rootTrack_2 (_K : Nat) (a0 : RootKey) (a1 : Int) : Option (RootKey) :=
  some (RootKey.mk a1 a0.Place)

theorem ok_impl_rootTrack_2 (K : Nat) (a0 : RootKey) (a1 : Int) (o : (RootKey)) (h : impl_rootTrack_2 K a0 a1 = some o) : CallOK Try.prog 74 [.agg (cs_RootKey a0), .one (.int .i64 a1)] [.agg (cs_RootKey o)] := by
  refine callOK_of_AW Try.func74 rfl (by kernel_rfl) (Nat.le_of_ble_eq_true (by kernel_rfl)) ?_
  intro w0
  unfold impl_rootTrack_2 at h
  refine AW.sC (T2 Tt) [.box 1, .box 2] [1, 2, 4] [1, 2] ⟨tr, tr, tr⟩ ?_
  refine AW.sC (Tt ∧ T2 Tt) [] [2, 4] [1, 2] ⟨tr, tr, tr, tr⟩ ?_
  refine AW.sA ⟨[(4, (vp 2 0))], [(2, (.box [(cI a1), (cF a0.Place.X), (cF a0.Place.Y), (cF a0.Place.Z)]))]⟩ (T2 Tt) [] [4] [2] ⟨tr, tr, tr⟩ ?_
  refine AW.ret ?_
  replace h := some_eq h
  subst h
  exact ⟨.inr rfl, retOK_of [(.agg [(cI a1), (cF a0.Place.X), (cF a0.Place.Y), (cF a0.Place.Z)])] (by kernel_rfl) ⟨⟨⟨rfl, tr⟩, ⟨rfl, tr⟩, ⟨rfl, tr⟩, ⟨rfl, tr⟩, tr⟩, tr⟩ (of_decide_eq_true (by kernel_rfl))⟩

/-! impl.share -/
def impl_share (_K : Nat) (a0 : Int) (a1 : Int) (a2 : Int) : Option (F32) :=
  some ((Fl.ofInt .f32 (IntKind.i64.wrap (a1 - a0))).div (Fl.ofInt .f32 (IntKind.i64.wrap (a2 - a0))))

theorem ok_impl_share (K : Nat) (a0 : Int) (a1 : Int) (a2 : Int) (o : (F32)) (h : impl_share K a0 a1 a2 = some o) : CallOK Try.prog 78 [.one (.int .i64 a0), .one (.int .i64 a1), .one (.int .i64 a2)] [.one (.flt .f32 o.bits)] := by
  refine callOK_of_AW Try.func78 rfl (by kernel_rfl) (Nat.le_of_ble_eq_true (by kernel_rfl)) ?_
  intro w0
  unfold impl_share at h
  refine AW.sC (Tt ∧ Tt) [] [0, 1, 2] [] ⟨tr, tr⟩ ?_
  let z1 := (Fl.ofInt .f32 (IntKind.i64.wrap (a1 - a0))).div (Fl.ofInt .f32 (IntKind.i64.wrap (a2 - a0)))
  refine AW.sA ⟨[(6, (vc (.flt .f32 z1.bits)))], []⟩ (T2 (T4 (T4 Tt))) [] [6] [] ⟨tr, tr, tr, tr, tr, tr, tr, tr, tr, tr, tr⟩ ?_
  refine AW.ret ?_
  replace h := some_eq h
  subst h
  exact ⟨.inr rfl, retOK_of [(.one (cF z1))] (by kernel_rfl) ⟨⟨rfl, tr⟩, tr⟩ (of_decide_eq_true (by kernel_rfl))⟩

/-! impl.LessVectors -/
def impl_LessVectors (_K : Nat) (a0 : Vector) (a1 : Vector) : Option (Vector) :=
  some (Vector.mk (a0.X.sub a1.X) (a0.Y.sub a1.Y) (a0.Z.sub a1.Z))

theorem ok_impl_LessVectors (K : Nat) (a0 : Vector) (a1 : Vector) (o : (Vector)) (h : impl_LessVectors K a0 a1 = some o) : CallOK Try.prog 94 [.agg (cs_Vector a0), .agg (cs_Vector a1)] [.agg (cs_Vector o)] := by
  refine callOK_of_AW Try.func94 rfl (by kernel_rfl) (Nat.le_of_ble_eq_true (by kernel_rfl)) ?_
  intro w0
  unfold impl_LessVectors at h
  refine AW.sC (Tt ∧ T2 Tt) [.box 1, .box 2, .box 3] [2, 3, 4] [1, 2, 3] ⟨tr, tr, tr, tr⟩ ?_
  refine AW.sA ⟨[(4, (vp 3 0))], [(3, (.box [(cF (a0.X.sub a1.X)), (cF (a0.Y.sub a1.Y)), (cF (a0.Z.sub a1.Z))]))]⟩ (Tt ∧ T4 (T4 (T4 (T4 Tt)))) [] [4] [3] ⟨tr, tr, tr, tr, tr, tr, tr, tr, tr, tr, tr, tr, tr, tr, tr, tr, tr, tr⟩ ?_
  refine AW.ret ?_
  replace h := some_eq h
  subst h
  exact ⟨.inr rfl, retOK_of [(.agg [(cF (a0.X.sub a1.X)), (cF (a0.Y.sub a1.Y)), (cF (a0.Z.sub a1.Z))])] (by kernel_rfl) ⟨⟨⟨rfl, tr⟩, ⟨rfl, tr⟩, ⟨rfl, tr⟩, tr⟩, tr⟩ (of_decide_eq_true (by kernel_rfl))⟩

/-! impl.ScaleVector -/
def impl_ScaleVector (_K : Nat) (a0 : Vector) (a1 : F32) : Option (Vector) :=
  some (Vector.mk (a0.X.mul a1) (a0.Y.mul a1) (a0.Z.mul a1))

theorem ok_impl_ScaleVector (K : Nat) (a0 : Vector) (a1 : F32) (o : (Vector)) (h : impl_ScaleVector K a0 a1 = some o) : CallOK Try.prog 93 [.agg (cs_Vector a0), .one (.flt .f32 a1.bits)] [.agg (cs_Vector o)] := by
  refine callOK_of_AW Try.func93 rfl (by kernel_rfl) (Nat.le_of_ble_eq_true (by kernel_rfl)) ?_
  intro w0
  unfold impl_ScaleVector at h
  refine AW.sC (T2 Tt) [.box 1, .box 2] [1, 2, 4] [1, 2] ⟨tr, tr, tr⟩ ?_
  refine AW.sA ⟨[(4, (vp 2 0))], [(2, (.box [(cF (a0.X.mul a1)), (cF (a0.Y.mul a1)), (cF (a0.Z.mul a1))]))]⟩ (T2 (T4 (T4 (T4 Tt)))) [] [4] [2] ⟨tr, tr, tr, tr, tr, tr, tr, tr, tr, tr, tr, tr, tr, tr, tr⟩ ?_
  refine AW.ret ?_
  replace h := some_eq h
  subst h
  exact ⟨.inr rfl, retOK_of [(.agg [(cF (a0.X.mul a1)), (cF (a0.Y.mul a1)), (cF (a0.Z.mul a1))])] (by kernel_rfl) ⟨⟨⟨rfl, tr⟩, ⟨rfl, tr⟩, ⟨rfl, tr⟩, tr⟩, tr⟩ (of_decide_eq_true (by kernel_rfl))⟩

/-! impl.AddVectors -/
def impl_AddVectors (_K : Nat) (a0 : Vector) (a1 : Vector) : Option (Vector) :=
  some (Vector.mk (a0.X.add a1.X) (a0.Y.add a1.Y) (a0.Z.add a1.Z))

theorem ok_impl_AddVectors (K : Nat) (a0 : Vector) (a1 : Vector) (o : (Vector)) (h : impl_AddVectors K a0 a1 = some o) : CallOK Try.prog 92 [.agg (cs_Vector a0), .agg (cs_Vector a1)] [.agg (cs_Vector o)] := by
  refine callOK_of_AW Try.func92 rfl (by kernel_rfl) (Nat.le_of_ble_eq_true (by kernel_rfl)) ?_
  intro w0
  unfold impl_AddVectors at h
  refine AW.sC (Tt ∧ T2 Tt) [.box 1, .box 2, .box 3] [2, 3, 4] [1, 2, 3] ⟨tr, tr, tr, tr⟩ ?_
  refine AW.sA ⟨[(4, (vp 3 0))], [(3, (.box [(cF (a0.X.add a1.X)), (cF (a0.Y.add a1.Y)), (cF (a0.Z.add a1.Z))]))]⟩ (Tt ∧ T4 (T4 (T4 (T4 Tt)))) [] [4] [3] ⟨tr, tr, tr, tr, tr, tr, tr, tr, tr, tr, tr, tr, tr, tr, tr, tr, tr, tr⟩ ?_
  refine AW.ret ?_
  replace h := some_eq h
  subst h
  exact ⟨.inr rfl, retOK_of [(.agg [(cF (a0.X.add a1.X)), (cF (a0.Y.add a1.Y)), (cF (a0.Z.add a1.Z))])] (by kernel_rfl) ⟨⟨⟨rfl, tr⟩, ⟨rfl, tr⟩, ⟨rfl, tr⟩, tr⟩, tr⟩ (of_decide_eq_true (by kernel_rfl))⟩

/-! impl.BetweenVectors -/
def impl_BetweenVectors (K : Nat) (a0 : Vector) (a1 : Vector) (a2 : F32) : Option (Vector) :=
  (impl_LessVectors K a1 a0).bind fun v1 => (impl_ScaleVector K v1 a2).bind fun v3 => (impl_AddVectors K a0 v3).bind fun v5 => some v5

theorem ok_impl_BetweenVectors (K : Nat) (a0 : Vector) (a1 : Vector) (a2 : F32) (o : (Vector)) (h : impl_BetweenVectors K a0 a1 a2 = some o) : CallOK Try.prog 76 [.agg (cs_Vector a0), .agg (cs_Vector a1), .one (.flt .f32 a2.bits)] [.agg (cs_Vector o)] := by
  refine callOK_of_AW Try.func76 rfl (by kernel_rfl) (Nat.le_of_ble_eq_true (by kernel_rfl)) ?_
  intro w0
  unfold impl_BetweenVectors at h
  let z2 := cF (default : F32)
  refine AW.sA ⟨[(2, (vc (.flt .f32 a2.bits))), (3, (vp 1 0)), (4, (vp 2 0)), (6, (vp 3 0))], [(1, (.box [(cF a0.X), (cF a0.Y), (cF a0.Z)])), (2, (.box [(cF a1.X), (cF a1.Y), (cF a1.Z)])), (3, (.box [z2, z2, z2]))]⟩ (Tt ∧ T2 Tt) [.box 1, .box 2, .box 3] [2, 3, 4, 6] [1, 2, 3] ⟨tr, tr, tr, tr⟩ ?_
  refine AW.seq ?_
  obtain ⟨v1, e2, h⟩ := bind_some h
  obtain ⟨v3, e4, h⟩ := bind_some h
  obtain ⟨v5, e6, h⟩ := bind_some h
  let z1 := (eF a0.X) ∧ (eF a0.Y) ∧ (eF a0.Z) ∧ Tt
  let z3 : List CT := [.agg (cs_Vector v1), .one (.flt .f32 a2.bits)]
  let z4 := cs_Vector a0
  let z5 := cs_Vector v3
  refine AW.dA ⟨[(6, (vp 3 0))], [(3, (.box [(cF v5.X), (cF v5.Y), (cF v5.Z)]))]⟩ ((Tt ∧ T2 (((((eF a1.X) ∧ (eF a1.Y) ∧ (eF a1.Z) ∧ Tt) ∧ z1 ∧ Tt) ∧ CallOK Try.prog 94 [.agg (cs_Vector a1), .agg z4] [.agg (cs_Vector v1)]) ∧ Tt ∧ ((((eF v1.X) ∧ (eF v1.Y) ∧ (eF v1.Z) ∧ Tt) ∧ (eF a2) ∧ Tt) ∧ CallOK Try.prog 93 z3 [.agg z5]) ∧ ((z1 ∧ ((eF v3.X) ∧ (eF v3.Y) ∧ (eF v3.Z) ∧ Tt) ∧ Tt) ∧ CallOK Try.prog 92 [.agg z4, .agg z5] [.agg (cs_Vector v5)]) ∧ Tt)) ∧ (Tt ∧ Tt)) 7 [.no, .no, .no, .call [.agg (cs_Vector a1), .agg z4] [.agg (cs_Vector v1)] [[.view, .view, .view]], .no, .call z3 [.agg z5] [[.view, .view, .view]], .call [.agg z4, .agg z5] [.agg (cs_Vector v5)] [[.view, .view, .view]]] [6] [3] ⟨⟨tr, tr, tr, ⟨⟨⟨rfl, rfl, rfl, tr⟩, ⟨rfl, rfl, rfl, tr⟩, tr⟩, ok_impl_LessVectors K a1 a0 v1 e2⟩, tr, ⟨⟨⟨rfl, rfl, rfl, tr⟩, rfl, tr⟩, ok_impl_ScaleVector K v1 a2 v3 e4⟩, ⟨⟨⟨rfl, rfl, rfl, tr⟩, ⟨rfl, rfl, rfl, tr⟩, tr⟩, ok_impl_AddVectors K a0 v3 v5 e6⟩, tr⟩, ⟨tr, tr⟩⟩ ?_
  refine thenQ_normal ?_
  refine AW.ret ?_
  replace h := some_eq h
  subst h
  exact ⟨.inr rfl, retOK_of [(.agg [(cF v5.X), (cF v5.Y), (cF v5.Z)])] (by kernel_rfl) ⟨⟨⟨rfl, tr⟩, ⟨rfl, tr⟩, ⟨rfl, tr⟩, tr⟩, tr⟩ (of_decide_eq_true (by kernel_rfl))⟩

/-! impl.rootTrack$3 -/
def impl_rootTrack_3 (K : Nat) (a0 : RootKey) (a1 : RootKey) (a2 : F32) : Option (RootKey) :=
  (impl_BetweenVectors K a0.Place a1.Place a2).bind fun v1 => some (RootKey.mk a0.At v1)

theorem ok_impl_rootTrack_3 (K : Nat) (a0 : RootKey) (a1 : RootKey) (a2 : F32) (o : (RootKey)) (h : impl_rootTrack_3 K a0 a1 a2 = some o) : CallOK Try.prog 75 [.agg (cs_RootKey a0), .agg (cs_RootKey a1), .one (.flt .f32 a2.bits)] [.agg (cs_RootKey o)] := by
  refine callOK_of_AW Try.func75 rfl (by kernel_rfl) (Nat.le_of_ble_eq_true (by kernel_rfl)) ?_
  intro w0
  unfold impl_rootTrack_3 at h
  refine AW.sC (Tt ∧ T2 Tt) [.box 1, .box 2, .box 3] [2, 3, 4, 6] [1, 2, 3] ⟨tr, tr, tr, tr⟩ ?_
  refine AW.seq ?_
  obtain ⟨v1, e2, h⟩ := bind_some h
  let z1 : List CT := [.agg (cs_Vector a0.Place), .agg (cs_Vector a1.Place), .one (.flt .f32 a2.bits)]
  refine AW.tC (Tt ∧ T4 (((((eF a0.Place.X) ∧ (eF a0.Place.Y) ∧ (eF a0.Place.Z) ∧ Tt) ∧ ((eF a1.Place.X) ∧ (eF a1.Place.Y) ∧ (eF a1.Place.Z) ∧ Tt) ∧ (eF a2) ∧ Tt) ∧ CallOK Try.prog 76 z1 [.agg (cs_Vector v1)]) ∧ T2 Tt)) [.no, .no, .no, .no, .no, .call z1 [.agg (cs_Vector v1)] [[.view, .view, .view]]] [3, 6] [1, 3] ⟨tr, tr, tr, tr, tr, ⟨⟨⟨rfl, rfl, rfl, tr⟩, ⟨rfl, rfl, rfl, tr⟩, rfl, tr⟩, ok_impl_BetweenVectors K a0.Place a1.Place a2 v1 e2⟩, tr, tr, tr⟩ ?_
  refine AW.sA ⟨[(6, (vp 3 0))], [(3, (.box [(cI a0.At), (cF v1.X), (cF v1.Y), (cF v1.Z)]))]⟩ (T2 Tt) [] [6] [3] ⟨tr, tr, tr⟩ ?_
  refine AW.ret ?_
  replace h := some_eq h
  subst h
  exact ⟨.inr rfl, retOK_of [(.agg [(cI a0.At), (cF v1.X), (cF v1.Y), (cF v1.Z)])] (by kernel_rfl) ⟨⟨⟨rfl, tr⟩, ⟨rfl, tr⟩, ⟨rfl, tr⟩, ⟨rfl, tr⟩, tr⟩, tr⟩ (of_decide_eq_true (by kernel_rfl))⟩

end
end Go.Fw
