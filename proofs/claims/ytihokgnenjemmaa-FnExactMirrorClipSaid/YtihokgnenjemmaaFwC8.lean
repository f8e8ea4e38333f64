/- Functions of the program: what each computes, and that it computes just that. -/
import Derived.Test.YtihokgnenjemmaaFwTy
import Derived.Test.YtihokgnenjemmaaFwH
import Derived.Test.YtihokgnenjemmaaFwV
import Derived.Test.YtihokgnenjemmaaFwC82
import Derived.Test.YtihokgnenjemmaaFwUB
import Derived.Test.YtihokgnenjemmaaProg
import Derived.KernelRfl
namespace Go.Fw
open Go Go.Proofs
noncomputable section
set_option maxRecDepth 10000

/-! laws.eqInt64S -/
def laws_eqInt64S_l1 (K : Nat) (a0 : (List Int)) (a1 : (List Int)) : Nat → Int → Option (Bool)
  | 0, _ => none
  | k + 1, x3 => ite2 ((decide (x3 < (a0.length : Int)))) (chk (0 ≤ x3 ∧ x3 < (a0.length : Int)) (chk (0 ≤ x3 ∧ x3 < (a1.length : Int)) (ite2 (((a0.getD x3.toNat default) != (a1.getD x3.toNat default))) (some false) (laws_eqInt64S_l1 K a0 a1 k (IntKind.i64.wrap (x3 + (1 : Int))))))) (some true)

def laws_eqInt64S (K : Nat) (a0 : (List Int)) (a1 : (List Int)) : Option (Bool) :=
  ite2 (((a0.length : Int) != (a1.length : Int))) (some false) (laws_eqInt64S_l1 K a0 a1 K (0 : Int))

theorem ok_laws_eqInt64S (K : Nat) (a0 : (List Int)) (a1 : (List Int)) (o : (Bool)) (h : laws_eqInt64S K a0 a1 = some o) : CallOK Try.prog 32 [.one (sl 1 (csI .i64) a0), .one (sl 1 (csI .i64) a1)] [.one (.bool o)] := by
  refine callOK_of_AW Try.func32 rfl (by kernel_rfl) (Nat.le_of_ble_eq_true (by kernel_rfl)) ?_
  intro w0
  unfold laws_eqInt64S at h
  refine AW.seq ?_
  refine AW.regionA [] [0, 1] [] (s' := ⟨[(0, (.v (.one (.c (sl 1 (csI .i64) a0))))), (1, (.v (.one (.c (sl 1 (csI .i64) a1)))))], []⟩) (ob := True ∧ True) (by kernel_rfl) ⟨trivial, trivial⟩ ?_
  refine thenQ_normal ?_
  refine AW.seq ?_
  refine AW.seq ?_
  refine AW.regionA [] [0, 1, 10] [] (s' := ⟨[(0, (.v (.one (.c (sl 1 (csI .i64) a0))))), (1, (.v (.one (.c (sl 1 (csI .i64) a1))))), (10, (.v (.one (.c (.bool ((a0.length : Int) != (a1.length : Int)))))))], []⟩) (ob := True ∧ True ∧ True ∧ True ∧ True ∧ True) (by kernel_rfl) ⟨trivial, trivial, trivial, trivial, trivial, trivial⟩ ?_
  refine thenQ_normal ?_
  rcases ite2_cases h with ⟨b1, h⟩ | ⟨b1, h⟩
  · refine AW.cond_t rfl b1 ?_
    refine AW.seq ?_
    refine AW.regionA [] [4] [] (s' := ⟨[(4, (.v (.one (.c (.bool false)))))], []⟩) (ob := True ∧ True) (by kernel_rfl) ⟨trivial, trivial⟩ ?_
    refine thenQ_normal ?_
    refine AW.ret ?_
    refine thenQ_ret ?_
    replace h := some_eq h
    subst h
    exact ⟨.inr rfl, retOK_of [(.one (.c (.bool false)))] (by kernel_rfl) ⟨⟨rfl, trivial⟩, trivial⟩ (of_decide_eq_true (by kernel_rfl))⟩
  · refine AW.cond_f rfl b1 ?_
    refine AW.skip ?_
    refine thenQ_normal ?_
    refine AW.seq ?_
    refine AW.seq ?_
    refine AW.regionA [] [0, 1, 5] [] (s' := ⟨[(0, (.v (.one (.c (sl 1 (csI .i64) a0))))), (1, (.v (.one (.c (sl 1 (csI .i64) a1))))), (5, (.v (.one (.c (.int .i64 (0 : Int))))))], []⟩) (ob := True ∧ True) (by kernel_rfl) ⟨trivial, trivial⟩ ?_
    refine thenQ_normal ?_
    refine AW.block ?_
    refine AW.loopQ (σ := Nat × Int) (fun p => ⟨[(0, (.v (.one (.c (sl 1 (csI .i64) a0))))), (1, (.v (.one (.c (sl 1 (csI .i64) a1))))), (5, (.v (.one (.c (.int .i64 p.2)))))], []⟩) (fun p => laws_eqInt64S_l1 K a0 a1 p.1 p.2 = some o) (fun p => p.1) (K, (0 : Int)) h ?_
    clear h
    rintro ⟨k, x3⟩ h
    replace h : laws_eqInt64S_l1 K a0 a1 k x3 = some o := h
    show AW _ _ (⟨[(0, (.v (.one (.c (sl 1 (csI .i64) a0))))), (1, (.v (.one (.c (sl 1 (csI .i64) a1))))), (5, (.v (.one (.c (.int .i64 x3)))))], []⟩ : St) _
    obtain _ | k := k
    · rw [laws_eqInt64S_l1] at h; cases h
    rw [laws_eqInt64S_l1] at h
    refine AW.seq ?_
    refine AW.seq ?_
    refine AW.regionA [] [0, 1, 5, 14] [] (s' := ⟨[(0, (.v (.one (.c (sl 1 (csI .i64) a0))))), (1, (.v (.one (.c (sl 1 (csI .i64) a1))))), (5, (.v (.one (.c (.int .i64 x3))))), (14, (.v (.one (.c (.bool (decide (x3 < (a0.length : Int))))))))], []⟩) (ob := True ∧ True ∧ True ∧ True ∧ True) (by kernel_rfl) ⟨trivial, trivial, trivial, trivial, trivial⟩ ?_
    refine thenQ_normal ?_
    rcases ite2_cases h with ⟨b4, h⟩ | ⟨b4, h⟩
    · refine AW.cond_t rfl b4 ?_
      refine AW.skip ?_
      refine thenQ_normal ?_
      refine AW.seq ?_
      refine AW.block ?_
      refine AW.seq ?_
      obtain ⟨c5, h⟩ := chk_some h
      obtain ⟨c6, h⟩ := chk_some h
      refine AW.drawnA (by kernel_rfl) 9 [] [0, 1, 5, 25] [] (s' := ⟨[(0, (.v (.one (.c (sl 1 (csI .i64) a0))))), (1, (.v (.one (.c (sl 1 (csI .i64) a1))))), (5, (.v (.one (.c (.int .i64 x3))))), (25, (.v (.one (.c (.bool ((a0.getD x3.toNat default) != (a1.getD x3.toNat default)))))))], []⟩) (ob := (True ∧ True ∧ (0 ≤ x3 ∧ x3 < (a0.length : Int)) ∧ True ∧ True ∧ True ∧ (0 ≤ x3 ∧ x3 < (a1.length : Int)) ∧ True ∧ True ∧ True) ∧ (True)) (by kernel_rfl) ⟨⟨trivial, trivial, c5, trivial, trivial, trivial, c6, trivial, trivial, trivial⟩, trivial⟩ ?_
      refine thenQ_normal ?_
      rcases ite2_cases h with ⟨b7, h⟩ | ⟨b7, h⟩
      · refine AW.cond_t rfl b7 ?_
        refine AW.seq ?_
        refine AW.regionA [] [4] [] (s' := ⟨[(4, (.v (.one (.c (.bool false)))))], []⟩) (ob := True ∧ True) (by kernel_rfl) ⟨trivial, trivial⟩ ?_
        refine thenQ_normal ?_
        refine AW.ret ?_
        refine blockQ_ret ?_
        refine thenQ_ret ?_
        refine loopQ_ret ?_
        refine blockQ_ret ?_
        refine thenQ_ret ?_
        replace h := some_eq h
        subst h
        exact ⟨.inr rfl, retOK_of [(.one (.c (.bool false)))] (by kernel_rfl) ⟨⟨rfl, trivial⟩, trivial⟩ (of_decide_eq_true (by kernel_rfl))⟩
      · refine AW.cond_f rfl b7 ?_
        refine AW.skip ?_
        refine blockQ_normal ?_
        refine thenQ_normal ?_
        refine AW.regionA [] [0, 1, 5] [] (s' := ⟨[(0, (.v (.one (.c (sl 1 (csI .i64) a0))))), (1, (.v (.one (.c (sl 1 (csI .i64) a1))))), (5, (.v (.one (.c (.int .i64 (IntKind.i64.wrap (x3 + (1 : Int))))))))], []⟩) (ob := True ∧ True ∧ True ∧ True) (by kernel_rfl) ⟨trivial, trivial, trivial, trivial⟩ ?_
        exact loopQ_normal (k, (IntKind.i64.wrap (x3 + (1 : Int)))) h (Nat.lt_succ_self k) (Sub.keep [0, 1, 5] [] (by kernel_rfl) (by kernel_rfl))
    · refine AW.cond_f rfl b4 ?_
      refine AW.exit ?_
      refine thenQ_exit ?_
      refine loopQ_exit ?_
      refine blockQ_exit ?_
      refine thenQ_normal ?_
      refine AW.seq ?_
      refine AW.regionA [] [4] [] (s' := ⟨[(4, (.v (.one (.c (.bool true)))))], []⟩) (ob := True ∧ True) (by kernel_rfl) ⟨trivial, trivial⟩ ?_
      refine thenQ_normal ?_
      refine AW.ret ?_
      replace h := some_eq h
      subst h
      exact ⟨.inr rfl, retOK_of [(.one (.c (.bool true)))] (by kernel_rfl) ⟨⟨rfl, trivial⟩, trivial⟩ (of_decide_eq_true (by kernel_rfl))⟩

/-! laws.markBoneS -/
def laws_markBoneS_l1 (K : Nat) (a0 : (List Bone)) : Nat → Int → Int → (List Bone) → Option (Int × (List Bone))
  | 0, _, _, _ => none
  | k + 1, x4, x5, x6 => ite2 ((decide (x5 < (x6.length : Int)))) (chk (0 ≤ x5 ∧ x5 < (x6.length : Int)) ((some (x6.set x5.toNat (Bone.mk x4 ((x6.getD x5.toNat default).Offset)))).bind fun y9 => chk (0 ≤ x5 ∧ x5 < (y9.length : Int)) ((some (y9.set x5.toNat (Bone.mk ((y9.getD x5.toNat default).Parent) (Vector.mk (Fl.ofInt .f32 (IntKind.i64.wrap (x4 + (1 : Int)))) (((y9.getD x5.toNat default).Offset).Y) (((y9.getD x5.toNat default).Offset).Z))))).bind fun y12 => chk (0 ≤ x5 ∧ x5 < (y12.length : Int)) ((some (y12.set x5.toNat (Bone.mk ((y12.getD x5.toNat default).Parent) (Vector.mk (((y12.getD x5.toNat default).Offset).X) (Fl.ofInt .f32 (IntKind.i64.wrap ((IntKind.i64.wrap (x4 + (1 : Int))) + (1 : Int)))) (((y12.getD x5.toNat default).Offset).Z))))).bind fun y15 => chk (0 ≤ x5 ∧ x5 < (y15.length : Int)) ((some (y15.set x5.toNat (Bone.mk ((y15.getD x5.toNat default).Parent) (Vector.mk (((y15.getD x5.toNat default).Offset).X) (((y15.getD x5.toNat default).Offset).Y) (Fl.ofInt .f32 (IntKind.i64.wrap ((IntKind.i64.wrap ((IntKind.i64.wrap (x4 + (1 : Int))) + (1 : Int))) + (1 : Int)))))))).bind fun y18 => laws_markBoneS_l1 K a0 k (IntKind.i64.wrap ((IntKind.i64.wrap ((IntKind.i64.wrap ((IntKind.i64.wrap (x4 + (1 : Int))) + (1 : Int))) + (1 : Int))) + (1 : Int))) (IntKind.i64.wrap (x5 + (1 : Int))) y18))))) (chk (x6.length = a0.length) (some (x4, x6)))

def laws_markBoneS (K : Nat) (a0 : (List Bone)) (a1 : Int) : Option (Int × (List Bone)) :=
  laws_markBoneS_l1 K a0 K a1 (0 : Int) a0

theorem ok_laws_markBoneS (K : Nat) (a0 : (List Bone)) (a1 : Int) (o : (Int × (List Bone))) (h : laws_markBoneS K a0 a1 = some o) : MutOK Try.prog 106 [(.one (.mu (sl 4 cs_Bone a0) (sl 4 cs_Bone o.2))), (.one (.ro (.int .i64 a1)))] [.one (.int .i64 o.1)] := by
  refine mutOK_of_AW 1 Try.func106 rfl (by kernel_rfl) (Nat.le_of_ble_eq_true (by kernel_rfl)) (by kernel_rfl) (by kernel_rfl) ?_
  intro w0 K0 v0 s0
  unfold laws_markBoneS at h
  refine AW.seq ?_
  refine AW.regionA [] [0, 1] [0] (s' := ⟨[(0, (.v (.one (.arr 0)))), (1, (.v (.one (.c (.int .i64 a1)))))], [(0, (.arr true a0.length 4 (gl cs_Bone a0)))]⟩) (ob := True ∧ True) (by kernel_rfl) ⟨trivial, trivial⟩ ?_
  refine thenQ_normal ?_
  refine AW.seq ?_
  refine AW.seq ?_
  refine AW.regionA [] [0, 1, 5] [0] (s' := ⟨[(0, (.v (.one (.arr 0)))), (1, (.v (.one (.c (.int .i64 a1))))), (5, (.v (.one (.c (.int .i64 (0 : Int))))))], [(0, (.arr true a0.length 4 (gl cs_Bone a0)))]⟩) (ob := True ∧ True) (by kernel_rfl) ⟨trivial, trivial⟩ ?_
  refine thenQ_normal ?_
  refine AW.block ?_
  refine AW.loopQ (σ := Nat × Int × Int × (List Bone)) (fun p => ⟨[(0, (.v (.one (.arr 0)))), (1, (.v (.one (.c (.int .i64 p.2.1))))), (5, (.v (.one (.c (.int .i64 p.2.2.1)))))], [(0, (.arr true p.2.2.2.length 4 (gl cs_Bone p.2.2.2)))]⟩) (fun p => laws_markBoneS_l1 K a0 p.1 p.2.1 p.2.2.1 p.2.2.2 = some o) (fun p => p.1) (K, a1, (0 : Int), a0) h ?_
  clear h
  rintro ⟨k, x4, x5, x6⟩ h
  replace h : laws_markBoneS_l1 K a0 k x4 x5 x6 = some o := h
  show AW _ _ (⟨[(0, (.v (.one (.arr 0)))), (1, (.v (.one (.c (.int .i64 x4))))), (5, (.v (.one (.c (.int .i64 x5)))))], [(0, (.arr true x6.length 4 (gl cs_Bone x6)))]⟩ : St) _
  obtain _ | k := k
  · rw [laws_markBoneS_l1] at h; cases h
  rw [laws_markBoneS_l1] at h
  refine AW.seq ?_
  refine AW.seq ?_
  refine AW.regionA [] [0, 1, 5, 9] [0] (s' := ⟨[(0, (.v (.one (.arr 0)))), (1, (.v (.one (.c (.int .i64 x4))))), (5, (.v (.one (.c (.int .i64 x5))))), (9, (.v (.one (.c (.bool (decide (x5 < (x6.length : Int))))))))], [(0, (.arr true x6.length 4 (gl cs_Bone x6)))]⟩) (ob := True ∧ True ∧ True ∧ True ∧ True) (by kernel_rfl) ⟨trivial, trivial, trivial, trivial, trivial⟩ ?_
  refine thenQ_normal ?_
  rcases ite2_cases h with ⟨b7, h⟩ | ⟨b7, h⟩
  · refine AW.cond_t rfl b7 ?_
    refine AW.skip ?_
    refine thenQ_normal ?_
    refine AW.seq ?_
    refine AW.block ?_
    refine AW.seq ?_
    obtain ⟨c8, h⟩ := chk_some h
    obtain ⟨y9, e10, h⟩ := bind_some h
    refine AW.regionA [.no, .no, .no, .no, .no, .set y9.length (gl cs_Bone y9) ((List.range 1).map fun j => (cs_Bone (Bone.mk x4 ((x6.getD x5.toNat default).Offset))).getD (0 + j) .nilptr)] [0, 1, 5] [0] (s' := ⟨[(0, (.v (.one (.arr 0)))), (1, (.v (.one (.c (.int .i64 x4))))), (5, (.v (.one (.c (.int .i64 x5)))))], [(0, (.arr true y9.length 4 (gl cs_Bone y9)))]⟩) (ob := True ∧ True ∧ True ∧ (0 ≤ x5 ∧ x5 < (x6.length : Int)) ∧ True ∧ (y9.length = x6.length ∧ SetOb x6.length 4 x5.toNat 0 1 (gl cs_Bone x6) (gl cs_Bone y9) ∧ ((List.range 1).map fun j => (cs_Bone (Bone.mk x4 ((x6.getD x5.toNat default).Offset))).getD (0 + j) .nilptr) = ((List.range 1).map fun j => gl cs_Bone y9 x5.toNat (0 + j)) ∧ ((((.int .i64 x4) : C) = (.int .i64 x4) ∧ True) ∧ True) ∧ (true = true → ∀ j, j < 1 → isSeq (gl cs_Bone x6 x5.toNat (0 + j)) = false ∧ isSeq (gl cs_Bone y9 x5.toNat (0 + j)) = false)) ∧ True) (by kernel_rfl) ⟨trivial, trivial, trivial, c8, trivial, (letP (some_eq e10) (fun z => (z.length = x6.length ∧ SetOb x6.length 4 x5.toNat 0 1 (gl cs_Bone x6) (gl cs_Bone z) ∧ ((List.range 1).map fun j => (cs_Bone (Bone.mk x4 ((x6.getD x5.toNat default).Offset))).getD (0 + j) .nilptr) = ((List.range 1).map fun j => gl cs_Bone z x5.toNat (0 + j)) ∧ ((((.int .i64 x4) : C) = (.int .i64 x4) ∧ True) ∧ True) ∧ (true = true → ∀ j, j < 1 → isSeq (gl cs_Bone x6 x5.toNat (0 + j)) = false ∧ isSeq (gl cs_Bone z x5.toNat (0 + j)) = false))) ⟨List.length_set, gl_setp (fun j hj hn => match j, hj, hn with | 0, _, hn => absurd ⟨by decide, by decide⟩ hn | 1, _, _ => rfl | 2, _, _ => rfl | 3, _, _ => rfl) (lt_of_bound c8), (gl_atp (lt_of_bound c8)).symm, ⟨⟨rfl, trivial⟩, trivial⟩, (fun _ j hj => match j, hj with | 0, _ => ⟨rfl, rfl⟩)⟩), trivial⟩ ?_
    refine thenQ_normal ?_
    refine AW.seq ?_
    refine AW.regionA [] [0, 1, 5] [0] (s' := ⟨[(0, (.v (.one (.arr 0)))), (1, (.v (.one (.c (.int .i64 (IntKind.i64.wrap (x4 + (1 : Int)))))))), (5, (.v (.one (.c (.int .i64 x5)))))], [(0, (.arr true y9.length 4 (gl cs_Bone y9)))]⟩) (ob := True ∧ True ∧ True ∧ True) (by kernel_rfl) ⟨trivial, trivial, trivial, trivial⟩ ?_
    refine thenQ_normal ?_
    refine AW.seq ?_
    obtain ⟨c11, h⟩ := chk_some h
    obtain ⟨y12, e13, h⟩ := bind_some h
    refine AW.regionA [.no, .no, .no, .no, .no, .no, .no, .set y12.length (gl cs_Bone y12) ((List.range 1).map fun j => (cs_Bone (Bone.mk ((y9.getD x5.toNat default).Parent) (Vector.mk (Fl.ofInt .f32 (IntKind.i64.wrap (x4 + (1 : Int)))) (((y9.getD x5.toNat default).Offset).Y) (((y9.getD x5.toNat default).Offset).Z)))).getD (1 + j) .nilptr)] [0, 1, 5] [0] (s' := ⟨[(0, (.v (.one (.arr 0)))), (1, (.v (.one (.c (.int .i64 (IntKind.i64.wrap (x4 + (1 : Int)))))))), (5, (.v (.one (.c (.int .i64 x5)))))], [(0, (.arr true y12.length 4 (gl cs_Bone y12)))]⟩) (ob := True ∧ True ∧ True ∧ True ∧ (0 ≤ x5 ∧ x5 < (y9.length : Int)) ∧ True ∧ True ∧ (y12.length = y9.length ∧ SetOb y9.length 4 x5.toNat 1 1 (gl cs_Bone y9) (gl cs_Bone y12) ∧ ((List.range 1).map fun j => (cs_Bone (Bone.mk ((y9.getD x5.toNat default).Parent) (Vector.mk (Fl.ofInt .f32 (IntKind.i64.wrap (x4 + (1 : Int)))) (((y9.getD x5.toNat default).Offset).Y) (((y9.getD x5.toNat default).Offset).Z)))).getD (1 + j) .nilptr) = ((List.range 1).map fun j => gl cs_Bone y12 x5.toNat (1 + j)) ∧ ((((.flt .f32 (Fl.ofInt .f32 (IntKind.i64.wrap (x4 + (1 : Int)))).bits) : C) = (.flt .f32 (Fl.ofInt .f32 (IntKind.i64.wrap (x4 + (1 : Int)))).bits) ∧ True) ∧ True) ∧ (true = true → ∀ j, j < 1 → isSeq (gl cs_Bone y9 x5.toNat (1 + j)) = false ∧ isSeq (gl cs_Bone y12 x5.toNat (1 + j)) = false)) ∧ True) (by kernel_rfl) ⟨trivial, trivial, trivial, trivial, c11, trivial, trivial, (letP (some_eq e13) (fun z => (z.length = y9.length ∧ SetOb y9.length 4 x5.toNat 1 1 (gl cs_Bone y9) (gl cs_Bone z) ∧ ((List.range 1).map fun j => (cs_Bone (Bone.mk ((y9.getD x5.toNat default).Parent) (Vector.mk (Fl.ofInt .f32 (IntKind.i64.wrap (x4 + (1 : Int)))) (((y9.getD x5.toNat default).Offset).Y) (((y9.getD x5.toNat default).Offset).Z)))).getD (1 + j) .nilptr) = ((List.range 1).map fun j => gl cs_Bone z x5.toNat (1 + j)) ∧ ((((.flt .f32 (Fl.ofInt .f32 (IntKind.i64.wrap (x4 + (1 : Int)))).bits) : C) = (.flt .f32 (Fl.ofInt .f32 (IntKind.i64.wrap (x4 + (1 : Int)))).bits) ∧ True) ∧ True) ∧ (true = true → ∀ j, j < 1 → isSeq (gl cs_Bone y9 x5.toNat (1 + j)) = false ∧ isSeq (gl cs_Bone z x5.toNat (1 + j)) = false))) ⟨List.length_set, gl_setp (fun j hj hn => match j, hj, hn with | 0, _, _ => rfl | 1, _, hn => absurd ⟨by decide, by decide⟩ hn | 2, _, _ => rfl | 3, _, _ => rfl) (lt_of_bound c11), (gl_atp (lt_of_bound c11)).symm, ⟨⟨rfl, trivial⟩, trivial⟩, (fun _ j hj => match j, hj with | 0, _ => ⟨rfl, rfl⟩)⟩), trivial⟩ ?_
    refine thenQ_normal ?_
    refine AW.seq ?_
    refine AW.regionA [] [0, 1, 5] [0] (s' := ⟨[(0, (.v (.one (.arr 0)))), (1, (.v (.one (.c (.int .i64 (IntKind.i64.wrap ((IntKind.i64.wrap (x4 + (1 : Int))) + (1 : Int)))))))), (5, (.v (.one (.c (.int .i64 x5)))))], [(0, (.arr true y12.length 4 (gl cs_Bone y12)))]⟩) (ob := True ∧ True ∧ True ∧ True) (by kernel_rfl) ⟨trivial, trivial, trivial, trivial⟩ ?_
    refine thenQ_normal ?_
    refine AW.seq ?_
    obtain ⟨c14, h⟩ := chk_some h
    obtain ⟨y15, e16, h⟩ := bind_some h
    refine AW.regionA [.no, .no, .no, .no, .no, .no, .no, .set y15.length (gl cs_Bone y15) ((List.range 1).map fun j => (cs_Bone (Bone.mk ((y12.getD x5.toNat default).Parent) (Vector.mk (((y12.getD x5.toNat default).Offset).X) (Fl.ofInt .f32 (IntKind.i64.wrap ((IntKind.i64.wrap (x4 + (1 : Int))) + (1 : Int)))) (((y12.getD x5.toNat default).Offset).Z)))).getD (2 + j) .nilptr)] [0, 1, 5] [0] (s' := ⟨[(0, (.v (.one (.arr 0)))), (1, (.v (.one (.c (.int .i64 (IntKind.i64.wrap ((IntKind.i64.wrap (x4 + (1 : Int))) + (1 : Int)))))))), (5, (.v (.one (.c (.int .i64 x5)))))], [(0, (.arr true y15.length 4 (gl cs_Bone y15)))]⟩) (ob := True ∧ True ∧ True ∧ True ∧ (0 ≤ x5 ∧ x5 < (y12.length : Int)) ∧ True ∧ True ∧ (y15.length = y12.length ∧ SetOb y12.length 4 x5.toNat 2 1 (gl cs_Bone y12) (gl cs_Bone y15) ∧ ((List.range 1).map fun j => (cs_Bone (Bone.mk ((y12.getD x5.toNat default).Parent) (Vector.mk (((y12.getD x5.toNat default).Offset).X) (Fl.ofInt .f32 (IntKind.i64.wrap ((IntKind.i64.wrap (x4 + (1 : Int))) + (1 : Int)))) (((y12.getD x5.toNat default).Offset).Z)))).getD (2 + j) .nilptr) = ((List.range 1).map fun j => gl cs_Bone y15 x5.toNat (2 + j)) ∧ ((((.flt .f32 (Fl.ofInt .f32 (IntKind.i64.wrap ((IntKind.i64.wrap (x4 + (1 : Int))) + (1 : Int)))).bits) : C) = (.flt .f32 (Fl.ofInt .f32 (IntKind.i64.wrap ((IntKind.i64.wrap (x4 + (1 : Int))) + (1 : Int)))).bits) ∧ True) ∧ True) ∧ (true = true → ∀ j, j < 1 → isSeq (gl cs_Bone y12 x5.toNat (2 + j)) = false ∧ isSeq (gl cs_Bone y15 x5.toNat (2 + j)) = false)) ∧ True) (by kernel_rfl) ⟨trivial, trivial, trivial, trivial, c14, trivial, trivial, (letP (some_eq e16) (fun z => (z.length = y12.length ∧ SetOb y12.length 4 x5.toNat 2 1 (gl cs_Bone y12) (gl cs_Bone z) ∧ ((List.range 1).map fun j => (cs_Bone (Bone.mk ((y12.getD x5.toNat default).Parent) (Vector.mk (((y12.getD x5.toNat default).Offset).X) (Fl.ofInt .f32 (IntKind.i64.wrap ((IntKind.i64.wrap (x4 + (1 : Int))) + (1 : Int)))) (((y12.getD x5.toNat default).Offset).Z)))).getD (2 + j) .nilptr) = ((List.range 1).map fun j => gl cs_Bone z x5.toNat (2 + j)) ∧ ((((.flt .f32 (Fl.ofInt .f32 (IntKind.i64.wrap ((IntKind.i64.wrap (x4 + (1 : Int))) + (1 : Int)))).bits) : C) = (.flt .f32 (Fl.ofInt .f32 (IntKind.i64.wrap ((IntKind.i64.wrap (x4 + (1 : Int))) + (1 : Int)))).bits) ∧ True) ∧ True) ∧ (true = true → ∀ j, j < 1 → isSeq (gl cs_Bone y12 x5.toNat (2 + j)) = false ∧ isSeq (gl cs_Bone z x5.toNat (2 + j)) = false))) ⟨List.length_set, gl_setp (fun j hj hn => match j, hj, hn with | 0, _, _ => rfl | 1, _, _ => rfl | 2, _, hn => absurd ⟨by decide, by decide⟩ hn | 3, _, _ => rfl) (lt_of_bound c14), (gl_atp (lt_of_bound c14)).symm, ⟨⟨rfl, trivial⟩, trivial⟩, (fun _ j hj => match j, hj with | 0, _ => ⟨rfl, rfl⟩)⟩), trivial⟩ ?_
    refine thenQ_normal ?_
    refine AW.seq ?_
    refine AW.regionA [] [0, 1, 5] [0] (s' := ⟨[(0, (.v (.one (.arr 0)))), (1, (.v (.one (.c (.int .i64 (IntKind.i64.wrap ((IntKind.i64.wrap ((IntKind.i64.wrap (x4 + (1 : Int))) + (1 : Int))) + (1 : Int)))))))), (5, (.v (.one (.c (.int .i64 x5)))))], [(0, (.arr true y15.length 4 (gl cs_Bone y15)))]⟩) (ob := True ∧ True ∧ True ∧ True) (by kernel_rfl) ⟨trivial, trivial, trivial, trivial⟩ ?_
    refine thenQ_normal ?_
    refine AW.seq ?_
    obtain ⟨c17, h⟩ := chk_some h
    obtain ⟨y18, e19, h⟩ := bind_some h
    refine AW.regionA [.no, .no, .no, .no, .no, .no, .no, .set y18.length (gl cs_Bone y18) ((List.range 1).map fun j => (cs_Bone (Bone.mk ((y15.getD x5.toNat default).Parent) (Vector.mk (((y15.getD x5.toNat default).Offset).X) (((y15.getD x5.toNat default).Offset).Y) (Fl.ofInt .f32 (IntKind.i64.wrap ((IntKind.i64.wrap ((IntKind.i64.wrap (x4 + (1 : Int))) + (1 : Int))) + (1 : Int))))))).getD (3 + j) .nilptr)] [0, 1, 5] [0] (s' := ⟨[(0, (.v (.one (.arr 0)))), (1, (.v (.one (.c (.int .i64 (IntKind.i64.wrap ((IntKind.i64.wrap ((IntKind.i64.wrap (x4 + (1 : Int))) + (1 : Int))) + (1 : Int)))))))), (5, (.v (.one (.c (.int .i64 x5)))))], [(0, (.arr true y18.length 4 (gl cs_Bone y18)))]⟩) (ob := True ∧ True ∧ True ∧ True ∧ (0 ≤ x5 ∧ x5 < (y15.length : Int)) ∧ True ∧ True ∧ (y18.length = y15.length ∧ SetOb y15.length 4 x5.toNat 3 1 (gl cs_Bone y15) (gl cs_Bone y18) ∧ ((List.range 1).map fun j => (cs_Bone (Bone.mk ((y15.getD x5.toNat default).Parent) (Vector.mk (((y15.getD x5.toNat default).Offset).X) (((y15.getD x5.toNat default).Offset).Y) (Fl.ofInt .f32 (IntKind.i64.wrap ((IntKind.i64.wrap ((IntKind.i64.wrap (x4 + (1 : Int))) + (1 : Int))) + (1 : Int))))))).getD (3 + j) .nilptr) = ((List.range 1).map fun j => gl cs_Bone y18 x5.toNat (3 + j)) ∧ ((((.flt .f32 (Fl.ofInt .f32 (IntKind.i64.wrap ((IntKind.i64.wrap ((IntKind.i64.wrap (x4 + (1 : Int))) + (1 : Int))) + (1 : Int)))).bits) : C) = (.flt .f32 (Fl.ofInt .f32 (IntKind.i64.wrap ((IntKind.i64.wrap ((IntKind.i64.wrap (x4 + (1 : Int))) + (1 : Int))) + (1 : Int)))).bits) ∧ True) ∧ True) ∧ (true = true → ∀ j, j < 1 → isSeq (gl cs_Bone y15 x5.toNat (3 + j)) = false ∧ isSeq (gl cs_Bone y18 x5.toNat (3 + j)) = false)) ∧ True) (by kernel_rfl) ⟨trivial, trivial, trivial, trivial, c17, trivial, trivial, (letP (some_eq e19) (fun z => (z.length = y15.length ∧ SetOb y15.length 4 x5.toNat 3 1 (gl cs_Bone y15) (gl cs_Bone z) ∧ ((List.range 1).map fun j => (cs_Bone (Bone.mk ((y15.getD x5.toNat default).Parent) (Vector.mk (((y15.getD x5.toNat default).Offset).X) (((y15.getD x5.toNat default).Offset).Y) (Fl.ofInt .f32 (IntKind.i64.wrap ((IntKind.i64.wrap ((IntKind.i64.wrap (x4 + (1 : Int))) + (1 : Int))) + (1 : Int))))))).getD (3 + j) .nilptr) = ((List.range 1).map fun j => gl cs_Bone z x5.toNat (3 + j)) ∧ ((((.flt .f32 (Fl.ofInt .f32 (IntKind.i64.wrap ((IntKind.i64.wrap ((IntKind.i64.wrap (x4 + (1 : Int))) + (1 : Int))) + (1 : Int)))).bits) : C) = (.flt .f32 (Fl.ofInt .f32 (IntKind.i64.wrap ((IntKind.i64.wrap ((IntKind.i64.wrap (x4 + (1 : Int))) + (1 : Int))) + (1 : Int)))).bits) ∧ True) ∧ True) ∧ (true = true → ∀ j, j < 1 → isSeq (gl cs_Bone y15 x5.toNat (3 + j)) = false ∧ isSeq (gl cs_Bone z x5.toNat (3 + j)) = false))) ⟨List.length_set, gl_setp (fun j hj hn => match j, hj, hn with | 0, _, _ => rfl | 1, _, _ => rfl | 2, _, _ => rfl | 3, _, hn => absurd ⟨by decide, by decide⟩ hn) (lt_of_bound c17), (gl_atp (lt_of_bound c17)).symm, ⟨⟨rfl, trivial⟩, trivial⟩, (fun _ j hj => match j, hj with | 0, _ => ⟨rfl, rfl⟩)⟩), trivial⟩ ?_
    refine thenQ_normal ?_
    refine AW.regionA [] [0, 1, 5] [0] (s' := ⟨[(0, (.v (.one (.arr 0)))), (1, (.v (.one (.c (.int .i64 (IntKind.i64.wrap ((IntKind.i64.wrap ((IntKind.i64.wrap ((IntKind.i64.wrap (x4 + (1 : Int))) + (1 : Int))) + (1 : Int))) + (1 : Int)))))))), (5, (.v (.one (.c (.int .i64 x5)))))], [(0, (.arr true y18.length 4 (gl cs_Bone y18)))]⟩) (ob := True ∧ True ∧ True ∧ True) (by kernel_rfl) ⟨trivial, trivial, trivial, trivial⟩ ?_
    refine blockQ_normal ?_
    refine thenQ_normal ?_
    refine AW.regionA [] [0, 1, 5] [0] (s' := ⟨[(0, (.v (.one (.arr 0)))), (1, (.v (.one (.c (.int .i64 (IntKind.i64.wrap ((IntKind.i64.wrap ((IntKind.i64.wrap ((IntKind.i64.wrap (x4 + (1 : Int))) + (1 : Int))) + (1 : Int))) + (1 : Int)))))))), (5, (.v (.one (.c (.int .i64 (IntKind.i64.wrap (x5 + (1 : Int))))))))], [(0, (.arr true y18.length 4 (gl cs_Bone y18)))]⟩) (ob := True ∧ True ∧ True ∧ True) (by kernel_rfl) ⟨trivial, trivial, trivial, trivial⟩ ?_
    exact loopQ_normal (k, (IntKind.i64.wrap ((IntKind.i64.wrap ((IntKind.i64.wrap ((IntKind.i64.wrap (x4 + (1 : Int))) + (1 : Int))) + (1 : Int))) + (1 : Int))), (IntKind.i64.wrap (x5 + (1 : Int))), y18) h (Nat.lt_succ_self k) (Sub.keep [0, 1, 5] [0] (by kernel_rfl) (by kernel_rfl))
  · refine AW.cond_f rfl b7 ?_
    refine AW.exit ?_
    refine thenQ_exit ?_
    refine loopQ_exit ?_
    refine blockQ_exit ?_
    refine thenQ_normal ?_
    refine AW.seq ?_
    refine AW.regionA [] [0, 1, 4] [0] (s' := ⟨[(0, (.v (.one (.arr 0)))), (1, (.v (.one (.c (.int .i64 x4))))), (4, (.v (.one (.c (.int .i64 x4)))))], [(0, (.arr true x6.length 4 (gl cs_Bone x6)))]⟩) (ob := True ∧ True ∧ True) (by kernel_rfl) ⟨trivial, trivial, trivial⟩ ?_
    refine thenQ_normal ?_
    refine AW.ret ?_
    obtain ⟨c20, h⟩ := chk_some h
    replace h := some_eq h
    subst h
    exact ⟨.inr rfl, retOK_of [(.one (.c (.int .i64 x4)))] (by kernel_rfl) ⟨⟨rfl, trivial⟩, trivial⟩ (of_decide_eq_true (by kernel_rfl)), by kernel_rfl, ⟨⟨c20, rfl, rfl⟩, trivial, trivial⟩⟩

/-! laws.markSkeleton -/
def laws_markSkeleton (K : Nat) (a0 : Skeleton) (a1 : Int) : Option (Int × (List Bone)) :=
  (laws_markBoneS K a0.Bones a1).bind fun v1 => chk (v1.2.length = a0.Bones.length) (chk (v1.2.length = a0.Bones.length) (some (v1.1, v1.2)))

theorem ok_laws_markSkeleton (K : Nat) (a0 : Skeleton) (a1 : Int) (o : (Int × (List Bone))) (h : laws_markSkeleton K a0 a1 = some o) : MutOK Try.prog 33 [(.agg [(.mu (sl 4 cs_Bone a0.Bones) (sl 4 cs_Bone o.2))]), (.one (.ro (.int .i64 a1)))] [.one (.int .i64 o.1)] := by
  refine mutOK_of_AW 1 Try.func33 rfl (by kernel_rfl) (Nat.le_of_ble_eq_true (by kernel_rfl)) (by kernel_rfl) (by kernel_rfl) ?_
  intro w0 K0 v0 s0
  unfold laws_markSkeleton at h
  refine AW.seq ?_
  refine AW.regionA [.box 1] [0, 1, 2] [0, 1] (s' := ⟨[(0, (.v (.agg [(.arr 0)]))), (1, (.v (.one (.c (.int .i64 a1))))), (2, (.v (.one (.ptr 1 0))))], [(0, (.arr true a0.Bones.length 4 (gl cs_Bone a0.Bones))), (1, (.box [(.arr 0)]))]⟩) (ob := True ∧ True ∧ True) (by kernel_rfl) ⟨trivial, trivial, trivial⟩ ?_
  refine thenQ_normal ?_
  refine AW.seq ?_
  obtain ⟨v1, e2, h⟩ := bind_some h
  obtain ⟨c3, h⟩ := chk_some h
  refine AW.regionA [.no, .no, .no, .callM [(.one (.mu (sl 4 cs_Bone a0.Bones) (sl 4 cs_Bone v1.2))), .one (.ro (.int .i64 a1))] [.one (.int .i64 v1.1)] [[.view]] none] [0, 1] [0] (s' := ⟨[(0, (.v (.agg [(.arr 0)]))), (1, (.v (.one (.c (.int .i64 v1.1)))))], [(0, (.arr true v1.2.length 4 (gl cs_Bone v1.2)))]⟩) (ob := True ∧ True ∧ True ∧ (((((sl 4 cs_Bone a0.Bones) : C) = (sl 4 cs_Bone a0.Bones) ∧ v1.2.length = a0.Bones.length ∧ 4 = 4 ∧ ∀ i j, i < a0.Bones.length → j < 4 → isSeq (gl cs_Bone v1.2 i j) = isSeq (gl cs_Bone a0.Bones i j)) ∧ (((.int .i64 a1) : C) = (.int .i64 a1)) ∧ True) ∧ MutOK Try.prog 106 [(.one (.mu (sl 4 cs_Bone a0.Bones) (sl 4 cs_Bone v1.2))), .one (.ro (.int .i64 a1))] [.one (.int .i64 v1.1)]) ∧ True ∧ True) (by kernel_rfl) ⟨trivial, trivial, trivial, ⟨⟨⟨rfl, c3, rfl, gl_seq sq_Bone⟩, rfl, trivial⟩, ok_laws_markBoneS K a0.Bones a1 v1 e2⟩, trivial, trivial⟩ ?_
  refine thenQ_normal ?_
  refine AW.seq ?_
  refine AW.regionA [] [0, 1, 4] [0] (s' := ⟨[(0, (.v (.agg [(.arr 0)]))), (1, (.v (.one (.c (.int .i64 v1.1))))), (4, (.v (.one (.c (.int .i64 v1.1)))))], [(0, (.arr true v1.2.length 4 (gl cs_Bone v1.2)))]⟩) (ob := True ∧ True ∧ True) (by kernel_rfl) ⟨trivial, trivial, trivial⟩ ?_
  refine thenQ_normal ?_
  refine AW.ret ?_
  obtain ⟨c4, h⟩ := chk_some h
  replace h := some_eq h
  subst h
  exact ⟨.inr rfl, retOK_of [(.one (.c (.int .i64 v1.1)))] (by kernel_rfl) ⟨⟨rfl, trivial⟩, trivial⟩ (of_decide_eq_true (by kernel_rfl)), by kernel_rfl, ⟨⟨⟨c4, rfl, rfl⟩, trivial⟩, trivial, trivial⟩⟩

/-! laws.markKeyS -/
def laws_markKeyS_l1 (K : Nat) (a0 : (List Key)) : Nat → Int → Int → (List Key) → Option (Int × (List Key))
  | 0, _, _, _ => none
  | k + 1, x4, x5, x6 => ite2 ((decide (x5 < (x6.length : Int)))) (chk (0 ≤ x5 ∧ x5 < (x6.length : Int)) ((some (x6.set x5.toNat (Key.mk x4 ((x6.getD x5.toNat default).Turn)))).bind fun y9 => chk (0 ≤ x5 ∧ x5 < (y9.length : Int)) ((some (y9.set x5.toNat (Key.mk ((y9.getD x5.toNat default).At) (Turn.mk (Fl.ofInt .f32 (IntKind.i64.wrap (x4 + (1 : Int)))) (((y9.getD x5.toNat default).Turn).X) (((y9.getD x5.toNat default).Turn).Y) (((y9.getD x5.toNat default).Turn).Z))))).bind fun y12 => chk (0 ≤ x5 ∧ x5 < (y12.length : Int)) ((some (y12.set x5.toNat (Key.mk ((y12.getD x5.toNat default).At) (Turn.mk (((y12.getD x5.toNat default).Turn).W) (Fl.ofInt .f32 (IntKind.i64.wrap ((IntKind.i64.wrap (x4 + (1 : Int))) + (1 : Int)))) (((y12.getD x5.toNat default).Turn).Y) (((y12.getD x5.toNat default).Turn).Z))))).bind fun y15 => chk (0 ≤ x5 ∧ x5 < (y15.length : Int)) ((some (y15.set x5.toNat (Key.mk ((y15.getD x5.toNat default).At) (Turn.mk (((y15.getD x5.toNat default).Turn).W) (((y15.getD x5.toNat default).Turn).X) (Fl.ofInt .f32 (IntKind.i64.wrap ((IntKind.i64.wrap ((IntKind.i64.wrap (x4 + (1 : Int))) + (1 : Int))) + (1 : Int)))) (((y15.getD x5.toNat default).Turn).Z))))).bind fun y18 => chk (0 ≤ x5 ∧ x5 < (y18.length : Int)) ((some (y18.set x5.toNat (Key.mk ((y18.getD x5.toNat default).At) (Turn.mk (((y18.getD x5.toNat default).Turn).W) (((y18.getD x5.toNat default).Turn).X) (((y18.getD x5.toNat default).Turn).Y) (Fl.ofInt .f32 (IntKind.i64.wrap ((IntKind.i64.wrap ((IntKind.i64.wrap ((IntKind.i64.wrap (x4 + (1 : Int))) + (1 : Int))) + (1 : Int))) + (1 : Int)))))))).bind fun y21 => laws_markKeyS_l1 K a0 k (IntKind.i64.wrap ((IntKind.i64.wrap ((IntKind.i64.wrap ((IntKind.i64.wrap ((IntKind.i64.wrap (x4 + (1 : Int))) + (1 : Int))) + (1 : Int))) + (1 : Int))) + (1 : Int))) (IntKind.i64.wrap (x5 + (1 : Int))) y21)))))) (chk (x6.length = a0.length) (some (x4, x6)))

def laws_markKeyS (K : Nat) (a0 : (List Key)) (a1 : Int) : Option (Int × (List Key)) :=
  laws_markKeyS_l1 K a0 K a1 (0 : Int) a0

theorem ok_laws_markKeyS (K : Nat) (a0 : (List Key)) (a1 : Int) (o : (Int × (List Key))) (h : laws_markKeyS K a0 a1 = some o) : MutOK Try.prog 144 [(.one (.mu (sl 5 cs_Key a0) (sl 5 cs_Key o.2))), (.one (.ro (.int .i64 a1)))] [.one (.int .i64 o.1)] := by
  refine mutOK_of_AW 1 Try.func144 rfl (by kernel_rfl) (Nat.le_of_ble_eq_true (by kernel_rfl)) (by kernel_rfl) (by kernel_rfl) ?_
  intro w0 K0 v0 s0
  unfold laws_markKeyS at h
  refine AW.seq ?_
  refine AW.regionA [] [0, 1] [0] (s' := ⟨[(0, (.v (.one (.arr 0)))), (1, (.v (.one (.c (.int .i64 a1)))))], [(0, (.arr true a0.length 5 (gl cs_Key a0)))]⟩) (ob := True ∧ True) (by kernel_rfl) ⟨trivial, trivial⟩ ?_
  refine thenQ_normal ?_
  refine AW.seq ?_
  refine AW.seq ?_
  refine AW.regionA [] [0, 1, 5] [0] (s' := ⟨[(0, (.v (.one (.arr 0)))), (1, (.v (.one (.c (.int .i64 a1))))), (5, (.v (.one (.c (.int .i64 (0 : Int))))))], [(0, (.arr true a0.length 5 (gl cs_Key a0)))]⟩) (ob := True ∧ True) (by kernel_rfl) ⟨trivial, trivial⟩ ?_
  refine thenQ_normal ?_
  refine AW.block ?_
  refine AW.loopQ (σ := Nat × Int × Int × (List Key)) (fun p => ⟨[(0, (.v (.one (.arr 0)))), (1, (.v (.one (.c (.int .i64 p.2.1))))), (5, (.v (.one (.c (.int .i64 p.2.2.1)))))], [(0, (.arr true p.2.2.2.length 5 (gl cs_Key p.2.2.2)))]⟩) (fun p => laws_markKeyS_l1 K a0 p.1 p.2.1 p.2.2.1 p.2.2.2 = some o) (fun p => p.1) (K, a1, (0 : Int), a0) h ?_
  clear h
  rintro ⟨k, x4, x5, x6⟩ h
  replace h : laws_markKeyS_l1 K a0 k x4 x5 x6 = some o := h
  show AW _ _ (⟨[(0, (.v (.one (.arr 0)))), (1, (.v (.one (.c (.int .i64 x4))))), (5, (.v (.one (.c (.int .i64 x5)))))], [(0, (.arr true x6.length 5 (gl cs_Key x6)))]⟩ : St) _
  obtain _ | k := k
  · rw [laws_markKeyS_l1] at h; cases h
  rw [laws_markKeyS_l1] at h
  refine AW.seq ?_
  refine AW.seq ?_
  refine AW.regionA [] [0, 1, 5, 9] [0] (s' := ⟨[(0, (.v (.one (.arr 0)))), (1, (.v (.one (.c (.int .i64 x4))))), (5, (.v (.one (.c (.int .i64 x5))))), (9, (.v (.one (.c (.bool (decide (x5 < (x6.length : Int))))))))], [(0, (.arr true x6.length 5 (gl cs_Key x6)))]⟩) (ob := True ∧ True ∧ True ∧ True ∧ True) (by kernel_rfl) ⟨trivial, trivial, trivial, trivial, trivial⟩ ?_
  refine thenQ_normal ?_
  rcases ite2_cases h with ⟨b7, h⟩ | ⟨b7, h⟩
  · refine AW.cond_t rfl b7 ?_
    refine AW.skip ?_
    refine thenQ_normal ?_
    refine AW.seq ?_
    refine AW.block ?_
    refine AW.seq ?_
    obtain ⟨c8, h⟩ := chk_some h
    obtain ⟨y9, e10, h⟩ := bind_some h
    refine AW.regionA [.no, .no, .no, .no, .no, .set y9.length (gl cs_Key y9) ((List.range 1).map fun j => (cs_Key (Key.mk x4 ((x6.getD x5.toNat default).Turn))).getD (0 + j) .nilptr)] [0, 1, 5] [0] (s' := ⟨[(0, (.v (.one (.arr 0)))), (1, (.v (.one (.c (.int .i64 x4))))), (5, (.v (.one (.c (.int .i64 x5)))))], [(0, (.arr true y9.length 5 (gl cs_Key y9)))]⟩) (ob := True ∧ True ∧ True ∧ (0 ≤ x5 ∧ x5 < (x6.length : Int)) ∧ True ∧ (y9.length = x6.length ∧ SetOb x6.length 5 x5.toNat 0 1 (gl cs_Key x6) (gl cs_Key y9) ∧ ((List.range 1).map fun j => (cs_Key (Key.mk x4 ((x6.getD x5.toNat default).Turn))).getD (0 + j) .nilptr) = ((List.range 1).map fun j => gl cs_Key y9 x5.toNat (0 + j)) ∧ ((((.int .i64 x4) : C) = (.int .i64 x4) ∧ True) ∧ True) ∧ (true = true → ∀ j, j < 1 → isSeq (gl cs_Key x6 x5.toNat (0 + j)) = false ∧ isSeq (gl cs_Key y9 x5.toNat (0 + j)) = false)) ∧ True) (by kernel_rfl) ⟨trivial, trivial, trivial, c8, trivial, (letP (some_eq e10) (fun z => (z.length = x6.length ∧ SetOb x6.length 5 x5.toNat 0 1 (gl cs_Key x6) (gl cs_Key z) ∧ ((List.range 1).map fun j => (cs_Key (Key.mk x4 ((x6.getD x5.toNat default).Turn))).getD (0 + j) .nilptr) = ((List.range 1).map fun j => gl cs_Key z x5.toNat (0 + j)) ∧ ((((.int .i64 x4) : C) = (.int .i64 x4) ∧ True) ∧ True) ∧ (true = true → ∀ j, j < 1 → isSeq (gl cs_Key x6 x5.toNat (0 + j)) = false ∧ isSeq (gl cs_Key z x5.toNat (0 + j)) = false))) ⟨List.length_set, gl_setp (fun j hj hn => match j, hj, hn with | 0, _, hn => absurd ⟨by decide, by decide⟩ hn | 1, _, _ => rfl | 2, _, _ => rfl | 3, _, _ => rfl | 4, _, _ => rfl) (lt_of_bound c8), (gl_atp (lt_of_bound c8)).symm, ⟨⟨rfl, trivial⟩, trivial⟩, (fun _ j hj => match j, hj with | 0, _ => ⟨rfl, rfl⟩)⟩), trivial⟩ ?_
    refine thenQ_normal ?_
    refine AW.seq ?_
    refine AW.regionA [] [0, 1, 5] [0] (s' := ⟨[(0, (.v (.one (.arr 0)))), (1, (.v (.one (.c (.int .i64 (IntKind.i64.wrap (x4 + (1 : Int)))))))), (5, (.v (.one (.c (.int .i64 x5)))))], [(0, (.arr true y9.length 5 (gl cs_Key y9)))]⟩) (ob := True ∧ True ∧ True ∧ True) (by kernel_rfl) ⟨trivial, trivial, trivial, trivial⟩ ?_
    refine thenQ_normal ?_
    refine AW.seq ?_
    obtain ⟨c11, h⟩ := chk_some h
    obtain ⟨y12, e13, h⟩ := bind_some h
    refine AW.regionA [.no, .no, .no, .no, .no, .no, .no, .set y12.length (gl cs_Key y12) ((List.range 1).map fun j => (cs_Key (Key.mk ((y9.getD x5.toNat default).At) (Turn.mk (Fl.ofInt .f32 (IntKind.i64.wrap (x4 + (1 : Int)))) (((y9.getD x5.toNat default).Turn).X) (((y9.getD x5.toNat default).Turn).Y) (((y9.getD x5.toNat default).Turn).Z)))).getD (1 + j) .nilptr)] [0, 1, 5] [0] (s' := ⟨[(0, (.v (.one (.arr 0)))), (1, (.v (.one (.c (.int .i64 (IntKind.i64.wrap (x4 + (1 : Int)))))))), (5, (.v (.one (.c (.int .i64 x5)))))], [(0, (.arr true y12.length 5 (gl cs_Key y12)))]⟩) (ob := True ∧ True ∧ True ∧ True ∧ (0 ≤ x5 ∧ x5 < (y9.length : Int)) ∧ True ∧ True ∧ (y12.length = y9.length ∧ SetOb y9.length 5 x5.toNat 1 1 (gl cs_Key y9) (gl cs_Key y12) ∧ ((List.range 1).map fun j => (cs_Key (Key.mk ((y9.getD x5.toNat default).At) (Turn.mk (Fl.ofInt .f32 (IntKind.i64.wrap (x4 + (1 : Int)))) (((y9.getD x5.toNat default).Turn).X) (((y9.getD x5.toNat default).Turn).Y) (((y9.getD x5.toNat default).Turn).Z)))).getD (1 + j) .nilptr) = ((List.range 1).map fun j => gl cs_Key y12 x5.toNat (1 + j)) ∧ ((((.flt .f32 (Fl.ofInt .f32 (IntKind.i64.wrap (x4 + (1 : Int)))).bits) : C) = (.flt .f32 (Fl.ofInt .f32 (IntKind.i64.wrap (x4 + (1 : Int)))).bits) ∧ True) ∧ True) ∧ (true = true → ∀ j, j < 1 → isSeq (gl cs_Key y9 x5.toNat (1 + j)) = false ∧ isSeq (gl cs_Key y12 x5.toNat (1 + j)) = false)) ∧ True) (by kernel_rfl) ⟨trivial, trivial, trivial, trivial, c11, trivial, trivial, (letP (some_eq e13) (fun z => (z.length = y9.length ∧ SetOb y9.length 5 x5.toNat 1 1 (gl cs_Key y9) (gl cs_Key z) ∧ ((List.range 1).map fun j => (cs_Key (Key.mk ((y9.getD x5.toNat default).At) (Turn.mk (Fl.ofInt .f32 (IntKind.i64.wrap (x4 + (1 : Int)))) (((y9.getD x5.toNat default).Turn).X) (((y9.getD x5.toNat default).Turn).Y) (((y9.getD x5.toNat default).Turn).Z)))).getD (1 + j) .nilptr) = ((List.range 1).map fun j => gl cs_Key z x5.toNat (1 + j)) ∧ ((((.flt .f32 (Fl.ofInt .f32 (IntKind.i64.wrap (x4 + (1 : Int)))).bits) : C) = (.flt .f32 (Fl.ofInt .f32 (IntKind.i64.wrap (x4 + (1 : Int)))).bits) ∧ True) ∧ True) ∧ (true = true → ∀ j, j < 1 → isSeq (gl cs_Key y9 x5.toNat (1 + j)) = false ∧ isSeq (gl cs_Key z x5.toNat (1 + j)) = false))) ⟨List.length_set, gl_setp (fun j hj hn => match j, hj, hn with | 0, _, _ => rfl | 1, _, hn => absurd ⟨by decide, by decide⟩ hn | 2, _, _ => rfl | 3, _, _ => rfl | 4, _, _ => rfl) (lt_of_bound c11), (gl_atp (lt_of_bound c11)).symm, ⟨⟨rfl, trivial⟩, trivial⟩, (fun _ j hj => match j, hj with | 0, _ => ⟨rfl, rfl⟩)⟩), trivial⟩ ?_
    refine thenQ_normal ?_
    refine AW.seq ?_
    refine AW.regionA [] [0, 1, 5] [0] (s' := ⟨[(0, (.v (.one (.arr 0)))), (1, (.v (.one (.c (.int .i64 (IntKind.i64.wrap ((IntKind.i64.wrap (x4 + (1 : Int))) + (1 : Int)))))))), (5, (.v (.one (.c (.int .i64 x5)))))], [(0, (.arr true y12.length 5 (gl cs_Key y12)))]⟩) (ob := True ∧ True ∧ True ∧ True) (by kernel_rfl) ⟨trivial, trivial, trivial, trivial⟩ ?_
    refine thenQ_normal ?_
    refine AW.seq ?_
    obtain ⟨c14, h⟩ := chk_some h
    obtain ⟨y15, e16, h⟩ := bind_some h
    refine AW.regionA [.no, .no, .no, .no, .no, .no, .no, .set y15.length (gl cs_Key y15) ((List.range 1).map fun j => (cs_Key (Key.mk ((y12.getD x5.toNat default).At) (Turn.mk (((y12.getD x5.toNat default).Turn).W) (Fl.ofInt .f32 (IntKind.i64.wrap ((IntKind.i64.wrap (x4 + (1 : Int))) + (1 : Int)))) (((y12.getD x5.toNat default).Turn).Y) (((y12.getD x5.toNat default).Turn).Z)))).getD (2 + j) .nilptr)] [0, 1, 5] [0] (s' := ⟨[(0, (.v (.one (.arr 0)))), (1, (.v (.one (.c (.int .i64 (IntKind.i64.wrap ((IntKind.i64.wrap (x4 + (1 : Int))) + (1 : Int)))))))), (5, (.v (.one (.c (.int .i64 x5)))))], [(0, (.arr true y15.length 5 (gl cs_Key y15)))]⟩) (ob := True ∧ True ∧ True ∧ True ∧ (0 ≤ x5 ∧ x5 < (y12.length : Int)) ∧ True ∧ True ∧ (y15.length = y12.length ∧ SetOb y12.length 5 x5.toNat 2 1 (gl cs_Key y12) (gl cs_Key y15) ∧ ((List.range 1).map fun j => (cs_Key (Key.mk ((y12.getD x5.toNat default).At) (Turn.mk (((y12.getD x5.toNat default).Turn).W) (Fl.ofInt .f32 (IntKind.i64.wrap ((IntKind.i64.wrap (x4 + (1 : Int))) + (1 : Int)))) (((y12.getD x5.toNat default).Turn).Y) (((y12.getD x5.toNat default).Turn).Z)))).getD (2 + j) .nilptr) = ((List.range 1).map fun j => gl cs_Key y15 x5.toNat (2 + j)) ∧ ((((.flt .f32 (Fl.ofInt .f32 (IntKind.i64.wrap ((IntKind.i64.wrap (x4 + (1 : Int))) + (1 : Int)))).bits) : C) = (.flt .f32 (Fl.ofInt .f32 (IntKind.i64.wrap ((IntKind.i64.wrap (x4 + (1 : Int))) + (1 : Int)))).bits) ∧ True) ∧ True) ∧ (true = true → ∀ j, j < 1 → isSeq (gl cs_Key y12 x5.toNat (2 + j)) = false ∧ isSeq (gl cs_Key y15 x5.toNat (2 + j)) = false)) ∧ True) (by kernel_rfl) ⟨trivial, trivial, trivial, trivial, c14, trivial, trivial, (letP (some_eq e16) (fun z => (z.length = y12.length ∧ SetOb y12.length 5 x5.toNat 2 1 (gl cs_Key y12) (gl cs_Key z) ∧ ((List.range 1).map fun j => (cs_Key (Key.mk ((y12.getD x5.toNat default).At) (Turn.mk (((y12.getD x5.toNat default).Turn).W) (Fl.ofInt .f32 (IntKind.i64.wrap ((IntKind.i64.wrap (x4 + (1 : Int))) + (1 : Int)))) (((y12.getD x5.toNat default).Turn).Y) (((y12.getD x5.toNat default).Turn).Z)))).getD (2 + j) .nilptr) = ((List.range 1).map fun j => gl cs_Key z x5.toNat (2 + j)) ∧ ((((.flt .f32 (Fl.ofInt .f32 (IntKind.i64.wrap ((IntKind.i64.wrap (x4 + (1 : Int))) + (1 : Int)))).bits) : C) = (.flt .f32 (Fl.ofInt .f32 (IntKind.i64.wrap ((IntKind.i64.wrap (x4 + (1 : Int))) + (1 : Int)))).bits) ∧ True) ∧ True) ∧ (true = true → ∀ j, j < 1 → isSeq (gl cs_Key y12 x5.toNat (2 + j)) = false ∧ isSeq (gl cs_Key z x5.toNat (2 + j)) = false))) ⟨List.length_set, gl_setp (fun j hj hn => match j, hj, hn with | 0, _, _ => rfl | 1, _, _ => rfl | 2, _, hn => absurd ⟨by decide, by decide⟩ hn | 3, _, _ => rfl | 4, _, _ => rfl) (lt_of_bound c14), (gl_atp (lt_of_bound c14)).symm, ⟨⟨rfl, trivial⟩, trivial⟩, (fun _ j hj => match j, hj with | 0, _ => ⟨rfl, rfl⟩)⟩), trivial⟩ ?_
    refine thenQ_normal ?_
    refine AW.seq ?_
    refine AW.regionA [] [0, 1, 5] [0] (s' := ⟨[(0, (.v (.one (.arr 0)))), (1, (.v (.one (.c (.int .i64 (IntKind.i64.wrap ((IntKind.i64.wrap ((IntKind.i64.wrap (x4 + (1 : Int))) + (1 : Int))) + (1 : Int)))))))), (5, (.v (.one (.c (.int .i64 x5)))))], [(0, (.arr true y15.length 5 (gl cs_Key y15)))]⟩) (ob := True ∧ True ∧ True ∧ True) (by kernel_rfl) ⟨trivial, trivial, trivial, trivial⟩ ?_
    refine thenQ_normal ?_
    refine AW.seq ?_
    obtain ⟨c17, h⟩ := chk_some h
    obtain ⟨y18, e19, h⟩ := bind_some h
    refine AW.regionA [.no, .no, .no, .no, .no, .no, .no, .set y18.length (gl cs_Key y18) ((List.range 1).map fun j => (cs_Key (Key.mk ((y15.getD x5.toNat default).At) (Turn.mk (((y15.getD x5.toNat default).Turn).W) (((y15.getD x5.toNat default).Turn).X) (Fl.ofInt .f32 (IntKind.i64.wrap ((IntKind.i64.wrap ((IntKind.i64.wrap (x4 + (1 : Int))) + (1 : Int))) + (1 : Int)))) (((y15.getD x5.toNat default).Turn).Z)))).getD (3 + j) .nilptr)] [0, 1, 5] [0] (s' := ⟨[(0, (.v (.one (.arr 0)))), (1, (.v (.one (.c (.int .i64 (IntKind.i64.wrap ((IntKind.i64.wrap ((IntKind.i64.wrap (x4 + (1 : Int))) + (1 : Int))) + (1 : Int)))))))), (5, (.v (.one (.c (.int .i64 x5)))))], [(0, (.arr true y18.length 5 (gl cs_Key y18)))]⟩) (ob := True ∧ True ∧ True ∧ True ∧ (0 ≤ x5 ∧ x5 < (y15.length : Int)) ∧ True ∧ True ∧ (y18.length = y15.length ∧ SetOb y15.length 5 x5.toNat 3 1 (gl cs_Key y15) (gl cs_Key y18) ∧ ((List.range 1).map fun j => (cs_Key (Key.mk ((y15.getD x5.toNat default).At) (Turn.mk (((y15.getD x5.toNat default).Turn).W) (((y15.getD x5.toNat default).Turn).X) (Fl.ofInt .f32 (IntKind.i64.wrap ((IntKind.i64.wrap ((IntKind.i64.wrap (x4 + (1 : Int))) + (1 : Int))) + (1 : Int)))) (((y15.getD x5.toNat default).Turn).Z)))).getD (3 + j) .nilptr) = ((List.range 1).map fun j => gl cs_Key y18 x5.toNat (3 + j)) ∧ ((((.flt .f32 (Fl.ofInt .f32 (IntKind.i64.wrap ((IntKind.i64.wrap ((IntKind.i64.wrap (x4 + (1 : Int))) + (1 : Int))) + (1 : Int)))).bits) : C) = (.flt .f32 (Fl.ofInt .f32 (IntKind.i64.wrap ((IntKind.i64.wrap ((IntKind.i64.wrap (x4 + (1 : Int))) + (1 : Int))) + (1 : Int)))).bits) ∧ True) ∧ True) ∧ (true = true → ∀ j, j < 1 → isSeq (gl cs_Key y15 x5.toNat (3 + j)) = false ∧ isSeq (gl cs_Key y18 x5.toNat (3 + j)) = false)) ∧ True) (by kernel_rfl) ⟨trivial, trivial, trivial, trivial, c17, trivial, trivial, (letP (some_eq e19) (fun z => (z.length = y15.length ∧ SetOb y15.length 5 x5.toNat 3 1 (gl cs_Key y15) (gl cs_Key z) ∧ ((List.range 1).map fun j => (cs_Key (Key.mk ((y15.getD x5.toNat default).At) (Turn.mk (((y15.getD x5.toNat default).Turn).W) (((y15.getD x5.toNat default).Turn).X) (Fl.ofInt .f32 (IntKind.i64.wrap ((IntKind.i64.wrap ((IntKind.i64.wrap (x4 + (1 : Int))) + (1 : Int))) + (1 : Int)))) (((y15.getD x5.toNat default).Turn).Z)))).getD (3 + j) .nilptr) = ((List.range 1).map fun j => gl cs_Key z x5.toNat (3 + j)) ∧ ((((.flt .f32 (Fl.ofInt .f32 (IntKind.i64.wrap ((IntKind.i64.wrap ((IntKind.i64.wrap (x4 + (1 : Int))) + (1 : Int))) + (1 : Int)))).bits) : C) = (.flt .f32 (Fl.ofInt .f32 (IntKind.i64.wrap ((IntKind.i64.wrap ((IntKind.i64.wrap (x4 + (1 : Int))) + (1 : Int))) + (1 : Int)))).bits) ∧ True) ∧ True) ∧ (true = true → ∀ j, j < 1 → isSeq (gl cs_Key y15 x5.toNat (3 + j)) = false ∧ isSeq (gl cs_Key z x5.toNat (3 + j)) = false))) ⟨List.length_set, gl_setp (fun j hj hn => match j, hj, hn with | 0, _, _ => rfl | 1, _, _ => rfl | 2, _, _ => rfl | 3, _, hn => absurd ⟨by decide, by decide⟩ hn | 4, _, _ => rfl) (lt_of_bound c17), (gl_atp (lt_of_bound c17)).symm, ⟨⟨rfl, trivial⟩, trivial⟩, (fun _ j hj => match j, hj with | 0, _ => ⟨rfl, rfl⟩)⟩), trivial⟩ ?_
    refine thenQ_normal ?_
    refine AW.seq ?_
    refine AW.regionA [] [0, 1, 5] [0] (s' := ⟨[(0, (.v (.one (.arr 0)))), (1, (.v (.one (.c (.int .i64 (IntKind.i64.wrap ((IntKind.i64.wrap ((IntKind.i64.wrap ((IntKind.i64.wrap (x4 + (1 : Int))) + (1 : Int))) + (1 : Int))) + (1 : Int)))))))), (5, (.v (.one (.c (.int .i64 x5)))))], [(0, (.arr true y18.length 5 (gl cs_Key y18)))]⟩) (ob := True ∧ True ∧ True ∧ True) (by kernel_rfl) ⟨trivial, trivial, trivial, trivial⟩ ?_
    refine thenQ_normal ?_
    refine AW.seq ?_
    obtain ⟨c20, h⟩ := chk_some h
    obtain ⟨y21, e22, h⟩ := bind_some h
    refine AW.regionA [.no, .no, .no, .no, .no, .no, .no, .set y21.length (gl cs_Key y21) ((List.range 1).map fun j => (cs_Key (Key.mk ((y18.getD x5.toNat default).At) (Turn.mk (((y18.getD x5.toNat default).Turn).W) (((y18.getD x5.toNat default).Turn).X) (((y18.getD x5.toNat default).Turn).Y) (Fl.ofInt .f32 (IntKind.i64.wrap ((IntKind.i64.wrap ((IntKind.i64.wrap ((IntKind.i64.wrap (x4 + (1 : Int))) + (1 : Int))) + (1 : Int))) + (1 : Int))))))).getD (4 + j) .nilptr)] [0, 1, 5] [0] (s' := ⟨[(0, (.v (.one (.arr 0)))), (1, (.v (.one (.c (.int .i64 (IntKind.i64.wrap ((IntKind.i64.wrap ((IntKind.i64.wrap ((IntKind.i64.wrap (x4 + (1 : Int))) + (1 : Int))) + (1 : Int))) + (1 : Int)))))))), (5, (.v (.one (.c (.int .i64 x5)))))], [(0, (.arr true y21.length 5 (gl cs_Key y21)))]⟩) (ob := True ∧ True ∧ True ∧ True ∧ (0 ≤ x5 ∧ x5 < (y18.length : Int)) ∧ True ∧ True ∧ (y21.length = y18.length ∧ SetOb y18.length 5 x5.toNat 4 1 (gl cs_Key y18) (gl cs_Key y21) ∧ ((List.range 1).map fun j => (cs_Key (Key.mk ((y18.getD x5.toNat default).At) (Turn.mk (((y18.getD x5.toNat default).Turn).W) (((y18.getD x5.toNat default).Turn).X) (((y18.getD x5.toNat default).Turn).Y) (Fl.ofInt .f32 (IntKind.i64.wrap ((IntKind.i64.wrap ((IntKind.i64.wrap ((IntKind.i64.wrap (x4 + (1 : Int))) + (1 : Int))) + (1 : Int))) + (1 : Int))))))).getD (4 + j) .nilptr) = ((List.range 1).map fun j => gl cs_Key y21 x5.toNat (4 + j)) ∧ ((((.flt .f32 (Fl.ofInt .f32 (IntKind.i64.wrap ((IntKind.i64.wrap ((IntKind.i64.wrap ((IntKind.i64.wrap (x4 + (1 : Int))) + (1 : Int))) + (1 : Int))) + (1 : Int)))).bits) : C) = (.flt .f32 (Fl.ofInt .f32 (IntKind.i64.wrap ((IntKind.i64.wrap ((IntKind.i64.wrap ((IntKind.i64.wrap (x4 + (1 : Int))) + (1 : Int))) + (1 : Int))) + (1 : Int)))).bits) ∧ True) ∧ True) ∧ (true = true → ∀ j, j < 1 → isSeq (gl cs_Key y18 x5.toNat (4 + j)) = false ∧ isSeq (gl cs_Key y21 x5.toNat (4 + j)) = false)) ∧ True) (by kernel_rfl) ⟨trivial, trivial, trivial, trivial, c20, trivial, trivial, (letP (some_eq e22) (fun z => (z.length = y18.length ∧ SetOb y18.length 5 x5.toNat 4 1 (gl cs_Key y18) (gl cs_Key z) ∧ ((List.range 1).map fun j => (cs_Key (Key.mk ((y18.getD x5.toNat default).At) (Turn.mk (((y18.getD x5.toNat default).Turn).W) (((y18.getD x5.toNat default).Turn).X) (((y18.getD x5.toNat default).Turn).Y) (Fl.ofInt .f32 (IntKind.i64.wrap ((IntKind.i64.wrap ((IntKind.i64.wrap ((IntKind.i64.wrap (x4 + (1 : Int))) + (1 : Int))) + (1 : Int))) + (1 : Int))))))).getD (4 + j) .nilptr) = ((List.range 1).map fun j => gl cs_Key z x5.toNat (4 + j)) ∧ ((((.flt .f32 (Fl.ofInt .f32 (IntKind.i64.wrap ((IntKind.i64.wrap ((IntKind.i64.wrap ((IntKind.i64.wrap (x4 + (1 : Int))) + (1 : Int))) + (1 : Int))) + (1 : Int)))).bits) : C) = (.flt .f32 (Fl.ofInt .f32 (IntKind.i64.wrap ((IntKind.i64.wrap ((IntKind.i64.wrap ((IntKind.i64.wrap (x4 + (1 : Int))) + (1 : Int))) + (1 : Int))) + (1 : Int)))).bits) ∧ True) ∧ True) ∧ (true = true → ∀ j, j < 1 → isSeq (gl cs_Key y18 x5.toNat (4 + j)) = false ∧ isSeq (gl cs_Key z x5.toNat (4 + j)) = false))) ⟨List.length_set, gl_setp (fun j hj hn => match j, hj, hn with | 0, _, _ => rfl | 1, _, _ => rfl | 2, _, _ => rfl | 3, _, _ => rfl | 4, _, hn => absurd ⟨by decide, by decide⟩ hn) (lt_of_bound c20), (gl_atp (lt_of_bound c20)).symm, ⟨⟨rfl, trivial⟩, trivial⟩, (fun _ j hj => match j, hj with | 0, _ => ⟨rfl, rfl⟩)⟩), trivial⟩ ?_
    refine thenQ_normal ?_
    refine AW.regionA [] [0, 1, 5] [0] (s' := ⟨[(0, (.v (.one (.arr 0)))), (1, (.v (.one (.c (.int .i64 (IntKind.i64.wrap ((IntKind.i64.wrap ((IntKind.i64.wrap ((IntKind.i64.wrap ((IntKind.i64.wrap (x4 + (1 : Int))) + (1 : Int))) + (1 : Int))) + (1 : Int))) + (1 : Int)))))))), (5, (.v (.one (.c (.int .i64 x5)))))], [(0, (.arr true y21.length 5 (gl cs_Key y21)))]⟩) (ob := True ∧ True ∧ True ∧ True) (by kernel_rfl) ⟨trivial, trivial, trivial, trivial⟩ ?_
    refine blockQ_normal ?_
    refine thenQ_normal ?_
    refine AW.regionA [] [0, 1, 5] [0] (s' := ⟨[(0, (.v (.one (.arr 0)))), (1, (.v (.one (.c (.int .i64 (IntKind.i64.wrap ((IntKind.i64.wrap ((IntKind.i64.wrap ((IntKind.i64.wrap ((IntKind.i64.wrap (x4 + (1 : Int))) + (1 : Int))) + (1 : Int))) + (1 : Int))) + (1 : Int)))))))), (5, (.v (.one (.c (.int .i64 (IntKind.i64.wrap (x5 + (1 : Int))))))))], [(0, (.arr true y21.length 5 (gl cs_Key y21)))]⟩) (ob := True ∧ True ∧ True ∧ True) (by kernel_rfl) ⟨trivial, trivial, trivial, trivial⟩ ?_
    exact loopQ_normal (k, (IntKind.i64.wrap ((IntKind.i64.wrap ((IntKind.i64.wrap ((IntKind.i64.wrap ((IntKind.i64.wrap (x4 + (1 : Int))) + (1 : Int))) + (1 : Int))) + (1 : Int))) + (1 : Int))), (IntKind.i64.wrap (x5 + (1 : Int))), y21) h (Nat.lt_succ_self k) (Sub.keep [0, 1, 5] [0] (by kernel_rfl) (by kernel_rfl))
  · refine AW.cond_f rfl b7 ?_
    refine AW.exit ?_
    refine thenQ_exit ?_
    refine loopQ_exit ?_
    refine blockQ_exit ?_
    refine thenQ_normal ?_
    refine AW.seq ?_
    refine AW.regionA [] [0, 1, 4] [0] (s' := ⟨[(0, (.v (.one (.arr 0)))), (1, (.v (.one (.c (.int .i64 x4))))), (4, (.v (.one (.c (.int .i64 x4)))))], [(0, (.arr true x6.length 5 (gl cs_Key x6)))]⟩) (ob := True ∧ True ∧ True) (by kernel_rfl) ⟨trivial, trivial, trivial⟩ ?_
    refine thenQ_normal ?_
    refine AW.ret ?_
    obtain ⟨c23, h⟩ := chk_some h
    replace h := some_eq h
    subst h
    exact ⟨.inr rfl, retOK_of [(.one (.c (.int .i64 x4)))] (by kernel_rfl) ⟨⟨rfl, trivial⟩, trivial⟩ (of_decide_eq_true (by kernel_rfl)), by kernel_rfl, ⟨⟨c23, rfl, rfl⟩, trivial, trivial⟩⟩

/-! laws.markKeySS -/
def laws_markKeySS_l1 (K : Nat) (a0 : (List (List Key))) : Nat → Int → Int → (List (List Key)) → Option (Int × (List (List Key)))
  | 0, _, _, _ => none
  | k + 1, x4, x5, x6 => ite2 ((decide (x5 < (x6.length : Int)))) (chk (0 ≤ x5 ∧ x5 < (x6.length : Int)) ((laws_markKeyS K (x6.getD x5.toNat default) x4).bind fun v9 => laws_markKeySS_l1 K a0 k v9.1 (IntKind.i64.wrap (x5 + (1 : Int))) (x6.set x5.toNat v9.2))) (chk (x6.length = a0.length) (some (x4, x6)))

def laws_markKeySS (K : Nat) (a0 : (List (List Key))) (a1 : Int) : Option (Int × (List (List Key))) :=
  laws_markKeySS_l1 K a0 K a1 (0 : Int) a0

theorem ok_laws_markKeySS (K : Nat) (a0 : (List (List Key))) (a1 : Int) (o : (Int × (List (List Key)))) (h : laws_markKeySS K a0 a1 = some o) : MutOK Try.prog 70 [(.one (.mu (sl 1 (csL 5 cs_Key) a0) (sl 1 (csL 5 cs_Key) o.2))), (.one (.ro (.int .i64 a1)))] [.one (.int .i64 o.1)] := by
  refine mutOK_of_AW 1 Try.func70 rfl (by kernel_rfl) (Nat.le_of_ble_eq_true (by kernel_rfl)) (by kernel_rfl) (by kernel_rfl) ?_
  intro w0 K0 v0 s0
  unfold laws_markKeySS at h
  refine AW.seq ?_
  refine AW.regionA [] [0, 1] [0] (s' := ⟨[(0, (.v (.one (.arr 0)))), (1, (.v (.one (.c (.int .i64 a1)))))], [(0, (.arr true a0.length 1 (gl (csL 5 cs_Key) a0)))]⟩) (ob := True ∧ True) (by kernel_rfl) ⟨trivial, trivial⟩ ?_
  refine thenQ_normal ?_
  refine AW.seq ?_
  refine AW.seq ?_
  refine AW.regionA [] [0, 1, 5] [0] (s' := ⟨[(0, (.v (.one (.arr 0)))), (1, (.v (.one (.c (.int .i64 a1))))), (5, (.v (.one (.c (.int .i64 (0 : Int))))))], [(0, (.arr true a0.length 1 (gl (csL 5 cs_Key) a0)))]⟩) (ob := True ∧ True) (by kernel_rfl) ⟨trivial, trivial⟩ ?_
  refine thenQ_normal ?_
  refine AW.block ?_
  refine AW.loopQ (σ := Nat × Int × Int × (List (List Key))) (fun p => ⟨[(0, (.v (.one (.arr 0)))), (1, (.v (.one (.c (.int .i64 p.2.1))))), (5, (.v (.one (.c (.int .i64 p.2.2.1)))))], [(0, (.arr true p.2.2.2.length 1 (gl (csL 5 cs_Key) p.2.2.2)))]⟩) (fun p => laws_markKeySS_l1 K a0 p.1 p.2.1 p.2.2.1 p.2.2.2 = some o) (fun p => p.1) (K, a1, (0 : Int), a0) h ?_
  clear h
  rintro ⟨k, x4, x5, x6⟩ h
  replace h : laws_markKeySS_l1 K a0 k x4 x5 x6 = some o := h
  show AW _ _ (⟨[(0, (.v (.one (.arr 0)))), (1, (.v (.one (.c (.int .i64 x4))))), (5, (.v (.one (.c (.int .i64 x5)))))], [(0, (.arr true x6.length 1 (gl (csL 5 cs_Key) x6)))]⟩ : St) _
  obtain _ | k := k
  · rw [laws_markKeySS_l1] at h; cases h
  rw [laws_markKeySS_l1] at h
  refine AW.seq ?_
  refine AW.seq ?_
  refine AW.regionA [] [0, 1, 5, 9] [0] (s' := ⟨[(0, (.v (.one (.arr 0)))), (1, (.v (.one (.c (.int .i64 x4))))), (5, (.v (.one (.c (.int .i64 x5))))), (9, (.v (.one (.c (.bool (decide (x5 < (x6.length : Int))))))))], [(0, (.arr true x6.length 1 (gl (csL 5 cs_Key) x6)))]⟩) (ob := True ∧ True ∧ True ∧ True ∧ True) (by kernel_rfl) ⟨trivial, trivial, trivial, trivial, trivial⟩ ?_
  refine thenQ_normal ?_
  rcases ite2_cases h with ⟨b7, h⟩ | ⟨b7, h⟩
  · refine AW.cond_t rfl b7 ?_
    refine AW.skip ?_
    refine thenQ_normal ?_
    refine AW.seq ?_
    refine AW.block ?_
    obtain ⟨c8, h⟩ := chk_some h
    obtain ⟨v9, e10, h⟩ := bind_some h
    refine AW.regionA [.no, .no, .no, .no, .no, .callM [(.one (.mu (sl 5 cs_Key (x6.getD x5.toNat default)) (sl 5 cs_Key v9.2))), .one (.ro (.int .i64 x4))] [.one (.int .i64 v9.1)] [[.view]] (some ((x6.set x5.toNat v9.2).length, gl (csL 5 cs_Key) (x6.set x5.toNat v9.2)))] [0, 1, 5] [0] (s' := ⟨[(0, (.v (.one (.arr 0)))), (1, (.v (.one (.c (.int .i64 v9.1))))), (5, (.v (.one (.c (.int .i64 x5)))))], [(0, (.arr true (x6.set x5.toNat v9.2).length 1 (gl (csL 5 cs_Key) (x6.set x5.toNat v9.2))))]⟩) (ob := True ∧ True ∧ (0 ≤ x5 ∧ x5 < (x6.length : Int)) ∧ True ∧ True ∧ ((((x6.set x5.toNat v9.2).length = x6.length ∧ ((sl 5 cs_Key (x6.getD x5.toNat default)) : C) = gl (csL 5 cs_Key) x6 x5.toNat 0 ∧ gl (csL 5 cs_Key) (x6.set x5.toNat v9.2) x5.toNat 0 = ((sl 5 cs_Key v9.2) : C) ∧ isSeq (sl 5 cs_Key v9.2) = true ∧ SetOb x6.length 1 x5.toNat 0 1 (gl (csL 5 cs_Key) x6) (gl (csL 5 cs_Key) (x6.set x5.toNat v9.2))) ∧ (((.int .i64 x4) : C) = (.int .i64 x4)) ∧ True) ∧ MutOK Try.prog 144 [(.one (.mu (sl 5 cs_Key (x6.getD x5.toNat default)) (sl 5 cs_Key v9.2))), .one (.ro (.int .i64 x4))] [.one (.int .i64 v9.1)]) ∧ True ∧ True) (by kernel_rfl) ⟨trivial, trivial, c8, trivial, trivial, ⟨⟨⟨List.length_set, rfl, gl_cell (lt_of_bound c8) rfl, rfl, gl_setp (fun j hj hn => match j, hj, hn with | 0, _, hn => absurd ⟨by decide, by decide⟩ hn) (lt_of_bound c8)⟩, rfl, trivial⟩, ok_laws_markKeyS K (x6.getD x5.toNat default) x4 v9 e10⟩, trivial, trivial⟩ ?_
    refine blockQ_normal ?_
    refine thenQ_normal ?_
    refine AW.regionA [] [0, 1, 5] [0] (s' := ⟨[(0, (.v (.one (.arr 0)))), (1, (.v (.one (.c (.int .i64 v9.1))))), (5, (.v (.one (.c (.int .i64 (IntKind.i64.wrap (x5 + (1 : Int))))))))], [(0, (.arr true (x6.set x5.toNat v9.2).length 1 (gl (csL 5 cs_Key) (x6.set x5.toNat v9.2))))]⟩) (ob := True ∧ True ∧ True ∧ True) (by kernel_rfl) ⟨trivial, trivial, trivial, trivial⟩ ?_
    exact loopQ_normal (k, v9.1, (IntKind.i64.wrap (x5 + (1 : Int))), (x6.set x5.toNat v9.2)) h (Nat.lt_succ_self k) (Sub.keep [0, 1, 5] [0] (by kernel_rfl) (by kernel_rfl))
  · refine AW.cond_f rfl b7 ?_
    refine AW.exit ?_
    refine thenQ_exit ?_
    refine loopQ_exit ?_
    refine blockQ_exit ?_
    refine thenQ_normal ?_
    refine AW.seq ?_
    refine AW.regionA [] [0, 1, 4] [0] (s' := ⟨[(0, (.v (.one (.arr 0)))), (1, (.v (.one (.c (.int .i64 x4))))), (4, (.v (.one (.c (.int .i64 x4)))))], [(0, (.arr true x6.length 1 (gl (csL 5 cs_Key) x6)))]⟩) (ob := True ∧ True ∧ True) (by kernel_rfl) ⟨trivial, trivial, trivial⟩ ?_
    refine thenQ_normal ?_
    refine AW.ret ?_
    obtain ⟨c11, h⟩ := chk_some h
    replace h := some_eq h
    subst h
    exact ⟨.inr rfl, retOK_of [(.one (.c (.int .i64 x4)))] (by kernel_rfl) ⟨⟨rfl, trivial⟩, trivial⟩ (of_decide_eq_true (by kernel_rfl)), by kernel_rfl, ⟨⟨c11, rfl, rfl⟩, trivial, trivial⟩⟩

/-! laws.markRootKeyS -/
def laws_markRootKeyS_l1 (K : Nat) (a0 : (List RootKey)) : Nat → Int → Int → (List RootKey) → Option (Int × (List RootKey))
  | 0, _, _, _ => none
  | k + 1, x4, x5, x6 => ite2 ((decide (x5 < (x6.length : Int)))) (chk (0 ≤ x5 ∧ x5 < (x6.length : Int)) ((some (x6.set x5.toNat (RootKey.mk x4 ((x6.getD x5.toNat default).Place)))).bind fun y9 => chk (0 ≤ x5 ∧ x5 < (y9.length : Int)) ((some (y9.set x5.toNat (RootKey.mk ((y9.getD x5.toNat default).At) (Vector.mk (Fl.ofInt .f32 (IntKind.i64.wrap (x4 + (1 : Int)))) (((y9.getD x5.toNat default).Place).Y) (((y9.getD x5.toNat default).Place).Z))))).bind fun y12 => chk (0 ≤ x5 ∧ x5 < (y12.length : Int)) ((some (y12.set x5.toNat (RootKey.mk ((y12.getD x5.toNat default).At) (Vector.mk (((y12.getD x5.toNat default).Place).X) (Fl.ofInt .f32 (IntKind.i64.wrap ((IntKind.i64.wrap (x4 + (1 : Int))) + (1 : Int)))) (((y12.getD x5.toNat default).Place).Z))))).bind fun y15 => chk (0 ≤ x5 ∧ x5 < (y15.length : Int)) ((some (y15.set x5.toNat (RootKey.mk ((y15.getD x5.toNat default).At) (Vector.mk (((y15.getD x5.toNat default).Place).X) (((y15.getD x5.toNat default).Place).Y) (Fl.ofInt .f32 (IntKind.i64.wrap ((IntKind.i64.wrap ((IntKind.i64.wrap (x4 + (1 : Int))) + (1 : Int))) + (1 : Int)))))))).bind fun y18 => laws_markRootKeyS_l1 K a0 k (IntKind.i64.wrap ((IntKind.i64.wrap ((IntKind.i64.wrap ((IntKind.i64.wrap (x4 + (1 : Int))) + (1 : Int))) + (1 : Int))) + (1 : Int))) (IntKind.i64.wrap (x5 + (1 : Int))) y18))))) (chk (x6.length = a0.length) (some (x4, x6)))

def laws_markRootKeyS (K : Nat) (a0 : (List RootKey)) (a1 : Int) : Option (Int × (List RootKey)) :=
  laws_markRootKeyS_l1 K a0 K a1 (0 : Int) a0

theorem ok_laws_markRootKeyS (K : Nat) (a0 : (List RootKey)) (a1 : Int) (o : (Int × (List RootKey))) (h : laws_markRootKeyS K a0 a1 = some o) : MutOK Try.prog 71 [(.one (.mu (sl 4 cs_RootKey a0) (sl 4 cs_RootKey o.2))), (.one (.ro (.int .i64 a1)))] [.one (.int .i64 o.1)] := by
  refine mutOK_of_AW 1 Try.func71 rfl (by kernel_rfl) (Nat.le_of_ble_eq_true (by kernel_rfl)) (by kernel_rfl) (by kernel_rfl) ?_
  intro w0 K0 v0 s0
  unfold laws_markRootKeyS at h
  refine AW.seq ?_
  refine AW.regionA [] [0, 1] [0] (s' := ⟨[(0, (.v (.one (.arr 0)))), (1, (.v (.one (.c (.int .i64 a1)))))], [(0, (.arr true a0.length 4 (gl cs_RootKey a0)))]⟩) (ob := True ∧ True) (by kernel_rfl) ⟨trivial, trivial⟩ ?_
  refine thenQ_normal ?_
  refine AW.seq ?_
  refine AW.seq ?_
  refine AW.regionA [] [0, 1, 5] [0] (s' := ⟨[(0, (.v (.one (.arr 0)))), (1, (.v (.one (.c (.int .i64 a1))))), (5, (.v (.one (.c (.int .i64 (0 : Int))))))], [(0, (.arr true a0.length 4 (gl cs_RootKey a0)))]⟩) (ob := True ∧ True) (by kernel_rfl) ⟨trivial, trivial⟩ ?_
  refine thenQ_normal ?_
  refine AW.block ?_
  refine AW.loopQ (σ := Nat × Int × Int × (List RootKey)) (fun p => ⟨[(0, (.v (.one (.arr 0)))), (1, (.v (.one (.c (.int .i64 p.2.1))))), (5, (.v (.one (.c (.int .i64 p.2.2.1)))))], [(0, (.arr true p.2.2.2.length 4 (gl cs_RootKey p.2.2.2)))]⟩) (fun p => laws_markRootKeyS_l1 K a0 p.1 p.2.1 p.2.2.1 p.2.2.2 = some o) (fun p => p.1) (K, a1, (0 : Int), a0) h ?_
  clear h
  rintro ⟨k, x4, x5, x6⟩ h
  replace h : laws_markRootKeyS_l1 K a0 k x4 x5 x6 = some o := h
  show AW _ _ (⟨[(0, (.v (.one (.arr 0)))), (1, (.v (.one (.c (.int .i64 x4))))), (5, (.v (.one (.c (.int .i64 x5)))))], [(0, (.arr true x6.length 4 (gl cs_RootKey x6)))]⟩ : St) _
  obtain _ | k := k
  · rw [laws_markRootKeyS_l1] at h; cases h
  rw [laws_markRootKeyS_l1] at h
  refine AW.seq ?_
  refine AW.seq ?_
  refine AW.regionA [] [0, 1, 5, 9] [0] (s' := ⟨[(0, (.v (.one (.arr 0)))), (1, (.v (.one (.c (.int .i64 x4))))), (5, (.v (.one (.c (.int .i64 x5))))), (9, (.v (.one (.c (.bool (decide (x5 < (x6.length : Int))))))))], [(0, (.arr true x6.length 4 (gl cs_RootKey x6)))]⟩) (ob := True ∧ True ∧ True ∧ True ∧ True) (by kernel_rfl) ⟨trivial, trivial, trivial, trivial, trivial⟩ ?_
  refine thenQ_normal ?_
  rcases ite2_cases h with ⟨b7, h⟩ | ⟨b7, h⟩
  · refine AW.cond_t rfl b7 ?_
    refine AW.skip ?_
    refine thenQ_normal ?_
    refine AW.seq ?_
    refine AW.block ?_
    refine AW.seq ?_
    obtain ⟨c8, h⟩ := chk_some h
    obtain ⟨y9, e10, h⟩ := bind_some h
    refine AW.regionA [.no, .no, .no, .no, .no, .set y9.length (gl cs_RootKey y9) ((List.range 1).map fun j => (cs_RootKey (RootKey.mk x4 ((x6.getD x5.toNat default).Place))).getD (0 + j) .nilptr)] [0, 1, 5] [0] (s' := ⟨[(0, (.v (.one (.arr 0)))), (1, (.v (.one (.c (.int .i64 x4))))), (5, (.v (.one (.c (.int .i64 x5)))))], [(0, (.arr true y9.length 4 (gl cs_RootKey y9)))]⟩) (ob := True ∧ True ∧ True ∧ (0 ≤ x5 ∧ x5 < (x6.length : Int)) ∧ True ∧ (y9.length = x6.length ∧ SetOb x6.length 4 x5.toNat 0 1 (gl cs_RootKey x6) (gl cs_RootKey y9) ∧ ((List.range 1).map fun j => (cs_RootKey (RootKey.mk x4 ((x6.getD x5.toNat default).Place))).getD (0 + j) .nilptr) = ((List.range 1).map fun j => gl cs_RootKey y9 x5.toNat (0 + j)) ∧ ((((.int .i64 x4) : C) = (.int .i64 x4) ∧ True) ∧ True) ∧ (true = true → ∀ j, j < 1 → isSeq (gl cs_RootKey x6 x5.toNat (0 + j)) = false ∧ isSeq (gl cs_RootKey y9 x5.toNat (0 + j)) = false)) ∧ True) (by kernel_rfl) ⟨trivial, trivial, trivial, c8, trivial, (letP (some_eq e10) (fun z => (z.length = x6.length ∧ SetOb x6.length 4 x5.toNat 0 1 (gl cs_RootKey x6) (gl cs_RootKey z) ∧ ((List.range 1).map fun j => (cs_RootKey (RootKey.mk x4 ((x6.getD x5.toNat default).Place))).getD (0 + j) .nilptr) = ((List.range 1).map fun j => gl cs_RootKey z x5.toNat (0 + j)) ∧ ((((.int .i64 x4) : C) = (.int .i64 x4) ∧ True) ∧ True) ∧ (true = true → ∀ j, j < 1 → isSeq (gl cs_RootKey x6 x5.toNat (0 + j)) = false ∧ isSeq (gl cs_RootKey z x5.toNat (0 + j)) = false))) ⟨List.length_set, gl_setp (fun j hj hn => match j, hj, hn with | 0, _, hn => absurd ⟨by decide, by decide⟩ hn | 1, _, _ => rfl | 2, _, _ => rfl | 3, _, _ => rfl) (lt_of_bound c8), (gl_atp (lt_of_bound c8)).symm, ⟨⟨rfl, trivial⟩, trivial⟩, (fun _ j hj => match j, hj with | 0, _ => ⟨rfl, rfl⟩)⟩), trivial⟩ ?_
    refine thenQ_normal ?_
    refine AW.seq ?_
    refine AW.regionA [] [0, 1, 5] [0] (s' := ⟨[(0, (.v (.one (.arr 0)))), (1, (.v (.one (.c (.int .i64 (IntKind.i64.wrap (x4 + (1 : Int)))))))), (5, (.v (.one (.c (.int .i64 x5)))))], [(0, (.arr true y9.length 4 (gl cs_RootKey y9)))]⟩) (ob := True ∧ True ∧ True ∧ True) (by kernel_rfl) ⟨trivial, trivial, trivial, trivial⟩ ?_
    refine thenQ_normal ?_
    refine AW.seq ?_
    obtain ⟨c11, h⟩ := chk_some h
    obtain ⟨y12, e13, h⟩ := bind_some h
    refine AW.regionA [.no, .no, .no, .no, .no, .no, .no, .set y12.length (gl cs_RootKey y12) ((List.range 1).map fun j => (cs_RootKey (RootKey.mk ((y9.getD x5.toNat default).At) (Vector.mk (Fl.ofInt .f32 (IntKind.i64.wrap (x4 + (1 : Int)))) (((y9.getD x5.toNat default).Place).Y) (((y9.getD x5.toNat default).Place).Z)))).getD (1 + j) .nilptr)] [0, 1, 5] [0] (s' := ⟨[(0, (.v (.one (.arr 0)))), (1, (.v (.one (.c (.int .i64 (IntKind.i64.wrap (x4 + (1 : Int)))))))), (5, (.v (.one (.c (.int .i64 x5)))))], [(0, (.arr true y12.length 4 (gl cs_RootKey y12)))]⟩) (ob := True ∧ True ∧ True ∧ True ∧ (0 ≤ x5 ∧ x5 < (y9.length : Int)) ∧ True ∧ True ∧ (y12.length = y9.length ∧ SetOb y9.length 4 x5.toNat 1 1 (gl cs_RootKey y9) (gl cs_RootKey y12) ∧ ((List.range 1).map fun j => (cs_RootKey (RootKey.mk ((y9.getD x5.toNat default).At) (Vector.mk (Fl.ofInt .f32 (IntKind.i64.wrap (x4 + (1 : Int)))) (((y9.getD x5.toNat default).Place).Y) (((y9.getD x5.toNat default).Place).Z)))).getD (1 + j) .nilptr) = ((List.range 1).map fun j => gl cs_RootKey y12 x5.toNat (1 + j)) ∧ ((((.flt .f32 (Fl.ofInt .f32 (IntKind.i64.wrap (x4 + (1 : Int)))).bits) : C) = (.flt .f32 (Fl.ofInt .f32 (IntKind.i64.wrap (x4 + (1 : Int)))).bits) ∧ True) ∧ True) ∧ (true = true → ∀ j, j < 1 → isSeq (gl cs_RootKey y9 x5.toNat (1 + j)) = false ∧ isSeq (gl cs_RootKey y12 x5.toNat (1 + j)) = false)) ∧ True) (by kernel_rfl) ⟨trivial, trivial, trivial, trivial, c11, trivial, trivial, (letP (some_eq e13) (fun z => (z.length = y9.length ∧ SetOb y9.length 4 x5.toNat 1 1 (gl cs_RootKey y9) (gl cs_RootKey z) ∧ ((List.range 1).map fun j => (cs_RootKey (RootKey.mk ((y9.getD x5.toNat default).At) (Vector.mk (Fl.ofInt .f32 (IntKind.i64.wrap (x4 + (1 : Int)))) (((y9.getD x5.toNat default).Place).Y) (((y9.getD x5.toNat default).Place).Z)))).getD (1 + j) .nilptr) = ((List.range 1).map fun j => gl cs_RootKey z x5.toNat (1 + j)) ∧ ((((.flt .f32 (Fl.ofInt .f32 (IntKind.i64.wrap (x4 + (1 : Int)))).bits) : C) = (.flt .f32 (Fl.ofInt .f32 (IntKind.i64.wrap (x4 + (1 : Int)))).bits) ∧ True) ∧ True) ∧ (true = true → ∀ j, j < 1 → isSeq (gl cs_RootKey y9 x5.toNat (1 + j)) = false ∧ isSeq (gl cs_RootKey z x5.toNat (1 + j)) = false))) ⟨List.length_set, gl_setp (fun j hj hn => match j, hj, hn with | 0, _, _ => rfl | 1, _, hn => absurd ⟨by decide, by decide⟩ hn | 2, _, _ => rfl | 3, _, _ => rfl) (lt_of_bound c11), (gl_atp (lt_of_bound c11)).symm, ⟨⟨rfl, trivial⟩, trivial⟩, (fun _ j hj => match j, hj with | 0, _ => ⟨rfl, rfl⟩)⟩), trivial⟩ ?_
    refine thenQ_normal ?_
    refine AW.seq ?_
    refine AW.regionA [] [0, 1, 5] [0] (s' := ⟨[(0, (.v (.one (.arr 0)))), (1, (.v (.one (.c (.int .i64 (IntKind.i64.wrap ((IntKind.i64.wrap (x4 + (1 : Int))) + (1 : Int)))))))), (5, (.v (.one (.c (.int .i64 x5)))))], [(0, (.arr true y12.length 4 (gl cs_RootKey y12)))]⟩) (ob := True ∧ True ∧ True ∧ True) (by kernel_rfl) ⟨trivial, trivial, trivial, trivial⟩ ?_
    refine thenQ_normal ?_
    refine AW.seq ?_
    obtain ⟨c14, h⟩ := chk_some h
    obtain ⟨y15, e16, h⟩ := bind_some h
    refine AW.regionA [.no, .no, .no, .no, .no, .no, .no, .set y15.length (gl cs_RootKey y15) ((List.range 1).map fun j => (cs_RootKey (RootKey.mk ((y12.getD x5.toNat default).At) (Vector.mk (((y12.getD x5.toNat default).Place).X) (Fl.ofInt .f32 (IntKind.i64.wrap ((IntKind.i64.wrap (x4 + (1 : Int))) + (1 : Int)))) (((y12.getD x5.toNat default).Place).Z)))).getD (2 + j) .nilptr)] [0, 1, 5] [0] (s' := ⟨[(0, (.v (.one (.arr 0)))), (1, (.v (.one (.c (.int .i64 (IntKind.i64.wrap ((IntKind.i64.wrap (x4 + (1 : Int))) + (1 : Int)))))))), (5, (.v (.one (.c (.int .i64 x5)))))], [(0, (.arr true y15.length 4 (gl cs_RootKey y15)))]⟩) (ob := True ∧ True ∧ True ∧ True ∧ (0 ≤ x5 ∧ x5 < (y12.length : Int)) ∧ True ∧ True ∧ (y15.length = y12.length ∧ SetOb y12.length 4 x5.toNat 2 1 (gl cs_RootKey y12) (gl cs_RootKey y15) ∧ ((List.range 1).map fun j => (cs_RootKey (RootKey.mk ((y12.getD x5.toNat default).At) (Vector.mk (((y12.getD x5.toNat default).Place).X) (Fl.ofInt .f32 (IntKind.i64.wrap ((IntKind.i64.wrap (x4 + (1 : Int))) + (1 : Int)))) (((y12.getD x5.toNat default).Place).Z)))).getD (2 + j) .nilptr) = ((List.range 1).map fun j => gl cs_RootKey y15 x5.toNat (2 + j)) ∧ ((((.flt .f32 (Fl.ofInt .f32 (IntKind.i64.wrap ((IntKind.i64.wrap (x4 + (1 : Int))) + (1 : Int)))).bits) : C) = (.flt .f32 (Fl.ofInt .f32 (IntKind.i64.wrap ((IntKind.i64.wrap (x4 + (1 : Int))) + (1 : Int)))).bits) ∧ True) ∧ True) ∧ (true = true → ∀ j, j < 1 → isSeq (gl cs_RootKey y12 x5.toNat (2 + j)) = false ∧ isSeq (gl cs_RootKey y15 x5.toNat (2 + j)) = false)) ∧ True) (by kernel_rfl) ⟨trivial, trivial, trivial, trivial, c14, trivial, trivial, (letP (some_eq e16) (fun z => (z.length = y12.length ∧ SetOb y12.length 4 x5.toNat 2 1 (gl cs_RootKey y12) (gl cs_RootKey z) ∧ ((List.range 1).map fun j => (cs_RootKey (RootKey.mk ((y12.getD x5.toNat default).At) (Vector.mk (((y12.getD x5.toNat default).Place).X) (Fl.ofInt .f32 (IntKind.i64.wrap ((IntKind.i64.wrap (x4 + (1 : Int))) + (1 : Int)))) (((y12.getD x5.toNat default).Place).Z)))).getD (2 + j) .nilptr) = ((List.range 1).map fun j => gl cs_RootKey z x5.toNat (2 + j)) ∧ ((((.flt .f32 (Fl.ofInt .f32 (IntKind.i64.wrap ((IntKind.i64.wrap (x4 + (1 : Int))) + (1 : Int)))).bits) : C) = (.flt .f32 (Fl.ofInt .f32 (IntKind.i64.wrap ((IntKind.i64.wrap (x4 + (1 : Int))) + (1 : Int)))).bits) ∧ True) ∧ True) ∧ (true = true → ∀ j, j < 1 → isSeq (gl cs_RootKey y12 x5.toNat (2 + j)) = false ∧ isSeq (gl cs_RootKey z x5.toNat (2 + j)) = false))) ⟨List.length_set, gl_setp (fun j hj hn => match j, hj, hn with | 0, _, _ => rfl | 1, _, _ => rfl | 2, _, hn => absurd ⟨by decide, by decide⟩ hn | 3, _, _ => rfl) (lt_of_bound c14), (gl_atp (lt_of_bound c14)).symm, ⟨⟨rfl, trivial⟩, trivial⟩, (fun _ j hj => match j, hj with | 0, _ => ⟨rfl, rfl⟩)⟩), trivial⟩ ?_
    refine thenQ_normal ?_
    refine AW.seq ?_
    refine AW.regionA [] [0, 1, 5] [0] (s' := ⟨[(0, (.v (.one (.arr 0)))), (1, (.v (.one (.c (.int .i64 (IntKind.i64.wrap ((IntKind.i64.wrap ((IntKind.i64.wrap (x4 + (1 : Int))) + (1 : Int))) + (1 : Int)))))))), (5, (.v (.one (.c (.int .i64 x5)))))], [(0, (.arr true y15.length 4 (gl cs_RootKey y15)))]⟩) (ob := True ∧ True ∧ True ∧ True) (by kernel_rfl) ⟨trivial, trivial, trivial, trivial⟩ ?_
    refine thenQ_normal ?_
    refine AW.seq ?_
    obtain ⟨c17, h⟩ := chk_some h
    obtain ⟨y18, e19, h⟩ := bind_some h
    refine AW.regionA [.no, .no, .no, .no, .no, .no, .no, .set y18.length (gl cs_RootKey y18) ((List.range 1).map fun j => (cs_RootKey (RootKey.mk ((y15.getD x5.toNat default).At) (Vector.mk (((y15.getD x5.toNat default).Place).X) (((y15.getD x5.toNat default).Place).Y) (Fl.ofInt .f32 (IntKind.i64.wrap ((IntKind.i64.wrap ((IntKind.i64.wrap (x4 + (1 : Int))) + (1 : Int))) + (1 : Int))))))).getD (3 + j) .nilptr)] [0, 1, 5] [0] (s' := ⟨[(0, (.v (.one (.arr 0)))), (1, (.v (.one (.c (.int .i64 (IntKind.i64.wrap ((IntKind.i64.wrap ((IntKind.i64.wrap (x4 + (1 : Int))) + (1 : Int))) + (1 : Int)))))))), (5, (.v (.one (.c (.int .i64 x5)))))], [(0, (.arr true y18.length 4 (gl cs_RootKey y18)))]⟩) (ob := True ∧ True ∧ True ∧ True ∧ (0 ≤ x5 ∧ x5 < (y15.length : Int)) ∧ True ∧ True ∧ (y18.length = y15.length ∧ SetOb y15.length 4 x5.toNat 3 1 (gl cs_RootKey y15) (gl cs_RootKey y18) ∧ ((List.range 1).map fun j => (cs_RootKey (RootKey.mk ((y15.getD x5.toNat default).At) (Vector.mk (((y15.getD x5.toNat default).Place).X) (((y15.getD x5.toNat default).Place).Y) (Fl.ofInt .f32 (IntKind.i64.wrap ((IntKind.i64.wrap ((IntKind.i64.wrap (x4 + (1 : Int))) + (1 : Int))) + (1 : Int))))))).getD (3 + j) .nilptr) = ((List.range 1).map fun j => gl cs_RootKey y18 x5.toNat (3 + j)) ∧ ((((.flt .f32 (Fl.ofInt .f32 (IntKind.i64.wrap ((IntKind.i64.wrap ((IntKind.i64.wrap (x4 + (1 : Int))) + (1 : Int))) + (1 : Int)))).bits) : C) = (.flt .f32 (Fl.ofInt .f32 (IntKind.i64.wrap ((IntKind.i64.wrap ((IntKind.i64.wrap (x4 + (1 : Int))) + (1 : Int))) + (1 : Int)))).bits) ∧ True) ∧ True) ∧ (true = true → ∀ j, j < 1 → isSeq (gl cs_RootKey y15 x5.toNat (3 + j)) = false ∧ isSeq (gl cs_RootKey y18 x5.toNat (3 + j)) = false)) ∧ True) (by kernel_rfl) ⟨trivial, trivial, trivial, trivial, c17, trivial, trivial, (letP (some_eq e19) (fun z => (z.length = y15.length ∧ SetOb y15.length 4 x5.toNat 3 1 (gl cs_RootKey y15) (gl cs_RootKey z) ∧ ((List.range 1).map fun j => (cs_RootKey (RootKey.mk ((y15.getD x5.toNat default).At) (Vector.mk (((y15.getD x5.toNat default).Place).X) (((y15.getD x5.toNat default).Place).Y) (Fl.ofInt .f32 (IntKind.i64.wrap ((IntKind.i64.wrap ((IntKind.i64.wrap (x4 + (1 : Int))) + (1 : Int))) + (1 : Int))))))).getD (3 + j) .nilptr) = ((List.range 1).map fun j => gl cs_RootKey z x5.toNat (3 + j)) ∧ ((((.flt .f32 (Fl.ofInt .f32 (IntKind.i64.wrap ((IntKind.i64.wrap ((IntKind.i64.wrap (x4 + (1 : Int))) + (1 : Int))) + (1 : Int)))).bits) : C) = (.flt .f32 (Fl.ofInt .f32 (IntKind.i64.wrap ((IntKind.i64.wrap ((IntKind.i64.wrap (x4 + (1 : Int))) + (1 : Int))) + (1 : Int)))).bits) ∧ True) ∧ True) ∧ (true = true → ∀ j, j < 1 → isSeq (gl cs_RootKey y15 x5.toNat (3 + j)) = false ∧ isSeq (gl cs_RootKey z x5.toNat (3 + j)) = false))) ⟨List.length_set, gl_setp (fun j hj hn => match j, hj, hn with | 0, _, _ => rfl | 1, _, _ => rfl | 2, _, _ => rfl | 3, _, hn => absurd ⟨by decide, by decide⟩ hn) (lt_of_bound c17), (gl_atp (lt_of_bound c17)).symm, ⟨⟨rfl, trivial⟩, trivial⟩, (fun _ j hj => match j, hj with | 0, _ => ⟨rfl, rfl⟩)⟩), trivial⟩ ?_
    refine thenQ_normal ?_
    refine AW.regionA [] [0, 1, 5] [0] (s' := ⟨[(0, (.v (.one (.arr 0)))), (1, (.v (.one (.c (.int .i64 (IntKind.i64.wrap ((IntKind.i64.wrap ((IntKind.i64.wrap ((IntKind.i64.wrap (x4 + (1 : Int))) + (1 : Int))) + (1 : Int))) + (1 : Int)))))))), (5, (.v (.one (.c (.int .i64 x5)))))], [(0, (.arr true y18.length 4 (gl cs_RootKey y18)))]⟩) (ob := True ∧ True ∧ True ∧ True) (by kernel_rfl) ⟨trivial, trivial, trivial, trivial⟩ ?_
    refine blockQ_normal ?_
    refine thenQ_normal ?_
    refine AW.regionA [] [0, 1, 5] [0] (s' := ⟨[(0, (.v (.one (.arr 0)))), (1, (.v (.one (.c (.int .i64 (IntKind.i64.wrap ((IntKind.i64.wrap ((IntKind.i64.wrap ((IntKind.i64.wrap (x4 + (1 : Int))) + (1 : Int))) + (1 : Int))) + (1 : Int)))))))), (5, (.v (.one (.c (.int .i64 (IntKind.i64.wrap (x5 + (1 : Int))))))))], [(0, (.arr true y18.length 4 (gl cs_RootKey y18)))]⟩) (ob := True ∧ True ∧ True ∧ True) (by kernel_rfl) ⟨trivial, trivial, trivial, trivial⟩ ?_
    exact loopQ_normal (k, (IntKind.i64.wrap ((IntKind.i64.wrap ((IntKind.i64.wrap ((IntKind.i64.wrap (x4 + (1 : Int))) + (1 : Int))) + (1 : Int))) + (1 : Int))), (IntKind.i64.wrap (x5 + (1 : Int))), y18) h (Nat.lt_succ_self k) (Sub.keep [0, 1, 5] [0] (by kernel_rfl) (by kernel_rfl))
  · refine AW.cond_f rfl b7 ?_
    refine AW.exit ?_
    refine thenQ_exit ?_
    refine loopQ_exit ?_
    refine blockQ_exit ?_
    refine thenQ_normal ?_
    refine AW.seq ?_
    refine AW.regionA [] [0, 1, 4] [0] (s' := ⟨[(0, (.v (.one (.arr 0)))), (1, (.v (.one (.c (.int .i64 x4))))), (4, (.v (.one (.c (.int .i64 x4)))))], [(0, (.arr true x6.length 4 (gl cs_RootKey x6)))]⟩) (ob := True ∧ True ∧ True) (by kernel_rfl) ⟨trivial, trivial, trivial⟩ ?_
    refine thenQ_normal ?_
    refine AW.ret ?_
    obtain ⟨c20, h⟩ := chk_some h
    replace h := some_eq h
    subst h
    exact ⟨.inr rfl, retOK_of [(.one (.c (.int .i64 x4)))] (by kernel_rfl) ⟨⟨rfl, trivial⟩, trivial⟩ (of_decide_eq_true (by kernel_rfl)), by kernel_rfl, ⟨⟨c20, rfl, rfl⟩, trivial, trivial⟩⟩

/-! laws.markClip -/
def laws_markClip (K : Nat) (a0 : Clip) (a1 : Int) : Option (Int × (List (List Key)) × (List RootKey)) :=
  (laws_markKeySS K a0.Tracks a1).bind fun v1 => chk (v1.2.length = a0.Tracks.length) ((laws_markRootKeyS K a0.Roots v1.1).bind fun v4 => chk (v4.2.length = a0.Roots.length) (chk (v1.2.length = a0.Tracks.length) (chk (v4.2.length = a0.Roots.length) (some (v4.1, v1.2, v4.2)))))

theorem ok_laws_markClip (K : Nat) (a0 : Clip) (a1 : Int) (o : (Int × (List (List Key)) × (List RootKey))) (h : laws_markClip K a0 a1 = some o) : MutOK Try.prog 16 [(.agg [(.ro (.int .i64 a0.Length)), (.ro (.int .i64 a0.Kind)), (.mu (sl 1 (csL 5 cs_Key) a0.Tracks) (sl 1 (csL 5 cs_Key) o.2.1)), (.mu (sl 4 cs_RootKey a0.Roots) (sl 4 cs_RootKey o.2.2))]), (.one (.ro (.int .i64 a1)))] [.one (.int .i64 o.1)] := by
  refine mutOK_of_AW 2 Try.func16 rfl (by kernel_rfl) (Nat.le_of_ble_eq_true (by kernel_rfl)) (by kernel_rfl) (by kernel_rfl) ?_
  intro w0 K0 v0 s0
  unfold laws_markClip at h
  refine AW.seq ?_
  refine AW.regionA [.box 2] [0, 1, 2] [0, 1, 2] (s' := ⟨[(0, (.v (.agg [(.c (.int .i64 a0.Length)), (.c (.int .i64 a0.Kind)), (.arr 0), (.arr 1)]))), (1, (.v (.one (.c (.int .i64 a1))))), (2, (.v (.one (.ptr 2 0))))], [(0, (.arr true a0.Tracks.length 1 (gl (csL 5 cs_Key) a0.Tracks))), (1, (.arr true a0.Roots.length 4 (gl cs_RootKey a0.Roots))), (2, (.box [(.c (.int .i64 a0.Length)), (.c (.int .i64 a0.Kind)), (.arr 0), (.arr 1)]))]⟩) (ob := True ∧ True ∧ True) (by kernel_rfl) ⟨trivial, trivial, trivial⟩ ?_
  refine thenQ_normal ?_
  refine AW.seq ?_
  obtain ⟨v1, e2, h⟩ := bind_some h
  obtain ⟨c3, h⟩ := chk_some h
  refine AW.regionA [.no, .no, .no, .callM [(.one (.mu (sl 1 (csL 5 cs_Key) a0.Tracks) (sl 1 (csL 5 cs_Key) v1.2))), .one (.ro (.int .i64 a1))] [.one (.int .i64 v1.1)] [[.view]] none] [0, 1, 2] [0, 1, 2] (s' := ⟨[(0, (.v (.agg [(.c (.int .i64 a0.Length)), (.c (.int .i64 a0.Kind)), (.arr 0), (.arr 1)]))), (1, (.v (.one (.c (.int .i64 v1.1))))), (2, (.v (.one (.ptr 2 0))))], [(0, (.arr true v1.2.length 1 (gl (csL 5 cs_Key) v1.2))), (1, (.arr true a0.Roots.length 4 (gl cs_RootKey a0.Roots))), (2, (.box [(.c (.int .i64 a0.Length)), (.c (.int .i64 a0.Kind)), (.arr 0), (.arr 1)]))]⟩) (ob := True ∧ True ∧ True ∧ (((((sl 1 (csL 5 cs_Key) a0.Tracks) : C) = (sl 1 (csL 5 cs_Key) a0.Tracks) ∧ v1.2.length = a0.Tracks.length ∧ 1 = 1 ∧ ∀ i j, i < a0.Tracks.length → j < 1 → isSeq (gl (csL 5 cs_Key) v1.2 i j) = isSeq (gl (csL 5 cs_Key) a0.Tracks i j)) ∧ (((.int .i64 a1) : C) = (.int .i64 a1)) ∧ True) ∧ MutOK Try.prog 70 [(.one (.mu (sl 1 (csL 5 cs_Key) a0.Tracks) (sl 1 (csL 5 cs_Key) v1.2))), .one (.ro (.int .i64 a1))] [.one (.int .i64 v1.1)]) ∧ True ∧ True) (by kernel_rfl) ⟨trivial, trivial, trivial, ⟨⟨⟨rfl, c3, rfl, gl_seq (sq_slice)⟩, rfl, trivial⟩, ok_laws_markKeySS K a0.Tracks a1 v1 e2⟩, trivial, trivial⟩ ?_
  refine thenQ_normal ?_
  refine AW.seq ?_
  obtain ⟨v4, e5, h⟩ := bind_some h
  obtain ⟨c6, h⟩ := chk_some h
  refine AW.regionA [.no, .no, .no, .callM [(.one (.mu (sl 4 cs_RootKey a0.Roots) (sl 4 cs_RootKey v4.2))), .one (.ro (.int .i64 v1.1))] [.one (.int .i64 v4.1)] [[.view]] none] [0, 1] [0, 1] (s' := ⟨[(0, (.v (.agg [(.c (.int .i64 a0.Length)), (.c (.int .i64 a0.Kind)), (.arr 0), (.arr 1)]))), (1, (.v (.one (.c (.int .i64 v4.1)))))], [(0, (.arr true v1.2.length 1 (gl (csL 5 cs_Key) v1.2))), (1, (.arr true v4.2.length 4 (gl cs_RootKey v4.2)))]⟩) (ob := True ∧ True ∧ True ∧ (((((sl 4 cs_RootKey a0.Roots) : C) = (sl 4 cs_RootKey a0.Roots) ∧ v4.2.length = a0.Roots.length ∧ 4 = 4 ∧ ∀ i j, i < a0.Roots.length → j < 4 → isSeq (gl cs_RootKey v4.2 i j) = isSeq (gl cs_RootKey a0.Roots i j)) ∧ (((.int .i64 v1.1) : C) = (.int .i64 v1.1)) ∧ True) ∧ MutOK Try.prog 71 [(.one (.mu (sl 4 cs_RootKey a0.Roots) (sl 4 cs_RootKey v4.2))), .one (.ro (.int .i64 v1.1))] [.one (.int .i64 v4.1)]) ∧ True ∧ True) (by kernel_rfl) ⟨trivial, trivial, trivial, ⟨⟨⟨rfl, c6, rfl, gl_seq sq_RootKey⟩, rfl, trivial⟩, ok_laws_markRootKeyS K a0.Roots v1.1 v4 e5⟩, trivial, trivial⟩ ?_
  refine thenQ_normal ?_
  refine AW.seq ?_
  refine AW.regionA [] [0, 1, 4] [0, 1] (s' := ⟨[(0, (.v (.agg [(.c (.int .i64 a0.Length)), (.c (.int .i64 a0.Kind)), (.arr 0), (.arr 1)]))), (1, (.v (.one (.c (.int .i64 v4.1))))), (4, (.v (.one (.c (.int .i64 v4.1)))))], [(0, (.arr true v1.2.length 1 (gl (csL 5 cs_Key) v1.2))), (1, (.arr true v4.2.length 4 (gl cs_RootKey v4.2)))]⟩) (ob := True ∧ True ∧ True) (by kernel_rfl) ⟨trivial, trivial, trivial⟩ ?_
  refine thenQ_normal ?_
  refine AW.ret ?_
  obtain ⟨c7, h⟩ := chk_some h
  obtain ⟨c8, h⟩ := chk_some h
  replace h := some_eq h
  subst h
  exact ⟨.inr rfl, retOK_of [(.one (.c (.int .i64 v4.1)))] (by kernel_rfl) ⟨⟨rfl, trivial⟩, trivial⟩ (of_decide_eq_true (by kernel_rfl)), by kernel_rfl, ⟨⟨trivial, trivial, ⟨c7, rfl, rfl⟩, ⟨c8, rfl, rfl⟩, trivial⟩, trivial, trivial⟩⟩

/-! laws.markInt64S -/
def laws_markInt64S_l1 (K : Nat) (a0 : (List Int)) : Nat → Int → Int → (List Int) → Option (Int × (List Int))
  | 0, _, _, _ => none
  | k + 1, x4, x5, x6 => ite2 ((decide (x5 < (x6.length : Int)))) (chk (0 ≤ x5 ∧ x5 < (x6.length : Int)) (laws_markInt64S_l1 K a0 k (IntKind.i64.wrap (x4 + (1 : Int))) (IntKind.i64.wrap (x5 + (1 : Int))) (x6.set x5.toNat x4))) (chk (x6.length = a0.length) (some (x4, x6)))

def laws_markInt64S (K : Nat) (a0 : (List Int)) (a1 : Int) : Option (Int × (List Int)) :=
  laws_markInt64S_l1 K a0 K a1 (0 : Int) a0

theorem ok_laws_markInt64S (K : Nat) (a0 : (List Int)) (a1 : Int) (o : (Int × (List Int))) (h : laws_markInt64S K a0 a1 = some o) : MutOK Try.prog 34 [(.one (.mu (sl 1 (csI .i64) a0) (sl 1 (csI .i64) o.2))), (.one (.ro (.int .i64 a1)))] [.one (.int .i64 o.1)] := by
  refine mutOK_of_AW 1 Try.func34 rfl (by kernel_rfl) (Nat.le_of_ble_eq_true (by kernel_rfl)) (by kernel_rfl) (by kernel_rfl) ?_
  intro w0 K0 v0 s0
  unfold laws_markInt64S at h
  refine AW.seq ?_
  refine AW.regionA [] [0, 1] [0] (s' := ⟨[(0, (.v (.one (.arr 0)))), (1, (.v (.one (.c (.int .i64 a1)))))], [(0, (.arr true a0.length 1 (gl (csI .i64) a0)))]⟩) (ob := True ∧ True) (by kernel_rfl) ⟨trivial, trivial⟩ ?_
  refine thenQ_normal ?_
  refine AW.seq ?_
  refine AW.seq ?_
  refine AW.regionA [] [0, 1, 5] [0] (s' := ⟨[(0, (.v (.one (.arr 0)))), (1, (.v (.one (.c (.int .i64 a1))))), (5, (.v (.one (.c (.int .i64 (0 : Int))))))], [(0, (.arr true a0.length 1 (gl (csI .i64) a0)))]⟩) (ob := True ∧ True) (by kernel_rfl) ⟨trivial, trivial⟩ ?_
  refine thenQ_normal ?_
  refine AW.block ?_
  refine AW.loopQ (σ := Nat × Int × Int × (List Int)) (fun p => ⟨[(0, (.v (.one (.arr 0)))), (1, (.v (.one (.c (.int .i64 p.2.1))))), (5, (.v (.one (.c (.int .i64 p.2.2.1)))))], [(0, (.arr true p.2.2.2.length 1 (gl (csI .i64) p.2.2.2)))]⟩) (fun p => laws_markInt64S_l1 K a0 p.1 p.2.1 p.2.2.1 p.2.2.2 = some o) (fun p => p.1) (K, a1, (0 : Int), a0) h ?_
  clear h
  rintro ⟨k, x4, x5, x6⟩ h
  replace h : laws_markInt64S_l1 K a0 k x4 x5 x6 = some o := h
  show AW _ _ (⟨[(0, (.v (.one (.arr 0)))), (1, (.v (.one (.c (.int .i64 x4))))), (5, (.v (.one (.c (.int .i64 x5)))))], [(0, (.arr true x6.length 1 (gl (csI .i64) x6)))]⟩ : St) _
  obtain _ | k := k
  · rw [laws_markInt64S_l1] at h; cases h
  rw [laws_markInt64S_l1] at h
  refine AW.seq ?_
  refine AW.seq ?_
  refine AW.regionA [] [0, 1, 5, 9] [0] (s' := ⟨[(0, (.v (.one (.arr 0)))), (1, (.v (.one (.c (.int .i64 x4))))), (5, (.v (.one (.c (.int .i64 x5))))), (9, (.v (.one (.c (.bool (decide (x5 < (x6.length : Int))))))))], [(0, (.arr true x6.length 1 (gl (csI .i64) x6)))]⟩) (ob := True ∧ True ∧ True ∧ True ∧ True) (by kernel_rfl) ⟨trivial, trivial, trivial, trivial, trivial⟩ ?_
  refine thenQ_normal ?_
  rcases ite2_cases h with ⟨b7, h⟩ | ⟨b7, h⟩
  · refine AW.cond_t rfl b7 ?_
    refine AW.skip ?_
    refine thenQ_normal ?_
    refine AW.seq ?_
    refine AW.block ?_
    refine AW.seq ?_
    obtain ⟨c8, h⟩ := chk_some h
    refine AW.regionA [.no, .no, .no, .no, .set (x6.set x5.toNat x4).length (gl (csI .i64) (x6.set x5.toNat x4)) ((List.range 1).map fun j => ((csI .i64) x4).getD (0 + j) .nilptr)] [0, 1, 5] [0] (s' := ⟨[(0, (.v (.one (.arr 0)))), (1, (.v (.one (.c (.int .i64 x4))))), (5, (.v (.one (.c (.int .i64 x5)))))], [(0, (.arr true (x6.set x5.toNat x4).length 1 (gl (csI .i64) (x6.set x5.toNat x4))))]⟩) (ob := True ∧ True ∧ True ∧ (0 ≤ x5 ∧ x5 < (x6.length : Int)) ∧ ((x6.set x5.toNat x4).length = x6.length ∧ SetOb x6.length 1 x5.toNat 0 1 (gl (csI .i64) x6) (gl (csI .i64) (x6.set x5.toNat x4)) ∧ ((List.range 1).map fun j => ((csI .i64) x4).getD (0 + j) .nilptr) = ((List.range 1).map fun j => gl (csI .i64) (x6.set x5.toNat x4) x5.toNat (0 + j)) ∧ ((((.int .i64 x4) : C) = (.int .i64 x4) ∧ True) ∧ True) ∧ (true = true → ∀ j, j < 1 → isSeq (gl (csI .i64) x6 x5.toNat (0 + j)) = false ∧ isSeq (gl (csI .i64) (x6.set x5.toNat x4) x5.toNat (0 + j)) = false)) ∧ True) (by kernel_rfl) ⟨trivial, trivial, trivial, c8, ⟨List.length_set, gl_set, (gl_atp (lt_of_bound c8)).symm, ⟨⟨rfl, trivial⟩, trivial⟩, (fun _ j hj => match j, hj with | 0, _ => ⟨rfl, rfl⟩)⟩, trivial⟩ ?_
    refine thenQ_normal ?_
    refine AW.regionA [] [0, 1, 5] [0] (s' := ⟨[(0, (.v (.one (.arr 0)))), (1, (.v (.one (.c (.int .i64 (IntKind.i64.wrap (x4 + (1 : Int)))))))), (5, (.v (.one (.c (.int .i64 x5)))))], [(0, (.arr true (x6.set x5.toNat x4).length 1 (gl (csI .i64) (x6.set x5.toNat x4))))]⟩) (ob := True ∧ True ∧ True ∧ True) (by kernel_rfl) ⟨trivial, trivial, trivial, trivial⟩ ?_
    refine blockQ_normal ?_
    refine thenQ_normal ?_
    refine AW.regionA [] [0, 1, 5] [0] (s' := ⟨[(0, (.v (.one (.arr 0)))), (1, (.v (.one (.c (.int .i64 (IntKind.i64.wrap (x4 + (1 : Int)))))))), (5, (.v (.one (.c (.int .i64 (IntKind.i64.wrap (x5 + (1 : Int))))))))], [(0, (.arr true (x6.set x5.toNat x4).length 1 (gl (csI .i64) (x6.set x5.toNat x4))))]⟩) (ob := True ∧ True ∧ True ∧ True) (by kernel_rfl) ⟨trivial, trivial, trivial, trivial⟩ ?_
    exact loopQ_normal (k, (IntKind.i64.wrap (x4 + (1 : Int))), (IntKind.i64.wrap (x5 + (1 : Int))), (x6.set x5.toNat x4)) h (Nat.lt_succ_self k) (Sub.keep [0, 1, 5] [0] (by kernel_rfl) (by kernel_rfl))
  · refine AW.cond_f rfl b7 ?_
    refine AW.exit ?_
    refine thenQ_exit ?_
    refine loopQ_exit ?_
    refine blockQ_exit ?_
    refine thenQ_normal ?_
    refine AW.seq ?_
    refine AW.regionA [] [0, 1, 4] [0] (s' := ⟨[(0, (.v (.one (.arr 0)))), (1, (.v (.one (.c (.int .i64 x4))))), (4, (.v (.one (.c (.int .i64 x4)))))], [(0, (.arr true x6.length 1 (gl (csI .i64) x6)))]⟩) (ob := True ∧ True ∧ True) (by kernel_rfl) ⟨trivial, trivial, trivial⟩ ?_
    refine thenQ_normal ?_
    refine AW.ret ?_
    obtain ⟨c9, h⟩ := chk_some h
    replace h := some_eq h
    subst h
    exact ⟨.inr rfl, retOK_of [(.one (.c (.int .i64 x4)))] (by kernel_rfl) ⟨⟨rfl, trivial⟩, trivial⟩ (of_decide_eq_true (by kernel_rfl)), by kernel_rfl, ⟨⟨c9, rfl, rfl⟩, trivial, trivial⟩⟩

/-! laws.heldKeyS -/
def laws_heldKeyS_l1 (K : Nat) (a0 : (List Key)) : Nat → Int → Int → Option (Int)
  | 0, _, _ => none
  | k + 1, x3, x4 => ite2 ((decide (x4 < (a0.length : Int)))) (chk (0 ≤ x4 ∧ x4 < (a0.length : Int)) (ite2 ((((a0.getD x4.toNat default).At) != x3)) (some ((-1) : Int)) (ite2 (((((a0.getD x4.toNat default).Turn).W).ne (Fl.ofInt .f32 (IntKind.i64.wrap (x3 + (1 : Int)))))) (some ((-1) : Int)) (ite2 (((((a0.getD x4.toNat default).Turn).X).ne (Fl.ofInt .f32 (IntKind.i64.wrap ((IntKind.i64.wrap (x3 + (1 : Int))) + (1 : Int)))))) (some ((-1) : Int)) (ite2 (((((a0.getD x4.toNat default).Turn).Y).ne (Fl.ofInt .f32 (IntKind.i64.wrap ((IntKind.i64.wrap ((IntKind.i64.wrap (x3 + (1 : Int))) + (1 : Int))) + (1 : Int)))))) (some ((-1) : Int)) (ite2 (((((a0.getD x4.toNat default).Turn).Z).ne (Fl.ofInt .f32 (IntKind.i64.wrap ((IntKind.i64.wrap ((IntKind.i64.wrap ((IntKind.i64.wrap (x3 + (1 : Int))) + (1 : Int))) + (1 : Int))) + (1 : Int)))))) (some ((-1) : Int)) (laws_heldKeyS_l1 K a0 k (IntKind.i64.wrap ((IntKind.i64.wrap ((IntKind.i64.wrap ((IntKind.i64.wrap ((IntKind.i64.wrap (x3 + (1 : Int))) + (1 : Int))) + (1 : Int))) + (1 : Int))) + (1 : Int))) (IntKind.i64.wrap (x4 + (1 : Int)))))))))) (some x3)

def laws_heldKeyS (K : Nat) (a0 : (List Key)) (a1 : Int) : Option (Int) :=
  laws_heldKeyS_l1 K a0 K a1 (0 : Int)

theorem ok_laws_heldKeyS (K : Nat) (a0 : (List Key)) (a1 : Int) (o : (Int)) (h : laws_heldKeyS K a0 a1 = some o) : CallOK Try.prog 145 [.one (sl 5 cs_Key a0), .one (.int .i64 a1)] [.one (.int .i64 o)] := by
  refine callOK_of_AW Try.func145 rfl (by kernel_rfl) (Nat.le_of_ble_eq_true (by kernel_rfl)) ?_
  intro w0
  unfold laws_heldKeyS at h
  refine AW.seq ?_
  refine AW.regionA [] [0, 1] [] (s' := ⟨[(0, (.v (.one (.c (sl 5 cs_Key a0))))), (1, (.v (.one (.c (.int .i64 a1)))))], []⟩) (ob := True ∧ True) (by kernel_rfl) ⟨trivial, trivial⟩ ?_
  refine thenQ_normal ?_
  refine AW.seq ?_
  refine AW.seq ?_
  refine AW.regionA [] [0, 1, 5] [] (s' := ⟨[(0, (.v (.one (.c (sl 5 cs_Key a0))))), (1, (.v (.one (.c (.int .i64 a1))))), (5, (.v (.one (.c (.int .i64 (0 : Int))))))], []⟩) (ob := True ∧ True) (by kernel_rfl) ⟨trivial, trivial⟩ ?_
  refine thenQ_normal ?_
  refine AW.block ?_
  refine AW.loopQ (σ := Nat × Int × Int) (fun p => ⟨[(0, (.v (.one (.c (sl 5 cs_Key a0))))), (1, (.v (.one (.c (.int .i64 p.2.1))))), (5, (.v (.one (.c (.int .i64 p.2.2)))))], []⟩) (fun p => laws_heldKeyS_l1 K a0 p.1 p.2.1 p.2.2 = some o) (fun p => p.1) (K, a1, (0 : Int)) h ?_
  clear h
  rintro ⟨k, x3, x4⟩ h
  replace h : laws_heldKeyS_l1 K a0 k x3 x4 = some o := h
  show AW _ _ (⟨[(0, (.v (.one (.c (sl 5 cs_Key a0))))), (1, (.v (.one (.c (.int .i64 x3))))), (5, (.v (.one (.c (.int .i64 x4)))))], []⟩ : St) _
  obtain _ | k := k
  · rw [laws_heldKeyS_l1] at h; cases h
  rw [laws_heldKeyS_l1] at h
  refine AW.seq ?_
  refine AW.seq ?_
  refine AW.regionA [] [0, 1, 5, 9] [] (s' := ⟨[(0, (.v (.one (.c (sl 5 cs_Key a0))))), (1, (.v (.one (.c (.int .i64 x3))))), (5, (.v (.one (.c (.int .i64 x4))))), (9, (.v (.one (.c (.bool (decide (x4 < (a0.length : Int))))))))], []⟩) (ob := True ∧ True ∧ True ∧ True ∧ True) (by kernel_rfl) ⟨trivial, trivial, trivial, trivial, trivial⟩ ?_
  refine thenQ_normal ?_
  rcases ite2_cases h with ⟨b5, h⟩ | ⟨b5, h⟩
  · refine AW.cond_t rfl b5 ?_
    refine AW.skip ?_
    refine thenQ_normal ?_
    refine AW.seq ?_
    refine AW.block ?_
    refine AW.seq ?_
    refine AW.seq ?_
    obtain ⟨c6, h⟩ := chk_some h
    refine AW.regionA [] [0, 1, 5, 18] [] (s' := ⟨[(0, (.v (.one (.c (sl 5 cs_Key a0))))), (1, (.v (.one (.c (.int .i64 x3))))), (5, (.v (.one (.c (.int .i64 x4))))), (18, (.v (.one (.c (.bool (((a0.getD x4.toNat default).At) != x3))))))], []⟩) (ob := True ∧ True ∧ (0 ≤ x4 ∧ x4 < (a0.length : Int)) ∧ True ∧ True ∧ True ∧ True ∧ True) (by kernel_rfl) ⟨trivial, trivial, c6, trivial, trivial, trivial, trivial, trivial⟩ ?_
    refine thenQ_normal ?_
    rcases ite2_cases h with ⟨b7, h⟩ | ⟨b7, h⟩
    · refine AW.cond_t rfl b7 ?_
      refine AW.seq ?_
      refine AW.regionA [] [4] [] (s' := ⟨[(4, (.v (.one (.c (.int .i64 ((-1) : Int))))))], []⟩) (ob := True ∧ True) (by kernel_rfl) ⟨trivial, trivial⟩ ?_
      refine thenQ_normal ?_
      refine AW.ret ?_
      refine thenQ_ret ?_
      refine blockQ_ret ?_
      refine thenQ_ret ?_
      refine loopQ_ret ?_
      refine blockQ_ret ?_
      refine thenQ_ret ?_
      replace h := some_eq h
      subst h
      exact ⟨.inr rfl, retOK_of [(.one (.c (.int .i64 ((-1) : Int))))] (by kernel_rfl) ⟨⟨rfl, trivial⟩, trivial⟩ (of_decide_eq_true (by kernel_rfl))⟩
    · refine AW.cond_f rfl b7 ?_
      refine AW.skip ?_
      refine thenQ_normal ?_
      refine AW.seq ?_
      refine AW.regionA [] [0, 1, 5] [] (s' := ⟨[(0, (.v (.one (.c (sl 5 cs_Key a0))))), (1, (.v (.one (.c (.int .i64 (IntKind.i64.wrap (x3 + (1 : Int)))))))), (5, (.v (.one (.c (.int .i64 x4)))))], []⟩) (ob := True ∧ True ∧ True ∧ True) (by kernel_rfl) ⟨trivial, trivial, trivial, trivial⟩ ?_
      refine thenQ_normal ?_
      refine AW.seq ?_
      refine AW.seq ?_
      refine AW.regionA [] [0, 1, 5, 29] [] (s' := ⟨[(0, (.v (.one (.c (sl 5 cs_Key a0))))), (1, (.v (.one (.c (.int .i64 (IntKind.i64.wrap (x3 + (1 : Int)))))))), (5, (.v (.one (.c (.int .i64 x4))))), (29, (.v (.one (.c (.bool ((((a0.getD x4.toNat default).Turn).W).ne (Fl.ofInt .f32 (IntKind.i64.wrap (x3 + (1 : Int))))))))))], []⟩) (ob := True ∧ True ∧ (0 ≤ x4 ∧ x4 < (a0.length : Int)) ∧ True ∧ True ∧ True ∧ True ∧ True ∧ True ∧ True) (by kernel_rfl) ⟨trivial, trivial, c6, trivial, trivial, trivial, trivial, trivial, trivial, trivial⟩ ?_
      refine thenQ_normal ?_
      rcases ite2_cases h with ⟨b8, h⟩ | ⟨b8, h⟩
      · refine AW.cond_t rfl b8 ?_
        refine AW.seq ?_
        refine AW.regionA [] [4] [] (s' := ⟨[(4, (.v (.one (.c (.int .i64 ((-1) : Int))))))], []⟩) (ob := True ∧ True) (by kernel_rfl) ⟨trivial, trivial⟩ ?_
        refine thenQ_normal ?_
        refine AW.ret ?_
        refine thenQ_ret ?_
        refine blockQ_ret ?_
        refine thenQ_ret ?_
        refine loopQ_ret ?_
        refine blockQ_ret ?_
        refine thenQ_ret ?_
        replace h := some_eq h
        subst h
        exact ⟨.inr rfl, retOK_of [(.one (.c (.int .i64 ((-1) : Int))))] (by kernel_rfl) ⟨⟨rfl, trivial⟩, trivial⟩ (of_decide_eq_true (by kernel_rfl))⟩
      · refine AW.cond_f rfl b8 ?_
        refine AW.skip ?_
        refine thenQ_normal ?_
        refine AW.seq ?_
        refine AW.regionA [] [0, 1, 5] [] (s' := ⟨[(0, (.v (.one (.c (sl 5 cs_Key a0))))), (1, (.v (.one (.c (.int .i64 (IntKind.i64.wrap ((IntKind.i64.wrap (x3 + (1 : Int))) + (1 : Int)))))))), (5, (.v (.one (.c (.int .i64 x4)))))], []⟩) (ob := True ∧ True ∧ True ∧ True) (by kernel_rfl) ⟨trivial, trivial, trivial, trivial⟩ ?_
        refine thenQ_normal ?_
        refine AW.seq ?_
        refine AW.seq ?_
        refine AW.regionA [] [0, 1, 5, 40] [] (s' := ⟨[(0, (.v (.one (.c (sl 5 cs_Key a0))))), (1, (.v (.one (.c (.int .i64 (IntKind.i64.wrap ((IntKind.i64.wrap (x3 + (1 : Int))) + (1 : Int)))))))), (5, (.v (.one (.c (.int .i64 x4))))), (40, (.v (.one (.c (.bool ((((a0.getD x4.toNat default).Turn).X).ne (Fl.ofInt .f32 (IntKind.i64.wrap ((IntKind.i64.wrap (x3 + (1 : Int))) + (1 : Int))))))))))], []⟩) (ob := True ∧ True ∧ (0 ≤ x4 ∧ x4 < (a0.length : Int)) ∧ True ∧ True ∧ True ∧ True ∧ True ∧ True ∧ True) (by kernel_rfl) ⟨trivial, trivial, c6, trivial, trivial, trivial, trivial, trivial, trivial, trivial⟩ ?_
        refine thenQ_normal ?_
        rcases ite2_cases h with ⟨b9, h⟩ | ⟨b9, h⟩
        · refine AW.cond_t rfl b9 ?_
          refine AW.seq ?_
          refine AW.regionA [] [4] [] (s' := ⟨[(4, (.v (.one (.c (.int .i64 ((-1) : Int))))))], []⟩) (ob := True ∧ True) (by kernel_rfl) ⟨trivial, trivial⟩ ?_
          refine thenQ_normal ?_
          refine AW.ret ?_
          refine thenQ_ret ?_
          refine blockQ_ret ?_
          refine thenQ_ret ?_
          refine loopQ_ret ?_
          refine blockQ_ret ?_
          refine thenQ_ret ?_
          replace h := some_eq h
          subst h
          exact ⟨.inr rfl, retOK_of [(.one (.c (.int .i64 ((-1) : Int))))] (by kernel_rfl) ⟨⟨rfl, trivial⟩, trivial⟩ (of_decide_eq_true (by kernel_rfl))⟩
        · refine AW.cond_f rfl b9 ?_
          refine AW.skip ?_
          refine thenQ_normal ?_
          refine AW.seq ?_
          refine AW.regionA [] [0, 1, 5] [] (s' := ⟨[(0, (.v (.one (.c (sl 5 cs_Key a0))))), (1, (.v (.one (.c (.int .i64 (IntKind.i64.wrap ((IntKind.i64.wrap ((IntKind.i64.wrap (x3 + (1 : Int))) + (1 : Int))) + (1 : Int)))))))), (5, (.v (.one (.c (.int .i64 x4)))))], []⟩) (ob := True ∧ True ∧ True ∧ True) (by kernel_rfl) ⟨trivial, trivial, trivial, trivial⟩ ?_
          refine thenQ_normal ?_
          refine AW.seq ?_
          refine AW.seq ?_
          refine AW.regionA [] [0, 1, 5, 51] [] (s' := ⟨[(0, (.v (.one (.c (sl 5 cs_Key a0))))), (1, (.v (.one (.c (.int .i64 (IntKind.i64.wrap ((IntKind.i64.wrap ((IntKind.i64.wrap (x3 + (1 : Int))) + (1 : Int))) + (1 : Int)))))))), (5, (.v (.one (.c (.int .i64 x4))))), (51, (.v (.one (.c (.bool ((((a0.getD x4.toNat default).Turn).Y).ne (Fl.ofInt .f32 (IntKind.i64.wrap ((IntKind.i64.wrap ((IntKind.i64.wrap (x3 + (1 : Int))) + (1 : Int))) + (1 : Int))))))))))], []⟩) (ob := True ∧ True ∧ (0 ≤ x4 ∧ x4 < (a0.length : Int)) ∧ True ∧ True ∧ True ∧ True ∧ True ∧ True ∧ True) (by kernel_rfl) ⟨trivial, trivial, c6, trivial, trivial, trivial, trivial, trivial, trivial, trivial⟩ ?_
          refine thenQ_normal ?_
          rcases ite2_cases h with ⟨b10, h⟩ | ⟨b10, h⟩
          · refine AW.cond_t rfl b10 ?_
            refine AW.seq ?_
            refine AW.regionA [] [4] [] (s' := ⟨[(4, (.v (.one (.c (.int .i64 ((-1) : Int))))))], []⟩) (ob := True ∧ True) (by kernel_rfl) ⟨trivial, trivial⟩ ?_
            refine thenQ_normal ?_
            refine AW.ret ?_
            refine thenQ_ret ?_
            refine blockQ_ret ?_
            refine thenQ_ret ?_
            refine loopQ_ret ?_
            refine blockQ_ret ?_
            refine thenQ_ret ?_
            replace h := some_eq h
            subst h
            exact ⟨.inr rfl, retOK_of [(.one (.c (.int .i64 ((-1) : Int))))] (by kernel_rfl) ⟨⟨rfl, trivial⟩, trivial⟩ (of_decide_eq_true (by kernel_rfl))⟩
          · refine AW.cond_f rfl b10 ?_
            refine AW.skip ?_
            refine thenQ_normal ?_
            refine AW.seq ?_
            refine AW.regionA [] [0, 1, 5] [] (s' := ⟨[(0, (.v (.one (.c (sl 5 cs_Key a0))))), (1, (.v (.one (.c (.int .i64 (IntKind.i64.wrap ((IntKind.i64.wrap ((IntKind.i64.wrap ((IntKind.i64.wrap (x3 + (1 : Int))) + (1 : Int))) + (1 : Int))) + (1 : Int)))))))), (5, (.v (.one (.c (.int .i64 x4)))))], []⟩) (ob := True ∧ True ∧ True ∧ True) (by kernel_rfl) ⟨trivial, trivial, trivial, trivial⟩ ?_
            refine thenQ_normal ?_
            refine AW.seq ?_
            refine AW.seq ?_
            refine AW.regionA [] [0, 1, 5, 62] [] (s' := ⟨[(0, (.v (.one (.c (sl 5 cs_Key a0))))), (1, (.v (.one (.c (.int .i64 (IntKind.i64.wrap ((IntKind.i64.wrap ((IntKind.i64.wrap ((IntKind.i64.wrap (x3 + (1 : Int))) + (1 : Int))) + (1 : Int))) + (1 : Int)))))))), (5, (.v (.one (.c (.int .i64 x4))))), (62, (.v (.one (.c (.bool ((((a0.getD x4.toNat default).Turn).Z).ne (Fl.ofInt .f32 (IntKind.i64.wrap ((IntKind.i64.wrap ((IntKind.i64.wrap ((IntKind.i64.wrap (x3 + (1 : Int))) + (1 : Int))) + (1 : Int))) + (1 : Int))))))))))], []⟩) (ob := True ∧ True ∧ (0 ≤ x4 ∧ x4 < (a0.length : Int)) ∧ True ∧ True ∧ True ∧ True ∧ True ∧ True ∧ True) (by kernel_rfl) ⟨trivial, trivial, c6, trivial, trivial, trivial, trivial, trivial, trivial, trivial⟩ ?_
            refine thenQ_normal ?_
            rcases ite2_cases h with ⟨b11, h⟩ | ⟨b11, h⟩
            · refine AW.cond_t rfl b11 ?_
              refine AW.seq ?_
              refine AW.regionA [] [4] [] (s' := ⟨[(4, (.v (.one (.c (.int .i64 ((-1) : Int))))))], []⟩) (ob := True ∧ True) (by kernel_rfl) ⟨trivial, trivial⟩ ?_
              refine thenQ_normal ?_
              refine AW.ret ?_
              refine thenQ_ret ?_
              refine blockQ_ret ?_
              refine thenQ_ret ?_
              refine loopQ_ret ?_
              refine blockQ_ret ?_
              refine thenQ_ret ?_
              replace h := some_eq h
              subst h
              exact ⟨.inr rfl, retOK_of [(.one (.c (.int .i64 ((-1) : Int))))] (by kernel_rfl) ⟨⟨rfl, trivial⟩, trivial⟩ (of_decide_eq_true (by kernel_rfl))⟩
            · refine AW.cond_f rfl b11 ?_
              refine AW.skip ?_
              refine thenQ_normal ?_
              refine AW.regionA [] [0, 1, 5] [] (s' := ⟨[(0, (.v (.one (.c (sl 5 cs_Key a0))))), (1, (.v (.one (.c (.int .i64 (IntKind.i64.wrap ((IntKind.i64.wrap ((IntKind.i64.wrap ((IntKind.i64.wrap ((IntKind.i64.wrap (x3 + (1 : Int))) + (1 : Int))) + (1 : Int))) + (1 : Int))) + (1 : Int)))))))), (5, (.v (.one (.c (.int .i64 x4)))))], []⟩) (ob := True ∧ True ∧ True ∧ True) (by kernel_rfl) ⟨trivial, trivial, trivial, trivial⟩ ?_
              refine blockQ_normal ?_
              refine thenQ_normal ?_
              refine AW.regionA [] [0, 1, 5] [] (s' := ⟨[(0, (.v (.one (.c (sl 5 cs_Key a0))))), (1, (.v (.one (.c (.int .i64 (IntKind.i64.wrap ((IntKind.i64.wrap ((IntKind.i64.wrap ((IntKind.i64.wrap ((IntKind.i64.wrap (x3 + (1 : Int))) + (1 : Int))) + (1 : Int))) + (1 : Int))) + (1 : Int)))))))), (5, (.v (.one (.c (.int .i64 (IntKind.i64.wrap (x4 + (1 : Int))))))))], []⟩) (ob := True ∧ True ∧ True ∧ True) (by kernel_rfl) ⟨trivial, trivial, trivial, trivial⟩ ?_
              exact loopQ_normal (k, (IntKind.i64.wrap ((IntKind.i64.wrap ((IntKind.i64.wrap ((IntKind.i64.wrap ((IntKind.i64.wrap (x3 + (1 : Int))) + (1 : Int))) + (1 : Int))) + (1 : Int))) + (1 : Int))), (IntKind.i64.wrap (x4 + (1 : Int)))) h (Nat.lt_succ_self k) (Sub.keep [0, 1, 5] [] (by kernel_rfl) (by kernel_rfl))
  · refine AW.cond_f rfl b5 ?_
    refine AW.exit ?_
    refine thenQ_exit ?_
    refine loopQ_exit ?_
    refine blockQ_exit ?_
    refine thenQ_normal ?_
    refine AW.seq ?_
    refine AW.regionA [] [4] [] (s' := ⟨[(4, (.v (.one (.c (.int .i64 x3)))))], []⟩) (ob := True ∧ True ∧ True) (by kernel_rfl) ⟨trivial, trivial, trivial⟩ ?_
    refine thenQ_normal ?_
    refine AW.ret ?_
    replace h := some_eq h
    subst h
    exact ⟨.inr rfl, retOK_of [(.one (.c (.int .i64 x3)))] (by kernel_rfl) ⟨⟨rfl, trivial⟩, trivial⟩ (of_decide_eq_true (by kernel_rfl))⟩

/-! laws.heldKeySS -/
def laws_heldKeySS_l1 (K : Nat) (a0 : (List (List Key))) : Nat → Int → Int → Option (Int)
  | 0, _, _ => none
  | k + 1, x3, x4 => ite2 ((decide (x4 < (a0.length : Int)))) (chk (0 ≤ x4 ∧ x4 < (a0.length : Int)) ((laws_heldKeyS K (a0.getD x4.toNat default) x3).bind fun v7 => ite2 ((decide (v7 < (0 : Int)))) (some ((-1) : Int)) (laws_heldKeySS_l1 K a0 k v7 (IntKind.i64.wrap (x4 + (1 : Int)))))) (some x3)

def laws_heldKeySS (K : Nat) (a0 : (List (List Key))) (a1 : Int) : Option (Int) :=
  laws_heldKeySS_l1 K a0 K a1 (0 : Int)

theorem ok_laws_heldKeySS (K : Nat) (a0 : (List (List Key))) (a1 : Int) (o : (Int)) (h : laws_heldKeySS K a0 a1 = some o) : CallOK Try.prog 72 [.one (sl 1 (csL 5 cs_Key) a0), .one (.int .i64 a1)] [.one (.int .i64 o)] := by
  refine callOK_of_AW Try.func72 rfl (by kernel_rfl) (Nat.le_of_ble_eq_true (by kernel_rfl)) ?_
  intro w0
  unfold laws_heldKeySS at h
  refine AW.seq ?_
  refine AW.regionA [] [0, 1] [] (s' := ⟨[(0, (.v (.one (.c (sl 1 (csL 5 cs_Key) a0))))), (1, (.v (.one (.c (.int .i64 a1)))))], []⟩) (ob := True ∧ True) (by kernel_rfl) ⟨trivial, trivial⟩ ?_
  refine thenQ_normal ?_
  refine AW.seq ?_
  refine AW.seq ?_
  refine AW.regionA [] [0, 1, 5] [] (s' := ⟨[(0, (.v (.one (.c (sl 1 (csL 5 cs_Key) a0))))), (1, (.v (.one (.c (.int .i64 a1))))), (5, (.v (.one (.c (.int .i64 (0 : Int))))))], []⟩) (ob := True ∧ True) (by kernel_rfl) ⟨trivial, trivial⟩ ?_
  refine thenQ_normal ?_
  refine AW.block ?_
  refine AW.loopQ (σ := Nat × Int × Int) (fun p => ⟨[(0, (.v (.one (.c (sl 1 (csL 5 cs_Key) a0))))), (1, (.v (.one (.c (.int .i64 p.2.1))))), (5, (.v (.one (.c (.int .i64 p.2.2)))))], []⟩) (fun p => laws_heldKeySS_l1 K a0 p.1 p.2.1 p.2.2 = some o) (fun p => p.1) (K, a1, (0 : Int)) h ?_
  clear h
  rintro ⟨k, x3, x4⟩ h
  replace h : laws_heldKeySS_l1 K a0 k x3 x4 = some o := h
  show AW _ _ (⟨[(0, (.v (.one (.c (sl 1 (csL 5 cs_Key) a0))))), (1, (.v (.one (.c (.int .i64 x3))))), (5, (.v (.one (.c (.int .i64 x4)))))], []⟩ : St) _
  obtain _ | k := k
  · rw [laws_heldKeySS_l1] at h; cases h
  rw [laws_heldKeySS_l1] at h
  refine AW.seq ?_
  refine AW.seq ?_
  refine AW.regionA [] [0, 1, 5, 9] [] (s' := ⟨[(0, (.v (.one (.c (sl 1 (csL 5 cs_Key) a0))))), (1, (.v (.one (.c (.int .i64 x3))))), (5, (.v (.one (.c (.int .i64 x4))))), (9, (.v (.one (.c (.bool (decide (x4 < (a0.length : Int))))))))], []⟩) (ob := True ∧ True ∧ True ∧ True ∧ True) (by kernel_rfl) ⟨trivial, trivial, trivial, trivial, trivial⟩ ?_
  refine thenQ_normal ?_
  rcases ite2_cases h with ⟨b5, h⟩ | ⟨b5, h⟩
  · refine AW.cond_t rfl b5 ?_
    refine AW.skip ?_
    refine thenQ_normal ?_
    refine AW.seq ?_
    refine AW.block ?_
    refine AW.seq ?_
    obtain ⟨c6, h⟩ := chk_some h
    obtain ⟨v7, e8, h⟩ := bind_some h
    refine AW.regionA [.no, .no, .no, .no, .no, .call [.one (sl 5 cs_Key (a0.getD x4.toNat default)), .one (.int .i64 x3)] [.one (.int .i64 v7)] [[.view]]] [0, 1, 5] [] (s' := ⟨[(0, (.v (.one (.c (sl 1 (csL 5 cs_Key) a0))))), (1, (.v (.one (.c (.int .i64 v7))))), (5, (.v (.one (.c (.int .i64 x4)))))], []⟩) (ob := True ∧ True ∧ (0 ≤ x4 ∧ x4 < (a0.length : Int)) ∧ True ∧ True ∧ (((((sl 5 cs_Key (a0.getD x4.toNat default)) : C) = (sl 5 cs_Key (a0.getD x4.toNat default))) ∧ (((.int .i64 x3) : C) = (.int .i64 x3)) ∧ True) ∧ CallOK Try.prog 145 [.one (sl 5 cs_Key (a0.getD x4.toNat default)), .one (.int .i64 x3)] [.one (.int .i64 v7)]) ∧ True ∧ True) (by kernel_rfl) ⟨trivial, trivial, c6, trivial, trivial, ⟨⟨rfl, rfl, trivial⟩, ok_laws_heldKeyS K (a0.getD x4.toNat default) x3 v7 e8⟩, trivial, trivial⟩ ?_
    refine thenQ_normal ?_
    refine AW.seq ?_
    refine AW.regionA [] [0, 1, 5, 19] [] (s' := ⟨[(0, (.v (.one (.c (sl 1 (csL 5 cs_Key) a0))))), (1, (.v (.one (.c (.int .i64 v7))))), (5, (.v (.one (.c (.int .i64 x4))))), (19, (.v (.one (.c (.bool (decide (v7 < (0 : Int))))))))], []⟩) (ob := True ∧ True ∧ True) (by kernel_rfl) ⟨trivial, trivial, trivial⟩ ?_
    refine thenQ_normal ?_
    rcases ite2_cases h with ⟨b9, h⟩ | ⟨b9, h⟩
    · refine AW.cond_t rfl b9 ?_
      refine AW.seq ?_
      refine AW.regionA [] [4] [] (s' := ⟨[(4, (.v (.one (.c (.int .i64 ((-1) : Int))))))], []⟩) (ob := True ∧ True) (by kernel_rfl) ⟨trivial, trivial⟩ ?_
      refine thenQ_normal ?_
      refine AW.ret ?_
      refine blockQ_ret ?_
      refine thenQ_ret ?_
      refine loopQ_ret ?_
      refine blockQ_ret ?_
      refine thenQ_ret ?_
      replace h := some_eq h
      subst h
      exact ⟨.inr rfl, retOK_of [(.one (.c (.int .i64 ((-1) : Int))))] (by kernel_rfl) ⟨⟨rfl, trivial⟩, trivial⟩ (of_decide_eq_true (by kernel_rfl))⟩
    · refine AW.cond_f rfl b9 ?_
      refine AW.skip ?_
      refine blockQ_normal ?_
      refine thenQ_normal ?_
      refine AW.regionA [] [0, 1, 5] [] (s' := ⟨[(0, (.v (.one (.c (sl 1 (csL 5 cs_Key) a0))))), (1, (.v (.one (.c (.int .i64 v7))))), (5, (.v (.one (.c (.int .i64 (IntKind.i64.wrap (x4 + (1 : Int))))))))], []⟩) (ob := True ∧ True ∧ True ∧ True) (by kernel_rfl) ⟨trivial, trivial, trivial, trivial⟩ ?_
      exact loopQ_normal (k, v7, (IntKind.i64.wrap (x4 + (1 : Int)))) h (Nat.lt_succ_self k) (Sub.keep [0, 1, 5] [] (by kernel_rfl) (by kernel_rfl))
  · refine AW.cond_f rfl b5 ?_
    refine AW.exit ?_
    refine thenQ_exit ?_
    refine loopQ_exit ?_
    refine blockQ_exit ?_
    refine thenQ_normal ?_
    refine AW.seq ?_
    refine AW.regionA [] [4] [] (s' := ⟨[(4, (.v (.one (.c (.int .i64 x3)))))], []⟩) (ob := True ∧ True ∧ True) (by kernel_rfl) ⟨trivial, trivial, trivial⟩ ?_
    refine thenQ_normal ?_
    refine AW.ret ?_
    replace h := some_eq h
    subst h
    exact ⟨.inr rfl, retOK_of [(.one (.c (.int .i64 x3)))] (by kernel_rfl) ⟨⟨rfl, trivial⟩, trivial⟩ (of_decide_eq_true (by kernel_rfl))⟩

/-! laws.heldRootKeyS -/
def laws_heldRootKeyS_l1 (K : Nat) (a0 : (List RootKey)) : Nat → Int → Int → Option (Int)
  | 0, _, _ => none
  | k + 1, x3, x4 => ite2 ((decide (x4 < (a0.length : Int)))) (chk (0 ≤ x4 ∧ x4 < (a0.length : Int)) (ite2 ((((a0.getD x4.toNat default).At) != x3)) (some ((-1) : Int)) (ite2 (((((a0.getD x4.toNat default).Place).X).ne (Fl.ofInt .f32 (IntKind.i64.wrap (x3 + (1 : Int)))))) (some ((-1) : Int)) (ite2 (((((a0.getD x4.toNat default).Place).Y).ne (Fl.ofInt .f32 (IntKind.i64.wrap ((IntKind.i64.wrap (x3 + (1 : Int))) + (1 : Int)))))) (some ((-1) : Int)) (ite2 (((((a0.getD x4.toNat default).Place).Z).ne (Fl.ofInt .f32 (IntKind.i64.wrap ((IntKind.i64.wrap ((IntKind.i64.wrap (x3 + (1 : Int))) + (1 : Int))) + (1 : Int)))))) (some ((-1) : Int)) (laws_heldRootKeyS_l1 K a0 k (IntKind.i64.wrap ((IntKind.i64.wrap ((IntKind.i64.wrap ((IntKind.i64.wrap (x3 + (1 : Int))) + (1 : Int))) + (1 : Int))) + (1 : Int))) (IntKind.i64.wrap (x4 + (1 : Int))))))))) (some x3)

def laws_heldRootKeyS (K : Nat) (a0 : (List RootKey)) (a1 : Int) : Option (Int) :=
  laws_heldRootKeyS_l1 K a0 K a1 (0 : Int)

theorem ok_laws_heldRootKeyS (K : Nat) (a0 : (List RootKey)) (a1 : Int) (o : (Int)) (h : laws_heldRootKeyS K a0 a1 = some o) : CallOK Try.prog 73 [.one (sl 4 cs_RootKey a0), .one (.int .i64 a1)] [.one (.int .i64 o)] := by
  refine callOK_of_AW Try.func73 rfl (by kernel_rfl) (Nat.le_of_ble_eq_true (by kernel_rfl)) ?_
  intro w0
  unfold laws_heldRootKeyS at h
  refine AW.seq ?_
  refine AW.regionA [] [0, 1] [] (s' := ⟨[(0, (.v (.one (.c (sl 4 cs_RootKey a0))))), (1, (.v (.one (.c (.int .i64 a1)))))], []⟩) (ob := True ∧ True) (by kernel_rfl) ⟨trivial, trivial⟩ ?_
  refine thenQ_normal ?_
  refine AW.seq ?_
  refine AW.seq ?_
  refine AW.regionA [] [0, 1, 5] [] (s' := ⟨[(0, (.v (.one (.c (sl 4 cs_RootKey a0))))), (1, (.v (.one (.c (.int .i64 a1))))), (5, (.v (.one (.c (.int .i64 (0 : Int))))))], []⟩) (ob := True ∧ True) (by kernel_rfl) ⟨trivial, trivial⟩ ?_
  refine thenQ_normal ?_
  refine AW.block ?_
  refine AW.loopQ (σ := Nat × Int × Int) (fun p => ⟨[(0, (.v (.one (.c (sl 4 cs_RootKey a0))))), (1, (.v (.one (.c (.int .i64 p.2.1))))), (5, (.v (.one (.c (.int .i64 p.2.2)))))], []⟩) (fun p => laws_heldRootKeyS_l1 K a0 p.1 p.2.1 p.2.2 = some o) (fun p => p.1) (K, a1, (0 : Int)) h ?_
  clear h
  rintro ⟨k, x3, x4⟩ h
  replace h : laws_heldRootKeyS_l1 K a0 k x3 x4 = some o := h
  show AW _ _ (⟨[(0, (.v (.one (.c (sl 4 cs_RootKey a0))))), (1, (.v (.one (.c (.int .i64 x3))))), (5, (.v (.one (.c (.int .i64 x4)))))], []⟩ : St) _
  obtain _ | k := k
  · rw [laws_heldRootKeyS_l1] at h; cases h
  rw [laws_heldRootKeyS_l1] at h
  refine AW.seq ?_
  refine AW.seq ?_
  refine AW.regionA [] [0, 1, 5, 9] [] (s' := ⟨[(0, (.v (.one (.c (sl 4 cs_RootKey a0))))), (1, (.v (.one (.c (.int .i64 x3))))), (5, (.v (.one (.c (.int .i64 x4))))), (9, (.v (.one (.c (.bool (decide (x4 < (a0.length : Int))))))))], []⟩) (ob := True ∧ True ∧ True ∧ True ∧ True) (by kernel_rfl) ⟨trivial, trivial, trivial, trivial, trivial⟩ ?_
  refine thenQ_normal ?_
  rcases ite2_cases h with ⟨b5, h⟩ | ⟨b5, h⟩
  · refine AW.cond_t rfl b5 ?_
    refine AW.skip ?_
    refine thenQ_normal ?_
    refine AW.seq ?_
    refine AW.block ?_
    refine AW.seq ?_
    refine AW.seq ?_
    obtain ⟨c6, h⟩ := chk_some h
    refine AW.regionA [] [0, 1, 5, 18] [] (s' := ⟨[(0, (.v (.one (.c (sl 4 cs_RootKey a0))))), (1, (.v (.one (.c (.int .i64 x3))))), (5, (.v (.one (.c (.int .i64 x4))))), (18, (.v (.one (.c (.bool (((a0.getD x4.toNat default).At) != x3))))))], []⟩) (ob := True ∧ True ∧ (0 ≤ x4 ∧ x4 < (a0.length : Int)) ∧ True ∧ True ∧ True ∧ True ∧ True) (by kernel_rfl) ⟨trivial, trivial, c6, trivial, trivial, trivial, trivial, trivial⟩ ?_
    refine thenQ_normal ?_
    rcases ite2_cases h with ⟨b7, h⟩ | ⟨b7, h⟩
    · refine AW.cond_t rfl b7 ?_
      refine AW.seq ?_
      refine AW.regionA [] [4] [] (s' := ⟨[(4, (.v (.one (.c (.int .i64 ((-1) : Int))))))], []⟩) (ob := True ∧ True) (by kernel_rfl) ⟨trivial, trivial⟩ ?_
      refine thenQ_normal ?_
      refine AW.ret ?_
      refine thenQ_ret ?_
      refine blockQ_ret ?_
      refine thenQ_ret ?_
      refine loopQ_ret ?_
      refine blockQ_ret ?_
      refine thenQ_ret ?_
      replace h := some_eq h
      subst h
      exact ⟨.inr rfl, retOK_of [(.one (.c (.int .i64 ((-1) : Int))))] (by kernel_rfl) ⟨⟨rfl, trivial⟩, trivial⟩ (of_decide_eq_true (by kernel_rfl))⟩
    · refine AW.cond_f rfl b7 ?_
      refine AW.skip ?_
      refine thenQ_normal ?_
      refine AW.seq ?_
      refine AW.regionA [] [0, 1, 5] [] (s' := ⟨[(0, (.v (.one (.c (sl 4 cs_RootKey a0))))), (1, (.v (.one (.c (.int .i64 (IntKind.i64.wrap (x3 + (1 : Int)))))))), (5, (.v (.one (.c (.int .i64 x4)))))], []⟩) (ob := True ∧ True ∧ True ∧ True) (by kernel_rfl) ⟨trivial, trivial, trivial, trivial⟩ ?_
      refine thenQ_normal ?_
      refine AW.seq ?_
      refine AW.seq ?_
      refine AW.regionA [] [0, 1, 5, 29] [] (s' := ⟨[(0, (.v (.one (.c (sl 4 cs_RootKey a0))))), (1, (.v (.one (.c (.int .i64 (IntKind.i64.wrap (x3 + (1 : Int)))))))), (5, (.v (.one (.c (.int .i64 x4))))), (29, (.v (.one (.c (.bool ((((a0.getD x4.toNat default).Place).X).ne (Fl.ofInt .f32 (IntKind.i64.wrap (x3 + (1 : Int))))))))))], []⟩) (ob := True ∧ True ∧ (0 ≤ x4 ∧ x4 < (a0.length : Int)) ∧ True ∧ True ∧ True ∧ True ∧ True ∧ True ∧ True) (by kernel_rfl) ⟨trivial, trivial, c6, trivial, trivial, trivial, trivial, trivial, trivial, trivial⟩ ?_
      refine thenQ_normal ?_
      rcases ite2_cases h with ⟨b8, h⟩ | ⟨b8, h⟩
      · refine AW.cond_t rfl b8 ?_
        refine AW.seq ?_
        refine AW.regionA [] [4] [] (s' := ⟨[(4, (.v (.one (.c (.int .i64 ((-1) : Int))))))], []⟩) (ob := True ∧ True) (by kernel_rfl) ⟨trivial, trivial⟩ ?_
        refine thenQ_normal ?_
        refine AW.ret ?_
        refine thenQ_ret ?_
        refine blockQ_ret ?_
        refine thenQ_ret ?_
        refine loopQ_ret ?_
        refine blockQ_ret ?_
        refine thenQ_ret ?_
        replace h := some_eq h
        subst h
        exact ⟨.inr rfl, retOK_of [(.one (.c (.int .i64 ((-1) : Int))))] (by kernel_rfl) ⟨⟨rfl, trivial⟩, trivial⟩ (of_decide_eq_true (by kernel_rfl))⟩
      · refine AW.cond_f rfl b8 ?_
        refine AW.skip ?_
        refine thenQ_normal ?_
        refine AW.seq ?_
        refine AW.regionA [] [0, 1, 5] [] (s' := ⟨[(0, (.v (.one (.c (sl 4 cs_RootKey a0))))), (1, (.v (.one (.c (.int .i64 (IntKind.i64.wrap ((IntKind.i64.wrap (x3 + (1 : Int))) + (1 : Int)))))))), (5, (.v (.one (.c (.int .i64 x4)))))], []⟩) (ob := True ∧ True ∧ True ∧ True) (by kernel_rfl) ⟨trivial, trivial, trivial, trivial⟩ ?_
        refine thenQ_normal ?_
        refine AW.seq ?_
        refine AW.seq ?_
        refine AW.regionA [] [0, 1, 5, 40] [] (s' := ⟨[(0, (.v (.one (.c (sl 4 cs_RootKey a0))))), (1, (.v (.one (.c (.int .i64 (IntKind.i64.wrap ((IntKind.i64.wrap (x3 + (1 : Int))) + (1 : Int)))))))), (5, (.v (.one (.c (.int .i64 x4))))), (40, (.v (.one (.c (.bool ((((a0.getD x4.toNat default).Place).Y).ne (Fl.ofInt .f32 (IntKind.i64.wrap ((IntKind.i64.wrap (x3 + (1 : Int))) + (1 : Int))))))))))], []⟩) (ob := True ∧ True ∧ (0 ≤ x4 ∧ x4 < (a0.length : Int)) ∧ True ∧ True ∧ True ∧ True ∧ True ∧ True ∧ True) (by kernel_rfl) ⟨trivial, trivial, c6, trivial, trivial, trivial, trivial, trivial, trivial, trivial⟩ ?_
        refine thenQ_normal ?_
        rcases ite2_cases h with ⟨b9, h⟩ | ⟨b9, h⟩
        · refine AW.cond_t rfl b9 ?_
          refine AW.seq ?_
          refine AW.regionA [] [4] [] (s' := ⟨[(4, (.v (.one (.c (.int .i64 ((-1) : Int))))))], []⟩) (ob := True ∧ True) (by kernel_rfl) ⟨trivial, trivial⟩ ?_
          refine thenQ_normal ?_
          refine AW.ret ?_
          refine thenQ_ret ?_
          refine blockQ_ret ?_
          refine thenQ_ret ?_
          refine loopQ_ret ?_
          refine blockQ_ret ?_
          refine thenQ_ret ?_
          replace h := some_eq h
          subst h
          exact ⟨.inr rfl, retOK_of [(.one (.c (.int .i64 ((-1) : Int))))] (by kernel_rfl) ⟨⟨rfl, trivial⟩, trivial⟩ (of_decide_eq_true (by kernel_rfl))⟩
        · refine AW.cond_f rfl b9 ?_
          refine AW.skip ?_
          refine thenQ_normal ?_
          refine AW.seq ?_
          refine AW.regionA [] [0, 1, 5] [] (s' := ⟨[(0, (.v (.one (.c (sl 4 cs_RootKey a0))))), (1, (.v (.one (.c (.int .i64 (IntKind.i64.wrap ((IntKind.i64.wrap ((IntKind.i64.wrap (x3 + (1 : Int))) + (1 : Int))) + (1 : Int)))))))), (5, (.v (.one (.c (.int .i64 x4)))))], []⟩) (ob := True ∧ True ∧ True ∧ True) (by kernel_rfl) ⟨trivial, trivial, trivial, trivial⟩ ?_
          refine thenQ_normal ?_
          refine AW.seq ?_
          refine AW.seq ?_
          refine AW.regionA [] [0, 1, 5, 51] [] (s' := ⟨[(0, (.v (.one (.c (sl 4 cs_RootKey a0))))), (1, (.v (.one (.c (.int .i64 (IntKind.i64.wrap ((IntKind.i64.wrap ((IntKind.i64.wrap (x3 + (1 : Int))) + (1 : Int))) + (1 : Int)))))))), (5, (.v (.one (.c (.int .i64 x4))))), (51, (.v (.one (.c (.bool ((((a0.getD x4.toNat default).Place).Z).ne (Fl.ofInt .f32 (IntKind.i64.wrap ((IntKind.i64.wrap ((IntKind.i64.wrap (x3 + (1 : Int))) + (1 : Int))) + (1 : Int))))))))))], []⟩) (ob := True ∧ True ∧ (0 ≤ x4 ∧ x4 < (a0.length : Int)) ∧ True ∧ True ∧ True ∧ True ∧ True ∧ True ∧ True) (by kernel_rfl) ⟨trivial, trivial, c6, trivial, trivial, trivial, trivial, trivial, trivial, trivial⟩ ?_
          refine thenQ_normal ?_
          rcases ite2_cases h with ⟨b10, h⟩ | ⟨b10, h⟩
          · refine AW.cond_t rfl b10 ?_
            refine AW.seq ?_
            refine AW.regionA [] [4] [] (s' := ⟨[(4, (.v (.one (.c (.int .i64 ((-1) : Int))))))], []⟩) (ob := True ∧ True) (by kernel_rfl) ⟨trivial, trivial⟩ ?_
            refine thenQ_normal ?_
            refine AW.ret ?_
            refine thenQ_ret ?_
            refine blockQ_ret ?_
            refine thenQ_ret ?_
            refine loopQ_ret ?_
            refine blockQ_ret ?_
            refine thenQ_ret ?_
            replace h := some_eq h
            subst h
            exact ⟨.inr rfl, retOK_of [(.one (.c (.int .i64 ((-1) : Int))))] (by kernel_rfl) ⟨⟨rfl, trivial⟩, trivial⟩ (of_decide_eq_true (by kernel_rfl))⟩
          · refine AW.cond_f rfl b10 ?_
            refine AW.skip ?_
            refine thenQ_normal ?_
            refine AW.regionA [] [0, 1, 5] [] (s' := ⟨[(0, (.v (.one (.c (sl 4 cs_RootKey a0))))), (1, (.v (.one (.c (.int .i64 (IntKind.i64.wrap ((IntKind.i64.wrap ((IntKind.i64.wrap ((IntKind.i64.wrap (x3 + (1 : Int))) + (1 : Int))) + (1 : Int))) + (1 : Int)))))))), (5, (.v (.one (.c (.int .i64 x4)))))], []⟩) (ob := True ∧ True ∧ True ∧ True) (by kernel_rfl) ⟨trivial, trivial, trivial, trivial⟩ ?_
            refine blockQ_normal ?_
            refine thenQ_normal ?_
            refine AW.regionA [] [0, 1, 5] [] (s' := ⟨[(0, (.v (.one (.c (sl 4 cs_RootKey a0))))), (1, (.v (.one (.c (.int .i64 (IntKind.i64.wrap ((IntKind.i64.wrap ((IntKind.i64.wrap ((IntKind.i64.wrap (x3 + (1 : Int))) + (1 : Int))) + (1 : Int))) + (1 : Int)))))))), (5, (.v (.one (.c (.int .i64 (IntKind.i64.wrap (x4 + (1 : Int))))))))], []⟩) (ob := True ∧ True ∧ True ∧ True) (by kernel_rfl) ⟨trivial, trivial, trivial, trivial⟩ ?_
            exact loopQ_normal (k, (IntKind.i64.wrap ((IntKind.i64.wrap ((IntKind.i64.wrap ((IntKind.i64.wrap (x3 + (1 : Int))) + (1 : Int))) + (1 : Int))) + (1 : Int))), (IntKind.i64.wrap (x4 + (1 : Int)))) h (Nat.lt_succ_self k) (Sub.keep [0, 1, 5] [] (by kernel_rfl) (by kernel_rfl))
  · refine AW.cond_f rfl b5 ?_
    refine AW.exit ?_
    refine thenQ_exit ?_
    refine loopQ_exit ?_
    refine blockQ_exit ?_
    refine thenQ_normal ?_
    refine AW.seq ?_
    refine AW.regionA [] [4] [] (s' := ⟨[(4, (.v (.one (.c (.int .i64 x3)))))], []⟩) (ob := True ∧ True ∧ True) (by kernel_rfl) ⟨trivial, trivial, trivial⟩ ?_
    refine thenQ_normal ?_
    refine AW.ret ?_
    replace h := some_eq h
    subst h
    exact ⟨.inr rfl, retOK_of [(.one (.c (.int .i64 x3)))] (by kernel_rfl) ⟨⟨rfl, trivial⟩, trivial⟩ (of_decide_eq_true (by kernel_rfl))⟩

/-! laws.heldClip -/
def laws_heldClip (K : Nat) (a0 : Clip) (a1 : Int) : Option (Int) :=
  (laws_heldKeySS K a0.Tracks a1).bind fun v1 => ite2 ((decide (v1 < (0 : Int)))) (some ((-1) : Int)) ((laws_heldRootKeyS K a0.Roots v1).bind fun v4 => ite2 ((decide (v4 < (0 : Int)))) (some ((-1) : Int)) (some v4))

theorem ok_laws_heldClip (K : Nat) (a0 : Clip) (a1 : Int) (o : (Int)) (h : laws_heldClip K a0 a1 = some o) : CallOK Try.prog 17 [.agg (cs_Clip a0), .one (.int .i64 a1)] [.one (.int .i64 o)] := by
  refine callOK_of_AW Try.func17 rfl (by kernel_rfl) (Nat.le_of_ble_eq_true (by kernel_rfl)) ?_
  intro w0
  unfold laws_heldClip at h
  refine AW.seq ?_
  refine AW.regionA [.box 1] [1, 2] [1] (s' := ⟨[(1, (.v (.one (.c (.int .i64 a1))))), (2, (.v (.one (.ptr 1 0))))], [(1, (.box [(.c (.int .i64 a0.Length)), (.c (.int .i64 a0.Kind)), (.c (sl 1 (csL 5 cs_Key) a0.Tracks)), (.c (sl 4 cs_RootKey a0.Roots))]))]⟩) (ob := True ∧ True ∧ True) (by kernel_rfl) ⟨trivial, trivial, trivial⟩ ?_
  refine thenQ_normal ?_
  refine AW.seq ?_
  obtain ⟨v1, e2, h⟩ := bind_some h
  refine AW.regionA [.no, .no, .no, .call [.one (sl 1 (csL 5 cs_Key) a0.Tracks), .one (.int .i64 a1)] [.one (.int .i64 v1)] [[.view]]] [1, 2] [1] (s' := ⟨[(1, (.v (.one (.c (.int .i64 v1))))), (2, (.v (.one (.ptr 1 0))))], [(1, (.box [(.c (.int .i64 a0.Length)), (.c (.int .i64 a0.Kind)), (.c (sl 1 (csL 5 cs_Key) a0.Tracks)), (.c (sl 4 cs_RootKey a0.Roots))]))]⟩) (ob := True ∧ True ∧ True ∧ (((((sl 1 (csL 5 cs_Key) a0.Tracks) : C) = (sl 1 (csL 5 cs_Key) a0.Tracks)) ∧ (((.int .i64 a1) : C) = (.int .i64 a1)) ∧ True) ∧ CallOK Try.prog 72 [.one (sl 1 (csL 5 cs_Key) a0.Tracks), .one (.int .i64 a1)] [.one (.int .i64 v1)]) ∧ True ∧ True) (by kernel_rfl) ⟨trivial, trivial, trivial, ⟨⟨rfl, rfl, trivial⟩, ok_laws_heldKeySS K a0.Tracks a1 v1 e2⟩, trivial, trivial⟩ ?_
  refine thenQ_normal ?_
  refine AW.seq ?_
  refine AW.seq ?_
  refine AW.regionA [] [1, 2, 10] [1] (s' := ⟨[(1, (.v (.one (.c (.int .i64 v1))))), (2, (.v (.one (.ptr 1 0)))), (10, (.v (.one (.c (.bool (decide (v1 < (0 : Int))))))))], [(1, (.box [(.c (.int .i64 a0.Length)), (.c (.int .i64 a0.Kind)), (.c (sl 1 (csL 5 cs_Key) a0.Tracks)), (.c (sl 4 cs_RootKey a0.Roots))]))]⟩) (ob := True ∧ True ∧ True) (by kernel_rfl) ⟨trivial, trivial, trivial⟩ ?_
  refine thenQ_normal ?_
  rcases ite2_cases h with ⟨b3, h⟩ | ⟨b3, h⟩
  · refine AW.cond_t rfl b3 ?_
    refine AW.seq ?_
    refine AW.regionA [] [4] [] (s' := ⟨[(4, (.v (.one (.c (.int .i64 ((-1) : Int))))))], []⟩) (ob := True ∧ True) (by kernel_rfl) ⟨trivial, trivial⟩ ?_
    refine thenQ_normal ?_
    refine AW.ret ?_
    refine thenQ_ret ?_
    replace h := some_eq h
    subst h
    exact ⟨.inr rfl, retOK_of [(.one (.c (.int .i64 ((-1) : Int))))] (by kernel_rfl) ⟨⟨rfl, trivial⟩, trivial⟩ (of_decide_eq_true (by kernel_rfl))⟩
  · refine AW.cond_f rfl b3 ?_
    refine AW.skip ?_
    refine thenQ_normal ?_
    refine AW.seq ?_
    obtain ⟨v4, e5, h⟩ := bind_some h
    refine AW.regionA [.no, .no, .no, .call [.one (sl 4 cs_RootKey a0.Roots), .one (.int .i64 v1)] [.one (.int .i64 v4)] [[.view]]] [1] [] (s' := ⟨[(1, (.v (.one (.c (.int .i64 v4)))))], []⟩) (ob := True ∧ True ∧ True ∧ (((((sl 4 cs_RootKey a0.Roots) : C) = (sl 4 cs_RootKey a0.Roots)) ∧ (((.int .i64 v1) : C) = (.int .i64 v1)) ∧ True) ∧ CallOK Try.prog 73 [.one (sl 4 cs_RootKey a0.Roots), .one (.int .i64 v1)] [.one (.int .i64 v4)]) ∧ True ∧ True) (by kernel_rfl) ⟨trivial, trivial, trivial, ⟨⟨rfl, rfl, trivial⟩, ok_laws_heldRootKeyS K a0.Roots v1 v4 e5⟩, trivial, trivial⟩ ?_
    refine thenQ_normal ?_
    refine AW.seq ?_
    refine AW.seq ?_
    refine AW.regionA [] [1, 16] [] (s' := ⟨[(1, (.v (.one (.c (.int .i64 v4))))), (16, (.v (.one (.c (.bool (decide (v4 < (0 : Int))))))))], []⟩) (ob := True ∧ True ∧ True) (by kernel_rfl) ⟨trivial, trivial, trivial⟩ ?_
    refine thenQ_normal ?_
    rcases ite2_cases h with ⟨b6, h⟩ | ⟨b6, h⟩
    · refine AW.cond_t rfl b6 ?_
      refine AW.seq ?_
      refine AW.regionA [] [4] [] (s' := ⟨[(4, (.v (.one (.c (.int .i64 ((-1) : Int))))))], []⟩) (ob := True ∧ True) (by kernel_rfl) ⟨trivial, trivial⟩ ?_
      refine thenQ_normal ?_
      refine AW.ret ?_
      refine thenQ_ret ?_
      replace h := some_eq h
      subst h
      exact ⟨.inr rfl, retOK_of [(.one (.c (.int .i64 ((-1) : Int))))] (by kernel_rfl) ⟨⟨rfl, trivial⟩, trivial⟩ (of_decide_eq_true (by kernel_rfl))⟩
    · refine AW.cond_f rfl b6 ?_
      refine AW.skip ?_
      refine thenQ_normal ?_
      refine AW.seq ?_
      refine AW.regionA [] [4] [] (s' := ⟨[(4, (.v (.one (.c (.int .i64 v4)))))], []⟩) (ob := True ∧ True ∧ True) (by kernel_rfl) ⟨trivial, trivial, trivial⟩ ?_
      refine thenQ_normal ?_
      refine AW.ret ?_
      replace h := some_eq h
      subst h
      exact ⟨.inr rfl, retOK_of [(.one (.c (.int .i64 v4)))] (by kernel_rfl) ⟨⟨rfl, trivial⟩, trivial⟩ (of_decide_eq_true (by kernel_rfl))⟩

/-! laws.FnExactMirrorClip -/
def laws_FnExactMirrorClip (K : Nat) (a0 : Skeleton) (a1 : Clip) (a2 : (List Int)) : Option (Bool) :=
  ite2 ((decide ((a2.length : Int) > (1048576 : Int)))) (some true) ((laws_szSkeleton K a0 (1048576 : Int)).bind fun v2 => ite2 ((decide (v2 < (0 : Int)))) (some true) ((laws_szClip K a1 v2).bind fun v5 => ite2 ((decide (v5 < (0 : Int)))) (some true) ((laws_toSkeleton K a0).bind fun v8 => (laws_toClip K a1).bind fun v10 => (laws_toInt64S K a2).bind fun v12 => (spec_MirrorClip K v8 v10 v12).bind fun v14 => (laws_toSkeleton K a0).bind fun v16 => (laws_toClip K a1).bind fun v18 => (laws_toInt64S K a2).bind fun v20 => (impl_MirrorClip K v16 v18 v20).bind fun v22 => (laws_eqClip K v22.1 v14.1).bind fun v24 => (ite2 ((!v24)) (some true) (some (!(v22.2 == v14.2)))).bind fun j27 => ite2 (j27) (some false) ((laws_toSkeleton K a0).bind fun v30 => (laws_eqSkeleton K v16 v30).bind fun v32 => ite2 ((!v32)) (some false) ((laws_toClip K a1).bind fun v35 => (laws_eqClip K v18 v35).bind fun v37 => ite2 ((!v37)) (some false) ((laws_toInt64S K a2).bind fun v40 => (laws_eqInt64S K v20 v40).bind fun v42 => ite2 ((!v42)) (some false) ((laws_markSkeleton K v16 (1 : Int)).bind fun v45 => chk (v45.2.length = v16.Bones.length) ((laws_markClip K v18 v45.1).bind fun v48 => chk (v48.2.1.length = v18.Tracks.length) (chk (v48.2.2.length = v18.Roots.length) ((laws_markInt64S K v20 v48.1).bind fun v52 => chk (v52.2.length = v20.length) ((ite2 ((decide (v52.1 < (0 : Int)))) (some true) ((laws_eqClip K v22.1 v14.1).bind fun v56 => ite2 ((!v56)) (some true) (some (!(v22.2 == v14.2))))).bind fun j59 => ite2 (j59) (some false) ((laws_markClip K v22.1 (1 : Int)).bind fun v62 => chk (v62.2.1.length = v22.1.Tracks.length) (chk (v62.2.2.length = v22.1.Roots.length) ((laws_heldClip K (Clip.mk v22.1.Length v22.1.Kind v62.2.1 v62.2.2) (1 : Int)).bind fun v66 => ite2 ((decide (v66 < (0 : Int)))) (some false) (ite2 ((v66 != v62.1)) (some false) ((laws_toSkeleton K a0).bind fun v70 => (laws_toClip K a1).bind fun v72 => (laws_toInt64S K a2).bind fun v74 => (impl_MirrorClip K v70 v72 v74).bind fun v76 => (laws_eqClip K v76.1 v14.1).bind fun v78 => (ite2 ((!v78)) (some true) (some (!(v76.2 == v14.2)))).bind fun j81 => ite2 (j81) (some false) ((laws_heldClip K (Clip.mk v22.1.Length v22.1.Kind v62.2.1 v62.2.2) (1 : Int)).bind fun v84 => ite2 ((decide (v84 < (0 : Int)))) (some false) (ite2 ((v84 != v62.1)) (some false) (some true)))))))))))))))))))

theorem ok_laws_FnExactMirrorClip (K : Nat) (a0 : Skeleton) (a1 : Clip) (a2 : (List Int)) (o : (Bool)) (h : laws_FnExactMirrorClip K a0 a1 a2 = some o) : CallOK Try.prog 8 [.agg (cs_Skeleton a0), .agg (cs_Clip a1), .one (sl 1 (csI .i64) a2)] [.one (.bool o)] := by
  refine callOK_of_AW Try.func8 rfl (by kernel_rfl) (Nat.le_of_ble_eq_true (by kernel_rfl)) ?_
  intro w0
  unfold laws_FnExactMirrorClip at h
  refine AW.seq ?_
  refine AW.regionA [.box 1, .box 2] [2, 3, 4] [1, 2] (s' := ⟨[(2, (.v (.one (.c (sl 1 (csI .i64) a2))))), (3, (.v (.one (.ptr 1 0)))), (4, (.v (.one (.ptr 2 0))))], [(1, (.box [(.c (sl 4 cs_Bone a0.Bones))])), (2, (.box [(.c (.int .i64 a1.Length)), (.c (.int .i64 a1.Kind)), (.c (sl 1 (csL 5 cs_Key) a1.Tracks)), (.c (sl 4 cs_RootKey a1.Roots))]))]⟩) (ob := True ∧ True ∧ True ∧ True) (by kernel_rfl) ⟨trivial, trivial, trivial, trivial⟩ ?_
  refine thenQ_normal ?_
  refine AW.seq ?_
  refine AW.seq ?_
  refine AW.regionA [] [2, 3, 4, 22] [1, 2] (s' := ⟨[(2, (.v (.one (.c (sl 1 (csI .i64) a2))))), (3, (.v (.one (.ptr 1 0)))), (4, (.v (.one (.ptr 2 0)))), (22, (.v (.one (.c (.bool (decide ((a2.length : Int) > (1048576 : Int))))))))], [(1, (.box [(.c (sl 4 cs_Bone a0.Bones))])), (2, (.box [(.c (.int .i64 a1.Length)), (.c (.int .i64 a1.Kind)), (.c (sl 1 (csL 5 cs_Key) a1.Tracks)), (.c (sl 4 cs_RootKey a1.Roots))]))]⟩) (ob := True ∧ True ∧ True ∧ True) (by kernel_rfl) ⟨trivial, trivial, trivial, trivial⟩ ?_
  refine thenQ_normal ?_
  rcases ite2_cases h with ⟨b1, h⟩ | ⟨b1, h⟩
  · refine AW.cond_t rfl b1 ?_
    refine AW.seq ?_
    refine AW.regionA [] [6] [] (s' := ⟨[(6, (.v (.one (.c (.bool true)))))], []⟩) (ob := True ∧ True) (by kernel_rfl) ⟨trivial, trivial⟩ ?_
    refine thenQ_normal ?_
    refine AW.ret ?_
    refine thenQ_ret ?_
    replace h := some_eq h
    subst h
    exact ⟨.inr rfl, retOK_of [(.one (.c (.bool true)))] (by kernel_rfl) ⟨⟨rfl, trivial⟩, trivial⟩ (of_decide_eq_true (by kernel_rfl))⟩
  · refine AW.cond_f rfl b1 ?_
    refine AW.skip ?_
    refine thenQ_normal ?_
    refine AW.seq ?_
    refine AW.regionA [] [2, 3, 4, 7] [1, 2] (s' := ⟨[(2, (.v (.one (.c (sl 1 (csI .i64) a2))))), (3, (.v (.one (.ptr 1 0)))), (4, (.v (.one (.ptr 2 0)))), (7, (.v (.one (.c (.int .i64 (1048576 : Int))))))], [(1, (.box [(.c (sl 4 cs_Bone a0.Bones))])), (2, (.box [(.c (.int .i64 a1.Length)), (.c (.int .i64 a1.Kind)), (.c (sl 1 (csL 5 cs_Key) a1.Tracks)), (.c (sl 4 cs_RootKey a1.Roots))]))]⟩) (ob := True ∧ True) (by kernel_rfl) ⟨trivial, trivial⟩ ?_
    refine thenQ_normal ?_
    refine AW.seq ?_
    obtain ⟨v2, e3, h⟩ := bind_some h
    refine AW.regionA [.no, .no, .call [.agg (cs_Skeleton a0), .one (.int .i64 (1048576 : Int))] [.one (.int .i64 v2)] [[.view]]] [2, 3, 4, 7] [1, 2] (s' := ⟨[(2, (.v (.one (.c (sl 1 (csI .i64) a2))))), (3, (.v (.one (.ptr 1 0)))), (4, (.v (.one (.ptr 2 0)))), (7, (.v (.one (.c (.int .i64 v2)))))], [(1, (.box [(.c (sl 4 cs_Bone a0.Bones))])), (2, (.box [(.c (.int .i64 a1.Length)), (.c (.int .i64 a1.Kind)), (.c (sl 1 (csL 5 cs_Key) a1.Tracks)), (.c (sl 4 cs_RootKey a1.Roots))]))]⟩) (ob := True ∧ True ∧ ((((((sl 4 cs_Bone a0.Bones) : C) = (sl 4 cs_Bone a0.Bones)) ∧ True) ∧ (((.int .i64 (1048576 : Int)) : C) = (.int .i64 (1048576 : Int))) ∧ True) ∧ CallOK Try.prog 26 [.agg (cs_Skeleton a0), .one (.int .i64 (1048576 : Int))] [.one (.int .i64 v2)]) ∧ True ∧ True) (by kernel_rfl) ⟨trivial, trivial, ⟨⟨⟨rfl, trivial⟩, rfl, trivial⟩, ok_laws_szSkeleton K a0 (1048576 : Int) v2 e3⟩, trivial, trivial⟩ ?_
    refine thenQ_normal ?_
    refine AW.seq ?_
    refine AW.seq ?_
    refine AW.regionA [] [2, 3, 4, 7, 27] [1, 2] (s' := ⟨[(2, (.v (.one (.c (sl 1 (csI .i64) a2))))), (3, (.v (.one (.ptr 1 0)))), (4, (.v (.one (.ptr 2 0)))), (7, (.v (.one (.c (.int .i64 v2))))), (27, (.v (.one (.c (.bool (decide (v2 < (0 : Int))))))))], [(1, (.box [(.c (sl 4 cs_Bone a0.Bones))])), (2, (.box [(.c (.int .i64 a1.Length)), (.c (.int .i64 a1.Kind)), (.c (sl 1 (csL 5 cs_Key) a1.Tracks)), (.c (sl 4 cs_RootKey a1.Roots))]))]⟩) (ob := True ∧ True ∧ True) (by kernel_rfl) ⟨trivial, trivial, trivial⟩ ?_
    refine thenQ_normal ?_
    rcases ite2_cases h with ⟨b4, h⟩ | ⟨b4, h⟩
    · refine AW.cond_t rfl b4 ?_
      refine AW.seq ?_
      refine AW.regionA [] [6] [] (s' := ⟨[(6, (.v (.one (.c (.bool true)))))], []⟩) (ob := True ∧ True) (by kernel_rfl) ⟨trivial, trivial⟩ ?_
      refine thenQ_normal ?_
      refine AW.ret ?_
      refine thenQ_ret ?_
      replace h := some_eq h
      subst h
      exact ⟨.inr rfl, retOK_of [(.one (.c (.bool true)))] (by kernel_rfl) ⟨⟨rfl, trivial⟩, trivial⟩ (of_decide_eq_true (by kernel_rfl))⟩
    · refine AW.cond_f rfl b4 ?_
      refine AW.skip ?_
      refine thenQ_normal ?_
      refine AW.seq ?_
      obtain ⟨v5, e6, h⟩ := bind_some h
      refine AW.regionA [.no, .no, .call [.agg (cs_Clip a1), .one (.int .i64 v2)] [.one (.int .i64 v5)] [[.view]]] [2, 3, 4, 7] [1, 2] (s' := ⟨[(2, (.v (.one (.c (sl 1 (csI .i64) a2))))), (3, (.v (.one (.ptr 1 0)))), (4, (.v (.one (.ptr 2 0)))), (7, (.v (.one (.c (.int .i64 v5)))))], [(1, (.box [(.c (sl 4 cs_Bone a0.Bones))])), (2, (.box [(.c (.int .i64 a1.Length)), (.c (.int .i64 a1.Kind)), (.c (sl 1 (csL 5 cs_Key) a1.Tracks)), (.c (sl 4 cs_RootKey a1.Roots))]))]⟩) (ob := True ∧ True ∧ ((((((.int .i64 a1.Length) : C) = (.int .i64 a1.Length)) ∧ (((.int .i64 a1.Kind) : C) = (.int .i64 a1.Kind)) ∧ (((sl 1 (csL 5 cs_Key) a1.Tracks) : C) = (sl 1 (csL 5 cs_Key) a1.Tracks)) ∧ (((sl 4 cs_RootKey a1.Roots) : C) = (sl 4 cs_RootKey a1.Roots)) ∧ True) ∧ (((.int .i64 v2) : C) = (.int .i64 v2)) ∧ True) ∧ CallOK Try.prog 11 [.agg (cs_Clip a1), .one (.int .i64 v2)] [.one (.int .i64 v5)]) ∧ True ∧ True) (by kernel_rfl) ⟨trivial, trivial, ⟨⟨⟨rfl, rfl, rfl, rfl, trivial⟩, rfl, trivial⟩, ok_laws_szClip K a1 v2 v5 e6⟩, trivial, trivial⟩ ?_
      refine thenQ_normal ?_
      refine AW.seq ?_
      refine AW.seq ?_
      refine AW.regionA [] [2, 3, 4, 32] [1, 2] (s' := ⟨[(2, (.v (.one (.c (sl 1 (csI .i64) a2))))), (3, (.v (.one (.ptr 1 0)))), (4, (.v (.one (.ptr 2 0)))), (32, (.v (.one (.c (.bool (decide (v5 < (0 : Int))))))))], [(1, (.box [(.c (sl 4 cs_Bone a0.Bones))])), (2, (.box [(.c (.int .i64 a1.Length)), (.c (.int .i64 a1.Kind)), (.c (sl 1 (csL 5 cs_Key) a1.Tracks)), (.c (sl 4 cs_RootKey a1.Roots))]))]⟩) (ob := True ∧ True ∧ True) (by kernel_rfl) ⟨trivial, trivial, trivial⟩ ?_
      refine thenQ_normal ?_
      rcases ite2_cases h with ⟨b7, h⟩ | ⟨b7, h⟩
      · refine AW.cond_t rfl b7 ?_
        refine AW.seq ?_
        refine AW.regionA [] [6] [] (s' := ⟨[(6, (.v (.one (.c (.bool true)))))], []⟩) (ob := True ∧ True) (by kernel_rfl) ⟨trivial, trivial⟩ ?_
        refine thenQ_normal ?_
        refine AW.ret ?_
        refine thenQ_ret ?_
        replace h := some_eq h
        subst h
        exact ⟨.inr rfl, retOK_of [(.one (.c (.bool true)))] (by kernel_rfl) ⟨⟨rfl, trivial⟩, trivial⟩ (of_decide_eq_true (by kernel_rfl))⟩
      · refine AW.cond_f rfl b7 ?_
        refine AW.skip ?_
        refine thenQ_normal ?_
        refine AW.seq ?_
        obtain ⟨v8, e9, h⟩ := bind_some h
        obtain ⟨v10, e11, h⟩ := bind_some h
        obtain ⟨v12, e13, h⟩ := bind_some h
        obtain ⟨v14, e15, h⟩ := bind_some h
        refine AW.lateA (by kernel_rfl) 11 9 [.no, .call [.agg (cs_Skeleton a0)] [.agg (cs_Skeleton v8)] [[.lst 3]], .no, .call [.agg (cs_Clip a1)] [.agg (cs_Clip v10)] [[.view, .view, .lst 4, .lst 5]], .no, .call [.one (sl 1 (csI .i64) a2)] [.one (sl 1 (csI .i64) v12)] [[.lst 6]], .call [.agg (cs_Skeleton v8), .agg (cs_Clip v10), .one (sl 1 (csI .i64) v12)] [.agg (cs_Clip v14.1), .one (.bool v14.2)] [[.view, .view, .lst 7, .lst 8], [.view]], .no, .no, .no, .box 9] [2, 3, 4, 8, 9] [1, 2, 7, 8, 9] (s' := ⟨[(2, (.v (.one (.c (sl 1 (csI .i64) a2))))), (3, (.v (.one (.ptr 1 0)))), (4, (.v (.one (.ptr 2 0)))), (8, (.v (.one (.ptr 9 0)))), (9, (.v (.one (.c (.bool v14.2)))))], [(1, (.box [(.c (sl 4 cs_Bone a0.Bones))])), (2, (.box [(.c (.int .i64 a1.Length)), (.c (.int .i64 a1.Kind)), (.c (sl 1 (csL 5 cs_Key) a1.Tracks)), (.c (sl 4 cs_RootKey a1.Roots))])), (7, (.lst v14.1.Tracks.length 1 (gl (csL 5 cs_Key) v14.1.Tracks))), (8, (.lst v14.1.Roots.length 4 (gl cs_RootKey v14.1.Roots))), (9, (.box [(.c (.int .i64 v14.1.Length)), (.c (.int .i64 v14.1.Kind)), (.lst 7 v14.1.Tracks.length 1 (gl (csL 5 cs_Key) v14.1.Tracks)), (.lst 8 v14.1.Roots.length 4 (gl cs_RootKey v14.1.Roots))]))]⟩) (ob := (True ∧ ((((((sl 4 cs_Bone a0.Bones) : C) = (sl 4 cs_Bone a0.Bones)) ∧ True) ∧ True) ∧ CallOK Try.prog 28 [.agg (cs_Skeleton a0)] [.agg (cs_Skeleton v8)]) ∧ True ∧ ((((((.int .i64 a1.Length) : C) = (.int .i64 a1.Length)) ∧ (((.int .i64 a1.Kind) : C) = (.int .i64 a1.Kind)) ∧ (((sl 1 (csL 5 cs_Key) a1.Tracks) : C) = (sl 1 (csL 5 cs_Key) a1.Tracks)) ∧ (((sl 4 cs_RootKey a1.Roots) : C) = (sl 4 cs_RootKey a1.Roots)) ∧ True) ∧ True) ∧ CallOK Try.prog 13 [.agg (cs_Clip a1)] [.agg (cs_Clip v10)]) ∧ True ∧ (((((sl 1 (csI .i64) a2) : C) = (sl 1 (csI .i64) a2)) ∧ True) ∧ CallOK Try.prog 29 [.one (sl 1 (csI .i64) a2)] [.one (sl 1 (csI .i64) v12)]) ∧ ((((((sl 4 cs_Bone v8.Bones) : C) = (sl 4 cs_Bone v8.Bones)) ∧ True) ∧ ((((.int .i64 v10.Length) : C) = (.int .i64 v10.Length)) ∧ (((.int .i64 v10.Kind) : C) = (.int .i64 v10.Kind)) ∧ (((sl 1 (csL 5 cs_Key) v10.Tracks) : C) = (sl 1 (csL 5 cs_Key) v10.Tracks)) ∧ (((sl 4 cs_RootKey v10.Roots) : C) = (sl 4 cs_RootKey v10.Roots)) ∧ True) ∧ (((sl 1 (csI .i64) v12) : C) = (sl 1 (csI .i64) v12)) ∧ True) ∧ CallOK Try.prog 27 [.agg (cs_Skeleton v8), .agg (cs_Clip v10), .one (sl 1 (csI .i64) v12)] [.agg (cs_Clip v14.1), .one (.bool v14.2)]) ∧ True ∧ True ∧ True ∧ True ∧ True) ∧ (True ∧ True ∧ True) ∧ (True ∧ True ∧ True ∧ True) ∧ ((⟨[(2, (.v (.one (.c (sl 1 (csI .i64) a2))))), (3, (.v (.one (.ptr 1 0)))), (4, (.v (.one (.ptr 2 0)))), (8, (.v (.one (.ptr 9 0)))), (9, (.v (.one (.c (.bool v14.2)))))], [(1, (.box [(.c (sl 4 cs_Bone a0.Bones))])), (2, (.box [(.c (.int .i64 a1.Length)), (.c (.int .i64 a1.Kind)), (.c (sl 1 (csL 5 cs_Key) a1.Tracks)), (.c (sl 4 cs_RootKey a1.Roots))])), (7, (.lst v14.1.Tracks.length 1 (gl (csL 5 cs_Key) v14.1.Tracks))), (8, (.lst v14.1.Roots.length 4 (gl cs_RootKey v14.1.Roots))), (9, (.box [(.c (.int .i64 v14.1.Length)), (.c (.int .i64 v14.1.Kind)), (.lst 7 v14.1.Tracks.length 1 (gl (csL 5 cs_Key) v14.1.Tracks)), (.lst 8 v14.1.Roots.length 4 (gl cs_RootKey v14.1.Roots))]))]⟩ : St) = ⟨[(2, (.v (.one (.c (sl 1 (csI .i64) a2))))), (3, (.v (.one (.ptr 1 0)))), (4, (.v (.one (.ptr 2 0)))), (8, (.v (.one (.ptr 9 0)))), (9, (.v (.one (.c (.bool v14.2)))))], [(1, (.box [(.c (sl 4 cs_Bone a0.Bones))])), (2, (.box [(.c (.int .i64 a1.Length)), (.c (.int .i64 a1.Kind)), (.c (sl 1 (csL 5 cs_Key) a1.Tracks)), (.c (sl 4 cs_RootKey a1.Roots))])), (7, (.lst v14.1.Tracks.length 1 (gl (csL 5 cs_Key) v14.1.Tracks))), (8, (.lst v14.1.Roots.length 4 (gl cs_RootKey v14.1.Roots))), (9, (.box [(.c (.int .i64 v14.1.Length)), (.c (.int .i64 v14.1.Kind)), (.lst 7 v14.1.Tracks.length 1 (gl (csL 5 cs_Key) v14.1.Tracks)), (.lst 8 v14.1.Roots.length 4 (gl cs_RootKey v14.1.Roots))]))]⟩)) (by kernel_rfl) ⟨⟨trivial, ⟨⟨⟨rfl, trivial⟩, trivial⟩, ok_laws_toSkeleton K a0 v8 e9⟩, trivial, ⟨⟨⟨rfl, rfl, rfl, rfl, trivial⟩, trivial⟩, ok_laws_toClip K a1 v10 e11⟩, trivial, ⟨⟨rfl, trivial⟩, ok_laws_toInt64S K a2 v12 e13⟩, ⟨⟨⟨rfl, trivial⟩, ⟨rfl, rfl, rfl, rfl, trivial⟩, rfl, trivial⟩, ok_spec_MirrorClip K v8 v10 v12 v14 e15⟩, trivial, trivial, trivial, trivial, trivial⟩, ⟨trivial, trivial, trivial⟩, ⟨trivial, trivial, trivial, trivial⟩, rfl⟩ ?_
        refine thenQ_normal ?_
        refine AW.seq ?_
        obtain ⟨v16, e17, h⟩ := bind_some h
        refine AW.regionA [.no, .call [.agg (cs_Skeleton a0)] [.agg (cs_Skeleton v16)] [[.own 10]], .box 11] [2, 3, 4, 8, 9, 10] [1, 2, 7, 8, 9, 10, 11] (s' := ⟨[(2, (.v (.one (.c (sl 1 (csI .i64) a2))))), (3, (.v (.one (.ptr 1 0)))), (4, (.v (.one (.ptr 2 0)))), (8, (.v (.one (.ptr 9 0)))), (9, (.v (.one (.c (.bool v14.2))))), (10, (.v (.one (.ptr 11 0))))], [(1, (.box [(.c (sl 4 cs_Bone a0.Bones))])), (2, (.box [(.c (.int .i64 a1.Length)), (.c (.int .i64 a1.Kind)), (.c (sl 1 (csL 5 cs_Key) a1.Tracks)), (.c (sl 4 cs_RootKey a1.Roots))])), (7, (.lst v14.1.Tracks.length 1 (gl (csL 5 cs_Key) v14.1.Tracks))), (8, (.lst v14.1.Roots.length 4 (gl cs_RootKey v14.1.Roots))), (9, (.box [(.c (.int .i64 v14.1.Length)), (.c (.int .i64 v14.1.Kind)), (.lst 7 v14.1.Tracks.length 1 (gl (csL 5 cs_Key) v14.1.Tracks)), (.lst 8 v14.1.Roots.length 4 (gl cs_RootKey v14.1.Roots))])), (10, (.arr true v16.Bones.length 4 (gl cs_Bone v16.Bones))), (11, (.box [(.arr 10)]))]⟩) (ob := True ∧ ((((((sl 4 cs_Bone a0.Bones) : C) = (sl 4 cs_Bone a0.Bones)) ∧ True) ∧ True) ∧ CallOK Try.prog 28 [.agg (cs_Skeleton a0)] [.agg (cs_Skeleton v16)]) ∧ True ∧ True ∧ True) (by kernel_rfl) ⟨trivial, ⟨⟨⟨rfl, trivial⟩, trivial⟩, ok_laws_toSkeleton K a0 v16 e17⟩, trivial, trivial, trivial⟩ ?_
        refine thenQ_normal ?_
        refine AW.seq ?_
        obtain ⟨v18, e19, h⟩ := bind_some h
        refine AW.regionA [.no, .call [.agg (cs_Clip a1)] [.agg (cs_Clip v18)] [[.view, .view, .own 12, .own 13]], .box 14] [2, 3, 4, 8, 9, 10, 11] [1, 2, 7, 8, 9, 10, 11, 12, 13, 14] (s' := ⟨[(2, (.v (.one (.c (sl 1 (csI .i64) a2))))), (3, (.v (.one (.ptr 1 0)))), (4, (.v (.one (.ptr 2 0)))), (8, (.v (.one (.ptr 9 0)))), (9, (.v (.one (.c (.bool v14.2))))), (10, (.v (.one (.ptr 11 0)))), (11, (.v (.one (.ptr 14 0))))], [(1, (.box [(.c (sl 4 cs_Bone a0.Bones))])), (2, (.box [(.c (.int .i64 a1.Length)), (.c (.int .i64 a1.Kind)), (.c (sl 1 (csL 5 cs_Key) a1.Tracks)), (.c (sl 4 cs_RootKey a1.Roots))])), (7, (.lst v14.1.Tracks.length 1 (gl (csL 5 cs_Key) v14.1.Tracks))), (8, (.lst v14.1.Roots.length 4 (gl cs_RootKey v14.1.Roots))), (9, (.box [(.c (.int .i64 v14.1.Length)), (.c (.int .i64 v14.1.Kind)), (.lst 7 v14.1.Tracks.length 1 (gl (csL 5 cs_Key) v14.1.Tracks)), (.lst 8 v14.1.Roots.length 4 (gl cs_RootKey v14.1.Roots))])), (10, (.arr true v16.Bones.length 4 (gl cs_Bone v16.Bones))), (11, (.box [(.arr 10)])), (12, (.arr true v18.Tracks.length 1 (gl (csL 5 cs_Key) v18.Tracks))), (13, (.arr true v18.Roots.length 4 (gl cs_RootKey v18.Roots))), (14, (.box [(.c (.int .i64 v18.Length)), (.c (.int .i64 v18.Kind)), (.arr 12), (.arr 13)]))]⟩) (ob := True ∧ ((((((.int .i64 a1.Length) : C) = (.int .i64 a1.Length)) ∧ (((.int .i64 a1.Kind) : C) = (.int .i64 a1.Kind)) ∧ (((sl 1 (csL 5 cs_Key) a1.Tracks) : C) = (sl 1 (csL 5 cs_Key) a1.Tracks)) ∧ (((sl 4 cs_RootKey a1.Roots) : C) = (sl 4 cs_RootKey a1.Roots)) ∧ True) ∧ True) ∧ CallOK Try.prog 13 [.agg (cs_Clip a1)] [.agg (cs_Clip v18)]) ∧ True ∧ True ∧ True) (by kernel_rfl) ⟨trivial, ⟨⟨⟨rfl, rfl, rfl, rfl, trivial⟩, trivial⟩, ok_laws_toClip K a1 v18 e19⟩, trivial, trivial, trivial⟩ ?_
        refine thenQ_normal ?_
        refine AW.seq ?_
        obtain ⟨v20, e21, h⟩ := bind_some h
        refine AW.regionA [.no, .call [.one (sl 1 (csI .i64) a2)] [.one (sl 1 (csI .i64) v20)] [[.own 15]]] [2, 3, 4, 8, 9, 10, 11, 12] [1, 2, 7, 8, 9, 10, 11, 12, 13, 14, 15] (s' := ⟨[(2, (.v (.one (.c (sl 1 (csI .i64) a2))))), (3, (.v (.one (.ptr 1 0)))), (4, (.v (.one (.ptr 2 0)))), (8, (.v (.one (.ptr 9 0)))), (9, (.v (.one (.c (.bool v14.2))))), (10, (.v (.one (.ptr 11 0)))), (11, (.v (.one (.ptr 14 0)))), (12, (.v (.one (.arr 15))))], [(1, (.box [(.c (sl 4 cs_Bone a0.Bones))])), (2, (.box [(.c (.int .i64 a1.Length)), (.c (.int .i64 a1.Kind)), (.c (sl 1 (csL 5 cs_Key) a1.Tracks)), (.c (sl 4 cs_RootKey a1.Roots))])), (7, (.lst v14.1.Tracks.length 1 (gl (csL 5 cs_Key) v14.1.Tracks))), (8, (.lst v14.1.Roots.length 4 (gl cs_RootKey v14.1.Roots))), (9, (.box [(.c (.int .i64 v14.1.Length)), (.c (.int .i64 v14.1.Kind)), (.lst 7 v14.1.Tracks.length 1 (gl (csL 5 cs_Key) v14.1.Tracks)), (.lst 8 v14.1.Roots.length 4 (gl cs_RootKey v14.1.Roots))])), (10, (.arr true v16.Bones.length 4 (gl cs_Bone v16.Bones))), (11, (.box [(.arr 10)])), (12, (.arr true v18.Tracks.length 1 (gl (csL 5 cs_Key) v18.Tracks))), (13, (.arr true v18.Roots.length 4 (gl cs_RootKey v18.Roots))), (14, (.box [(.c (.int .i64 v18.Length)), (.c (.int .i64 v18.Kind)), (.arr 12), (.arr 13)])), (15, (.arr true v20.length 1 (gl (csI .i64) v20)))]⟩) (ob := True ∧ (((((sl 1 (csI .i64) a2) : C) = (sl 1 (csI .i64) a2)) ∧ True) ∧ CallOK Try.prog 29 [.one (sl 1 (csI .i64) a2)] [.one (sl 1 (csI .i64) v20)]) ∧ True ∧ True) (by kernel_rfl) ⟨trivial, ⟨⟨rfl, trivial⟩, ok_laws_toInt64S K a2 v20 e21⟩, trivial, trivial⟩ ?_
        refine thenQ_normal ?_
        refine AW.seq ?_
        obtain ⟨v22, e23, h⟩ := bind_some h
        refine AW.regionA [.no, .no, .no, .call [.agg (cs_Skeleton v16), .agg (cs_Clip v18), .one (sl 1 (csI .i64) v20)] [.agg (cs_Clip v22.1), .one (.bool v22.2)] [[.view, .view, .own 16, .own 17], [.view]], .no, .no, .no, .box 18] [2, 3, 4, 8, 9, 10, 11, 12, 13, 14] [1, 2, 7, 8, 9, 10, 11, 12, 13, 14, 15, 16, 17, 18] (s' := ⟨[(2, (.v (.one (.c (sl 1 (csI .i64) a2))))), (3, (.v (.one (.ptr 1 0)))), (4, (.v (.one (.ptr 2 0)))), (8, (.v (.one (.ptr 9 0)))), (9, (.v (.one (.c (.bool v14.2))))), (10, (.v (.one (.ptr 11 0)))), (11, (.v (.one (.ptr 14 0)))), (12, (.v (.one (.arr 15)))), (13, (.v (.one (.ptr 18 0)))), (14, (.v (.one (.c (.bool v22.2)))))], [(1, (.box [(.c (sl 4 cs_Bone a0.Bones))])), (2, (.box [(.c (.int .i64 a1.Length)), (.c (.int .i64 a1.Kind)), (.c (sl 1 (csL 5 cs_Key) a1.Tracks)), (.c (sl 4 cs_RootKey a1.Roots))])), (7, (.lst v14.1.Tracks.length 1 (gl (csL 5 cs_Key) v14.1.Tracks))), (8, (.lst v14.1.Roots.length 4 (gl cs_RootKey v14.1.Roots))), (9, (.box [(.c (.int .i64 v14.1.Length)), (.c (.int .i64 v14.1.Kind)), (.lst 7 v14.1.Tracks.length 1 (gl (csL 5 cs_Key) v14.1.Tracks)), (.lst 8 v14.1.Roots.length 4 (gl cs_RootKey v14.1.Roots))])), (10, (.arr true v16.Bones.length 4 (gl cs_Bone v16.Bones))), (11, (.box [(.arr 10)])), (12, (.arr true v18.Tracks.length 1 (gl (csL 5 cs_Key) v18.Tracks))), (13, (.arr true v18.Roots.length 4 (gl cs_RootKey v18.Roots))), (14, (.box [(.c (.int .i64 v18.Length)), (.c (.int .i64 v18.Kind)), (.arr 12), (.arr 13)])), (15, (.arr true v20.length 1 (gl (csI .i64) v20))), (16, (.arr true v22.1.Tracks.length 1 (gl (csL 5 cs_Key) v22.1.Tracks))), (17, (.arr true v22.1.Roots.length 4 (gl cs_RootKey v22.1.Roots))), (18, (.box [(.c (.int .i64 v22.1.Length)), (.c (.int .i64 v22.1.Kind)), (.arr 16), (.arr 17)]))]⟩) (ob := True ∧ True ∧ True ∧ ((((((sl 4 cs_Bone v16.Bones) : C) = (sl 4 cs_Bone v16.Bones)) ∧ True) ∧ ((((.int .i64 v18.Length) : C) = (.int .i64 v18.Length)) ∧ (((.int .i64 v18.Kind) : C) = (.int .i64 v18.Kind)) ∧ (((sl 1 (csL 5 cs_Key) v18.Tracks) : C) = (sl 1 (csL 5 cs_Key) v18.Tracks)) ∧ (((sl 4 cs_RootKey v18.Roots) : C) = (sl 4 cs_RootKey v18.Roots)) ∧ True) ∧ (((sl 1 (csI .i64) v20) : C) = (sl 1 (csI .i64) v20)) ∧ True) ∧ CallOK Try.prog 30 [.agg (cs_Skeleton v16), .agg (cs_Clip v18), .one (sl 1 (csI .i64) v20)] [.agg (cs_Clip v22.1), .one (.bool v22.2)]) ∧ True ∧ True ∧ True ∧ True ∧ True ∧ True ∧ True) (by kernel_rfl) ⟨trivial, trivial, trivial, ⟨⟨⟨rfl, trivial⟩, ⟨rfl, rfl, rfl, rfl, trivial⟩, rfl, trivial⟩, ok_impl_MirrorClip K v16 v18 v20 v22 e23⟩, trivial, trivial, trivial, trivial, trivial, trivial, trivial⟩ ?_
        refine thenQ_normal ?_
        refine AW.seq ?_
        refine AW.seq ?_
        obtain ⟨v24, e25, h⟩ := bind_some h
        obtain ⟨j27, e28, h⟩ := bind_some h
        refine AW.join1 (s2 := ⟨[(2, (.v (.one (.c (sl 1 (csI .i64) a2))))), (3, (.v (.one (.ptr 1 0)))), (4, (.v (.one (.ptr 2 0)))), (8, (.v (.one (.ptr 9 0)))), (9, (.v (.one (.c (.bool v14.2))))), (10, (.v (.one (.ptr 11 0)))), (11, (.v (.one (.ptr 14 0)))), (12, (.v (.one (.arr 15)))), (13, (.v (.one (.ptr 18 0)))), (14, (.v (.one (.c (.bool v22.2))))), (64, (.v (.one (.c (.bool j27)))))], [(1, (.box [(.c (sl 4 cs_Bone a0.Bones))])), (2, (.box [(.c (.int .i64 a1.Length)), (.c (.int .i64 a1.Kind)), (.c (sl 1 (csL 5 cs_Key) a1.Tracks)), (.c (sl 4 cs_RootKey a1.Roots))])), (7, (.lst v14.1.Tracks.length 1 (gl (csL 5 cs_Key) v14.1.Tracks))), (8, (.lst v14.1.Roots.length 4 (gl cs_RootKey v14.1.Roots))), (9, (.box [(.c (.int .i64 v14.1.Length)), (.c (.int .i64 v14.1.Kind)), (.lst 7 v14.1.Tracks.length 1 (gl (csL 5 cs_Key) v14.1.Tracks)), (.lst 8 v14.1.Roots.length 4 (gl cs_RootKey v14.1.Roots))])), (10, (.arr true v16.Bones.length 4 (gl cs_Bone v16.Bones))), (11, (.box [(.arr 10)])), (12, (.arr true v18.Tracks.length 1 (gl (csL 5 cs_Key) v18.Tracks))), (13, (.arr true v18.Roots.length 4 (gl cs_RootKey v18.Roots))), (14, (.box [(.c (.int .i64 v18.Length)), (.c (.int .i64 v18.Kind)), (.arr 12), (.arr 13)])), (15, (.arr true v20.length 1 (gl (csI .i64) v20))), (16, (.arr true v22.1.Tracks.length 1 (gl (csL 5 cs_Key) v22.1.Tracks))), (17, (.arr true v22.1.Roots.length 4 (gl cs_RootKey v22.1.Roots))), (18, (.box [(.c (.int .i64 v22.1.Length)), (.c (.int .i64 v22.1.Kind)), (.arr 16), (.arr 17)]))]⟩) ?_ ?_
        · rcases ite2_cases e28 with ⟨b26, e28⟩ | ⟨b26, e28⟩
          · replace e28 := some_eq e28
            subst e28
            exact AW.regionA [.no, .no, .call [.agg (cs_Clip v22.1), .agg (cs_Clip v14.1)] [.one (.bool v24)] [[.view]], .no, .dec true] [2, 3, 4, 8, 9, 10, 11, 12, 13, 14, 64] [1, 2, 7, 8, 9, 10, 11, 12, 13, 14, 15, 16, 17, 18] (s' := ⟨[(2, (.v (.one (.c (sl 1 (csI .i64) a2))))), (3, (.v (.one (.ptr 1 0)))), (4, (.v (.one (.ptr 2 0)))), (8, (.v (.one (.ptr 9 0)))), (9, (.v (.one (.c (.bool v14.2))))), (10, (.v (.one (.ptr 11 0)))), (11, (.v (.one (.ptr 14 0)))), (12, (.v (.one (.arr 15)))), (13, (.v (.one (.ptr 18 0)))), (14, (.v (.one (.c (.bool v22.2))))), (64, (.v (.one (.c (.bool true)))))], [(1, (.box [(.c (sl 4 cs_Bone a0.Bones))])), (2, (.box [(.c (.int .i64 a1.Length)), (.c (.int .i64 a1.Kind)), (.c (sl 1 (csL 5 cs_Key) a1.Tracks)), (.c (sl 4 cs_RootKey a1.Roots))])), (7, (.lst v14.1.Tracks.length 1 (gl (csL 5 cs_Key) v14.1.Tracks))), (8, (.lst v14.1.Roots.length 4 (gl cs_RootKey v14.1.Roots))), (9, (.box [(.c (.int .i64 v14.1.Length)), (.c (.int .i64 v14.1.Kind)), (.lst 7 v14.1.Tracks.length 1 (gl (csL 5 cs_Key) v14.1.Tracks)), (.lst 8 v14.1.Roots.length 4 (gl cs_RootKey v14.1.Roots))])), (10, (.arr true v16.Bones.length 4 (gl cs_Bone v16.Bones))), (11, (.box [(.arr 10)])), (12, (.arr true v18.Tracks.length 1 (gl (csL 5 cs_Key) v18.Tracks))), (13, (.arr true v18.Roots.length 4 (gl cs_RootKey v18.Roots))), (14, (.box [(.c (.int .i64 v18.Length)), (.c (.int .i64 v18.Kind)), (.arr 12), (.arr 13)])), (15, (.arr true v20.length 1 (gl (csI .i64) v20))), (16, (.arr true v22.1.Tracks.length 1 (gl (csL 5 cs_Key) v22.1.Tracks))), (17, (.arr true v22.1.Roots.length 4 (gl cs_RootKey v22.1.Roots))), (18, (.box [(.c (.int .i64 v22.1.Length)), (.c (.int .i64 v22.1.Kind)), (.arr 16), (.arr 17)]))]⟩) (ob := True ∧ True ∧ ((((((.int .i64 v22.1.Length) : C) = (.int .i64 v22.1.Length)) ∧ (((.int .i64 v22.1.Kind) : C) = (.int .i64 v22.1.Kind)) ∧ (((sl 1 (csL 5 cs_Key) v22.1.Tracks) : C) = (sl 1 (csL 5 cs_Key) v22.1.Tracks)) ∧ (((sl 4 cs_RootKey v22.1.Roots) : C) = (sl 4 cs_RootKey v22.1.Roots)) ∧ True) ∧ ((((.int .i64 v14.1.Length) : C) = (.int .i64 v14.1.Length)) ∧ (((.int .i64 v14.1.Kind) : C) = (.int .i64 v14.1.Kind)) ∧ (((sl 1 (csL 5 cs_Key) v14.1.Tracks) : C) = (sl 1 (csL 5 cs_Key) v14.1.Tracks)) ∧ (((sl 4 cs_RootKey v14.1.Roots) : C) = (sl 4 cs_RootKey v14.1.Roots)) ∧ True) ∧ True) ∧ CallOK Try.prog 15 [.agg (cs_Clip v22.1), .agg (cs_Clip v14.1)] [.one (.bool v24)]) ∧ True ∧ (True ∧ (!v24) = true) ∧ True ∧ True ∧ True ∧ True ∧ True) (by kernel_rfl) ⟨trivial, trivial, ⟨⟨⟨rfl, rfl, rfl, rfl, trivial⟩, ⟨rfl, rfl, rfl, rfl, trivial⟩, trivial⟩, ok_laws_eqClip K v22.1 v14.1 v24 e25⟩, trivial, ⟨trivial, b26⟩, trivial, trivial, trivial, trivial, trivial⟩ ⟨rfl, rfl⟩
          · replace e28 := some_eq e28
            subst e28
            exact AW.regionA [.no, .no, .call [.agg (cs_Clip v22.1), .agg (cs_Clip v14.1)] [.one (.bool v24)] [[.view]], .no, .dec false] [2, 3, 4, 8, 9, 10, 11, 12, 13, 14, 64] [1, 2, 7, 8, 9, 10, 11, 12, 13, 14, 15, 16, 17, 18] (s' := ⟨[(2, (.v (.one (.c (sl 1 (csI .i64) a2))))), (3, (.v (.one (.ptr 1 0)))), (4, (.v (.one (.ptr 2 0)))), (8, (.v (.one (.ptr 9 0)))), (9, (.v (.one (.c (.bool v14.2))))), (10, (.v (.one (.ptr 11 0)))), (11, (.v (.one (.ptr 14 0)))), (12, (.v (.one (.arr 15)))), (13, (.v (.one (.ptr 18 0)))), (14, (.v (.one (.c (.bool v22.2))))), (64, (.v (.one (.c (.bool (!(v22.2 == v14.2)))))))], [(1, (.box [(.c (sl 4 cs_Bone a0.Bones))])), (2, (.box [(.c (.int .i64 a1.Length)), (.c (.int .i64 a1.Kind)), (.c (sl 1 (csL 5 cs_Key) a1.Tracks)), (.c (sl 4 cs_RootKey a1.Roots))])), (7, (.lst v14.1.Tracks.length 1 (gl (csL 5 cs_Key) v14.1.Tracks))), (8, (.lst v14.1.Roots.length 4 (gl cs_RootKey v14.1.Roots))), (9, (.box [(.c (.int .i64 v14.1.Length)), (.c (.int .i64 v14.1.Kind)), (.lst 7 v14.1.Tracks.length 1 (gl (csL 5 cs_Key) v14.1.Tracks)), (.lst 8 v14.1.Roots.length 4 (gl cs_RootKey v14.1.Roots))])), (10, (.arr true v16.Bones.length 4 (gl cs_Bone v16.Bones))), (11, (.box [(.arr 10)])), (12, (.arr true v18.Tracks.length 1 (gl (csL 5 cs_Key) v18.Tracks))), (13, (.arr true v18.Roots.length 4 (gl cs_RootKey v18.Roots))), (14, (.box [(.c (.int .i64 v18.Length)), (.c (.int .i64 v18.Kind)), (.arr 12), (.arr 13)])), (15, (.arr true v20.length 1 (gl (csI .i64) v20))), (16, (.arr true v22.1.Tracks.length 1 (gl (csL 5 cs_Key) v22.1.Tracks))), (17, (.arr true v22.1.Roots.length 4 (gl cs_RootKey v22.1.Roots))), (18, (.box [(.c (.int .i64 v22.1.Length)), (.c (.int .i64 v22.1.Kind)), (.arr 16), (.arr 17)]))]⟩) (ob := True ∧ True ∧ ((((((.int .i64 v22.1.Length) : C) = (.int .i64 v22.1.Length)) ∧ (((.int .i64 v22.1.Kind) : C) = (.int .i64 v22.1.Kind)) ∧ (((sl 1 (csL 5 cs_Key) v22.1.Tracks) : C) = (sl 1 (csL 5 cs_Key) v22.1.Tracks)) ∧ (((sl 4 cs_RootKey v22.1.Roots) : C) = (sl 4 cs_RootKey v22.1.Roots)) ∧ True) ∧ ((((.int .i64 v14.1.Length) : C) = (.int .i64 v14.1.Length)) ∧ (((.int .i64 v14.1.Kind) : C) = (.int .i64 v14.1.Kind)) ∧ (((sl 1 (csL 5 cs_Key) v14.1.Tracks) : C) = (sl 1 (csL 5 cs_Key) v14.1.Tracks)) ∧ (((sl 4 cs_RootKey v14.1.Roots) : C) = (sl 4 cs_RootKey v14.1.Roots)) ∧ True) ∧ True) ∧ CallOK Try.prog 15 [.agg (cs_Clip v22.1), .agg (cs_Clip v14.1)] [.one (.bool v24)]) ∧ True ∧ (True ∧ (!v24) = false) ∧ True ∧ True ∧ True ∧ True ∧ True) (by kernel_rfl) ⟨trivial, trivial, ⟨⟨⟨rfl, rfl, rfl, rfl, trivial⟩, ⟨rfl, rfl, rfl, rfl, trivial⟩, trivial⟩, ok_laws_eqClip K v22.1 v14.1 v24 e25⟩, trivial, ⟨trivial, b26⟩, trivial, trivial, trivial, trivial, trivial⟩ ⟨rfl, rfl⟩
        refine thenQ_normal ?_
        rcases ite2_cases h with ⟨b29, h⟩ | ⟨b29, h⟩
        · refine AW.cond_t rfl b29 ?_
          refine AW.seq ?_
          refine AW.regionA [] [6] [] (s' := ⟨[(6, (.v (.one (.c (.bool false)))))], []⟩) (ob := True ∧ True) (by kernel_rfl) ⟨trivial, trivial⟩ ?_
          refine thenQ_normal ?_
          refine AW.ret ?_
          refine thenQ_ret ?_
          replace h := some_eq h
          subst h
          exact ⟨.inr rfl, retOK_of [(.one (.c (.bool false)))] (by kernel_rfl) ⟨⟨rfl, trivial⟩, trivial⟩ (of_decide_eq_true (by kernel_rfl))⟩
        · refine AW.cond_f rfl b29 ?_
          refine AW.skip ?_
          refine thenQ_normal ?_
          refine AW.seq ?_
          refine AW.seq ?_
          obtain ⟨v30, e31, h⟩ := bind_some h
          obtain ⟨v32, e33, h⟩ := bind_some h
          refine AW.drawnA (by kernel_rfl) 5 [.no, .no, .call [.agg (cs_Skeleton a0)] [.agg (cs_Skeleton v30)] [[.lst 19]], .call [.agg (cs_Skeleton v16), .agg (cs_Skeleton v30)] [.one (.bool v32)] [[.view]]] [2, 3, 4, 8, 9, 10, 11, 12, 13, 14, 69] [1, 2, 7, 8, 9, 10, 11, 12, 13, 14, 15, 16, 17, 18] (s' := ⟨[(2, (.v (.one (.c (sl 1 (csI .i64) a2))))), (3, (.v (.one (.ptr 1 0)))), (4, (.v (.one (.ptr 2 0)))), (8, (.v (.one (.ptr 9 0)))), (9, (.v (.one (.c (.bool v14.2))))), (10, (.v (.one (.ptr 11 0)))), (11, (.v (.one (.ptr 14 0)))), (12, (.v (.one (.arr 15)))), (13, (.v (.one (.ptr 18 0)))), (14, (.v (.one (.c (.bool v22.2))))), (69, (.v (.one (.c (.bool (!v32))))))], [(1, (.box [(.c (sl 4 cs_Bone a0.Bones))])), (2, (.box [(.c (.int .i64 a1.Length)), (.c (.int .i64 a1.Kind)), (.c (sl 1 (csL 5 cs_Key) a1.Tracks)), (.c (sl 4 cs_RootKey a1.Roots))])), (7, (.lst v14.1.Tracks.length 1 (gl (csL 5 cs_Key) v14.1.Tracks))), (8, (.lst v14.1.Roots.length 4 (gl cs_RootKey v14.1.Roots))), (9, (.box [(.c (.int .i64 v14.1.Length)), (.c (.int .i64 v14.1.Kind)), (.lst 7 v14.1.Tracks.length 1 (gl (csL 5 cs_Key) v14.1.Tracks)), (.lst 8 v14.1.Roots.length 4 (gl cs_RootKey v14.1.Roots))])), (10, (.arr true v16.Bones.length 4 (gl cs_Bone v16.Bones))), (11, (.box [(.arr 10)])), (12, (.arr true v18.Tracks.length 1 (gl (csL 5 cs_Key) v18.Tracks))), (13, (.arr true v18.Roots.length 4 (gl cs_RootKey v18.Roots))), (14, (.box [(.c (.int .i64 v18.Length)), (.c (.int .i64 v18.Kind)), (.arr 12), (.arr 13)])), (15, (.arr true v20.length 1 (gl (csI .i64) v20))), (16, (.arr true v22.1.Tracks.length 1 (gl (csL 5 cs_Key) v22.1.Tracks))), (17, (.arr true v22.1.Roots.length 4 (gl cs_RootKey v22.1.Roots))), (18, (.box [(.c (.int .i64 v22.1.Length)), (.c (.int .i64 v22.1.Kind)), (.arr 16), (.arr 17)]))]⟩) (ob := (True ∧ True ∧ ((((((sl 4 cs_Bone a0.Bones) : C) = (sl 4 cs_Bone a0.Bones)) ∧ True) ∧ True) ∧ CallOK Try.prog 28 [.agg (cs_Skeleton a0)] [.agg (cs_Skeleton v30)]) ∧ ((((((sl 4 cs_Bone v16.Bones) : C) = (sl 4 cs_Bone v16.Bones)) ∧ True) ∧ ((((sl 4 cs_Bone v30.Bones) : C) = (sl 4 cs_Bone v30.Bones)) ∧ True) ∧ True) ∧ CallOK Try.prog 31 [.agg (cs_Skeleton v16), .agg (cs_Skeleton v30)] [.one (.bool v32)]) ∧ True ∧ True) ∧ (True)) (by kernel_rfl) ⟨⟨trivial, trivial, ⟨⟨⟨rfl, trivial⟩, trivial⟩, ok_laws_toSkeleton K a0 v30 e31⟩, ⟨⟨⟨rfl, trivial⟩, ⟨rfl, trivial⟩, trivial⟩, ok_laws_eqSkeleton K v16 v30 v32 e33⟩, trivial, trivial⟩, trivial⟩ ?_
          refine thenQ_normal ?_
          rcases ite2_cases h with ⟨b34, h⟩ | ⟨b34, h⟩
          · refine AW.cond_t rfl b34 ?_
            refine AW.seq ?_
            refine AW.regionA [] [6] [] (s' := ⟨[(6, (.v (.one (.c (.bool false)))))], []⟩) (ob := True ∧ True) (by kernel_rfl) ⟨trivial, trivial⟩ ?_
            refine thenQ_normal ?_
            refine AW.ret ?_
            refine thenQ_ret ?_
            replace h := some_eq h
            subst h
            exact ⟨.inr rfl, retOK_of [(.one (.c (.bool false)))] (by kernel_rfl) ⟨⟨rfl, trivial⟩, trivial⟩ (of_decide_eq_true (by kernel_rfl))⟩
          · refine AW.cond_f rfl b34 ?_
            refine AW.skip ?_
            refine thenQ_normal ?_
            refine AW.seq ?_
            refine AW.seq ?_
            obtain ⟨v35, e36, h⟩ := bind_some h
            obtain ⟨v37, e38, h⟩ := bind_some h
            refine AW.drawnA (by kernel_rfl) 5 [.no, .no, .call [.agg (cs_Clip a1)] [.agg (cs_Clip v35)] [[.view, .view, .lst 20, .lst 21]], .call [.agg (cs_Clip v18), .agg (cs_Clip v35)] [.one (.bool v37)] [[.view]]] [2, 3, 4, 8, 9, 10, 11, 12, 13, 14, 74] [1, 2, 7, 8, 9, 10, 11, 12, 13, 14, 15, 16, 17, 18] (s' := ⟨[(2, (.v (.one (.c (sl 1 (csI .i64) a2))))), (3, (.v (.one (.ptr 1 0)))), (4, (.v (.one (.ptr 2 0)))), (8, (.v (.one (.ptr 9 0)))), (9, (.v (.one (.c (.bool v14.2))))), (10, (.v (.one (.ptr 11 0)))), (11, (.v (.one (.ptr 14 0)))), (12, (.v (.one (.arr 15)))), (13, (.v (.one (.ptr 18 0)))), (14, (.v (.one (.c (.bool v22.2))))), (74, (.v (.one (.c (.bool (!v37))))))], [(1, (.box [(.c (sl 4 cs_Bone a0.Bones))])), (2, (.box [(.c (.int .i64 a1.Length)), (.c (.int .i64 a1.Kind)), (.c (sl 1 (csL 5 cs_Key) a1.Tracks)), (.c (sl 4 cs_RootKey a1.Roots))])), (7, (.lst v14.1.Tracks.length 1 (gl (csL 5 cs_Key) v14.1.Tracks))), (8, (.lst v14.1.Roots.length 4 (gl cs_RootKey v14.1.Roots))), (9, (.box [(.c (.int .i64 v14.1.Length)), (.c (.int .i64 v14.1.Kind)), (.lst 7 v14.1.Tracks.length 1 (gl (csL 5 cs_Key) v14.1.Tracks)), (.lst 8 v14.1.Roots.length 4 (gl cs_RootKey v14.1.Roots))])), (10, (.arr true v16.Bones.length 4 (gl cs_Bone v16.Bones))), (11, (.box [(.arr 10)])), (12, (.arr true v18.Tracks.length 1 (gl (csL 5 cs_Key) v18.Tracks))), (13, (.arr true v18.Roots.length 4 (gl cs_RootKey v18.Roots))), (14, (.box [(.c (.int .i64 v18.Length)), (.c (.int .i64 v18.Kind)), (.arr 12), (.arr 13)])), (15, (.arr true v20.length 1 (gl (csI .i64) v20))), (16, (.arr true v22.1.Tracks.length 1 (gl (csL 5 cs_Key) v22.1.Tracks))), (17, (.arr true v22.1.Roots.length 4 (gl cs_RootKey v22.1.Roots))), (18, (.box [(.c (.int .i64 v22.1.Length)), (.c (.int .i64 v22.1.Kind)), (.arr 16), (.arr 17)]))]⟩) (ob := (True ∧ True ∧ ((((((.int .i64 a1.Length) : C) = (.int .i64 a1.Length)) ∧ (((.int .i64 a1.Kind) : C) = (.int .i64 a1.Kind)) ∧ (((sl 1 (csL 5 cs_Key) a1.Tracks) : C) = (sl 1 (csL 5 cs_Key) a1.Tracks)) ∧ (((sl 4 cs_RootKey a1.Roots) : C) = (sl 4 cs_RootKey a1.Roots)) ∧ True) ∧ True) ∧ CallOK Try.prog 13 [.agg (cs_Clip a1)] [.agg (cs_Clip v35)]) ∧ ((((((.int .i64 v18.Length) : C) = (.int .i64 v18.Length)) ∧ (((.int .i64 v18.Kind) : C) = (.int .i64 v18.Kind)) ∧ (((sl 1 (csL 5 cs_Key) v18.Tracks) : C) = (sl 1 (csL 5 cs_Key) v18.Tracks)) ∧ (((sl 4 cs_RootKey v18.Roots) : C) = (sl 4 cs_RootKey v18.Roots)) ∧ True) ∧ ((((.int .i64 v35.Length) : C) = (.int .i64 v35.Length)) ∧ (((.int .i64 v35.Kind) : C) = (.int .i64 v35.Kind)) ∧ (((sl 1 (csL 5 cs_Key) v35.Tracks) : C) = (sl 1 (csL 5 cs_Key) v35.Tracks)) ∧ (((sl 4 cs_RootKey v35.Roots) : C) = (sl 4 cs_RootKey v35.Roots)) ∧ True) ∧ True) ∧ CallOK Try.prog 15 [.agg (cs_Clip v18), .agg (cs_Clip v35)] [.one (.bool v37)]) ∧ True ∧ True) ∧ (True)) (by kernel_rfl) ⟨⟨trivial, trivial, ⟨⟨⟨rfl, rfl, rfl, rfl, trivial⟩, trivial⟩, ok_laws_toClip K a1 v35 e36⟩, ⟨⟨⟨rfl, rfl, rfl, rfl, trivial⟩, ⟨rfl, rfl, rfl, rfl, trivial⟩, trivial⟩, ok_laws_eqClip K v18 v35 v37 e38⟩, trivial, trivial⟩, trivial⟩ ?_
            refine thenQ_normal ?_
            rcases ite2_cases h with ⟨b39, h⟩ | ⟨b39, h⟩
            · refine AW.cond_t rfl b39 ?_
              refine AW.seq ?_
              refine AW.regionA [] [6] [] (s' := ⟨[(6, (.v (.one (.c (.bool false)))))], []⟩) (ob := True ∧ True) (by kernel_rfl) ⟨trivial, trivial⟩ ?_
              refine thenQ_normal ?_
              refine AW.ret ?_
              refine thenQ_ret ?_
              replace h := some_eq h
              subst h
              exact ⟨.inr rfl, retOK_of [(.one (.c (.bool false)))] (by kernel_rfl) ⟨⟨rfl, trivial⟩, trivial⟩ (of_decide_eq_true (by kernel_rfl))⟩
            · refine AW.cond_f rfl b39 ?_
              refine AW.skip ?_
              refine thenQ_normal ?_
              refine AW.seq ?_
              refine AW.seq ?_
              obtain ⟨v40, e41, h⟩ := bind_some h
              obtain ⟨v42, e43, h⟩ := bind_some h
              refine AW.regionA [.no, .no, .call [.one (sl 1 (csI .i64) a2)] [.one (sl 1 (csI .i64) v40)] [[.lst 22]], .call [.one (sl 1 (csI .i64) v20), .one (sl 1 (csI .i64) v40)] [.one (.bool v42)] [[.view]]] [2, 3, 4, 8, 9, 10, 11, 12, 13, 14, 79] [1, 2, 7, 8, 9, 10, 11, 12, 13, 14, 15, 16, 17, 18] (s' := ⟨[(2, (.v (.one (.c (sl 1 (csI .i64) a2))))), (3, (.v (.one (.ptr 1 0)))), (4, (.v (.one (.ptr 2 0)))), (8, (.v (.one (.ptr 9 0)))), (9, (.v (.one (.c (.bool v14.2))))), (10, (.v (.one (.ptr 11 0)))), (11, (.v (.one (.ptr 14 0)))), (12, (.v (.one (.arr 15)))), (13, (.v (.one (.ptr 18 0)))), (14, (.v (.one (.c (.bool v22.2))))), (79, (.v (.one (.c (.bool (!v42))))))], [(1, (.box [(.c (sl 4 cs_Bone a0.Bones))])), (2, (.box [(.c (.int .i64 a1.Length)), (.c (.int .i64 a1.Kind)), (.c (sl 1 (csL 5 cs_Key) a1.Tracks)), (.c (sl 4 cs_RootKey a1.Roots))])), (7, (.lst v14.1.Tracks.length 1 (gl (csL 5 cs_Key) v14.1.Tracks))), (8, (.lst v14.1.Roots.length 4 (gl cs_RootKey v14.1.Roots))), (9, (.box [(.c (.int .i64 v14.1.Length)), (.c (.int .i64 v14.1.Kind)), (.lst 7 v14.1.Tracks.length 1 (gl (csL 5 cs_Key) v14.1.Tracks)), (.lst 8 v14.1.Roots.length 4 (gl cs_RootKey v14.1.Roots))])), (10, (.arr true v16.Bones.length 4 (gl cs_Bone v16.Bones))), (11, (.box [(.arr 10)])), (12, (.arr true v18.Tracks.length 1 (gl (csL 5 cs_Key) v18.Tracks))), (13, (.arr true v18.Roots.length 4 (gl cs_RootKey v18.Roots))), (14, (.box [(.c (.int .i64 v18.Length)), (.c (.int .i64 v18.Kind)), (.arr 12), (.arr 13)])), (15, (.arr true v20.length 1 (gl (csI .i64) v20))), (16, (.arr true v22.1.Tracks.length 1 (gl (csL 5 cs_Key) v22.1.Tracks))), (17, (.arr true v22.1.Roots.length 4 (gl cs_RootKey v22.1.Roots))), (18, (.box [(.c (.int .i64 v22.1.Length)), (.c (.int .i64 v22.1.Kind)), (.arr 16), (.arr 17)]))]⟩) (ob := True ∧ True ∧ (((((sl 1 (csI .i64) a2) : C) = (sl 1 (csI .i64) a2)) ∧ True) ∧ CallOK Try.prog 29 [.one (sl 1 (csI .i64) a2)] [.one (sl 1 (csI .i64) v40)]) ∧ (((((sl 1 (csI .i64) v20) : C) = (sl 1 (csI .i64) v20)) ∧ (((sl 1 (csI .i64) v40) : C) = (sl 1 (csI .i64) v40)) ∧ True) ∧ CallOK Try.prog 32 [.one (sl 1 (csI .i64) v20), .one (sl 1 (csI .i64) v40)] [.one (.bool v42)]) ∧ True ∧ True) (by kernel_rfl) ⟨trivial, trivial, ⟨⟨rfl, trivial⟩, ok_laws_toInt64S K a2 v40 e41⟩, ⟨⟨rfl, rfl, trivial⟩, ok_laws_eqInt64S K v20 v40 v42 e43⟩, trivial, trivial⟩ ?_
              refine thenQ_normal ?_
              rcases ite2_cases h with ⟨b44, h⟩ | ⟨b44, h⟩
              · refine AW.cond_t rfl b44 ?_
                refine AW.seq ?_
                refine AW.regionA [] [6] [] (s' := ⟨[(6, (.v (.one (.c (.bool false)))))], []⟩) (ob := True ∧ True) (by kernel_rfl) ⟨trivial, trivial⟩ ?_
                refine thenQ_normal ?_
                refine AW.ret ?_
                refine thenQ_ret ?_
                replace h := some_eq h
                subst h
                exact ⟨.inr rfl, retOK_of [(.one (.c (.bool false)))] (by kernel_rfl) ⟨⟨rfl, trivial⟩, trivial⟩ (of_decide_eq_true (by kernel_rfl))⟩
              · refine AW.cond_f rfl b44 ?_
                refine AW.skip ?_
                refine thenQ_normal ?_
                refine AW.seq ?_
                refine AW.regionA [] [2, 3, 4, 8, 9, 10, 11, 12, 13, 14, 15] [1, 2, 7, 8, 9, 10, 11, 12, 13, 14, 15, 16, 17, 18] (s' := ⟨[(2, (.v (.one (.c (sl 1 (csI .i64) a2))))), (3, (.v (.one (.ptr 1 0)))), (4, (.v (.one (.ptr 2 0)))), (8, (.v (.one (.ptr 9 0)))), (9, (.v (.one (.c (.bool v14.2))))), (10, (.v (.one (.ptr 11 0)))), (11, (.v (.one (.ptr 14 0)))), (12, (.v (.one (.arr 15)))), (13, (.v (.one (.ptr 18 0)))), (14, (.v (.one (.c (.bool v22.2))))), (15, (.v (.one (.c (.int .i64 (1 : Int))))))], [(1, (.box [(.c (sl 4 cs_Bone a0.Bones))])), (2, (.box [(.c (.int .i64 a1.Length)), (.c (.int .i64 a1.Kind)), (.c (sl 1 (csL 5 cs_Key) a1.Tracks)), (.c (sl 4 cs_RootKey a1.Roots))])), (7, (.lst v14.1.Tracks.length 1 (gl (csL 5 cs_Key) v14.1.Tracks))), (8, (.lst v14.1.Roots.length 4 (gl cs_RootKey v14.1.Roots))), (9, (.box [(.c (.int .i64 v14.1.Length)), (.c (.int .i64 v14.1.Kind)), (.lst 7 v14.1.Tracks.length 1 (gl (csL 5 cs_Key) v14.1.Tracks)), (.lst 8 v14.1.Roots.length 4 (gl cs_RootKey v14.1.Roots))])), (10, (.arr true v16.Bones.length 4 (gl cs_Bone v16.Bones))), (11, (.box [(.arr 10)])), (12, (.arr true v18.Tracks.length 1 (gl (csL 5 cs_Key) v18.Tracks))), (13, (.arr true v18.Roots.length 4 (gl cs_RootKey v18.Roots))), (14, (.box [(.c (.int .i64 v18.Length)), (.c (.int .i64 v18.Kind)), (.arr 12), (.arr 13)])), (15, (.arr true v20.length 1 (gl (csI .i64) v20))), (16, (.arr true v22.1.Tracks.length 1 (gl (csL 5 cs_Key) v22.1.Tracks))), (17, (.arr true v22.1.Roots.length 4 (gl cs_RootKey v22.1.Roots))), (18, (.box [(.c (.int .i64 v22.1.Length)), (.c (.int .i64 v22.1.Kind)), (.arr 16), (.arr 17)]))]⟩) (ob := True ∧ True) (by kernel_rfl) ⟨trivial, trivial⟩ ?_
                refine thenQ_normal ?_
                refine AW.seq ?_
                obtain ⟨v45, e46, h⟩ := bind_some h
                obtain ⟨c47, h⟩ := chk_some h
                refine AW.regionA [.no, .no, .callM [(.agg [(.mu (sl 4 cs_Bone v16.Bones) (sl 4 cs_Bone v45.2))]), .one (.ro (.int .i64 (1 : Int)))] [.one (.int .i64 v45.1)] [[.view]] none] [2, 3, 4, 8, 9, 11, 12, 13, 14, 15] [1, 2, 7, 8, 9, 12, 13, 14, 15, 16, 17, 18] (s' := ⟨[(2, (.v (.one (.c (sl 1 (csI .i64) a2))))), (3, (.v (.one (.ptr 1 0)))), (4, (.v (.one (.ptr 2 0)))), (8, (.v (.one (.ptr 9 0)))), (9, (.v (.one (.c (.bool v14.2))))), (11, (.v (.one (.ptr 14 0)))), (12, (.v (.one (.arr 15)))), (13, (.v (.one (.ptr 18 0)))), (14, (.v (.one (.c (.bool v22.2))))), (15, (.v (.one (.c (.int .i64 v45.1)))))], [(1, (.box [(.c (sl 4 cs_Bone a0.Bones))])), (2, (.box [(.c (.int .i64 a1.Length)), (.c (.int .i64 a1.Kind)), (.c (sl 1 (csL 5 cs_Key) a1.Tracks)), (.c (sl 4 cs_RootKey a1.Roots))])), (7, (.lst v14.1.Tracks.length 1 (gl (csL 5 cs_Key) v14.1.Tracks))), (8, (.lst v14.1.Roots.length 4 (gl cs_RootKey v14.1.Roots))), (9, (.box [(.c (.int .i64 v14.1.Length)), (.c (.int .i64 v14.1.Kind)), (.lst 7 v14.1.Tracks.length 1 (gl (csL 5 cs_Key) v14.1.Tracks)), (.lst 8 v14.1.Roots.length 4 (gl cs_RootKey v14.1.Roots))])), (12, (.arr true v18.Tracks.length 1 (gl (csL 5 cs_Key) v18.Tracks))), (13, (.arr true v18.Roots.length 4 (gl cs_RootKey v18.Roots))), (14, (.box [(.c (.int .i64 v18.Length)), (.c (.int .i64 v18.Kind)), (.arr 12), (.arr 13)])), (15, (.arr true v20.length 1 (gl (csI .i64) v20))), (16, (.arr true v22.1.Tracks.length 1 (gl (csL 5 cs_Key) v22.1.Tracks))), (17, (.arr true v22.1.Roots.length 4 (gl cs_RootKey v22.1.Roots))), (18, (.box [(.c (.int .i64 v22.1.Length)), (.c (.int .i64 v22.1.Kind)), (.arr 16), (.arr 17)]))]⟩) (ob := True ∧ True ∧ ((((((sl 4 cs_Bone v16.Bones) : C) = (sl 4 cs_Bone v16.Bones) ∧ v45.2.length = v16.Bones.length ∧ 4 = 4 ∧ ∀ i j, i < v16.Bones.length → j < 4 → isSeq (gl cs_Bone v45.2 i j) = isSeq (gl cs_Bone v16.Bones i j)) ∧ True) ∧ (((.int .i64 (1 : Int)) : C) = (.int .i64 (1 : Int))) ∧ True) ∧ MutOK Try.prog 33 [(.agg [(.mu (sl 4 cs_Bone v16.Bones) (sl 4 cs_Bone v45.2))]), .one (.ro (.int .i64 (1 : Int)))] [.one (.int .i64 v45.1)]) ∧ True ∧ True) (by kernel_rfl) ⟨trivial, trivial, ⟨⟨⟨⟨rfl, c47, rfl, gl_seq sq_Bone⟩, trivial⟩, rfl, trivial⟩, ok_laws_markSkeleton K v16 (1 : Int) v45 e46⟩, trivial, trivial⟩ ?_
                refine thenQ_normal ?_
                refine AW.seq ?_
                obtain ⟨v48, e49, h⟩ := bind_some h
                obtain ⟨c50, h⟩ := chk_some h
                obtain ⟨c51, h⟩ := chk_some h
                refine AW.regionA [.no, .no, .callM [(.agg [(.ro (.int .i64 v18.Length)), (.ro (.int .i64 v18.Kind)), (.mu (sl 1 (csL 5 cs_Key) v18.Tracks) (sl 1 (csL 5 cs_Key) v48.2.1)), (.mu (sl 4 cs_RootKey v18.Roots) (sl 4 cs_RootKey v48.2.2))]), .one (.ro (.int .i64 v45.1))] [.one (.int .i64 v48.1)] [[.view]] none] [2, 3, 4, 8, 9, 12, 13, 14, 15] [1, 2, 7, 8, 9, 15, 16, 17, 18] (s' := ⟨[(2, (.v (.one (.c (sl 1 (csI .i64) a2))))), (3, (.v (.one (.ptr 1 0)))), (4, (.v (.one (.ptr 2 0)))), (8, (.v (.one (.ptr 9 0)))), (9, (.v (.one (.c (.bool v14.2))))), (12, (.v (.one (.arr 15)))), (13, (.v (.one (.ptr 18 0)))), (14, (.v (.one (.c (.bool v22.2))))), (15, (.v (.one (.c (.int .i64 v48.1)))))], [(1, (.box [(.c (sl 4 cs_Bone a0.Bones))])), (2, (.box [(.c (.int .i64 a1.Length)), (.c (.int .i64 a1.Kind)), (.c (sl 1 (csL 5 cs_Key) a1.Tracks)), (.c (sl 4 cs_RootKey a1.Roots))])), (7, (.lst v14.1.Tracks.length 1 (gl (csL 5 cs_Key) v14.1.Tracks))), (8, (.lst v14.1.Roots.length 4 (gl cs_RootKey v14.1.Roots))), (9, (.box [(.c (.int .i64 v14.1.Length)), (.c (.int .i64 v14.1.Kind)), (.lst 7 v14.1.Tracks.length 1 (gl (csL 5 cs_Key) v14.1.Tracks)), (.lst 8 v14.1.Roots.length 4 (gl cs_RootKey v14.1.Roots))])), (15, (.arr true v20.length 1 (gl (csI .i64) v20))), (16, (.arr true v22.1.Tracks.length 1 (gl (csL 5 cs_Key) v22.1.Tracks))), (17, (.arr true v22.1.Roots.length 4 (gl cs_RootKey v22.1.Roots))), (18, (.box [(.c (.int .i64 v22.1.Length)), (.c (.int .i64 v22.1.Kind)), (.arr 16), (.arr 17)]))]⟩) (ob := True ∧ True ∧ ((((((.int .i64 v18.Length) : C) = (.int .i64 v18.Length)) ∧ (((.int .i64 v18.Kind) : C) = (.int .i64 v18.Kind)) ∧ (((sl 1 (csL 5 cs_Key) v18.Tracks) : C) = (sl 1 (csL 5 cs_Key) v18.Tracks) ∧ v48.2.1.length = v18.Tracks.length ∧ 1 = 1 ∧ ∀ i j, i < v18.Tracks.length → j < 1 → isSeq (gl (csL 5 cs_Key) v48.2.1 i j) = isSeq (gl (csL 5 cs_Key) v18.Tracks i j)) ∧ (((sl 4 cs_RootKey v18.Roots) : C) = (sl 4 cs_RootKey v18.Roots) ∧ v48.2.2.length = v18.Roots.length ∧ 4 = 4 ∧ ∀ i j, i < v18.Roots.length → j < 4 → isSeq (gl cs_RootKey v48.2.2 i j) = isSeq (gl cs_RootKey v18.Roots i j)) ∧ True) ∧ (((.int .i64 v45.1) : C) = (.int .i64 v45.1)) ∧ True) ∧ MutOK Try.prog 16 [(.agg [(.ro (.int .i64 v18.Length)), (.ro (.int .i64 v18.Kind)), (.mu (sl 1 (csL 5 cs_Key) v18.Tracks) (sl 1 (csL 5 cs_Key) v48.2.1)), (.mu (sl 4 cs_RootKey v18.Roots) (sl 4 cs_RootKey v48.2.2))]), .one (.ro (.int .i64 v45.1))] [.one (.int .i64 v48.1)]) ∧ True ∧ True) (by kernel_rfl) ⟨trivial, trivial, ⟨⟨⟨rfl, rfl, ⟨rfl, c50, rfl, gl_seq (sq_slice)⟩, ⟨rfl, c51, rfl, gl_seq sq_RootKey⟩, trivial⟩, rfl, trivial⟩, ok_laws_markClip K v18 v45.1 v48 e49⟩, trivial, trivial⟩ ?_
                refine thenQ_normal ?_
                refine AW.seq ?_
                obtain ⟨v52, e53, h⟩ := bind_some h
                obtain ⟨c54, h⟩ := chk_some h
                refine AW.regionA [.no, .no, .callM [(.one (.mu (sl 1 (csI .i64) v20) (sl 1 (csI .i64) v52.2))), .one (.ro (.int .i64 v48.1))] [.one (.int .i64 v52.1)] [[.view]] none] [2, 3, 4, 8, 9, 13, 14, 15] [1, 2, 7, 8, 9, 16, 17, 18] (s' := ⟨[(2, (.v (.one (.c (sl 1 (csI .i64) a2))))), (3, (.v (.one (.ptr 1 0)))), (4, (.v (.one (.ptr 2 0)))), (8, (.v (.one (.ptr 9 0)))), (9, (.v (.one (.c (.bool v14.2))))), (13, (.v (.one (.ptr 18 0)))), (14, (.v (.one (.c (.bool v22.2))))), (15, (.v (.one (.c (.int .i64 v52.1)))))], [(1, (.box [(.c (sl 4 cs_Bone a0.Bones))])), (2, (.box [(.c (.int .i64 a1.Length)), (.c (.int .i64 a1.Kind)), (.c (sl 1 (csL 5 cs_Key) a1.Tracks)), (.c (sl 4 cs_RootKey a1.Roots))])), (7, (.lst v14.1.Tracks.length 1 (gl (csL 5 cs_Key) v14.1.Tracks))), (8, (.lst v14.1.Roots.length 4 (gl cs_RootKey v14.1.Roots))), (9, (.box [(.c (.int .i64 v14.1.Length)), (.c (.int .i64 v14.1.Kind)), (.lst 7 v14.1.Tracks.length 1 (gl (csL 5 cs_Key) v14.1.Tracks)), (.lst 8 v14.1.Roots.length 4 (gl cs_RootKey v14.1.Roots))])), (16, (.arr true v22.1.Tracks.length 1 (gl (csL 5 cs_Key) v22.1.Tracks))), (17, (.arr true v22.1.Roots.length 4 (gl cs_RootKey v22.1.Roots))), (18, (.box [(.c (.int .i64 v22.1.Length)), (.c (.int .i64 v22.1.Kind)), (.arr 16), (.arr 17)]))]⟩) (ob := True ∧ True ∧ (((((sl 1 (csI .i64) v20) : C) = (sl 1 (csI .i64) v20) ∧ v52.2.length = v20.length ∧ 1 = 1 ∧ ∀ i j, i < v20.length → j < 1 → isSeq (gl (csI .i64) v52.2 i j) = isSeq (gl (csI .i64) v20 i j)) ∧ (((.int .i64 v48.1) : C) = (.int .i64 v48.1)) ∧ True) ∧ MutOK Try.prog 34 [(.one (.mu (sl 1 (csI .i64) v20) (sl 1 (csI .i64) v52.2))), .one (.ro (.int .i64 v48.1))] [.one (.int .i64 v52.1)]) ∧ True ∧ True) (by kernel_rfl) ⟨trivial, trivial, ⟨⟨⟨rfl, c54, rfl, gl_seq sqI⟩, rfl, trivial⟩, ok_laws_markInt64S K v20 v48.1 v52 e53⟩, trivial, trivial⟩ ?_
                refine thenQ_normal ?_
                refine AW.seq ?_
                refine AW.seq ?_
                obtain ⟨j59, e60, h⟩ := bind_some h
                refine AW.join1 (s2 := ⟨[(2, (.v (.one (.c (sl 1 (csI .i64) a2))))), (3, (.v (.one (.ptr 1 0)))), (4, (.v (.one (.ptr 2 0)))), (8, (.v (.one (.ptr 9 0)))), (9, (.v (.one (.c (.bool v14.2))))), (13, (.v (.one (.ptr 18 0)))), (101, (.v (.one (.c (.bool j59)))))], [(1, (.box [(.c (sl 4 cs_Bone a0.Bones))])), (2, (.box [(.c (.int .i64 a1.Length)), (.c (.int .i64 a1.Kind)), (.c (sl 1 (csL 5 cs_Key) a1.Tracks)), (.c (sl 4 cs_RootKey a1.Roots))])), (7, (.lst v14.1.Tracks.length 1 (gl (csL 5 cs_Key) v14.1.Tracks))), (8, (.lst v14.1.Roots.length 4 (gl cs_RootKey v14.1.Roots))), (9, (.box [(.c (.int .i64 v14.1.Length)), (.c (.int .i64 v14.1.Kind)), (.lst 7 v14.1.Tracks.length 1 (gl (csL 5 cs_Key) v14.1.Tracks)), (.lst 8 v14.1.Roots.length 4 (gl cs_RootKey v14.1.Roots))])), (16, (.arr true v22.1.Tracks.length 1 (gl (csL 5 cs_Key) v22.1.Tracks))), (17, (.arr true v22.1.Roots.length 4 (gl cs_RootKey v22.1.Roots))), (18, (.box [(.c (.int .i64 v22.1.Length)), (.c (.int .i64 v22.1.Kind)), (.arr 16), (.arr 17)]))]⟩) ?_ ?_
                · rcases ite2_cases e60 with ⟨b55, e60⟩ | ⟨b55, e60⟩
                  · replace e60 := some_eq e60
                    subst e60
                    exact AW.regionA [.no, .no, .dec true] [2, 3, 4, 8, 9, 13, 101] [1, 2, 7, 8, 9, 16, 17, 18] (s' := ⟨[(2, (.v (.one (.c (sl 1 (csI .i64) a2))))), (3, (.v (.one (.ptr 1 0)))), (4, (.v (.one (.ptr 2 0)))), (8, (.v (.one (.ptr 9 0)))), (9, (.v (.one (.c (.bool v14.2))))), (13, (.v (.one (.ptr 18 0)))), (101, (.v (.one (.c (.bool true)))))], [(1, (.box [(.c (sl 4 cs_Bone a0.Bones))])), (2, (.box [(.c (.int .i64 a1.Length)), (.c (.int .i64 a1.Kind)), (.c (sl 1 (csL 5 cs_Key) a1.Tracks)), (.c (sl 4 cs_RootKey a1.Roots))])), (7, (.lst v14.1.Tracks.length 1 (gl (csL 5 cs_Key) v14.1.Tracks))), (8, (.lst v14.1.Roots.length 4 (gl cs_RootKey v14.1.Roots))), (9, (.box [(.c (.int .i64 v14.1.Length)), (.c (.int .i64 v14.1.Kind)), (.lst 7 v14.1.Tracks.length 1 (gl (csL 5 cs_Key) v14.1.Tracks)), (.lst 8 v14.1.Roots.length 4 (gl cs_RootKey v14.1.Roots))])), (16, (.arr true v22.1.Tracks.length 1 (gl (csL 5 cs_Key) v22.1.Tracks))), (17, (.arr true v22.1.Roots.length 4 (gl cs_RootKey v22.1.Roots))), (18, (.box [(.c (.int .i64 v22.1.Length)), (.c (.int .i64 v22.1.Kind)), (.arr 16), (.arr 17)]))]⟩) (ob := True ∧ True ∧ (True ∧ (decide (v52.1 < (0 : Int))) = true) ∧ True ∧ True ∧ True ∧ True ∧ True ∧ True ∧ True ∧ True ∧ True ∧ True ∧ True) (by kernel_rfl) ⟨trivial, trivial, ⟨trivial, b55⟩, trivial, trivial, trivial, trivial, trivial, trivial, trivial, trivial, trivial, trivial, trivial⟩ ⟨rfl, rfl⟩
                  · obtain ⟨v56, e57, e60⟩ := bind_some e60
                    rcases ite2_cases e60 with ⟨b58, e60⟩ | ⟨b58, e60⟩
                    · replace e60 := some_eq e60
                      subst e60
                      exact AW.regionA [.no, .no, .dec false, .no, .no, .call [.agg (cs_Clip v22.1), .agg (cs_Clip v14.1)] [.one (.bool v56)] [[.view]], .no, .no, .dec true] [2, 3, 4, 8, 9, 13, 101] [1, 2, 7, 8, 9, 16, 17, 18] (s' := ⟨[(2, (.v (.one (.c (sl 1 (csI .i64) a2))))), (3, (.v (.one (.ptr 1 0)))), (4, (.v (.one (.ptr 2 0)))), (8, (.v (.one (.ptr 9 0)))), (9, (.v (.one (.c (.bool v14.2))))), (13, (.v (.one (.ptr 18 0)))), (101, (.v (.one (.c (.bool true)))))], [(1, (.box [(.c (sl 4 cs_Bone a0.Bones))])), (2, (.box [(.c (.int .i64 a1.Length)), (.c (.int .i64 a1.Kind)), (.c (sl 1 (csL 5 cs_Key) a1.Tracks)), (.c (sl 4 cs_RootKey a1.Roots))])), (7, (.lst v14.1.Tracks.length 1 (gl (csL 5 cs_Key) v14.1.Tracks))), (8, (.lst v14.1.Roots.length 4 (gl cs_RootKey v14.1.Roots))), (9, (.box [(.c (.int .i64 v14.1.Length)), (.c (.int .i64 v14.1.Kind)), (.lst 7 v14.1.Tracks.length 1 (gl (csL 5 cs_Key) v14.1.Tracks)), (.lst 8 v14.1.Roots.length 4 (gl cs_RootKey v14.1.Roots))])), (16, (.arr true v22.1.Tracks.length 1 (gl (csL 5 cs_Key) v22.1.Tracks))), (17, (.arr true v22.1.Roots.length 4 (gl cs_RootKey v22.1.Roots))), (18, (.box [(.c (.int .i64 v22.1.Length)), (.c (.int .i64 v22.1.Kind)), (.arr 16), (.arr 17)]))]⟩) (ob := True ∧ True ∧ (True ∧ (decide (v52.1 < (0 : Int))) = false) ∧ True ∧ True ∧ ((((((.int .i64 v22.1.Length) : C) = (.int .i64 v22.1.Length)) ∧ (((.int .i64 v22.1.Kind) : C) = (.int .i64 v22.1.Kind)) ∧ (((sl 1 (csL 5 cs_Key) v22.1.Tracks) : C) = (sl 1 (csL 5 cs_Key) v22.1.Tracks)) ∧ (((sl 4 cs_RootKey v22.1.Roots) : C) = (sl 4 cs_RootKey v22.1.Roots)) ∧ True) ∧ ((((.int .i64 v14.1.Length) : C) = (.int .i64 v14.1.Length)) ∧ (((.int .i64 v14.1.Kind) : C) = (.int .i64 v14.1.Kind)) ∧ (((sl 1 (csL 5 cs_Key) v14.1.Tracks) : C) = (sl 1 (csL 5 cs_Key) v14.1.Tracks)) ∧ (((sl 4 cs_RootKey v14.1.Roots) : C) = (sl 4 cs_RootKey v14.1.Roots)) ∧ True) ∧ True) ∧ CallOK Try.prog 15 [.agg (cs_Clip v22.1), .agg (cs_Clip v14.1)] [.one (.bool v56)]) ∧ True ∧ True ∧ (True ∧ (!v56) = true) ∧ True ∧ True ∧ True ∧ True ∧ True) (by kernel_rfl) ⟨trivial, trivial, ⟨trivial, b55⟩, trivial, trivial, ⟨⟨⟨rfl, rfl, rfl, rfl, trivial⟩, ⟨rfl, rfl, rfl, rfl, trivial⟩, trivial⟩, ok_laws_eqClip K v22.1 v14.1 v56 e57⟩, trivial, trivial, ⟨trivial, b58⟩, trivial, trivial, trivial, trivial, trivial⟩ ⟨rfl, rfl⟩
                    · replace e60 := some_eq e60
                      subst e60
                      exact AW.regionA [.no, .no, .dec false, .no, .no, .call [.agg (cs_Clip v22.1), .agg (cs_Clip v14.1)] [.one (.bool v56)] [[.view]], .no, .no, .dec false] [2, 3, 4, 8, 9, 13, 101] [1, 2, 7, 8, 9, 16, 17, 18] (s' := ⟨[(2, (.v (.one (.c (sl 1 (csI .i64) a2))))), (3, (.v (.one (.ptr 1 0)))), (4, (.v (.one (.ptr 2 0)))), (8, (.v (.one (.ptr 9 0)))), (9, (.v (.one (.c (.bool v14.2))))), (13, (.v (.one (.ptr 18 0)))), (101, (.v (.one (.c (.bool (!(v22.2 == v14.2)))))))], [(1, (.box [(.c (sl 4 cs_Bone a0.Bones))])), (2, (.box [(.c (.int .i64 a1.Length)), (.c (.int .i64 a1.Kind)), (.c (sl 1 (csL 5 cs_Key) a1.Tracks)), (.c (sl 4 cs_RootKey a1.Roots))])), (7, (.lst v14.1.Tracks.length 1 (gl (csL 5 cs_Key) v14.1.Tracks))), (8, (.lst v14.1.Roots.length 4 (gl cs_RootKey v14.1.Roots))), (9, (.box [(.c (.int .i64 v14.1.Length)), (.c (.int .i64 v14.1.Kind)), (.lst 7 v14.1.Tracks.length 1 (gl (csL 5 cs_Key) v14.1.Tracks)), (.lst 8 v14.1.Roots.length 4 (gl cs_RootKey v14.1.Roots))])), (16, (.arr true v22.1.Tracks.length 1 (gl (csL 5 cs_Key) v22.1.Tracks))), (17, (.arr true v22.1.Roots.length 4 (gl cs_RootKey v22.1.Roots))), (18, (.box [(.c (.int .i64 v22.1.Length)), (.c (.int .i64 v22.1.Kind)), (.arr 16), (.arr 17)]))]⟩) (ob := True ∧ True ∧ (True ∧ (decide (v52.1 < (0 : Int))) = false) ∧ True ∧ True ∧ ((((((.int .i64 v22.1.Length) : C) = (.int .i64 v22.1.Length)) ∧ (((.int .i64 v22.1.Kind) : C) = (.int .i64 v22.1.Kind)) ∧ (((sl 1 (csL 5 cs_Key) v22.1.Tracks) : C) = (sl 1 (csL 5 cs_Key) v22.1.Tracks)) ∧ (((sl 4 cs_RootKey v22.1.Roots) : C) = (sl 4 cs_RootKey v22.1.Roots)) ∧ True) ∧ ((((.int .i64 v14.1.Length) : C) = (.int .i64 v14.1.Length)) ∧ (((.int .i64 v14.1.Kind) : C) = (.int .i64 v14.1.Kind)) ∧ (((sl 1 (csL 5 cs_Key) v14.1.Tracks) : C) = (sl 1 (csL 5 cs_Key) v14.1.Tracks)) ∧ (((sl 4 cs_RootKey v14.1.Roots) : C) = (sl 4 cs_RootKey v14.1.Roots)) ∧ True) ∧ True) ∧ CallOK Try.prog 15 [.agg (cs_Clip v22.1), .agg (cs_Clip v14.1)] [.one (.bool v56)]) ∧ True ∧ True ∧ (True ∧ (!v56) = false) ∧ True ∧ True ∧ True ∧ True ∧ True) (by kernel_rfl) ⟨trivial, trivial, ⟨trivial, b55⟩, trivial, trivial, ⟨⟨⟨rfl, rfl, rfl, rfl, trivial⟩, ⟨rfl, rfl, rfl, rfl, trivial⟩, trivial⟩, ok_laws_eqClip K v22.1 v14.1 v56 e57⟩, trivial, trivial, ⟨trivial, b58⟩, trivial, trivial, trivial, trivial, trivial⟩ ⟨rfl, rfl⟩
                refine thenQ_normal ?_
                rcases ite2_cases h with ⟨b61, h⟩ | ⟨b61, h⟩
                · refine AW.cond_t rfl b61 ?_
                  refine AW.seq ?_
                  refine AW.regionA [] [6] [] (s' := ⟨[(6, (.v (.one (.c (.bool false)))))], []⟩) (ob := True ∧ True) (by kernel_rfl) ⟨trivial, trivial⟩ ?_
                  refine thenQ_normal ?_
                  refine AW.ret ?_
                  refine thenQ_ret ?_
                  replace h := some_eq h
                  subst h
                  exact ⟨.inr rfl, retOK_of [(.one (.c (.bool false)))] (by kernel_rfl) ⟨⟨rfl, trivial⟩, trivial⟩ (of_decide_eq_true (by kernel_rfl))⟩
                · refine AW.cond_f rfl b61 ?_
                  refine AW.skip ?_
                  refine thenQ_normal ?_
                  refine AW.seq ?_
                  refine AW.regionA [] [2, 3, 4, 8, 9, 13, 16] [1, 2, 7, 8, 9, 16, 17, 18] (s' := ⟨[(2, (.v (.one (.c (sl 1 (csI .i64) a2))))), (3, (.v (.one (.ptr 1 0)))), (4, (.v (.one (.ptr 2 0)))), (8, (.v (.one (.ptr 9 0)))), (9, (.v (.one (.c (.bool v14.2))))), (13, (.v (.one (.ptr 18 0)))), (16, (.v (.one (.c (.int .i64 (1 : Int))))))], [(1, (.box [(.c (sl 4 cs_Bone a0.Bones))])), (2, (.box [(.c (.int .i64 a1.Length)), (.c (.int .i64 a1.Kind)), (.c (sl 1 (csL 5 cs_Key) a1.Tracks)), (.c (sl 4 cs_RootKey a1.Roots))])), (7, (.lst v14.1.Tracks.length 1 (gl (csL 5 cs_Key) v14.1.Tracks))), (8, (.lst v14.1.Roots.length 4 (gl cs_RootKey v14.1.Roots))), (9, (.box [(.c (.int .i64 v14.1.Length)), (.c (.int .i64 v14.1.Kind)), (.lst 7 v14.1.Tracks.length 1 (gl (csL 5 cs_Key) v14.1.Tracks)), (.lst 8 v14.1.Roots.length 4 (gl cs_RootKey v14.1.Roots))])), (16, (.arr true v22.1.Tracks.length 1 (gl (csL 5 cs_Key) v22.1.Tracks))), (17, (.arr true v22.1.Roots.length 4 (gl cs_RootKey v22.1.Roots))), (18, (.box [(.c (.int .i64 v22.1.Length)), (.c (.int .i64 v22.1.Kind)), (.arr 16), (.arr 17)]))]⟩) (ob := True ∧ True) (by kernel_rfl) ⟨trivial, trivial⟩ ?_
                  refine thenQ_normal ?_
                  refine AW.seq ?_
                  obtain ⟨v62, e63, h⟩ := bind_some h
                  obtain ⟨c64, h⟩ := chk_some h
                  obtain ⟨c65, h⟩ := chk_some h
                  refine AW.regionA [.no, .no, .callM [(.agg [(.ro (.int .i64 v22.1.Length)), (.ro (.int .i64 v22.1.Kind)), (.mu (sl 1 (csL 5 cs_Key) v22.1.Tracks) (sl 1 (csL 5 cs_Key) v62.2.1)), (.mu (sl 4 cs_RootKey v22.1.Roots) (sl 4 cs_RootKey v62.2.2))]), .one (.ro (.int .i64 (1 : Int)))] [.one (.int .i64 v62.1)] [[.view]] none] [2, 3, 4, 8, 9, 13, 16] [1, 2, 7, 8, 9, 16, 17, 18] (s' := ⟨[(2, (.v (.one (.c (sl 1 (csI .i64) a2))))), (3, (.v (.one (.ptr 1 0)))), (4, (.v (.one (.ptr 2 0)))), (8, (.v (.one (.ptr 9 0)))), (9, (.v (.one (.c (.bool v14.2))))), (13, (.v (.one (.ptr 18 0)))), (16, (.v (.one (.c (.int .i64 v62.1)))))], [(1, (.box [(.c (sl 4 cs_Bone a0.Bones))])), (2, (.box [(.c (.int .i64 a1.Length)), (.c (.int .i64 a1.Kind)), (.c (sl 1 (csL 5 cs_Key) a1.Tracks)), (.c (sl 4 cs_RootKey a1.Roots))])), (7, (.lst v14.1.Tracks.length 1 (gl (csL 5 cs_Key) v14.1.Tracks))), (8, (.lst v14.1.Roots.length 4 (gl cs_RootKey v14.1.Roots))), (9, (.box [(.c (.int .i64 v14.1.Length)), (.c (.int .i64 v14.1.Kind)), (.lst 7 v14.1.Tracks.length 1 (gl (csL 5 cs_Key) v14.1.Tracks)), (.lst 8 v14.1.Roots.length 4 (gl cs_RootKey v14.1.Roots))])), (16, (.arr true v62.2.1.length 1 (gl (csL 5 cs_Key) v62.2.1))), (17, (.arr true v62.2.2.length 4 (gl cs_RootKey v62.2.2))), (18, (.box [(.c (.int .i64 v22.1.Length)), (.c (.int .i64 v22.1.Kind)), (.arr 16), (.arr 17)]))]⟩) (ob := True ∧ True ∧ ((((((.int .i64 v22.1.Length) : C) = (.int .i64 v22.1.Length)) ∧ (((.int .i64 v22.1.Kind) : C) = (.int .i64 v22.1.Kind)) ∧ (((sl 1 (csL 5 cs_Key) v22.1.Tracks) : C) = (sl 1 (csL 5 cs_Key) v22.1.Tracks) ∧ v62.2.1.length = v22.1.Tracks.length ∧ 1 = 1 ∧ ∀ i j, i < v22.1.Tracks.length → j < 1 → isSeq (gl (csL 5 cs_Key) v62.2.1 i j) = isSeq (gl (csL 5 cs_Key) v22.1.Tracks i j)) ∧ (((sl 4 cs_RootKey v22.1.Roots) : C) = (sl 4 cs_RootKey v22.1.Roots) ∧ v62.2.2.length = v22.1.Roots.length ∧ 4 = 4 ∧ ∀ i j, i < v22.1.Roots.length → j < 4 → isSeq (gl cs_RootKey v62.2.2 i j) = isSeq (gl cs_RootKey v22.1.Roots i j)) ∧ True) ∧ (((.int .i64 (1 : Int)) : C) = (.int .i64 (1 : Int))) ∧ True) ∧ MutOK Try.prog 16 [(.agg [(.ro (.int .i64 v22.1.Length)), (.ro (.int .i64 v22.1.Kind)), (.mu (sl 1 (csL 5 cs_Key) v22.1.Tracks) (sl 1 (csL 5 cs_Key) v62.2.1)), (.mu (sl 4 cs_RootKey v22.1.Roots) (sl 4 cs_RootKey v62.2.2))]), .one (.ro (.int .i64 (1 : Int)))] [.one (.int .i64 v62.1)]) ∧ True ∧ True) (by kernel_rfl) ⟨trivial, trivial, ⟨⟨⟨rfl, rfl, ⟨rfl, c64, rfl, gl_seq (sq_slice)⟩, ⟨rfl, c65, rfl, gl_seq sq_RootKey⟩, trivial⟩, rfl, trivial⟩, ok_laws_markClip K v22.1 (1 : Int) v62 e63⟩, trivial, trivial⟩ ?_
                  refine thenQ_normal ?_
                  refine AW.seq ?_
                  refine AW.regionA [] [2, 3, 4, 8, 9, 13, 16, 17] [1, 2, 7, 8, 9, 16, 17, 18] (s' := ⟨[(2, (.v (.one (.c (sl 1 (csI .i64) a2))))), (3, (.v (.one (.ptr 1 0)))), (4, (.v (.one (.ptr 2 0)))), (8, (.v (.one (.ptr 9 0)))), (9, (.v (.one (.c (.bool v14.2))))), (13, (.v (.one (.ptr 18 0)))), (16, (.v (.one (.c (.int .i64 v62.1))))), (17, (.v (.one (.c (.int .i64 (1 : Int))))))], [(1, (.box [(.c (sl 4 cs_Bone a0.Bones))])), (2, (.box [(.c (.int .i64 a1.Length)), (.c (.int .i64 a1.Kind)), (.c (sl 1 (csL 5 cs_Key) a1.Tracks)), (.c (sl 4 cs_RootKey a1.Roots))])), (7, (.lst v14.1.Tracks.length 1 (gl (csL 5 cs_Key) v14.1.Tracks))), (8, (.lst v14.1.Roots.length 4 (gl cs_RootKey v14.1.Roots))), (9, (.box [(.c (.int .i64 v14.1.Length)), (.c (.int .i64 v14.1.Kind)), (.lst 7 v14.1.Tracks.length 1 (gl (csL 5 cs_Key) v14.1.Tracks)), (.lst 8 v14.1.Roots.length 4 (gl cs_RootKey v14.1.Roots))])), (16, (.arr true v62.2.1.length 1 (gl (csL 5 cs_Key) v62.2.1))), (17, (.arr true v62.2.2.length 4 (gl cs_RootKey v62.2.2))), (18, (.box [(.c (.int .i64 v22.1.Length)), (.c (.int .i64 v22.1.Kind)), (.arr 16), (.arr 17)]))]⟩) (ob := True ∧ True) (by kernel_rfl) ⟨trivial, trivial⟩ ?_
                  refine thenQ_normal ?_
                  refine AW.seq ?_
                  obtain ⟨v66, e67, h⟩ := bind_some h
                  refine AW.regionA [.no, .no, .call [.agg (cs_Clip (Clip.mk v22.1.Length v22.1.Kind v62.2.1 v62.2.2)), .one (.int .i64 (1 : Int))] [.one (.int .i64 v66)] [[.view]]] [2, 3, 4, 8, 9, 13, 16, 17] [1, 2, 7, 8, 9, 16, 17, 18] (s' := ⟨[(2, (.v (.one (.c (sl 1 (csI .i64) a2))))), (3, (.v (.one (.ptr 1 0)))), (4, (.v (.one (.ptr 2 0)))), (8, (.v (.one (.ptr 9 0)))), (9, (.v (.one (.c (.bool v14.2))))), (13, (.v (.one (.ptr 18 0)))), (16, (.v (.one (.c (.int .i64 v62.1))))), (17, (.v (.one (.c (.int .i64 v66)))))], [(1, (.box [(.c (sl 4 cs_Bone a0.Bones))])), (2, (.box [(.c (.int .i64 a1.Length)), (.c (.int .i64 a1.Kind)), (.c (sl 1 (csL 5 cs_Key) a1.Tracks)), (.c (sl 4 cs_RootKey a1.Roots))])), (7, (.lst v14.1.Tracks.length 1 (gl (csL 5 cs_Key) v14.1.Tracks))), (8, (.lst v14.1.Roots.length 4 (gl cs_RootKey v14.1.Roots))), (9, (.box [(.c (.int .i64 v14.1.Length)), (.c (.int .i64 v14.1.Kind)), (.lst 7 v14.1.Tracks.length 1 (gl (csL 5 cs_Key) v14.1.Tracks)), (.lst 8 v14.1.Roots.length 4 (gl cs_RootKey v14.1.Roots))])), (16, (.arr true v62.2.1.length 1 (gl (csL 5 cs_Key) v62.2.1))), (17, (.arr true v62.2.2.length 4 (gl cs_RootKey v62.2.2))), (18, (.box [(.c (.int .i64 v22.1.Length)), (.c (.int .i64 v22.1.Kind)), (.arr 16), (.arr 17)]))]⟩) (ob := True ∧ True ∧ ((((((.int .i64 v22.1.Length) : C) = (.int .i64 v22.1.Length)) ∧ (((.int .i64 v22.1.Kind) : C) = (.int .i64 v22.1.Kind)) ∧ (((sl 1 (csL 5 cs_Key) v62.2.1) : C) = (sl 1 (csL 5 cs_Key) v62.2.1)) ∧ (((sl 4 cs_RootKey v62.2.2) : C) = (sl 4 cs_RootKey v62.2.2)) ∧ True) ∧ (((.int .i64 (1 : Int)) : C) = (.int .i64 (1 : Int))) ∧ True) ∧ CallOK Try.prog 17 [.agg (cs_Clip (Clip.mk v22.1.Length v22.1.Kind v62.2.1 v62.2.2)), .one (.int .i64 (1 : Int))] [.one (.int .i64 v66)]) ∧ True ∧ True) (by kernel_rfl) ⟨trivial, trivial, ⟨⟨⟨rfl, rfl, rfl, rfl, trivial⟩, rfl, trivial⟩, ok_laws_heldClip K (Clip.mk v22.1.Length v22.1.Kind v62.2.1 v62.2.2) (1 : Int) v66 e67⟩, trivial, trivial⟩ ?_
                  refine thenQ_normal ?_
                  refine AW.seq ?_
                  refine AW.seq ?_
                  refine AW.regionA [] [2, 3, 4, 8, 9, 13, 16, 17, 109] [1, 2, 7, 8, 9, 16, 17, 18] (s' := ⟨[(2, (.v (.one (.c (sl 1 (csI .i64) a2))))), (3, (.v (.one (.ptr 1 0)))), (4, (.v (.one (.ptr 2 0)))), (8, (.v (.one (.ptr 9 0)))), (9, (.v (.one (.c (.bool v14.2))))), (13, (.v (.one (.ptr 18 0)))), (16, (.v (.one (.c (.int .i64 v62.1))))), (17, (.v (.one (.c (.int .i64 v66))))), (109, (.v (.one (.c (.bool (decide (v66 < (0 : Int))))))))], [(1, (.box [(.c (sl 4 cs_Bone a0.Bones))])), (2, (.box [(.c (.int .i64 a1.Length)), (.c (.int .i64 a1.Kind)), (.c (sl 1 (csL 5 cs_Key) a1.Tracks)), (.c (sl 4 cs_RootKey a1.Roots))])), (7, (.lst v14.1.Tracks.length 1 (gl (csL 5 cs_Key) v14.1.Tracks))), (8, (.lst v14.1.Roots.length 4 (gl cs_RootKey v14.1.Roots))), (9, (.box [(.c (.int .i64 v14.1.Length)), (.c (.int .i64 v14.1.Kind)), (.lst 7 v14.1.Tracks.length 1 (gl (csL 5 cs_Key) v14.1.Tracks)), (.lst 8 v14.1.Roots.length 4 (gl cs_RootKey v14.1.Roots))])), (16, (.arr true v62.2.1.length 1 (gl (csL 5 cs_Key) v62.2.1))), (17, (.arr true v62.2.2.length 4 (gl cs_RootKey v62.2.2))), (18, (.box [(.c (.int .i64 v22.1.Length)), (.c (.int .i64 v22.1.Kind)), (.arr 16), (.arr 17)]))]⟩) (ob := True ∧ True ∧ True) (by kernel_rfl) ⟨trivial, trivial, trivial⟩ ?_
                  refine thenQ_normal ?_
                  rcases ite2_cases h with ⟨b68, h⟩ | ⟨b68, h⟩
                  · refine AW.cond_t rfl b68 ?_
                    refine AW.seq ?_
                    refine AW.regionA [] [6] [] (s' := ⟨[(6, (.v (.one (.c (.bool false)))))], []⟩) (ob := True ∧ True) (by kernel_rfl) ⟨trivial, trivial⟩ ?_
                    refine thenQ_normal ?_
                    refine AW.ret ?_
                    refine thenQ_ret ?_
                    replace h := some_eq h
                    subst h
                    exact ⟨.inr rfl, retOK_of [(.one (.c (.bool false)))] (by kernel_rfl) ⟨⟨rfl, trivial⟩, trivial⟩ (of_decide_eq_true (by kernel_rfl))⟩
                  · refine AW.cond_f rfl b68 ?_
                    refine AW.skip ?_
                    refine thenQ_normal ?_
                    refine AW.seq ?_
                    refine AW.seq ?_
                    refine AW.regionA [] [2, 3, 4, 8, 9, 13, 16, 112] [1, 2, 7, 8, 9, 16, 17, 18] (s' := ⟨[(2, (.v (.one (.c (sl 1 (csI .i64) a2))))), (3, (.v (.one (.ptr 1 0)))), (4, (.v (.one (.ptr 2 0)))), (8, (.v (.one (.ptr 9 0)))), (9, (.v (.one (.c (.bool v14.2))))), (13, (.v (.one (.ptr 18 0)))), (16, (.v (.one (.c (.int .i64 v62.1))))), (112, (.v (.one (.c (.bool (v66 != v62.1))))))], [(1, (.box [(.c (sl 4 cs_Bone a0.Bones))])), (2, (.box [(.c (.int .i64 a1.Length)), (.c (.int .i64 a1.Kind)), (.c (sl 1 (csL 5 cs_Key) a1.Tracks)), (.c (sl 4 cs_RootKey a1.Roots))])), (7, (.lst v14.1.Tracks.length 1 (gl (csL 5 cs_Key) v14.1.Tracks))), (8, (.lst v14.1.Roots.length 4 (gl cs_RootKey v14.1.Roots))), (9, (.box [(.c (.int .i64 v14.1.Length)), (.c (.int .i64 v14.1.Kind)), (.lst 7 v14.1.Tracks.length 1 (gl (csL 5 cs_Key) v14.1.Tracks)), (.lst 8 v14.1.Roots.length 4 (gl cs_RootKey v14.1.Roots))])), (16, (.arr true v62.2.1.length 1 (gl (csL 5 cs_Key) v62.2.1))), (17, (.arr true v62.2.2.length 4 (gl cs_RootKey v62.2.2))), (18, (.box [(.c (.int .i64 v22.1.Length)), (.c (.int .i64 v22.1.Kind)), (.arr 16), (.arr 17)]))]⟩) (ob := True ∧ True ∧ True ∧ True) (by kernel_rfl) ⟨trivial, trivial, trivial, trivial⟩ ?_
                    refine thenQ_normal ?_
                    rcases ite2_cases h with ⟨b69, h⟩ | ⟨b69, h⟩
                    · refine AW.cond_t rfl b69 ?_
                      refine AW.seq ?_
                      refine AW.regionA [] [6] [] (s' := ⟨[(6, (.v (.one (.c (.bool false)))))], []⟩) (ob := True ∧ True) (by kernel_rfl) ⟨trivial, trivial⟩ ?_
                      refine thenQ_normal ?_
                      refine AW.ret ?_
                      refine thenQ_ret ?_
                      replace h := some_eq h
                      subst h
                      exact ⟨.inr rfl, retOK_of [(.one (.c (.bool false)))] (by kernel_rfl) ⟨⟨rfl, trivial⟩, trivial⟩ (of_decide_eq_true (by kernel_rfl))⟩
                    · refine AW.cond_f rfl b69 ?_
                      refine AW.skip ?_
                      refine thenQ_normal ?_
                      refine AW.seq ?_
                      obtain ⟨v70, e71, h⟩ := bind_some h
                      obtain ⟨v72, e73, h⟩ := bind_some h
                      obtain ⟨v74, e75, h⟩ := bind_some h
                      obtain ⟨v76, e77, h⟩ := bind_some h
                      refine AW.lateA (by kernel_rfl) 11 9 [.no, .call [.agg (cs_Skeleton a0)] [.agg (cs_Skeleton v70)] [[.lst 23]], .no, .call [.agg (cs_Clip a1)] [.agg (cs_Clip v72)] [[.view, .view, .lst 24, .lst 25]], .no, .call [.one (sl 1 (csI .i64) a2)] [.one (sl 1 (csI .i64) v74)] [[.lst 26]], .call [.agg (cs_Skeleton v70), .agg (cs_Clip v72), .one (sl 1 (csI .i64) v74)] [.agg (cs_Clip v76.1), .one (.bool v76.2)] [[.view, .view, .lst 27, .lst 28], [.view]], .no, .no, .no, .box 29] [8, 9, 13, 16, 18, 19] [7, 8, 9, 16, 17, 18, 27, 28, 29] (s' := ⟨[(8, (.v (.one (.ptr 9 0)))), (9, (.v (.one (.c (.bool v14.2))))), (13, (.v (.one (.ptr 18 0)))), (16, (.v (.one (.c (.int .i64 v62.1))))), (18, (.v (.one (.ptr 29 0)))), (19, (.v (.one (.c (.bool v76.2)))))], [(7, (.lst v14.1.Tracks.length 1 (gl (csL 5 cs_Key) v14.1.Tracks))), (8, (.lst v14.1.Roots.length 4 (gl cs_RootKey v14.1.Roots))), (9, (.box [(.c (.int .i64 v14.1.Length)), (.c (.int .i64 v14.1.Kind)), (.lst 7 v14.1.Tracks.length 1 (gl (csL 5 cs_Key) v14.1.Tracks)), (.lst 8 v14.1.Roots.length 4 (gl cs_RootKey v14.1.Roots))])), (16, (.arr true v62.2.1.length 1 (gl (csL 5 cs_Key) v62.2.1))), (17, (.arr true v62.2.2.length 4 (gl cs_RootKey v62.2.2))), (18, (.box [(.c (.int .i64 v22.1.Length)), (.c (.int .i64 v22.1.Kind)), (.arr 16), (.arr 17)])), (27, (.lst v76.1.Tracks.length 1 (gl (csL 5 cs_Key) v76.1.Tracks))), (28, (.lst v76.1.Roots.length 4 (gl cs_RootKey v76.1.Roots))), (29, (.box [(.c (.int .i64 v76.1.Length)), (.c (.int .i64 v76.1.Kind)), (.lst 27 v76.1.Tracks.length 1 (gl (csL 5 cs_Key) v76.1.Tracks)), (.lst 28 v76.1.Roots.length 4 (gl cs_RootKey v76.1.Roots))]))]⟩) (ob := (True ∧ ((((((sl 4 cs_Bone a0.Bones) : C) = (sl 4 cs_Bone a0.Bones)) ∧ True) ∧ True) ∧ CallOK Try.prog 28 [.agg (cs_Skeleton a0)] [.agg (cs_Skeleton v70)]) ∧ True ∧ ((((((.int .i64 a1.Length) : C) = (.int .i64 a1.Length)) ∧ (((.int .i64 a1.Kind) : C) = (.int .i64 a1.Kind)) ∧ (((sl 1 (csL 5 cs_Key) a1.Tracks) : C) = (sl 1 (csL 5 cs_Key) a1.Tracks)) ∧ (((sl 4 cs_RootKey a1.Roots) : C) = (sl 4 cs_RootKey a1.Roots)) ∧ True) ∧ True) ∧ CallOK Try.prog 13 [.agg (cs_Clip a1)] [.agg (cs_Clip v72)]) ∧ True ∧ (((((sl 1 (csI .i64) a2) : C) = (sl 1 (csI .i64) a2)) ∧ True) ∧ CallOK Try.prog 29 [.one (sl 1 (csI .i64) a2)] [.one (sl 1 (csI .i64) v74)]) ∧ ((((((sl 4 cs_Bone v70.Bones) : C) = (sl 4 cs_Bone v70.Bones)) ∧ True) ∧ ((((.int .i64 v72.Length) : C) = (.int .i64 v72.Length)) ∧ (((.int .i64 v72.Kind) : C) = (.int .i64 v72.Kind)) ∧ (((sl 1 (csL 5 cs_Key) v72.Tracks) : C) = (sl 1 (csL 5 cs_Key) v72.Tracks)) ∧ (((sl 4 cs_RootKey v72.Roots) : C) = (sl 4 cs_RootKey v72.Roots)) ∧ True) ∧ (((sl 1 (csI .i64) v74) : C) = (sl 1 (csI .i64) v74)) ∧ True) ∧ CallOK Try.prog 30 [.agg (cs_Skeleton v70), .agg (cs_Clip v72), .one (sl 1 (csI .i64) v74)] [.agg (cs_Clip v76.1), .one (.bool v76.2)]) ∧ True ∧ True ∧ True ∧ True ∧ True) ∧ (True ∧ True ∧ True) ∧ (True ∧ True ∧ True ∧ True) ∧ ((⟨[(8, (.v (.one (.ptr 9 0)))), (9, (.v (.one (.c (.bool v14.2))))), (13, (.v (.one (.ptr 18 0)))), (16, (.v (.one (.c (.int .i64 v62.1))))), (18, (.v (.one (.ptr 29 0)))), (19, (.v (.one (.c (.bool v76.2)))))], [(7, (.lst v14.1.Tracks.length 1 (gl (csL 5 cs_Key) v14.1.Tracks))), (8, (.lst v14.1.Roots.length 4 (gl cs_RootKey v14.1.Roots))), (9, (.box [(.c (.int .i64 v14.1.Length)), (.c (.int .i64 v14.1.Kind)), (.lst 7 v14.1.Tracks.length 1 (gl (csL 5 cs_Key) v14.1.Tracks)), (.lst 8 v14.1.Roots.length 4 (gl cs_RootKey v14.1.Roots))])), (16, (.arr true v62.2.1.length 1 (gl (csL 5 cs_Key) v62.2.1))), (17, (.arr true v62.2.2.length 4 (gl cs_RootKey v62.2.2))), (18, (.box [(.c (.int .i64 v22.1.Length)), (.c (.int .i64 v22.1.Kind)), (.arr 16), (.arr 17)])), (27, (.lst v76.1.Tracks.length 1 (gl (csL 5 cs_Key) v76.1.Tracks))), (28, (.lst v76.1.Roots.length 4 (gl cs_RootKey v76.1.Roots))), (29, (.box [(.c (.int .i64 v76.1.Length)), (.c (.int .i64 v76.1.Kind)), (.lst 27 v76.1.Tracks.length 1 (gl (csL 5 cs_Key) v76.1.Tracks)), (.lst 28 v76.1.Roots.length 4 (gl cs_RootKey v76.1.Roots))]))]⟩ : St) = ⟨[(8, (.v (.one (.ptr 9 0)))), (9, (.v (.one (.c (.bool v14.2))))), (13, (.v (.one (.ptr 18 0)))), (16, (.v (.one (.c (.int .i64 v62.1))))), (18, (.v (.one (.ptr 29 0)))), (19, (.v (.one (.c (.bool v76.2)))))], [(7, (.lst v14.1.Tracks.length 1 (gl (csL 5 cs_Key) v14.1.Tracks))), (8, (.lst v14.1.Roots.length 4 (gl cs_RootKey v14.1.Roots))), (9, (.box [(.c (.int .i64 v14.1.Length)), (.c (.int .i64 v14.1.Kind)), (.lst 7 v14.1.Tracks.length 1 (gl (csL 5 cs_Key) v14.1.Tracks)), (.lst 8 v14.1.Roots.length 4 (gl cs_RootKey v14.1.Roots))])), (16, (.arr true v62.2.1.length 1 (gl (csL 5 cs_Key) v62.2.1))), (17, (.arr true v62.2.2.length 4 (gl cs_RootKey v62.2.2))), (18, (.box [(.c (.int .i64 v22.1.Length)), (.c (.int .i64 v22.1.Kind)), (.arr 16), (.arr 17)])), (27, (.lst v76.1.Tracks.length 1 (gl (csL 5 cs_Key) v76.1.Tracks))), (28, (.lst v76.1.Roots.length 4 (gl cs_RootKey v76.1.Roots))), (29, (.box [(.c (.int .i64 v76.1.Length)), (.c (.int .i64 v76.1.Kind)), (.lst 27 v76.1.Tracks.length 1 (gl (csL 5 cs_Key) v76.1.Tracks)), (.lst 28 v76.1.Roots.length 4 (gl cs_RootKey v76.1.Roots))]))]⟩)) (by kernel_rfl) ⟨⟨trivial, ⟨⟨⟨rfl, trivial⟩, trivial⟩, ok_laws_toSkeleton K a0 v70 e71⟩, trivial, ⟨⟨⟨rfl, rfl, rfl, rfl, trivial⟩, trivial⟩, ok_laws_toClip K a1 v72 e73⟩, trivial, ⟨⟨rfl, trivial⟩, ok_laws_toInt64S K a2 v74 e75⟩, ⟨⟨⟨rfl, trivial⟩, ⟨rfl, rfl, rfl, rfl, trivial⟩, rfl, trivial⟩, ok_impl_MirrorClip K v70 v72 v74 v76 e77⟩, trivial, trivial, trivial, trivial, trivial⟩, ⟨trivial, trivial, trivial⟩, ⟨trivial, trivial, trivial, trivial⟩, rfl⟩ ?_
                      refine thenQ_normal ?_
                      refine AW.seq ?_
                      refine AW.seq ?_
                      obtain ⟨v78, e79, h⟩ := bind_some h
                      obtain ⟨j81, e82, h⟩ := bind_some h
                      refine AW.join1 (s2 := ⟨[(13, (.v (.one (.ptr 18 0)))), (16, (.v (.one (.c (.int .i64 v62.1))))), (131, (.v (.one (.c (.bool j81)))))], [(16, (.arr true v62.2.1.length 1 (gl (csL 5 cs_Key) v62.2.1))), (17, (.arr true v62.2.2.length 4 (gl cs_RootKey v62.2.2))), (18, (.box [(.c (.int .i64 v22.1.Length)), (.c (.int .i64 v22.1.Kind)), (.arr 16), (.arr 17)]))]⟩) ?_ ?_
                      · rcases ite2_cases e82 with ⟨b80, e82⟩ | ⟨b80, e82⟩
                        · replace e82 := some_eq e82
                          subst e82
                          exact AW.regionA [.no, .no, .call [.agg (cs_Clip v76.1), .agg (cs_Clip v14.1)] [.one (.bool v78)] [[.view]], .no, .dec true] [13, 16, 131] [16, 17, 18] (s' := ⟨[(13, (.v (.one (.ptr 18 0)))), (16, (.v (.one (.c (.int .i64 v62.1))))), (131, (.v (.one (.c (.bool true)))))], [(16, (.arr true v62.2.1.length 1 (gl (csL 5 cs_Key) v62.2.1))), (17, (.arr true v62.2.2.length 4 (gl cs_RootKey v62.2.2))), (18, (.box [(.c (.int .i64 v22.1.Length)), (.c (.int .i64 v22.1.Kind)), (.arr 16), (.arr 17)]))]⟩) (ob := True ∧ True ∧ ((((((.int .i64 v76.1.Length) : C) = (.int .i64 v76.1.Length)) ∧ (((.int .i64 v76.1.Kind) : C) = (.int .i64 v76.1.Kind)) ∧ (((sl 1 (csL 5 cs_Key) v76.1.Tracks) : C) = (sl 1 (csL 5 cs_Key) v76.1.Tracks)) ∧ (((sl 4 cs_RootKey v76.1.Roots) : C) = (sl 4 cs_RootKey v76.1.Roots)) ∧ True) ∧ ((((.int .i64 v14.1.Length) : C) = (.int .i64 v14.1.Length)) ∧ (((.int .i64 v14.1.Kind) : C) = (.int .i64 v14.1.Kind)) ∧ (((sl 1 (csL 5 cs_Key) v14.1.Tracks) : C) = (sl 1 (csL 5 cs_Key) v14.1.Tracks)) ∧ (((sl 4 cs_RootKey v14.1.Roots) : C) = (sl 4 cs_RootKey v14.1.Roots)) ∧ True) ∧ True) ∧ CallOK Try.prog 15 [.agg (cs_Clip v76.1), .agg (cs_Clip v14.1)] [.one (.bool v78)]) ∧ True ∧ (True ∧ (!v78) = true) ∧ True ∧ True ∧ True ∧ True ∧ True) (by kernel_rfl) ⟨trivial, trivial, ⟨⟨⟨rfl, rfl, rfl, rfl, trivial⟩, ⟨rfl, rfl, rfl, rfl, trivial⟩, trivial⟩, ok_laws_eqClip K v76.1 v14.1 v78 e79⟩, trivial, ⟨trivial, b80⟩, trivial, trivial, trivial, trivial, trivial⟩ ⟨rfl, rfl⟩
                        · replace e82 := some_eq e82
                          subst e82
                          exact AW.regionA [.no, .no, .call [.agg (cs_Clip v76.1), .agg (cs_Clip v14.1)] [.one (.bool v78)] [[.view]], .no, .dec false] [13, 16, 131] [16, 17, 18] (s' := ⟨[(13, (.v (.one (.ptr 18 0)))), (16, (.v (.one (.c (.int .i64 v62.1))))), (131, (.v (.one (.c (.bool (!(v76.2 == v14.2)))))))], [(16, (.arr true v62.2.1.length 1 (gl (csL 5 cs_Key) v62.2.1))), (17, (.arr true v62.2.2.length 4 (gl cs_RootKey v62.2.2))), (18, (.box [(.c (.int .i64 v22.1.Length)), (.c (.int .i64 v22.1.Kind)), (.arr 16), (.arr 17)]))]⟩) (ob := True ∧ True ∧ ((((((.int .i64 v76.1.Length) : C) = (.int .i64 v76.1.Length)) ∧ (((.int .i64 v76.1.Kind) : C) = (.int .i64 v76.1.Kind)) ∧ (((sl 1 (csL 5 cs_Key) v76.1.Tracks) : C) = (sl 1 (csL 5 cs_Key) v76.1.Tracks)) ∧ (((sl 4 cs_RootKey v76.1.Roots) : C) = (sl 4 cs_RootKey v76.1.Roots)) ∧ True) ∧ ((((.int .i64 v14.1.Length) : C) = (.int .i64 v14.1.Length)) ∧ (((.int .i64 v14.1.Kind) : C) = (.int .i64 v14.1.Kind)) ∧ (((sl 1 (csL 5 cs_Key) v14.1.Tracks) : C) = (sl 1 (csL 5 cs_Key) v14.1.Tracks)) ∧ (((sl 4 cs_RootKey v14.1.Roots) : C) = (sl 4 cs_RootKey v14.1.Roots)) ∧ True) ∧ True) ∧ CallOK Try.prog 15 [.agg (cs_Clip v76.1), .agg (cs_Clip v14.1)] [.one (.bool v78)]) ∧ True ∧ (True ∧ (!v78) = false) ∧ True ∧ True ∧ True ∧ True ∧ True) (by kernel_rfl) ⟨trivial, trivial, ⟨⟨⟨rfl, rfl, rfl, rfl, trivial⟩, ⟨rfl, rfl, rfl, rfl, trivial⟩, trivial⟩, ok_laws_eqClip K v76.1 v14.1 v78 e79⟩, trivial, ⟨trivial, b80⟩, trivial, trivial, trivial, trivial, trivial⟩ ⟨rfl, rfl⟩
                      refine thenQ_normal ?_
                      rcases ite2_cases h with ⟨b83, h⟩ | ⟨b83, h⟩
                      · refine AW.cond_t rfl b83 ?_
                        refine AW.seq ?_
                        refine AW.regionA [] [6] [] (s' := ⟨[(6, (.v (.one (.c (.bool false)))))], []⟩) (ob := True ∧ True) (by kernel_rfl) ⟨trivial, trivial⟩ ?_
                        refine thenQ_normal ?_
                        refine AW.ret ?_
                        refine thenQ_ret ?_
                        replace h := some_eq h
                        subst h
                        exact ⟨.inr rfl, retOK_of [(.one (.c (.bool false)))] (by kernel_rfl) ⟨⟨rfl, trivial⟩, trivial⟩ (of_decide_eq_true (by kernel_rfl))⟩
                      · refine AW.cond_f rfl b83 ?_
                        refine AW.skip ?_
                        refine thenQ_normal ?_
                        refine AW.seq ?_
                        refine AW.regionA [] [13, 16, 17] [16, 17, 18] (s' := ⟨[(13, (.v (.one (.ptr 18 0)))), (16, (.v (.one (.c (.int .i64 v62.1))))), (17, (.v (.one (.c (.int .i64 (1 : Int))))))], [(16, (.arr true v62.2.1.length 1 (gl (csL 5 cs_Key) v62.2.1))), (17, (.arr true v62.2.2.length 4 (gl cs_RootKey v62.2.2))), (18, (.box [(.c (.int .i64 v22.1.Length)), (.c (.int .i64 v22.1.Kind)), (.arr 16), (.arr 17)]))]⟩) (ob := True ∧ True) (by kernel_rfl) ⟨trivial, trivial⟩ ?_
                        refine thenQ_normal ?_
                        refine AW.seq ?_
                        obtain ⟨v84, e85, h⟩ := bind_some h
                        refine AW.regionA [.no, .no, .call [.agg (cs_Clip (Clip.mk v22.1.Length v22.1.Kind v62.2.1 v62.2.2)), .one (.int .i64 (1 : Int))] [.one (.int .i64 v84)] [[.view]]] [16, 17] [] (s' := ⟨[(16, (.v (.one (.c (.int .i64 v62.1))))), (17, (.v (.one (.c (.int .i64 v84)))))], []⟩) (ob := True ∧ True ∧ ((((((.int .i64 v22.1.Length) : C) = (.int .i64 v22.1.Length)) ∧ (((.int .i64 v22.1.Kind) : C) = (.int .i64 v22.1.Kind)) ∧ (((sl 1 (csL 5 cs_Key) v62.2.1) : C) = (sl 1 (csL 5 cs_Key) v62.2.1)) ∧ (((sl 4 cs_RootKey v62.2.2) : C) = (sl 4 cs_RootKey v62.2.2)) ∧ True) ∧ (((.int .i64 (1 : Int)) : C) = (.int .i64 (1 : Int))) ∧ True) ∧ CallOK Try.prog 17 [.agg (cs_Clip (Clip.mk v22.1.Length v22.1.Kind v62.2.1 v62.2.2)), .one (.int .i64 (1 : Int))] [.one (.int .i64 v84)]) ∧ True ∧ True) (by kernel_rfl) ⟨trivial, trivial, ⟨⟨⟨rfl, rfl, rfl, rfl, trivial⟩, rfl, trivial⟩, ok_laws_heldClip K (Clip.mk v22.1.Length v22.1.Kind v62.2.1 v62.2.2) (1 : Int) v84 e85⟩, trivial, trivial⟩ ?_
                        refine thenQ_normal ?_
                        refine AW.seq ?_
                        refine AW.seq ?_
                        refine AW.regionA [] [16, 17, 136] [] (s' := ⟨[(16, (.v (.one (.c (.int .i64 v62.1))))), (17, (.v (.one (.c (.int .i64 v84))))), (136, (.v (.one (.c (.bool (decide (v84 < (0 : Int))))))))], []⟩) (ob := True ∧ True ∧ True) (by kernel_rfl) ⟨trivial, trivial, trivial⟩ ?_
                        refine thenQ_normal ?_
                        rcases ite2_cases h with ⟨b86, h⟩ | ⟨b86, h⟩
                        · refine AW.cond_t rfl b86 ?_
                          refine AW.seq ?_
                          refine AW.regionA [] [6] [] (s' := ⟨[(6, (.v (.one (.c (.bool false)))))], []⟩) (ob := True ∧ True) (by kernel_rfl) ⟨trivial, trivial⟩ ?_
                          refine thenQ_normal ?_
                          refine AW.ret ?_
                          refine thenQ_ret ?_
                          replace h := some_eq h
                          subst h
                          exact ⟨.inr rfl, retOK_of [(.one (.c (.bool false)))] (by kernel_rfl) ⟨⟨rfl, trivial⟩, trivial⟩ (of_decide_eq_true (by kernel_rfl))⟩
                        · refine AW.cond_f rfl b86 ?_
                          refine AW.skip ?_
                          refine thenQ_normal ?_
                          refine AW.seq ?_
                          refine AW.seq ?_
                          refine AW.regionA [] [139] [] (s' := ⟨[(139, (.v (.one (.c (.bool (v84 != v62.1))))))], []⟩) (ob := True ∧ True ∧ True ∧ True) (by kernel_rfl) ⟨trivial, trivial, trivial, trivial⟩ ?_
                          refine thenQ_normal ?_
                          rcases ite2_cases h with ⟨b87, h⟩ | ⟨b87, h⟩
                          · refine AW.cond_t rfl b87 ?_
                            refine AW.seq ?_
                            refine AW.regionA [] [6] [] (s' := ⟨[(6, (.v (.one (.c (.bool false)))))], []⟩) (ob := True ∧ True) (by kernel_rfl) ⟨trivial, trivial⟩ ?_
                            refine thenQ_normal ?_
                            refine AW.ret ?_
                            refine thenQ_ret ?_
                            replace h := some_eq h
                            subst h
                            exact ⟨.inr rfl, retOK_of [(.one (.c (.bool false)))] (by kernel_rfl) ⟨⟨rfl, trivial⟩, trivial⟩ (of_decide_eq_true (by kernel_rfl))⟩
                          · refine AW.cond_f rfl b87 ?_
                            refine AW.skip ?_
                            refine thenQ_normal ?_
                            refine AW.seq ?_
                            refine AW.regionA [] [6] [] (s' := ⟨[(6, (.v (.one (.c (.bool true)))))], []⟩) (ob := True ∧ True) (by kernel_rfl) ⟨trivial, trivial⟩ ?_
                            refine thenQ_normal ?_
                            refine AW.ret ?_
                            replace h := some_eq h
                            subst h
                            exact ⟨.inr rfl, retOK_of [(.one (.c (.bool true)))] (by kernel_rfl) ⟨⟨rfl, trivial⟩, trivial⟩ (of_decide_eq_true (by kernel_rfl))⟩

end
end Go.Fw
