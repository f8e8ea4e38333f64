/- The law of worlds of poses, in plain Lean. -/
import Derived.Test.YtbfcahbecedaiacFwGERot
import Derived.Test.YtbfcahbecedaiacFwGESkDraw
namespace Go.Fw
open Go

/-! A tree of bones. -/
/-- The turn of a bone in the world. -/
def omF (par u : Nat → Nat) : Nat → Nat → Nat
  | 0, _ => u 0
  | f + 1, j => if j = 0 then u 0 else mulI (omF par u f (par j)) (u j)
def om (par u : Nat → Nat) (j : Nat) : Nat := omF par u j j
/-- The place of a bone in the world. -/
def plF (par u : Nat → Nat) (off : Nat → V3) (r : V3) : Nat → Nat → V3
  | 0, _ => r
  | f + 1, j => if j = 0 then r else addV (plF par u off r f (par j)) (rotI (om par u (par j)) (off j))
def plc (par u : Nat → Nat) (off : Nat → V3) (r : V3) (j : Nat) : V3 := plF par u off r j j
/-- A tree: parents come first. -/
def Tree (n : Nat) (par : Nat → Nat) : Prop := ∀ j, 0 < j → j < n → par j < j
theorem omF_eq {n : Nat} {par u : Nat → Nat} (ht : Tree n par) : ∀ (f j : Nat), j ≤ f → j < n → omF par u f j = omF par u j j := by
  intro f
  induction f using Nat.strongRecOn with
  | _ f ih =>
    intro j h1 h2
    cases f with
    | zero => have : j = 0 := by omega
              subst this; rfl
    | succ f =>
      cases j with
      | zero => rfl
      | succ j =>
        have hp := ht (j + 1) (by omega) h2
        show (if j + 1 = 0 then u 0 else mulI (omF par u f (par (j + 1))) (u (j + 1))) = (if j + 1 = 0 then u 0 else mulI (omF par u j (par (j + 1))) (u (j + 1)))
        rw [if_neg (by omega), if_neg (by omega), ih f (by omega) _ (by omega) (by omega)]
        by_cases e : j < f + 1
        · rw [ih j (by omega) _ (by omega) (by omega)]
        · omega
theorem om_step {n : Nat} {par u : Nat → Nat} (ht : Tree n par) {j : Nat} (h0 : 0 < j) (h : j < n) : om par u j = mulI (om par u (par j)) (u j) := by
  have hp := ht j h0 h
  obtain ⟨i, rfl⟩ : ∃ i, j = i + 1 := ⟨j - 1, by omega⟩
  show (if i + 1 = 0 then u 0 else mulI (omF par u i (par (i + 1))) (u (i + 1))) = _
  rw [if_neg (by omega), omF_eq ht i _ (by omega) (by omega)]; rfl
theorem plF_eq {n : Nat} {par u : Nat → Nat} {off : Nat → V3} {r : V3} (ht : Tree n par) : ∀ (f j : Nat), j ≤ f → j < n → plF par u off r f j = plF par u off r j j := by
  intro f
  induction f using Nat.strongRecOn with
  | _ f ih =>
    intro j h1 h2
    cases f with
    | zero => have : j = 0 := by omega
              subst this; rfl
    | succ f =>
      cases j with
      | zero => rfl
      | succ j =>
        have hp := ht (j + 1) (by omega) h2
        show (if j + 1 = 0 then r else addV (plF par u off r f (par (j + 1))) (rotI (om par u (par (j + 1))) (off (j + 1)))) = (if j + 1 = 0 then r else addV (plF par u off r j (par (j + 1))) (rotI (om par u (par (j + 1))) (off (j + 1))))
        rw [if_neg (by omega), if_neg (by omega), ih f (by omega) _ (by omega) (by omega), ih j (by omega) _ (by omega) (by omega)]
theorem plc_step {n : Nat} {par u : Nat → Nat} {off : Nat → V3} {r : V3} (ht : Tree n par) {j : Nat} (h0 : 0 < j) (h : j < n) : plc par u off r j = addV (plc par u off r (par j)) (rotI (om par u (par j)) (off j)) := by
  have hp := ht j h0 h
  obtain ⟨i, rfl⟩ : ∃ i, j = i + 1 := ⟨j - 1, by omega⟩
  show (if i + 1 = 0 then r else addV (plF par u off r i (par (i + 1))) (rotI (om par u (par (i + 1))) (off (i + 1)))) = _
  rw [if_neg (by omega), plF_eq ht i _ (by omega) (by omega)]; rfl
theorem om_lt {n : Nat} {par u : Nat → Nat} (ht : Tree n par) (hu : ∀ j, j < n → u j < 24) : ∀ j, j < n → om par u j < 24 := by
  intro j
  induction j using Nat.strongRecOn with
  | _ j ih =>
    intro h
    by_cases h0 : j = 0
    · subst h0; exact hu 0 h
    · rw [om_step ht (by omega) h]
      have hp := ht j (by omega) h
      exact (mulI_is (ih _ hp (by omega)) (hu j h)).2.2.2.2.1

/-! The world of a pose. -/
/-- A skeleton and a pose of it, as integers. -/
structure Wh (n : Nat) (s : Skeleton) (p : Pose) (par u : Nat → Nat) (off : Nat → V3) (r : V3) : Prop where
  len : s.Bones.length = n
  n1 : 1 ≤ n
  n12 : n ≤ 12
  tree : Tree n par
  par0 : (s.Bones.getD 0 default).Parent = -1
  pars : ∀ j, 0 < j → j < n → (s.Bones.getD j default).Parent = (par j : Int)
  offs : ∀ j, j < n → Vb 4 (off j) (s.Bones.getD j default).Offset
  tlen : p.Turns.length = n
  u24 : ∀ j, j < n → u j < 24
  turns : ∀ j, j < n → Un (u j) (p.Turns.getD j default)
  root : Vb 4 r p.Root
theorem Wh.sk {n : Nat} {s : Skeleton} {p : Pose} {par u : Nat → Nat} {off : Nat → V3} {r : V3} (h : Wh n s p par u off r) : Sk n s :=
  ⟨h.len, h.n1, h.n12, fun i hi => ⟨fun e => by subst e; exact h.par0, fun e => by
    have h1 := h.pars i e hi
    have h2 := h.tree i e hi
    rw [h1]; omega⟩⟩
theorem isPose_eq {K n : Nat} (hK : 20 < K) {s : Skeleton} {p : Pose} (hs : Sk n s) (hp : p.Turns.length = n) : impl_IsPose K s p = some true := by
  unfold impl_IsPose
  rw [hs.valid hK, bind_of, ite2_true, hp, hs.len, beq_self_eq_true]; rfl
theorem world_loop {K n : Nat} {s : Skeleton} {p : Pose} {par u : Nat → Nat} {off : Nat → V3} {r : V3} (h : Wh n s p par u off r) : ∀ (k i : Nat) (ts : List Turn) (vs : List Vector), i ≤ n → n - i < k → ts.length = n → vs.length = n →
    (∀ j, j < n → (j < i ∨ j = 0) → Un (om par u j) (ts.getD j default)) → (∀ j, j < n → (j < i ∨ j = 0) → Vb (4 + 4 * j) (plc par u off r j) (vs.getD j default)) → (ts.getD 0 default = p.Turns.getD 0 default) → vs.getD 0 default = p.Root → (∀ j, 0 < j → j < i → ts.getD j default = mulF (ts.getD (par j) default) (p.Turns.getD j default)) →
    ∃ ts' vs', impl_Skeleton_world_l1 K s p k (i : Int) ts vs = some (ts', vs') ∧ ts'.length = n ∧ vs'.length = n ∧ (∀ j, j < n → Un (om par u j) (ts'.getD j default)) ∧ (∀ j, j < n → Vb (4 + 4 * j) (plc par u off r j) (vs'.getD j default)) ∧ ts'.getD 0 default = p.Turns.getD 0 default ∧ vs'.getD 0 default = p.Root := by
  intro k
  induction k with
  | zero => intro i ts vs _ h; omega
  | succ k ih =>
    intro i ts vs h1 h2 h3 h4 h5 h6 h7 h8 h9
    have e1 := h.len
    have n12 := h.n12
    have e2 := h.tlen
    rw [impl_Skeleton_world_l1, ite2_dec]
    by_cases hi : i < n
    · rw [if_pos (by omega), chk_pos (by omega), wrap_nat1 (by omega), Int.toNat_natCast, ite2_dec]
      by_cases h0 : 0 < i
      · have hp := h.tree i h0 hi
        have hpe := h.pars i h0 hi
        have ho := om_step (u := u) h.tree h0 hi
        have hl := om_lt h.tree h.u24 (par i) (by omega)
        have hU := h5 (par i) (by omega) (.inl (by omega))
        have hV := h6 (par i) (by omega) (.inl (by omega))
        unfold impl_MulTurns impl_AddVectors
        simp only [hpe, Int.toNat_natCast, bind_of, List.length_set, rot_eq]
        rw [if_pos (by omega), chk_pos (by omega), chk_pos (by omega), chk_pos (by omega), chk_pos (by omega), chk_pos (by omega), chk_pos (by omega)]
        have e3 : (ts.set i (mulF (ts.getD (par i) default) (p.Turns.getD i default))).getD (par i) default = ts.getD (par i) default := set_ne (by omega)
        have hmul : Un (om par u i) (mulF (ts.getD (par i) default) (p.Turns.getD i default)) := by
          rw [ho]; exact Un.mul hl (h.u24 i hi) hU (h.turns i hi)
        have hrot := (hU.rot hl (h.offs i hi) (by decide))
        have hadd := hV.add hrot (by omega)
        rw [← plc_step (r := r) (off := off) (u := u) h.tree h0 hi] at hadd
        show ∃ ts' vs', impl_Skeleton_world_l1 K s p k ((i + 1 : Nat) : Int) (ts.set i (mulF (ts.getD (par i) default) (p.Turns.getD i default))) (vs.set i (Vector.mk ((vs.getD (par i) default).X.add (rotF ((ts.set i (mulF (ts.getD (par i) default) (p.Turns.getD i default))).getD (par i) default) (s.Bones.getD i default).Offset).X) ((vs.getD (par i) default).Y.add (rotF ((ts.set i (mulF (ts.getD (par i) default) (p.Turns.getD i default))).getD (par i) default) (s.Bones.getD i default).Offset).Y) ((vs.getD (par i) default).Z.add (rotF ((ts.set i (mulF (ts.getD (par i) default) (p.Turns.getD i default))).getD (par i) default) (s.Bones.getD i default).Offset).Z))) = some (ts', vs') ∧ _
        rw [e3]
        refine ih (i + 1) _ _ (by omega) (by omega) (by simp; exact h3) (by simp; exact h4) (fun j hj hj2 => ?_) (fun j hj hj2 => ?_) ?_ ?_ (fun j hj hj2 => ?_)
        · by_cases e : i = j
          · subst e; rw [set_getD (by omega)]; exact hmul
          · rw [set_ne e]; exact h5 j hj (by omega)
        · by_cases e : i = j
          · subst e; rw [set_getD (by omega)]; exact hadd.mono (by omega)
          · rw [set_ne e]; exact h6 j hj (by omega)
        · rw [set_ne (by omega)]; exact h7
        · rw [set_ne (by omega)]; exact h8
        · have hpj := h.tree j hj (by omega)
          by_cases e : i = j
          · subst e; rw [set_getD (by omega), set_ne (by omega)]
          · rw [set_ne e, set_ne (by omega)]; exact h9 j hj (by omega)
      · rw [if_neg (by omega)]
        exact ih (i + 1) ts vs (by omega) (by omega) h3 h4 (fun j hj hj2 => h5 j hj (by omega)) (fun j hj hj2 => h6 j hj (by omega)) h7 h8 (fun j hj hj2 => by omega)
    · rw [if_neg (by omega)]
      exact ⟨ts, vs, rfl, h3, h4, fun j hj => h5 j hj (by omega), fun j hj => h6 j hj (by omega), h7, h8⟩
/-- What a world is like. -/
structure Wd (n : Nat) (p : Pose) (par u : Nat → Nat) (off : Nat → V3) (r : V3) (ts : List Turn) (vs : List Vector) : Prop where
  tl : ts.length = n
  vl : vs.length = n
  tu : ∀ j, j < n → Un (om par u j) (ts.getD j default)
  vb : ∀ j, j < n → Vb (4 + 4 * j) (plc par u off r j) (vs.getD j default)
  t0 : ts.getD 0 default = p.Turns.getD 0 default
  v0 : vs.getD 0 default = p.Root
theorem world_eq {K n : Nat} (hK : 20 < K) {s : Skeleton} {p : Pose} {par u : Nat → Nat} {off : Nat → V3} {r : V3} (h : Wh n s p par u off r) :
    ∃ ts vs, impl_WorldOf K s p = some (ts, vs, true) ∧ Wd n p par u off r ts vs := by
  have e1 := h.len
  have e2 := h.tlen
  have n1 := h.n1
  have n12 := h.n12
  obtain ⟨ts, vs, g1, g2, g3, g4, g5, g6, g7⟩ := world_loop (K := K) h K 0 ((List.replicate n (default : Turn)).set 0 (p.Turns.getD 0 default)) ((List.replicate n (default : Vector)).set 0 p.Root) (by omega) (by omega) (by simp) (by simp)
    (fun j hj hj2 => by
      have : j = 0 := by omega
      subst this
      rw [set_getD (by simp; omega)]
      exact h.turns 0 hj)
    (fun j hj hj2 => by
      have : j = 0 := by omega
      subst this
      rw [set_getD (by simp; omega)]
      exact h.root)
    (set_getD (by simp; omega)) (set_getD (by simp; omega)) (fun j h1 h2 => by omega)
  refine ⟨ts, vs, ?_, g2, g3, g4, g5, g6, g7⟩
  unfold impl_WorldOf impl_Skeleton_world
  rw [isPose_eq hK h.sk h.tlen, bind_of, Bool.not_true, ite2_false, e1]
  simp only [Int.toNat_natCast, show ((0 : Int).toNat) = 0 from rfl, List.length_replicate]
  rw [show ((0 : Nat) : Int) = 0 from rfl] at g1
  rw [chk_pos (by omega), chk_pos (by omega), chk_pos (by omega), chk_pos (by omega), chk_pos (by omega), g1]; rfl
theorem clone_eq {K : Nat} (a : List Turn) (h : a.length ≤ 12) : slices_Clone_impl_Turn_impl_Turn K a = some a := by
  unfold slices_Clone_impl_Turn_impl_Turn
  rw [chk_pos (by simp; omega)]; rfl
theorem local_loop {K n : Nat} {s : Skeleton} {p : Pose} {par u : Nat → Nat} {off : Nat → V3} {r : V3} (h : Wh n s p par u off r) {ts : List Turn} {vs : List Vector} (w : Wd n p par u off r ts vs) (rt : Vector) : ∀ (k i : Nat) (ys : List Turn), i ≤ n → n - i < k → ys.length = n → (∀ j, j < n → (j < i ∨ j = 0) → Un (u j) (ys.getD j default)) →
    ∃ zs, impl_LocalOf_l1 K s rt ts k (i : Int) ys = some (Pose.mk rt zs, true) ∧ zs.length = n ∧ ∀ j, j < n → Un (u j) (zs.getD j default) := by
  intro k
  induction k with
  | zero => intro i ys _ h; omega
  | succ k ih =>
    intro i ys h1 h2 h3 h4
    have e1 := h.len
    have n12 := h.n12
    have e2 := w.tl
    rw [impl_LocalOf_l1, ite2_dec]
    by_cases hi : i < n
    · rw [if_pos (by omega), chk_pos (by omega), wrap_nat1 (by omega), Int.toNat_natCast, ite2_dec]
      by_cases h0 : 0 < i
      · have hp := h.tree i h0 hi
        have hpe := h.pars i h0 hi
        have ho := om_step (u := u) h.tree h0 hi
        have hl := om_lt h.tree h.u24 (par i) (by omega)
        unfold impl_InverseOf impl_MulTurns
        simp only [hpe, Int.toNat_natCast, bind_of]
        rw [if_pos (by omega), chk_pos (by omega), chk_pos (by omega), chk_pos (by omega)]
        have hm : Un (u i) (mulF (invF (ts.getD (par i) default)) (ts.getD i default)) := by
          have := Un.mul (invI_is hl).2.2.2.2 (om_lt h.tree h.u24 i hi) ((w.tu (par i) (by omega)).inv hl) (w.tu i hi)
          rw [ho] at this
          rwa [(mulI_is hl (h.u24 i hi)).2.2.2.2.2.2] at this
        refine ih (i + 1) _ (by omega) (by omega) (by simp; exact h3) (fun j hj hj2 => ?_)
        by_cases e : i = j
        · subst e; rw [set_getD (by omega)]; exact hm
        · rw [set_ne e]; exact h4 j hj (by omega)
      · rw [if_neg (by omega)]
        exact ih (i + 1) ys (by omega) (by omega) h3 (fun j hj hj2 => h4 j hj (by omega))
    · rw [if_neg (by omega)]
      exact ⟨ys, rfl, h3, fun j hj => h4 j hj (by omega)⟩
theorem local_eq {K n : Nat} (hK : 20 < K) {s : Skeleton} {p : Pose} {par u : Nat → Nat} {off : Nat → V3} {r : V3} (h : Wh n s p par u off r) {ts : List Turn} {vs : List Vector} (w : Wd n p par u off r ts vs) (rt : Vector) :
    ∃ zs, impl_LocalOf K s rt ts = some (Pose.mk rt zs, true) ∧ zs.length = n ∧ ∀ j, j < n → Un (u j) (zs.getD j default) := by
  have n12 := h.n12
  unfold impl_LocalOf
  rw [h.sk.valid hK, bind_of, Bool.not_true, ite2_false, w.tl, h.len, bne_self_eq_false, bind_of, ite2_false, clone_eq _ (by rw [w.tl]; omega), bind_of]
  exact local_loop h w rt K 0 ts (by omega) (by omega) w.tl (fun j hj hj2 => by
    have : j = 0 := by omega
    subst this
    rw [w.t0]; exact h.turns 0 hj)

/-! Mirrors. -/
def mirI (i : Nat) : Nat := ((List.range 24).find? fun k => isH k (HW i) (HX i) (-HY i) (-HZ i)).getD 0
theorem mir_all : ∀ i : Fin 24, (isH (mirI i.val) (HW i.val) (HX i.val) (-HY i.val) (-HZ i.val) && decide (mirI i.val < 24)) = true := by decide +kernel
theorem mirI_is {i : Nat} (hi : i < 24) : HW (mirI i) = HW i ∧ HX (mirI i) = HX i ∧ HY (mirI i) = -HY i ∧ HZ (mirI i) = -HZ i ∧ mirI i < 24 := by
  have := mir_all ⟨i, hi⟩
  unfold isH at this
  simp only [Bool.and_eq_true, beq_iff_eq, decide_eq_true_eq] at this
  exact ⟨this.1.1.1.1, this.1.1.1.2, this.1.1.2, this.1.2, this.2⟩
def mirF (t : Turn) : Turn := Turn.mk t.W t.X t.Y.neg t.Z.neg
theorem Un.mir {i : Nat} {t : Turn} (hi : i < 24) (ht : Un i t) : Un (mirI i) (mirF t) := by
  obtain ⟨e1, e2, e3, e4, _⟩ := mirI_is hi
  refine ⟨?_, ?_, ?_, ?_⟩
  · rw [e1]; exact ht.w
  · rw [e2]; exact ht.x
  · rw [e3]; exact ht.y.neg
  · rw [e4]; exact ht.z.neg
theorem mirmul_all : ∀ i : Fin 24, ∀ j : Fin 24, mulI (mirI i.val) (mirI j.val) = mirI (mulI i.val j.val) := by decide +kernel
theorem mirM_all : ∀ i : Fin 24, M11 (mirI i.val) = M11 i.val ∧ M12 (mirI i.val) = -M12 i.val ∧ M13 (mirI i.val) = -M13 i.val ∧ M21 (mirI i.val) = -M21 i.val ∧ M22 (mirI i.val) = M22 i.val ∧ M23 (mirI i.val) = M23 i.val ∧ M31 (mirI i.val) = -M31 i.val ∧ M32 (mirI i.val) = M32 i.val ∧ M33 (mirI i.val) = M33 i.val := by decide +kernel
theorem rot_mir {k : Nat} (hk : k < 24) (q : V3) : rotI (mirI k) (mirV q) = mirV (rotI k q) := by
  obtain ⟨m1, m2, m3, m4, m5, m6, m7, m8, m9⟩ := mirM_all ⟨k, hk⟩
  unfold rotI mirV
  simp only at m1 m2 m3 m4 m5 m6 m7 m8 m9
  simp only [m1, m2, m3, m4, m5, m6, m7, m8, m9]
  refine Prod.ext ?_ (Prod.ext ?_ ?_)
  · show M11 k * -q.1 + -M12 k * q.2.1 + -M13 k * q.2.2 = -(M11 k * q.1 + M12 k * q.2.1 + M13 k * q.2.2)
    rw [Int.mul_neg, Int.neg_mul, Int.neg_mul]; omega
  · show -M21 k * -q.1 + M22 k * q.2.1 + M23 k * q.2.2 = M21 k * q.1 + M22 k * q.2.1 + M23 k * q.2.2
    rw [Int.neg_mul_neg]
  · show -M31 k * -q.1 + M32 k * q.2.1 + M33 k * q.2.2 = M31 k * q.1 + M32 k * q.2.1 + M33 k * q.2.2
    rw [Int.neg_mul_neg]
theorem om_mir {n : Nat} {par u : Nat → Nat} (ht : Tree n par) (hu : ∀ j, j < n → u j < 24) : ∀ j, j < n → om par (fun i => mirI (u i)) j = mirI (om par u j) := by
  intro j
  induction j using Nat.strongRecOn with
  | _ j ih =>
    intro h
    by_cases h0 : j = 0
    · subst h0; rfl
    · have hp := ht j (by omega) h
      rw [om_step ht (by omega) h, om_step ht (by omega) h, ih _ hp (by omega)]
      exact mirmul_all ⟨_, om_lt ht hu _ (by omega)⟩ ⟨_, hu j h⟩
theorem mirV_add (a b : V3) : addV (mirV a) (mirV b) = mirV (addV a b) := by
  unfold addV mirV
  refine Prod.ext ?_ rfl
  show -a.1 + -b.1 = -(a.1 + b.1)
  omega
theorem plc_mir {n : Nat} {par u : Nat → Nat} {off : Nat → V3} {r : V3} (ht : Tree n par) (hu : ∀ j, j < n → u j < 24) : ∀ j, j < n → plc par (fun i => mirI (u i)) (fun i => mirV (off i)) (mirV r) j = mirV (plc par u off r j) := by
  intro j
  induction j using Nat.strongRecOn with
  | _ j ih =>
    intro h
    by_cases h0 : j = 0
    · subst h0; rfl
    · have hp := ht j (by omega) h
      rw [plc_step ht (by omega) h, plc_step ht (by omega) h, ih _ hp (by omega), om_mir ht hu _ (by omega), rot_mir (om_lt ht hu _ (by omega)), mirV_add]
/-- Each bone is its own partner. -/
def Own (n : Nat) (l : List Int) : Prop := l.length = n ∧ ∀ j, j < n → l.getD j default = (j : Int)
theorem pairing_eq {K n : Nat} (hK : 20 < K) {s : Skeleton} (hs : Sk n s) {l : List Int} (hl : Own n l) : impl_IsPairing K s l = some true := by
  have e1 := hs.len
  have n12 := hs.n12
  obtain ⟨l1, l2⟩ := hl
  have idx : ∀ (k i : Nat), i ≤ n → n - i < k → slices_IndexFunc_int64_int64_l1 K l (s.Bones.length : Int) k (i : Int) = some (-1) := by
    intro k
    induction k with
    | zero => intro i _ h; omega
    | succ k ih =>
      intro i h1 h2
      rw [slices_IndexFunc_int64_int64_l1, ite2_dec]
      by_cases hi : i < n
      · unfold impl_IsPairing_1
        rw [if_pos (by omega), chk_pos (by omega), Int.toNat_natCast, l2 i hi, wrap_nat1 (by omega), ite2_dec, if_neg (by omega), bind_of, decide_eq_false (by omega), bind_of, ite2_false]
        exact ih (i + 1) (by omega) (by omega)
      · rw [if_neg (by omega)]
  have loop : ∀ (k i : Nat), i ≤ n → n - i < k → impl_IsPairing_l1 K s l k (i : Int) = some true := by
    intro k
    induction k with
    | zero => intro i _ h; omega
    | succ k ih =>
      intro i h1 h2
      rw [impl_IsPairing_l1, ite2_dec]
      by_cases hi : i < n
      · have hpar := hs.par i hi
        rw [if_pos (by omega), chk_pos (by omega), Int.toNat_natCast, l2 i hi, wrap_nat1 (by omega), chk_pos (by omega), Int.toNat_natCast, l2 i hi, bne_self_eq_false, ite2_false, ite2_dec]
        by_cases h0 : 0 < i
        · have hp := hpar.2 h0
          obtain ⟨q, hq⟩ : ∃ q : Nat, (s.Bones.getD i default).Parent = (q : Int) := ⟨(s.Bones.getD i default).Parent.toNat, by omega⟩
          rw [if_pos (by omega), chk_pos (by omega), chk_pos (by omega), chk_pos (by omega), hq, Int.toNat_natCast, l2 q (by omega), bne_self_eq_false, bind_of, ite2_false]
          exact ih (i + 1) (by omega) (by omega)
        · rw [if_neg (by omega), bind_of, ite2_false]
          exact ih (i + 1) (by omega) (by omega)
      · rw [if_neg (by omega)]
  unfold impl_IsPairing slices_ContainsFunc_int64_int64 slices_IndexFunc_int64_int64
  have i0 := idx K 0 (by omega) (by omega)
  have p0 := loop K 0 (by omega) (by omega)
  rw [show ((0 : Nat) : Int) = 0 from rfl] at i0 p0
  rw [hs.valid hK, bind_of, Bool.not_true, ite2_false, l1, ← e1, bne_self_eq_false, bind_of, ite2_false, i0, bind_of, bind_of, decide_eq_false (by omega), ite2_false]
  exact p0
theorem mpose_loop {K n : Nat} (p : Pose) (l : List Int) (v : Vector) (hl : Own n l) (hp : p.Turns.length = n) (hn : n ≤ 12) : ∀ (k i : Nat) (ts : List Turn), i ≤ n → n - i < k → ts.length = n → (∀ j, j < i → ts.getD j default = mirF (p.Turns.getD j default)) →
    ∃ r, impl_MirrorPose_l1 K p l v k (i : Int) ts = some (Pose.mk v r, true) ∧ r.length = n ∧ ∀ j, j < n → r.getD j default = mirF (p.Turns.getD j default) := by
  obtain ⟨l1, l2⟩ := hl
  intro k
  induction k with
  | zero => intro i ts _ h; omega
  | succ k ih =>
    intro i ts h1 h2 h3 h4
    rw [impl_MirrorPose_l1, ite2_dec]
    by_cases hi : i < n
    · unfold impl_Turn_mirrored
      rw [if_pos (by omega), chk_pos (by omega), Int.toNat_natCast, l2 i hi, chk_pos (by omega), Int.toNat_natCast, bind_of, chk_pos (by omega), wrap_nat1 (by omega)]
      refine ih (i + 1) _ (by omega) (by omega) (by simp; exact h3) (fun j hj => ?_)
      by_cases e : i = j
      · subst e; rw [set_getD (by omega)]; rfl
      · rw [set_ne e]; exact h4 j (by omega)
    · rw [if_neg (by omega)]
      exact ⟨ts, rfl, h3, fun j hj => h4 j (by omega)⟩
theorem mpose_eq {K n : Nat} (hK : 20 < K) {s : Skeleton} (hs : Sk n s) {p : Pose} (hp : p.Turns.length = n) {l : List Int} (hl : Own n l) :
    ∃ r, impl_MirrorPose K s p l = some (Pose.mk (Vector.mk p.Root.X.neg p.Root.Y p.Root.Z) r, true) ∧ r.length = n ∧ ∀ j, j < n → r.getD j default = mirF (p.Turns.getD j default) := by
  have n12 := hs.n12
  unfold impl_MirrorPose impl_Vector_mirrored
  rw [isPose_eq hK hs hp, bind_of, Bool.not_true, ite2_false, pairing_eq hK hs hl, bind_of, bind_of, Bool.not_true, ite2_false, bind_of, hl.1, chk_pos (by omega), Int.toNat_natCast]
  exact mpose_loop p l _ hl hp n12 K 0 _ (by omega) (by omega) (by simp) (fun j hj => by omega)
theorem msk_loop {K n : Nat} (s : Skeleton) (l : List Int) (hl : Own n l) (hs : s.Bones.length = n) (hn : n ≤ 12) : ∀ (k i : Nat) (bs : List Bone), i ≤ n → n - i < k → bs.length = n → (∀ j, j < i → bs.getD j default = Bone.mk (s.Bones.getD j default).Parent (Vector.mk (s.Bones.getD j default).Offset.X.neg (s.Bones.getD j default).Offset.Y (s.Bones.getD j default).Offset.Z)) → (∀ j, i ≤ j → bs.getD j default = s.Bones.getD j default) →
    ∃ r, impl_MirrorSkeleton_l1 K s l k (i : Int) bs = some (Skeleton.mk r, true) ∧ r.length = n ∧ ∀ j, j < n → r.getD j default = Bone.mk (s.Bones.getD j default).Parent (Vector.mk (s.Bones.getD j default).Offset.X.neg (s.Bones.getD j default).Offset.Y (s.Bones.getD j default).Offset.Z) := by
  obtain ⟨l1, l2⟩ := hl
  intro k
  induction k with
  | zero => intro i bs _ h; omega
  | succ k ih =>
    intro i bs h1 h2 h3 h4 h5
    rw [impl_MirrorSkeleton_l1, ite2_dec]
    by_cases hi : i < n
    · unfold impl_Vector_mirrored
      rw [if_pos (by omega), chk_pos (by omega), Int.toNat_natCast, l2 i hi, chk_pos (by omega), Int.toNat_natCast, bind_of, chk_pos (by omega), bind_of, wrap_nat1 (by omega), h5 i (Nat.le_refl _)]
      refine ih (i + 1) _ (by omega) (by omega) (by simp; exact h3) (fun j hj => ?_) (fun j hj => by rw [set_ne (by omega)]; exact h5 j (by omega))
      by_cases e : i = j
      · subst e; rw [set_getD (by omega)]
      · rw [set_ne e]; exact h4 j (by omega)
    · rw [if_neg (by omega)]
      exact ⟨bs, rfl, h3, fun j hj => h4 j (by omega)⟩
theorem msk_eq {K n : Nat} (hK : 20 < K) {s : Skeleton} (hs : Sk n s) {l : List Int} (hl : Own n l) :
    ∃ r, impl_MirrorSkeleton K s l = some (Skeleton.mk r, true) ∧ r.length = n ∧ ∀ j, j < n → r.getD j default = Bone.mk (s.Bones.getD j default).Parent (Vector.mk (s.Bones.getD j default).Offset.X.neg (s.Bones.getD j default).Offset.Y (s.Bones.getD j default).Offset.Z) := by
  have n12 := hs.n12
  have e1 := hs.len
  unfold impl_MirrorSkeleton slices_Clone_impl_Bone_impl_Bone
  rw [pairing_eq hK hs hl, bind_of, Bool.not_true, ite2_false, chk_pos (by simp; omega), bind_of, List.nil_append]
  exact msk_loop s l hl hs.len n12 K 0 s.Bones (by omega) (by omega) hs.len (fun j hj => by omega) (fun j _ => rfl)
theorem Wh.mir {n : Nat} {s : Skeleton} {p : Pose} {par u : Nat → Nat} {off : Nat → V3} {r : V3} (h : Wh n s p par u off r) {bs : List Bone} {ts : List Turn} (b1 : bs.length = n) (b2 : ∀ j, j < n → bs.getD j default = Bone.mk (s.Bones.getD j default).Parent (Vector.mk (s.Bones.getD j default).Offset.X.neg (s.Bones.getD j default).Offset.Y (s.Bones.getD j default).Offset.Z)) (t1 : ts.length = n) (t2 : ∀ j, j < n → ts.getD j default = mirF (p.Turns.getD j default)) :
    Wh n (Skeleton.mk bs) (Pose.mk (Vector.mk p.Root.X.neg p.Root.Y p.Root.Z) ts) par (fun i => mirI (u i)) (fun i => mirV (off i)) (mirV r) := by
  have n1 := h.n1
  refine ⟨b1, h.n1, h.n12, h.tree, ?_, fun j h0 hj => ?_, fun j hj => ?_, t1, fun j hj => (mirI_is (h.u24 j hj)).2.2.2.2, fun j hj => ?_, h.root.mir⟩
  · show (bs.getD 0 default).Parent = -1
    rw [b2 0 (by omega)]; exact h.par0
  · show (bs.getD j default).Parent = _
    rw [b2 j hj]; exact h.pars j h0 hj
  · show Vb 4 _ (bs.getD j default).Offset
    rw [b2 j hj]; exact (h.offs j hj).mir
  · show Un _ (ts.getD j default)
    rw [t2 j hj]; exact (h.turns j hj).mir (h.u24 j hj)

/-! The box. -/
theorem lesser_key {K : Nat} {a b : F32} (ha : isN a = false) (hb : isN b = false) : ∃ c, impl_lesser K a b = some c ∧ isN c = false ∧ key c ≤ key a ∧ key c ≤ key b := by
  unfold impl_lesser
  cases h : b.lt' a
  · refine ⟨a, rfl, ha, Int.le_refl _, ?_⟩
    apply Classical.byContradiction
    intro hn
    have := lt_key.2 ⟨hb, ha, by omega⟩
    rw [h] at this; cases this
  · have := lt_key.1 h
    exact ⟨b, rfl, hb, by omega, Int.le_refl _⟩
theorem greater_key {K : Nat} {a b : F32} (ha : isN a = false) (hb : isN b = false) : ∃ c, impl_greater K a b = some c ∧ isN c = false ∧ key a ≤ key c ∧ key b ≤ key c := by
  unfold impl_greater
  cases h : b.gt a
  · refine ⟨a, rfl, ha, Int.le_refl _, ?_⟩
    apply Classical.byContradiction
    intro hn
    have := gt_key.2 ⟨hb, ha, by omega⟩
    rw [h] at this; cases this
  · have := gt_key.1 h
    exact ⟨b, rfl, hb, by omega, Int.le_refl _⟩
/-- Numbers. -/
def Nv (v : Vector) : Prop := isN v.X = false ∧ isN v.Y = false ∧ isN v.Z = false
/-- A vector is not below, not above. -/
def Ge (lo v : Vector) : Prop := key lo.X ≤ key v.X ∧ key lo.Y ≤ key v.Y ∧ key lo.Z ≤ key v.Z
theorem box_loop {K n : Nat} (vs : List Vector) (hl : vs.length = n) (hn : n ≤ 12) (hv : ∀ j, j < n → Nv (vs.getD j default)) : ∀ (k i : Nat) (lx ly lz hx hy hz : F32), i + 1 ≤ n → n - i < k + 1 → Nv (Vector.mk lx ly lz) → Nv (Vector.mk hx hy hz) → (∀ j, j < i + 1 → Ge (Vector.mk lx ly lz) (vs.getD j default) ∧ Ge (vs.getD j default) (Vector.mk hx hy hz)) →
    ∃ lo hi, impl_BoxOfPlaces_l1 K vs k (i : Int) lx ly lz hx hy hz = some (lo, hi, true) ∧ ∀ j, j < n → Ge lo (vs.getD j default) ∧ Ge (vs.getD j default) hi := by
  intro k
  induction k with
  | zero => intro i _ _ _ _ _ _ _ h; omega
  | succ k ih =>
    intro i lx ly lz hx hy hz h1 h2 nl nh hg
    have hlen : ((vs.drop (1 : Int).toNat).take ((vs.length : Int).toNat - (1 : Int).toNat)).length = n - 1 := by
      rw [List.length_take, List.length_drop]; simp; omega
    rw [impl_BoxOfPlaces_l1, hlen, ite2_dec]
    by_cases hi : i + 1 < n
    · have hg1 : ((vs.drop (1 : Int).toNat).take (vs.length - (1 : Int).toNat)).getD i default = vs.getD (i + 1) default := by
        rw [List.getD_eq_getElem?_getD, List.getElem?_take, if_pos (by simp; omega), List.getElem?_drop, List.getD_eq_getElem?_getD]
        congr 2
        show 1 + i = i + 1
        omega
      obtain ⟨n1, n2, n3⟩ := hv (i + 1) hi
      obtain ⟨a1, b1, c1, d1, f1⟩ := lesser_key (K := K) nl.1 n1
      obtain ⟨a2, b2, c2, d2, f2⟩ := lesser_key (K := K) nl.2.1 n2
      obtain ⟨a3, b3, c3, d3, f3⟩ := lesser_key (K := K) nl.2.2 n3
      obtain ⟨a4, b4, c4, d4, f4⟩ := greater_key (K := K) nh.1 n1
      obtain ⟨a5, b5, c5, d5, f5⟩ := greater_key (K := K) nh.2.1 n2
      obtain ⟨a6, b6, c6, d6, f6⟩ := greater_key (K := K) nh.2.2 n3
      rw [if_pos (by omega), chk_pos (by omega), Int.toNat_natCast, Int.toNat_natCast, hg1, b1, bind_of, b2, bind_of, b3, bind_of, b4, bind_of, b5, bind_of, b6, bind_of, wrap_nat1 (by omega)]
      refine ih (i + 1) a1 a2 a3 a4 a5 a6 (by omega) (by omega) ⟨c1, c2, c3⟩ ⟨c4, c5, c6⟩ (fun j hj => ?_)
      by_cases e : j = i + 1
      · subst e; exact ⟨⟨f1, f2, f3⟩, ⟨f4, f5, f6⟩⟩
      · obtain ⟨⟨g1, g2, g3⟩, ⟨g4, g5, g6⟩⟩ := hg j (by omega)
        exact ⟨⟨Int.le_trans d1 g1, Int.le_trans d2 g2, Int.le_trans d3 g3⟩, ⟨Int.le_trans g4 d4, Int.le_trans g5 d5, Int.le_trans g6 d6⟩⟩
    · rw [if_neg (by omega)]
      exact ⟨_, _, rfl, fun j hj => hg j (by omega)⟩
theorem box_eq {K n : Nat} (hK : 20 < K) (vs : List Vector) (hl : vs.length = n) (h1 : 1 ≤ n) (hn : n ≤ 12) (hv : ∀ j, j < n → Nv (vs.getD j default)) : ∃ lo hi, impl_BoxOfPlaces K vs = some (lo, hi, true) ∧ ∀ j, j < n → Ge lo (vs.getD j default) ∧ Ge (vs.getD j default) hi := by
  unfold impl_BoxOfPlaces
  rw [ite2_dec, if_neg (by omega), bind_of, decide_eq_false (by omega), ite2_false, chk_pos (by omega), chk_pos (by omega), show ((0 : Int).toNat) = 0 from rfl]
  exact box_loop vs hl hn hv K 0 _ _ _ _ _ _ (by omega) (by omega) (hv 0 (by omega)) (hv 0 (by omega)) (fun j hj => by
    have : j = 0 := by omega
    subst this
    exact ⟨⟨Int.le_refl _, Int.le_refl _, Int.le_refl _⟩, ⟨Int.le_refl _, Int.le_refl _, Int.le_refl _⟩⟩)
theorem not_lt {a b : F32} (h : key b ≤ key a) : a.lt' b = false := by
  cases hh : a.lt' b
  · rfl
  · have := lt_key.1 hh; omega
theorem not_gt {a b : F32} (h : key a ≤ key b) : a.gt b = false := by
  cases hh : a.gt b
  · rfl
  · have := gt_key.1 hh; omega

/-! The law. -/
theorem l3_eq {K n : Nat} {s : Skeleton} (hs : s.Bones.length = n) (hn : n ≤ 12) (v8 : List Turn × List Vector × Bool) (hl : v8.2.1.length = n) (v71 : Vector × Vector × Bool) (hg : ∀ j, j < n → Ge v71.1 (v8.2.1.getD j default) ∧ Ge (v8.2.1.getD j default) v71.2.1) : ∀ (k i : Nat), i ≤ n → n - i < k → laws_FnWorlds_l3 K s v8 v71 k (i : Int) = some true := by
  intro k
  induction k with
  | zero => intro i _ h; omega
  | succ k ih =>
    intro i h1 h2
    rw [laws_FnWorlds_l3, ite2_dec]
    by_cases hi : i < n
    · obtain ⟨⟨g1, g2, g3⟩, ⟨g4, g5, g6⟩⟩ := hg i hi
      rw [if_pos (by omega), chk_pos (by omega), Int.toNat_natCast, wrap_nat1 (by omega), not_lt g1, not_lt g2, not_lt g3, not_gt g4, not_gt g5, not_gt g6]
      exact ih (i + 1) (by omega) (by omega)
    · rw [if_neg (by omega)]
theorem l2_eq {K n : Nat} {s : Skeleton} (hs : s.Bones.length = n) (hn : n ≤ 12) (v8 v52 : List Turn × List Vector × Bool) (hl : v8.2.1.length = n) (hl2 : v52.2.1.length = n) (hv : ∀ j, j < n → laws_b10VEqual K (v52.2.1.getD j default) (Vector.mk (v8.2.1.getD j default).X.neg (v8.2.1.getD j default).Y (v8.2.1.getD j default).Z) = some true)
    (fin : (impl_BoxOfPlaces K v8.2.1).bind (fun v71 => ite2 (!v71.2.2) (some false) (laws_FnWorlds_l3 K s v8 v71 K 0)) = some true) : ∀ (k i : Nat), i ≤ n → n - i < k → laws_FnWorlds_l2 K s v8 v52 k (i : Int) = some true := by
  intro k
  induction k with
  | zero => intro i _ h; omega
  | succ k ih =>
    intro i h1 h2
    rw [laws_FnWorlds_l2, ite2_dec]
    by_cases hi : i < n
    · rw [if_pos (by omega), chk_pos (by omega), chk_pos (by omega), Int.toNat_natCast, wrap_nat1 (by omega), hv i hi, bind_of, Bool.not_true, ite2_false]
      exact ih (i + 1) (by omega) (by omega)
    · rw [if_neg (by omega)]
      exact fin
theorem l1_eq {K n : Nat} {s : Skeleton} {p : Pose} {par u : Nat → Nat} {off : Nat → V3} {r : V3} (h : Wh n s p par u off r) {ts : List Turn} {vs : List Vector} (w : Wd n p par u off r ts vs) (v10 : Pose × Bool) (zl : v10.1.Turns.length = n) (zu : ∀ j, j < n → Un (u j) (v10.1.Turns.getD j default))
    (fin : ∀ l, Own n l → (impl_MirrorPose K s p l).bind (fun v48 => (impl_MirrorSkeleton K s l).bind fun v50 => (impl_WorldOf K v50.1 v48.1).bind fun v52 => (ite2 ((!v48.2)) (some true) (ite2 ((!v50.2)) (some true) (ite2 ((!v52.2.2)) (some true) (ite2 (((v52.2.1.length : Int) != (s.Bones.length : Int))) (some true) ((impl_IsPairing K s l).bind fun v58 => some (!v58)))))).bind fun j60 => ite2 (j60) (some false) (laws_FnWorlds_l2 K s (ts, vs, true) v52 K (0 : Int))) = some true) : ∀ (k i : Nat) (l : List Int), i ≤ n → n - i < k → l.length = i → (∀ j, j < i → l.getD j default = (j : Int)) →
    laws_FnWorlds_l1 K s p (ts, vs, true) v10 k (i : Int) l = some true := by
  have e1 := h.len; have e2 := h.tlen; have n12 := h.n12; have e3 := w.vl
  intro k
  induction k with
  | zero => intro i _ _ h; omega
  | succ k ih =>
    intro i l g1 g2 g3 g4
    rw [laws_FnWorlds_l1, ite2_dec]
    by_cases hi : i < n
    · have t1 : laws_b10TEqual K (v10.1.Turns.getD i default) (p.Turns.getD i default) = some true := teq_of (Un.eq (zu i hi) (h.turns i hi))
      have next : ∀ j, j < i + 1 → (l ++ [(i : Int)]).getD j default = (j : Int) := by
        intro j hj
        by_cases e : j < i
        · rw [getD_left (by omega)]; exact g4 j e
        · have : j = i := by omega
          subst this
          rw [getD_end (by omega)]
      have hrest := ih (i + 1) (l ++ [(i : Int)]) (by omega) (by omega) (by simp; omega) next
      rw [if_pos (by omega), chk_pos (by simp; omega), chk_pos (by omega), chk_pos (by omega), Int.toNat_natCast, t1, bind_of, Bool.not_true, ite2_false, wrap_nat1 (by omega)]
      by_cases h0 : 0 < i
      · have hp := h.tree i h0 hi
        have hpe := h.pars i h0 hi
        have hd := (w.vb i hi).sub (w.vb (par i) (by omega)) (by omega)
        have hstep := plc_step (r := r) (off := off) (u := u) h.tree h0 hi
        have hsq := hd.sq (by omega)
        have hso := (h.offs i hi).sq (by omega)
        have hl := om_lt h.tree h.u24 (par i) (by omega)
        have hval : sqV (subV (plc par u off r i) (plc par u off r (par i))) = sqV (off i) := by
          rw [← rot_sq hl (off i), hstep]
          congr 1
          refine Prod.ext ?_ (Prod.ext ?_ ?_)
          · show (plc par u off r (par i)).1 + (rotI (om par u (par i)) (off i)).1 - (plc par u off r (par i)).1 = _; omega
          · show (plc par u off r (par i)).2.1 + (rotI (om par u (par i)) (off i)).2.1 - (plc par u off r (par i)).2.1 = _; omega
          · show (plc par u off r (par i)).2.2 + (rotI (om par u (par i)) (off i)).2.2 - (plc par u off r (par i)).2.2 = _; omega
        rw [hval] at hsq
        have heq := hsq.eq hso
        rw [decide_eq_true rfl] at heq
        unfold spec_LessVectors spec_l01Less laws_b10Square
        rw [show ((i : Int) == 0) = false by rw [beq_eq_false_iff_ne]; omega, ite2_false, chk_pos (by omega), hpe, chk_pos (show 0 ≤ (i : Int) ∧ (i : Int) < (vs.length : Int) by omega), chk_pos (show 0 ≤ (par i : Int) ∧ (par i : Int) < (vs.length : Int) by omega), Int.toNat_natCast, bind_of, bind_of, bind_of, bind_of]
        show ite2 (Fl.ne (sqrF (Vector.mk ((vs.getD i default).X.sub (vs.getD (par i) default).X) ((vs.getD i default).Y.sub (vs.getD (par i) default).Y) ((vs.getD i default).Z.sub (vs.getD (par i) default).Z))) (sqrF (s.Bones.getD i default).Offset)) _ _ = _
        rw [ne_not, heq, Bool.not_true, ite2_false]
        exact hrest
      · have : i = 0 := by omega
        subst this
        rw [show (((0 : Nat) : Int) == 0) = true by rfl, ite2_true]
        exact hrest
    · have e : i = n := by omega
      subst e
      rw [if_neg (by omega)]
      exact fin l ⟨g3, g4⟩
theorem drawn_wh {n : Nat} {s : Skeleton} {p : Pose} (hs : Sk n s) (ho : ∀ j, j < n → Off4 (s.Bones.getD j default).Offset) (hp : ExP n p) : ∃ par u off r, Wh n s p par u off r := by
  have hu : ∃ u : Nat → Nat, ∀ j, j < n → u j < 24 ∧ p.Turns.getD j default = uT (u j) := by
    refine ⟨fun j => if h : j < n then Classical.choose (hp.turns j h) else 0, fun j hj => ?_⟩
    simp only [dif_pos hj]
    exact Classical.choose_spec (hp.turns j hj)
  have hoff : ∃ off : Nat → V3, ∀ j, j < n → Vb 4 (off j) (s.Bones.getD j default).Offset := by
    have one : ∀ j, j < n → ∃ q : V3, Vb 4 q (s.Bones.getD j default).Offset := by
      intro j hj
      obtain ⟨⟨a, a1, a2, a3⟩, ⟨b, b1, b2, b3⟩, ⟨c, c1, c2, c3⟩⟩ := ho j hj
      refine ⟨(a, b, c), ?_, ?_, ?_⟩
      · rw [a3]; exact (⟨Dy.ofInt (by omega), by omega⟩ : Db 0 4 a (Fl.ofInt .f32 a))
      · rw [b3]; exact (⟨Dy.ofInt (by omega), by omega⟩ : Db 0 4 b (Fl.ofInt .f32 b))
      · rw [c3]; exact (⟨Dy.ofInt (by omega), by omega⟩ : Db 0 4 c (Fl.ofInt .f32 c))
    refine ⟨fun j => if h : j < n then Classical.choose (one j h) else (0, 0, 0), fun j hj => ?_⟩
    simp only [dif_pos hj]
    exact Classical.choose_spec (one j hj)
  obtain ⟨u, hu⟩ := hu
  obtain ⟨off, hoff⟩ := hoff
  obtain ⟨x, y, hx, hy, e⟩ := hp.root
  have hn1 := hs.n1
  refine ⟨fun j => (s.Bones.getD j default).Parent.toNat, u, off, (x, y, 0), hs.len, hs.n1, hs.n12, fun j h0 hj => ?_, (hs.par 0 (by omega)).1 rfl, fun j h0 hj => ?_, hoff, hp.len, fun j hj => (hu j hj).1, fun j hj => ?_, ?_⟩
  · have := (hs.par j hj).2 h0; omega
  · have := (hs.par j hj).2 h0; omega
  · rw [(hu j hj).2]; exact uT_un _
  · rw [e]; exact iv_root hx hy
theorem worlds_true (a b : List Int) (ha : Byt a) (hb : Byt b) : ∃ K, laws_FnWorlds K a b = some true := by
  refine ⟨1000, ?_⟩
  unfold laws_FnWorlds laws_b10Long
  cases hlong : ite2 (decide ((a.length : Int) > 1048576)) (some true) (some (decide ((b.length : Int) > 1048576))) with
  | none => revert hlong; unfold ite2; split <;> intro h <;> cases h
  | some g =>
  rw [bind_of, bind_of]
  cases g with
  | true => rfl
  | false =>
  rw [ite2_false]
  obtain ⟨s, n, e1, hs, n6, ho⟩ := skeleton_drawn (K := 1000) (by omega) ha
  obtain ⟨p, e2, hp⟩ := exact_drawn (K := 1000) (n := n) (by omega) hb (by omega)
  obtain ⟨par, u, off, r, h⟩ := drawn_wh hs ho hp
  obtain ⟨ts, vs, w1, w⟩ := world_eq (K := 1000) (by omega) h
  obtain ⟨zs, z1, z2, z3⟩ := local_eq (K := 1000) (by omega) h w p.Root
  have n1 := hs.n1
  rw [e1, bind_of, hs.len, e2, bind_of, w1, bind_of, z1, bind_of]
  have hroot : laws_b10VEqual 1000 p.Root p.Root = some true := veq_of (Vb.eq h.root h.root)
  have hj : (ite2 (!true) (some true) (ite2 (!true) (some true) (ite2 ((ts.length : Int) != (n : Int)) (some true) (ite2 ((vs.length : Int) != (n : Int)) (some true) (ite2 ((zs.length : Int) != (n : Int)) (some true) (chk (0 ≤ (0 : Int) ∧ (0 : Int) < (vs.length : Int)) ((laws_b10VEqual 1000 (vs.getD ((0 : Int).toNat) default) p.Root).bind fun v18 => ite2 (!v18) (some true) ((laws_b10VEqual 1000 p.Root p.Root).bind fun v21 => some (!v21))))))))) = some false := by
    rw [w.tl, w.vl, z2, bne_self_eq_false, chk_pos (by omega), show ((0 : Int).toNat) = 0 from rfl, w.v0, hroot]; rfl
  refine (congrArg (fun z => Option.bind z _) hj).trans ?_
  show (some false).bind _ = _
  rw [bind_of, ite2_false]
  have hnv : ∀ j, j < n → Nv (vs.getD j default) := fun j hj => ⟨(w.vb j hj).x.1.isN, (w.vb j hj).y.1.isN, (w.vb j hj).z.1.isN⟩
  obtain ⟨lo, hi, b1, b2⟩ := box_eq (K := 1000) (by omega) vs w.vl n1 (by omega) hnv
  have := l1_eq (K := 1000) h w (Pose.mk p.Root zs, true) z2 z3 (fun l hl => ?_) 1000 0 [] (by omega) (by omega) rfl (fun j hj => by omega)
  · exact this
  · obtain ⟨mt, m1, m2, m3⟩ := mpose_eq (K := 1000) (by omega) hs h.tlen hl
    obtain ⟨mb, q1, q2, q3⟩ := msk_eq (K := 1000) (by omega) hs hl
    have hm := h.mir q2 q3 m2 m3
    obtain ⟨ts2, vs2, x1, x2⟩ := world_eq (K := 1000) (by omega) hm
    rw [m1, bind_of, q1, bind_of, x1, bind_of]
    have hj2 : (ite2 (!true) (some true) (ite2 (!true) (some true) (ite2 (!true) (some true) (ite2 ((vs2.length : Int) != (s.Bones.length : Int)) (some true) ((impl_IsPairing 1000 s l).bind fun v58 => some (!v58)))))) = some false := by
      rw [x2.vl, hs.len, bne_self_eq_false, pairing_eq (by omega) hs hl]; rfl
    refine (congrArg (fun z => Option.bind z _) hj2).trans ?_
    show (some false).bind _ = _
    rw [bind_of, ite2_false]
    have := l2_eq (K := 1000) (n := n) hs.len (by omega) (ts, vs, true) (ts2, vs2, true) w.vl x2.vl (fun j hj => ?_) ?_ 1000 0 (by omega) (by omega)
    · exact this
    · have g1 := x2.vb j hj
      rw [plc_mir h.tree h.u24 j hj] at g1
      exact veq_of (Vb.eq g1 (w.vb j hj).mir)
    · show (impl_BoxOfPlaces 1000 vs).bind _ = _
      rw [b1, bind_of, Bool.not_true, ite2_false]
      exact l3_eq (K := 1000) hs.len (by omega) (ts, vs, true) w.vl (lo, hi, true) b2 1000 0 (by omega) (by omega)
theorem law_FnWorlds (a b : List Int) (ha : a.length ≤ maxLen ∧ ∀ x ∈ a, (Lit.int .u8 x).wf = true) (hb : b.length ≤ maxLen ∧ ∀ x ∈ b, (Lit.int .u8 x).wf = true) : ∃ K, laws_FnWorlds K a b = some true := by
  have byt : ∀ {c : List Int}, (∀ x ∈ c, (Lit.int .u8 x).wf = true) → Byt c := fun h x hx => by
    have := h x hx
    simp only [Lit.wf, Bool.and_eq_true, decide_eq_true_eq] at this
    have e1 : IntKind.u8.min = 0 := by decide
    have e2 : IntKind.u8.max = 255 := by decide
    omega
  exact worlds_true a b (byt ha.2) (byt hb.2)

end Go.Fw
