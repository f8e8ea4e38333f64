/- Worlds of poses whose turns have halves. (A template.) -/
import Derived.Test.YtdkidnhddgeboacFwGIRot
import Derived.Test.YtdkidnhddgeboacFwGISkDraw
namespace Go.Fw
open Go

/-! A tree of bones. -/
/-- The turn of a bone in the world. -/
def omF (par u : Nat → Nat) : Nat → Nat → Nat
  | 0, _ => u 0
  | f + 1, j => if j = 0 then u 0 else mulI (omF par u f (par j)) (u j)
def om (par u : Nat → Nat) (j : Nat) : Nat := omF par u j j
/-- The place of a bone in the world. -/
def plF (par u : Nat → Nat) (off : Nat → V3) (r : V3) : Nat → Nat → V3
  | 0, _ => r
  | f + 1, j => if j = 0 then r else addV (plF par u off r f (par j)) (rotI (om par u (par j)) (off j))
def plc (par u : Nat → Nat) (off : Nat → V3) (r : V3) (j : Nat) : V3 := plF par u off r j j
/-- A tree: parents come first. -/
def Tree (n : Nat) (par : Nat → Nat) : Prop := ∀ j, 0 < j → j < n → par j < j
theorem omF_eq {n : Nat} {par u : Nat → Nat} (ht : Tree n par) : ∀ (f j : Nat), j ≤ f → j < n → omF par u f j = omF par u j j := by
  intro f
  induction f using Nat.strongRecOn with
  | _ f ih =>
    intro j h1 h2
    cases f with
    | zero => have : j = 0 := by omega
              subst this; rfl
    | succ f =>
      cases j with
      | zero => rfl
      | succ j =>
        have hp := ht (j + 1) (by omega) h2
        show (if j + 1 = 0 then u 0 else mulI (omF par u f (par (j + 1))) (u (j + 1))) = (if j + 1 = 0 then u 0 else mulI (omF par u j (par (j + 1))) (u (j + 1)))
        rw [if_neg (by omega), if_neg (by omega), ih f (by omega) _ (by omega) (by omega)]
        by_cases e : j < f + 1
        · rw [ih j (by omega) _ (by omega) (by omega)]
        · omega
theorem om_step {n : Nat} {par u : Nat → Nat} (ht : Tree n par) {j : Nat} (h0 : 0 < j) (h : j < n) : om par u j = mulI (om par u (par j)) (u j) := by
  have hp := ht j h0 h
  obtain ⟨i, rfl⟩ : ∃ i, j = i + 1 := ⟨j - 1, by omega⟩
  show (if i + 1 = 0 then u 0 else mulI (omF par u i (par (i + 1))) (u (i + 1))) = _
  rw [if_neg (by omega), omF_eq ht i _ (by omega) (by omega)]; rfl
theorem plF_eq {n : Nat} {par u : Nat → Nat} {off : Nat → V3} {r : V3} (ht : Tree n par) : ∀ (f j : Nat), j ≤ f → j < n → plF par u off r f j = plF par u off r j j := by
  intro f
  induction f using Nat.strongRecOn with
  | _ f ih =>
    intro j h1 h2
    cases f with
    | zero => have : j = 0 := by omega
              subst this; rfl
    | succ f =>
      cases j with
      | zero => rfl
      | succ j =>
        have hp := ht (j + 1) (by omega) h2
        show (if j + 1 = 0 then r else addV (plF par u off r f (par (j + 1))) (rotI (om par u (par (j + 1))) (off (j + 1)))) = (if j + 1 = 0 then r else addV (plF par u off r j (par (j + 1))) (rotI (om par u (par (j + 1))) (off (j + 1))))
        rw [if_neg (by omega), if_neg (by omega), ih f (by omega) _ (by omega) (by omega), ih j (by omega) _ (by omega) (by omega)]
theorem plc_step {n : Nat} {par u : Nat → Nat} {off : Nat → V3} {r : V3} (ht : Tree n par) {j : Nat} (h0 : 0 < j) (h : j < n) : plc par u off r j = addV (plc par u off r (par j)) (rotI (om par u (par j)) (off j)) := by
  have hp := ht j h0 h
  obtain ⟨i, rfl⟩ : ∃ i, j = i + 1 := ⟨j - 1, by omega⟩
  show (if i + 1 = 0 then r else addV (plF par u off r i (par (i + 1))) (rotI (om par u (par (i + 1))) (off (i + 1)))) = _
  rw [if_neg (by omega), plF_eq ht i _ (by omega) (by omega)]; rfl
theorem om_lt {n : Nat} {par u : Nat → Nat} (ht : Tree n par) (hu : ∀ j, j < n → u j < 24) : ∀ j, j < n → om par u j < 24 := by
  intro j
  induction j using Nat.strongRecOn with
  | _ j ih =>
    intro h
    by_cases h0 : j = 0
    · subst h0; exact hu 0 h
    · rw [om_step ht (by omega) h]
      have hp := ht j (by omega) h
      exact (mulI_is (ih _ hp (by omega)) (hu j h)).2.2.2.2.1

/-! The world of a pose. -/
/-- A skeleton and a pose of it, as integers. -/
structure Wh (n : Nat) (s : Skeleton) (p : Pose) (par u : Nat → Nat) (off : Nat → V3) (r : V3) : Prop where
  len : s.Bones.length = n
  n1 : 1 ≤ n
  n12 : n ≤ 12
  tree : Tree n par
  par0 : (s.Bones.getD 0 default).Parent = -1
  pars : ∀ j, 0 < j → j < n → (s.Bones.getD j default).Parent = (par j : Int)
  offs : ∀ j, j < n → Vb 4 (off j) (s.Bones.getD j default).Offset
  tlen : p.Turns.length = n
  u24 : ∀ j, j < n → u j < 24
  turns : ∀ j, j < n → Un (u j) (p.Turns.getD j default)
  root : Vb 4 r p.Root
theorem Wh.sk {n : Nat} {s : Skeleton} {p : Pose} {par u : Nat → Nat} {off : Nat → V3} {r : V3} (h : Wh n s p par u off r) : Sk n s :=
  ⟨h.len, h.n1, h.n12, fun i hi => ⟨fun e => by subst e; exact h.par0, fun e => by
    have h1 := h.pars i e hi
    have h2 := h.tree i e hi
    rw [h1]; omega⟩⟩
theorem isPose_eq {K n : Nat} (hK : 20 < K) {s : Skeleton} {p : Pose} (hs : Sk n s) (hp : p.Turns.length = n) : impl_IsPose K s p = some true := by
  unfold impl_IsPose
  rw [hs.valid hK, bind_of, ite2_true, hp, hs.len, beq_self_eq_true]; rfl
theorem world_loop {K n : Nat} {s : Skeleton} {p : Pose} {par u : Nat → Nat} {off : Nat → V3} {r : V3} (h : Wh n s p par u off r) : ∀ (k i : Nat) (ts : List Turn) (vs : List Vector), i ≤ n → n - i < k → ts.length = n → vs.length = n →
    (∀ j, j < n → (j < i ∨ j = 0) → Un (om par u j) (ts.getD j default)) → (∀ j, j < n → (j < i ∨ j = 0) → Vb (4 + 4 * j) (plc par u off r j) (vs.getD j default)) → (ts.getD 0 default = p.Turns.getD 0 default) → vs.getD 0 default = p.Root → (∀ j, 0 < j → j < i → ts.getD j default = mulF (ts.getD (par j) default) (p.Turns.getD j default)) →
    ∃ ts' vs', impl_Skeleton_world_l1 K s p k (i : Int) ts vs = some (ts', vs') ∧ ts'.length = n ∧ vs'.length = n ∧ (∀ j, j < n → Un (om par u j) (ts'.getD j default)) ∧ (∀ j, j < n → Vb (4 + 4 * j) (plc par u off r j) (vs'.getD j default)) ∧ ts'.getD 0 default = p.Turns.getD 0 default ∧ vs'.getD 0 default = p.Root := by
  intro k
  induction k with
  | zero => intro i ts vs _ h; omega
  | succ k ih =>
    intro i ts vs h1 h2 h3 h4 h5 h6 h7 h8 h9
    have e1 := h.len
    have n12 := h.n12
    have e2 := h.tlen
    rw [impl_Skeleton_world_l1, ite2_dec]
    by_cases hi : i < n
    · rw [if_pos (by omega), chk_pos (by omega), wrap_nat1 (by omega), Int.toNat_natCast, ite2_dec]
      by_cases h0 : 0 < i
      · have hp := h.tree i h0 hi
        have hpe := h.pars i h0 hi
        have ho := om_step (u := u) h.tree h0 hi
        have hl := om_lt h.tree h.u24 (par i) (by omega)
        have hU := h5 (par i) (by omega) (.inl (by omega))
        have hV := h6 (par i) (by omega) (.inl (by omega))
        unfold impl_MulTurns impl_AddVectors
        simp only [hpe, Int.toNat_natCast, bind_of, List.length_set, rot_eq]
        rw [if_pos (by omega), chk_pos (by omega), chk_pos (by omega), chk_pos (by omega), chk_pos (by omega), chk_pos (by omega), chk_pos (by omega)]
        have e3 : (ts.set i (mulF (ts.getD (par i) default) (p.Turns.getD i default))).getD (par i) default = ts.getD (par i) default := set_ne (by omega)
        have hmul : Un (om par u i) (mulF (ts.getD (par i) default) (p.Turns.getD i default)) := by
          rw [ho]; exact Un.mul hl (h.u24 i hi) hU (h.turns i hi)
        have hrot := (hU.rot hl (h.offs i hi) (by decide))
        have hadd := hV.add hrot (by omega)
        rw [← plc_step (r := r) (off := off) (u := u) h.tree h0 hi] at hadd
        show ∃ ts' vs', impl_Skeleton_world_l1 K s p k ((i + 1 : Nat) : Int) (ts.set i (mulF (ts.getD (par i) default) (p.Turns.getD i default))) (vs.set i (Vector.mk ((vs.getD (par i) default).X.add (rotF ((ts.set i (mulF (ts.getD (par i) default) (p.Turns.getD i default))).getD (par i) default) (s.Bones.getD i default).Offset).X) ((vs.getD (par i) default).Y.add (rotF ((ts.set i (mulF (ts.getD (par i) default) (p.Turns.getD i default))).getD (par i) default) (s.Bones.getD i default).Offset).Y) ((vs.getD (par i) default).Z.add (rotF ((ts.set i (mulF (ts.getD (par i) default) (p.Turns.getD i default))).getD (par i) default) (s.Bones.getD i default).Offset).Z))) = some (ts', vs') ∧ _
        rw [e3]
        refine ih (i + 1) _ _ (by omega) (by omega) (by simp; exact h3) (by simp; exact h4) (fun j hj hj2 => ?_) (fun j hj hj2 => ?_) ?_ ?_ (fun j hj hj2 => ?_)
        · by_cases e : i = j
          · subst e; rw [set_getD (by omega)]; exact hmul
          · rw [set_ne e]; exact h5 j hj (by omega)
        · by_cases e : i = j
          · subst e; rw [set_getD (by omega)]; exact hadd.mono (by omega)
          · rw [set_ne e]; exact h6 j hj (by omega)
        · rw [set_ne (by omega)]; exact h7
        · rw [set_ne (by omega)]; exact h8
        · have hpj := h.tree j hj (by omega)
          by_cases e : i = j
          · subst e; rw [set_getD (by omega), set_ne (by omega)]
          · rw [set_ne e, set_ne (by omega)]; exact h9 j hj (by omega)
      · rw [if_neg (by omega)]
        exact ih (i + 1) ts vs (by omega) (by omega) h3 h4 (fun j hj hj2 => h5 j hj (by omega)) (fun j hj hj2 => h6 j hj (by omega)) h7 h8 (fun j hj hj2 => by omega)
    · rw [if_neg (by omega)]
      exact ⟨ts, vs, rfl, h3, h4, fun j hj => h5 j hj (by omega), fun j hj => h6 j hj (by omega), h7, h8⟩
/-- What a world is like. -/
structure Wd (n : Nat) (p : Pose) (par u : Nat → Nat) (off : Nat → V3) (r : V3) (ts : List Turn) (vs : List Vector) : Prop where
  tl : ts.length = n
  vl : vs.length = n
  tu : ∀ j, j < n → Un (om par u j) (ts.getD j default)
  vb : ∀ j, j < n → Vb (4 + 4 * j) (plc par u off r j) (vs.getD j default)
  t0 : ts.getD 0 default = p.Turns.getD 0 default
  v0 : vs.getD 0 default = p.Root
theorem skw_eq {K n : Nat} (hK : 20 < K) {s : Skeleton} {p : Pose} {par u : Nat → Nat} {off : Nat → V3} {r : V3} (h : Wh n s p par u off r) :
    ∃ ts vs, impl_Skeleton_world K s p = some (ts, vs) ∧ Wd n p par u off r ts vs := by
  have e1 := h.len
  have e2 := h.tlen
  have n1 := h.n1
  have n12 := h.n12
  obtain ⟨ts, vs, g1, g2, g3, g4, g5, g6, g7⟩ := world_loop (K := K) h K 0 ((List.replicate n (default : Turn)).set 0 (p.Turns.getD 0 default)) ((List.replicate n (default : Vector)).set 0 p.Root) (by omega) (by omega) (by simp) (by simp)
    (fun j hj hj2 => by
      have : j = 0 := by omega
      subst this
      rw [set_getD (by simp; omega)]
      exact h.turns 0 hj)
    (fun j hj hj2 => by
      have : j = 0 := by omega
      subst this
      rw [set_getD (by simp; omega)]
      exact h.root)
    (set_getD (by simp; omega)) (set_getD (by simp; omega)) (fun j h1 h2 => by omega)
  refine ⟨ts, vs, ?_, g2, g3, g4, g5, g6, g7⟩
  unfold impl_Skeleton_world
  rw [e1]
  simp only [Int.toNat_natCast, show ((0 : Int).toNat) = 0 from rfl, List.length_replicate]
  rw [show ((0 : Nat) : Int) = 0 from rfl] at g1
  rw [chk_pos (by omega), chk_pos (by omega), chk_pos (by omega), chk_pos (by omega), chk_pos (by omega), g1]
theorem world_eq {K n : Nat} (hK : 20 < K) {s : Skeleton} {p : Pose} {par u : Nat → Nat} {off : Nat → V3} {r : V3} (h : Wh n s p par u off r) :
    ∃ ts vs, impl_WorldOf K s p = some (ts, vs, true) ∧ impl_Skeleton_world K s p = some (ts, vs) ∧ Wd n p par u off r ts vs := by
  obtain ⟨ts, vs, g1, g2⟩ := skw_eq hK h
  refine ⟨ts, vs, ?_, g1, g2⟩
  unfold impl_WorldOf
  rw [isPose_eq hK h.sk h.tlen, bind_of, Bool.not_true, ite2_false, g1]; rfl
theorem drawn_wh {n : Nat} {s : Skeleton} {p : Pose} (hs : Sk n s) (ho : ∀ j, j < n → Off4 (s.Bones.getD j default).Offset) (hp : ExP n p) : ∃ par u off r, Wh n s p par u off r := by
  have hu : ∃ u : Nat → Nat, ∀ j, j < n → u j < 24 ∧ p.Turns.getD j default = uT (u j) := by
    refine ⟨fun j => if h : j < n then Classical.choose (hp.turns j h) else 0, fun j hj => ?_⟩
    simp only [dif_pos hj]
    exact Classical.choose_spec (hp.turns j hj)
  have hoff : ∃ off : Nat → V3, ∀ j, j < n → Vb 4 (off j) (s.Bones.getD j default).Offset := by
    have one : ∀ j, j < n → ∃ q : V3, Vb 4 q (s.Bones.getD j default).Offset := by
      intro j hj
      obtain ⟨⟨a, a1, a2, a3⟩, ⟨b, b1, b2, b3⟩, ⟨c, c1, c2, c3⟩⟩ := ho j hj
      refine ⟨(a, b, c), ?_, ?_, ?_⟩
      · rw [a3]; exact (⟨Dy.ofInt (by omega), by omega⟩ : Db 0 4 a (Fl.ofInt .f32 a))
      · rw [b3]; exact (⟨Dy.ofInt (by omega), by omega⟩ : Db 0 4 b (Fl.ofInt .f32 b))
      · rw [c3]; exact (⟨Dy.ofInt (by omega), by omega⟩ : Db 0 4 c (Fl.ofInt .f32 c))
    refine ⟨fun j => if h : j < n then Classical.choose (one j h) else (0, 0, 0), fun j hj => ?_⟩
    simp only [dif_pos hj]
    exact Classical.choose_spec (one j hj)
  obtain ⟨u, hu⟩ := hu
  obtain ⟨off, hoff⟩ := hoff
  obtain ⟨x, y, hx, hy, e⟩ := hp.root
  have hn1 := hs.n1
  refine ⟨fun j => (s.Bones.getD j default).Parent.toNat, u, off, (x, y, 0), hs.len, hs.n1, hs.n12, fun j h0 hj => ?_, (hs.par 0 (by omega)).1 rfl, fun j h0 hj => ?_, hoff, hp.len, fun j hj => (hu j hj).1, fun j hj => ?_, ?_⟩
  · have := (hs.par j hj).2 h0; omega
  · have := (hs.par j hj).2 h0; omega
  · rw [(hu j hj).2]; exact uT_un _
  · rw [e]; exact iv_root hx hy

end Go.Fw
