/- The law of recordings that are stored, cut, bent and recovered. -/
import Derived.Test.YtdddhokfmablnadFwGDRcLaw
namespace Go.Fw
open Go

/-! Frames, one after another. -/
/-- Behind l and the numbers xs come frames, up to l' and xs'. -/
inductive Sto (K : Nat) : List Int → List F32 → List (List F32) → List Int → List F32 → Prop
  | nil {l : List Int} {xs : List F32} : Sto K l xs [] l xs
  | cons {l l1 l' : List Int} {xs y xs' : List F32} {ps : List (List F32)} : Rec K l xs y l1 → Sto K l1 y ps l' xs' → Sto K l xs (y :: ps) l' xs'
theorem Sto.snoc {K : Nat} {l l' l2 : List Int} {xs xs' y : List F32} {ps : List (List F32)} (h : Sto K l xs ps l' xs') (hr : Rec K l' xs' y l2) : Sto K l xs (ps ++ [y]) l2 y := by
  induction h with
  | nil => exact .cons hr .nil
  | cons h1 _ ih => exact .cons h1 (ih hr)
theorem Sto.app {K : Nat} {l l' l2 : List Int} {xs xs' xs2 : List F32} {ps qs : List (List F32)} (h : Sto K l xs ps l' xs') (h2 : Sto K l' xs' qs l2 xs2) : Sto K l xs (ps ++ qs) l2 xs2 := by
  induction h with
  | nil => exact h2
  | cons h1 _ ih => exact .cons h1 (ih h2)
theorem Sto.grow {K : Nat} {l l' : List Int} {xs xs' : List F32} {ps : List (List F32)} (h : Sto K l xs ps l' xs') : ∃ r, l' = l ++ r := by
  induction h with
  | nil => exact ⟨[], by simp⟩
  | cons h1 _ ih =>
    obtain ⟨r, hr⟩ := ih
    obtain ⟨c, hc⟩ := h1.is
    rw [hr, hc, List.append_assoc]
    exact ⟨_, rfl⟩
theorem Sto.inb {K : Nat} {l l' : List Int} {xs xs' : List F32} {ps : List (List F32)} (h : Sto K l xs ps l' xs') : InB l → InB l' := by
  induction h with
  | nil => exact id
  | cons h1 _ ih => exact fun h => ih (h1.inb h)
theorem Sto.lens {K : Nat} {l l' : List Int} {xs xs' : List F32} {ps : List (List F32)} (h : Sto K l xs ps l' xs') : xs'.length = xs.length ∧ ∀ y ∈ ps, y.length = xs.length := by
  induction h with
  | nil => exact ⟨rfl, by simp⟩
  | cons h1 _ ih =>
    have := h1.len
    refine ⟨by omega, fun z hz => ?_⟩
    rcases List.mem_cons.1 hz with rfl | hz
    · omega
    · have := ih.2 z hz; omega
theorem Sto.long {K : Nat} {l l' : List Int} {xs xs' : List F32} {ps : List (List F32)} (h : Sto K l xs ps l' xs') : xs.length ≤ 51 → l'.length ≤ l.length + 258 * ps.length ∧ l.length ≤ l'.length := by
  induction h with
  | nil => intro _; exact ⟨by simp, Nat.le_refl _⟩
  | @cons l la l' xs y xs' ps h1 h2 ih =>
    intro hx
    have h2 := h1.long
    have h3 := h1.len
    have h4 := chL_len xs y xs.length
    have ih' := ih (by omega)
    rw [List.length_cons]
    omega
theorem Sto.ex {K : Nat} (hK : 3000000 < K) : ∀ (ps : List (List F32)) (l : List Int) (xs : List F32), InB l → l.length + 258 * ps.length ≤ 1000000 → xs.length ≤ 51 → (∀ y ∈ ps, y.length = xs.length) → ∃ l' xs', Sto K l xs ps l' xs' := by
  intro ps
  induction ps with
  | nil => intro l xs _ _ _ _; exact ⟨l, xs, .nil⟩
  | cons y ps ih =>
    intro l xs h0 hl hx hy
    rw [List.length_cons] at hl
    have hyl := hy y List.mem_cons_self
    obtain ⟨l1, h1⟩ := Rec.ex hK h0 (by omega) hyl.symm hx
    have hlong := h1.long
    have := chL_len xs y xs.length
    obtain ⟨l', xs', h2⟩ := ih l1 y (h1.inb h0) (by omega) (by omega) (fun z hz => by rw [hyl]; exact hy z (List.mem_cons_of_mem _ hz))
    exact ⟨l', xs', .cons h1 h2⟩
theorem Sto.uniq {K : Nat} {l l1 l2 : List Int} {xs x1 x2 : List F32} {ps : List (List F32)} (h1 : Sto K l xs ps l1 x1) (h2 : Sto K l xs ps l2 x2) : l1 = l2 ∧ x1 = x2 := by
  induction h1 with
  | nil => cases h2; exact ⟨rfl, rfl⟩
  | cons r1 _ ih =>
    cases h2 with
    | cons r2 h2 =>
      have := r1.uniq r2
      subst this
      exact ih h2
/-- The frames that fit into so many bytes. -/
theorem Sto.cut {K : Nat} {l l' : List Int} {xs xs' : List F32} {ps : List (List F32)} (h : Sto K l xs ps l' xs') : ∀ (at_ : Nat), l.length ≤ at_ →
    ∃ p1 p2 l1 x1, ps = p1 ++ p2 ∧ Sto K l xs p1 l1 x1 ∧ Sto K l1 x1 p2 l' xs' ∧ l1.length ≤ at_ ∧ (p2 = [] ∧ l1 = l' ∨ ∃ y p3 l2, p2 = y :: p3 ∧ Rec K l1 x1 y l2 ∧ at_ < l2.length ∧ Sto K l2 y p3 l' xs') := by
  induction h with
  | nil => intro at_ h; exact ⟨[], [], _, _, rfl, .nil, .nil, h, .inl ⟨rfl, rfl⟩⟩
  | @cons l la l' xs y xs' ps h1 h2 ih =>
    intro at_ h
    by_cases g : la.length ≤ at_
    · obtain ⟨p1, p2, lb, x1, e, g1, g2, g3, g4⟩ := ih at_ g
      exact ⟨y :: p1, p2, lb, x1, by rw [e]; rfl, .cons h1 g1, g2, g3, g4⟩
    · exact ⟨[], y :: ps, l, xs, rfl, .nil, .cons h1 h2, h, .inr ⟨y, ps, la, rfl, h1, by omega, h2⟩⟩

/-! Stored and recovered. -/
theorem store_loop {K : Nat} (hK : 3000000 < K) {a : Recording} (hf : a.Frames.length ≤ 64) (ht : ∀ p ∈ a.Frames, p.Turns.length ≤ 12) : ∀ (k i : Nat) (l l' : List Int) (xs xs' : List F32), i ≤ a.Frames.length → a.Frames.length - i < k → InB l → Sto K l xs ((a.Frames.drop i).map numsL) l' xs' →
    impl_StoreRecording_l1 K a k (i : Int) l xs = some (strOf l', true) := by
  intro k
  induction k with
  | zero => intro i l l' xs xs' _ h; omega
  | succ k ih =>
    intro i l l' xs xs' hi hk hl hs
    rw [impl_StoreRecording_l1, ite2_dec]
    by_cases h : i < a.Frames.length
    · rw [List.drop_eq_getElem_cons h, List.map_cons, ← getD_of_lt h] at hs
      cases hs with
      | cons h1 h2 =>
      have hp := ht _ (getD_mem (xs := a.Frames) h)
      rw [if_pos (by omega), chk_pos (by omega), Int.toNat_natCast, listed_eq hp (by omega), bind_of, h1.ok, bind_of, wrap_nat1 (by omega)]
      exact ih (i + 1) _ _ _ _ (by omega) (by omega) (h1.inb hl) h2
    · rw [List.drop_of_length_le (by omega)] at hs
      cases hs
      rw [if_neg (by omega), chk_pos (show ∀ x ∈ l, 0 ≤ x ∧ x < 256 from hl)]
/-- The bytes in front of all records, and the numbers in front. -/
def head0 (b : Nat) : List Int := [83, 75, 82, 49] ++ Wl b 1
def zero0 (b : Nat) : List F32 := List.replicate (3 + 4 * b) default
theorem head0_in (b : Nat) : InB (head0 b) := InB.append (fun x hx => by simp at hx; omega) (Wl_in _ _)
theorem head0_len (b : Nat) : (head0 b).length = 5 := by unfold head0; rw [List.length_append, Wl_length]; rfl
theorem none_eq (K b : Nat) (hb : b ≤ 12) : impl_none K (b : Int) = some (zero0 b) := by
  have f1 : IntKind.i64.wrap ((4 : Int) * (b : Int)) = ((4 * b : Nat) : Int) := by rw [wrap_in (by omega) (by omega)]; omega
  have f2 : IntKind.i64.wrap ((3 : Int) + ((4 * b : Nat) : Int)) = ((3 + 4 * b : Nat) : Int) := by rw [wrap_in (by omega) (by omega)]; omega
  unfold impl_none zero0
  rw [f1, f2, chk_pos (by omega), Int.toNat_natCast]
/-- A recording that is right, with so many bones. -/
structure Rr (b : Nat) (r : Recording) : Prop where
  bones : r.Bones = (b : Int)
  b1 : 1 ≤ b
  b12 : b ≤ 12
  frames : r.Frames.length ≤ 64
  turns : ∀ p ∈ r.Frames, p.Turns.length = b
theorem Rr.valid {K b : Nat} (hK : 100 < K) {r : Recording} (h : Rr b r) : impl_ValidRecording K r = some true := by
  have hb := h.bones; have h1 := h.b1; have h2 := h.b12; have hf := h.frames
  rw [Valid_eq (K := K) ⟨by omega, fun p hp => by have := h.turns p hp; omega, by omega, fun p hp => by have := h.turns p hp; omega⟩]
  rw [validR_spec.2 ⟨⟨by omega, by omega⟩, by omega, fun p hp => by have := h.turns p hp; omega⟩]
theorem store_eq {K b : Nat} (hK : 3000000 < K) {r : Recording} (h : Rr b r) {l' : List Int} {xs' : List F32} (hs : Sto K (head0 b) (zero0 b) (r.Frames.map numsL) l' xs') : impl_StoreRecording K r = some (strOf l', true) := by
  have h2 := h.b12
  unfold impl_StoreRecording impl_header
  rw [h.valid (by omega), bind_of, Bool.not_true, ite2_false, h.bones, chk_pos (by simp), chk_pos (by simp), bind_of, none_eq K b h2, bind_of, ← Wl1]
  have := store_loop hK h.frames (fun p hp => by have := h.turns p hp; omega) K 0 (head0 b) l' (zero0 b) xs' (by omega) (by have := h.frames; omega) (head0_in b) (by rw [List.drop_zero]; exact hs)
  exact this
theorem pose_of {K b : Nat} (hK : 12 < K) (h1 : 1 ≤ b) (hb : b ≤ 12) {y : List F32} (hy : y.length = 3 + 4 * b) : impl_PoseOfNumbers K y = some (poseL y b, true) := posed_impl hy h1 hb hK
theorem getD_range {α : Type} [Inhabited α] (f : Nat → α) {n i : Nat} (h : i < n) : ((List.range n).map f).getD i default = f i := by
  rw [List.getD_eq_getElem?_getD, List.getElem?_map, List.getElem?_range h]; rfl
theorem nums_pose {b : Nat} {y : List F32} (hy : y.length = 3 + 4 * b) : numsL (poseL y b) = y := by
  have hl : (numsL (poseL y b)).length = y.length := by rw [numsL_len, poseL_len]; omega
  apply List.ext_getElem hl
  intro i g1 g2
  rw [← getD_of_lt g1, ← getD_of_lt g2]
  unfold numsL
  by_cases h3 : i < 3
  · rw [app_l (by simpa using h3)]
    have : i = 0 ∨ i = 1 ∨ i = 2 := by omega
    rcases this with rfl | rfl | rfl <;> rfl
  · rw [app_r (by simp; omega)]
    have e : i - 3 = 4 * ((i - 3) / 4) + (i - 3) % 4 := by omega
    have hq : (i - 3) / 4 < b := by omega
    show ((poseL y b).Turns.flatMap numT).getD (i - 3) default = _
    rw [e, flat_getD _ _ _ (by rw [poseL_len]; exact hq) (by omega)]
    show (numT (((List.range b).map (tnL y)).getD ((i - 3) / 4) default)).getD ((i - 3) % 4) default = _
    rw [getD_range _ hq]
    have : (i - 3) % 4 = 0 ∨ (i - 3) % 4 = 1 ∨ (i - 3) % 4 = 2 ∨ (i - 3) % 4 = 3 := by omega
    rcases this with h | h | h | h
    · rw [h]; show y.getD (3 + 4 * ((i - 3) / 4)) default = _; congr 1; omega
    · rw [h]; show y.getD (3 + 4 * ((i - 3) / 4) + 1) default = _; congr 1; omega
    · rw [h]; show y.getD (3 + 4 * ((i - 3) / 4) + 2) default = _; congr 1; omega
    · rw [h]; show y.getD (3 + 4 * ((i - 3) / 4) + 3) default = _; congr 1; omega
theorem nums_len {b : Nat} {p : Pose} (h : p.Turns.length = b) : (numsL p).length = 3 + 4 * b := by rw [numsL_len, h]
/-- Frames that lie in the bytes are recovered, one after another. -/
theorem recover_held {K b : Nat} (hK : 3000000 < K) (h1 : 1 ≤ b) (hb : b ≤ 12) {s : ByteArray} (hs : s.size ≤ 1048576) {l l' : List Int} {xs xs' : List F32} {ps : List (List F32)} (h : Sto K l xs ps l' xs') : ∀ (k : Nat) (fr : List Pose), InB l → xs.length = 3 + 4 * b → fr.length + ps.length ≤ 64 → ps.length < k → Pre s l' →
    impl_RecoverRecording_l1 K s k (l.length : Int) xs fr = impl_RecoverRecording_l1 K s (k - ps.length) (l'.length : Int) xs' (fr ++ ps.map fun y => poseL y b) := by
  induction h with
  | nil => intro k fr _ _ _ _ _; simp
  | @cons l la l' xs y xs' ps hr h2 ih =>
    intro k fr hl hx hf hk hp
    obtain ⟨k, rfl⟩ : ∃ q, k = q + 1 := ⟨k - 1, by omega⟩
    rw [List.length_cons] at hf hk
    have hyl := hr.len
    have hpa : Pre s la := by
      obtain ⟨r, hr⟩ := h2.grow
      rw [hr] at hp; exact hp.left
    rw [impl_RecoverRecording_l1, ite2_dec, if_pos (by omega), next_held hK hr hl hs (by omega) hpa, bind_of, Bool.not_true, ite2_false]
    rw [pose_of (K := K) (by omega) h1 hb (y := y) (by omega), bind_of, chk_pos (by simp; omega)]
    rw [show (y, ((la.length : Int)), true).2.1 = (la.length : Int) from rfl, show (y, ((la.length : Int)), true).1 = y from rfl, show (poseL y b, true).1 = poseL y b from rfl]
    rw [ih k (fr ++ [poseL y b]) (hr.inb hl) (by omega) (by simp; omega) (by omega) hp]
    rw [List.length_cons, show k + 1 - (ps.length + 1) = k - ps.length by omega, List.map_cons, List.append_assoc]; rfl
/-- What is recovered was stored so. -/
theorem recover_sound {K b : Nat} (hK : 3000000 < K) (h1 : 1 ≤ b) (hb : b ≤ 12) {s : ByteArray} (hs : s.size ≤ 1048576) (h4 : bt s 4 = (b : Int)) : ∀ (k a : Nat) (xs : List F32) (fr : List Pose), a ≤ s.size → xs.length = 3 + 4 * b → fr.length ≤ 64 → 64 - fr.length < k →
    ∃ qs a' xs', impl_RecoverRecording_l1 K s k (a : Int) xs fr = some (Recording.mk (b : Int) (fr ++ qs.map fun y => poseL y b), ((a' : Nat) : Int), true) ∧ Sto K (bytesOf (s.extract 0 a)) xs qs (bytesOf (s.extract 0 a')) xs' ∧ a ≤ a' ∧ a' ≤ s.size ∧ fr.length + qs.length ≤ 64 := by
  have e0 : IntKind.i64.wrap ((5 : Int) - 1) = 4 := by decide
  have ew : IntKind.i64.wrap (b : Int) = (b : Int) := wrap_in (by omega) (by omega)
  intro k
  induction k with
  | zero => intro a xs fr _ _ _ h; omega
  | succ k ih =>
    intro a xs fr ha hx hf hk
    rw [impl_RecoverRecording_l1, ite2_dec, e0, show ((4 : Int).toNat) = 4 from rfl, h4, ew]
    by_cases h : fr.length < 64
    · rw [if_pos (by omega)]
      rcases next_sound hK s a xs hs ha (by omega) with hn | ⟨ys, e, hn, g1, g2, g3⟩
      · rw [hn, bind_of, Bool.not_false, ite2_true]
        exact ⟨[], a, xs, by simp, .nil, Nat.le_refl _, ha, by simpa using hf⟩
      · have hyl := g3.len
        rw [hn, bind_of, Bool.not_true, ite2_false, pose_of (K := K) (by omega) h1 hb (y := ys) (by omega), bind_of, chk_pos (by simp; omega)]
        obtain ⟨qs, a', xs', i1, i2, i3, i4, i5⟩ := ih e ys (fr ++ [poseL ys b]) g2 (by omega) (by simp; omega) (by simp; omega)
        refine ⟨ys :: qs, a', xs', ?_, .cons g3 i2, by omega, i4, by simp at i5 ⊢; omega⟩
        rw [show (ys, ((e : Nat) : Int), true).2.1 = (e : Int) from rfl, show (ys, ((e : Nat) : Int), true).1 = ys from rfl, show (poseL ys b, true).1 = poseL ys b from rfl, i1, List.map_cons, List.append_assoc]; rfl
    · rw [if_neg (by omega)]
      exact ⟨[], a, xs, by simp, .nil, Nat.le_refl _, ha, by simpa using hf⟩
theorem pre_self {l : List Int} : Pre (strOf l) l := by
  refine ⟨by rw [strOf_size]; exact Nat.le_refl _, ?_⟩
  have := strOf_size l
  rw [← this]
  exact ByteArray.extract_zero_size
/-- The head is read. -/
theorem recover_head {K b : Nat} (h1 : 1 ≤ b) (hb : b ≤ 12) {s : ByteArray} (hs : s.size ≤ 1048576) (hp : Pre s (head0 b)) : impl_RecoverRecording K s = impl_RecoverRecording_l1 K s K 5 (zero0 b) [] ∧ bt s 4 = (b : Int) := by
  have h5 := hp.1
  rw [head0_len] at h5
  have h4 : bt s 4 = (b : Int) := by
    refine hp.bt (head0_in b) (i := 4) ?_
    unfold head0
    rw [List.getElem?_append_right (by simp), Wl1, wrap_u8_nat]
    simp; omega
  have hm : s.extract 0 4 = ByteArray.mk #[83, 75, 82, 49] := by
    have : Pre s [83, 75, 82, 49] := Pre.left (m := Wl b 1) hp
    exact this.2
  refine ⟨?_, h4⟩
  have e0 : IntKind.i64.wrap ((5 : Int) - 1) = 4 := by decide
  have ew : IntKind.i64.wrap (b : Int) = (b : Int) := wrap_in (by omega) (by omega)
  unfold impl_RecoverRecording impl_isCount
  rw [ite2_dec, if_neg (by omega), chk_pos (by omega), e0, show ((4 : Int).toNat) = 4 from rfl, show ((0 : Int).toNat) = 0 from rfl, hm, beq_self_eq_true, Bool.not_true, ite2_false, chk_pos (by omega), h4, ew]
  rw [ite2_dec, if_pos (by omega), bind_of, bind_of, decide_eq_true (by omega), Bool.not_true, bind_of, ite2_false, chk_pos (by omega), none_eq K b hb, bind_of]

end Go.Fw
