/- The laws of clips and of the mirror, in plain Lean. -/
import Derived.Test.YtbfcahbecedaiadFwGFSrcLaw
import Derived.Test.YtbfcahbecedaiadFwGFSameLaw
import Derived.Test.YtbfcahbecedaiadFwFC
namespace Go.Fw
open Go

theorem set_ne {α : Type} [Inhabited α] {xs : List α} {i j : Nat} {v : α} (h : i ≠ j) : (xs.set i v).getD j default = xs.getD j default := by
  rw [List.getD_eq_getElem?_getD, List.getElem?_set_ne h, ← List.getD_eq_getElem?_getD]
theorem getD_left {α : Type} [Inhabited α] {a b : List α} {j : Nat} (h : j < a.length) : (a ++ b).getD j default = a.getD j default := by
  rw [List.getD_eq_getElem?_getD, List.getElem?_append_left h, ← List.getD_eq_getElem?_getD]
theorem getD_end {α : Type} [Inhabited α] {a : List α} {x : α} {j : Nat} (h : j = a.length) : (a ++ [x]).getD j default = x := by
  subst h
  rw [List.getD_eq_getElem?_getD, List.getElem?_append_right (Nat.le_refl _), Nat.sub_self]; rfl
/-- A parent of the bone i. -/
def Par (i : Nat) (p : Int) : Prop := (i = 0 → p = -1) ∧ (0 < i → 0 ≤ p ∧ p < (i : Int))
/-- A skeleton that is right. -/
structure Sk (n : Nat) (s : Skeleton) : Prop where
  len : s.Bones.length = n
  n1 : 1 ≤ n
  n12 : n ≤ 12
  par : ∀ i, i < n → Par i (s.Bones.getD i default).Parent
theorem sized_loop {K n : Nat} {c : List Int} (hc : Byt c) (at0 sd0 : Int) (hn : n ≤ 12) : ∀ (k i : Nat) (a s : Int) (bs : List Bone), i ≤ n → n - i < k → bs.length = i → (∀ j, j < i → Par j (bs.getD j default).Parent) →
    Dr a (22 * ((n - i : Nat) : Int)) (spec_l03DrawSized_l1 K (l00Src.mk c at0 sd0) (n : Int) k (i : Int) a s bs) (fun x => x.Bones.length = n ∧ ∀ j, j < n → Par j (x.Bones.getD j default).Parent) := by
  intro k
  induction k with
  | zero => intro i a s bs _ h; omega
  | succ k ih =>
    intro i a s bs h1 h2 h3 h4
    rw [spec_l03DrawSized_l1]
    refine .ite (fun h => ?_) fun h => ?_
    · have hi : i < n := by have := of_decide_eq_true h; omega
      have w : IntKind.i64.wrap ((i : Int) + 1) = ((i + 1 : Nat) : Int) := by rw [wrap_in (by omega) (by omega)]; omega
      have w2 : IntKind.i64.wrap ((i : Int) - 1) = (i : Int) - 1 := wrap_in (by omega) (by omega)
      rw [show 22 * ((n - i : Nat) : Int) = 2 + (2 + (18 + 22 * ((n - (i + 1) : Nat) : Int))) by omega, w, w2]
      have step : ∀ (p : Int) (v : Vector), Par i p → ∀ j, j < i + 1 → Par j ((bs ++ [Bone.mk p v]).getD j default).Parent := by
        intro p v hp j hj
        by_cases e : j < i
        · rw [getD_left (by omega)]; exact h4 j e
        · have : j = i := by omega
          subst this
          rw [getD_end (by omega)]; exact hp
      refine .ite (fun g => ?_) fun g => ?_
      · have hpos : 0 < i := by have := of_decide_eq_true g; omega
        refine Dr.bind (pick_dr hc a s (i : Int)) (by omega) fun r a1 s1 hr => Dr.bind (one_dr hc a1 s1 2) (by omega) fun q a2 s2 _ => .ite (fun _ => ?_) fun _ => ?_
        · refine Dr.bind (vector_dr hc a2 s2) (by omega) fun v a3 s3 _ => .chk (by simp; omega) ?_
          exact ih (i + 1) a3 s3 _ (by omega) (by omega) (by simp; omega) (step _ _ ⟨fun e => by omega, fun _ => by omega⟩)
        · refine Dr.bind (vector_dr hc a2 s2) (by omega) fun v a3 s3 _ => .chk (by simp; omega) ?_
          exact ih (i + 1) a3 s3 _ (by omega) (by omega) (by simp; omega) (step _ _ ⟨fun e => by omega, fun _ => by show 0 ≤ r ∧ r < (i : Int); omega⟩)
      · have hz : i = 0 := by have := of_decide_eq_false g; omega
        refine Dr.weak (c := 18 + 22 * ((n - (i + 1) : Nat) : Int)) (P := fun x => x.Bones.length = n ∧ ∀ j, j < n → Par j (x.Bones.getD j default).Parent) ?_ (by omega) (fun _ h => h)
        refine Dr.bind (vector_dr hc a s) (by omega) fun v a3 s3 _ => .chk (by simp; omega) ?_
        exact ih (i + 1) a3 s3 _ (by omega) (by omega) (by simp; omega) (step _ _ ⟨fun _ => rfl, fun e => by omega⟩)
    · have hi : i = n := by have := of_decide_eq_false h; omega
      subst hi
      exact .of ⟨h3, h4⟩ (by omega) rfl
theorem Sk.valid {K n : Nat} {x : Skeleton} (hK : 20 < K) (h : Sk n x) : impl_ValidSkeleton K x = some true := by
  have h1 := h.len; have h2 := h.n1; have h3 := h.n12
  have loop : ∀ (k i : Nat), i + 1 ≤ n → n - i < k + 1 → impl_ValidSkeleton_l1 K x k (i : Int) = some true := by
    intro k
    induction k with
    | zero => intro i _ h; omega
    | succ k ih =>
      intro i g1 g2
      have hl : ((x.Bones.drop (1 : Int).toNat).take ((x.Bones.length : Int).toNat - (1 : Int).toNat)).length = n - 1 := by
        rw [List.length_take, List.length_drop]; simp; omega
      rw [impl_ValidSkeleton_l1, hl, ite2_dec, wrap_nat1 (by omega)]
      by_cases hi : i + 1 < n
      · have hg : ((x.Bones.drop (1 : Int).toNat).take (x.Bones.length - (1 : Int).toNat)).getD i default = x.Bones.getD (i + 1) default := by
          rw [List.getD_eq_getElem?_getD, List.getElem?_take, if_pos (by simp; omega), List.getElem?_drop, List.getD_eq_getElem?_getD]
          congr 2
          show 1 + i = i + 1
          omega
        have hp := (h.par (i + 1) hi).2 (by omega)
        rw [if_pos (by omega), chk_pos (by omega), Int.toNat_natCast, Int.toNat_natCast, hg, ite2_dec, if_neg (by omega), bind_of, ite2_dec, if_neg (by omega)]
        exact ih (i + 1) (by omega) (by omega)
      · rw [if_neg (by omega)]
  unfold impl_ValidSkeleton
  have hp := (h.par 0 (by omega)).1 rfl
  rw [ite2_dec, if_neg (by omega), ite2_dec, if_neg (by omega), chk_pos (by omega), bind_of]
  rw [show ((x.Bones.getD ((0 : Int).toNat) default).Parent != (-1 : Int)) = false by rw [show ((0 : Int).toNat) = 0 from rfl, hp]; rfl, ite2_false, chk_pos (by omega)]
  have := loop K 0 (by omega) (by omega)
  exact this
/-- A loop that appends. -/
theorem map_loop {α β γ : Type} [Inhabited α] (a : List α) (g : α → β) (r : Option γ) (l : Nat → Int → List β → Option γ) (hend : ∀ (k i : Nat), a.length ≤ i → l (k + 1) (i : Int) (a.map g) = r)
    (hstep : ∀ (k i : Nat) (xs : List β), i < a.length → xs.length = i → l (k + 1) (i : Int) xs = l k ((i + 1 : Nat) : Int) (xs ++ [g (a.getD i default)])) : ∀ (K : Nat), a.length < K → l K 0 [] = r := by
  have key : ∀ (k i : Nat), i ≤ a.length → a.length - i < k → l k (i : Int) ((a.take i).map g) = r := by
    intro k
    induction k with
    | zero => intro i _ h; omega
    | succ k ih =>
      intro i hi hk
      by_cases h : i < a.length
      · rw [hstep k i _ h (by simp; omega)]
        have : (a.take i).map g ++ [g (a.getD i default)] = (a.take (i + 1)).map g := by rw [take_succ_getD h, List.map_append]; rfl
        rw [this]
        exact ih (i + 1) (by omega) (by omega)
      · have e : a.take i = a := List.take_of_length_le (by omega)
        rw [e]
        exact hend k i (by omega)
  intro K hK
  have := key K 0 (by omega) (by omega)
  simpa using this
theorem ite2_and (x y : Bool) : ite2 x (some y) (some false) = some (x && y) := by cases x <;> rfl
theorem ite2_or (x y : Bool) : ite2 x (some true) (some y) = some (x || y) := by cases x <;> rfl
theorem ite2_nf (x y : Bool) : ite2 x (some false) (some y) = some (!x && y) := by cases x <;> rfl
theorem dec_lt (a b : Int) : decide (a < b) = !decide (b ≤ a) := by
  by_cases h : a < b
  · rw [decide_eq_true h, decide_eq_false (by omega)]; rfl
  · rw [decide_eq_false h, decide_eq_true (by omega)]; rfl
theorem dec_le (a b : Int) : decide (a ≤ b) = !decide (b < a) := by rw [dec_lt, Bool.not_not]
theorem dec_gt (a b : Int) : decide (a > b) = !decide (a ≤ b) := dec_lt b a
/-- Times that ascend behind one, up to the length. -/
def chn (len : Int) : Int → List Int → Bool
  | _, [] => true
  | last, a :: l => (decide (last < a) && decide (a ≤ len)) && chn len a l
def vtE (n : Nat) : Bool := decide ((1 : Int) ≤ (n : Int)) && decide ((n : Int) ≤ 12)
def vt (len : Int) (l : List Int) : Bool := chn len (-1) l && vtE l.length
theorem vtE_end (n : Nat) : ((ite2 ((decide ((n : Int) ≥ (1 : Int)))) (some (decide ((n : Int) ≤ (12 : Int)))) (some false)).bind fun j14 => some j14) = some (vtE n) := by
  rw [ite2_and]; rfl
theorem keyValid_loop {K : Nat} (a : List Key) (len : Int) (hl : a.length ≤ 1048576) : ∀ (k i : Nat) (last : Int), i ≤ a.length → a.length - i < k →
    impl_track_impl_Key_valid_l1 K a len k last (i : Int) = some (chn len last ((a.drop i).map Key.At) && vtE a.length) := by
  intro k
  induction k with
  | zero => intro i _ _ h; omega
  | succ k ih =>
    intro i last hi hk
    rw [impl_track_impl_Key_valid_l1, ite2_dec]
    by_cases h : i < a.length
    · have hc : (i : Int) < (a.length : Int) := by omega
      have hd : a.drop i = a.getD i default :: a.drop (i + 1) := by rw [List.drop_eq_getElem_cons h, getD_of_lt h]
      unfold impl_turnTrack_1
      simp (disch := omega) only [if_pos hc, chk_pos, Int.toNat_natCast, wrap_nat1, bind_of, ite2_or, ih (i + 1) _ h (by omega)]
      rw [hd, List.map_cons]
      simp only [chn, ite2_nf]
      rw [dec_lt last (a.getD i default).At, dec_gt (a.getD i default).At len]
      cases decide ((a.getD i default).At ≤ last) <;> cases decide ((a.getD i default).At ≤ len) <;> rfl
    · have e : a.drop i = [] := List.drop_of_length_le (by omega)
      rw [if_neg (by omega), vtE_end, e]; rfl
theorem rootValid_loop {K : Nat} (a : List RootKey) (len : Int) (hl : a.length ≤ 1048576) : ∀ (k i : Nat) (last : Int), i ≤ a.length → a.length - i < k →
    impl_track_impl_RootKey_valid_l1 K a len k last (i : Int) = some (chn len last ((a.drop i).map RootKey.At) && vtE a.length) := by
  intro k
  induction k with
  | zero => intro i _ _ h; omega
  | succ k ih =>
    intro i last hi hk
    rw [impl_track_impl_RootKey_valid_l1, ite2_dec]
    by_cases h : i < a.length
    · have hc : (i : Int) < (a.length : Int) := by omega
      have hd : a.drop i = a.getD i default :: a.drop (i + 1) := by rw [List.drop_eq_getElem_cons h, getD_of_lt h]
      unfold impl_rootTrack_1
      simp (disch := omega) only [if_pos hc, chk_pos, Int.toNat_natCast, wrap_nat1, bind_of, ite2_or, ih (i + 1) _ h (by omega)]
      rw [hd, List.map_cons]
      simp only [chn, ite2_nf]
      rw [dec_lt last (a.getD i default).At, dec_gt (a.getD i default).At len]
      cases decide ((a.getD i default).At ≤ last) <;> cases decide ((a.getD i default).At ≤ len) <;> rfl
    · have e : a.drop i = [] := List.drop_of_length_le (by omega)
      rw [if_neg (by omega), vtE_end, e]; rfl
theorem keyValid_eq {K : Nat} {a : List Key} (len : Int) (hl : a.length ≤ 1048576) (hK : a.length < K) : impl_track_impl_Key_valid K a len = some (vt len (a.map Key.At)) := by
  have := keyValid_loop (K := K) a len hl K 0 (-1) (by omega) (by omega)
  unfold impl_track_impl_Key_valid vt
  rw [List.length_map]
  simpa using this
theorem rootValid_eq {K : Nat} {a : List RootKey} (len : Int) (hl : a.length ≤ 1048576) (hK : a.length < K) : impl_track_impl_RootKey_valid K a len = some (vt len (a.map RootKey.At)) := by
  have := rootValid_loop (K := K) a len hl K 0 (-1) (by omega) (by omega)
  unfold impl_track_impl_RootKey_valid vt
  rw [List.length_map]
  simpa using this
/-- A clip whose keys are right. -/
def keysC (c : Clip) : Bool := c.Tracks.all (fun t => vt c.Length (t.map Key.At)) && vt c.Length (c.Roots.map RootKey.At)
def validC (c : Clip) : Bool := ((decide (1 ≤ c.Length) && decide (c.Length ≤ 1000)) && ((decide (0 ≤ c.Kind) && decide (c.Kind ≤ 2)) && (decide ((1 : Int) ≤ (c.Tracks.length : Int)) && decide ((c.Tracks.length : Int) ≤ 12)))) && keysC c
/-- Lengths that the laws bear. -/
structure Okc (K : Nat) (c : Clip) : Prop where
  tl : c.Tracks.length ≤ 1048576
  rl : c.Roots.length ≤ 1048576
  kl : ∀ t ∈ c.Tracks, t.length ≤ 1048576
theorem ValidClip_eq {K : Nat} (hK : 1048577 < K) {c : Clip} (h : Okc K c) : impl_ValidClip K c = some (validC c) := by
  have loop : ∀ (k i : Nat), i ≤ c.Tracks.length → c.Tracks.length - i < k → impl_ValidClip_l1 K c k (i : Int) = some ((c.Tracks.drop i).all (fun t => vt c.Length (t.map Key.At)) && vt c.Length (c.Roots.map RootKey.At)) := by
    intro k
    induction k with
    | zero => intro i _ h; omega
    | succ k ih =>
      intro i hi hk
      have htl := h.tl
      have hrl := h.rl
      rw [impl_ValidClip_l1, ite2_dec]
      unfold impl_turnTrack impl_rootTrack
      by_cases hlt : i < c.Tracks.length
      · have hc : (i : Int) < (c.Tracks.length : Int) := by omega
        have hd : c.Tracks.drop i = c.Tracks.getD i default :: c.Tracks.drop (i + 1) := by rw [List.drop_eq_getElem_cons hlt, getD_of_lt hlt]
        have hkl := h.kl _ (getD_mem hlt)
        simp (disch := omega) only [if_pos hc, chk_pos, Int.toNat_natCast, wrap_nat1, bind_of]
        rw [keyValid_eq (K := K) _ hkl (by omega), bind_of, ih (i + 1) (by omega) (by omega), hd, List.all_cons, ite2_nf, Bool.not_not, Bool.and_assoc]
      · have e : c.Tracks.drop i = [] := List.drop_of_length_le (by omega)
        rw [if_neg (by omega), bind_of, rootValid_eq (K := K) _ hrl (by omega), bind_of, e]; rfl
  unfold impl_ValidClip
  have := loop K 0 (by omega) (by have := h.tl; omega)
  rw [List.drop_zero] at this
  rw [show impl_ValidClip_l1 K c K (0 : Int) = _ from this]
  simp only [bind_of, ite2_or, ite2_nf, validC, keysC, dec_lt, gt_iff_lt, Bool.not_or, Bool.not_not, Bool.and_assoc]
/-- A clip that is right: its parts. -/
structure Rc (c : Clip) : Prop where
  len : 1 ≤ c.Length ∧ c.Length ≤ 1000
  kind : 0 ≤ c.Kind ∧ c.Kind ≤ 2
  tracks : 1 ≤ c.Tracks.length ∧ c.Tracks.length ≤ 12
  keys : ∀ t ∈ c.Tracks, vt c.Length (t.map Key.At) = true
  roots : vt c.Length (c.Roots.map RootKey.At) = true
theorem validC_spec {c : Clip} : validC c = true ↔ Rc c := by
  unfold validC keysC
  simp only [Bool.and_eq_true, decide_eq_true_eq, List.all_eq_true]
  constructor
  · rintro ⟨⟨h1, h2, h3⟩, h4, h5⟩
    exact ⟨h1, h2, by omega, h4, h5⟩
  · rintro ⟨h1, h2, h3, h4, h5⟩
    exact ⟨⟨h1, h2, by omega⟩, h4, h5⟩
theorem vt_len {len : Int} {l : List Int} (h : vt len l = true) : 1 ≤ l.length ∧ l.length ≤ 12 := by
  unfold vt vtE at h
  simp only [Bool.and_eq_true, decide_eq_true_eq] at h
  omega
theorem validClip_eq {K : Nat} (hK : 1048577 < K) {c : Clip} (h : Okc K c) : impl_validClip K c = some (if validC c = true then (c, true) else (Clip.mk 0 0 [] [], false)) := by
  unfold impl_validClip
  rw [ValidClip_eq hK h, bind_of]
  cases validC c <;> rfl
/-- A loop that turns each element where it lies. -/
theorem mapset_loop {α γ : Type} [Inhabited α] (a : List α) (g : α → α) (r : Option γ) (l : Nat → Int → List α → Option γ) (hend : ∀ (k i : Nat), a.length ≤ i → l (k + 1) (i : Int) (a.map g) = r)
    (hstep : ∀ (k i : Nat) (xs : List α), i < a.length → xs.length = a.length → xs.getD i default = a.getD i default → l (k + 1) (i : Int) xs = l k ((i + 1 : Nat) : Int) (xs.set i (g (a.getD i default)))) : ∀ (K : Nat), a.length < K → l K 0 a = r := by
  have key : ∀ (k i : Nat), i ≤ a.length → a.length - i < k → l k (i : Int) ((a.take i).map g ++ a.drop i) = r := by
    intro k
    induction k with
    | zero => intro i _ h; omega
    | succ k ih =>
      intro i hi hk
      by_cases h : i < a.length
      · have hl1 : ((a.take i).map g).length = i := by simp; omega
        have hl : ((a.take i).map g ++ a.drop i).length = a.length := by rw [List.length_append, hl1, List.length_drop]; omega
        have hg : ((a.take i).map g ++ a.drop i).getD i default = a.getD i default := by
          rw [List.getD_eq_getElem?_getD, List.getElem?_append_right (by omega), hl1, Nat.sub_self, List.getElem?_drop, Nat.add_zero, ← List.getD_eq_getElem?_getD]
        rw [hstep k i _ h hl hg, List.set_append_right _ _ (by omega), hl1, Nat.sub_self, List.drop_eq_getElem_cons h, List.set_cons_zero]
        have : (a.take i).map g ++ g (a.getD i default) :: a.drop (i + 1) = (a.take (i + 1)).map g ++ a.drop (i + 1) := by
          rw [take_succ_getD h, List.map_append, List.append_assoc]; rfl
        rw [this]
        exact ih (i + 1) (by omega) (by omega)
      · have e : i = a.length := by omega
        rw [e, List.take_length, List.drop_length, List.append_nil]
        exact hend k _ (Nat.le_refl _)
  intro K hK
  have := key K 0 (by omega) (by omega)
  simpa using this
/-- A loop that asks of each. -/
theorem all_loop (n : Nat) (f : Nat → Bool) (l : Nat → Int → Option Bool) (hend : ∀ (k i : Nat), n ≤ i → l (k + 1) (i : Int) = some true)
    (hstep : ∀ (k i : Nat), i < n → l (k + 1) (i : Int) = ite2 (f i) (l k ((i + 1 : Nat) : Int)) (some false)) : ∀ (k i : Nat), n - i < k → ∃ b, l k (i : Int) = some b ∧ (b = true ↔ ∀ j, i ≤ j → j < n → f j = true) := by
  intro k
  induction k with
  | zero => intro i h; omega
  | succ k ih =>
    intro i hk
    by_cases h : i < n
    · rw [hstep k i h]
      cases hf : f i
      · exact ⟨false, rfl, fun h' => (by cases h'), fun h' => by rw [h' i (Nat.le_refl _) h] at hf; cases hf⟩
      · obtain ⟨b, e, hb⟩ := ih (i + 1) (by omega)
        refine ⟨b, e, hb.trans ⟨fun hj j h1 h2 => ?_, fun hj j h1 h2 => hj j (by omega) h2⟩⟩
        rcases Nat.lt_or_ge i j with g | g
        · exact hj j g h2
        · have : j = i := by omega
          rw [this]; exact hf
    · exact ⟨true, hend k i (by omega), fun _ j h1 h2 => by omega, fun _ => rfl⟩
/-- A skeleton that is right. -/
structure Rk (k : Skeleton) : Prop where
  len : 1 ≤ k.Bones.length ∧ k.Bones.length ≤ 12
  first : (k.Bones.getD 0 default).Parent = -1
  par : ∀ i, 1 ≤ i → i < k.Bones.length → 0 ≤ (k.Bones.getD i default).Parent ∧ (k.Bones.getD i default).Parent ≤ (i : Int) - 1
theorem implK {K : Nat} (hK : 1048577 < K) (k : Skeleton) (_hs : k.Bones.length ≤ 1048576) : ∃ b, impl_ValidSkeleton K k = some b ∧ (b = true ↔ Rk k) := by
  unfold impl_ValidSkeleton
  by_cases hl : 1 ≤ k.Bones.length ∧ k.Bones.length ≤ 12
  · have d1 : decide ((k.Bones.length : Int) < 1) = false := decide_eq_false (by omega)
    have d2 : decide ((k.Bones.length : Int) > 12) = false := decide_eq_false (by omega)
    have e0 : (0 : Int).toNat = 0 := rfl
    have e1 : (1 : Int).toNat = 1 := rfl
    simp (disch := omega) only [d1, d2, ite2_false, chk_pos, bind_of, e0]
    by_cases h1 : (k.Bones.getD 0 default).Parent = -1
    · have : ((k.Bones.getD 0 default).Parent != -1) = false := by rw [h1]; rfl
      rw [this, ite2_false]
      have hd : (k.Bones.drop (1 : Int).toNat).take ((k.Bones.length : Int).toNat - (1 : Int).toNat) = k.Bones.drop 1 := by
        rw [e1, Int.toNat_natCast]
        exact List.take_of_length_le (by rw [List.length_drop]; omega)
      have hlen : (k.Bones.drop 1).length = k.Bones.length - 1 := by rw [List.length_drop]
      have hget : ∀ i, (k.Bones.drop 1).getD i default = k.Bones.getD (i + 1) default := by
        intro i
        rw [List.getD_eq_getElem?_getD, List.getElem?_drop, ← List.getD_eq_getElem?_getD, Nat.add_comm]
      obtain ⟨b, e, hb⟩ := all_loop (k.Bones.length - 1) (fun i => decide (0 ≤ (k.Bones.getD (i + 1) default).Parent) && decide ((k.Bones.getD (i + 1) default).Parent ≤ (i : Int))) (impl_ValidSkeleton_l1 K k)
        (fun n i hi => by rw [impl_ValidSkeleton_l1, hd, ite2_dec, if_neg (by omega)]) (fun n i hi => by
          have hc : (i : Int) < ((k.Bones.drop 1).length : Int) := by omega
          rw [impl_ValidSkeleton_l1, hd]
          simp (disch := omega) only [ite2_dec (((i : Nat) : Int) < _), if_pos hc, chk_pos, Int.toNat_natCast, wrap_nat1, hget]
          rw [dec_lt (k.Bones.getD (i + 1) default).Parent 0, dec_gt (k.Bones.getD (i + 1) default).Parent (i : Int)]
          cases decide (0 ≤ (k.Bones.getD (i + 1) default).Parent) <;> cases decide ((k.Bones.getD (i + 1) default).Parent ≤ (i : Int)) <;> rfl) K 0 (by omega)
      refine ⟨b, e, hb.trans ⟨fun h => ⟨hl, h1, fun i hi hi2 => ?_⟩, fun h j hj hj2 => ?_⟩⟩
      · have := h (i - 1) (by omega) (by omega)
        rw [Bool.and_eq_true, decide_eq_true_eq, decide_eq_true_eq, show i - 1 + 1 = i by omega] at this
        omega
      · have := h.par (j + 1) (by omega) (by omega)
        rw [Bool.and_eq_true, decide_eq_true_eq, decide_eq_true_eq]
        omega
    · have : ((k.Bones.getD 0 default).Parent != -1) = true := by simpa using h1
      rw [this]
      exact ⟨false, rfl, fun h => (by cases h), fun h => absurd h.first h1⟩
  · by_cases h1 : k.Bones.length < 1
    · have d1 : decide ((k.Bones.length : Int) < 1) = true := decide_eq_true (by omega)
      rw [d1]
      exact ⟨false, rfl, fun h => (by cases h), fun h => absurd h.len hl⟩
    · have d1 : decide ((k.Bones.length : Int) < 1) = false := decide_eq_false (by omega)
      have d2 : decide ((k.Bones.length : Int) > 12) = true := decide_eq_true (by omega)
      rw [d1, d2]
      exact ⟨false, rfl, fun h => (by cases h), fun h => absurd h.len hl⟩
/-- Pairs that are right. -/
structure Rp (k : Skeleton) (p : List Int) : Prop where
  len : p.length = k.Bones.length
  inn : ∀ i, i < k.Bones.length → 0 ≤ p.getD i default ∧ p.getD i default < (k.Bones.length : Int)
  back : ∀ i, i < k.Bones.length → p.getD (p.getD i default).toNat default = (i : Int)
  par : ∀ i, 1 ≤ i → i < k.Bones.length → (k.Bones.getD (p.getD i default).toNat default).Parent = p.getD (k.Bones.getD i default).Parent.toNat default
theorem Rp.zero {k : Skeleton} {p : List Int} (hk : Rk k) (h : Rp k p) : p.getD 0 default = 0 := by
  have hl := hk.len
  have h0 := h.inn 0 (by omega)
  have h1 := h.back 0 (by omega)
  apply Classical.byContradiction
  intro hne
  have h2 := h.par (p.getD 0 default).toNat (by omega) (by omega)
  rw [h1] at h2
  have h3 : (k.Bones.getD ((0 : Nat) : Int).toNat default).Parent = -1 := hk.first
  rw [h3] at h2
  have h4 := hk.par (p.getD 0 default).toNat (by omega) (by omega)
  have h5 := h.inn (k.Bones.getD (p.getD 0 default).toNat default).Parent.toNat (by omega)
  omega
theorem index_loop {K : Nat} (p : List Int) (n : Int) (hl : p.length ≤ 1048576) : ∀ (k i : Nat), p.length - i < k → ∃ r, slices_IndexFunc_int64_int64_l1 K p n k (i : Int) = some r ∧ (r ≥ 0 ↔ ∃ j, i ≤ j ∧ j < p.length ∧ ¬ (0 ≤ p.getD j default ∧ p.getD j default < n)) := by
  intro k
  induction k with
  | zero => intro i h; omega
  | succ k ih =>
    intro i hk
    rw [slices_IndexFunc_int64_int64_l1, ite2_dec]
    by_cases h : i < p.length
    · have hc : (i : Int) < (p.length : Int) := by omega
      unfold impl_IsPairing_1
      simp (disch := omega) only [if_pos hc, chk_pos, Int.toNat_natCast, wrap_nat1, ite2_or, bind_of]
      by_cases hb : 0 ≤ p.getD i default ∧ p.getD i default < n
      · have : (decide (p.getD i default < 0) || decide (p.getD i default ≥ n)) = false := by
          rw [Bool.or_eq_false_iff, decide_eq_false_iff_not, decide_eq_false_iff_not]; omega
        rw [this, ite2_false]
        obtain ⟨r, e, hr⟩ := ih (i + 1) (by omega)
        refine ⟨r, e, hr.trans ⟨fun ⟨j, h1, h2, h3⟩ => ⟨j, by omega, h2, h3⟩, fun ⟨j, h1, h2, h3⟩ => ⟨j, ?_, h2, h3⟩⟩⟩
        rcases Nat.lt_or_ge i j with g | g
        · exact g
        · have : j = i := by omega
          rw [this] at h3; exact absurd hb h3
      · have : (decide (p.getD i default < 0) || decide (p.getD i default ≥ n)) = true := by
          rw [Bool.or_eq_true, decide_eq_true_eq, decide_eq_true_eq]; omega
        rw [this, ite2_true]
        exact ⟨_, rfl, fun _ => ⟨i, Nat.le_refl _, h, hb⟩, fun _ => by omega⟩
    · rw [if_neg (by omega)]
      exact ⟨-1, rfl, fun h => by omega, fun ⟨j, h1, h2, _⟩ => by omega⟩
theorem implP {K : Nat} (hK : 1048577 < K) (k : Skeleton) (hs : k.Bones.length ≤ 1048576) (p : List Int) (hp : p.length ≤ 1048576) : ∃ b, impl_IsPairing K k p = some b ∧ (b = true ↔ Rk k ∧ Rp k p) := by
  unfold impl_IsPairing
  obtain ⟨v, v1, v2⟩ := implK hK k hs
  rw [v1, bind_of]
  cases v
  · exact ⟨false, rfl, fun h => (by cases h), fun h => absurd (v2.2 h.1) (by decide)⟩
  · have hk := v2.1 rfl
    have hl := hk.len
    simp only [Bool.not_true, ite2_false, bind_of]
    by_cases he : p.length = k.Bones.length
    · have : ((p.length : Int) != (k.Bones.length : Int)) = false := by rw [he]; simp
      rw [this, ite2_false]
      unfold slices_ContainsFunc_int64_int64 slices_IndexFunc_int64_int64
      obtain ⟨r, r1, r2⟩ := index_loop (K := K) p (k.Bones.length : Int) hp K 0 (by omega)
      rw [show slices_IndexFunc_int64_int64_l1 K p (k.Bones.length : Int) K (0 : Int) = some r from r1, bind_of, bind_of]
      by_cases hr : r ≥ 0
      · rw [decide_eq_true hr]
        refine ⟨false, rfl, fun h => (by cases h), fun h => ?_⟩
        obtain ⟨j, _, h2, h3⟩ := r2.1 hr
        exact absurd (h.2.inn j (by omega)) h3
      · rw [decide_eq_false hr, ite2_false]
        have hin : ∀ j, j < p.length → 0 ≤ p.getD j default ∧ p.getD j default < (k.Bones.length : Int) := fun j hj => by
          apply Classical.byContradiction
          intro hn
          exact hr (r2.2 ⟨j, by omega, hj, hn⟩)
        obtain ⟨b, e, hb⟩ := all_loop p.length (fun i => (p.getD (p.getD i default).toNat default == (i : Int)) && (if i = 0 then true else (k.Bones.getD (p.getD i default).toNat default).Parent == p.getD (k.Bones.getD i default).Parent.toNat default)) (impl_IsPairing_l1 K k p)
          (fun n i hi => by rw [impl_IsPairing_l1, ite2_dec, if_neg (by omega)]) (fun n i hi => by
            have hc : (i : Int) < (p.length : Int) := by omega
            have hii := hin i hi
            rw [impl_IsPairing_l1]
            simp (disch := omega) only [ite2_dec, if_pos hc, chk_pos, Int.toNat_natCast, wrap_nat1]
            cases hq : (p.getD (p.getD i default).toNat default == (i : Int))
            · have : (p.getD (p.getD i default).toNat default != (i : Int)) = true := by rw [bne, hq]; rfl
              rw [this]; rfl
            · have : (p.getD (p.getD i default).toNat default != (i : Int)) = false := by rw [bne, hq]; rfl
              rw [this, ite2_false]
              by_cases hz : i = 0
              · subst hz
                rw [if_pos rfl, if_neg (show ¬ (((0 : Nat) : Int) > 0) by omega)]; rfl
              · have hpar := hk.par i (by omega) (by omega)
                rw [if_neg hz, if_pos (show (i : Int) > 0 by omega)]
                simp (disch := omega) only [chk_pos, bind_of]
                cases hq2 : ((k.Bones.getD (p.getD i default).toNat default).Parent == p.getD (k.Bones.getD i default).Parent.toNat default)
                · have : ((k.Bones.getD (p.getD i default).toNat default).Parent != p.getD (k.Bones.getD i default).Parent.toNat default) = true := by rw [bne, hq2]; rfl
                  rw [this]; rfl
                · have : ((k.Bones.getD (p.getD i default).toNat default).Parent != p.getD (k.Bones.getD i default).Parent.toNat default) = false := by rw [bne, hq2]; rfl
                  rw [this]; rfl) K 0 (by omega)
        refine ⟨b, e, hb.trans ⟨fun h => ⟨hk, he, fun i hi => hin i (by omega), fun i hi => ?_, fun i h1 hi => ?_⟩, fun h j _ hj => ?_⟩⟩
        · have := h i (by omega) (by omega)
          simp only [Bool.and_eq_true, beq_iff_eq] at this
          exact this.1
        · have := h i (by omega) (by omega)
          rw [if_neg (by omega)] at this
          simp only [Bool.and_eq_true, beq_iff_eq] at this
          exact this.2
        · simp only [Bool.and_eq_true, beq_iff_eq]
          refine ⟨h.2.back j (by omega), ?_⟩
          by_cases hz : j = 0
          · rw [if_pos hz]
          · rw [if_neg hz, beq_iff_eq]
            exact h.2.par j (by omega) (by omega)
    · have : ((p.length : Int) != (k.Bones.length : Int)) = true := by rw [bne_iff_ne]; omega
      rw [this]
      exact ⟨false, rfl, fun h => (by cases h), fun h => absurd h.2.len he⟩
def mirT (t : Turn) : Turn := Turn.mk t.W t.X t.Y.neg t.Z.neg
def mirK (k : Key) : Key := Key.mk k.At (mirT k.Turn)
def mirR (k : RootKey) : RootKey := RootKey.mk k.At (Vector.mk k.Place.X.neg k.Place.Y k.Place.Z)
def mirC (c : Clip) (p : List Int) : Clip := Clip.mk c.Length c.Kind (p.map fun b => (c.Tracks.getD b.toNat default).map mirK) (c.Roots.map mirR)
theorem ite2_some {α : Type} (b : Bool) (x y : α) : ite2 b (some x) (some y) = some (if b = true then x else y) := by cases b <;> rfl
theorem sqrt_spec (K : Nat) (x : F32) : spec_l01Sqrt K x = some (Fl.cv .f64 .f32 (Fl.cv .f32 .f64 x).sqrt) := by
  unfold spec_l01Sqrt math_Sqrt math_sqrt spec_l01Narrow
  simp only [bind_of, chk_pos (narrow_root x)]
theorem mend_some (K : Nat) (a : Turn) : ∃ t, spec_l02Mend K a = some t := by
  unfold spec_l02Mend spec_l02Inner spec_l01Finite spec_l02No
  simp only [bind_of, sqrt_spec, ite2_some]
  exact ⟨_, rfl⟩
theorem exact_dr {K : Nat} {c : List Int} (hc : Byt c) (at_ sd : Int) : Dr at_ 2 (spec_l02DrawExact K (l00Src.mk c at_ sd)) (fun _ => True) := by
  unfold spec_l02DrawExact
  refine Dr.bind (c2 := 0) (pick_dr hc at_ sd 24) (by decide) fun r a1 s1 _ => ?_
  have o : ∀ t : Turn, Dr a1 0 (some (t, a1, s1)) (fun _ => True) := fun t => .of trivial (by decide) rfl
  exact .ite (fun _ => .ite (fun _ => .chk (by decide) (.ite (fun _ => o _) fun _ => .ite (fun _ => o _) fun _ => .ite (fun _ => o _) fun _ => o _)) fun _ => .chk (by decide) (.ite (fun _ => o _) fun _ => .ite (fun _ => o _) fun _ => .ite (fun _ => o _) fun _ => o _)) fun _ => .chk (by decide) (.chk (by decide) (.chk (by decide) (o _)))
theorem turn_dr {K : Nat} {c : List Int} (hc : Byt c) (at_ sd : Int) : Dr at_ 10 (spec_l02DrawTurn K (l00Src.mk c at_ sd)) (fun _ => True) := by
  unfold spec_l02DrawTurn
  refine Dr.bind (c1 := 2) (c2 := 8) (one_dr hc at_ sd 2) (by decide) fun r a1 s1 _ => .ite (fun _ => ?_) fun _ => ?_
  · exact Dr.weak (c := 2 + 0) (P := fun _ => True) (Dr.bind (exact_dr hc a1 s1) (by decide) fun r2 a2 s2 _ => .of trivial (by decide) rfl) (by decide) (fun _ h => h)
  · refine Dr.bind (c1 := 2) (c2 := 6) (small_dr hc a1 s1) (by decide) fun r2 a2 s2 _ => Dr.bind (c1 := 2) (c2 := 4) (small_dr hc a2 s2) (by decide) fun r3 a3 s3 _ => Dr.bind (c1 := 2) (c2 := 2) (small_dr hc a3 s3) (by decide) fun r4 a4 s4 _ => Dr.bind (c1 := 2) (c2 := 0) (small_dr hc a4 s4) (by decide) fun r5 a5 s5 _ => ?_
    obtain ⟨t, ht⟩ := mend_some K (Turn.mk r2 r3 r4 r5)
    simp only [ht, bind_of]
    exact .of trivial (by decide) rfl
theorem pose_loop {K : Nat} {c : List Int} (hc : Byt c) (at_ sd : Int) (v1 : Vector × Int × Int) : ∀ (k m : Nat) (a s : Int) (xs : List Turn), m < k → xs.length + m ≤ 12 →
    Dr a (10 * (m : Int)) (spec_l03DrawPose_l1 K (l00Src.mk c at_ sd) v1 k (m : Int) a s xs) (fun p => p.Turns.length = xs.length + m) := by
  intro k
  induction k with
  | zero => intro m a s xs h; omega
  | succ k ih =>
    intro m a s xs hk hl
    rw [spec_l03DrawPose_l1]
    cases m with
    | zero => exact .ite (fun h => by have := of_decide_eq_true h; omega) fun _ => .of (by simp) (by decide) rfl
    | succ m =>
      refine .ite (fun _ => ?_) (fun h => by have := of_decide_eq_false h; omega)
      have e : (10 * ((m + 1 : Nat) : Int)) = 10 + 10 * (m : Int) := by omega
      rw [e]
      refine Dr.bind (turn_dr hc a s) (by omega) fun r a1 s1 _ => ?_
      have w : IntKind.i64.wrap (((m + 1 : Nat) : Int) - 1) = (m : Int) := by rw [wrap_in (by omega) (by omega)]; omega
      show Dr a1 _ (Go.Fw.chk ((xs.length + [r].length) * 16 ≤ 140737488355328) (spec_l03DrawPose_l1 K (l00Src.mk c at_ sd) v1 k (IntKind.i64.wrap (((m + 1 : Nat) : Int) - 1)) a1 s1 (xs ++ [r]))) _
      rw [w]
      refine .chk (by simp; omega) (Dr.weak (ih m a1 s1 (xs ++ [r]) (by omega) (by simp; omega)) (Int.le_refl _) fun p hp => ?_)
      rw [hp]; simp; omega
theorem pose_dr {K : Nat} {c : List Int} (hc : Byt c) (at_ sd : Int) (n : Nat) (hn : n ≤ 12) (hK : n < K) : Dr at_ (18 + 10 * (n : Int)) (spec_l03DrawPose K (l00Src.mk c at_ sd) (n : Int)) (fun p => p.Turns.length = n) := by
  unfold spec_l03DrawPose
  refine Dr.bind (vector_dr hc at_ sd) (by omega) fun r a1 s1 _ => ?_
  exact Dr.weak (pose_loop hc at_ sd (r, a1, s1) K n a1 s1 [] hK (by simpa using hn)) (Int.le_refl _) fun p hp => by simpa using hp

end Go.Fw
