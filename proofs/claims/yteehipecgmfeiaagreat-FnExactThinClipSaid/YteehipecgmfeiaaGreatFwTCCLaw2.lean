/- The laws of clips, in plain Lean: which clips are right. (A template: TC stands for the generated text's name.) -/
import Derived.Test.YteehipecgmfeiaaGreatFwTCLaw
namespace Go.Fw
open Go

/-- A loop that appends. -/
theorem map_loop {α β γ : Type} [Inhabited α] (a : List α) (g : α → β) (r : Option γ) (l : Nat → Int → List β → Option γ) (hend : ∀ (k i : Nat), a.length ≤ i → l (k + 1) (i : Int) (a.map g) = r)
    (hstep : ∀ (k i : Nat) (xs : List β), i < a.length → xs.length = i → l (k + 1) (i : Int) xs = l k ((i + 1 : Nat) : Int) (xs ++ [g (a.getD i default)])) : ∀ (K : Nat), a.length < K → l K 0 [] = r := by
  have key : ∀ (k i : Nat), i ≤ a.length → a.length - i < k → l k (i : Int) ((a.take i).map g) = r := by
    intro k
    induction k with
    | zero => intro i _ h; omega
    | succ k ih =>
      intro i hi hk
      by_cases h : i < a.length
      · rw [hstep k i _ h (by simp; omega)]
        have : (a.take i).map g ++ [g (a.getD i default)] = (a.take (i + 1)).map g := by rw [take_succ_getD h, List.map_append]; rfl
        rw [this]
        exact ih (i + 1) (by omega) (by omega)
      · have e : a.take i = a := List.take_of_length_le (by omega)
        rw [e]
        exact hend k i (by omega)
  intro K hK
  have := key K 0 (by omega) (by omega)
  simpa using this

theorem In_eq (K : Nat) (a b c : Int) : spec_l00In K a b c = some (decide (b ≤ a) && decide (a ≤ c)) := by
  unfold spec_l00In
  rw [ite2_dec]
  by_cases h : b ≤ a
  · rw [if_pos (by omega)]; simp [h]
  · rw [if_neg (by omega)]; simp [h]
theorem ite2_and (x y : Bool) : ite2 x (some y) (some false) = some (x && y) := by cases x <;> rfl
theorem ite2_or (x y : Bool) : ite2 x (some true) (some y) = some (x || y) := by cases x <;> rfl
theorem ite2_nf (x y : Bool) : ite2 x (some false) (some y) = some (!x && y) := by cases x <;> rfl
theorem dec_lt (a b : Int) : decide (a < b) = !decide (b ≤ a) := by
  by_cases h : a < b
  · rw [decide_eq_true h, decide_eq_false (by omega)]; rfl
  · rw [decide_eq_false h, decide_eq_true (by omega)]; rfl

theorem dec_le (a b : Int) : decide (a ≤ b) = !decide (b < a) := by rw [dec_lt, Bool.not_not]
theorem dec_gt (a b : Int) : decide (a > b) = !decide (a ≤ b) := dec_lt b a

/-- Times that ascend behind one, up to the length. -/
def chn (len : Int) : Int → List Int → Bool
  | _, [] => true
  | last, a :: l => (decide (last < a) && decide (a ≤ len)) && chn len a l
def vtE (n : Nat) : Bool := decide ((1 : Int) ≤ (n : Int)) && decide ((n : Int) ≤ 12)
def vt (len : Int) (l : List Int) : Bool := chn len (-1) l && vtE l.length
theorem vtE_end (n : Nat) : ((ite2 ((decide ((n : Int) ≥ (1 : Int)))) (some (decide ((n : Int) ≤ (12 : Int)))) (some false)).bind fun j14 => some j14) = some (vtE n) := by
  rw [ite2_and]; rfl

theorem times_loop {K : Nat} (l : List Int) (len : Int) (hl : l.length ≤ 1048576) : ∀ (k i : Nat), i ≤ l.length → l.length - i < k → (i = 0 ∨ 0 ≤ l.getD (i - 1) default) →
    spec_l05Times_l1 K l len k (i : Int) = some (chn len (if i = 0 then -1 else l.getD (i - 1) default) (l.drop i) && vtE l.length) := by
  intro k
  induction k with
  | zero => intro i _ h; omega
  | succ k ih =>
    intro i hi hk hp
    rw [spec_l05Times_l1, ite2_dec]
    by_cases h : i < l.length
    · have hc : (i : Int) < (l.length : Int) := by omega
      have hd : l.drop i = l.getD i default :: l.drop (i + 1) := by rw [List.drop_eq_getElem_cons h, getD_of_lt h]
      have hnext := ih (i + 1) (by omega) (by omega)
      have e1 : i + 1 - 1 = i := by omega
      rw [if_neg (by omega : ¬ (i + 1 = 0)), e1] at hnext
      simp (disch := omega) only [if_pos hc, chk_pos, Int.toNat_natCast, wrap_nat1, In_eq, bind_of]
      rw [hd]
      simp only [chn]
      obtain ⟨a, ha0⟩ : ∃ a, l.getD i default = a := ⟨_, rfl⟩
      simp only [ha0] at hnext ⊢
      by_cases hz : i = 0
      · subst hz
        simp only [if_true, ite2_dec]
        rw [if_neg (by omega : ¬ (((0 : Nat) : Int) > 0)), ite2_or, bind_of]
        by_cases ha : 0 ≤ a ∧ a ≤ len
        · rw [decide_eq_true ha.1, decide_eq_true ha.2, decide_eq_true (show (-1 : Int) < a by omega)]
          simp only [Bool.and_self, Bool.not_true, Bool.or_self, ite2_false, Bool.true_and]
          exact hnext (.inr ha.1)
        · have : (decide (0 ≤ a) && decide (a ≤ len)) = false := by
            rw [Bool.and_eq_false_iff, decide_eq_false_iff_not, decide_eq_false_iff_not]; omega
          have h2 : (decide ((-1 : Int) < a) && decide (a ≤ len)) = false := by
            rw [Bool.and_eq_false_iff, decide_eq_false_iff_not, decide_eq_false_iff_not]; omega
          rw [this, h2]; rfl
      · have hp' := hp.resolve_left hz
        have w : IntKind.i64.wrap ((i : Int) - 1) = ((i - 1 : Nat) : Int) := by rw [wrap_in (by omega) (by omega)]; omega
        simp (disch := omega) only [if_neg hz, ite2_dec, if_pos (show (i : Int) > 0 by omega), w, chk_pos, Int.toNat_natCast]
        obtain ⟨p, hp0⟩ : ∃ p, l.getD (i - 1) default = p := ⟨_, rfl⟩
        simp only [hp0] at hp' ⊢
        rw [ite2_or, bind_of]
        by_cases ha : p < a ∧ a ≤ len
        · have h0 : 0 ≤ a := by omega
          rw [decide_eq_true h0, decide_eq_true ha.1, decide_eq_true ha.2, decide_eq_false (show ¬ (p ≥ a) by omega)]
          simp only [Bool.and_self, Bool.not_true, Bool.or_self, ite2_false, Bool.true_and]
          exact hnext (.inr h0)
        · have h2 : (decide (p < a) && decide (a ≤ len)) = false := by
            rw [Bool.and_eq_false_iff, decide_eq_false_iff_not, decide_eq_false_iff_not]; omega
          have h3 : (!(decide (0 ≤ a) && decide (a ≤ len)) || decide (p ≥ a)) = true := by
            rw [Bool.or_eq_true, Bool.not_eq_true', Bool.and_eq_false_iff, decide_eq_false_iff_not, decide_eq_false_iff_not, decide_eq_true_eq]; omega
          rw [h2, h3]; rfl
    · have e : l.drop i = [] := List.drop_of_length_le (by omega)
      rw [if_neg (by omega), vtE_end, e]; rfl
theorem times_eq {K : Nat} {l : List Int} (len : Int) (hl : l.length ≤ 1048576) (hK : l.length < K) : spec_l05Times K l len = some (vt len l) := by
  have := times_loop (K := K) l len hl K 0 (by omega) (by omega) (.inl rfl)
  unfold spec_l05Times vt
  simpa using this

theorem keyValid_loop {K : Nat} (a : List Key) (len : Int) (hl : a.length ≤ 1048576) : ∀ (k i : Nat) (last : Int), i ≤ a.length → a.length - i < k →
    impl_track_impl_Key_valid_l1 K a len k last (i : Int) = some (chn len last ((a.drop i).map Key.At) && vtE a.length) := by
  intro k
  induction k with
  | zero => intro i _ _ h; omega
  | succ k ih =>
    intro i last hi hk
    rw [impl_track_impl_Key_valid_l1, ite2_dec]
    by_cases h : i < a.length
    · have hc : (i : Int) < (a.length : Int) := by omega
      have hd : a.drop i = a.getD i default :: a.drop (i + 1) := by rw [List.drop_eq_getElem_cons h, getD_of_lt h]
      unfold impl_turnTrack_1
      simp (disch := omega) only [if_pos hc, chk_pos, Int.toNat_natCast, wrap_nat1, bind_of, ite2_or, ih (i + 1) _ h (by omega)]
      rw [hd, List.map_cons]
      simp only [chn, ite2_nf]
      rw [dec_lt last (a.getD i default).At, dec_gt (a.getD i default).At len]
      cases decide ((a.getD i default).At ≤ last) <;> cases decide ((a.getD i default).At ≤ len) <;> rfl
    · have e : a.drop i = [] := List.drop_of_length_le (by omega)
      rw [if_neg (by omega), vtE_end, e]; rfl
theorem rootValid_loop {K : Nat} (a : List RootKey) (len : Int) (hl : a.length ≤ 1048576) : ∀ (k i : Nat) (last : Int), i ≤ a.length → a.length - i < k →
    impl_track_impl_RootKey_valid_l1 K a len k last (i : Int) = some (chn len last ((a.drop i).map RootKey.At) && vtE a.length) := by
  intro k
  induction k with
  | zero => intro i _ _ h; omega
  | succ k ih =>
    intro i last hi hk
    rw [impl_track_impl_RootKey_valid_l1, ite2_dec]
    by_cases h : i < a.length
    · have hc : (i : Int) < (a.length : Int) := by omega
      have hd : a.drop i = a.getD i default :: a.drop (i + 1) := by rw [List.drop_eq_getElem_cons h, getD_of_lt h]
      unfold impl_rootTrack_1
      simp (disch := omega) only [if_pos hc, chk_pos, Int.toNat_natCast, wrap_nat1, bind_of, ite2_or, ih (i + 1) _ h (by omega)]
      rw [hd, List.map_cons]
      simp only [chn, ite2_nf]
      rw [dec_lt last (a.getD i default).At, dec_gt (a.getD i default).At len]
      cases decide ((a.getD i default).At ≤ last) <;> cases decide ((a.getD i default).At ≤ len) <;> rfl
    · have e : a.drop i = [] := List.drop_of_length_le (by omega)
      rw [if_neg (by omega), vtE_end, e]; rfl
theorem keyValid_eq {K : Nat} {a : List Key} (len : Int) (hl : a.length ≤ 1048576) (hK : a.length < K) : impl_track_impl_Key_valid K a len = some (vt len (a.map Key.At)) := by
  have := keyValid_loop (K := K) a len hl K 0 (-1) (by omega) (by omega)
  unfold impl_track_impl_Key_valid vt
  rw [List.length_map]
  simpa using this
theorem rootValid_eq {K : Nat} {a : List RootKey} (len : Int) (hl : a.length ≤ 1048576) (hK : a.length < K) : impl_track_impl_RootKey_valid K a len = some (vt len (a.map RootKey.At)) := by
  have := rootValid_loop (K := K) a len hl K 0 (-1) (by omega) (by omega)
  unfold impl_track_impl_RootKey_valid vt
  rw [List.length_map]
  simpa using this
theorem l05At_eq {K : Nat} {a : List Key} (hl : a.length ≤ 1048576) (hK : a.length < K) : spec_l05At K a = some (a.map Key.At) := by
  unfold spec_l05At
  exact map_loop a Key.At _ (spec_l05At_l1 K a) (fun k i h => by rw [spec_l05At_l1, ite2_dec, if_neg (by omega)]) (fun k i xs h hx => by
    have hc : (i : Int) < (a.length : Int) := by omega
    rw [spec_l05At_l1]
    simp (disch := omega) only [ite2_dec, if_pos hc, chk_pos, Int.toNat_natCast, wrap_nat1]
    rw [chk_pos (by simp; omega)]) K hK
theorem l05RootAt_eq {K : Nat} {a : List RootKey} (hl : a.length ≤ 1048576) (hK : a.length < K) : spec_l05RootAt K a = some (a.map RootKey.At) := by
  unfold spec_l05RootAt
  exact map_loop a RootKey.At _ (spec_l05RootAt_l1 K a) (fun k i h => by rw [spec_l05RootAt_l1, ite2_dec, if_neg (by omega)]) (fun k i xs h hx => by
    have hc : (i : Int) < (a.length : Int) := by omega
    rw [spec_l05RootAt_l1]
    simp (disch := omega) only [ite2_dec, if_pos hc, chk_pos, Int.toNat_natCast, wrap_nat1]
    rw [chk_pos (by simp; omega)]) K hK

/-- A clip whose keys are right. -/
def keysC (c : Clip) : Bool := c.Tracks.all (fun t => vt c.Length (t.map Key.At)) && vt c.Length (c.Roots.map RootKey.At)
def validC (c : Clip) : Bool := ((decide (1 ≤ c.Length) && decide (c.Length ≤ 1000)) && ((decide (0 ≤ c.Kind) && decide (c.Kind ≤ 2)) && (decide ((1 : Int) ≤ (c.Tracks.length : Int)) && decide ((c.Tracks.length : Int) ≤ 12)))) && keysC c
/-- Lengths that the laws bear. -/
structure Okc (K : Nat) (c : Clip) : Prop where
  tl : c.Tracks.length ≤ 1048576
  rl : c.Roots.length ≤ 1048576
  kl : ∀ t ∈ c.Tracks, t.length ≤ 1048576
theorem okc_of {K : Nat} {c : Clip} (h : mx_Clip c ≤ 1048576) : Okc K c := by
  simp only [mx_Clip] at h
  have := mxL_len List.length c.Tracks
  exact ⟨by omega, by omega, fun t ht => by have := mxL_mem (f := List.length) ht; omega⟩
theorem mx_of {c : Clip} (h1 : c.Tracks.length ≤ 1048576) (h2 : ∀ t ∈ c.Tracks, t.length ≤ 1048576) (h3 : c.Roots.length ≤ 1048576) : mx_Clip c ≤ 1048576 := by
  simp only [mx_Clip]
  have := mxL_le (f := List.length) h1 h2
  omega
theorem l05Is_eq {K : Nat} (hK : 1048577 < K) {c : Clip} (h : Okc K c) : spec_l05Is K c = some (validC c) := by
  have loop : ∀ (k i : Nat), i ≤ c.Tracks.length → c.Tracks.length - i < k → spec_l05Is_l1 K c k (i : Int) = some ((c.Tracks.drop i).all (fun t => vt c.Length (t.map Key.At)) && vt c.Length (c.Roots.map RootKey.At)) := by
    intro k
    induction k with
    | zero => intro i _ h; omega
    | succ k ih =>
      intro i hi hk
      have htl := h.tl
      have hrl := h.rl
      rw [spec_l05Is_l1, ite2_dec]
      by_cases hlt : i < c.Tracks.length
      · have hc : (i : Int) < (c.Tracks.length : Int) := by omega
        have hd : c.Tracks.drop i = c.Tracks.getD i default :: c.Tracks.drop (i + 1) := by rw [List.drop_eq_getElem_cons hlt, getD_of_lt hlt]
        have hkl := h.kl _ (getD_mem hlt)
        simp (disch := omega) only [if_pos hc, chk_pos, Int.toNat_natCast, wrap_nat1, l05At_eq, bind_of]
        rw [times_eq (K := K) _ (by rw [List.length_map]; exact hkl) (by rw [List.length_map]; omega), bind_of, ih (i + 1) (by omega) (by omega), hd, List.all_cons, ite2_nf, Bool.not_not, Bool.and_assoc]
      · have e : c.Tracks.drop i = [] := List.drop_of_length_le (by omega)
        rw [if_neg (by omega), l05RootAt_eq hrl (by omega), bind_of, times_eq (K := K) _ (by rw [List.length_map]; exact hrl) (by rw [List.length_map]; omega), bind_of, e]; rfl
  unfold spec_l05Is
  have := loop K 0 (by omega) (by have := h.tl; omega)
  rw [List.drop_zero] at this
  rw [show spec_l05Is_l1 K c K (0 : Int) = _ from this]
  simp only [In_eq, bind_of, ite2_or, ite2_nf, validC, keysC, dec_lt, gt_iff_lt, Bool.not_or, Bool.not_not]
theorem ValidClip_eq {K : Nat} (hK : 1048577 < K) {c : Clip} (h : Okc K c) : impl_ValidClip K c = some (validC c) := by
  have loop : ∀ (k i : Nat), i ≤ c.Tracks.length → c.Tracks.length - i < k → impl_ValidClip_l1 K c k (i : Int) = some ((c.Tracks.drop i).all (fun t => vt c.Length (t.map Key.At)) && vt c.Length (c.Roots.map RootKey.At)) := by
    intro k
    induction k with
    | zero => intro i _ h; omega
    | succ k ih =>
      intro i hi hk
      have htl := h.tl
      have hrl := h.rl
      rw [impl_ValidClip_l1, ite2_dec]
      unfold impl_turnTrack impl_rootTrack
      by_cases hlt : i < c.Tracks.length
      · have hc : (i : Int) < (c.Tracks.length : Int) := by omega
        have hd : c.Tracks.drop i = c.Tracks.getD i default :: c.Tracks.drop (i + 1) := by rw [List.drop_eq_getElem_cons hlt, getD_of_lt hlt]
        have hkl := h.kl _ (getD_mem hlt)
        simp (disch := omega) only [if_pos hc, chk_pos, Int.toNat_natCast, wrap_nat1, bind_of]
        rw [keyValid_eq (K := K) _ hkl (by omega), bind_of, ih (i + 1) (by omega) (by omega), hd, List.all_cons, ite2_nf, Bool.not_not, Bool.and_assoc]
      · have e : c.Tracks.drop i = [] := List.drop_of_length_le (by omega)
        rw [if_neg (by omega), bind_of, rootValid_eq (K := K) _ hrl (by omega), bind_of, e]; rfl
  unfold impl_ValidClip
  have := loop K 0 (by omega) (by have := h.tl; omega)
  rw [List.drop_zero] at this
  rw [show impl_ValidClip_l1 K c K (0 : Int) = _ from this]
  simp only [bind_of, ite2_or, ite2_nf, validC, keysC, dec_lt, gt_iff_lt, Bool.not_or, Bool.not_not, Bool.and_assoc]

/-- A clip that is right: its parts. -/
structure Rc (c : Clip) : Prop where
  len : 1 ≤ c.Length ∧ c.Length ≤ 1000
  kind : 0 ≤ c.Kind ∧ c.Kind ≤ 2
  tracks : 1 ≤ c.Tracks.length ∧ c.Tracks.length ≤ 12
  keys : ∀ t ∈ c.Tracks, vt c.Length (t.map Key.At) = true
  roots : vt c.Length (c.Roots.map RootKey.At) = true
theorem validC_spec {c : Clip} : validC c = true ↔ Rc c := by
  unfold validC keysC
  simp only [Bool.and_eq_true, decide_eq_true_eq, List.all_eq_true]
  constructor
  · rintro ⟨⟨h1, h2, h3⟩, h4, h5⟩
    exact ⟨h1, h2, by omega, h4, h5⟩
  · rintro ⟨h1, h2, h3, h4, h5⟩
    exact ⟨⟨h1, h2, by omega⟩, h4, h5⟩
theorem vt_len {len : Int} {l : List Int} (h : vt len l = true) : 1 ≤ l.length ∧ l.length ≤ 12 := by
  unfold vt vtE at h
  simp only [Bool.and_eq_true, decide_eq_true_eq] at h
  omega
theorem validClip_eq {K : Nat} (hK : 1048577 < K) {c : Clip} (h : Okc K c) : impl_validClip K c = some (if validC c = true then (c, true) else (Clip.mk 0 0 [] [], false)) := by
  unfold impl_validClip
  rw [ValidClip_eq hK h, bind_of]
  cases validC c <;> rfl

end Go.Fw
