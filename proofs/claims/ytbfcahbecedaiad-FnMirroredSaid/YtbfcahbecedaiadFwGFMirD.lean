/- Samples at a key's own time; the law of mirrors. (A template.) -/
import Derived.Test.YtbfcahbecedaiadFwGFMirC
import Derived.Test.YtbfcahbecedaiadFwFB
namespace Go.Fw
open Go

theorem chn_spec {len : Int} : ∀ {l : List Int} {last : Int}, chn len last l = true → (∀ x ∈ l, last < x ∧ x ≤ len) ∧ l.Pairwise (· < ·)
  | [], _, _ => ⟨fun x hx => (by cases hx), List.Pairwise.nil⟩
  | a :: l, last, h => by
    simp only [chn, Bool.and_eq_true, decide_eq_true_eq] at h
    obtain ⟨⟨h1, h2⟩, h3⟩ := h
    obtain ⟨g1, g2⟩ := chn_spec h3
    refine ⟨fun x hx => ?_, List.pairwise_cons.2 ⟨fun x hx => (g1 x hx).1, g2⟩⟩
    rcases List.mem_cons.1 hx with rfl | hx
    · exact ⟨h1, h2⟩
    · have := g1 x hx; omega
theorem asc_of {len : Int} {l : List Int} (h : vt len l = true) : Asc len l := by
  unfold vt at h
  simp only [Bool.and_eq_true] at h
  obtain ⟨h1, h2⟩ := chn_spec h.1
  exact ⟨h2, fun x hx => by have := h1 x hx; omega⟩
theorem asc_lt {α : Type} [Inhabited α] {f : α → Int} {ks : List α} {len : Int} (h : Asc len (ks.map f)) {i j : Nat} (hij : i < j) (hj : j < ks.length) : f (ks.getD i default) < f (ks.getD j default) := by
  have := List.pairwise_iff_getElem.1 h.asc i j (by rw [List.length_map]; omega) (by rw [List.length_map]; exact hj) hij
  rw [List.getElem_map, List.getElem_map] at this
  rw [getD_of_lt (by omega), getD_of_lt hj]; exact this
theorem asc_in {α : Type} [Inhabited α] {f : α → Int} {ks : List α} {len : Int} (h : Asc len (ks.map f)) {j : Nat} (hj : j < ks.length) : 0 ≤ f (ks.getD j default) ∧ f (ks.getD j default) ≤ len := h.inn _ (List.mem_map_of_mem (getD_mem hj))
theorem mend_impl (K : Nat) (a : Turn) : ∃ t, impl_MendTurn K a = some t := by
  unfold impl_MendTurn impl_LengthOfTurn impl_InnerOfTurns impl_RootNumber math_Sqrt math_sqrt impl_isLength impl_IsFinite impl_NoTurn
  simp only [bind_of, chk_pos (narrow_root _), ite2_some]
  exact ⟨_, rfl⟩
theorem near_some (K : Nat) (a b : Turn) (f : F32) : ∃ t, impl_NearTurn K a b f = some t := by
  unfold impl_NearTurn impl_InnerOfTurns impl_Turn_opposite impl_between
  simp only [bind_of]
  cases e : ((((a.W.mul b.W).add (a.X.mul b.X)).add (a.Y.mul b.Y)).add (a.Z.mul b.Z)).lt' (Fl.mk (k := .f32) 0 (by decide))
  rotate_left
  · rw [ite2_true]
    obtain ⟨t, h⟩ := mend_impl K (Turn.mk (a.W.add (f.mul ((Turn.mk b.W.neg b.X.neg b.Y.neg b.Z.neg).W.sub a.W))) (a.X.add (f.mul ((Turn.mk b.W.neg b.X.neg b.Y.neg b.Z.neg).X.sub a.X))) (a.Y.add (f.mul ((Turn.mk b.W.neg b.X.neg b.Y.neg b.Z.neg).Y.sub a.Y))) (a.Z.add (f.mul ((Turn.mk b.W.neg b.X.neg b.Y.neg b.Z.neg).Z.sub a.Z))))
    rw [h]
    exact ⟨t, rfl⟩
  · rw [ite2_false]
    obtain ⟨t, h⟩ := mend_impl K (Turn.mk (a.W.add (f.mul (b.W.sub a.W))) (a.X.add (f.mul (b.X.sub a.X))) (a.Y.add (f.mul (b.Y.sub a.Y))) (a.Z.add (f.mul (b.Z.sub a.Z))))
    rw [h]
    exact ⟨t, rfl⟩
theorem btw_some (K : Nat) (a b : Vector) (f : F32) : ∃ t, impl_BetweenVectors K a b f = some t := by
  unfold impl_BetweenVectors impl_LessVectors impl_ScaleVector impl_AddVectors
  simp only [bind_of]
  exact ⟨_, rfl⟩

/-! Samples of a track. -/
theorem key_stop {K : Nat} {ks : List Key} {kind t : Int} {k i : Nat} (hi : i ≤ ks.length) (h1 : 1 ≤ ks.length) (hl : ks.length ≤ 12) (hs : i < ks.length → ¬ (ks.getD i default).At ≤ t) : ∃ r, impl_track_impl_Key_sample_l1 K ks kind t (k + 1) (i : Int) = some r ∧ (1 ≤ i → (ks.getD (i - 1) default).At = t → r.Turn = (ks.getD (i - 1) default).Turn) := by
  have hA : ∀ x, impl_turnTrack_1 K x = some x.At := fun _ => rfl
  have hT : ∀ x y, impl_turnTrack_2 K x y = some (Key.mk y x.Turn) := fun _ _ => rfl
  have hB : ∀ x y z, ∃ r, impl_turnTrack_3 K x y z = some r := fun x y z => by
    unfold impl_turnTrack_3
    obtain ⟨v, e⟩ := near_some K x.Turn y.Turn z
    rw [e, bind_of]
    exact ⟨_, rfl⟩
  rw [impl_track_impl_Key_sample_l1]
  have hc : (ite2 (decide ((i : Int) < (ks.length : Int))) (chk (0 ≤ (i : Int) ∧ (i : Int) < (ks.length : Int)) ((impl_turnTrack_1 K (ks.getD (i : Int).toNat default)).bind fun v5 => some (decide (v5 ≤ t)))) (some false)) = some false := by
    rw [ite2_dec]
    by_cases hlt : i < ks.length
    · rw [if_pos (by omega), chk_pos (by omega), Int.toNat_natCast, hA, bind_of, decide_eq_false (hs hlt)]
    · rw [if_neg (by omega)]
  rw [hc, bind_of, ite2_false]
  by_cases h0 : i = 0
  · subst h0
    rw [show (((0 : Nat) : Int) == 0) = true from rfl, ite2_true, chk_pos (by omega), hT, bind_of]
    exact ⟨_, rfl, fun h => by omega⟩
  · have w : IntKind.i64.wrap ((i : Int) - 1) = ((i - 1 : Nat) : Int) := by rw [wrap_in (by omega) (by omega)]; omega
    rw [show ((i : Int) == 0) = false by rw [beq_eq_false_iff_ne]; omega, ite2_false, w]
    by_cases he : i = ks.length
    · rw [show ((i : Int) == (ks.length : Int)) = true by rw [he, beq_self_eq_true], ite2_true, bind_of, ite2_true, chk_pos (by omega), Int.toNat_natCast, hT, bind_of]
      exact ⟨_, rfl, fun _ _ => rfl⟩
    · rw [show ((i : Int) == (ks.length : Int)) = false by rw [beq_eq_false_iff_ne]; omega, ite2_false, chk_pos (by omega), Int.toNat_natCast, hA, bind_of]
      cases hq : ((ks.getD (i - 1) default).At == t)
      · rw [ite2_false, bind_of]
        have hne : (ks.getD (i - 1) default).At ≠ t := by rw [beq_eq_false_iff_ne] at hq; exact hq
        cases hk : (kind == 0)
        · rw [ite2_false, chk_pos (by omega), chk_pos (by omega), bind_of, Int.toNat_natCast, hA, bind_of]
          unfold impl_share
          rw [bind_of]
          cases hk2 : (kind == 2)
          · obtain ⟨r, e⟩ := hB (ks.getD (i - 1) default) (ks.getD i default) ((Fl.ofInt .f32 (IntKind.i64.wrap (t - (ks.getD (i - 1) default).At))).div (Fl.ofInt .f32 (IntKind.i64.wrap ((ks.getD i default).At - (ks.getD (i - 1) default).At))))
            rw [ite2_false, e, bind_of, hT, bind_of]
            exact ⟨_, rfl, fun _ h => absurd h hne⟩
          · rw [ite2_true]
            generalize (Fl.ofInt .f32 (IntKind.i64.wrap (t - (ks.getD (i - 1) default).At))).div (Fl.ofInt .f32 (IntKind.i64.wrap ((ks.getD i default).At - (ks.getD (i - 1) default).At))) = z
            obtain ⟨r, e⟩ := hB (ks.getD (i - 1) default) (ks.getD i default) ((z.mul z).mul ((Fl.mk (k := .f32) 1077936128 (by decide)).sub ((Fl.mk (k := .f32) 1073741824 (by decide)).mul z)))
            rw [e, bind_of, hT, bind_of]
            exact ⟨_, rfl, fun _ h => absurd h hne⟩
        · rw [ite2_true, chk_pos (by omega), hT, bind_of]
          exact ⟨_, rfl, fun _ h => absurd h hne⟩
      · rw [ite2_true, bind_of, ite2_true, chk_pos (by omega), hT, bind_of]
        exact ⟨_, rfl, fun _ _ => rfl⟩
theorem key_sample {K : Nat} {ks : List Key} {kind t len : Int} (hK : 100 < K) (hv : vt len (ks.map Key.At) = true) : ∃ r, impl_track_impl_Key_sample K ks kind t = some r ∧ ∀ m, m < ks.length → (ks.getD m default).At = t → r.Turn = (ks.getD m default).Turn := by
  have hl := vt_len hv
  rw [List.length_map] at hl
  have ha := asc_of hv
  have loop : ∀ (k i : Nat), i ≤ ks.length → ks.length - i < k → (∀ j, j < i → (ks.getD j default).At ≤ t) → ∃ r, impl_track_impl_Key_sample_l1 K ks kind t k (i : Int) = some r ∧ ∀ m, m < ks.length → (ks.getD m default).At = t → r.Turn = (ks.getD m default).Turn := by
    intro k
    induction k with
    | zero => intro i _ h; omega
    | succ k ih =>
      intro i g1 g2 g3
      by_cases hgo : i < ks.length ∧ (ks.getD i default).At ≤ t
      · obtain ⟨r, e, hr⟩ := ih (i + 1) (by omega) (by omega) (fun j hj => by
          by_cases e : j = i
          · rw [e]; exact hgo.2
          · exact g3 j (by omega))
        refine ⟨r, ?_, hr⟩
        rw [impl_track_impl_Key_sample_l1, ite2_dec, if_pos (by omega), chk_pos (by omega), Int.toNat_natCast, show impl_turnTrack_1 K (ks.getD i default) = some (ks.getD i default).At from rfl, bind_of, decide_eq_true hgo.2, bind_of, ite2_true, wrap_nat1 (by omega)]
        exact e
      · have hs : i < ks.length → ¬ (ks.getD i default).At ≤ t := fun h1 h2 => hgo ⟨h1, h2⟩
        obtain ⟨r, e, hr⟩ := key_stop (K := K) (kind := kind) (k := k) g1 hl.1 hl.2 hs
        refine ⟨r, e, fun m hm he => ?_⟩
        have m1 : m < i := by
          apply Classical.byContradiction
          intro hmi
          have h1 := hs (by omega)
          by_cases e : m = i
          · rw [← e] at h1; omega
          · have := asc_lt ha (i := i) (j := m) (by omega) hm
            omega
        have m2 : m = i - 1 := by
          apply Classical.byContradiction
          intro hne
          have h1 := asc_lt ha (i := m) (j := i - 1) (by omega) (by omega)
          have h2 := g3 (i - 1) (by omega)
          omega
        rw [m2] at he ⊢
        exact hr (by omega) he
  have := loop K 0 (by omega) (by omega) (fun j hj => by omega)
  exact this

theorem root_stop {K : Nat} {ks : List RootKey} {kind t : Int} {k i : Nat} (hi : i ≤ ks.length) (h1 : 1 ≤ ks.length) (hl : ks.length ≤ 12) (hs : i < ks.length → ¬ (ks.getD i default).At ≤ t) : ∃ r, impl_track_impl_RootKey_sample_l1 K ks kind t (k + 1) (i : Int) = some r ∧ (1 ≤ i → (ks.getD (i - 1) default).At = t → r.Place = (ks.getD (i - 1) default).Place) := by
  have hA : ∀ x, impl_rootTrack_1 K x = some x.At := fun _ => rfl
  have hT : ∀ x y, impl_rootTrack_2 K x y = some (RootKey.mk y x.Place) := fun _ _ => rfl
  have hB : ∀ x y z, ∃ r, impl_rootTrack_3 K x y z = some r := fun x y z => by
    unfold impl_rootTrack_3
    obtain ⟨v, e⟩ := btw_some K x.Place y.Place z
    rw [e, bind_of]
    exact ⟨_, rfl⟩
  rw [impl_track_impl_RootKey_sample_l1]
  have hc : (ite2 (decide ((i : Int) < (ks.length : Int))) (chk (0 ≤ (i : Int) ∧ (i : Int) < (ks.length : Int)) ((impl_rootTrack_1 K (ks.getD (i : Int).toNat default)).bind fun v5 => some (decide (v5 ≤ t)))) (some false)) = some false := by
    rw [ite2_dec]
    by_cases hlt : i < ks.length
    · rw [if_pos (by omega), chk_pos (by omega), Int.toNat_natCast, hA, bind_of, decide_eq_false (hs hlt)]
    · rw [if_neg (by omega)]
  rw [hc, bind_of, ite2_false]
  by_cases h0 : i = 0
  · subst h0
    rw [show (((0 : Nat) : Int) == 0) = true from rfl, ite2_true, chk_pos (by omega), hT, bind_of]
    exact ⟨_, rfl, fun h => by omega⟩
  · have w : IntKind.i64.wrap ((i : Int) - 1) = ((i - 1 : Nat) : Int) := by rw [wrap_in (by omega) (by omega)]; omega
    rw [show ((i : Int) == 0) = false by rw [beq_eq_false_iff_ne]; omega, ite2_false, w]
    by_cases he : i = ks.length
    · rw [show ((i : Int) == (ks.length : Int)) = true by rw [he, beq_self_eq_true], ite2_true, bind_of, ite2_true, chk_pos (by omega), Int.toNat_natCast, hT, bind_of]
      exact ⟨_, rfl, fun _ _ => rfl⟩
    · rw [show ((i : Int) == (ks.length : Int)) = false by rw [beq_eq_false_iff_ne]; omega, ite2_false, chk_pos (by omega), Int.toNat_natCast, hA, bind_of]
      cases hq : ((ks.getD (i - 1) default).At == t)
      · rw [ite2_false, bind_of]
        have hne : (ks.getD (i - 1) default).At ≠ t := by rw [beq_eq_false_iff_ne] at hq; exact hq
        cases hk : (kind == 0)
        · rw [ite2_false, chk_pos (by omega), chk_pos (by omega), bind_of, Int.toNat_natCast, hA, bind_of]
          unfold impl_share
          rw [bind_of]
          cases hk2 : (kind == 2)
          · obtain ⟨r, e⟩ := hB (ks.getD (i - 1) default) (ks.getD i default) ((Fl.ofInt .f32 (IntKind.i64.wrap (t - (ks.getD (i - 1) default).At))).div (Fl.ofInt .f32 (IntKind.i64.wrap ((ks.getD i default).At - (ks.getD (i - 1) default).At))))
            rw [ite2_false, e, bind_of, hT, bind_of]
            exact ⟨_, rfl, fun _ h => absurd h hne⟩
          · rw [ite2_true]
            generalize (Fl.ofInt .f32 (IntKind.i64.wrap (t - (ks.getD (i - 1) default).At))).div (Fl.ofInt .f32 (IntKind.i64.wrap ((ks.getD i default).At - (ks.getD (i - 1) default).At))) = z
            obtain ⟨r, e⟩ := hB (ks.getD (i - 1) default) (ks.getD i default) ((z.mul z).mul ((Fl.mk (k := .f32) 1077936128 (by decide)).sub ((Fl.mk (k := .f32) 1073741824 (by decide)).mul z)))
            rw [e, bind_of, hT, bind_of]
            exact ⟨_, rfl, fun _ h => absurd h hne⟩
        · rw [ite2_true, chk_pos (by omega), hT, bind_of]
          exact ⟨_, rfl, fun _ h => absurd h hne⟩
      · rw [ite2_true, bind_of, ite2_true, chk_pos (by omega), hT, bind_of]
        exact ⟨_, rfl, fun _ _ => rfl⟩
theorem root_sample {K : Nat} {ks : List RootKey} {kind t len : Int} (hK : 100 < K) (hv : vt len (ks.map RootKey.At) = true) : ∃ r, impl_track_impl_RootKey_sample K ks kind t = some r ∧ ∀ m, m < ks.length → (ks.getD m default).At = t → r.Place = (ks.getD m default).Place := by
  have hl := vt_len hv
  rw [List.length_map] at hl
  have ha := asc_of hv
  have loop : ∀ (k i : Nat), i ≤ ks.length → ks.length - i < k → (∀ j, j < i → (ks.getD j default).At ≤ t) → ∃ r, impl_track_impl_RootKey_sample_l1 K ks kind t k (i : Int) = some r ∧ ∀ m, m < ks.length → (ks.getD m default).At = t → r.Place = (ks.getD m default).Place := by
    intro k
    induction k with
    | zero => intro i _ h; omega
    | succ k ih =>
      intro i g1 g2 g3
      by_cases hgo : i < ks.length ∧ (ks.getD i default).At ≤ t
      · obtain ⟨r, e, hr⟩ := ih (i + 1) (by omega) (by omega) (fun j hj => by
          by_cases e : j = i
          · rw [e]; exact hgo.2
          · exact g3 j (by omega))
        refine ⟨r, ?_, hr⟩
        rw [impl_track_impl_RootKey_sample_l1, ite2_dec, if_pos (by omega), chk_pos (by omega), Int.toNat_natCast, show impl_rootTrack_1 K (ks.getD i default) = some (ks.getD i default).At from rfl, bind_of, decide_eq_true hgo.2, bind_of, ite2_true, wrap_nat1 (by omega)]
        exact e
      · have hs : i < ks.length → ¬ (ks.getD i default).At ≤ t := fun h1 h2 => hgo ⟨h1, h2⟩
        obtain ⟨r, e, hr⟩ := root_stop (K := K) (kind := kind) (k := k) g1 hl.1 hl.2 hs
        refine ⟨r, e, fun m hm he => ?_⟩
        have m1 : m < i := by
          apply Classical.byContradiction
          intro hmi
          have h1 := hs (by omega)
          by_cases e : m = i
          · rw [← e] at h1; omega
          · have := asc_lt ha (i := i) (j := m) (by omega) hm
            omega
        have m2 : m = i - 1 := by
          apply Classical.byContradiction
          intro hne
          have h1 := asc_lt ha (i := m) (j := i - 1) (by omega) (by omega)
          have h2 := g3 (i - 1) (by omega)
          omega
        rw [m2] at he ⊢
        exact hr (by omega) he
  have := loop K 0 (by omega) (by omega) (fun j hj => by omega)
  exact this

/-! Samples of a clip. -/
def smp (K : Nat) (c : Clip) (t : Int) (j : Nat) : Turn := ((impl_track_impl_Key_sample K (c.Tracks.getD j default) c.Kind t).getD default).Turn
theorem sample_eq {K n : Nat} (hK : 1048577 < K) {c : Clip} (hc : Rc c) (hn : c.Tracks.length = n) {t : Int} (ht : 0 ≤ t ∧ t ≤ c.Length) : ∃ q, impl_SampleClip K c t = some (q, true) ∧ q.Turns.length = n ∧ (∀ x, x < n → ∀ m, m < (c.Tracks.getD x default).length → ((c.Tracks.getD x default).getD m default).At = t → q.Turns.getD x default = ((c.Tracks.getD x default).getD m default).Turn) ∧ ∀ m, m < c.Roots.length → (c.Roots.getD m default).At = t → q.Root = (c.Roots.getD m default).Place := by
  have htr := hc.tracks
  obtain ⟨rr, e1, e2⟩ := root_sample (K := K) (kind := c.Kind) (t := t) (by omega) hc.roots
  obtain ⟨r, r1, r2, r3⟩ := fill_loop n (List.replicate c.Tracks.length default) (smp K c t) (fun xs => Pose.mk rr.Place xs) (fun k i xs => impl_Clip_sample_l1 K c t rr.Place k i xs) (fun k xs hx => by
      show impl_Clip_sample_l1 K c t rr.Place (k + 1) (n : Int) xs = _
      rw [impl_Clip_sample_l1, ite2_dec, if_neg (by omega)]) (fun k i xs hi hx _ => by
      show impl_Clip_sample_l1 K c t rr.Place (k + 1) (i : Int) xs = _
      obtain ⟨v, v1, _⟩ := key_sample (K := K) (kind := c.Kind) (t := t) (by omega) (hc.keys _ (getD_mem (xs := c.Tracks) (i := i) (by omega)))
      have hg : smp K c t i = v.Turn := by unfold smp; rw [v1]; rfl
      rw [impl_Clip_sample_l1, ite2_dec, if_pos (by omega), chk_pos (by omega), Int.toNat_natCast]
      unfold impl_turnTrack
      rw [bind_of, v1, bind_of, chk_pos (by omega), wrap_nat1 (by omega), hg]) K 0 (List.replicate c.Tracks.length default) (by omega) (by omega) (by rw [List.length_replicate]; exact hn) (fun j hj => by omega) (fun j _ => rfl)
  refine ⟨Pose.mk rr.Place r, ?_, r2, fun x hx m hm he => ?_, fun m hm he => e2 m hm he⟩
  · unfold impl_SampleClip impl_hasTime impl_Clip_sample impl_Clip_root impl_rootTrack
    rw [ValidClip_eq hK hc.okc, validC_spec.2 hc, bind_of, ite2_true, ite2_dec, if_pos (show t ≥ 0 from ht.1), decide_eq_true ht.2, bind_of, bind_of, Bool.not_true, ite2_false, bind_of, e1, bind_of, bind_of, chk_pos (by omega), Int.toNat_natCast]
    rw [show impl_Clip_sample_l1 K c t rr.Place K (0 : Int) (List.replicate c.Tracks.length default) = _ from r1, bind_of]
  · obtain ⟨v, v1, v2⟩ := key_sample (K := K) (kind := c.Kind) (t := t) (by omega) (hc.keys _ (getD_mem (xs := c.Tracks) (i := x) (by omega)))
    show r.getD x default = _
    rw [r3 x hx]
    unfold smp
    rw [v1]
    exact v2 m hm he

/-! The law. -/
theorem sumC_l {α β γ : Type} (a : α) (f : α → Option γ) (g : β → Option γ) : sumC (.inl a) f g = f a := rfl
theorem map_getD {α β : Type} [Inhabited α] [Inhabited β] {f : α → β} {l : List α} {j : Nat} (h : j < l.length) : (l.map f).getD j default = f (l.getD j default) := by
  rw [getD_of_lt (by rw [List.length_map]; exact h), List.getElem_map, getD_of_lt h]
theorem l6_eq {K n : Nat} (hK : 1048577 < K) {s : List Bone} {p : List Int} (h : Pq n s p) (g1 : 1 ≤ n) (g2 : n ≤ 12) {c : Clip} (hc : Rc c) (hn : c.Tracks.length = n) (x : Nat) (hx : x < n) : ∀ (k i : Nat), i ≤ (c.Tracks.getD x default).length → (c.Tracks.getD x default).length - i < k → laws_FnMirrored_l6 K (Skeleton.mk s) p c (mirC c p, true) (x : Int) k (i : Int) = some (.inl ()) := by
  have hp := h.pl
  have hkx := hc.keys _ (getD_mem (xs := c.Tracks) (i := x) (by omega))
  have hl := vt_len hkx
  rw [List.length_map] at hl
  have hin := h.inn x hx
  intro k
  induction k with
  | zero => intro i _ h; omega
  | succ k ih =>
    intro i b1 b2
    rw [laws_FnMirrored_l6, ite2_dec, Int.toNat_natCast]
    by_cases hi : i < (c.Tracks.getD x default).length
    · have ht := asc_in (asc_of hkx) hi
      obtain ⟨q1, e1, a1, a2, _⟩ := sample_eq hK hc hn ht
      obtain ⟨q2, e2, c1, c2, _⟩ := sample_eq (K := K) hK (mirC_rc h hc hn) (n := n) (by show (p.map _).length = n; rw [List.length_map, hp]) (t := ((c.Tracks.getD x default).getD i default).At) ht
      obtain ⟨ts, e3, d1, d2⟩ := mirPose hK h g1 g2 a1
      have f1 : ts.getD (p.getD x default).toNat default = mirT ((c.Tracks.getD x default).getD i default).Turn := by
        rw [d2 _ (by omega), h.back x hx, Int.toNat_natCast, a2 x hx i hi rfl]
      have tr : (mirC c p).Tracks.getD (p.getD x default).toNat default = (c.Tracks.getD x default).map mirK := by
        rw [mirC_tracks (by omega), h.back x hx, Int.toNat_natCast]
      have f2 : q2.Turns.getD (p.getD x default).toNat default = mirT ((c.Tracks.getD x default).getD i default).Turn := by
        have := c2 (p.getD x default).toNat (by omega) i (by rw [tr, List.length_map]; exact hi)
        rw [tr, map_getD hi] at this
        exact this rfl
      have hs : spec_SameTurn K (q2.Turns.getD (p.getD x default).toNat default) (ts.getD (p.getD x default).toNat default) = some true := by
        unfold spec_SameTurn
        rw [f1, f2, sameT_refl, bind_of]
      rw [if_pos (by omega), chk_pos (by omega), chk_pos (by omega), Int.toNat_natCast, e1, bind_of]
      rw [show impl_SampleClip K (mirC c p, true).1 ((c.Tracks.getD x default).getD i default).At = some (q2, true) from e2, bind_of]
      rw [show impl_MirrorPose K (Skeleton.mk s) (q1, true).1 p = some (Pose.mk (mirV q1.Root) ts, true) from e3, bind_of]
      dsimp only
      rw [Bool.not_true, ite2_false, ite2_false, ite2_false, chk_pos (by omega), chk_pos (by omega), chk_pos (by omega), hs, bind_of, Bool.not_true, bind_of, ite2_false, wrap_nat1 (by omega)]
      exact ih (i + 1) (by omega) (by omega)
    · rw [if_neg (by omega)]
theorem l5_eq {K n : Nat} (hK : 1048577 < K) {s : List Bone} {p : List Int} (h : Pq n s p) (g1 : 1 ≤ n) (g2 : n ≤ 12) {c : Clip} (hc : Rc c) (hn : c.Tracks.length = n) : ∀ (k i : Nat), i ≤ n → n - i < k → laws_FnMirrored_l5 K (Skeleton.mk s) p c (mirC c p, true) k (i : Int) = some true := by
  intro k
  induction k with
  | zero => intro i _ h; omega
  | succ k ih =>
    intro i b1 b2
    rw [laws_FnMirrored_l5, ite2_dec]
    by_cases hi : i < n
    · have hl := vt_len (hc.keys _ (getD_mem (xs := c.Tracks) (i := i) (by omega)))
      rw [List.length_map] at hl
      have := l6_eq hK h g1 g2 hc hn i hi K 0 (by omega) (by omega)
      rw [if_pos (by omega), chk_pos (by omega), show laws_FnMirrored_l6 K (Skeleton.mk s) p c (mirC c p, true) (i : Int) K (0 : Int) = _ from this, bind_of, sumC_l, wrap_nat1 (by omega)]
      exact ih (i + 1) (by omega) (by omega)
    · rw [if_neg (by omega)]
theorem l2_eq {K n : Nat} (hK : 1048577 < K) {s : List Bone} {p : List Int} (h : Pq n s p) (g1 : 1 ≤ n) (g2 : n ≤ 12) {c : Clip} (hc : Rc c) (hn : c.Tracks.length = n) : ∀ (k i : Nat), i ≤ c.Roots.length → c.Roots.length - i < k → laws_FnMirrored_l2 K (Skeleton.mk s) p c (mirC c p, true) k (i : Int) = some true := by
  have hl := vt_len hc.roots
  rw [List.length_map] at hl
  intro k
  induction k with
  | zero => intro i _ h; omega
  | succ k ih =>
    intro i b1 b2
    rw [laws_FnMirrored_l2, ite2_dec]
    by_cases hi : i < c.Roots.length
    · have ht := asc_in (asc_of hc.roots) hi
      obtain ⟨q1, e1, a1, _, a3⟩ := sample_eq hK hc hn ht
      obtain ⟨q2, e2, c1, _, c3⟩ := sample_eq (K := K) hK (mirC_rc h hc hn) (n := n) (by show (p.map _).length = n; rw [List.length_map, h.pl]) (t := (c.Roots.getD i default).At) ht
      obtain ⟨ts, e3, d1, d2⟩ := mirPose hK h g1 g2 a1
      have f2 : q2.Root = mirV (c.Roots.getD i default).Place := by
        have rt : (mirC c p).Roots = c.Roots.map mirR := rfl
        have := c3 i (by rw [rt, List.length_map]; exact hi)
        rw [rt, map_getD hi] at this
        exact this rfl
      have hs : spec_SameVector K q2.Root (mirV q1.Root) = some true := by
        unfold spec_SameVector
        rw [f2, a3 i hi rfl, sameV_refl, bind_of]
      rw [if_pos (by omega), chk_pos (by omega), Int.toNat_natCast, e1, bind_of]
      rw [show impl_SampleClip K (mirC c p, true).1 (c.Roots.getD i default).At = some (q2, true) from e2, bind_of]
      rw [show impl_MirrorPose K (Skeleton.mk s) (q1, true).1 p = some (Pose.mk (mirV q1.Root) ts, true) from e3, bind_of]
      dsimp only
      rw [Bool.not_true, ite2_false, ite2_false, ite2_false, hs, bind_of, Bool.not_true, bind_of, ite2_false, wrap_nat1 (by omega)]
      exact ih (i + 1) (by omega) (by omega)
    · rw [if_neg (by omega)]
      exact l5_eq hK h g1 g2 hc hn K 0 (by omega) (by omega)
theorem at3 {K : Nat} {c : List Int} (hc : Byt c) : ∃ r, laws_b10At K c 0 3 = some r ∧ 0 ≤ r ∧ r ≤ 2 := by
  unfold laws_b10At
  rw [ite2_dec, if_neg (by decide), ite2_dec]
  by_cases h : 0 < c.length
  · have hb := hc _ (getD_mem h)
    rw [if_pos (by omega), chk_pos (by omega), chk_pos (by decide), show ((0 : Int).toNat) = 0 from rfl, wrap_in (by omega) (by omega)]
    have := tmod_in (x := c.getD 0 default) (n := 3) hb.1 (by decide)
    exact ⟨_, rfl, by omega, by omega⟩
  · rw [if_neg (by omega), chk_pos (by decide)]
    exact ⟨_, rfl, by decide, by decide⟩
theorem l1_eq {K n : Nat} (hK : 1048577 < K) {s : List Bone} {p : List Int} (h : Pq n s p) (g1 : 1 ≤ n) (g2 : n ≤ 12) {b : List Int} (hb : Byt b) : ∀ (k i : Nat), i ≤ n → n - i < k → laws_FnMirrored_l1 K b (Skeleton.mk s) p (Skeleton.mk s, true) k (i : Int) = some true := by
  have hl := h.bl; have hp := h.pl
  intro k
  induction k with
  | zero => intro i _ h; omega
  | succ k ih =>
    intro i b1 b2
    rw [laws_FnMirrored_l1, ite2_dec]
    have hbl : ((Skeleton.mk s, true).1 : Skeleton).Bones.length = n := hl
    have hbl2 : (Skeleton.mk s).Bones.length = n := hl
    by_cases hi : i < n
    · have hs : spec_SameVector K ((Skeleton.mk s).Bones.getD i default).Offset ((Skeleton.mk s).Bones.getD i default).Offset = some true := by
        unfold spec_SameVector
        rw [sameV_refl, bind_of]
      dsimp only
      rw [if_pos (by omega), chk_pos (by omega), chk_pos (by omega), Int.toNat_natCast, bne_self_eq_false, ite2_false, show spec_SameVector K (s.getD i default).Offset (s.getD i default).Offset = some true from hs, bind_of, Bool.not_true, bind_of, ite2_false, wrap_nat1 (by omega)]
      exact ih (i + 1) (by omega) (by omega)
    · obtain ⟨kd, k1, k2, k3⟩ := at3 (K := K) hb
      obtain ⟨c, c1, c2, c3⟩ := clip_drawn (K := K) (by omega) hb kd ⟨k2, k3⟩ n ⟨g1, g2⟩ (Clip.mk 0 kd (List.replicate p.length default) []) (by show (List.replicate p.length default).length = n; rw [List.length_replicate, hp]) rfl
      have m1 := mirClip hK h g1 g2 c2 c3
      have m2 := mirClip hK h g1 g2 (mirC_rc h c2 c3) (by show (p.map _).length = n; rw [List.length_map, hp])
      rw [mirC_mirC h c3] at m2
      rw [if_neg (by omega), chk_pos (by omega), k1, bind_of, Int.toNat_natCast, c1, bind_of, m1, bind_of]
      rw [show impl_MirrorClip K (Skeleton.mk s) (mirC c p, true).1 p = some (c, true) from m2, bind_of]
      dsimp only
      rw [Bool.not_true, ite2_false, ite2_false, sameClip (by omega) c2, bind_of, Bool.not_true, bind_of, ite2_false]
      have hrl := vt_len c2.roots
      rw [List.length_map] at hrl
      exact l2_eq hK h g1 g2 c2 c3 K 0 (by omega) (by omega)
theorem mir_true (a b : List Int) (ha : Byt a) (hb : Byt b) : ∃ K, laws_FnMirrored K a b = some true := by
  refine ⟨2000000, ?_⟩
  unfold laws_FnMirrored laws_b10Long
  rw [ite2_dec]
  by_cases la : (a.length : Int) > 1048576
  · rw [if_pos la, bind_of, bind_of, ite2_true]
  rw [if_neg la, bind_of]
  by_cases lb : (b.length : Int) > 1048576
  · rw [decide_eq_true lb, bind_of, ite2_true]
  rw [decide_eq_false lb, bind_of, ite2_false]
  obtain ⟨s, p, n, e1, e2, h, g1, g2⟩ := pairs_drawn (K := 2000000) (by decide) ha
  have hl := h.bl; have hp := h.pl
  obtain ⟨q, a1, s1, e3, q1, _⟩ := pose_dr (K := 2000000) hb 0 0 n g2 (by omega) (by omega) (by omega)
  have e4 : spec_B10Pose 2000000 b (p.length : Int) = some q := by
    unfold spec_B10Pose
    rw [hp, e3, bind_of]
  obtain ⟨t1, f1, f2, f3⟩ := mirPose (K := 2000000) (by decide) h g1 g2 q1
  obtain ⟨t2, f4, f5, f6⟩ := mirPose (K := 2000000) (by decide) h g1 g2 (q := Pose.mk (mirV q.Root) t1) f2
  have hq : Pose.mk (mirV (mirV q.Root)) t2 = q := by
    have ht : t2 = q.Turns := list_ext_n f5 q1 fun j hj => by
      have := h.inn j hj
      rw [f6 j hj]
      show mirT (t1.getD (p.getD j default).toNat default) = _
      rw [f3 _ (by omega), h.back j hj, Int.toNat_natCast, mirT_mirT]
    rw [ht, mirV_mirV]
  obtain ⟨b1, k1, k2, k3⟩ := mirSkel (K := 2000000) (by decide) h g1 g2
  obtain ⟨b2, k4, k5, k6⟩ := mirSkel (K := 2000000) (by decide) k2 g1 g2
  have hb2 : b2 = s := list_ext_n k5.bl hl fun j hj => by
    have := h.inn j hj
    rw [k6 j hj, k3 j hj, k3 _ (by omega)]
    show Bone.mk (s.getD j default).Parent (mirV (mirV (s.getD (p.getD (p.getD j default).toNat default).toNat default).Offset)) = _
    rw [h.back j hj, Int.toNat_natCast, mirV_mirV]
  subst hb2
  obtain ⟨_, v2⟩ := h.valid (K := 2000000) (by decide) g1 g2
  rw [e1, bind_of, e2, bind_of, e4, bind_of, f1, bind_of]
  rw [show impl_MirrorPose 2000000 (Skeleton.mk b2) (Pose.mk (mirV q.Root) t1, true).1 p = some (Pose.mk (mirV (mirV q.Root)) t2, true) from f4, hq, bind_of, k1, bind_of]
  rw [show impl_MirrorSkeleton 2000000 (Skeleton.mk b1, true).1 p = some (Skeleton.mk b2, true) from k4, bind_of]
  dsimp only
  rw [Bool.not_true, ite2_false, ite2_false, ite2_false, ite2_false, v2, bind_of, Bool.not_true, ite2_false, samePose (by omega) (by decide), bind_of, Bool.not_true, ite2_false, bne_self_eq_false, bind_of, ite2_false]
  exact l1_eq (by decide) h g1 g2 hb 2000000 0 (by omega) (by omega)
theorem law_FnMirrored (a b : List Int) (ha : a.length ≤ maxLen ∧ ∀ x ∈ a, (Lit.int .u8 x).wf = true) (hb : b.length ≤ maxLen ∧ ∀ x ∈ b, (Lit.int .u8 x).wf = true) : ∃ K, laws_FnMirrored K a b = some true := by
  have byt : ∀ {c : List Int}, (∀ x ∈ c, (Lit.int .u8 x).wf = true) → Byt c := fun h x hx => by
    have := h x hx
    simp only [Lit.wf, Bool.and_eq_true, decide_eq_true_eq] at this
    have e1 : IntKind.u8.min = 0 := by decide
    have e2 : IntKind.u8.max = 255 := by decide
    omega
  exact mir_true a b (byt ha.2) (byt hb.2)

end Go.Fw
