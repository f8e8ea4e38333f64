/- The law of ThinClip, in plain Lean: keys that lie near what is between their neighbours are left out. -/
import Derived.Test.YteehipecgmfeiaaGreatFwTCCLaw2
import Derived.Test.YteehipecgmfeiaaGreatFwTCAngLaw
namespace Go.Fw
open Go

theorem ne_eq' {k : FloatKind} (x y : Fl k) : x.ne y = !x.eq y := rfl
def innF (a b : Turn) : F32 := (((a.W.mul b.W).add (a.X.mul b.X)).add (a.Y.mul b.Y)).add (a.Z.mul b.Z)
def lenF (a : Turn) : F32 := Fl.cv .f64 .f32 (Fl.cv .f32 .f64 (innF a a)).sqrt
def mendF (a : Turn) : Turn := if ((lenF a).eq (Fl.mk (k := .f32) 0 (by decide)) || !(((lenF a).sub (lenF a)).eq (Fl.mk (k := .f32) 0 (by decide)))) = true then Turn.mk (Fl.mk (k := .f32) 1065353216 (by decide)) default default default else Turn.mk (a.W.div (lenF a)) (a.X.div (lenF a)) (a.Y.div (lenF a)) (a.Z.div (lenF a))
theorem mend_spec (K : Nat) (a : Turn) : spec_l02Mend K a = some (mendF a) := by
  unfold spec_l02Mend spec_l02Inner spec_l01Finite spec_l02No
  simp only [bind_of, sqrt_spec, ite2_or]
  unfold mendF lenF innF
  cases (((Fl.cv .f64 .f32 (Fl.cv .f32 .f64 ((((a.W.mul a.W).add (a.X.mul a.X)).add (a.Y.mul a.Y)).add (a.Z.mul a.Z))).sqrt)).eq (Fl.mk (k := .f32) 0 (by decide)) || !((((Fl.cv .f64 .f32 (Fl.cv .f32 .f64 ((((a.W.mul a.W).add (a.X.mul a.X)).add (a.Y.mul a.Y)).add (a.Z.mul a.Z))).sqrt)).sub (Fl.cv .f64 .f32 (Fl.cv .f32 .f64 ((((a.W.mul a.W).add (a.X.mul a.X)).add (a.Y.mul a.Y)).add (a.Z.mul a.Z))).sqrt)).eq (Fl.mk (k := .f32) 0 (by decide)))) <;> rfl
theorem mend_impl (K : Nat) (a : Turn) : impl_MendTurn K a = some (mendF a) := by
  rw [← mend_spec K a]
  unfold impl_MendTurn impl_LengthOfTurn impl_InnerOfTurns impl_isLength impl_IsFinite impl_NoTurn spec_l02Mend spec_l02Inner spec_l01Finite spec_l02No
  simp only [bind_of, sqrt_spec, sqrt_impl, ite2_or, ite2_and, ne_eq']
  generalize (Fl.cv .f64 .f32 (Fl.cv .f32 .f64 ((((a.W.mul a.W).add (a.X.mul a.X)).add (a.Y.mul a.Y)).add (a.Z.mul a.Z))).sqrt) = n
  cases n.eq (Fl.mk (k := .f32) 0 (by decide)) <;> cases (n.sub n).eq (Fl.mk (k := .f32) 0 (by decide)) <;> rfl
def oppF (t : Turn) : Turn := Turn.mk t.W.neg t.X.neg t.Y.neg t.Z.neg
def stepF (a b s : F32) : F32 := a.add (s.mul (b.sub a))
def stepsF (a b : Turn) (s : F32) : Turn := mendF (Turn.mk (stepF a.W b.W s) (stepF a.X b.X s) (stepF a.Y b.Y s) (stepF a.Z b.Z s))
def nearT (a b : Turn) (s : F32) : Turn := if (innF a b).lt' (Fl.mk (k := .f32) 0 (by decide)) = true then stepsF a (oppF b) s else stepsF a b s
theorem near_spec (K : Nat) (a b : Turn) (s : F32) : spec_l02Near K a b s = some (nearT a b s) := by
  unfold spec_l02Near spec_l02Inner spec_l02Opposite spec_l02Step
  simp only [bind_of, mend_spec]
  unfold nearT innF
  cases ((((a.W.mul b.W).add (a.X.mul b.X)).add (a.Y.mul b.Y)).add (a.Z.mul b.Z)).lt' (Fl.mk (k := .f32) 0 (by decide)) <;> rfl
theorem near_impl (K : Nat) (a b : Turn) (s : F32) : impl_NearTurn K a b s = some (nearT a b s) := by
  unfold impl_NearTurn impl_InnerOfTurns impl_Turn_opposite impl_between
  simp only [bind_of, mend_impl]
  unfold nearT innF
  cases ((((a.W.mul b.W).add (a.X.mul b.X)).add (a.Y.mul b.Y)).add (a.Z.mul b.Z)).lt' (Fl.mk (k := .f32) 0 (by decide)) <;> rfl
def nearP (a b : Vector) (s : F32) : Vector := Vector.mk (a.X.add ((b.X.sub a.X).mul s)) (a.Y.add ((b.Y.sub a.Y).mul s)) (a.Z.add ((b.Z.sub a.Z).mul s))

theorem chn_append {L : Int} : ∀ (l : List Int) (last x : Int), chn L last l = true → l.getLastD last < x → x ≤ L → chn L last (l ++ [x]) = true := by
  intro l
  induction l with
  | nil => intro last x _ h1 h2; simp only [List.getLastD_nil] at h1; simp [chn, h1, h2]
  | cons a l ih =>
    intro last x h h1 h2
    rw [List.cons_append]
    simp only [chn, Bool.and_eq_true] at h ⊢
    rw [List.getLastD_cons] at h1
    exact ⟨h.1, ih a x h.2 h1 h2⟩
theorem chn_next {L : Int} : ∀ (l : List Int) (last : Int) (j : Nat), chn L last l = true → j + 1 < l.length → l.getD j default < l.getD (j + 1) default := by
  intro l
  induction l with
  | nil => intro last j _ h; simp at h
  | cons a l ih =>
    intro last j h hj
    simp only [chn, Bool.and_eq_true, decide_eq_true_eq] at h
    cases l with
    | nil => simp at hj
    | cons b l =>
      cases j with
      | zero =>
        have h2 := h.2
        simp only [chn, Bool.and_eq_true, decide_eq_true_eq] at h2
        exact h2.1.1
      | succ j => exact ih a j h.2 (by simpa using hj)
theorem chn_le {L : Int} : ∀ (l : List Int) (last : Int) (j : Nat), chn L last l = true → j < l.length → l.getD j default ≤ L := by
  intro l
  induction l with
  | nil => intro last j _ h; simp at h
  | cons a l ih =>
    intro last j h hj
    simp only [chn, Bool.and_eq_true, decide_eq_true_eq] at h
    cases j with
    | zero => exact h.1.2
    | succ j => exact ih a j h.2 (by simpa using hj)
theorem at_getD {t : List Key} {i : Nat} (h : i < t.length) : (t.map Key.At).getD i default = (t.getD i default).At := by
  rw [List.getD_eq_getElem?_getD, List.getElem?_map, List.getElem?_eq_getElem h, getD_of_lt h]; rfl

theorem thin_loop {K : Nat} (hK : 1048577 < K) (c : Clip) (a1 : F32) (i : Nat) (L : Int) (t : List Key) (ht : c.Tracks.getD i default = t) (hc : chn L (-1) (t.map Key.At) = true) (hl : t.length ≤ 1000) :
    ∀ (k j : Nat) (xs : List Key), 1 ≤ xs.length → xs.length ≤ j → j ≤ t.length → t.length - j < k → chn L (-1) (xs.map Key.At) = true → (j < t.length → (xs.map Key.At).getLastD (-1) < (t.getD j default).At) →
    ∃ r, spec_ThinClip_l5 K c a1 (i : Int) k (j : Int) xs = some r ∧ impl_thin_l1 K t a1 k (j : Int) xs = some r ∧ 1 ≤ r.length ∧ r.length ≤ t.length ∧ chn L (-1) (r.map Key.At) = true := by
  intro k
  induction k with
  | zero => intro j xs _ _ _ h; omega
  | succ k ih =>
    intro j xs h1 h2 h3 hk hx hn
    have w1 : IntKind.i64.wrap ((xs.length : Int) - 1) = ((xs.length - 1 : Nat) : Int) := by rw [wrap_in (by omega) (by omega)]; omega
    have w2 : IntKind.i64.wrap ((j : Int) + 1) = ((j + 1 : Nat) : Int) := wrap_nat1 (by omega)
    rw [spec_ThinClip_l5, impl_thin_l1]
    simp only [Int.toNat_natCast, ht, w1, w2]
    by_cases hj : j < t.length
    · have hle := chn_le _ (-1) j hc (by rw [List.length_map]; exact hj)
      rw [at_getD hj] at hle
      have hjx := hn hj
      have next : j + 1 < t.length → (t.getD j default).At < (t.getD (j + 1) default).At := fun h => by
        have := chn_next _ (-1) j hc (by rw [List.length_map]; exact h)
        rwa [at_getD hj, at_getD h] at this
      obtain ⟨r1, p1, p2, p3⟩ := ih (j + 1) (xs ++ [t.getD j default]) (by simp) (by simp; omega) (by omega) (by omega)
        (by rw [List.map_append]; exact chn_append _ _ _ hx hjx hle) (fun h => by simpa using next h)
      have hi : (i : Int) < (c.Tracks.length : Int) := by
        apply Classical.byContradiction
        intro hge
        have : c.Tracks.getD i default = [] := by
          rw [List.getD_eq_getElem?_getD, List.getElem?_eq_none (by omega)]; rfl
        rw [← ht, this] at hj
        simp at hj
      have hcj : (j : Int) < (t.length : Int) := by omega
      by_cases hj2 : j + 1 < t.length
      · obtain ⟨r2, q1, q2, q3⟩ := ih (j + 1) xs h1 (by omega) (by omega) (by omega) hx (fun h => by have := next h; omega)
        have hcj2 : ((j + 1 : Nat) : Int) < (t.length : Int) := by omega
        unfold impl_share
        simp (disch := omega) only [ite2_dec, if_pos hcj, if_pos hcj2, chk_pos, bind_of, near_spec, near_impl, apart_spec, apart_impl]
        cases hb : (apartF K (t.getD j default).Turn (nearT (xs.getD (xs.length - 1) default).Turn (t.getD (j + 1) default).Turn ((Fl.ofInt .f32 (IntKind.i64.wrap ((t.getD j default).At - (xs.getD (xs.length - 1) default).At))).div (Fl.ofInt .f32 (IntKind.i64.wrap ((t.getD (j + 1) default).At - (xs.getD (xs.length - 1) default).At)))))).le a1
        · simp only [ite2_false]
          rw [chk_pos (by simp only [List.length_singleton]; omega), chk_pos (by simp only [List.length_singleton]; omega)]
          exact ⟨r1, p1, p2, p3⟩
        · simp only [ite2_true]
          exact ⟨r2, q1, q2, q3⟩
      · have hcj2 : ¬ (((j + 1 : Nat) : Int) < (t.length : Int)) := by omega
        simp (disch := omega) only [ite2_dec, if_pos hcj, if_neg hcj2, chk_pos, bind_of]
        rw [chk_pos (by simp only [List.length_singleton]; omega), chk_pos (by simp only [List.length_singleton]; omega)]
        exact ⟨r1, p1, p2, p3⟩
    · have hcj : ¬ ((j : Int) < (t.length : Int)) := by omega
      simp only [ite2_dec, if_neg hcj]
      exact ⟨xs, rfl, rfl, h1, by omega, hx⟩

def thinT (K : Nat) (a1 : F32) (t : List Key) : List Key := (impl_thin K t a1).getD []
def thinC (K : Nat) (a1 : F32) (c : Clip) : Clip := Clip.mk c.Length c.Kind ((List.range c.Tracks.length).map fun i => thinT K a1 (c.Tracks.getD i default)) c.Roots
theorem thin_one {K : Nat} (hK : 1048577 < K) (c : Clip) (a1 : F32) (i : Nat) (hr : Rc c) (hi : i < c.Tracks.length) :
    spec_ThinClip_l5 K c a1 (i : Int) K (1 : Int) [(c.Tracks.getD i default).getD 0 default] = some (thinT K a1 (c.Tracks.getD i default)) ∧ impl_thin K (c.Tracks.getD i default) a1 = some (thinT K a1 (c.Tracks.getD i default)) ∧ vt c.Length ((thinT K a1 (c.Tracks.getD i default)).map Key.At) = true := by
  have hv := hr.keys _ (getD_mem hi)
  generalize ht : c.Tracks.getD i default = t at hv ⊢
  have hl := vt_len hv
  rw [List.length_map] at hl
  unfold vt at hv
  rw [Bool.and_eq_true] at hv
  have hc := hv.1
  obtain ⟨r, p1, p2, p3, p4, p5⟩ := thin_loop hK c a1 i c.Length t ht hc (by omega) K 1 [t.getD 0 default] (by simp) (by simp) hl.1 (by omega)
    (by
      cases t with
      | nil => simp at hl
      | cons a t =>
        simp only [List.map_cons, chn, Bool.and_eq_true] at hc
        simp only [List.getD_cons_zero, List.map_cons, List.map_nil, chn, Bool.and_true, Bool.and_eq_true]
        exact hc.1)
    (fun h => by
      have := chn_next _ (-1) 0 hc (by rw [List.length_map]; exact h)
      rw [at_getD (by omega), at_getD h] at this
      simpa using this)
  have e : impl_thin K t a1 = some r := by
    unfold impl_thin
    rw [chk_pos (by omega)]
    exact p2
  have e2 : thinT K a1 t = r := by unfold thinT; rw [e]; rfl
  rw [e2]
  refine ⟨p1, e, ?_⟩
  unfold vt vtE
  rw [List.length_map, p5, Bool.true_and, Bool.and_eq_true, decide_eq_true_eq, decide_eq_true_eq]
  omega
theorem thin_right {K : Nat} (hK : 1048577 < K) {c : Clip} (a1 : F32) (hr : Rc c) : Rc (thinC K a1 c) := by
  refine ⟨hr.len, hr.kind, ?_, fun t ht => ?_, hr.roots⟩
  · show 1 ≤ (List.map _ _).length ∧ (List.map _ _).length ≤ 12
    rw [List.length_map, List.length_range]; exact hr.tracks
  · obtain ⟨i, hi, rfl⟩ := List.mem_map.1 ht
    exact (thin_one hK c a1 i hr (List.mem_range.1 hi)).2.2
theorem range_getD' {n i : Nat} (h : i < n) : (List.range n).getD i default = i := by
  rw [List.getD_eq_getElem?_getD, List.getElem?_range h]; rfl
theorem core_ThinClip {K : Nat} (hK : 1048577 < K) (c : Clip) (a1 : F32) (hs : mx_Clip c ≤ 1048576) : ∃ r, spec_ThinClip K c a1 = some r ∧ impl_ThinClip K c a1 = some r ∧ mx_Clip r.1 ≤ 1048576 := by
  have h : Okc K c := okc_of hs
  have hnil : mx_Clip (Clip.mk 0 0 [] []) ≤ 1048576 := by simp [mx_Clip, mxL]
  unfold spec_ThinClip impl_ThinClip
  simp only [l05Is_eq hK h, ValidClip_eq hK h, bind_of]
  cases va : validC c
  · exact ⟨_, rfl, rfl, hnil⟩
  · simp only [Bool.not_true, ite2_false]
    have hr := validC_spec.1 va
    have hr2 := thin_right hK a1 hr
    have htl := h.tl
    have hrl := h.rl
    have e0 : (0 : Int).toNat = 0 := rfl
    have hok : Okc K (thinC K a1 c) := ⟨by have := hr2.tracks; omega, hrl, fun t ht => by have := vt_len (hr2.keys t ht); rw [List.length_map] at this; omega⟩
    have hmx : mx_Clip (thinC K a1 c) ≤ 1048576 := mx_of hok.tl hok.kl hok.rl
    refine ⟨(thinC K a1 c, true), ?_, ?_, hmx⟩
    · unfold spec_l05Own
      rw [chk_pos (by simp only [List.length_nil]; omega), List.nil_append, bind_of]
      refine map_loop (List.range c.Tracks.length) (fun i => thinT K a1 (c.Tracks.getD i default)) _ (spec_ThinClip_l4 K c a1 c.Roots) (fun k i hi => ?_) (fun k i xs hi hx => ?_) K (by rw [List.length_range]; omega)
      · rw [List.length_range] at hi
        rw [spec_ThinClip_l4, ite2_dec, if_neg (by omega)]; rfl
      · rw [List.length_range] at hi
        have hl := vt_len (hr.keys _ (getD_mem hi))
        rw [List.length_map] at hl
        rw [spec_ThinClip_l4, ite2_dec, if_pos (by omega), chk_pos (by omega)]
        simp only [Int.toNat_natCast, e0]
        rw [chk_pos (by omega), (thin_one hK c a1 i hr hi).1, bind_of, chk_pos (by simp only [List.length_singleton]; omega), wrap_nat1 (by omega), range_getD' hi]
    · have hch : impl_Clip_changed K c c.Length a1 = some (thinC K a1 c, true) := by
        unfold impl_Clip_changed impl_ThinClip_2 slices_Clone_impl_RootKey_impl_RootKey
        rw [chk_pos (by simp only [List.length_nil]; omega), List.nil_append, bind_of, bind_of]
        refine map_loop (List.range c.Tracks.length) (fun i => thinT K a1 (c.Tracks.getD i default)) _ (impl_Clip_changed_l1 K c c.Length a1 c.Roots) (fun k i hi => ?_) (fun k i xs hi hx => ?_) K (by rw [List.length_range]; omega)
        · rw [List.length_range] at hi
          rw [impl_Clip_changed_l1, ite2_dec, if_neg (by omega)]
          rw [show impl_validClip K (Clip.mk c.Length c.Kind ((List.range c.Tracks.length).map fun i => thinT K a1 (c.Tracks.getD i default)) c.Roots) = _ from validClip_eq hK hok, bind_of]
          rw [show Clip.mk c.Length c.Kind ((List.range c.Tracks.length).map fun i => thinT K a1 (c.Tracks.getD i default)) c.Roots = thinC K a1 c from rfl, if_pos (validC_spec.2 hr2)]
        · rw [List.length_range] at hi
          rw [impl_Clip_changed_l1, ite2_dec, if_pos (by omega), chk_pos (by omega)]
          unfold impl_ThinClip_1
          simp only [Int.toNat_natCast]
          rw [(thin_one hK c a1 i hr hi).2.1, bind_of, bind_of, chk_pos (by simp only [List.length_singleton]; omega), wrap_nat1 (by omega), range_getD' hi]
      rw [hch, bind_of]

theorem law_ThinClip (a : Clip) (a1 : F32) (hm : mx_Clip a ≤ maxLen) : ∃ K, laws_FnExactThinClip K a a1 = some true := by
  refine ⟨mx_Clip a + 1048578, ?_⟩
  generalize hKe : mx_Clip a + 1048578 = K
  unfold laws_FnExactThinClip
  obtain ⟨q, eq, q1, q2, q3⟩ := sz_Clip K a 1048576 (by omega) (by omega) hm (by omega)
  rw [eq, bind_of, ite2_dec]
  split
  · rfl
  · have hs : mx_Clip a ≤ 1048576 := by have := q3 (by omega); omega
    obtain ⟨s, s1, s2, s3⟩ := core_ThinClip (K := K) (by omega) a a1 hs
    obtain ⟨m, y0, y1, k1, k2, k3, k4, k5, k8⟩ := mark_Clip (K := K) (a := a) (k0 := 1) (by omega) hs (by omega) (by omega)
    obtain ⟨n, z0, z1, l1, l2, l3, l4, l5, l8⟩ := mark_Clip (K := K) (a := s.1) (k0 := 1) (by omega) s3 (by omega) (by omega)
    have n1 : decide (m < 0) = false := decide_eq_false (by omega)
    have n2 : decide (n < 0) = false := decide_eq_false (by omega)
    simp only [to_Clip (K := K) (a := a) (by omega) hs, bind_of, s1, s2, eq_Clip (K := K) (a := a) (by omega) hs, eq_Clip (K := K) (a := s.1) (by omega) s3, Bool.not_true, ite2_false, beq_self_eq_true, bne_self_eq_false, k1, chk_pos k4, chk_pos k5, n1, l1, chk_pos l4, chk_pos l5, l8, n2]

end Go.Fw
