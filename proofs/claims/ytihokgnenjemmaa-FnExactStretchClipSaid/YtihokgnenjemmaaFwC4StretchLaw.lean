/- The law of StretchClip, in plain Lean: a clip whose keys come later. -/
import Derived.Test.YtihokgnenjemmaaFwC4CLaw2
namespace Go.Fw
open Go

def strK (b : Int) (k : Key) : Key := Key.mk (IntKind.i64.wrap (k.At * b)) k.Turn
def strR (b : Int) (k : RootKey) : RootKey := RootKey.mk (IntKind.i64.wrap (k.At * b)) k.Place
def strC (b : Int) (c : Clip) : Clip := Clip.mk (IntKind.i64.wrap (c.Length * b)) c.Kind (c.Tracks.map fun t => t.map (strK b)) (c.Roots.map (strR b))
theorem str_wrap {a b : Int} (h0 : 0 ≤ a) (h1 : a ≤ 1000) (hb0 : 1 ≤ b) (hb1 : b ≤ 100) : IntKind.i64.wrap (a * b) = a * b ∧ 0 ≤ a * b := by
  have g1 : a * b ≤ 1000 * 100 := Int.mul_le_mul h1 hb1 (by omega) (by omega)
  have g2 : 0 ≤ a * b := Int.mul_nonneg h0 (by omega)
  exact ⟨wrap_in (by omega) (by omega), g2⟩
theorem chn_str {L b : Int} (hL : L ≤ 1000) (hb0 : 1 ≤ b) (hb1 : b ≤ 100) : ∀ (l : List Int) (last last' : Int), -1 ≤ last → last' < (last + 1) * b → chn L last l = true → chn (L * b) last' (l.map fun a => IntKind.i64.wrap (a * b)) = true := by
  intro l
  induction l with
  | nil => intro _ _ _ _ _; rfl
  | cons a l ih =>
    intro last last' h0 h1 h
    simp only [chn, Bool.and_eq_true, decide_eq_true_eq] at h
    obtain ⟨⟨h2, h3⟩, h4⟩ := h
    have hw := str_wrap (a := a) (by omega) (by omega) hb0 hb1
    have g1 : (last + 1) * b ≤ a * b := Int.mul_le_mul_of_nonneg_right (by omega) (by omega)
    have g2 : a * b ≤ L * b := Int.mul_le_mul_of_nonneg_right h3 (by omega)
    simp only [List.map_cons, chn, Bool.and_eq_true, decide_eq_true_eq, hw.1]
    exact ⟨⟨by omega, g2⟩, ih a _ (by omega) (by rw [Int.add_mul]; omega) h4⟩
theorem vt_str {L b : Int} (hL : L ≤ 1000) (hb0 : 1 ≤ b) (hb1 : b ≤ 100) {l : List Int} (h : vt L l = true) : vt (L * b) (l.map fun a => IntKind.i64.wrap (a * b)) = true := by
  unfold vt at h ⊢
  rw [Bool.and_eq_true] at h ⊢
  exact ⟨chn_str hL hb0 hb1 l (-1) (-1) (by omega) (by omega) h.1, by rw [List.length_map]; exact h.2⟩
theorem str_right {c : Clip} {b : Int} (h : Rc c) (hb0 : 1 ≤ b) (hb1 : b ≤ 100) : validC (strC b c) = decide (IntKind.i64.wrap (c.Length * b) ≤ 1000) := by
  have hl := h.len
  have hw := str_wrap (a := c.Length) (by omega) hl.2 hb0 hb1
  by_cases hle : IntKind.i64.wrap (c.Length * b) ≤ 1000
  · rw [decide_eq_true hle]
    have g1 : 1 * 1 ≤ c.Length * b := Int.mul_le_mul hl.1 hb0 (by omega) (by omega)
    refine validC_spec.2 ⟨⟨?_, hle⟩, h.kind, ?_, fun t ht => ?_, ?_⟩
    · show 1 ≤ IntKind.i64.wrap (c.Length * b)
      rw [hw.1]; omega
    · have := h.tracks
      simp only [strC, List.length_map]
      exact this
    · obtain ⟨t0, ht0, rfl⟩ := List.mem_map.1 ht
      have := vt_str hl.2 hb0 hb1 (h.keys t0 ht0)
      show vt (IntKind.i64.wrap (c.Length * b)) ((t0.map (strK b)).map Key.At) = true
      rw [hw.1]
      rw [List.map_map] at this ⊢
      exact this
    · have := vt_str hl.2 hb0 hb1 h.roots
      show vt (IntKind.i64.wrap (c.Length * b)) ((c.Roots.map (strR b)).map RootKey.At) = true
      rw [hw.1]
      rw [List.map_map] at this ⊢
      exact this
  · rw [decide_eq_false hle]
    have : ¬ (Rc (strC b c)) := fun hr => hle hr.len.2
    rw [← validC_spec] at this
    simpa using this

theorem core_StretchClip {K : Nat} (hK : 1048577 < K) (c : Clip) (b : Int) (hs : mx_Clip c ≤ 1048576) : ∃ r, spec_StretchClip K c b = some r ∧ impl_StretchClip K c b = some r ∧ mx_Clip r.1 ≤ 1048576 := by
  have h : Okc K c := okc_of hs
  have hnil : mx_Clip (Clip.mk 0 0 [] []) ≤ 1048576 := by simp [mx_Clip, mxL]
  unfold spec_StretchClip impl_StretchClip
  rw [l05Is_eq hK h, ValidClip_eq hK h]
  simp only [bind_of, In_eq, ite2_or]
  cases hv : validC c
  · exact ⟨_, rfl, rfl, hnil⟩
  · have hr := validC_spec.1 hv
    have htl := h.tl
    have hrl := h.rl
    by_cases hb : 1 ≤ b ∧ b ≤ 100
    · have hout : Okc K (strC b c) := by
        refine ⟨by simp only [strC, List.length_map]; exact h.tl, by simp only [strC, List.length_map]; exact h.rl, fun t ht => ?_⟩
        obtain ⟨t0, ht0, rfl⟩ := List.mem_map.1 ht
        rw [List.length_map]
        exact h.kl t0 ht0
      have d1 : decide (1 ≤ b) = true := decide_eq_true hb.1
      have d2 : decide (b ≤ 100) = true := decide_eq_true hb.2
      have d3 : decide (b < 1) = false := decide_eq_false (by omega)
      have d4 : decide (b > 100) = false := decide_eq_false (by omega)
      simp only [d1, d2, d3, d4, Bool.and_self, Bool.not_true, Bool.or_self, Bool.false_or, ite2_false]
      -- a track's keys
      have hroot : impl_StretchClip_2 K c.Roots b = some (c.Roots.map (strR b)) := by
        unfold impl_StretchClip_2 impl_rootTrack impl_track_impl_RootKey_stretch
        rw [bind_of]
        have : impl_track_impl_RootKey_stretch_l1 K c.Roots b K 0 [] = some (c.Roots.map (strR b)) := by
          refine map_loop c.Roots (strR b) _ (impl_track_impl_RootKey_stretch_l1 K c.Roots b) (fun k i hi => ?_) (fun k i xs hi hx => ?_) K (by omega)
          · rw [impl_track_impl_RootKey_stretch_l1, ite2_dec, if_neg (by omega)]
          · have hc : (i : Int) < (c.Roots.length : Int) := by omega
            rw [impl_track_impl_RootKey_stretch_l1]
            unfold impl_rootTrack_1 impl_rootTrack_2
            simp (disch := omega) only [ite2_dec, if_pos hc, chk_pos, Int.toNat_natCast, wrap_nat1, bind_of]
            rw [chk_pos (by simp only [List.length_singleton]; omega)]
            rfl
        rw [this]; rfl
      have hkey : ∀ (j : Int) (t : List Key), t.length ≤ 1048576 → impl_StretchClip_1 K j t b = some (t.map (strK b)) := by
        intro j t ht
        unfold impl_StretchClip_1 impl_turnTrack impl_track_impl_Key_stretch
        rw [bind_of]
        have : impl_track_impl_Key_stretch_l1 K t b K 0 [] = some (t.map (strK b)) := by
          refine map_loop t (strK b) _ (impl_track_impl_Key_stretch_l1 K t b) (fun k i hi => ?_) (fun k i xs hi hx => ?_) K (by omega)
          · rw [impl_track_impl_Key_stretch_l1, ite2_dec, if_neg (by omega)]
          · have hc : (i : Int) < (t.length : Int) := by omega
            rw [impl_track_impl_Key_stretch_l1]
            unfold impl_turnTrack_1 impl_turnTrack_2
            simp (disch := omega) only [ite2_dec, if_pos hc, chk_pos, Int.toNat_natCast, wrap_nat1, bind_of]
            rw [chk_pos (by simp only [List.length_singleton]; omega)]
            rfl
        rw [this]; rfl
      have hch : impl_Clip_changed K c (IntKind.i64.wrap (c.Length * b)) b b = some (if validC (strC b c) = true then (strC b c, true) else (Clip.mk 0 0 [] [], false)) := by
        unfold impl_Clip_changed
        rw [hroot, bind_of]
        refine map_loop c.Tracks (fun t => t.map (strK b)) _ (impl_Clip_changed_l1 K c (IntKind.i64.wrap (c.Length * b)) b _) (fun k i hi => ?_) (fun k i xs hi hx => ?_) K (by omega)
        · rw [impl_Clip_changed_l1, ite2_dec, if_neg (by omega)]
          rw [show impl_validClip K (Clip.mk (IntKind.i64.wrap (c.Length * b)) c.Kind (c.Tracks.map fun t => t.map (strK b)) (c.Roots.map (strR b))) = _ from validClip_eq hK hout]
          rfl
        · have hc : (i : Int) < (c.Tracks.length : Int) := by omega
          have hk := h.kl _ (getD_mem hi)
          rw [impl_Clip_changed_l1]
          simp (disch := omega) only [ite2_dec, if_pos hc, chk_pos, Int.toNat_natCast, wrap_nat1, hkey, bind_of]
          rw [chk_pos (by simp only [List.length_singleton]; omega)]
      have hsp : spec_StretchClip_l4 K c b K 0 [] = some (strC b c, true) := by
        refine map_loop c.Tracks (fun t => t.map (strK b)) _ (spec_StretchClip_l4 K c b) (fun k i hi => ?_) (fun k i xs hi hx => ?_) K (by omega)
        · rw [spec_StretchClip_l4, ite2_dec, if_neg (by omega)]
          refine map_loop c.Roots (strR b) _ (spec_StretchClip_l6 K c b _) (fun k i hi => ?_) (fun k i xs hi hx => ?_) K (by omega)
          · rw [spec_StretchClip_l6, ite2_dec, if_neg (by omega)]
            rfl
          · have hc : (i : Int) < (c.Roots.length : Int) := by omega
            rw [spec_StretchClip_l6]
            simp (disch := omega) only [ite2_dec, if_pos hc, chk_pos, Int.toNat_natCast, wrap_nat1]
            rw [chk_pos (by simp only [List.length_singleton]; omega)]
            rfl
        · have hc : (i : Int) < (c.Tracks.length : Int) := by omega
          have hk := h.kl _ (getD_mem hi)
          have hin : spec_StretchClip_l5 K c b (i : Int) K 0 [] = some ((c.Tracks.getD i default).map (strK b)) := by
            refine map_loop (c.Tracks.getD i default) (strK b) _ (spec_StretchClip_l5 K c b (i : Int)) (fun k j hj => ?_) (fun k j xs hj hx => ?_) K (by omega)
            · rw [spec_StretchClip_l5, Int.toNat_natCast, ite2_dec, if_neg (by omega)]
            · have hc2 : (j : Int) < ((c.Tracks.getD i default).length : Int) := by omega
              rw [spec_StretchClip_l5]
              simp (disch := omega) only [Int.toNat_natCast, ite2_dec, if_pos hc2, chk_pos, wrap_nat1]
              rw [chk_pos (by simp only [List.length_singleton]; omega)]
              rfl
          rw [spec_StretchClip_l4]
          simp (disch := omega) only [ite2_dec, if_pos hc, chk_pos, Int.toNat_natCast, wrap_nat1, hin, bind_of]
          rw [chk_pos (by simp only [List.length_singleton]; omega)]
      rw [hch, hsp, str_right hr hb.1 hb.2, dec_gt]
      by_cases hle : IntKind.i64.wrap (c.Length * b) ≤ 1000
      · rw [decide_eq_true hle]
        exact ⟨(strC b c, true), rfl, rfl, mx_of hout.tl hout.kl hout.rl⟩
      · rw [decide_eq_false hle]
        exact ⟨(Clip.mk 0 0 [] [], false), rfl, rfl, hnil⟩
    · have d1 : (decide (1 ≤ b) && decide (b ≤ 100)) = false := by
        rw [Bool.and_eq_false_iff, decide_eq_false_iff_not, decide_eq_false_iff_not]; omega
      have d2 : (decide (b < 1) || decide (b > 100)) = true := by
        rw [Bool.or_eq_true, decide_eq_true_eq, decide_eq_true_eq]; omega
      simp only [d1, d2, Bool.not_true, Bool.not_false, Bool.false_or, Bool.true_or, ite2_true]
      exact ⟨_, rfl, rfl, hnil⟩

theorem law_StretchClip (a : Clip) (b : Int) (hm : mx_Clip a ≤ maxLen) : ∃ K, laws_FnExactStretchClip K a b = some true := by
  refine ⟨mx_Clip a + 1048578, ?_⟩
  generalize hKe : mx_Clip a + 1048578 = K
  unfold laws_FnExactStretchClip
  obtain ⟨r, er, r1, r2, r3⟩ := sz_Clip K a 1048576 (by omega) (by omega) hm (by omega)
  rw [er, bind_of, ite2_dec]
  split
  · rfl
  · have hs : mx_Clip a ≤ 1048576 := by have := r3 (by omega); omega
    obtain ⟨s, s1, s2, s3⟩ := core_StretchClip (K := K) (by omega) a b hs
    obtain ⟨m, y0, y1, k1, k2, k3, k4, k5, k8⟩ := mark_Clip (K := K) (a := a) (k0 := 1) (by omega) hs (by omega) (by omega)
    obtain ⟨n, z0, z1, l1, l2, l3, l4, l5, l8⟩ := mark_Clip (K := K) (a := s.1) (k0 := 1) (by omega) s3 (by omega) (by omega)
    have n1 : decide (m < 0) = false := decide_eq_false (by omega)
    have n2 : decide (n < 0) = false := decide_eq_false (by omega)
    simp only [to_Clip (K := K) (a := a) (by omega) hs, bind_of, s1, s2, eq_Clip (K := K) (a := a) (by omega) hs, eq_Clip (K := K) (a := s.1) (by omega) s3, Bool.not_true, ite2_false, beq_self_eq_true, bne_self_eq_false, k1, chk_pos k4, chk_pos k5, n1, l1, chk_pos l4, chk_pos l5, l8, n2]

end Go.Fw
