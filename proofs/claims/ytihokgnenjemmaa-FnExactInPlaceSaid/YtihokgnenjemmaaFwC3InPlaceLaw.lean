/- The law of InPlace, in plain Lean: a clip whose root stays. -/
import Derived.Test.YtihokgnenjemmaaFwC3CLaw2
namespace Go.Fw
open Go

def stayC (c : Clip) : Clip := Clip.mk c.Length c.Kind c.Tracks [RootKey.mk 0 (c.Roots.getD 0 default).Place]
theorem stay_right {c : Clip} (h : Rc c) : validC (stayC c) = true := by
  refine validC_spec.2 ⟨h.len, h.kind, h.tracks, h.keys, ?_⟩
  have h1 := h.len
  show vt c.Length [0] = true
  simp [vt, chn, vtE]
  omega
theorem core_InPlace {K : Nat} (hK : 1048577 < K) (c : Clip) (hs : mx_Clip c ≤ 1048576) : ∃ r, spec_InPlace K c = some r ∧ impl_InPlace K c = some r ∧ mx_Clip r.1 ≤ 1048576 := by
  have h : Okc K c := okc_of hs
  unfold spec_InPlace impl_InPlace
  rw [l05Is_eq hK h, ValidClip_eq hK h, bind_of, bind_of]
  cases hv : validC c
  · exact ⟨_, rfl, rfl, by simp [mx_Clip, mxL]⟩
  · have hr := validC_spec.1 hv
    have hroots := vt_len hr.roots
    rw [List.length_map] at hroots
    have htl := h.tl
    have hout : Okc K (stayC c) := ⟨h.tl, by simp [stayC], h.kl⟩
    have e0 : (0 : Int).toNat = 0 := rfl
    refine ⟨(stayC c, true), ?_, ?_, mx_of hout.tl hout.kl hout.rl⟩
    · simp (disch := omega) only [Bool.not_true, ite2_false, chk_pos]
      refine map_loop c.Tracks (fun t => t) _ (spec_InPlace_l1 K c) (fun k i hi => ?_) (fun k i xs hi hx => ?_) K (by omega)
      · rw [spec_InPlace_l1, ite2_dec, if_neg (by omega), List.map_id']
        rfl
      · have hc : (i : Int) < (c.Tracks.length : Int) := by omega
        have hk := h.kl _ (getD_mem hi)
        rw [spec_InPlace_l1]
        simp (disch := omega) only [ite2_dec, if_pos hc, chk_pos, Int.toNat_natCast, wrap_nat1, List.nil_append]
        rw [chk_pos (by simp only [List.length_nil]; omega), chk_pos (by simp only [List.length_singleton]; omega)]
    · have hch : impl_Clip_changed K c c.Length = some (stayC c, true) := by
        unfold impl_Clip_changed impl_InPlace_2
        simp (disch := omega) only [chk_pos, bind_of]
        refine map_loop c.Tracks (fun t => t) _ (impl_Clip_changed_l1 K c c.Length _) (fun k i hi => ?_) (fun k i xs hi hx => ?_) K (by omega)
        · rw [impl_Clip_changed_l1, ite2_dec, if_neg (by omega), List.map_id']
          have := validClip_eq hK hout
          rw [stay_right hr, if_pos rfl] at this
          rw [show impl_validClip K (Clip.mk c.Length c.Kind c.Tracks [RootKey.mk 0 (c.Roots.getD (0 : Int).toNat default).Place]) = _ from this]
          rfl
        · have hc : (i : Int) < (c.Tracks.length : Int) := by omega
          have hk := h.kl _ (getD_mem hi)
          rw [impl_Clip_changed_l1]
          unfold impl_InPlace_1 slices_Clone_impl_Key_impl_Key
          simp (disch := omega) only [ite2_dec, if_pos hc, chk_pos, Int.toNat_natCast, wrap_nat1, List.nil_append, bind_of]
          rw [chk_pos (by simp only [List.length_nil]; omega)]
          simp only [bind_of]
          rw [chk_pos (by simp only [List.length_singleton]; omega)]
      simp only [Bool.not_true, ite2_false, hch, bind_of]

theorem law_InPlace (a : Clip) (hm : mx_Clip a ≤ maxLen) : ∃ K, laws_FnExactInPlace K a = some true := by
  refine ⟨mx_Clip a + 1048578, ?_⟩
  generalize hKe : mx_Clip a + 1048578 = K
  unfold laws_FnExactInPlace
  obtain ⟨r, er, r1, r2, r3⟩ := sz_Clip K a 1048576 (by omega) (by omega) hm (by omega)
  rw [er, bind_of, ite2_dec]
  split
  · rfl
  · have hs : mx_Clip a ≤ 1048576 := by have := r3 (by omega); omega
    obtain ⟨s, s1, s2, s3⟩ := core_InPlace (K := K) (by omega) a hs
    obtain ⟨m, y0, y1, k1, k2, k3, k4, k5, k8⟩ := mark_Clip (K := K) (a := a) (k0 := 1) (by omega) hs (by omega) (by omega)
    obtain ⟨n, z0, z1, l1, l2, l3, l4, l5, l8⟩ := mark_Clip (K := K) (a := s.1) (k0 := 1) (by omega) s3 (by omega) (by omega)
    have n1 : decide (m < 0) = false := decide_eq_false (by omega)
    have n2 : decide (n < 0) = false := decide_eq_false (by omega)
    simp only [to_Clip (K := K) (a := a) (by omega) hs, bind_of, s1, s2, eq_Clip (K := K) (a := a) (by omega) hs, eq_Clip (K := K) (a := s.1) (by omega) s3, Bool.not_true, ite2_false, beq_self_eq_true, bne_self_eq_false, k1, chk_pos k4, chk_pos k5, n1, l1, chk_pos l4, chk_pos l5, l8, n2]

end Go.Fw
