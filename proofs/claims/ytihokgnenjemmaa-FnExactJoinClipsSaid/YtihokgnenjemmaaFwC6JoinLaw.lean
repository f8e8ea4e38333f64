/- The law of JoinClips, in plain Lean: two clips, one behind the other. -/
import Derived.Test.YtihokgnenjemmaaFwC6CLaw2
namespace Go.Fw
open Go

theorem app_loop {α β γ : Type} [Inhabited α] (a : List α) (g : α → β) (xs0 : List β) (r : Option γ) (l : Nat → Int → List β → Option γ) (hend : ∀ (k i : Nat), a.length ≤ i → l (k + 1) (i : Int) (xs0 ++ a.map g) = r)
    (hstep : ∀ (k i : Nat) (xs : List β), i < a.length → xs.length = xs0.length + i → l (k + 1) (i : Int) xs = l k ((i + 1 : Nat) : Int) (xs ++ [g (a.getD i default)])) (K : Nat) (hK : a.length < K) : l K 0 xs0 = r := by
  have := map_loop a g r (fun k i xs => l k i (xs0 ++ xs)) hend (fun k i xs hi hx => by
    show l (k + 1) (i : Int) (xs0 ++ xs) = l k ((i + 1 : Nat) : Int) (xs0 ++ (xs ++ _))
    rw [← List.append_assoc]
    exact hstep k i (xs0 ++ xs) hi (by rw [List.length_append, hx])) K hK
  simpa using this
theorem range_getD {n i : Nat} (h : i < n) : (List.range n).getD i default = i := by
  rw [List.getD_eq_getElem?_getD, List.getElem?_range h]; rfl
theorem wrap_last {n : Nat} (h0 : 1 ≤ n) (h : n ≤ 1048576) : IntKind.i64.wrap ((n : Int) - 1) = ((n - 1 : Nat) : Int) := by rw [wrap_in (by omega) (by omega)]; omega

def shK (L : Int) (x : Key) : Key := Key.mk (IntKind.i64.wrap (x.At + L)) x.Turn
def joinK (L : Int) (a b : List Key) : List Key := (if ((a.getD (a.length - 1) default).At == L && (b.getD 0 default).At == 0) = true then a.take (a.length - 1) else a) ++ b.map (shK L)
theorem joinK_len {L : Int} {a b : List Key} : (joinK L a b).length ≤ a.length + b.length := by
  unfold joinK
  rw [List.length_append, List.length_map]
  split
  · rw [List.length_take]; omega
  · exact Nat.le_refl _
theorem joinK_1 {K : Nat} (b : List Key) (L : Int) (xs0 : List Key) (h0 : xs0.length ≤ 1048576) (hb : b.length ≤ 1048576) (hK : b.length < K) : impl_track_impl_Key_join_l1 K b L K 0 xs0 = some (xs0 ++ b.map (shK L)) := by
  refine app_loop b (shK L) xs0 _ (impl_track_impl_Key_join_l1 K b L) (fun k i hi => by rw [impl_track_impl_Key_join_l1, ite2_dec, if_neg (by omega)]) (fun k i xs hi hx => ?_) K hK
  rw [impl_track_impl_Key_join_l1, ite2_dec, if_pos (by omega), chk_pos (by omega)]
  unfold impl_turnTrack_1 impl_turnTrack_2
  rw [bind_of, bind_of, chk_pos (by simp only [List.length_singleton]; omega), wrap_nat1 (by omega), Int.toNat_natCast]
  rfl
theorem joinK_2 {K : Nat} (b : List Key) (L : Int) (xs0 : List Key) (h0 : xs0.length ≤ 1048576) (hb : b.length ≤ 1048576) (hK : b.length < K) : impl_track_impl_Key_join_l2 K b L K 0 xs0 = some (xs0 ++ b.map (shK L)) := by
  refine app_loop b (shK L) xs0 _ (impl_track_impl_Key_join_l2 K b L) (fun k i hi => by rw [impl_track_impl_Key_join_l2, ite2_dec, if_neg (by omega)]) (fun k i xs hi hx => ?_) K hK
  rw [impl_track_impl_Key_join_l2, ite2_dec, if_pos (by omega), chk_pos (by omega)]
  unfold impl_turnTrack_1 impl_turnTrack_2
  rw [bind_of, bind_of, chk_pos (by simp only [List.length_singleton]; omega), wrap_nat1 (by omega), Int.toNat_natCast]
  rfl
theorem joinK_impl {K : Nat} {a b : List Key} (L : Int) (ha : 1 ≤ a.length) (ha2 : a.length ≤ 1048576) (hb : 1 ≤ b.length) (hb2 : b.length ≤ 1048576) (hK : b.length < K) : impl_track_impl_Key_join K a b L = some (joinK L a b) := by
  have e0 : (0 : Int).toNat = 0 := rfl
  unfold impl_track_impl_Key_join slices_Clone_impl_Key_impl_Key impl_turnTrack_1
  rw [wrap_last ha ha2, chk_pos (by omega)]
  simp only [bind_of, Int.toNat_natCast, e0, List.drop_zero, Nat.sub_zero, List.nil_append]
  have hc : (ite2 ((a.getD (a.length - 1) default).At == L) (chk (0 ≤ (0 : Int) ∧ (0 : Int) < (b.length : Int)) (some ((b.getD 0 default).At == (0 : Int)))) (some false)) = some ((a.getD (a.length - 1) default).At == L && (b.getD 0 default).At == 0) := by
    rw [chk_pos (by omega), ite2_and]
  rw [hc, bind_of]
  unfold joinK
  cases hd : ((a.getD (a.length - 1) default).At == L && (b.getD 0 default).At == 0)
  · rw [ite2_false, chk_pos (by simp only [List.length_nil]; omega), bind_of, joinK_2 b L a ha2 hb2 hK, if_neg (by decide)]
  · rw [ite2_true, chk_pos (by omega), chk_pos (by simp only [List.length_nil, List.length_take]; omega), bind_of, joinK_1 b L _ (by rw [List.length_take]; omega) hb2 hK, if_pos rfl]

def shR (L : Int) (x : RootKey) : RootKey := RootKey.mk (IntKind.i64.wrap (x.At + L)) x.Place
def joinR (L : Int) (a b : List RootKey) : List RootKey := (if ((a.getD (a.length - 1) default).At == L && (b.getD 0 default).At == 0) = true then a.take (a.length - 1) else a) ++ b.map (shR L)
theorem joinR_len {L : Int} {a b : List RootKey} : (joinR L a b).length ≤ a.length + b.length := by
  unfold joinR
  rw [List.length_append, List.length_map]
  split
  · rw [List.length_take]; omega
  · exact Nat.le_refl _
theorem joinR_1 {K : Nat} (b : List RootKey) (L : Int) (xs0 : List RootKey) (h0 : xs0.length ≤ 1048576) (hb : b.length ≤ 1048576) (hK : b.length < K) : impl_track_impl_RootKey_join_l1 K b L K 0 xs0 = some (xs0 ++ b.map (shR L)) := by
  refine app_loop b (shR L) xs0 _ (impl_track_impl_RootKey_join_l1 K b L) (fun k i hi => by rw [impl_track_impl_RootKey_join_l1, ite2_dec, if_neg (by omega)]) (fun k i xs hi hx => ?_) K hK
  rw [impl_track_impl_RootKey_join_l1, ite2_dec, if_pos (by omega), chk_pos (by omega)]
  unfold impl_rootTrack_1 impl_rootTrack_2
  rw [bind_of, bind_of, chk_pos (by simp only [List.length_singleton]; omega), wrap_nat1 (by omega), Int.toNat_natCast]
  rfl
theorem joinR_2 {K : Nat} (b : List RootKey) (L : Int) (xs0 : List RootKey) (h0 : xs0.length ≤ 1048576) (hb : b.length ≤ 1048576) (hK : b.length < K) : impl_track_impl_RootKey_join_l2 K b L K 0 xs0 = some (xs0 ++ b.map (shR L)) := by
  refine app_loop b (shR L) xs0 _ (impl_track_impl_RootKey_join_l2 K b L) (fun k i hi => by rw [impl_track_impl_RootKey_join_l2, ite2_dec, if_neg (by omega)]) (fun k i xs hi hx => ?_) K hK
  rw [impl_track_impl_RootKey_join_l2, ite2_dec, if_pos (by omega), chk_pos (by omega)]
  unfold impl_rootTrack_1 impl_rootTrack_2
  rw [bind_of, bind_of, chk_pos (by simp only [List.length_singleton]; omega), wrap_nat1 (by omega), Int.toNat_natCast]
  rfl
theorem joinR_impl {K : Nat} {a b : List RootKey} (L : Int) (ha : 1 ≤ a.length) (ha2 : a.length ≤ 1048576) (hb : 1 ≤ b.length) (hb2 : b.length ≤ 1048576) (hK : b.length < K) : impl_track_impl_RootKey_join K a b L = some (joinR L a b) := by
  have e0 : (0 : Int).toNat = 0 := rfl
  unfold impl_track_impl_RootKey_join slices_Clone_impl_RootKey_impl_RootKey impl_rootTrack_1
  rw [wrap_last ha ha2, chk_pos (by omega)]
  simp only [bind_of, Int.toNat_natCast, e0, List.drop_zero, Nat.sub_zero, List.nil_append]
  have hc : (ite2 ((a.getD (a.length - 1) default).At == L) (chk (0 ≤ (0 : Int) ∧ (0 : Int) < (b.length : Int)) (some ((b.getD 0 default).At == (0 : Int)))) (some false)) = some ((a.getD (a.length - 1) default).At == L && (b.getD 0 default).At == 0) := by
    rw [chk_pos (by omega), ite2_and]
  rw [hc, bind_of]
  unfold joinR
  cases hd : ((a.getD (a.length - 1) default).At == L && (b.getD 0 default).At == 0)
  · rw [ite2_false, chk_pos (by simp only [List.length_nil]; omega), bind_of, joinR_2 b L a ha2 hb2 hK, if_neg (by decide)]
  · rw [ite2_true, chk_pos (by omega), chk_pos (by simp only [List.length_nil, List.length_take]; omega), bind_of, joinR_1 b L _ (by rw [List.length_take]; omega) hb2 hK, if_pos rfl]

def joinC (a b : Clip) : Clip := Clip.mk (IntKind.i64.wrap (a.Length + b.Length)) a.Kind ((List.range a.Tracks.length).map fun i => joinK a.Length (a.Tracks.getD i default) (b.Tracks.getD i default)) (joinR a.Length a.Roots b.Roots)
theorem spec_l8_eq {K : Nat} (a b : Clip) (i : Nat) (xs0 : List Key) (hi : i < b.Tracks.length) (h0 : xs0.length ≤ 1048576) (hb : (b.Tracks.getD i default).length ≤ 1048576) (hK : 1048576 < K) : spec_JoinClips_l8 K a b (i : Int) K 0 xs0 = some (xs0 ++ (b.Tracks.getD i default).map (shK a.Length)) := by
  refine app_loop (b.Tracks.getD i default) (shK a.Length) xs0 _ (spec_JoinClips_l8 K a b (i : Int)) (fun k j hj => by rw [spec_JoinClips_l8, Int.toNat_natCast, ite2_dec, if_neg (by omega)]) (fun k j xs hj hx => ?_) K (by omega)
  rw [spec_JoinClips_l8]
  simp only [Int.toNat_natCast]
  rw [ite2_dec, if_pos (by omega), chk_pos (by omega), chk_pos (by omega), chk_pos (by simp only [List.length_singleton]; omega), wrap_nat1 (by omega)]
  rfl
theorem spec_l9_eq {K : Nat} (a b : Clip) (i : Nat) (xs0 : List Key) (hi : i < b.Tracks.length) (h0 : xs0.length ≤ 1048576) (hb : (b.Tracks.getD i default).length ≤ 1048576) (hK : 1048576 < K) : spec_JoinClips_l9 K a b (i : Int) K 0 xs0 = some (xs0 ++ (b.Tracks.getD i default).map (shK a.Length)) := by
  refine app_loop (b.Tracks.getD i default) (shK a.Length) xs0 _ (spec_JoinClips_l9 K a b (i : Int)) (fun k j hj => by rw [spec_JoinClips_l9, Int.toNat_natCast, ite2_dec, if_neg (by omega)]) (fun k j xs hj hx => ?_) K (by omega)
  rw [spec_JoinClips_l9]
  simp only [Int.toNat_natCast]
  rw [ite2_dec, if_pos (by omega), chk_pos (by omega), chk_pos (by omega), chk_pos (by simp only [List.length_singleton]; omega), wrap_nat1 (by omega)]
  rfl
def endC (c : Clip) : Clip × Bool := if validC c = true then (c, true) else (Clip.mk 0 0 [] [], false)
theorem endC_of {K : Nat} (hK : 1048577 < K) {c : Clip} (h : Okc K c) : ((spec_l05Is K c).bind fun v => ite2 (!v) (some ((Clip.mk (0 : Int) (0 : Int) ([] : (List (List Key))) ([] : (List RootKey))), false)) (some (c, true))) = some (endC c) := by
  rw [l05Is_eq hK h, bind_of]
  unfold endC
  cases validC c <;> rfl
theorem spec_roots {K : Nat} (hK : 1048577 < K) (a b : Clip) (ts : List (List Key)) (xs0 : List RootKey) (h0 : xs0.length ≤ 1000000) (hb : b.Roots.length ≤ 12) (ht : ts.length ≤ 1048576) (ht2 : ∀ t ∈ ts, t.length ≤ 1048576) :
    spec_JoinClips_l10 K a b ts K 0 xs0 = some (endC (Clip.mk (IntKind.i64.wrap (a.Length + b.Length)) a.Kind ts (xs0 ++ b.Roots.map (shR a.Length)))) ∧
    spec_JoinClips_l11 K a b ts K 0 xs0 = some (endC (Clip.mk (IntKind.i64.wrap (a.Length + b.Length)) a.Kind ts (xs0 ++ b.Roots.map (shR a.Length)))) := by
  have hok : Okc K (Clip.mk (IntKind.i64.wrap (a.Length + b.Length)) a.Kind ts (xs0 ++ b.Roots.map (shR a.Length))) := ⟨ht, by show (xs0 ++ b.Roots.map (shR a.Length)).length ≤ 1048576; rw [List.length_append, List.length_map]; omega, ht2⟩
  constructor
  · refine app_loop b.Roots (shR a.Length) xs0 _ (spec_JoinClips_l10 K a b ts) (fun k j hj => by rw [spec_JoinClips_l10, ite2_dec, if_neg (by omega), endC_of hK hok]) (fun k j xs hj hx => ?_) K (by omega)
    rw [spec_JoinClips_l10]
    simp only [Int.toNat_natCast]
    rw [ite2_dec, if_pos (by omega), chk_pos (by omega), chk_pos (by simp only [List.length_singleton]; omega), wrap_nat1 (by omega)]
    rfl
  · refine app_loop b.Roots (shR a.Length) xs0 _ (spec_JoinClips_l11 K a b ts) (fun k j hj => by rw [spec_JoinClips_l11, ite2_dec, if_neg (by omega), endC_of hK hok]) (fun k j xs hj hx => ?_) K (by omega)
    rw [spec_JoinClips_l11]
    simp only [Int.toNat_natCast]
    rw [ite2_dec, if_pos (by omega), chk_pos (by omega), chk_pos (by simp only [List.length_singleton]; omega), wrap_nat1 (by omega)]
    rfl
theorem core_JoinClips {K : Nat} (hK : 1048577 < K) (a b : Clip) (hs : mx_Clip a ≤ 1048576) (hs2 : mx_Clip b ≤ 1048576) : ∃ r, spec_JoinClips K a b = some r ∧ impl_JoinClips K a b = some r ∧ mx_Clip r.1 ≤ 1048576 := by
  have ha : Okc K a := okc_of hs
  have hb : Okc K b := okc_of hs2
  have hnil : mx_Clip (Clip.mk 0 0 [] []) ≤ 1048576 := by simp [mx_Clip, mxL]
  unfold spec_JoinClips impl_JoinClips
  simp only [l05Is_eq hK ha, l05Is_eq hK hb, ValidClip_eq hK ha, ValidClip_eq hK hb, bind_of]
  cases va : validC a
  · exact ⟨_, rfl, rfl, hnil⟩
  · cases vb : validC b
    · exact ⟨_, rfl, rfl, hnil⟩
    · simp only [Bool.not_true, ite2_false, ite2_or, bind_of]
      rw [Bool.or_comm ((a.Tracks.length : Int) != (b.Tracks.length : Int))]
      cases hne : ((a.Kind != b.Kind) || ((a.Tracks.length : Int) != (b.Tracks.length : Int)))
      · simp only [ite2_false]
        have hlen : a.Tracks.length = b.Tracks.length := by
          have := (Bool.or_eq_false_iff.1 hne).2
          simp at this
          omega
        have ra := validC_spec.1 va
        have rb := validC_spec.1 vb
        have hA : ∀ i, i < a.Tracks.length → 1 ≤ (a.Tracks.getD i default).length ∧ (a.Tracks.getD i default).length ≤ 12 := fun i hi => by
          have := vt_len (ra.keys _ (getD_mem hi)); rwa [List.length_map] at this
        have hB : ∀ i, i < b.Tracks.length → 1 ≤ (b.Tracks.getD i default).length ∧ (b.Tracks.getD i default).length ≤ 12 := fun i hi => by
          have := vt_len (rb.keys _ (getD_mem hi)); rwa [List.length_map] at this
        have hRa := vt_len ra.roots
        have hRb := vt_len rb.roots
        rw [List.length_map] at hRa hRb
        have htl := ra.tracks
        have hts : ∀ t ∈ ((List.range a.Tracks.length).map fun i => joinK a.Length (a.Tracks.getD i default) (b.Tracks.getD i default)), t.length ≤ 1048576 := by
          intro t ht
          obtain ⟨i, hi, rfl⟩ := List.mem_map.1 ht
          have hi := List.mem_range.1 hi
          have := @joinK_len a.Length (a.Tracks.getD i default) (b.Tracks.getD i default)
          have := hA i hi
          have := hB i (by omega)
          omega
        have hok : Okc K (joinC a b) := ⟨by show (List.map _ _).length ≤ _; rw [List.length_map, List.length_range]; exact ha.tl, by have := @joinR_len a.Length a.Roots b.Roots; show (joinR a.Length a.Roots b.Roots).length ≤ _; omega, hts⟩
        have hmx : mx_Clip (endC (joinC a b)).1 ≤ 1048576 := by
          unfold endC
          split
          · exact mx_of hok.tl hok.kl hok.rl
          · exact hnil
        refine ⟨endC (joinC a b), ?_, ?_, hmx⟩
        · refine map_loop (List.range a.Tracks.length) (fun i => joinK a.Length (a.Tracks.getD i default) (b.Tracks.getD i default)) _ (spec_JoinClips_l7 K a b) (fun k i hi => ?_) (fun k i xs hi hx => ?_) K (by rw [List.length_range]; omega)
          · rw [List.length_range] at hi
            have e0 : (0 : Int).toNat = 0 := rfl
            rw [spec_JoinClips_l7, ite2_dec, if_neg (by omega)]
            simp only [List.nil_append, wrap_last hRa.1 (show a.Roots.length ≤ 1048576 by omega), Int.toNat_natCast, e0]
            rw [chk_pos (by simp only [List.length_nil]; omega), chk_pos (by omega), chk_pos (show 0 ≤ (0 : Int) ∧ (0 : Int) < (b.Roots.length : Int) by omega), ite2_and, bind_of]
            have hq := fun xs0 h0 => spec_roots hK a b ((List.range a.Tracks.length).map fun i => joinK a.Length (a.Tracks.getD i default) (b.Tracks.getD i default)) xs0 h0 hRb.2 (by rw [List.length_map, List.length_range]; exact ha.tl) hts
            unfold joinC joinR
            cases hd : ((a.Roots.getD (a.Roots.length - 1) default).At == a.Length && (b.Roots.getD 0 default).At == 0)
            · rw [ite2_false, (hq a.Roots (by omega)).2, if_neg (by decide)]
            · rw [ite2_true, chk_pos (by omega), (hq _ (by rw [List.length_take]; omega)).1, if_pos rfl]
          · rw [List.length_range] at hi
            have e0 : (0 : Int).toNat = 0 := rfl
            have h1 := hA i hi
            have h2 := hB i (by omega)
            rw [spec_JoinClips_l7, ite2_dec, if_pos (by omega)]
            simp only [List.nil_append, Int.toNat_natCast, e0]
            simp only [wrap_last h1.1 (show (a.Tracks.getD i default).length ≤ 1048576 by omega), Int.toNat_natCast]
            rw [chk_pos (by omega), chk_pos (by simp only [List.length_nil]; omega), chk_pos (by omega), chk_pos (show 0 ≤ (i : Int) ∧ (i : Int) < (b.Tracks.length : Int) by omega), chk_pos (show 0 ≤ (0 : Int) ∧ (0 : Int) < ((b.Tracks.getD i default).length : Int) by omega), ite2_and, bind_of, range_getD hi]
            unfold joinK
            cases hd : (((a.Tracks.getD i default).getD ((a.Tracks.getD i default).length - 1) default).At == a.Length && ((b.Tracks.getD i default).getD 0 default).At == 0)
            · rw [ite2_false, spec_l9_eq a b i _ (by omega) (by omega) (by omega) (by omega), bind_of]
              rw [chk_pos (by omega), chk_pos (by simp only [List.length_singleton]; omega), wrap_nat1 (by omega), if_neg (by decide)]
            · rw [ite2_true, chk_pos (by omega), chk_pos (by omega), spec_l8_eq a b i _ (by omega) (by rw [List.length_take]; omega) (by omega) (by omega), bind_of, chk_pos (by simp only [List.length_singleton]; omega), wrap_nat1 (by omega), if_pos rfl]
        · have hch : impl_Clip_changed K a (IntKind.i64.wrap (a.Length + b.Length)) b a b a = some (endC (joinC a b)) := by
            unfold impl_Clip_changed impl_JoinClips_2 impl_rootTrack
            rw [bind_of, joinR_impl a.Length hRa.1 (by omega) hRb.1 (by omega) (by omega), bind_of, bind_of]
            refine map_loop (List.range a.Tracks.length) (fun i => joinK a.Length (a.Tracks.getD i default) (b.Tracks.getD i default)) _ (impl_Clip_changed_l1 K a (IntKind.i64.wrap (a.Length + b.Length)) b a (joinR a.Length a.Roots b.Roots)) (fun k i hi => ?_) (fun k i xs hi hx => ?_) K (by rw [List.length_range]; omega)
            · rw [List.length_range] at hi
              rw [impl_Clip_changed_l1, ite2_dec, if_neg (by omega)]
              rw [show impl_validClip K (Clip.mk (IntKind.i64.wrap (a.Length + b.Length)) a.Kind ((List.range a.Tracks.length).map fun i => joinK a.Length (a.Tracks.getD i default) (b.Tracks.getD i default)) (joinR a.Length a.Roots b.Roots)) = _ from validClip_eq hK hok]
              rfl
            · rw [List.length_range] at hi
              have h1 := hA i hi
              have h2 := hB i (by omega)
              rw [impl_Clip_changed_l1, ite2_dec, if_pos (by omega), chk_pos (by omega)]
              unfold impl_JoinClips_1 impl_turnTrack
              rw [bind_of, chk_pos (by omega)]
              simp only [Int.toNat_natCast]
              rw [joinK_impl a.Length h1.1 (by omega) h2.1 (by omega) (by omega), bind_of, bind_of, chk_pos (by simp only [List.length_singleton]; omega), wrap_nat1 (by omega), range_getD hi]
          rw [hch, bind_of]
      · exact ⟨_, rfl, rfl, hnil⟩

theorem law_JoinClips (a b : Clip) (hm : mx_Clip a ≤ maxLen) (hm2 : mx_Clip b ≤ maxLen) : ∃ K, laws_FnExactJoinClips K a b = some true := by
  refine ⟨mx_Clip a + mx_Clip b + 1048578, ?_⟩
  generalize hKe : mx_Clip a + mx_Clip b + 1048578 = K
  unfold laws_FnExactJoinClips
  obtain ⟨q, eq, q1, q2, q3⟩ := sz_Clip K a 1048576 (by omega) (by omega) hm (by omega)
  rw [eq, bind_of, ite2_dec]
  split
  · rfl
  · have hs : mx_Clip a ≤ 1048576 := by have := q3 (by omega); omega
    obtain ⟨r, er, r1, r2, r3⟩ := sz_Clip K b q (by omega) (by omega) hm2 (by omega)
    rw [er, bind_of, ite2_dec]
    split
    · rfl
    · have hs2 : mx_Clip b ≤ 1048576 := by have := r3 (by omega); omega
      obtain ⟨s, s1, s2, s3⟩ := core_JoinClips (K := K) (by omega) a b hs hs2
      obtain ⟨m0, x0, x1, t1, t2, t3, t4, t5, t8⟩ := mark_Clip (K := K) (a := a) (k0 := 1) (by omega) hs (by omega) (by omega)
      obtain ⟨m, y0, y1, k1, k2, k3, k4, k5, k8⟩ := mark_Clip (K := K) (a := b) (k0 := m0) (by omega) hs2 (by omega) (by omega)
      obtain ⟨n, z0, z1, l1, l2, l3, l4, l5, l8⟩ := mark_Clip (K := K) (a := s.1) (k0 := 1) (by omega) s3 (by omega) (by omega)
      have n1 : decide (m < 0) = false := decide_eq_false (by omega)
      have n2 : decide (n < 0) = false := decide_eq_false (by omega)
      simp only [to_Clip (K := K) (a := a) (by omega) hs, to_Clip (K := K) (a := b) (by omega) hs2, bind_of, s1, s2, eq_Clip (K := K) (a := a) (by omega) hs, eq_Clip (K := K) (a := b) (by omega) hs2, eq_Clip (K := K) (a := s.1) (by omega) s3, Bool.not_true, ite2_false, beq_self_eq_true, bne_self_eq_false, t1, chk_pos t4, chk_pos t5, k1, chk_pos k4, chk_pos k5, n1, l1, chk_pos l4, chk_pos l5, l8, n2]

end Go.Fw
