/- Mirrored poses, skeletons and clips; samples. (A template.) -/
import Derived.Test.YtbfcahbecedaiadFwGFMirB
namespace Go.Fw
open Go

theorem list_ext_n {α : Type} [Inhabited α] {n : Nat} {a b : List α} (ha : a.length = n) (hb : b.length = n) (h : ∀ j, j < n → a.getD j default = b.getD j default) : a = b := by
  refine List.ext_getElem (by omega) fun j h1 h2 => ?_
  have := h j (by omega)
  rw [getD_of_lt h1, getD_of_lt h2] at this
  exact this
/-- A loop that fills a list. -/
theorem fill_loop {α γ : Type} [Inhabited α] (n : Nat) (a : List α) (g : Nat → α) (F : List α → γ) (l : Nat → Int → List α → Option γ) (hend : ∀ (k : Nat) (xs : List α), xs.length = n → l (k + 1) (n : Int) xs = some (F xs))
    (hstep : ∀ (k i : Nat) (xs : List α), i < n → xs.length = n → xs.getD i default = a.getD i default → l (k + 1) (i : Int) xs = l k ((i + 1 : Nat) : Int) (xs.set i (g i))) : ∀ (k i : Nat) (xs : List α), i ≤ n → n - i < k → xs.length = n → (∀ j, j < i → xs.getD j default = g j) → (∀ j, i ≤ j → xs.getD j default = a.getD j default) →
    ∃ r, l k (i : Int) xs = some (F r) ∧ r.length = n ∧ ∀ j, j < n → r.getD j default = g j := by
  intro k
  induction k with
  | zero => intro i _ _ h; omega
  | succ k ih =>
    intro i xs h1 h2 h3 h4 h5
    by_cases hi : i < n
    · rw [hstep k i xs hi h3 (h5 i (Nat.le_refl i))]
      refine ih (i + 1) _ (by omega) (by omega) (by rw [List.length_set]; exact h3) (fun j hj => ?_) (fun j hj => ?_)
      · by_cases e : j = i
        · subst e
          rw [List.getD_eq_getElem?_getD, List.getElem?_set_self (by omega)]; rfl
        · rw [set_ne (fun h => e h.symm)]; exact h4 j (by omega)
      · rw [set_ne (by omega)]; exact h5 j (by omega)
    · have : i = n := by omega
      subst this
      exact ⟨xs, hend k xs h3, h3, h4⟩
def mirV (v : Vector) : Vector := Vector.mk v.X.neg v.Y v.Z
theorem mirV_mirV (v : Vector) : mirV (mirV v) = v := by
  show Vector.mk v.X.neg.neg v.Y v.Z = v
  rw [neg_neg]
theorem mirT_mirT (t : Turn) : mirT (mirT t) = t := by
  show Turn.mk t.W t.X t.Y.neg.neg t.Z.neg.neg = t
  rw [neg_neg, neg_neg]
theorem mirK_mirK (k : Key) : mirK (mirK k) = k := by
  show Key.mk k.At (mirT (mirT k.Turn)) = k
  rw [mirT_mirT]
theorem mirR_mirR (k : RootKey) : mirR (mirR k) = k := by
  show RootKey.mk k.At (mirV (mirV k.Place)) = k
  rw [mirV_mirV]
theorem Pq.valid {K n : Nat} (hK : 1048577 < K) {s : List Bone} {p : List Int} (h : Pq n s p) (h1 : 1 ≤ n) (h2 : n ≤ 12) : impl_ValidSkeleton K (Skeleton.mk s) = some true ∧ impl_IsPairing K (Skeleton.mk s) p = some true := by
  have hl := h.bl
  obtain ⟨r1, r2⟩ := h.rk h1 h2
  obtain ⟨b, b1, b2⟩ := implK hK (Skeleton.mk s) (by show s.length ≤ 1048576; omega)
  obtain ⟨d, d1, d2⟩ := implP hK (Skeleton.mk s) (by show s.length ≤ 1048576; omega) p (by rw [h.pl]; omega)
  rw [b2.2 r1] at b1
  rw [d2.2 ⟨r1, r2⟩] at d1
  exact ⟨b1, d1⟩
theorem mirPose {K n : Nat} (hK : 1048577 < K) {s : List Bone} {p : List Int} (h : Pq n s p) (h1 : 1 ≤ n) (h2 : n ≤ 12) {q : Pose} (hq : q.Turns.length = n) : ∃ ts, impl_MirrorPose K (Skeleton.mk s) q p = some (Pose.mk (mirV q.Root) ts, true) ∧ ts.length = n ∧ ∀ j, j < n → ts.getD j default = mirT (q.Turns.getD (p.getD j default).toNat default) := by
  obtain ⟨v1, v2⟩ := h.valid hK h1 h2
  have hl := h.bl; have hp := h.pl
  have e1 : ((q.Turns.length : Int) == ((Skeleton.mk s).Bones.length : Int)) = true := by
    show ((q.Turns.length : Int) == (s.length : Int)) = true
    rw [hq, hl, beq_self_eq_true]
  unfold impl_MirrorPose impl_IsPose impl_Vector_mirrored
  rw [v1, bind_of, ite2_true, bind_of, bind_of, e1, Bool.not_true, ite2_false, v2, bind_of, Bool.not_true, bind_of, ite2_false, bind_of, chk_pos (by omega), Int.toNat_natCast]
  obtain ⟨r, r1, r2, r3⟩ := fill_loop n (List.replicate p.length default) (fun j => mirT (q.Turns.getD (p.getD j default).toNat default)) (fun xs => (Pose.mk (mirV q.Root) xs, true)) (fun k i xs => impl_MirrorPose_l1 K q p (mirV q.Root) k i xs) (fun k xs hx => by
      show impl_MirrorPose_l1 K q p (mirV q.Root) (k + 1) (n : Int) xs = _
      rw [impl_MirrorPose_l1, ite2_dec, if_neg (by omega)]) (fun k i xs hi hx _ => by
      have hin := h.inn i hi
      show impl_MirrorPose_l1 K q p (mirV q.Root) (k + 1) (i : Int) xs = _
      rw [impl_MirrorPose_l1, ite2_dec, if_pos (by omega), chk_pos (by omega), Int.toNat_natCast, chk_pos (by omega)]
      unfold impl_Turn_mirrored
      rw [bind_of, chk_pos (by omega), wrap_nat1 (by omega)]
      rfl) K 0 (List.replicate p.length default) (by omega) (by omega) (by rw [List.length_replicate]; exact hp) (fun j hj => by omega) (fun j _ => rfl)
  exact ⟨r, r1, r2, r3⟩
theorem mirSkel {K n : Nat} (hK : 1048577 < K) {s : List Bone} {p : List Int} (h : Pq n s p) (h1 : 1 ≤ n) (h2 : n ≤ 12) : ∃ bs, impl_MirrorSkeleton K (Skeleton.mk s) p = some (Skeleton.mk bs, true) ∧ Pq n bs p ∧ ∀ j, j < n → bs.getD j default = Bone.mk (s.getD j default).Parent (mirV (s.getD (p.getD j default).toNat default).Offset) := by
  obtain ⟨_, v2⟩ := h.valid hK h1 h2
  have hl := h.bl; have hp := h.pl
  unfold impl_MirrorSkeleton slices_Clone_impl_Bone_impl_Bone
  rw [v2, bind_of, Bool.not_true, ite2_false, chk_pos (by show (0 + s.length) * 24 ≤ _; omega), bind_of, List.nil_append]
  obtain ⟨r, r1, r2, r3⟩ := fill_loop n s (fun j => Bone.mk (s.getD j default).Parent (mirV (s.getD (p.getD j default).toNat default).Offset)) (fun xs => (Skeleton.mk xs, true)) (fun k i xs => impl_MirrorSkeleton_l1 K (Skeleton.mk s) p k i xs) (fun k xs hx => by
      show impl_MirrorSkeleton_l1 K (Skeleton.mk s) p (k + 1) (n : Int) xs = _
      rw [impl_MirrorSkeleton_l1, ite2_dec, if_neg (by omega)]) (fun k i xs hi hx hg => by
      have hin := h.inn i hi
      show impl_MirrorSkeleton_l1 K (Skeleton.mk s) p (k + 1) (i : Int) xs = _
      rw [impl_MirrorSkeleton_l1, ite2_dec, if_pos (by omega), chk_pos (by omega), Int.toNat_natCast, chk_pos (by show 0 ≤ p.getD i default ∧ p.getD i default < (s.length : Int); omega)]
      unfold impl_Vector_mirrored
      rw [bind_of, chk_pos (by omega), bind_of, wrap_nat1 (by omega), hg]
      rfl) K 0 s (by omega) (by omega) hl (fun j hj => by omega) (fun j _ => rfl)
  have hpar : ∀ j, j < n → (r.getD j default).Parent = (s.getD j default).Parent := fun j hj => by rw [r3 j hj]
  refine ⟨r, r1, ⟨r2, hp, fun j hj => by rw [hpar j hj]; exact h.par j hj, h.inn, h.back, fun j g1 g2 => ?_⟩, r3⟩
  have := h.inn j g2
  rw [hpar j g2, hpar _ (by omega)]
  exact h.pp j g1 g2
theorem samePose {K : Nat} {q : Pose} (h : q.Turns.length ≤ 12) (hK : 100 < K) : impl_SamePose K q q = some true := by
  have hT : ∀ t, impl_SameTurn K t t = some true := fun t => by
    unfold impl_SameTurn
    rw [sameI_refl, bind_of, ite2_true, sameI_refl, bind_of, ite2_true, sameI_refl, bind_of, ite2_true, sameI_refl, bind_of, bind_of]
  have hV : impl_SameVector K q.Root q.Root = some true := by
    unfold impl_SameVector
    rw [sameI_refl, bind_of, ite2_true, sameI_refl, bind_of, ite2_true, sameI_refl, bind_of, bind_of]
  have loop : ∀ (k i : Nat), i ≤ q.Turns.length → q.Turns.length - i < k → slices_EqualFunc_impl_Turn_impl_Turn_impl_Turn_impl_Turn_l1 K q.Turns q.Turns k (i : Int) = some true := by
    intro k
    induction k with
    | zero => intro i _ h; omega
    | succ k ih =>
      intro i g1 g2
      rw [slices_EqualFunc_impl_Turn_impl_Turn_impl_Turn_impl_Turn_l1, ite2_dec]
      by_cases hi : i < q.Turns.length
      · rw [if_pos (by omega), chk_pos (by omega), chk_pos (by omega), hT, bind_of, Bool.not_true, ite2_false, wrap_nat1 (by omega)]
        exact ih (i + 1) (by omega) (by omega)
      · rw [if_neg (by omega)]
  unfold impl_SamePose slices_EqualFunc_impl_Turn_impl_Turn_impl_Turn_impl_Turn
  have := loop K 0 (by omega) (by omega)
  rw [hV, bind_of, ite2_true, bne_self_eq_false, ite2_false, show slices_EqualFunc_impl_Turn_impl_Turn_impl_Turn_impl_Turn_l1 K q.Turns q.Turns K (0 : Int) = some true from this, bind_of, bind_of]

/-! Clips. -/
theorem Rc.okc {K : Nat} {c : Clip} (h : Rc c) : Okc K c := by
  have h1 := h.tracks
  have h2 := vt_len h.roots
  rw [List.length_map] at h2
  refine ⟨by omega, by omega, fun t ht => ?_⟩
  have := vt_len (h.keys t ht)
  rw [List.length_map] at this
  omega
theorem mirC_tracks {c : Clip} {p : List Int} {j : Nat} (hj : j < p.length) : (mirC c p).Tracks.getD j default = (c.Tracks.getD (p.getD j default).toNat default).map mirK := by
  show (p.map fun b => (c.Tracks.getD b.toNat default).map mirK).getD j default = _
  rw [getD_of_lt (by rw [List.length_map]; exact hj), List.getElem_map, getD_of_lt hj]
theorem mirC_rc {n : Nat} {s : List Bone} {p : List Int} (h : Pq n s p) {c : Clip} (hc : Rc c) (hn : c.Tracks.length = n) : Rc (mirC c p) := by
  refine ⟨hc.len, hc.kind, ?_, fun t ht => ?_, ?_⟩
  · have := hc.tracks
    simp only [mirC, List.length_map]
    rw [h.pl]; omega
  · obtain ⟨b, hb, rfl⟩ := List.mem_map.1 ht
    obtain ⟨i, hi⟩ := List.mem_iff_getElem?.1 hb
    have hi2 : i < p.length := (List.getElem?_eq_some_iff.1 hi).1
    have hb2 := h.inn i (by rw [← h.pl]; exact hi2)
    rw [List.getD_eq_getElem?_getD, hi] at hb2
    have := hc.keys _ (getD_mem (xs := c.Tracks) (i := b.toNat) (by simp at hb2; omega))
    rw [List.map_map]
    exact this
  · have := hc.roots
    show vt c.Length ((c.Roots.map mirR).map RootKey.At) = true
    rw [List.map_map]
    exact this
theorem mirC_mirC {n : Nat} {s : List Bone} {p : List Int} (h : Pq n s p) {c : Clip} (hn : c.Tracks.length = n) : mirC (mirC c p) p = c := by
  have e1 : (mirC (mirC c p) p).Tracks = c.Tracks := by
    refine list_ext_n (n := n) (by show (p.map _).length = n; rw [List.length_map, h.pl]) hn fun j hj => ?_
    have hin := h.inn j hj
    rw [mirC_tracks (by rw [h.pl]; exact hj), mirC_tracks (by rw [h.pl]; omega), h.back j hj, Int.toNat_natCast, List.map_map, show mirK ∘ mirK = id from funext mirK_mirK, List.map_id]
  have e2 : (mirC (mirC c p) p).Roots = c.Roots := by
    show (c.Roots.map mirR).map mirR = c.Roots
    rw [List.map_map, show mirR ∘ mirR = id from funext mirR_mirR, List.map_id]
  show Clip.mk c.Length c.Kind (mirC (mirC c p) p).Tracks (mirC (mirC c p) p).Roots = c
  rw [e1, e2]
theorem mirClip {K n : Nat} (hK : 1048577 < K) {s : List Bone} {p : List Int} (h : Pq n s p) (h1 : 1 ≤ n) (h2 : n ≤ 12) {c : Clip} (hc : Rc c) (hn : c.Tracks.length = n) : impl_MirrorClip K (Skeleton.mk s) c p = some (mirC c p, true) := by
  obtain ⟨_, v2⟩ := h.valid hK h1 h2
  have hl := h.bl; have hp := h.pl
  have hok : Okc K c := hc.okc
  have hrl := hok.rl
  have e1 : ((c.Tracks.length : Int) != ((Skeleton.mk s).Bones.length : Int)) = false := by
    show ((c.Tracks.length : Int) != (s.length : Int)) = false
    rw [hn, hl, bne_self_eq_false]
  have hroot : impl_MirrorClip_2 K c.Roots = some (c.Roots.map mirR) := by
    unfold impl_MirrorClip_2 slices_Clone_impl_RootKey_impl_RootKey
    rw [chk_pos (by simp only [List.length_nil]; omega), bind_of, List.nil_append]
    refine mapset_loop c.Roots mirR _ (impl_MirrorClip_2_l1 K c.Roots) (fun n i hi => ?_) (fun n i xs hi hx hg => ?_) K (by omega)
    · rw [impl_MirrorClip_2_l1, ite2_dec, if_neg (by omega)]
    · have hc : (i : Int) < (c.Roots.length : Int) := by omega
      rw [impl_MirrorClip_2_l1]
      unfold impl_Vector_mirrored
      simp (disch := omega) only [ite2_dec, if_pos hc, chk_pos, Int.toNat_natCast, wrap_nat1, bind_of, hg]
      rfl
  have hkey : ∀ (i : Nat) (t : List Key), i < p.length → impl_MirrorClip_1 K (i : Int) t c p = some ((c.Tracks.getD (p.getD i default).toNat default).map mirK) := by
    intro i t hi
    have hb := h.inn i (by omega)
    have hlen := hok.kl _ (getD_mem (xs := c.Tracks) (i := (p.getD i default).toNat) (by omega))
    unfold impl_MirrorClip_1 slices_Clone_impl_Key_impl_Key
    simp (disch := omega) only [chk_pos, Int.toNat_natCast]
    rw [chk_pos (by simp only [List.length_nil]; omega), bind_of, List.nil_append]
    generalize c.Tracks.getD (p.getD i default).toNat default = t0 at hlen ⊢
    refine mapset_loop t0 mirK _ (impl_MirrorClip_1_l1 K t0) (fun n j hj => ?_) (fun n j xs hj hx hg => ?_) K (by omega)
    · rw [impl_MirrorClip_1_l1, ite2_dec, if_neg (by omega)]
    · have hc : (j : Int) < (t0.length : Int) := by omega
      rw [impl_MirrorClip_1_l1]
      unfold impl_Turn_mirrored
      simp (disch := omega) only [ite2_dec, if_pos hc, chk_pos, Int.toNat_natCast, wrap_nat1, bind_of, hg]
      rfl
  have hch : impl_Clip_changed K c c.Length c p = some (mirC c p, true) := by
    unfold impl_Clip_changed
    rw [hroot, bind_of]
    refine map_loop p (fun b => (c.Tracks.getD b.toNat default).map mirK) _ (impl_Clip_changed_l1 K c c.Length c p _) (fun n i hi => ?_) (fun n i xs hi hx => ?_) K (by omega)
    · rw [impl_Clip_changed_l1, ite2_dec, if_neg (by omega)]
      have := validClip_eq hK (mirC_rc h hc hn).okc
      rw [validC_spec.2 (mirC_rc h hc hn), if_pos rfl] at this
      rw [show impl_validClip K (Clip.mk c.Length c.Kind (p.map fun b => (c.Tracks.getD b.toNat default).map mirK) (c.Roots.map mirR)) = _ from this]
      rfl
    · have hc : (i : Int) < (c.Tracks.length : Int) := by omega
      rw [impl_Clip_changed_l1]
      simp (disch := omega) only [ite2_dec, if_pos hc, chk_pos, Int.toNat_natCast, wrap_nat1, hkey, bind_of]
      rw [chk_pos (by simp only [List.length_singleton]; omega)]
  unfold impl_MirrorClip
  rw [ValidClip_eq hK hok, bind_of, validC_spec.2 hc, Bool.not_true, ite2_false, v2, bind_of, Bool.not_true, ite2_false, e1, bind_of, ite2_false, hch, bind_of]
theorem sameClip {K : Nat} (hK : 100 < K) {c : Clip} (hc : Rc c) : laws_b10Clips K c c = some true := by
  have ht := hc.tracks
  have hrl := vt_len hc.roots
  rw [List.length_map] at hrl
  have l5 : ∀ (k i : Nat), i ≤ c.Roots.length → c.Roots.length - i < k → spec_l05Same_l5 K c c k (i : Int) = some true := by
    intro k
    induction k with
    | zero => intro i _ h; omega
    | succ k ih =>
      intro i g1 g2
      rw [spec_l05Same_l5, ite2_dec]
      by_cases hi : i < c.Roots.length
      · rw [if_pos (by omega), chk_pos (by omega), chk_pos (by omega), bne_self_eq_false, ite2_false, sameV_refl, bind_of, Bool.not_true, bind_of, ite2_false, wrap_nat1 (by omega)]
        exact ih (i + 1) (by omega) (by omega)
      · rw [if_neg (by omega)]
  have l4 : ∀ (x : Nat), x < c.Tracks.length → ∀ (k i : Nat), i ≤ (c.Tracks.getD x default).length → (c.Tracks.getD x default).length - i < k → spec_l05Same_l4 K c c (x : Int) k (i : Int) = some (.inl ()) := by
    intro x hx
    have hl := vt_len (hc.keys _ (getD_mem hx))
    rw [List.length_map] at hl
    intro k
    induction k with
    | zero => intro i _ h; omega
    | succ k ih =>
      intro i g1 g2
      rw [spec_l05Same_l4, ite2_dec, Int.toNat_natCast]
      by_cases hi : i < (c.Tracks.getD x default).length
      · rw [if_pos (by omega), chk_pos (by omega), chk_pos (by omega), chk_pos (by omega), chk_pos (by omega), bne_self_eq_false, ite2_false, sameT_refl, bind_of, Bool.not_true, bind_of, ite2_false, wrap_nat1 (by omega)]
        exact ih (i + 1) (by omega) (by omega)
      · rw [if_neg (by omega)]
  have l3 : ∀ (k i : Nat), i ≤ c.Tracks.length → c.Tracks.length - i < k → spec_l05Same_l3 K c c k (i : Int) = some true := by
    intro k
    induction k with
    | zero => intro i _ h; omega
    | succ k ih =>
      intro i g1 g2
      rw [spec_l05Same_l3, ite2_dec]
      by_cases hi : i < c.Tracks.length
      · have hl := vt_len (hc.keys _ (getD_mem hi))
        rw [List.length_map] at hl
        have := l4 i hi K 0 (by omega) (by omega)
        rw [if_pos (by omega), chk_pos (by omega), chk_pos (by omega), bne_self_eq_false, ite2_false, show spec_l05Same_l4 K c c (i : Int) K (0 : Int) = _ from this, wrap_nat1 (by omega)]
        exact ih (i + 1) (by omega) (by omega)
      · rw [if_neg (by omega)]
        exact l5 K 0 (by omega) (by omega)
  unfold laws_b10Clips spec_SameClip spec_l05Same
  have := l3 K 0 (by omega) (by omega)
  rw [bne_self_eq_false, ite2_false, bne_self_eq_false, ite2_false, bne_self_eq_false, ite2_false, bne_self_eq_false, bind_of, ite2_false, show spec_l05Same_l3 K c c K (0 : Int) = some true from this, bind_of, bind_of]

end Go.Fw
