/- Clips have their keys at their times: the law. (A template.) -/
import Derived.Test.YtcgakaboochpaadGreatFwGKKeysLaw
namespace Go.Fw
open Go Go.Proofs

theorem at_in {K : Nat} {c : List Int} (hc : Byt c) {i n : Int} (hi : 0 ≤ i ∧ i ≤ 100) (hn : 1 < n ∧ n ≤ 1000) : ∃ r, laws_b10At K c i n = some r ∧ 0 ≤ r ∧ r < n := by
 unfold laws_b10At
 rw [zqv, if_neg (by omega), zqv]
 by_cases h : i < (c.length : Int)
 ·have hb := hc _ (zji (xs := c) (i := i.toNat) (by omega))
  rw [if_pos h, zqq (by omega), zqq (by omega), zxj (by omega) (by omega)]
  have := zda (x := c.getD i.toNat default) (n := n) hb.1 hn.1
  exact ⟨_, rfl, this.1, this.2⟩
 ·rw [if_neg h, zqq (by omega), zxj (n := i * 37) (by omega) (by omega), zxj (by omega) (by omega)]
  have := zda (x := i * 37 + 11) (n := n) (by omega) hn.1
  exact ⟨_, rfl, this.1, this.2⟩
/-- The clip that is drawn. -/
theorem clip_dr {K : Nat} (hK : 200 < K) {c : List Int} (hc : Byt c) : ∃ r n, zk8 K c = some r ∧ Rc r ∧ r.Tracks.length = n ∧ 1 ≤ n ∧ n ≤ 3 := by
 unfold zk8 zk1 zvo
 obtain ⟨v0, a0, s0, e0, p0, q0, q00⟩ := zkg (K := K) hc 0 0 3 (by omega) (by omega)
 obtain ⟨v1, a1, s1, e1, p1, q1, q11⟩ := zkg (K := K) hc a0 s0 3 (by omega) (by omega)
 obtain ⟨v, a2, s2, e2, p2, q2, q22⟩ := zkg (K := K) hc a1 s1 16 (by omega) (by omega)
 obtain ⟨len, hlen⟩ : ∃ len : Nat, 1 + v = (len : Int) := ⟨(1 + v).toNat, by omega⟩
 obtain ⟨n, hn⟩ : ∃ n : Nat, 1 + v0 = (n : Int) := ⟨(1 + v0).toNat, by omega⟩
 obtain ⟨r, a', s', g1, g2, g3, g4, g5, g6⟩ := tracks_loop (K := K) hK hc a1 s1 v1 (v, a2, s2) len hlen (by omega) n (by omega) K n a2 s2 [] (by omega) (by simp) (fun x hx => by cases hx) (by omega) (by omega)
 refine ⟨r, n, ?_, ⟨by rw [g2]; omega, by rw [g3]; omega, by rw [g4]; omega, by rw [g2]; exact g5, by rw [g2]; exact g6⟩, g4, by omega, by omega⟩
 rw [e0, zqf]
 dsimp only
 rw [e1, zqf]
 dsimp only
 rw [e2, zqf]
 dsimp only
 rw [zxj (n := 1 + v0) (by omega) (by omega), hn, g1, zqf, zqf]

/-! Samples at any time. -/
theorem csample {K n : Nat} (hK : 1048577 < K) {c : Clip} (hc : Rc c) (hn : c.Tracks.length = n) (t : Int) : ∃ q, zwx K c t = some q ∧ q.Turns.length = n := by
 have htr := hc.tracks
 obtain ⟨rr, e1, e2⟩ := root_sample (K := K) (kind := c.Kind) (t := t) (by omega) hc.roots
 obtain ⟨r, r1, r2, r3⟩ := fill_loop n (List.replicate c.Tracks.length default) (smp K c t) (fun xs => Pose.mk rr.Place xs) (fun k i xs => zqx K c t rr.Place k i xs) (fun k xs hx => by
   show zqx K c t rr.Place (k + 1) (n : Int) xs = _
   rw [zqx, zqv, if_neg (by omega)]) (fun k i xs hi hx _ => by
   show zqx K c t rr.Place (k + 1) (i : Int) xs = _
   obtain ⟨v, v1, _⟩ := zdi (K := K) (kind := c.Kind) (t := t) (by omega) (hc.keys _ (zji (xs := c.Tracks) (i := i) (by omega)))
   have hg : smp K c t i = v.Turn := by unfold smp; rw [v1]; rfl
   rw [zqx, zqv, if_pos (by omega), zqq (by omega), Int.toNat_natCast]
   unfold zjo
   rw [zqf, v1, zqf, zqq (by omega), zwk (by omega), hg]) K 0 (List.replicate c.Tracks.length default) (by omega) (by omega) (by rw [List.length_replicate]; exact hn) (fun j hj => by omega) (fun j _ => rfl)
 refine ⟨Pose.mk rr.Place r, ?_, r2⟩
 unfold zwx zvw zjl
 rw [zqf, e1, zqf, zqf, zqq (by omega), Int.toNat_natCast]
 exact r1
def smpP (K : Nat) (c : Clip) (t : Int) : Pose := (zwx K c t).getD default
theorem zce {K n : Nat} (hK : 1048577 < K) {c : Clip} (hc : Rc c) (hn : c.Tracks.length = n) (t : Int) : zwx K c t = some (smpP K c t) ∧ (smpP K c t).Turns.length = n := by
 obtain ⟨q, e, h⟩ := csample hK hc hn t
 have : smpP K c t = q := by unfold smpP; rw [e]; rfl
 rw [this]; exact ⟨e, h⟩
theorem zfn {K n : Nat} (hK : 1048577 < K) {c : Clip} (hc : Rc c) (hn : c.Tracks.length = n) {t : Int} (ht : 0 ≤ t ∧ t ≤ 1000000) : zx7 K c t = some (smpP K c (t.tmod c.Length), true) := by
 have hl := hc.len
 unfold zx7
 rw [zvf hK hc.okc, validC_spec.2 hc, zqf, Bool.not_true, zql, zqv, if_neg (by omega), zqf, decide_eq_false (by omega), zql, zqq (by omega), (zce hK hc hn _).1, zqf]
theorem play_loop {K n : Nat} (hK : 1048577 < K) {c : Clip} (hc : Rc c) (hn : c.Tracks.length = n) {f s : Int} (hf : 0 ≤ f ∧ f ≤ 60) (hs : 0 ≤ s ∧ s ≤ 10) : ∀ (k i : Nat) (xs : List Pose), i ≤ 5 → 5 - i < k → xs.length = i → (∀ j : Nat, j < i → xs.getD j default = smpP K c ((f + (j : Int) * s).tmod c.Length)) →
  ∃ ys, zxg K c f s 5 k (i : Int) xs = some (ys, true) ∧ ys.length = 5 ∧ ∀ j : Nat, j < 5 → ys.getD j default = smpP K c ((f + (j : Int) * s).tmod c.Length) := by
 have hl := hc.len
 intro k
 induction k with
 | zero => intro i xs _ h; omega
 | succ k ih =>
  intro i xs g1 g2 g3 g4
  rw [zxg, zqv]
  by_cases hi : i < 5
  ·have hm : 0 ≤ (i : Int) * s ∧ (i : Int) * s ≤ 50 := by
    have h1 : (i : Int) * s ≤ 5 * 10 := Int.mul_le_mul (by omega) hs.2 hs.1 (by omega)
    exact ⟨Int.mul_nonneg (by omega) hs.1, by omega⟩
   rw [if_pos (by omega), zqq (by omega), zxj (n := (i : Int) * s) (by omega) (by omega), zxj (n := f + (i : Int) * s) (by omega) (by omega), (zce hK hc hn _).1, zqf, zqq (by simp only [List.length_singleton]; omega), zwk (by omega)]
   refine ih (i + 1) _ (by omega) (by omega) (by simp; omega) fun j hj => ?_
   by_cases e : j < i
   ·rw [getD_left (by omega)]; exact g4 j e
   ·have : j = i := by omega
    subst this
    rw [getD_end (by omega)]
  ·rw [if_neg (by omega)]
   exact ⟨xs, rfl, by omega, fun j hj => g4 j (by omega)⟩
theorem play_eq {K n : Nat} (hK : 1048577 < K) {c : Clip} (hc : Rc c) (hn : c.Tracks.length = n) {f s : Int} (hf : 0 ≤ f ∧ f ≤ 60) (hs : 0 ≤ s ∧ s ≤ 10) :
  ∃ ys, zkb K c f s 5 = some (ys, true) ∧ ys.length = 5 ∧ ∀ j : Nat, j < 5 → ys.getD j default = smpP K c ((f + (j : Int) * s).tmod c.Length) := by
 obtain ⟨ys, e, h⟩ := play_loop hK hc hn hf hs K 0 [] (by omega) (by omega) rfl (fun j hj => by omega)
 refine ⟨ys, ?_, h⟩
 unfold zkb
 rw [zvf hK hc.okc, validC_spec.2 hc, zqf, Bool.not_true, zql]
 rw [zqv, if_neg (by omega), zqv, if_neg (by omega), zqv, if_neg (by omega), zqv, if_neg (by omega), zqv, if_neg (by decide), zqf, show decide ((5 : Int) > 64) = false by decide, zql]
 exact e
theorem period {t L : Int} (h0 : 0 ≤ t) (hL : 1 ≤ L) : (t + L).tmod L = t.tmod L := by
 rw [Int.tmod_eq_emod_of_nonneg (by omega), Int.tmod_eq_emod_of_nonneg h0, Int.add_emod_right]

/-! All times. -/
theorem mem_compact {zs : List Int} {x : Int} (h : x ∈ zs) : x ∈ Lib.compact zs := by
 obtain ⟨i, hi, rfl⟩ := List.getElem_of_mem h
 have get : ∀ j, (hj : j < zs.length) → zs.toArray[j]! = zs[j] := fun j hj => by rw [getElem!_pos _ j (by simpa using hj)]; simp
 have go : ∀ j, (hj : j < zs.length) → zs[j] ∈ Lib.compact zs := by
  intro j
  induction j with
  | zero =>
   intro hj
   refine List.mem_map.2 ⟨0, List.mem_filter.2 ⟨List.mem_range.2 hj, by simp [Lib.keeps]⟩, get 0 hj⟩
  | succ j ih =>
   intro hj
   by_cases e : zs.toArray[j + 1]! = zs.toArray[j]!
   ·rw [get _ hj, get j (by omega)] at e
    rw [e]; exact ih (by omega)
   ·refine List.mem_map.2 ⟨j + 1, List.mem_filter.2 ⟨List.mem_range.2 hj, ?_⟩, get _ hj⟩
    simp only [Lib.keeps, Nat.add_sub_cancel, decide_eq_true_eq]
    exact .inr e
 exact go i hi

theorem sort_end {K : Nat} {xs : List Int} (h1 : 1 ≤ xs.length) (h2 : xs.length ≤ 1000) : ∃ zs, ((zxx K xs).bind fun v33 => chk (v33.length = xs.length) ((zxk K v33).bind fun v36 => some (v36, true))) = some (zs, true) ∧ 1 ≤ zs.length := by
 have e1 : zxx K xs = some (xs.mergeSort fun x y => decide (x ≤ y)) := by
  show sortI xs = _
  unfold sortI
  rw [if_pos (by omega)]
 have hl : (xs.mergeSort fun x y => decide (x ≤ y)).length = xs.length := List.length_mergeSort xs
 have e2 : zxk K (xs.mergeSort fun x y => decide (x ≤ y)) = some (Lib.compact (xs.mergeSort fun x y => decide (x ≤ y))) := by
  show zc5 _ = _
  unfold zc5
  rw [if_pos (by omega)]
 rw [e1, zqf, zqq hl, e2, zqf]
 refine ⟨_, rfl, ?_⟩
 have hm : xs.getD 0 default ∈ xs.mergeSort fun x y => decide (x ≤ y) := List.mem_mergeSort.2 (zji (by omega))
 exact List.length_pos_of_mem (mem_compact hm)
theorem keysof_l5 {K : Nat} {c : Clip} {x : Nat} (hl : (c.Tracks.getD x default).length ≤ 12) : ∀ (k j : Nat) (xs : List Int), j ≤ (c.Tracks.getD x default).length → (c.Tracks.getD x default).length - j < k → xs.length ≤ 200 + j → ∃ ys, zxn K c (x : Int) k (j : Int) xs = some ys ∧ ys.length = xs.length + ((c.Tracks.getD x default).length - j) := by
 intro k
 induction k with
 | zero => intro j xs _ h; omega
 | succ k ih =>
  intro j xs g1 g2 g3
  rw [zxn, zqv, Int.toNat_natCast]
  by_cases hj : j < (c.Tracks.getD x default).length
  ·rw [if_pos (by omega), zqq (by omega), zqq (by simp only [List.length_singleton]; omega), zwk (by omega)]
   obtain ⟨ys, e, h⟩ := ih (j + 1) (xs ++ [((c.Tracks.getD x default).getD ((j : Int).toNat) default).At]) (by omega) (by omega) (by simp; omega)
   refine ⟨ys, e, ?_⟩
   rw [h, List.length_append, List.length_singleton]; omega
  ·rw [if_neg (by omega)]
   exact ⟨xs, rfl, by omega⟩
theorem keysof_l6 {K : Nat} {c : Clip} (hl : 1 ≤ c.Roots.length ∧ c.Roots.length ≤ 12) : ∀ (k j : Nat) (xs : List Int), j ≤ c.Roots.length → c.Roots.length - j < k → xs.length ≤ 200 + j → j ≤ xs.length → ∃ zs, zxy K c k (j : Int) xs = some (zs, true) ∧ 1 ≤ zs.length := by
 intro k
 induction k with
 | zero => intro j xs _ h; omega
 | succ k ih =>
  intro j xs g1 g2 g3 g4
  rw [zxy, zqv]
  by_cases hj : j < c.Roots.length
  ·rw [if_pos (by omega), zqq (by omega), zqq (by simp only [List.length_singleton]; omega), zwk (by omega)]
   exact ih (j + 1) _ (by omega) (by omega) (by simp; omega) (by simp; omega)
  ·rw [if_neg (by omega)]
   exact sort_end (by omega) (by omega)
theorem keysof_l4 {K : Nat} (hK : 1000 < K) {c : Clip} (hc : Rc c) (h3 : c.Tracks.length ≤ 3) : ∀ (k i : Nat) (xs : List Int), i ≤ c.Tracks.length → c.Tracks.length - i < k → xs.length ≤ 12 * i → ∃ zs, zxz K c k (i : Int) xs = some (zs, true) ∧ 1 ≤ zs.length := by
 have hr := zkm hc.roots
 rw [List.length_map] at hr
 intro k
 induction k with
 | zero => intro j xs _ h; omega
 | succ k ih =>
  intro i xs g1 g2 g3
  rw [zxz, zqv]
  by_cases hj : i < c.Tracks.length
  ·have hk := zkm (hc.keys _ (zji (xs := c.Tracks) (i := i) hj))
   rw [List.length_map] at hk
   obtain ⟨ys, e, h⟩ := keysof_l5 (K := K) (c := c) (x := i) hk.2 K 0 xs (by omega) (by omega) (by omega)
   rw [if_pos (by omega), zqq (by omega), show zxn K c (i : Int) K (0 : Int) xs = some ys from e, zqf, zwk (by omega)]
   exact ih (i + 1) ys (by omega) (by omega) (by omega)
  ·rw [if_neg (by omega)]
   exact keysof_l6 hr K 0 xs (by omega) (by omega) (by omega) (by omega)
theorem keysof_eq {K : Nat} (hK : 1048577 < K) {c : Clip} (hc : Rc c) (h3 : c.Tracks.length ≤ 3) : ∃ zs, zyk K c = some (zs, true) ∧ 1 ≤ zs.length := by
 unfold zyk
 rw [zvf hK hc.okc, validC_spec.2 hc, zqf, Bool.not_true, zql]
 exact keysof_l4 (by omega) hc h3 K 0 [] (by omega) (by omega) (by simp)

/-! The law's loops. -/
theorem k_l4 {K n : Nat} (hK : 1048577 < K) {c : Clip} (hc : Rc c) (hn : c.Tracks.length = n) {x : Nat} (hx : x < n) : ∀ (k i : Nat), i ≤ (c.Tracks.getD x default).length → (c.Tracks.getD x default).length - i < k → laws_FnKeys_l4 K c (x : Int) k (i : Int) = some (.inl ()) := by
 have hkx := hc.keys _ (zji (xs := c.Tracks) (i := x) (by omega))
 have hl := zkm hkx
 rw [List.length_map] at hl
 have ha := zg1 hkx
 intro k
 induction k with
 | zero => intro i _ h; omega
 | succ k ih =>
  intro i b1 b2
  rw [laws_FnKeys_l4, zqv, Int.toNat_natCast]
  by_cases hi : i < (c.Tracks.getD x default).length
  ·have hin := asc_in (f := Key.At) (ks := c.Tracks.getD x default) ha hi
   obtain ⟨q, q1, q2, q3, _⟩ := sample_eq hK hc hn (t := ((c.Tracks.getD x default).getD i default).At) hin
   rw [if_pos (by omega), zqq (by omega), zqq (by omega), Int.toNat_natCast, q1, zqf]
   dsimp only
   rw [Bool.not_true, zql, q2, hn, bne_self_eq_false, zql, zqq (by omega), q3 x hx i hi rfl]
   unfold zyd
   rw [sameT_refl, zqf, zqf, zqf, Bool.not_true, zql, zwk (by omega)]
   exact ih (i + 1) (by omega) (by omega)
  ·rw [if_neg (by omega)]
theorem k_l7 {K n : Nat} {c d : Clip} (hn : c.Tracks.length = n) (hd : d.Tracks.length = n) (h3 : n ≤ 3) (hk : ∀ j, j < n → 1 ≤ (d.Tracks.getD j default).length ∧ (d.Tracks.getD j default).length ≤ (c.Tracks.getD j default).length ∧ (c.Tracks.getD j default).length ≤ 12 ∧ (d.Tracks.getD j default).getD 0 default = (c.Tracks.getD j default).getD 0 default ∧ (d.Tracks.getD j default).getD ((d.Tracks.getD j default).length - 1) default = (c.Tracks.getD j default).getD ((c.Tracks.getD j default).length - 1) default) :
  ∀ (k i : Nat), i ≤ n → n - i < k → laws_FnKeys_l7 K c (d, true) k (i : Int) = some true := by
 intro k
 induction k with
 | zero => intro i _ h; omega
 | succ k ih =>
  intro i b1 b2
  rw [laws_FnKeys_l7, zqv]
  dsimp only
  by_cases hi : i < n
  ·obtain ⟨e1, e2, e3, e4, e5⟩ := hk i hi
   rw [if_pos (by omega), zqq (by omega), zqq (by omega), Int.toNat_natCast]
   rw [show (((d.Tracks.getD i default).length : Int) == 0) = false from beq_eq_false_iff_ne.2 (by omega), zql, zqv, if_neg (by omega), zqq (by omega), zqq (by omega)]
   rw [show ((0 : Int).toNat) = 0 from rfl, e4, bne_self_eq_false, zql]
   rw [show IntKind.i64.wrap (((d.Tracks.getD i default).length : Int) - 1) = (((d.Tracks.getD i default).length - 1 : Nat) : Int) by rw [zxj (by omega) (by omega)]; omega]
   rw [show IntKind.i64.wrap (((c.Tracks.getD i default).length : Int) - 1) = (((c.Tracks.getD i default).length - 1 : Nat) : Int) by rw [zxj (by omega) (by omega)]; omega]
   rw [zqq (by omega), zqq (by omega), Int.toNat_natCast, Int.toNat_natCast, e5, bne_self_eq_false, zqf, zql, zwk (by omega)]
   exact ih (i + 1) (by omega) (by omega)
  ·rw [if_neg (by omega)]
theorem thinC_getD {f : List Key → List Key} {c : Clip} {j : Nat} (h : j < c.Tracks.length) : (thinC f c).Tracks.getD j default = f (c.Tracks.getD j default) := by
 show (List.map _ (List.range c.Tracks.length)).getD j default = _
 rw [map_getD (by rw [List.length_range]; exact h), zcs h]
theorem thinC_id (c : Clip) : thinC (fun t => t) c = c := by
 have : (List.range c.Tracks.length).map (fun i => c.Tracks.getD i default) = c.Tracks := by
  refine list_ext_n (n := c.Tracks.length) (by simp) rfl fun j hj => ?_
  rw [map_getD (by rw [List.length_range]; exact hj), zcs hj]
 unfold thinC
 rw [this]
theorem k_l6 {K n : Nat} (hK : 1048577 < K) {b : List Int} (hb : Byt b) {c : Clip} (hc : Rc c) (hn : c.Tracks.length = n) (h3 : n ≤ 3) {f s : Int} (hf : 0 ≤ f ∧ f ≤ 60) (hs : 0 ≤ s ∧ s ≤ 10) {ys : List Pose} (hy : ys.length = 5) (hy2 : ∀ j : Nat, j < 5 → ys.getD j default = smpP K c ((f + (j : Int) * s).tmod c.Length)) :
  ∀ (k i : Nat), i ≤ 5 → 5 - i < k → laws_FnKeys_l6 K b c f s (ys, true) k (i : Int) = some true := by
 have hl := hc.len
 intro k
 induction k with
 | zero => intro i _ h; omega
 | succ k ih =>
  intro i b1 b2
  rw [laws_FnKeys_l6, zqv]
  by_cases hi : i < 5
  ·have hm : 0 ≤ (i : Int) * s ∧ (i : Int) * s ≤ 50 := by
    have h1 : (i : Int) * s ≤ 5 * 10 := Int.mul_le_mul (by omega) hs.2 hs.1 (by omega)
    exact ⟨Int.mul_nonneg (by omega) hs.1, by omega⟩
   have hq := (zce hK hc hn ((f + (i : Int) * s).tmod c.Length)).2
   rw [if_pos (by omega), zxj (n := (i : Int) * s) (by omega) (by omega), zxj (n := f + (i : Int) * s) (by omega) (by omega), zfn hK hc hn (by omega), zqf]
   dsimp only
   rw [Bool.not_true, zql, zqq (by omega), Int.toNat_natCast, hy2 i hi, samePose (by omega) (by omega), zqf, zqf, Bool.not_true, zql, zwk (by omega)]
   exact ih (i + 1) (by omega) (by omega)
  ·rw [if_neg (by omega)]
   obtain ⟨x, e, x1, x2⟩ := at_in (K := K) hb (i := 2) (n := 16) (by decide) (by decide)
   have t1 := thin_clip hK hc zg9 (fun t => t) (fun t ht => ⟨thin_same hK ht, ht⟩)
   rw [thinC_id] at t1
   rw [show zj3 K c (Fl.mk (k := .f32) 3212836864 (by decide)) = some (c, true) from t1, zqf, e, zqf]
   generalize (Fl.ofInt .f32 x).div (Fl.mk (k := .f32) 1107296256 (by decide)) = q
   have t2 := thin_clip hK hc q (thinT K q) (fun t ht => ⟨(zfl hK q ht).1, (zfl hK q ht).2.1⟩)
   rw [t2, zqf]
   dsimp only
   have hlen : (thinC (thinT K q) c).Tracks.length = c.Tracks.length := by
    show (List.map _ (List.range c.Tracks.length)).length = _
    rw [List.length_map, List.length_range]
   rw [Bool.not_true, zql, zql, sameClip (by omega) hc, zqf, Bool.not_true, zql, hlen, bne_self_eq_false, zqf, zql]
   refine k_l7 hn (by rw [hlen]; exact hn) h3 (fun j hj => ?_) K 0 (by omega) (by omega)
   have hv := hc.keys _ (zji (xs := c.Tracks) (i := j) (by omega))
   obtain ⟨z1, z2, z3, z4, z5, z6⟩ := zfl hK q hv
   have hvl := zkm hv
   rw [List.length_map] at hvl
   rw [thinC_getD (by omega)]
   exact ⟨z3, z4, hvl.2, z5, z6⟩
theorem k_l5 {K n : Nat} (hK : 1048577 < K) {b : List Int} (hb : Byt b) {c : Clip} (hc : Rc c) (hn : c.Tracks.length = n) (h3 : n ≤ 3) : ∀ (k i : Nat), i ≤ c.Roots.length → c.Roots.length - i < k → laws_FnKeys_l5 K b c k (i : Int) = some true := by
 have hl := zkm hc.roots
 rw [List.length_map] at hl
 have ha := zg1 hc.roots
 have hL := hc.len
 intro k
 induction k with
 | zero => intro i _ h; omega
 | succ k ih =>
  intro i b1 b2
  rw [laws_FnKeys_l5, zqv]
  by_cases hi : i < c.Roots.length
  ·have hin := asc_in (f := RootKey.At) (ks := c.Roots) ha hi
   obtain ⟨q, q1, _, _, q4⟩ := sample_eq hK hc hn (t := (c.Roots.getD i default).At) hin
   rw [if_pos (by omega), zqq (by omega), Int.toNat_natCast, q1, zqf]
   dsimp only
   rw [Bool.not_true, zql, q4 i hi rfl]
   unfold zke
   rw [sameV_refl, zqf, zqf, zqf, Bool.not_true, zql, zwk (by omega)]
   exact ih (i + 1) (by omega) (by omega)
  ·rw [if_neg (by omega)]
   obtain ⟨f, e1, f1, f2⟩ := at_in (K := K) hb (i := 0) (n := 60) (by decide) (by decide)
   obtain ⟨s, e2, s1, s2⟩ := at_in (K := K) hb (i := 1) (n := 9) (by decide) (by decide)
   rw [e1, zqf, e2, zqf, zfn hK hc hn (by omega), zqf, zxj (n := f + c.Length) (by omega) (by omega), zfn hK hc hn (by omega), zqf, period f1 (by omega)]
   obtain ⟨ys, y1, y2, y3⟩ := play_eq hK hc hn (f := f) (s := s) (by omega) (by omega)
   have hq := (zce hK hc hn (f.tmod c.Length)).2
   rw [y1, zqf]
   dsimp only
   rw [Bool.not_true, zql, zql, zql, samePose (by omega) (by omega), zqf, Bool.not_true, zql, y2, show (((5 : Nat) : Int) != 5) = false by decide, zqf, zql]
   exact k_l6 hK hb hc hn h3 (by omega) (by omega) y2 y3 K 0 (by omega) (by omega)
theorem k_l3 {K n : Nat} (hK : 1048577 < K) {b : List Int} (hb : Byt b) {c : Clip} (hc : Rc c) (hn : c.Tracks.length = n) (h3 : n ≤ 3) : ∀ (k i : Nat), i ≤ n → n - i < k → laws_FnKeys_l3 K b c k (i : Int) = some true := by
 intro k
 induction k with
 | zero => intro i _ h; omega
 | succ k ih =>
  intro i b1 b2
  rw [laws_FnKeys_l3, zqv]
  by_cases hi : i < n
  ·have hkx := zkm (hc.keys _ (zji (xs := c.Tracks) (i := i) (by omega)))
   rw [List.length_map] at hkx
   rw [if_pos (by omega), zqq (by omega), show laws_FnKeys_l4 K c (i : Int) K (0 : Int) = some (.inl ()) from k_l4 hK hc hn hi K 0 (by omega) (by omega), zqf, sumC_l, zwk (by omega)]
   exact ih (i + 1) (by omega) (by omega)
  ·rw [if_neg (by omega)]
   have hl := zkm hc.roots
   rw [List.length_map] at hl
   exact k_l5 hK hb hc hn h3 K 0 (by omega) (by omega)
theorem keys_true (a b : List Int) (ha : Byt a) (hb : Byt b) : ∃ K, laws_FnKeys K a b = some true := by
 refine ⟨2000000, ?_⟩
 unfold laws_FnKeys laws_b10Long
 rw [zqv]
 by_cases la : (a.length : Int) > 1048576
 ·rw [if_pos la, zqf, zqf, zq6]
 rw [if_neg la, zqf]
 by_cases lb : (b.length : Int) > 1048576
 ·rw [decide_eq_true lb, zqf, zq6]
 rw [decide_eq_false lb, zqf, zql]
 obtain ⟨c, n, e1, hc, hn, n1, n3⟩ := clip_dr (K := 2000000) (by decide) ha
 obtain ⟨zs, e2, z1⟩ := keysof_eq (K := 2000000) (by decide) hc (by omega)
 rw [e1, zqf, e2, zqf]
 dsimp only
 rw [Bool.not_true, zql, zvf (K := 2000000) (by decide) hc.okc, validC_spec.2 hc, zqf, Bool.not_true, zql, show ((zs.length : Int) == 0) = false from beq_eq_false_iff_ne.2 (by omega), zqf, zql]
 exact k_l3 (by decide) hb hc hn n3 2000000 0 (by omega) (by omega)
theorem law_FnKeys (a b : List Int) (ha : a.length ≤ maxLen ∧ ∀ x ∈ a, (Lit.int .u8 x).wf = true) (hb : b.length ≤ maxLen ∧ ∀ x ∈ b, (Lit.int .u8 x).wf = true) : ∃ K, laws_FnKeys K a b = some true := by
 have byt : ∀ {c : List Int}, (∀ x ∈ c, (Lit.int .u8 x).wf = true) → Byt c := fun h x hx => by
  have := h x hx
  simp only [Lit.wf, Bool.and_eq_true, decide_eq_true_eq] at this
  have e1 : IntKind.u8.min = 0 := by decide
  have e2 : IntKind.u8.max = 255 := by decide
  omega
 exact keys_true a b (byt ha.2) (byt hb.2)
end Go.Fw
