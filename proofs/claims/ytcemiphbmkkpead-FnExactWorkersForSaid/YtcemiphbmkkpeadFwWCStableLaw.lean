/- The library's stable sort of at most 64 elements. -/
import Derived.Test.YtcemiphbmkkpeadFwWCSymLaw2
namespace Go.Fw
open Go
variable {c : List Int} {w : Int → Int}

/-- What stays true of the elements. -/
structure Stb (c : List Int) (w : Int → Int) (n : Nat) (d : List Int) : Prop where
  len : d.length = n
  bd : Bd c d
  xp : XP (cst c) w 0 n d
theorem Stb.step {n a b : Nat} {d e : List Int} (h : Stb c w n d) (s : Sw a b d e) (hb : b ≤ n) (o : So (cst c) w a b e) : Stb c w n e :=
  ⟨by rw [s.len, h.len], h.bd.step s (by rw [h.len]; exact hb), h.xp.step s (by rw [h.len]; exact hb) hb o⟩
theorem mrg {K n a m b : Nat} {A M B : Int} {d : List Int} (hc : Co c) (hK : 400 ≤ K) (hn : n ≤ 64) (h : Stb c w n d) (hA : A = (a : Int)) (hM : M = (m : Int)) (hB : B = (b : Int)) (ham : a < m) (hmb : m < b) (hb : b ≤ n)
    (s1 : So (cst c) w a m d) (s2 : So (cst c) w m b d) : ∃ e, slices_symMergeCmpFunc_int K d A M B c = some e ∧ e.length = d.length ∧ Sw a b d e ∧ So (cst c) w a b e ∧ Stb c w n e := by
  subst hA hM hB
  have := h.len
  obtain ⟨e, e1, e2, e3⟩ := sym_all (w := w) hc K d a m b (by omega) (by omega) (by omega) ham hmb h.bd s1 s2 (fun i j i1 i2 i3 i4 => h.xp i j (by omega) (by omega) (by omega))
  exact ⟨e, e1, e2.len, e2, e3, h.step e2 hb e3⟩
theorem blocks {K n : Nat} (hc : Co c) (hK : 400 ≤ K) (hn : n ≤ 64) (d0 : List Int) : ∀ (k t : Nat) (d : List Int), Stb c w n d → 20 * t ≤ n → n < k + 20 * t → (∀ s, s < t → So (cst c) w (20 * s) (20 * s + 20) d) →
    ∃ e t2, slices_stableCmpFunc_int_l1 K d0 (n : Int) c k ((20 * t : Nat) : Int) ((20 * t + 20 : Nat) : Int) d = slices_stableCmpFunc_int_l4 K d0 (n : Int) c K 20 e ∧ Sw 0 n d e ∧ Stb c w n e ∧ (∀ s, s < t2 → So (cst c) w (20 * s) (20 * s + 20) e) ∧ So (cst c) w (20 * t2) n e ∧ 20 * t2 ≤ n ∧ n < 20 * t2 + 20 := by
  intro k
  induction k with
  | zero => intro t d _ _ h; omega
  | succ k ih =>
    intro t d h h1 h2 v
    have hl := h.len
    rw [slices_stableCmpFunc_int_l1, ite2_dec]
    by_cases g : 20 * t + 20 ≤ n
    · rw [if_pos (by omega)]
      obtain ⟨e, e1, e2, e3⟩ := ins_all (w := w) (K := K) (a := 20 * t) (b := 20 * t + 20) hc (by omega) d (by omega) (by omega) (by omega) h.bd (by rw [hl]; exact h.xp)
      rw [e1, bind_of, chk_pos e2.len]
      rw [show IntKind.i64.wrap (((20 * t + 20 : Nat) : Int) + 20) = ((20 * (t + 1) + 20 : Nat) : Int) by rw [wrap_in (by omega) (by omega)]; omega, show 20 * t + 20 = 20 * (t + 1) by omega]
      obtain ⟨f, t2, f1, f2, f3⟩ := ih (t + 1) e (h.step e2 g e3) (by omega) (by omega) (fun s hs => by
        by_cases hh : s = t
        · rw [hh]; exact e3
        · exact (v s (by omega)).out e2 (by omega) (.inl (by omega)))
      exact ⟨f, t2, f1, (e2.mono (by omega) g).trans f2, f3⟩
    · rw [if_neg (by omega)]
      obtain ⟨e, e1, e2, e3⟩ := ins_all (w := w) (K := K) (a := 20 * t) (b := n) hc (by omega) d (by omega) (by omega) (by omega) h.bd (by rw [hl]; exact h.xp)
      rw [e1, bind_of, chk_pos e2.len]
      exact ⟨e, t, rfl, e2.mono (by omega) (by omega), h.step e2 (by omega) e3, fun s hs => (v s hs).out e2 (by omega) (.inl (by omega)), e3, h1, by omega⟩
theorem l4_end {K n bs k : Nat} {a0 d : List Int} (h : n ≤ bs) (hl : d.length = a0.length) : slices_stableCmpFunc_int_l4 K a0 (n : Int) c (k + 1) (bs : Int) d = some d := by
  rw [slices_stableCmpFunc_int_l4, ite2_dec, if_neg (by omega), chk_pos hl]
theorem l5_end {K n k : Nat} {A bs : Int} {B : Nat} {d : List Int} (h : n < B) : slices_stableCmpFunc_int_l5 K (n : Int) c bs (k + 1) A (B : Int) d = some (A, d) := by
  rw [slices_stableCmpFunc_int_l5, ite2_dec, if_neg (by omega)]
/-- The second level: two halves of forty. -/
theorem level40 {K n k : Nat} {a0 d : List Int} (hc : Co c) (hK : 400 ≤ K) (hn : n ≤ 64) (h0 : a0.length = n) (h : Stb c w n d) (s1 : So (cst c) w 0 (min 40 n) d) (s2 : So (cst c) w 40 n d) :
    ∃ e, slices_stableCmpFunc_int_l4 K a0 (n : Int) c (k + 2) ((40 : Nat) : Int) d = some e ∧ Sw 0 n d e ∧ So (cst c) w 0 n e := by
  have hl := h.len
  by_cases g : n ≤ 40
  · exact ⟨d, l4_end g (by omega), .refl, s1.sub (Nat.le_refl _) (by omega)⟩
  · rw [slices_stableCmpFunc_int_l4, ite2_dec, if_pos (by omega)]
    obtain ⟨K', rfl⟩ : ∃ K', K = K' + 1 := ⟨K - 1, by omega⟩
    rw [show IntKind.i64.wrap (2 * ((40 : Nat) : Int)) = ((80 : Nat) : Int) by decide, l5_end (by omega), bind_of, ite2_dec]
    rw [show IntKind.i64.wrap ((0 : Int) + ((40 : Nat) : Int)) = 40 by decide, if_pos (by omega), show IntKind.i64.wrap (((40 : Nat) : Int) * 2) = ((80 : Nat) : Int) by decide]
    obtain ⟨e, e1, e2, e3, e4, e5⟩ := mrg (w := w) (K := K' + 1) (a := 0) (m := 40) (b := n) (A := 0) (M := 40) (B := (n : Int)) hc hK hn h rfl rfl rfl (by omega) (by omega) (Nat.le_refl _) (s1.sub (Nat.le_refl _) (by omega)) s2
    simp only [] at e1 ⊢
    rw [e1, bind_of, chk_pos e2, l4_end (by omega) (by omega)]
    exact ⟨e, rfl, e3, e4⟩
theorem stable_all {K n : Nat} {d : List Int} (hc : Co c) (hK : 400 ≤ K) (hn : n ≤ 64) (h : Stb c w n d) : ∃ e, slices_SortStableFunc_int_int K d c = some e ∧ Sw 0 n d e ∧ So (cst c) w 0 n e ∧ e.length = n := by
  have hl := h.len
  suffices H : ∃ e, slices_stableCmpFunc_int K d (n : Int) c = some e ∧ Sw 0 n d e ∧ So (cst c) w 0 n e by
    obtain ⟨e, e1, e2, e3⟩ := H
    unfold slices_SortStableFunc_int_int
    have := e2.len
    rw [hl, e1, bind_of, chk_pos (by omega), chk_pos (by omega)]
    exact ⟨e, rfl, e2, e3, by omega⟩
  unfold slices_stableCmpFunc_int
  obtain ⟨e, t, e1, e2, e3, e4, e5, e6, e7⟩ := blocks (w := w) hc hK hn d K 0 d h (by omega) (by omega) (fun s hs => by omega)
  have hel := e3.len
  simp only [show ((20 * 0 : Nat) : Int) = 0 from rfl, show ((20 * 0 + 20 : Nat) : Int) = 20 from rfl] at e1
  rw [e1]
  clear e1
  suffices H : ∃ f, slices_stableCmpFunc_int_l4 K d (n : Int) c K 20 e = some f ∧ Sw 0 n e f ∧ So (cst c) w 0 n f by
    obtain ⟨f, f1, f2, f3⟩ := H
    exact ⟨f, f1, e2.trans f2, f3⟩
  obtain ⟨k, rfl⟩ : ∃ k, K = k + 3 := ⟨K - 3, by omega⟩
  by_cases g : n ≤ 20
  · refine ⟨e, l4_end (bs := 20) g (by omega), .refl, ?_⟩
    by_cases ht : t = 0
    · subst ht; exact e5
    · exact (e4 0 (by omega)).sub (Nat.le_refl _) (by omega)
  rw [slices_stableCmpFunc_int_l4, ite2_dec, if_pos (by omega)]
  rw [show IntKind.i64.wrap ((2 : Int) * 20) = ((40 : Nat) : Int) by decide, show IntKind.i64.wrap ((20 : Int) * 2) = ((40 : Nat) : Int) by decide]
  by_cases g2 : n < 40
  · have ht : t = 1 := by omega
    subst ht
    rw [l5_end (bs := 20) g2, bind_of, ite2_dec, show IntKind.i64.wrap ((0 : Int) + 20) = 20 by decide, if_pos (by omega)]
    obtain ⟨f, f1, f2, f3, f4, f5⟩ := mrg (w := w) (K := k + 3) (a := 0) (m := 20) (b := n) (A := 0) (M := 20) (B := (n : Int)) hc hK hn e3 rfl rfl rfl (by omega) (by omega) (Nat.le_refl _) (e4 0 (by omega)) e5
    simp only [] at f1 ⊢
    rw [f1, bind_of, chk_pos f2, l4_end (by omega) (by omega)]
    exact ⟨f, rfl, f3, f4⟩
  · rw [slices_stableCmpFunc_int_l5, ite2_dec, if_pos (by omega), show IntKind.i64.wrap ((0 : Int) + 20) = 20 by decide]
    obtain ⟨f, f1, f2, f3, f4, f5⟩ := mrg (w := w) (K := k + 3) (a := 0) (m := 20) (b := 40) (A := 0) (M := 20) (B := ((40 : Nat) : Int)) hc hK hn e3 rfl rfl rfl (by omega) (by omega) (by omega) (e4 0 (by omega)) (e4 1 (by omega))
    rw [f1, bind_of, chk_pos f2, show IntKind.i64.wrap (((40 : Nat) : Int) + IntKind.i64.wrap ((2 : Int) * 20)) = ((80 : Nat) : Int) by decide, l5_end (bs := 20) (by omega), bind_of, ite2_dec]
    rw [show IntKind.i64.wrap (((40 : Nat) : Int) + 20) = 60 by decide]
    have hfl := f5.len
    by_cases g3 : 60 < n
    · have ht : t = 3 := by omega
      subst ht
      rw [if_pos (by omega)]
      have o := f3
      obtain ⟨p, p1, p2, p3, p4, p5⟩ := mrg (w := w) (K := k + 3) (a := 40) (m := 60) (b := n) (A := ((40 : Nat) : Int)) (M := 60) (B := (n : Int)) hc hK hn f5 rfl rfl rfl (by omega) (by omega) (by omega) ((e4 2 (by omega)).out f3 (by omega) (.inr (by omega))) (e5.out f3 (by omega) (.inr (by omega)))
      simp only [] at p1 ⊢
      rw [p1, bind_of, chk_pos p2]
      obtain ⟨q, q1, q2, q3⟩ := level40 (w := w) (K := k + 3) (k := k) (a0 := d) hc hK hn hl p5 ((f4.sub (Nat.le_refl _) (by omega)).out p3 (by omega) (.inl (by omega))) p4
      exact ⟨q, q1, ((f3.mono (by omega) (by omega)).trans (p3.mono (by omega) (by omega))).trans q2, q3⟩
    · rw [if_neg (by omega)]
      have s40 : So (cst c) w 40 n f := by
        by_cases ht : t = 2
        · subst ht; exact e5.out f3 (by omega) (.inr (by omega))
        · exact ((e4 2 (by omega)).sub (by omega) (by omega)).out f3 (by omega) (.inr (by omega))
      obtain ⟨q, q1, q2, q3⟩ := level40 (w := w) (K := k + 3) (k := k) (a0 := d) hc hK hn hl f5 (f4.sub (Nat.le_refl _) (by omega)) s40
      exact ⟨q, q1, (f3.mono (by omega) (by omega)).trans q2, q3⟩
end Go.Fw
