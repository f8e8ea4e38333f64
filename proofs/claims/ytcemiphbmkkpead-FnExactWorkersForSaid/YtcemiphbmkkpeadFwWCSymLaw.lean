/- Merging in place by the library: leaves, blocks that turn, the whole. -/
import Derived.Test.YtcemiphbmkkpeadFwWCSortLaw
namespace Go.Fw
open Go

theorem ite2_and2 (x y : Bool) : ite2 x (some y) (some false) = some (x && y) := by cases x <;> rfl
theorem ite2_dec2 {α : Type} (p q : Prop) [Decidable p] [Decidable q] (x y : Option α) : ite2 (decide p && decide q) x y = if p ∧ q then x else y := by
  by_cases h : p <;> by_cases h2 : q <;> simp [h, h2, ite2]

theorem shift_up {K a s b : Nat} (d0 : List Int) (hsb : s ≤ b) : ∀ (k x : Nat) (d : List Int), d.length = d0.length → d.length ≤ 64 → b ≤ d.length → a ≤ x → x + 1 ≤ s → s - 1 - x < k → Sw a b d0 d →
    (∀ y, a ≤ y → y < x → d.getD y default = d0.getD (y + 1) default) → d.getD x default = d0.getD a default → (∀ y, x < y → d.getD y default = d0.getD y default) →
    ∃ e, slices_symMergeCmpFunc_int_l2 K d0 (s : Int) k (x : Int) d = some e ∧ Sw a b d0 e ∧ (∀ y, a ≤ y → y + 1 < s → e.getD y default = d0.getD (y + 1) default) ∧ e.getD (s - 1) default = d0.getD a default ∧ (∀ y, s ≤ y → e.getD y default = d0.getD y default) := by
  intro k
  induction k with
  | zero => intro x d _ _ _ _ _ h; omega
  | succ k ih =>
    intro x d h0 hl hb h1 h2 h3 hs v1 v2 v3
    rw [slices_symMergeCmpFunc_int_l2, ite2_dec, wrap_m1 (by omega) (by omega), wrap_p1 (by omega)]
    by_cases hx : x + 1 < s
    · rw [if_pos (by omega), chk_pos (by omega), chk_pos (by omega), Int.toNat_natCast, Int.toNat_natCast]
      have he : ∀ y, (sw d x (x + 1)).getD y default = if y = x + 1 then d.getD x default else if y = x then d.getD (x + 1) default else d.getD y default := fun y => sw_get (by omega) (by omega)
      refine ih (x + 1) (sw d x (x + 1)) (by rw [sw_len]; exact h0) (by rw [sw_len]; exact hl) (by rw [sw_len]; exact hb) (by omega) (by omega) (by omega) (.step x (x + 1) hs (by omega) (by omega) (by omega) (by omega)) ?_ ?_ ?_
      · intro y y1 y2
        rw [he, if_neg (by omega)]
        by_cases e : y = x
        · rw [if_pos e, v3 _ (by omega), e]
        · rw [if_neg e]; exact v1 y y1 (by omega)
      · rw [he, if_pos rfl, v2]
      · intro y y1
        rw [he, if_neg (by omega), if_neg (by omega)]; exact v3 y (by omega)
    · rw [if_neg (by omega), chk_pos h0]
      have e : x = s - 1 := by omega
      exact ⟨d, rfl, hs, fun y y1 y2 => v1 y y1 (by omega), e ▸ v2, fun y y1 => v3 y (by omega)⟩
theorem shift_down {K a s m b : Nat} (d0 : List Int) (hm : m < b) : ∀ (k x : Nat) (d : List Int), d.length = d0.length → d.length ≤ 64 → b ≤ d.length → a ≤ s → s ≤ x → x ≤ m → x - s < k → Sw a b d0 d →
    (∀ y, x < y → y ≤ m → d.getD y default = d0.getD (y - 1) default) → d.getD x default = d0.getD m default → (∀ y, y < x → d.getD y default = d0.getD y default) →
    ∃ e, slices_symMergeCmpFunc_int_l4 K d0 (s : Int) k (x : Int) d = some e ∧ Sw a b d0 e ∧ (∀ y, s < y → y ≤ m → e.getD y default = d0.getD (y - 1) default) ∧ e.getD s default = d0.getD m default ∧ (∀ y, y < s → e.getD y default = d0.getD y default) := by
  intro k
  induction k with
  | zero => intro x d _ _ _ _ _ _ h; omega
  | succ k ih =>
    intro x d h0 hl hb h1 h2 h3 h4 hs v1 v2 v3
    rw [slices_symMergeCmpFunc_int_l4, ite2_dec]
    by_cases hx : s < x
    · rw [if_pos (by omega), wrap_m1 (by omega) (by omega), chk_pos (by omega), chk_pos (by omega), Int.toNat_natCast, Int.toNat_natCast]
      have he : ∀ y, (sw d x (x - 1)).getD y default = if y = x - 1 then d.getD x default else if y = x then d.getD (x - 1) default else d.getD y default := fun y => sw_get (by omega) (by omega)
      refine ih (x - 1) (sw d x (x - 1)) (by rw [sw_len]; exact h0) (by rw [sw_len]; exact hl) (by rw [sw_len]; exact hb) h1 (by omega) (by omega) (by omega) (.step x (x - 1) hs (by omega) (by omega) (by omega) (by omega)) ?_ ?_ ?_
      · intro y y1 y2
        rw [he, if_neg (by omega)]
        by_cases e : y = x
        · rw [if_pos e, v3 _ (by omega), e]
        · rw [if_neg e]; exact v1 y (by omega) y2
      · rw [he, if_pos rfl, v2]
      · intro y y1
        rw [he, if_neg (by omega), if_neg (by omega)]; exact v3 y (by omega)
    · rw [if_neg (by omega), chk_pos h0]
      have e : x = s := by omega
      exact ⟨d, rfl, hs, fun y y1 y2 => v1 y (by omega) y2, e ▸ v2, fun y y1 => v3 y (by omega)⟩

variable {c : List Int} {w : Int → Int}

theorem leaf1_search {K a m b : Nat} {d : List Int} (hc : Co c) (hd : Bd c d) (hl : d.length ≤ 64) (hb : b ≤ d.length) (ha : a < m) (so : So (cst c) w m b d) (xx : ∀ x, m ≤ x → x < b → XX (cst c) w (d.getD a default) (d.getD x default)) :
    ∀ (k i j : Nat), m ≤ i → i ≤ j → j ≤ b → j - i < k → (∀ x, m ≤ x → x < i → Lo (cst c) w (d.getD x default) (d.getD a default)) → (∀ x, j ≤ x → x < b → Lo (cst c) w (d.getD a default) (d.getD x default)) →
    ∃ s, m ≤ s ∧ s ≤ b ∧ slices_symMergeCmpFunc_int_l1 K d (a : Int) c k (i : Int) (j : Int) = slices_symMergeCmpFunc_int_l2 K d (s : Int) K (a : Int) d ∧ (∀ x, m ≤ x → x < s → Lo (cst c) w (d.getD x default) (d.getD a default)) ∧ (∀ x, s ≤ x → x < b → Lo (cst c) w (d.getD a default) (d.getD x default)) := by
  intro k
  induction k with
  | zero => intro i j _ _ _ h; omega
  | succ k ih =>
    intro i j h1 h2 h3 h4 v1 v2
    rw [slices_symMergeCmpFunc_int_l1, ite2_dec, wrap_add (by omega) (by omega), half_eq (by omega)]
    by_cases hx : i < j
    · rw [if_pos (by omega), chk_pos (by omega), chk_pos (by omega), chk_pos (by omega), Int.toNat_natCast, Int.toNat_natCast]
      generalize hh : (i + j) / 2 = h
      obtain ⟨v, c1, c2⟩ := cmp_eq K hc hd (i := h) (j := a) (by omega) (by omega)
      rw [c1, bind_of, ite2_dec, wrap_p1 (by omega)]
      by_cases hv : v < 0
      · rw [if_pos hv]
        have l := (xx h (by omega) (by omega)).lt (c2.mp hv)
        exact ih (h + 1) j (by omega) (by omega) h3 (by omega) (fun x x1 x2 => by
          by_cases e : x = h
          · rw [e]; exact l
          · exact (so x h x1 (by omega) (by omega)).trans l) v2
      · rw [if_neg hv]
        have l := (xx h (by omega) (by omega)).ge fun h => hv (c2.mpr h)
        exact ih i h h1 (by omega) (by omega) (by omega) v1 (fun x x1 x2 => by
          by_cases e : x = h
          · rw [e]; exact l
          · exact l.trans (so h x (by omega) (by omega) x2))
    · rw [if_neg (by omega)]
      have e : i = j := by omega
      exact ⟨i, h1, by omega, rfl, v1, e ▸ v2⟩
theorem leaf1 {K a b : Nat} {d : List Int} (hc : Co c) (hK : 100 ≤ K) (hd : Bd c d) (hl : d.length ≤ 64) (hb : b ≤ d.length) (hab : a + 1 ≤ b) (so : So (cst c) w (a + 1) b d) (xx : ∀ x, a + 1 ≤ x → x < b → XX (cst c) w (d.getD a default) (d.getD x default)) :
    ∃ e, slices_symMergeCmpFunc_int_l1 K d (a : Int) c K ((a + 1 : Nat) : Int) (b : Int) = some e ∧ Sw a b d e ∧ So (cst c) w a b e := by
  obtain ⟨s, s1, s2, s3, s4, s5⟩ := leaf1_search (w := w) (K := K) (m := a + 1) hc hd hl hb (by omega) so xx K (a + 1) b (by omega) (by omega) (by omega) (by omega) (fun x _ _ => by omega) (fun x _ _ => by omega)
  obtain ⟨e, e1, e2, e3, e4, e5⟩ := shift_up (K := K) (a := a) (s := s) (b := b) d s2 K a d rfl hl hb (by omega) (by omega) (by omega) .refl (fun y _ _ => by omega) rfl (fun y _ => rfl)
  refine ⟨e, s3.trans e1, e2, ?_⟩
  intro p q p1 p2 p3
  by_cases f1 : p + 1 < s
  · rw [e3 p p1 f1]
    by_cases f2 : q + 1 < s
    · rw [e3 q (by omega) f2]; exact so (p + 1) (q + 1) (by omega) (by omega) (by omega)
    by_cases f3 : q = s - 1
    · rw [f3, e4]; exact s4 _ (by omega) (by omega)
    rw [e5 q (by omega)]; exact so (p + 1) q (by omega) (by omega) p3
  by_cases f3 : p = s - 1
  · rw [f3, e4, e5 q (by omega)]; exact s5 q (by omega) p3
  rw [e5 p (by omega), e5 q (by omega)]; exact so p q (by omega) p2 p3

theorem leaf2_search {K a m b : Nat} {d : List Int} (hc : Co c) (hd : Bd c d) (hl : d.length ≤ 64) (hb : b ≤ d.length) (hm : m < b) (so : So (cst c) w a m d) (xx : ∀ x, a ≤ x → x < m → XX (cst c) w (d.getD x default) (d.getD m default)) :
    ∀ (k i j : Nat), a ≤ i → i ≤ j → j ≤ m → j - i < k → (∀ x, a ≤ x → x < i → Lo (cst c) w (d.getD x default) (d.getD m default)) → (∀ x, j ≤ x → x < m → Lo (cst c) w (d.getD m default) (d.getD x default)) →
    ∃ s, a ≤ s ∧ s ≤ m ∧ slices_symMergeCmpFunc_int_l3 K d (m : Int) c k (i : Int) (j : Int) = slices_symMergeCmpFunc_int_l4 K d (s : Int) K (m : Int) d ∧ (∀ x, a ≤ x → x < s → Lo (cst c) w (d.getD x default) (d.getD m default)) ∧ (∀ x, s ≤ x → x < m → Lo (cst c) w (d.getD m default) (d.getD x default)) := by
  intro k
  induction k with
  | zero => intro i j _ _ _ h; omega
  | succ k ih =>
    intro i j h1 h2 h3 h4 v1 v2
    rw [slices_symMergeCmpFunc_int_l3, ite2_dec, wrap_add (by omega) (by omega), half_eq (by omega)]
    by_cases hx : i < j
    · rw [if_pos (by omega), chk_pos (by omega), chk_pos (by omega), chk_pos (by omega), Int.toNat_natCast, Int.toNat_natCast]
      generalize hh : (i + j) / 2 = h
      obtain ⟨v, c1, c2⟩ := cmp_eq K hc hd (i := m) (j := h) (by omega) (by omega)
      rw [c1, bind_of, wrap_p1 (by omega)]
      by_cases hv : v < 0
      · rw [show (!decide (v < 0)) = false by simp [hv], ite2_false]
        have l := (xx h (by omega) (by omega)).lt (c2.mp hv)
        exact ih i h h1 (by omega) (by omega) (by omega) v1 (fun x x1 x2 => by
          by_cases e : x = h
          · rw [e]; exact l
          · exact l.trans (so h x (by omega) (by omega) x2))
      · rw [show (!decide (v < 0)) = true by simp [hv], ite2_true]
        have l := (xx h (by omega) (by omega)).ge fun h => hv (c2.mpr h)
        exact ih (h + 1) j (by omega) (by omega) h3 (by omega) (fun x x1 x2 => by
          by_cases e : x = h
          · rw [e]; exact l
          · exact (so x h x1 (by omega) (by omega)).trans l) v2
    · rw [if_neg (by omega)]
      have e : i = j := by omega
      exact ⟨i, h1, by omega, rfl, v1, e ▸ v2⟩
theorem leaf2 {K a m : Nat} {d : List Int} (hc : Co c) (hK : 100 ≤ K) (hd : Bd c d) (hl : d.length ≤ 64) (hb : m + 1 ≤ d.length) (ham : a ≤ m) (so : So (cst c) w a m d) (xx : ∀ x, a ≤ x → x < m → XX (cst c) w (d.getD x default) (d.getD m default)) :
    ∃ e, slices_symMergeCmpFunc_int_l3 K d (m : Int) c K (a : Int) (m : Int) = some e ∧ Sw a (m + 1) d e ∧ So (cst c) w a (m + 1) e := by
  obtain ⟨s, s1, s2, s3, s4, s5⟩ := leaf2_search (w := w) (K := K) (b := m + 1) hc hd hl hb (by omega) so xx K a m (by omega) (by omega) (by omega) (by omega) (fun x _ _ => by omega) (fun x _ _ => by omega)
  obtain ⟨e, e1, e2, e3, e4, e5⟩ := shift_down (K := K) (a := a) (s := s) (m := m) (b := m + 1) d (by omega) K m d rfl hl hb s1 s2 (by omega) (by omega) .refl (fun y _ _ => by omega) rfl (fun y _ => rfl)
  refine ⟨e, s3.trans e1, e2, ?_⟩
  intro p q p1 p2 p3
  by_cases f1 : s < q
  · rw [e3 q f1 (by omega)]
    by_cases f2 : s < p
    · rw [e3 p f2 (by omega)]; exact so (p - 1) (q - 1) (by omega) (by omega) (by omega)
    by_cases f3 : p = s
    · rw [f3, e4]; exact s5 _ (by omega) (by omega)
    rw [e5 p (by omega)]; exact so p (q - 1) (by omega) (by omega) (by omega)
  by_cases f3 : q = s
  · rw [f3, e4, e5 p (by omega)]; exact s4 p (by omega) (by omega)
  rw [e5 p (by omega), e5 q (by omega)]; exact so p q (by omega) p2 (by omega)

/-- Two blocks change places. -/
theorem swapR {K p q n lo hi : Nat} (d0 : List Int) (hpq : p + n ≤ q) (hlo : lo ≤ p) (hhi : q + n ≤ hi) (hl : d0.length ≤ 64) (hb : hi ≤ d0.length) : ∀ (k x : Nat) (d : List Int), x ≤ n → n - x < k → Sw lo hi d0 d →
    (∀ y, d.getD y default = if p ≤ y ∧ y < p + x then d0.getD (y + (q - p)) default else if q ≤ y ∧ y < q + x then d0.getD (y - (q - p)) default else d0.getD y default) →
    ∃ e, slices_swapRangeCmpFunc_int_l1 K d0 (p : Int) (q : Int) (n : Int) k (x : Int) d = some e ∧ Sw lo hi d0 e ∧ (∀ y, e.getD y default = if p ≤ y ∧ y < p + n then d0.getD (y + (q - p)) default else if q ≤ y ∧ y < q + n then d0.getD (y - (q - p)) default else d0.getD y default) := by
  intro k
  induction k with
  | zero => intro x d _ h; omega
  | succ k ih =>
    intro x d h1 h2 hs v
    have hle := hs.len
    rw [slices_swapRangeCmpFunc_int_l1, ite2_dec]
    by_cases hx : x < n
    · rw [if_pos (by omega), wrap_add (by omega) (by omega), wrap_add (by omega) (by omega), wrap_p1 (by omega), chk_pos (by omega), chk_pos (by omega), Int.toNat_natCast, Int.toNat_natCast]
      have he : ∀ y, (sw d (p + x) (q + x)).getD y default = if y = q + x then d.getD (p + x) default else if y = p + x then d.getD (q + x) default else d.getD y default := fun y => sw_get (by omega) (by omega)
      refine ih (x + 1) (sw d (p + x) (q + x)) (by omega) (by omega) (.step (p + x) (q + x) hs (by omega) (by omega) (by omega) (by omega)) ?_
      intro y
      rw [he]
      by_cases f1 : y = q + x
      · rw [if_pos f1, if_neg (by omega), if_pos (by omega), v, if_neg (by omega), if_neg (by omega)]
        congr 1; omega
      rw [if_neg f1]
      by_cases f2 : y = p + x
      · rw [if_pos f2, if_pos (by omega), v, if_neg (by omega), if_neg (by omega)]
        congr 1; omega
      rw [if_neg f2, v]
      by_cases f3 : p ≤ y ∧ y < p + x
      · rw [if_pos f3, if_pos (by omega)]
      rw [if_neg f3, if_neg (c := p ≤ y ∧ y < p + (x + 1)) (by omega)]
      by_cases f4 : q ≤ y ∧ y < q + x
      · rw [if_pos f4, if_pos (by omega)]
      rw [if_neg f4, if_neg (by omega)]
    · rw [if_neg (by omega), chk_pos hle]
      have e : x = n := by omega
      exact ⟨d, rfl, hs, e ▸ v⟩
theorem swapRA {K p q n lo hi : Nat} (d0 : List Int) (hK : 100 ≤ K) (hpq : p + n ≤ q) (hlo : lo ≤ p) (hhi : q + n ≤ hi) (hl : d0.length ≤ 64) (hb : hi ≤ d0.length) :
    ∃ e, slices_swapRangeCmpFunc_int K d0 (p : Int) (q : Int) (n : Int) c = some e ∧ Sw lo hi d0 e ∧ (∀ y, e.getD y default = if p ≤ y ∧ y < p + n then d0.getD (y + (q - p)) default else if q ≤ y ∧ y < q + n then d0.getD (y - (q - p)) default else d0.getD y default) := by
  unfold slices_swapRangeCmpFunc_int
  exact swapR d0 hpq hlo hhi hl hb K 0 d0 (by omega) (by omega) .refl (fun y => by rw [if_neg (by omega), if_neg (by omega)])
/-- What stands where after a turn of two blocks. -/
def rotv (d : List Int) (s m e y : Nat) : Int := if y < s ∨ e ≤ y then d.getD y default else if y < s + (e - m) then d.getD (y + (m - s)) default else d.getD (y - (e - m)) default
theorem rot_loop {K m : Nat} (a0 : List Int) (hK : 100 ≤ K) : ∀ (k i j : Nat) (d : List Int), a0.length = d.length → d.length ≤ 64 → 0 < i → 0 < j → i ≤ m → m + j ≤ d.length → i + j ≤ k →
    ∃ e, slices_rotateCmpFunc_int_l1 K a0 (m : Int) c k (i : Int) d (j : Int) = some e ∧ Sw (m - i) (m + j) d e ∧ ∀ y, e.getD y default = rotv d (m - i) m (m + j) y := by
  intro k
  induction k with
  | zero => intro i j d _ _ _ _ _ _ h; omega
  | succ k ih =>
    intro i j d h0 hl hi hj h1 h2 h3
    rw [slices_rotateCmpFunc_int_l1]
    by_cases e : i = j
    · subst e
      rw [show (((i : Int)) != (i : Int)) = false by simp, ite2_false, wrap_sub h1 (by omega)]
      obtain ⟨e, e1, e2, e3⟩ := swapRA (c := c) (K := K) (p := m - i) (q := m) (n := i) (lo := m - i) (hi := m + i) d hK (by omega) (by omega) (by omega) hl h2
      have := e2.len
      rw [e1, bind_of, chk_pos this, chk_pos (by omega)]
      refine ⟨e, rfl, e2, fun y => ?_⟩
      rw [e3]; unfold rotv
      by_cases g1 : m - i ≤ y ∧ y < m - i + i
      · rw [if_pos g1, if_neg (by omega), if_pos (by omega)]
      rw [if_neg g1]
      by_cases g2 : m ≤ y ∧ y < m + i
      · rw [if_pos g2, if_neg (by omega), if_neg (by omega)]; congr 1; omega
      rw [if_neg g2, if_pos (by omega)]
    · rw [show ((i : Int) != (j : Int)) = true by simp only [bne_iff_ne]; omega, ite2_true, ite2_dec]
      by_cases g : j < i
      · rw [if_pos (by omega), wrap_sub h1 (by omega), wrap_sub (by omega) (by omega)]
        obtain ⟨d1, e1, e2, e3⟩ := swapRA (c := c) (K := K) (p := m - i) (q := m) (n := j) (lo := m - i) (hi := m + j) d hK (by omega) (by omega) (by omega) hl h2
        have := e2.len
        rw [e1, bind_of, chk_pos this]
        obtain ⟨f, f1, f2, f3⟩ := ih (i - j) j d1 (by omega) (by omega) (by omega) hj (by omega) (by omega) (by omega)
        refine ⟨f, f1, e2.trans (f2.mono (by omega) (by omega)), fun y => ?_⟩
        rw [f3]; unfold rotv
        by_cases g1 : y < m - i ∨ m + j ≤ y
        · rw [if_pos (by omega), if_pos g1, e3, if_neg (by omega), if_neg (by omega)]
        rw [if_neg (c := y < m - i ∨ m + j ≤ y) g1]
        by_cases g2 : y < m - i + j
        · rw [if_pos (by omega), if_pos (by omega), e3, if_pos (by omega)]
        rw [if_neg (c := y < m - (i - j) ∨ m + j ≤ y) (by omega), if_neg (c := y < m - i + (m + j - m)) (by omega)]
        by_cases g3 : y < m - (i - j) + (m + j - m)
        · rw [if_pos g3, e3, if_neg (by omega), if_pos (by omega)]; congr 1; omega
        rw [if_neg g3, e3, if_neg (by omega), if_neg (by omega)]
      · rw [if_neg (by omega), wrap_sub h1 (by omega), wrap_add (by omega) (by omega), wrap_sub (by omega) (by omega), wrap_sub (by omega) (by omega)]
        obtain ⟨d1, e1, e2, e3⟩ := swapRA (c := c) (K := K) (p := m - i) (q := m + j - i) (n := i) (lo := m - i) (hi := m + j) d hK (by omega) (by omega) (by omega) hl h2
        have := e2.len
        rw [e1, bind_of, chk_pos this]
        obtain ⟨f, f1, f2, f3⟩ := ih i (j - i) d1 (by omega) (by omega) hi (by omega) (by omega) (by omega) (by omega)
        refine ⟨f, f1, e2.trans (f2.mono (by omega) (by omega)), fun y => ?_⟩
        rw [f3]; unfold rotv
        by_cases g1 : y < m - i ∨ m + j ≤ y
        · rw [if_pos (by omega), if_pos g1, e3, if_neg (by omega), if_neg (by omega)]
        rw [if_neg (c := y < m - i ∨ m + j ≤ y) g1]
        by_cases g2 : m + j - i ≤ y
        · rw [if_pos (by omega), if_neg (by omega), e3, if_neg (by omega), if_pos (by omega)]; congr 1; omega
        rw [if_neg (c := y < m - i ∨ m + (j - i) ≤ y) (by omega), if_pos (c := y < m - i + (m + j - m)) (by omega)]
        by_cases g3 : y < m - i + (m + (j - i) - m)
        · rw [if_pos g3, e3, if_neg (by omega), if_neg (by omega)]
        rw [if_neg g3, e3, if_pos (by omega)]; congr 1; omega
theorem rot_all {K s m e : Nat} (hK : 200 ≤ K) (d : List Int) (hl : d.length ≤ 64) (h1 : s < m) (h2 : m < e) (h3 : e ≤ d.length) :
    ∃ f, slices_rotateCmpFunc_int K d (s : Int) (m : Int) (e : Int) c = some f ∧ Sw s e d f ∧ ∀ y, f.getD y default = rotv d s m e y := by
  unfold slices_rotateCmpFunc_int
  rw [wrap_sub (by omega) (by omega), wrap_sub (by omega) (by omega)]
  obtain ⟨f, f1, f2, f3⟩ := rot_loop (c := c) (K := K) (m := m) d (by omega) K (m - s) (e - m) d rfl hl (by omega) (by omega) (by omega) (by omega) (by omega)
  rw [show m - (m - s) = s by omega, show m + (e - m) = e by omega] at f2
  refine ⟨f, f1, f2, fun y => ?_⟩
  rw [f3, show m - (m - s) = s by omega, show m + (e - m) = e by omega]
end Go.Fw
