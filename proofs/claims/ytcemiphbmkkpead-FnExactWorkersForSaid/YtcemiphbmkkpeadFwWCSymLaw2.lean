/- Merging in place by the library: the whole; the stable sort. -/
import Derived.Test.YtcemiphbmkkpeadFwWCSymLaw
namespace Go.Fw
open Go
variable {c : List Int} {w : Int → Int}

theorem l65 (F : (List Int) → Int → Int → Int → (List Int) → Option (List Int)) (K : Nat) (a0 : List Int) (a1 a2 a3 : Int) (c : List Int) : ∀ (k : Nat) (x y : Int), slices_symMergeCmpFunc_int_l6 F K a0 a1 a2 a3 c k x y = slices_symMergeCmpFunc_int_l5 F K a0 a1 a2 a3 c k x y := by
  intro k
  induction k with
  | zero => intro x y; rfl
  | succ k ih =>
    intro x y
    rw [slices_symMergeCmpFunc_int_l6, slices_symMergeCmpFunc_int_l5]
    simp only [ih]
theorem l5_stop (F : (List Int) → Int → Int → Int → (List Int) → Option (List Int)) (K : Nat) (a0 : List Int) (a1 a2 a3 : Int) (c : List Int) (k : Nat) (x : Int) : slices_symMergeCmpFunc_int_l5 F K a0 a1 a2 a3 c (k + 1) x x = slices_symMergeCmpFunc_int_l5 F K a0 a1 a2 a3 c (0 + 1) x x := by
  rw [slices_symMergeCmpFunc_int_l5, slices_symMergeCmpFunc_int_l5]
  simp only [ite2_dec, if_neg (Int.lt_irrefl x)]

theorem l5_search {F : (List Int) → Int → Int → Int → (List Int) → Option (List Int)} {K a m b lo hi : Nat} {d : List Int} (hc : Co c) (hd : Bd c d) (hl : d.length ≤ 64) (hb : b ≤ d.length) (ham : a < m) (hmb : m < b)
    (hr : ∀ x, lo ≤ x → x < hi → a ≤ x ∧ x < m ∧ m + x + 1 ≤ (a + b) / 2 + m ∧ (a + b) / 2 + m < b + x + 1)
    (so1 : So (cst c) w a m d) (so2 : So (cst c) w m b d) (xx : ∀ i j, a ≤ i → i < m → m ≤ j → j < b → XX (cst c) w (d.getD i default) (d.getD j default)) :
    ∀ (k i j : Nat), lo ≤ i → i ≤ j → j ≤ hi → hi ≤ m → j - i < k → (∀ x, lo ≤ x → x < i → Lo (cst c) w (d.getD x default) (d.getD ((a + b) / 2 + m - 1 - x) default)) → (∀ x, j ≤ x → x < hi → Lo (cst c) w (d.getD ((a + b) / 2 + m - 1 - x) default) (d.getD x default)) →
    ∃ s, lo ≤ s ∧ s ≤ hi ∧ slices_symMergeCmpFunc_int_l5 F K d (a : Int) (m : Int) (b : Int) c k (i : Int) (j : Int) = slices_symMergeCmpFunc_int_l5 F K d (a : Int) (m : Int) (b : Int) c (0 + 1) (s : Int) (s : Int) ∧ (∀ x, lo ≤ x → x < s → Lo (cst c) w (d.getD x default) (d.getD ((a + b) / 2 + m - 1 - x) default)) ∧ (∀ x, s ≤ x → x < hi → Lo (cst c) w (d.getD ((a + b) / 2 + m - 1 - x) default) (d.getD x default)) := by
  intro k
  induction k with
  | zero => intro i j _ _ _ _ h; omega
  | succ k ih =>
    intro i j h1 h2 h3 h5 h4 v1 v2
    by_cases hx : i < j
    · have hr1 := hr i h1 (by omega)
      rw [slices_symMergeCmpFunc_int_l5, ite2_dec, if_pos (by omega), chk_pos (by omega)]
      have e1 : IntKind.i64.wrap ((IntKind.u64.wrap (IntKind.i64.wrap ((a : Int) + (b : Int)))).fdiv (2 ^ (min (1 : Int).toNat (IntKind.bits .u64)))) = (((a + b) / 2 : Nat) : Int) := by rw [wrap_add (by omega) (by omega), half_eq (by omega)]
      have e2 : IntKind.i64.wrap ((IntKind.u64.wrap (IntKind.i64.wrap ((i : Int) + (j : Int)))).fdiv (2 ^ (min (1 : Int).toNat (IntKind.bits .u64)))) = (((i + j) / 2 : Nat) : Int) := by rw [wrap_add (by omega) (by omega), half_eq (by omega)]
      have hr2 := hr ((i + j) / 2) (by omega) (by omega)
      rw [e1, e2, wrap_add (i := (a + b) / 2) (j := m) (by omega) (by omega), wrap_m1 (by omega) (by omega), wrap_sub (i := (a + b) / 2 + m - 1) (j := (i + j) / 2) (by omega) (by omega)]
      generalize hh : (i + j) / 2 = h at hr2 ⊢
      generalize hn : (a + b) / 2 + m - 1 = n at v1 v2 ih ⊢
      rw [chk_pos (by omega), chk_pos (by omega), Int.toNat_natCast, Int.toNat_natCast]
      obtain ⟨v, c1, c2⟩ := cmp_eq K hc hd (i := n - h) (j := h) (by omega) (by omega)
      have x0 := xx h (n - h) (by omega) (by omega) (by omega) (by omega)
      rw [c1, bind_of, wrap_p1 (by omega)]
      by_cases hv : v < 0
      · rw [show (!decide (v < 0)) = false by simp [hv], ite2_false]
        have l := x0.lt (c2.mp hv)
        exact ih i h h1 (by omega) (by omega) h5 (by omega) v1 (fun x x1 x2 => by
          by_cases e : x = h
          · rw [e]; exact l
          · have hr3 := hr x (by omega) x2
            exact ((so2 (n - x) (n - h) (by omega) (by omega) (by omega)).trans l).trans (so1 h x (by omega) (by omega) (by omega)))
      · rw [show (!decide (v < 0)) = true by simp [hv], ite2_true]
        have l := x0.ge fun h => hv (c2.mpr h)
        exact ih (h + 1) j (by omega) (by omega) h3 h5 (by omega) (fun x x1 x2 => by
          by_cases e : x = h
          · rw [e]; exact l
          · have hr3 := hr x x1 (by omega)
            exact ((so1 x h (by omega) (by omega) (by omega)).trans l).trans (so2 (n - h) (n - x) (by omega) (by omega) (by omega))) v2
    · have e : i = j := by omega
      subst e
      exact ⟨i, h1, h3, l5_stop .., v1, v2⟩

/-- The second half of a merge. -/
theorem l5_tail {F : (List Int) → Int → Int → Int → (List Int) → Option (List Int)} {K a m b s : Nat} {d : List Int} (hK : 200 ≤ K) (hd : Bd c d) (hl : d.length ≤ 64) (hb : b ≤ d.length) (ham : a + 2 ≤ m) (hmb : m + 2 ≤ b)
    (hF : ∀ (d : List Int) (x y z : Nat), d.length ≤ 64 → z ≤ d.length → x < y → y < z → z - x < b - a → Bd c d → So (cst c) w x y d → So (cst c) w y z d → (∀ i j, x ≤ i → i < y → y ≤ j → j < z → XX (cst c) w (d.getD i default) (d.getD j default)) → ∃ e, F d (x : Int) (y : Int) (z : Int) c = some e ∧ Sw x z d e ∧ So (cst c) w x z e)
    (so1 : So (cst c) w a m d) (so2 : So (cst c) w m b d) (xx : ∀ i j, a ≤ i → i < m → m ≤ j → j < b → XX (cst c) w (d.getD i default) (d.getD j default))
    (s0 : a ≤ s) (s1 : s ≤ m) (s2 : s ≤ (a + b) / 2) (s3 : (a + b) / 2 + m ≤ b + s)
    (l1 : s = a ∨ (a + b) / 2 + m - s = b ∨ Lo (cst c) w (d.getD (s - 1) default) (d.getD ((a + b) / 2 + m - s) default))
    (l2 : s = m ∨ (a + b) / 2 + m - s = m ∨ Lo (cst c) w (d.getD ((a + b) / 2 + m - s - 1) default) (d.getD s default)) :
    ∃ e, slices_symMergeCmpFunc_int_l5 F K d (a : Int) (m : Int) (b : Int) c (0 + 1) (s : Int) (s : Int) = some e ∧ Sw a b d e ∧ So (cst c) w a b e := by
  have e1 : IntKind.i64.wrap ((IntKind.u64.wrap (IntKind.i64.wrap ((a : Int) + (b : Int)))).fdiv (2 ^ (min (1 : Int).toNat (IntKind.bits .u64)))) = (((a + b) / 2 : Nat) : Int) := by rw [wrap_add (by omega) (by omega), half_eq (by omega)]
  rw [slices_symMergeCmpFunc_int_l5, ite2_dec, if_neg (Int.lt_irrefl _), e1, wrap_add (i := (a + b) / 2) (j := m) (by omega) (by omega), wrap_sub (i := (a + b) / 2 + m) (j := s) (by omega) (by omega)]
  have hmid : a < (a + b) / 2 ∧ (a + b) / 2 < b := by omega
  generalize (a + b) / 2 = mid at *
  generalize he : mid + m - s = e at *
  have hme : m ≤ e := by omega
  have heb : e ≤ b := by omega
  have hms : mid = s + (e - m) := by omega
  -- the turn
  have R : ∃ d1, Sw a b d d1 ∧ (s < m ∧ m < e → slices_rotateCmpFunc_int K d (s : Int) (m : Int) (e : Int) c = some d1) ∧ (¬ (s < m ∧ m < e) → d1 = d) ∧ ∀ y, d1.getD y default = rotv d s m e y := by
    by_cases h : s < m ∧ m < e
    · obtain ⟨f, f1, f2, f3⟩ := rot_all (c := c) (K := K) (s := s) (m := m) (e := e) hK d hl h.1 h.2 (by omega)
      exact ⟨f, f2.mono s0 heb, fun _ => f1, fun h2 => absurd h h2, f3⟩
    · refine ⟨d, .refl, fun h2 => absurd h2 h, fun _ => rfl, fun y => ?_⟩
      unfold rotv
      by_cases g : y < s ∨ e ≤ y
      · rw [if_pos g]
      rw [if_neg g]
      by_cases g2 : y < s + (e - m)
      · rw [if_pos g2]; congr 1; omega
      · rw [if_neg g2]; congr 1; omega
  obtain ⟨d1, sw1, r1, r2, val⟩ := R
  have len1 := sw1.len
  have bd1 := hd.step sw1 hb
  have vA0 : ∀ y, y < s → d1.getD y default = d.getD y default := fun y h => by rw [val]; unfold rotv; rw [if_pos (by omega)]
  have vB0 : ∀ y, s ≤ y → y < mid → d1.getD y default = d.getD (y + (m - s)) default := fun y h h2 => by rw [val]; unfold rotv; rw [if_neg (by omega), if_pos (by omega)]
  have vA1 : ∀ y, mid ≤ y → y < e → d1.getD y default = d.getD (y - (e - m)) default := fun y h h2 => by rw [val]; unfold rotv; rw [if_neg (by omega), if_neg (by omega)]
  have vB1 : ∀ y, e ≤ y → d1.getD y default = d.getD y default := fun y h => by rw [val]; unfold rotv; rw [if_pos (by omega)]
  -- left
  have M1 : ∃ d2, Sw a mid d1 d2 ∧ (a < s ∧ s < mid → F d1 (a : Int) (s : Int) (mid : Int) c = some d2) ∧ (¬ (a < s ∧ s < mid) → d2 = d1) ∧ So (cst c) w a mid d2 := by
    have o1 : So (cst c) w a s d1 := fun i j i1 i2 i3 => by rw [vA0 i (by omega), vA0 j i3]; exact so1 i j i1 i2 (by omega)
    have o2 : So (cst c) w s mid d1 := fun i j i1 i2 i3 => by rw [vB0 i i1 (by omega), vB0 j (by omega) i3]; exact so2 _ _ (by omega) (by omega) (by omega)
    by_cases h : a < s ∧ s < mid
    · obtain ⟨f, f1, f2, f3⟩ := hF d1 a s mid (by omega) (by omega) h.1 h.2 (by omega) bd1 o1 o2
        (fun i j i1 i2 i3 i4 => by rw [vA0 i i2, vB0 j i3 i4]; exact xx _ _ i1 (by omega) (by omega) (by omega))
      exact ⟨f, f2, fun _ => f1, fun h2 => absurd h h2, f3⟩
    · refine ⟨d1, .refl, fun h2 => absurd h2 h, fun _ => rfl, ?_⟩
      by_cases g : a < s
      · exact o1.sub (Nat.le_refl _) (by omega)
      · exact o2.sub (by omega) (Nat.le_refl _)
  obtain ⟨d2, sw2, m1, m2, so3⟩ := M1
  have len2 := sw2.len
  have bd2 := bd1.step sw2 (by omega)
  have o3 : ∀ y, mid ≤ y → d2.getD y default = d1.getD y default := fun y h => sw2.out (by omega) (.inr h)
  have M2 : ∃ d3, Sw mid b d2 d3 ∧ (mid < e ∧ e < b → F d2 (mid : Int) (e : Int) (b : Int) c = some d3) ∧ (¬ (mid < e ∧ e < b) → d3 = d2) ∧ So (cst c) w mid b d3 := by
    have o1 : So (cst c) w mid e d2 := fun i j i1 i2 i3 => by rw [o3 i i1, o3 j (by omega), vA1 i i1 (by omega), vA1 j (by omega) i3]; exact so1 _ _ (by omega) (by omega) (by omega)
    have o2 : So (cst c) w e b d2 := fun i j i1 i2 i3 => by rw [o3 i (by omega), o3 j (by omega), vB1 i i1, vB1 j (by omega)]; exact so2 i j (by omega) i2 i3
    by_cases h : mid < e ∧ e < b
    · obtain ⟨f, f1, f2, f3⟩ := hF d2 mid e b (by omega) (by omega) h.1 h.2 (by omega) bd2 o1 o2
        (fun i j i1 i2 i3 i4 => by rw [o3 i i1, o3 j (by omega), vA1 i i1 i2, vB1 j i3]; exact xx _ _ (by omega) (by omega) (by omega) i4)
      exact ⟨f, f2, fun _ => f1, fun h2 => absurd h h2, f3⟩
    · refine ⟨d2, .refl, fun h2 => absurd h2 h, fun _ => rfl, ?_⟩
      by_cases g : mid < e
      · exact o1.sub (Nat.le_refl _) (by omega)
      · exact o2.sub (by omega) (Nat.le_refl _)
  obtain ⟨d3, sw3, n1, n2, so4⟩ := M2
  have len3 := sw3.len
  refine ⟨d3, ?_, (sw1.trans (sw2.mono (Nat.le_refl _) (by omega))).trans (sw3.mono (by omega) (Nat.le_refl _)), ?_⟩
  · have k1 : ((s : Int) < (m : Int)) ↔ s < m := by omega
    have k2 : ((m : Int) < (e : Int)) ↔ m < e := by omega
    have k3 : ((a : Int) < (s : Int)) ↔ a < s := by omega
    have k4 : ((s : Int) < (mid : Int)) ↔ s < mid := by omega
    have k5 : ((mid : Int) < (e : Int)) ↔ mid < e := by omega
    have k6 : ((e : Int) < (b : Int)) ↔ e < b := by omega
    simp only [ite2_and2, bind_of, ite2_dec2, k1, k2, k3, k4, k5, k6]
    by_cases q1 : s < m ∧ m < e
    · rw [if_pos q1, r1 q1, bind_of, chk_pos len1]
      by_cases q2 : a < s ∧ s < mid
      · rw [if_pos q2, m1 q2, bind_of, chk_pos len2]
        by_cases q3 : mid < e ∧ e < b
        · rw [if_pos q3, n1 q3, bind_of, chk_pos len3, chk_pos (by omega)]
        · rw [if_neg q3, chk_pos (by omega), n2 q3]
      · rw [if_neg q2]
        by_cases q3 : mid < e ∧ e < b
        · have := n1 q3
          rw [m2 q2] at this len3
          rw [if_pos q3, this, bind_of, chk_pos len3, chk_pos (by omega)]
        · rw [if_neg q3, chk_pos (by omega), n2 q3, m2 q2]
    · have := r2 q1
      subst this
      rw [if_neg q1]
      by_cases q2 : a < s ∧ s < mid
      · rw [if_pos q2, m1 q2, bind_of, chk_pos len2]
        by_cases q3 : mid < e ∧ e < b
        · rw [if_pos q3, n1 q3, bind_of, chk_pos len3, chk_pos (by omega)]
        · rw [if_neg q3, chk_pos (by omega), n2 q3]
      · rw [if_neg q2]
        by_cases q3 : mid < e ∧ e < b
        · have := n1 q3
          rw [m2 q2] at this len3
          rw [if_pos q3, this, bind_of, chk_pos len3, chk_pos (by omega)]
        · rw [if_neg q3, chk_pos (by first | trivial | omega), n2 q3, m2 q2]
  · have cross : ∀ i j, a ≤ i → i < mid → mid ≤ j → j < b → Lo (cst c) w (d3.getD i default) (d3.getD j default) := by
      intro i j i1 i2 i3 i4
      rw [sw3.out (x := i) (by omega) (.inl i2)]
      obtain ⟨x, x1, x2, x3⟩ := sw2.inn (by omega) i1 i2
      obtain ⟨y, y1, y2, y3⟩ := sw3.inn (by omega) i3 i4
      rw [x3, y3, o3 y y1]
      by_cases g1 : x < s
      · rw [vA0 x g1]
        by_cases g2 : y < e
        · rw [vA1 y y1 g2]; exact so1 _ _ x1 (by omega) (by omega)
        · rw [vB1 y (by omega)]
          have l := l1.resolve_left (by omega) |>.resolve_left (by omega)
          have l3 : Lo (cst c) w (d.getD x default) (d.getD e default) := by
            by_cases h : x = s - 1
            · rw [h]; exact l
            · exact (so1 x (s - 1) x1 (by omega) (by omega)).trans l
          by_cases h : y = e
          · rw [h]; exact l3
          · exact l3.trans (so2 e y (by omega) (by omega) y2)
      · rw [vB0 x (by omega) x2]
        by_cases g2 : y < e
        · rw [vA1 y y1 g2]
          have l := l2.resolve_left (by omega) |>.resolve_left (by omega)
          have l3 : Lo (cst c) w (d.getD (x + (m - s)) default) (d.getD s default) := by
            by_cases h : x + (m - s) = e - 1
            · rw [h]; exact l
            · exact (so2 _ (e - 1) (by omega) (by omega) (by omega)).trans l
          by_cases h : y - (e - m) = s
          · rw [h]; exact l3
          · exact l3.trans (so1 s _ (by omega) (by omega) (by omega))
        · rw [vB1 y (by omega)]; exact so2 _ _ (by omega) (by omega) y2
    intro i j i1 i2 i3
    by_cases g1 : j < mid
    · rw [sw3.out (x := i) (by omega) (by omega), sw3.out (x := j) (by omega) (by omega)]
      exact so3 i j i1 i2 g1
    by_cases g2 : i < mid
    · exact cross i j i1 g2 (by omega) i3
    · exact so4 i j (by omega) i2 i3

/-- A merge. -/
theorem sym_all (hc : Co c) : ∀ (K : Nat) (d : List Int) (a m b : Nat), 300 + (b - a) ≤ K → d.length ≤ 64 → b ≤ d.length → a < m → m < b → Bd c d → So (cst c) w a m d → So (cst c) w m b d →
    (∀ i j, a ≤ i → i < m → m ≤ j → j < b → XX (cst c) w (d.getD i default) (d.getD j default)) → ∃ e, slices_symMergeCmpFunc_int K d (a : Int) (m : Int) (b : Int) c = some e ∧ Sw a b d e ∧ So (cst c) w a b e := by
  intro K
  induction K with
  | zero => intro d a m b h; omega
  | succ K ih =>
    intro d a m b hK hl hb ham hmb hd so1 so2 xx
    rw [slices_symMergeCmpFunc_int, wrap_sub (by omega) (by omega), wrap_sub (by omega) (by omega)]
    by_cases g1 : m = a + 1
    · subst g1
      rw [show (((a + 1 - a : Nat) : Int) == 1) = true by simp, ite2_true]
      exact leaf1 hc (by omega) hd hl hb (by omega) so2 (fun x x1 x2 => xx a x (by omega) (by omega) x1 x2)
    rw [show (((m - a : Nat) : Int) == 1) = false by simp only [beq_eq_false_iff_ne]; omega, ite2_false]
    by_cases g2 : b = m + 1
    · subst g2
      rw [show (((m + 1 - m : Nat) : Int) == 1) = true by simp, ite2_true]
      exact leaf2 hc (by omega) hd hl hb (by omega) so1 (fun x x1 x2 => xx x m x1 x2 (by omega) (by omega))
    rw [show (((b - m : Nat) : Int) == 1) = false by simp only [beq_eq_false_iff_ne]; omega, ite2_false, chk_pos (by omega), ite2_dec, l65]
    have e1 : IntKind.i64.wrap ((IntKind.u64.wrap (IntKind.i64.wrap ((a : Int) + (b : Int)))).fdiv (2 ^ (min (1 : Int).toNat (IntKind.bits .u64)))) = (((a + b) / 2 : Nat) : Int) := by rw [wrap_add (by omega) (by omega), half_eq (by omega)]
    rw [e1, wrap_add (i := (a + b) / 2) (j := m) (by omega) (by omega)]
    have hF : ∀ (d : List Int) (x y z : Nat), d.length ≤ 64 → z ≤ d.length → x < y → y < z → z - x < b - a → Bd c d → So (cst c) w x y d → So (cst c) w y z d → (∀ i j, x ≤ i → i < y → y ≤ j → j < z → XX (cst c) w (d.getD i default) (d.getD j default)) → ∃ e, slices_symMergeCmpFunc_int K d (x : Int) (y : Int) (z : Int) c = some e ∧ Sw x z d e ∧ So (cst c) w x z e := by
      intro d x y z h1 h2 h3 h4 h5 h6 h7 h8 h9
      exact ih d x y z (by omega) h1 h2 h3 h4 h6 h7 h8 h9
    by_cases g3 : (a + b) / 2 < m
    · rw [if_pos (by omega), wrap_sub (by omega) (by omega)]
      obtain ⟨s, s1, s2, s3, s4, s5⟩ := l5_search (F := slices_symMergeCmpFunc_int K) (K := K) (w := w) (lo := (a + b) / 2 + m - b) (hi := (a + b) / 2) hc hd hl hb ham hmb (fun x x1 x2 => by omega) so1 so2 xx K _ _ (Nat.le_refl _) (by omega) (Nat.le_refl _) (by omega) (by omega) (fun x _ _ => by omega) (fun x _ _ => by omega)
      rw [s3]
      refine l5_tail (w := w) (by omega) hd hl hb (by omega) (by omega) hF so1 so2 xx (by omega) (by omega) s2 (by omega) ?_ ?_
      · by_cases h : s = (a + b) / 2 + m - b
        · exact .inr (.inl (by omega))
        · have := s4 (s - 1) (by omega) (by omega)
          rw [show (a + b) / 2 + m - 1 - (s - 1) = (a + b) / 2 + m - s by omega] at this
          exact .inr (.inr this)
      · by_cases h : s = (a + b) / 2
        · exact .inr (.inl (by omega))
        · have := s5 s (Nat.le_refl _) (by omega)
          rw [show (a + b) / 2 + m - 1 - s = (a + b) / 2 + m - s - 1 by omega] at this
          exact .inr (.inr this)
    · rw [if_neg (by omega)]
      obtain ⟨s, s1, s2, s3, s4, s5⟩ := l5_search (F := slices_symMergeCmpFunc_int K) (K := K) (w := w) (lo := a) (hi := m) hc hd hl hb ham hmb (fun x x1 x2 => by omega) so1 so2 xx K _ _ (Nat.le_refl _) (by omega) (Nat.le_refl _) (by omega) (by omega) (fun x _ _ => by omega) (fun x _ _ => by omega)
      rw [s3]
      refine l5_tail (w := w) (by omega) hd hl hb (by omega) (by omega) hF so1 so2 xx s1 s2 (by omega) (by omega) ?_ ?_
      · by_cases h : s = a
        · exact .inl h
        · have := s4 (s - 1) (by omega) (by omega)
          rw [show (a + b) / 2 + m - 1 - (s - 1) = (a + b) / 2 + m - s by omega] at this
          exact .inr (.inr this)
      · by_cases h : s = m
        · exact .inl h
        · have := s5 s (Nat.le_refl _) (by omega)
          rw [show (a + b) / 2 + m - 1 - s = (a + b) / 2 + m - s - 1 by omega] at this
          exact .inr (.inr this)
end Go.Fw
