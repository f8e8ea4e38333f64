/- Stable sorting by the library: what it leaves. L is a strict order, XX says how two elements that stand left and right compare. -/
import Derived.Test.YtcemiphbmkkpeadFwWC2
import Derived.Test.YtcemiphbmkkpeadFwLW
namespace Go.Fw
open Go

theorem sg {d : List Int} {i j : Nat} {v : Int} (h : i < d.length) : (d.set i v).getD j default = if j = i then v else d.getD j default := by
  by_cases e : j = i
  · subst e; rw [if_pos rfl, set_getD h]
  · rw [if_neg e, List.getD_eq_getElem?_getD, List.getElem?_set_ne (by omega), ← List.getD_eq_getElem?_getD]
/-- Two elements change places. -/
def sw (d : List Int) (i j : Nat) : List Int := (d.set i (d.getD j default)).set j (d.getD i default)
theorem sw_len (d : List Int) (i j : Nat) : (sw d i j).length = d.length := by unfold sw; simp
theorem sw_get {d : List Int} {i j x : Nat} (hi : i < d.length) (hj : j < d.length) : (sw d i j).getD x default = if x = j then d.getD i default else if x = i then d.getD j default else d.getD x default := by
  unfold sw
  rw [sg (by simpa using hj), sg hi]

/-- Some swaps between two places. -/
inductive Sw (a b : Nat) (d : List Int) : List Int → Prop
  | refl : Sw a b d d
  | step {e : List Int} (i j : Nat) : Sw a b d e → a ≤ i → i < b → a ≤ j → j < b → Sw a b d (sw e i j)
theorem Sw.trans {a b : Nat} {d e f : List Int} (h : Sw a b d e) (h2 : Sw a b e f) : Sw a b d f := by
  induction h2 with
  | refl => exact h
  | step i j _ h1 h2 h3 h4 ih => exact .step i j ih h1 h2 h3 h4
theorem Sw.mono {a b a' b' : Nat} {d e : List Int} (h : Sw a b d e) (ha : a' ≤ a) (hb : b ≤ b') : Sw a' b' d e := by
  induction h with
  | refl => exact .refl
  | step i j _ h1 h2 h3 h4 ih => exact .step i j ih (by omega) (by omega) (by omega) (by omega)
theorem Sw.len {a b : Nat} {d e : List Int} (h : Sw a b d e) : e.length = d.length := by
  induction h with
  | refl => rfl
  | step i j _ h1 h2 h3 h4 ih => rw [sw_len, ih]
theorem Sw.out {a b : Nat} {d e : List Int} (h : Sw a b d e) (hb : b ≤ d.length) {x : Nat} (hx : x < a ∨ b ≤ x) : e.getD x default = d.getD x default := by
  induction h with
  | refl => rfl
  | step i j g h1 h2 h3 h4 ih =>
    have := g.len
    rw [sw_get (by omega) (by omega), if_neg (by omega), if_neg (by omega), ih]
theorem Sw.inn {a b : Nat} {d e : List Int} (h : Sw a b d e) (hb : b ≤ d.length) : ∀ {x : Nat}, a ≤ x → x < b → ∃ y, a ≤ y ∧ y < b ∧ e.getD x default = d.getD y default := by
  induction h with
  | refl => intro x h1 h2; exact ⟨x, h1, h2, rfl⟩
  | step i j g h1 h2 h3 h4 ih =>
    intro x hx hy
    have := g.len
    rw [sw_get (by omega) (by omega)]
    split
    · exact ih h1 h2
    · split
      · exact ih h3 h4
      · exact ih hx hy
theorem Sw.inn' {a b : Nat} {d e : List Int} (h : Sw a b d e) (hb : b ≤ d.length) : ∀ {x : Nat}, a ≤ x → x < b → ∃ y, a ≤ y ∧ y < b ∧ e.getD y default = d.getD x default := by
  induction h with
  | refl => intro x h1 h2; exact ⟨x, h1, h2, rfl⟩
  | step i j g h1 h2 h3 h4 ih =>
    intro x hx hy
    have := g.len
    obtain ⟨y, y1, y2, y3⟩ := ih hx hy
    by_cases e1 : y = i
    · subst e1; exact ⟨j, h3, h4, by rw [sw_get (by omega) (by omega), if_pos rfl, y3]⟩
    by_cases e2 : y = j
    · subst e2; refine ⟨i, h1, h2, ?_⟩
      rw [sw_get (by omega) (by omega), if_neg (by omega), if_pos rfl, y3]
    exact ⟨y, y1, y2, by rw [sw_get (by omega) (by omega), if_neg e2, if_neg e1, y3]⟩

/-- The order that is wanted; how a left and a right element compare. -/
def Lo (C w : Int → Int) (u v : Int) : Prop := w u < w v ∧ C v ≤ C u
def XX (C w : Int → Int) (u v : Int) : Prop := (C u < C v ∧ Lo C w v u) ∨ (¬ C u < C v ∧ Lo C w u v)
theorem Lo.trans {C w : Int → Int} {u v x : Int} (h : Lo C w u v) (h2 : Lo C w v x) : Lo C w u x := ⟨by have := h.1; have := h2.1; omega, by have := h.2; have := h2.2; omega⟩
theorem Lo.xx {C w : Int → Int} {u v : Int} (h : Lo C w u v) : XX C w u v := .inr ⟨by have := h.2; omega, h⟩
theorem XX.lt {C w : Int → Int} {u v : Int} (h : XX C w u v) (h2 : C u < C v) : Lo C w v u := by
  rcases h with ⟨_, h⟩ | ⟨h, _⟩
  · exact h
  · exact absurd h2 h
theorem XX.ge {C w : Int → Int} {u v : Int} (h : XX C w u v) (h2 : ¬ C u < C v) : Lo C w u v := by
  rcases h with ⟨h, _⟩ | ⟨_, h⟩
  · exact absurd h h2
  · exact h
/-- In order from a to b. -/
def So (C w : Int → Int) (a b : Nat) (d : List Int) : Prop := ∀ i j, a ≤ i → i < j → j < b → Lo C w (d.getD i default) (d.getD j default)
/-- Left and right of all pairs. -/
def XP (C w : Int → Int) (a b : Nat) (d : List Int) : Prop := ∀ i j, a ≤ i → i < j → j < b → XX C w (d.getD i default) (d.getD j default)
theorem So.sub {C w : Int → Int} {a b a' b' : Nat} {d : List Int} (h : So C w a b d) (ha : a ≤ a') (hb : b' ≤ b) : So C w a' b' d := fun i j h1 h2 h3 => h i j (by omega) h2 (by omega)
theorem XP.sub {C w : Int → Int} {a b a' b' : Nat} {d : List Int} (h : XP C w a b d) (ha : a ≤ a') (hb : b' ≤ b) : XP C w a' b' d := fun i j h1 h2 h3 => h i j (by omega) h2 (by omega)
theorem So.out {C w : Int → Int} {a b p q : Nat} {d e : List Int} (h : So C w p q d) (s : Sw a b d e) (hb : b ≤ d.length) (ho : q ≤ a ∨ b ≤ p) : So C w p q e := fun i j h1 h2 h3 => by
  rw [s.out hb (by omega), s.out hb (by omega)]; exact h i j h1 h2 h3
theorem XP.step {C w : Int → Int} {a b n : Nat} {d e : List Int} (h : XP C w 0 n d) (s : Sw a b d e) (hb : b ≤ d.length) (hn : b ≤ n) (o : So C w a b e) : XP C w 0 n e := fun i j h1 h2 h3 => by
  by_cases i1 : a ≤ i ∧ i < b
  · by_cases j1 : j < b
    · exact (o i j i1.1 h2 j1).xx
    · obtain ⟨x, x1, x2, x3⟩ := s.inn hb i1.1 i1.2
      rw [x3, s.out hb (by omega)]
      exact h x j (by omega) (by omega) h3
  · rw [s.out hb (x := i) (by omega)]
    by_cases j1 : a ≤ j ∧ j < b
    · obtain ⟨x, x1, x2, x3⟩ := s.inn hb j1.1 j1.2
      rw [x3]
      exact h i x h1 (by omega) (by omega)
    · rw [s.out hb (x := j) (by omega)]
      exact h i j h1 h2 h3

/-- All elements name costs. -/
def Bd (c d : List Int) : Prop := ∀ i, i < d.length → 0 ≤ d.getD i default ∧ d.getD i default < (c.length : Int)
def Co (c : List Int) : Prop := ∀ i, i < c.length → 0 ≤ c.getD i default ∧ c.getD i default ≤ 1000000
/-- The cost of an element. -/
def cst (c : List Int) (u : Int) : Int := c.getD u.toNat default
theorem Bd.step {c d e : List Int} {a b : Nat} (h : Bd c d) (s : Sw a b d e) (hb : b ≤ d.length) : Bd c e := fun i hi => by
  rw [s.len] at hi
  by_cases i1 : a ≤ i ∧ i < b
  · obtain ⟨x, x1, x2, x3⟩ := s.inn hb i1.1 i1.2
    rw [x3]; exact h x (by omega)
  · rw [s.out hb (by omega)]; exact h i hi
theorem cmp_eq (K : Nat) {c d : List Int} (hc : Co c) (hd : Bd c d) {i j : Nat} (hi : i < d.length) (hj : j < d.length) :
    ∃ v, impl_WorkersFor_2 K (d.getD i default) (d.getD j default) c = some v ∧ (v < 0 ↔ cst c (d.getD j default) < cst c (d.getD i default)) := by
  have h1 := hd i hi
  have h2 := hd j hj
  unfold impl_WorkersFor_2
  rw [chk_pos (by omega), chk_pos (by omega)]
  have c1 := hc (d.getD i default).toNat (by omega)
  have c2 := hc (d.getD j default).toNat (by omega)
  refine ⟨_, rfl, ?_⟩
  unfold cst
  rw [wrap_in (by omega) (by omega)]
  omega
theorem wrap_p1 {i : Nat} (h : i ≤ 1000) : IntKind.i64.wrap ((i : Int) + 1) = ((i + 1 : Nat) : Int) := by rw [wrap_in (by omega) (by omega)]; omega
theorem wrap_m1 {i : Nat} (h0 : 1 ≤ i) (h : i ≤ 1000) : IntKind.i64.wrap ((i : Int) - 1) = ((i - 1 : Nat) : Int) := by rw [wrap_in (by omega) (by omega)]; omega
theorem wrap_add {i j : Nat} (h : i ≤ 1000) (h2 : j ≤ 1000) : IntKind.i64.wrap ((i : Int) + (j : Int)) = ((i + j : Nat) : Int) := by rw [wrap_in (by omega) (by omega)]; omega
theorem wrap_sub {i j : Nat} (h0 : j ≤ i) (h : i ≤ 1000) : IntKind.i64.wrap ((i : Int) - (j : Int)) = ((i - j : Nat) : Int) := by rw [wrap_in (by omega) (by omega)]; omega
theorem half_eq {i : Nat} (h : i ≤ 2000) : IntKind.i64.wrap ((IntKind.u64.wrap (i : Int)).fdiv (2 ^ (min (1 : Int).toNat (IntKind.bits .u64)))) = ((i / 2 : Nat) : Int) := by
  have e : (2 : Int) ^ (min (1 : Int).toNat (IntKind.bits .u64)) = 2 := by decide
  have e2 : IntKind.u64.wrap (i : Int) = (i : Int) := by rw [show IntKind.u64.wrap (i : Int) = (i : Int) % 18446744073709551616 by simp [IntKind.wrap, IntKind.bits, IntKind.signed]]; omega
  rw [e2, e, Int.fdiv_eq_ediv_of_nonneg _ (by omega), wrap_in (by omega) (by omega)]
  omega

variable {c : List Int} {w : Int → Int}

/-- One element goes to its place. -/
theorem ins_inner {K a i : Nat} (hc : Co c) : ∀ (k j : Nat) (d : List Int), d.length ≤ 64 → i < d.length → Bd c d → a ≤ j → j ≤ i → j - a < k →
    (∀ p q, a ≤ p → p < q → q ≤ i → p ≠ j → q ≠ j → Lo (cst c) w (d.getD p default) (d.getD q default)) →
    (∀ q, j < q → q ≤ i → Lo (cst c) w (d.getD j default) (d.getD q default)) →
    (∀ p, a ≤ p → p < j → XX (cst c) w (d.getD p default) (d.getD j default)) →
    ∃ e, slices_insertionSortCmpFunc_int_l4 K (a : Int) c k (j : Int) d = some e ∧ Sw a (i + 1) d e ∧ So (cst c) w a (i + 1) e := by
  intro k
  induction k with
  | zero => intro j d _ _ _ _ _ h; omega
  | succ k ih =>
    intro j d hl hi hb h1 h2 h3 k1 k2 k3
    rw [slices_insertionSortCmpFunc_int_l4, ite2_dec]
    have stop : (j = a ∨ (a < j ∧ ¬ cst c (d.getD (j - 1) default) < cst c (d.getD j default))) → So (cst c) w a (i + 1) d := by
      intro hs p q p1 p2 p3
      by_cases e1 : p = j
      · subst e1; exact k2 q p2 (by omega)
      by_cases e2 : q = j
      · subst e2
        have l1 := (k3 (q - 1) (by omega) (by omega)).ge (by rcases hs with hs | hs; omega; exact hs.2)
        by_cases e3 : p = q - 1
        · rw [e3]; exact l1
        · exact (k1 p (q - 1) p1 (by omega) (by omega) e1 (by omega)).trans l1
      exact k1 p q p1 p2 (by omega) e1 e2
    by_cases hj : a < j
    · rw [if_pos (by omega), wrap_m1 (by omega) (by omega), chk_pos (by omega), chk_pos (by omega), Int.toNat_natCast, Int.toNat_natCast]
      obtain ⟨v, v1, v2⟩ := cmp_eq K hc hb (i := j) (j := j - 1) (by omega) (by omega)
      rw [v1, bind_of, bind_of, ite2_dec]
      by_cases hv : v < 0
      · rw [if_pos hv, chk_pos (by omega), chk_pos (by omega)]
        have hx := (k3 (j - 1) (by omega) (by omega)).lt (v2.mp hv)
        have he : ∀ x, (sw d j (j - 1)).getD x default = if x = j - 1 then d.getD j default else if x = j then d.getD (j - 1) default else d.getD x default := fun x => sw_get (by omega) (by omega)
        have hsw : Sw a (i + 1) d (sw d j (j - 1)) := .step j (j - 1) .refl (by omega) (by omega) (by omega) (by omega)
        obtain ⟨e, e1, e2, e3⟩ := ih (j - 1) (sw d j (j - 1)) (by rw [sw_len]; omega) (by rw [sw_len]; omega) (hb.step hsw (by omega)) (by omega) (by omega) (by omega)
          (by
            intro p q p1 p2 p3 p4 p5
            rw [he, he, if_neg p4, if_neg p5]
            by_cases f1 : p = j
            · rw [if_pos f1, if_neg (by omega)]; exact k1 (j - 1) q (by omega) (by omega) p3 (by omega) (by omega)
            rw [if_neg f1]
            by_cases f2 : q = j
            · rw [if_pos f2]; exact k1 p (j - 1) p1 (by omega) (by omega) (by omega) (by omega)
            rw [if_neg f2]; exact k1 p q p1 p2 p3 f1 f2)
          (by
            intro q q1 q2
            rw [he, he, if_pos rfl, if_neg (by omega)]
            by_cases f1 : q = j
            · rw [if_pos f1]; exact hx
            rw [if_neg f1]; exact k2 q (by omega) q2)
          (by
            intro p p1 p2
            rw [he, he, if_pos rfl, if_neg (by omega), if_neg (by omega)]
            exact k3 p p1 (by omega))
        exact ⟨e, e1, hsw.trans e2, e3⟩
      · rw [if_neg hv]
        exact ⟨d, rfl, .refl, stop (.inr ⟨hj, fun h => hv (v2.mpr h)⟩)⟩
    · rw [if_neg (by omega), bind_of]
      exact ⟨d, rfl, .refl, stop (.inl (by omega))⟩
theorem ins_outer {K a b : Nat} (hc : Co c) (hK : 200 ≤ K) (d0 : List Int) : ∀ (k i : Nat) (d : List Int), d.length = d0.length → d.length ≤ 64 → b ≤ d.length → Bd c d → a < i → i ≤ b ∨ i = a + 1 → b - i < k → So (cst c) w a i d →
    (∀ p q, a ≤ p → p < q → i ≤ q → q < b → XX (cst c) w (d.getD p default) (d.getD q default)) →
    ∃ e, slices_insertionSortCmpFunc_int_l3 K d0 (a : Int) (b : Int) c k (i : Int) d = some e ∧ Sw a b d e ∧ So (cst c) w a b e := by
  intro k
  induction k with
  | zero => intro i d _ _ _ _ _ _ h; omega
  | succ k ih =>
    intro i d h0 hl hbl hb h1 h2 h3 k1 k2
    rw [slices_insertionSortCmpFunc_int_l3, ite2_dec]
    by_cases hi : i < b
    · rw [if_pos (by omega)]
      obtain ⟨e, e1, e2, e3⟩ := ins_inner (w := w) (K := K) (a := a) (i := i) hc K i d hl (by omega) hb (by omega) (Nat.le_refl _) (by omega)
        (fun p q p1 p2 p3 p4 p5 => k1 p q p1 p2 (by omega)) (fun q q1 q2 => by omega) (fun p p1 p2 => k2 p i p1 p2 (Nat.le_refl _) hi)
      rw [e1, bind_of, wrap_p1 (by omega)]
      have hel := e2.len
      obtain ⟨f, f1, f2, f3⟩ := ih (i + 1) e (by omega) (by omega) (by omega) (hb.step e2 (by omega)) (by omega) (.inl (by omega)) (by omega) e3
        (by
          intro p q p1 p2 p3 p4
          rw [e2.out (by omega) (x := q) (by omega)]
          by_cases g : p < i + 1
          · obtain ⟨x, x1, x2, x3⟩ := e2.inn (by omega) p1 g
            rw [x3]; exact k2 x q x1 (by omega) (by omega) p4
          · rw [e2.out (by omega) (x := p) (by omega)]; exact k2 p q p1 p2 (by omega) p4)
      exact ⟨f, f1, (e2.mono (by omega) (by omega)).trans f2, f3⟩
    · rw [if_neg (by omega), chk_pos (by omega)]
      exact ⟨d, rfl, .refl, k1.sub (Nat.le_refl _) (by omega)⟩
theorem ins_all {K a b : Nat} (hc : Co c) (hK : 200 ≤ K) (d : List Int) (hl : d.length ≤ 64) (hbl : b ≤ d.length) (ha : a ≤ 64) (hb : Bd c d) (hx : XP (cst c) w 0 d.length d) :
    ∃ e, slices_insertionSortCmpFunc_int K d (a : Int) (b : Int) c = some e ∧ Sw a b d e ∧ So (cst c) w a b e := by
  unfold slices_insertionSortCmpFunc_int
  rw [wrap_p1 (by omega)]
  exact ins_outer hc hK d K (a + 1) d rfl hl hbl hb (by omega) (.inr rfl) (by omega) (fun i j _ _ _ => by omega) (fun p q p1 p2 p3 p4 => hx p q (by omega) p2 (by omega))
end Go.Fw
