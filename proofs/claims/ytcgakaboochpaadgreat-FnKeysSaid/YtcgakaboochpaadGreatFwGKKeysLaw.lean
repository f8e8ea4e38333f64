/- Clips have their keys at their times, repeat in a loop, are played pose by pose; thinned clips keep their ends. (A template.) -/
import Derived.Test.YtcgakaboochpaadGreatFwGKKeysBase
import Derived.Test.YtcgakaboochpaadGreatFwGKAngNum
namespace Go.Fw
open Go Go.Proofs

/-! No angle is below -1/2. -/
theorem num_of_fin {x : F32} (h : numD (Ieee.single.read x.bits) = true) : Num x := by
 cases e : Ieee.single.read x.bits with
 | number s m i => exact ⟨s, m, i, e⟩
 | infinity s => rw [e] at h; cases h
 | nan s t => rw [e] at h; cases h
theorem isfin' (K : Nat) (x : F32) : zjg K x = some (numD (Ieee.single.read x.bits)) := by
 unfold zjg
 rw [sub_self .f32 x _ rfl]; rfl
theorem root_impl (K : Nat) (x : F32) : zx6 K x = some (Fl.cv .f64 .f32 (Fl.cv .f32 .f64 x).sqrt) := by
 unfold zx6 zj5 zk7
 rw [zqf, zqf, zqq (zci x)]
theorem size_impl' (K : Nat) (x : F32) : zb0 K x = some x.abs32 := by
 unfold zb0 zb2
 rw [zqf, zqq (by rw [narrow_abs]; rfl), cv_abs]
theorem dl_small {z : F64} {n : Int} (hn : n ≤ 99) {s : Bool} {m : Nat} {p : Int} (e : Ieee.double.read z.bits = .number s m p) (h : m = 0 ∨ p + (m.log2 : Int) < n) : (val z).abs < p2 100 := by
 have e' : FloatKind.f64.format.read z.bits = .number s m p := e
 rw [zjp e', ← dv_false s]
 show (if false = true then (-1 : Rat) else 1) * ((m : Rat) * p2 p) < p2 100
 simp only [Bool.false_eq_true, if_false, Rat.one_mul]
 by_cases hm : m = 0
 ·rw [hm]; simp; exact zxm 100
 ·have h1 := (mag_bounds hm p).2
  have h2 := zdh (show p + (m.log2 : Int) + 1 ≤ 100 by have := h.resolve_left hm; omega)
  refine Rat.not_le.1 fun hc => ?_
  exact absurd h1 (Rat.not_lt.2 (Rat.le_trans h2 hc))
theorem root_in (x : F32) (h : Num (Fl.cv .f64 .f32 (Fl.cv .f32 .f64 x).sqrt)) : 0 ≤ val (Fl.cv .f64 .f32 (Fl.cv .f32 .f64 x).sqrt) := by
 have hnan : ∀ z : F64, nanB .f64 z.bits = true → Num (Fl.cv .f64 .f32 z) → False := by
  intro z hz hn
  obtain ⟨s, m, p, e⟩ := hn
  have e' : (Fl.cv .f64 .f32 z).bits = nanBits .f32 := by
   show (zqw .f64 z.bits .f32).getD 0 = _
   unfold zqw
   rw [hz]; rfl
  rw [e'] at e
  have : nanB .f32 (nanBits .f32) = false := by unfold nanB; show (FloatKind.f32.format.read _).isNaN = false; rw [e]; rfl
  rw [zjb] at this; cases this
 have key : ∀ z : F64, Sm z 66 → Ge0 z → Num (Fl.cv .f64 .f32 z) → 0 ≤ val (Fl.cv .f64 .f32 z) := by
  intro z h1 h2 hn
  rcases h1 with h1 | ⟨s, m, p, e, h1⟩
  ·exact absurd hn (hnan z h1)
  ·have hz : Num z := ⟨s, m, p, e⟩
   refine (narrow_val hz (dl_small (by omega) e h1)).2.2.2.1 ?_
   have e' : FloatKind.f64.format.read z.bits = .number s m p := e
   rw [zjp e']
   rcases h2 with h2 | ⟨m', p', h2⟩ | ⟨s', p', h2⟩ | h2
   ·exact (not_nan_of h2 e rfl).elim
   ·rw [e] at h2; cases h2
    show 0 ≤ (if false = true then (-1 : Rat) else 1) * ((m : Rat) * p2 p)
    simp only [Bool.false_eq_true, if_false, Rat.one_mul]
    exact Rat.mul_nonneg Rat.natCast_nonneg (Rat.le_of_lt (zxm p))
   ·rw [e] at h2; cases h2
    show 0 ≤ (if s = true then (-1 : Rat) else 1) * (((0 : Nat) : Rat) * p2 p)
    simp
   ·rw [e] at h2; cases h2
 rcases cv_read x with g | ⟨s, g⟩ | g
 ·have := Sm.sqrt (x := Fl.cv .f32 .f64 x) (a := 65) (.inl g) (by omega) (by omega)
  exact key _ (this.1.mono (by omega)) this.2 h
 ·-- infinite
  have e : (Fl.cv .f32 .f64 x).sqrt.bits = optF .f64 (FloatKind.f64.format.sqrt (Fl.cv .f32 .f64 x).bits) := rfl
  have e2 : FloatKind.f64.format.sqrt (Fl.cv .f32 .f64 x).bits = ((Ieee.double.read (Fl.cv .f32 .f64 x).bits).root (Ieee.double.fractionBits + 2)).map Ieee.double.write := rfl
  rw [g] at e2
  rw [e2] at e
  exfalso
  obtain ⟨t, m, p, hn⟩ := h
  have hb : (Fl.cv .f64 .f32 (Fl.cv .f32 .f64 x).sqrt).bits = (zqw .f64 (Fl.cv .f32 .f64 x).sqrt.bits .f32).getD 0 := rfl
  rw [hb, e] at hn
  cases s
  ·rw [show (zqw .f64 (optF .f64 (((Ieee.Datum.infinity false).root (Ieee.double.fractionBits + 2)).map Ieee.double.write)) .f32).getD 0 = 2139095040 by decide] at hn
   rw [show FloatKind.f32.format.read 2139095040 = .infinity false by decide] at hn
   cases hn
  ·rw [show (zqw .f64 (optF .f64 (((Ieee.Datum.infinity true).root (Ieee.double.fractionBits + 2)).map Ieee.double.write)) .f32).getD 0 = nanBits .f32 by decide] at hn
   have : nanB .f32 (nanBits .f32) = false := by unfold nanB; show (FloatKind.f32.format.read _).isNaN = false; rw [hn]; rfl
   rw [zjb] at this; cases this
 ·have := Sm.sqrt (x := Fl.cv .f32 .f64 x) (a := 65) (.inr (by obtain ⟨s, m, p, e, g⟩ := g; exact ⟨s, m, p, e, g.imp id fun g => by omega⟩)) (by omega) (by omega)
  exact key _ (this.1.mono (by omega)) this.2 h
/-- A number from 0 to 1, or none. -/
def Unt (v : F32) : Prop := isNo v = true ∨ (Num v ∧ 0 ≤ val v ∧ val v ≤ 1)
theorem nan_some' (K : Nat) : zc4 K = some (Fl.nan .f64) := by
 unfold zc4 zvs
 have : Fl.ofBits .f64 (9221120237041090561 : Int) = some (Fl.nan .f64) := by decide
 rw [this, zqf]
theorem z32 : Num (Fl.mk (k := .f32) 0 (by decide)) ∧ val (Fl.mk (k := .f32) 0 (by decide)) = 0 := zxq (s := false) (m := 0) (p := -149) (by decide) (by decide +kernel)
theorem angle_in {K : Nat} (hK : 16 < K) {y x : F32} (hy : Num y → 0 ≤ val y) (hx : Num x → 0 ≤ val x) : ∃ v, zva K y x = some v ∧ Unt v := by
 unfold zva
 rw [isfin', isfin', zqf, zqf]
 have hbad : ∀ {α : Type} (a : α), ((zvu K).bind fun v9 => some v9) = some (Fl.cv .f64 .f32 (Fl.nan .f64)) := by
  intro _ _
  unfold zvu
  rw [nan_some', zqf, zqq (by decide), zqf]
 have hnan : Unt (Fl.cv .f64 .f32 (Fl.nan .f64)) := .inl (by decide)
 cases f1 : numD (Ieee.single.read x.bits)
 ·simp only [Bool.not_false, zq6, zqf, hbad ()]
  exact ⟨_, rfl, hnan⟩
 ·cases f0 : numD (Ieee.single.read y.bits)
  ·simp only [Bool.not_true, Bool.not_false, zql, zq6, zqf, hbad ()]
   exact ⟨_, rfl, hnan⟩
  ·simp only [Bool.not_true, zql, zqf]
   have ny := num_of_fin f0
   have nx := num_of_fin f1
   have vy := hy ny
   have vx := hx nx
   by_cases hz : x.eq (Fl.mk (k := .f32) 0 (by decide)) = true ∧ y.eq (Fl.mk (k := .f32) 0 (by decide)) = true
   ·rw [hz.1, hz.2]
    simp only [zq6, zqf]
    exact ⟨_, rfl, .inr ⟨z32.1, by rw [z32.2]; exact Rat.le_refl, by rw [z32.2]; decide +kernel⟩⟩
   ·have hj : ite2 (x.eq (Fl.mk (k := .f32) 0 (by decide))) (some (y.eq (Fl.mk (k := .f32) 0 (by decide)))) (some false) = some false := by
     cases h1 : x.eq (Fl.mk (k := .f32) 0 (by decide))
     ·rfl
     ·cases h0 : y.eq (Fl.mk (k := .f32) 0 (by decide))
      ·rfl
      ·exact absurd ⟨h1, h0⟩ hz
    rw [hj, zqf, zql, wideAngle_eq hK, zqf]
    obtain ⟨wy1, wy2⟩ := widen_val ny
    obtain ⟨wx1, wx2⟩ := widen_val nx
    rw [eq_val nx z32.1, eq_val ny z32.1, z32.2] at hz
    obtain ⟨a, b, c⟩ := ang_in wy1 wx1 (by rw [wy2]; exact vy) (by rw [wx2]; exact vx) (by
     rw [wy2, wx2]
     by_cases h1 : val x = 0
     ·left
      have : val y ≠ 0 := fun h => hz ⟨h1, h⟩
      exact Rat.lt_of_le_of_ne vy (Ne.symm this)
     ·right; exact Rat.lt_of_le_of_ne vx (Ne.symm h1))
    obtain ⟨g1, g2, g3, g4, -⟩ := narrow64 a (by rw [Rat.abs_of_nonneg b]; grind)
    rw [zqq g1]
    refine ⟨_, rfl, .inr ⟨g2, g4 b, ?_⟩⟩
    unfold o32 at g3
    rw [Rat.abs_of_nonneg b] at g3
    obtain ⟨g5, g6⟩ := zwb g3
    grind
theorem two32 : Num (Fl.mk (k := .f32) 1073741824 (by decide)) ∧ val (Fl.mk (k := .f32) 1073741824 (by decide)) = 2 := zxq (s := false) (m := 8388608) (p := -22) (by decide) (by decide +kernel)
theorem m1_32 : Num (Fl.mk (k := .f32) 3212836864 (by decide)) ∧ val (Fl.mk (k := .f32) 3212836864 (by decide)) = -1 := zxq (s := true) (m := 8388608) (p := -23) (by decide) (by decide +kernel)
theorem mul_nan (x y : F32) (h : isNo y = true) : isNo (x.mul y) = true := by
 obtain ⟨s, t, e⟩ := zvj (k := .f32) h
 show nanB .f32 (optF .f32 (FloatKind.f32.format.mul x.bits y.bits)) = true
 have : FloatKind.f32.format.mul x.bits y.bits = none := by
  unfold Ieee.Format.mul
  rw [e, zku]; rfl
 rw [this]; exact zjb .f32
theorem abs32_pos (w : F32) (hn : Num w.abs32) : 0 ≤ val w.abs32 := by
 refine Rat.not_lt.1 fun hc => ?_
 obtain ⟨s, m, p, e⟩ := hn
 have hl : w.bits % 2147483648 < 2147483648 := Nat.mod_lt _ (by omega)
 -- the sign of a size
 have hq : ∃ m p, FloatKind.f32.format.read w.abs32.bits = .number false m p := by
  have hb : w.abs32.bits = zq2 .f32 (w.bits % 2147483648) := rfl
  have hnn : nanB .f32 (w.bits % 2147483648) = false := by
   rw [← zvh, ← hb]
   unfold nanB
   show (FloatKind.f32.format.read _).isNaN = false
   rw [e]; rfl
  rw [hb, zwh hnn] at e ⊢
  have e' : Ieee.single.read (w.bits % 2147483648) = .number s m p := e
  have hs : s = false := by
   unfold Ieee.Format.read at e'
   dsimp only at e'
   rw [show (w.bits % 2147483648 / Ieee.single.signWeight % 2 == 1) = false by rw [s_sw, Nat.div_eq_of_lt hl]; rfl] at e'
   split at e'
   ·cases e'; rfl
   ·split at e'
    ·cases e'; rfl
    ·split at e' <;> cases e'
  exact ⟨m, p, by rw [← hs]; exact e⟩
 obtain ⟨m', p', e2⟩ := hq
 rw [zjp e2] at hc
 have : dv (.number false m' p') = (m' : Rat) * p2 p' := by
  show (if false = true then (-1 : Rat) else 1) * ((m' : Rat) * p2 p') = _
  simp
 rw [this] at hc
 exact absurd (Rat.mul_nonneg Rat.natCast_nonneg (Rat.le_of_lt (zxm p'))) (Rat.not_le.2 hc)
theorem apart_neg {K : Nat} (hK : 16 < K) (a b : Turn) : ∃ v, zvd K a b = some v ∧ v.le (Fl.mk (k := .f32) 3212836864 (by decide)) = false := by
 unfold zvd zk4 zyg
 rw [zqf, zqf]
 unfold zys zv1 zbi zyv
 rw [zqf, zqf, root_impl, zqf, zqf, size_impl', zqf]
 obtain ⟨v, e, h⟩ := angle_in hK (root_in _) (abs32_pos _)
 rw [e, zqf, zqf]
 refine ⟨_, rfl, ?_⟩
 rcases h with h | ⟨h1, h2, h3⟩
 ·have hn := mul_nan (Fl.mk (k := .f32) 1073741824 (by decide)) v h
  generalize (Fl.mk (k := .f32) 1073741824 (by decide)).mul v = w at hn ⊢
  show (FloatKind.f32.format.order w.bits _ == some .lt || FloatKind.f32.format.order w.bits _ == some .eq) = false
  have := order_no (y := Fl.mk (k := .f32) 3212836864 (by decide)) hn
  rw [this]; rfl
 ·obtain ⟨g1, g2, g3, -⟩ := mul32 two32.1 h1 (by rw [two32.2, Rat.abs_of_nonneg (by grind)]; grind)
  rw [two32.2] at g3
  have g4 := g3 (by grind)
  rw [← Bool.not_eq_true, le_val g1 m1_32.1, m1_32.2]
  grind

/-! Thinned tracks. -/
theorem chn_append {L : Int} : ∀ (l : List Int) (last x : Int), chn L last l = true → l.getLastD last < x → x ≤ L → chn L last (l ++ [x]) = true := by
 intro l
 induction l with
 | nil => intro last x _ h1 h2; simp only [List.getLastD_nil] at h1; simp [chn, h1, h2]
 | cons a l ih =>
  intro last x h h1 h2
  rw [List.cons_append]
  simp only [chn, Bool.and_eq_true] at h ⊢
  rw [List.getLastD_cons] at h1
  exact ⟨h.1, ih a x h.2 h1 h2⟩
theorem chn_next {L : Int} : ∀ (l : List Int) (last : Int) (j : Nat), chn L last l = true → j + 1 < l.length → l.getD j default < l.getD (j + 1) default := by
 intro l
 induction l with
 | nil => intro last j _ h; simp at h
 | cons a l ih =>
  intro last j h hj
  simp only [chn, Bool.and_eq_true, decide_eq_true_eq] at h
  cases l with
  | nil => simp at hj
  | cons b l =>
   cases j with
   | zero =>
    have h2 := h.2
    simp only [chn, Bool.and_eq_true, decide_eq_true_eq] at h2
    exact h2.1.1
   | succ j => exact ih a j h.2 (by simpa using hj)
theorem chn_le {L : Int} : ∀ (l : List Int) (last : Int) (j : Nat), chn L last l = true → j < l.length → l.getD j default ≤ L := by
 intro l
 induction l with
 | nil => intro last j _ h; simp at h
 | cons a l ih =>
  intro last j h hj
  simp only [chn, Bool.and_eq_true, decide_eq_true_eq] at h
  cases j with
  | zero => exact h.1.2
  | succ j => exact ih a j h.2 (by simpa using hj)
theorem zdz {t : List Key} {i : Nat} (h : i < t.length) : (t.map Key.At).getD i default = (t.getD i default).At := by
 rw [List.getD_eq_getElem?_getD, List.getElem?_map, List.getElem?_eq_getElem h, zxu h]; rfl
theorem zcs {n i : Nat} (h : i < n) : (List.range n).getD i default = i := by
 rw [List.getD_eq_getElem?_getD, List.getElem?_range h]; rfl
theorem app_first {α : Type} [Inhabited α] {xs : List α} {x : α} (h : 1 ≤ xs.length) : (xs ++ [x]).getD 0 default = xs.getD 0 default := getD_left h
theorem app_last {α : Type} [Inhabited α] {xs : List α} {x : α} : (xs ++ [x]).getD ((xs ++ [x]).length - 1) default = x := getD_end (by simp)

theorem thin_loop {K : Nat} (hK : 1048577 < K) (a1 : F32) (L : Int) (t : List Key) (hc : chn L (-1) (t.map Key.At) = true) (hl : t.length ≤ 1000) :
  ∀ (k j : Nat) (xs : List Key), 1 ≤ xs.length → xs.length ≤ j → j ≤ t.length → t.length - j < k → chn L (-1) (xs.map Key.At) = true → (j < t.length → (xs.map Key.At).getLastD (-1) < (t.getD j default).At) →
   xs.getD 0 default = t.getD 0 default → (j = t.length → xs.getD (xs.length - 1) default = t.getD (t.length - 1) default) →
  ∃ r, zxh K t a1 k (j : Int) xs = some r ∧ 1 ≤ r.length ∧ r.length ≤ t.length ∧ chn L (-1) (r.map Key.At) = true ∧ r.getD 0 default = t.getD 0 default ∧ r.getD (r.length - 1) default = t.getD (t.length - 1) default := by
 intro k
 induction k with
 | zero => intro j xs _ _ _ h; omega
 | succ k ih =>
  intro j xs h1 h2 h3 hk hx hn hf hla
  have w1 : IntKind.i64.wrap ((xs.length : Int) - 1) = ((xs.length - 1 : Nat) : Int) := by rw [zxj (by omega) (by omega)]; omega
  have w2 : IntKind.i64.wrap ((j : Int) + 1) = ((j + 1 : Nat) : Int) := zwk (by omega)
  rw [zxh]
  simp only [Int.toNat_natCast, w1, w2]
  by_cases hj : j < t.length
  ·have hle := chn_le _ (-1) j hc (by rw [List.length_map]; exact hj)
   rw [zdz hj] at hle
   have hjx := hn hj
   have next : j + 1 < t.length → (t.getD j default).At < (t.getD (j + 1) default).At := fun h => by
    have := chn_next _ (-1) j hc (by rw [List.length_map]; exact h)
    rwa [zdz hj, zdz h] at this
   obtain ⟨r1, p2, p3⟩ := ih (j + 1) (xs ++ [t.getD j default]) (by simp) (by simp; omega) (by omega) (by omega)
    (by rw [List.map_append]; exact chn_append _ _ _ hx hjx hle) (fun h => by simpa using next h) (by rw [app_first h1]; exact hf) (fun h => by rw [app_last, show t.length - 1 = j by omega])
   have hcj : (j : Int) < (t.length : Int) := by omega
   by_cases hj2 : j + 1 < t.length
   ·obtain ⟨r2, q2, q3⟩ := ih (j + 1) xs h1 (by omega) (by omega) (by omega) hx (fun h => by have := next h; omega) hf (fun h => by omega)
    have hcj2 : ((j + 1 : Nat) : Int) < (t.length : Int) := by omega
    unfold zvn
    simp (disch := omega) only [zqv, if_pos hcj, if_pos hcj2, zqq, zqf]
    obtain ⟨nt, hnt⟩ := zd2 K ((xs.getD (xs.length - 1) default).Turn) ((t.getD (j + 1) default).Turn) ((Fl.ofInt .f32 (IntKind.i64.wrap ((t.getD j default).At - (xs.getD (xs.length - 1) default).At))).div (Fl.ofInt .f32 (IntKind.i64.wrap ((t.getD (j + 1) default).At - (xs.getD (xs.length - 1) default).At))))
    obtain ⟨v, hv, _⟩ := apart_neg (K := K) (by omega) (t.getD j default).Turn nt
    rw [hnt, zqf, hv, zqf]
    cases hb : v.le a1
    ·simp only [zql]
     rw [zqq (by simp only [List.length_singleton]; omega)]
     exact ⟨r1, p2, p3⟩
    ·simp only [zq6]
     exact ⟨r2, q2, q3⟩
   ·have hcj2 : ¬ (((j + 1 : Nat) : Int) < (t.length : Int)) := by omega
    simp (disch := omega) only [zqv, if_pos hcj, if_neg hcj2, zqq, zqf]
    rw [zqq (by simp only [List.length_singleton]; omega)]
    exact ⟨r1, p2, p3⟩
  ·have hcj : ¬ ((j : Int) < (t.length : Int)) := by omega
   simp only [zqv, if_neg hcj]
   exact ⟨xs, rfl, h1, by omega, hx, hf, hla (by omega)⟩
def zg9 : F32 := Fl.mk (k := .f32) 3212836864 (by decide)
theorem thin_keep {K : Nat} (hK : 1048577 < K) (t : List Key) (hl : t.length ≤ 1000) :
  ∀ (k j : Nat), 1 ≤ j → j ≤ t.length → t.length - j < k → zxh K t zg9 k (j : Int) (t.take j) = some t := by
 intro k
 induction k with
 | zero => intro j _ _ h; omega
 | succ k ih =>
  intro j h1 h3 hk
  have hlen : (t.take j).length = j := by rw [List.length_take]; omega
  have w1 : IntKind.i64.wrap (((t.take j).length : Int) - 1) = ((j - 1 : Nat) : Int) := by rw [hlen, zxj (by omega) (by omega)]; omega
  have w2 : IntKind.i64.wrap ((j : Int) + 1) = ((j + 1 : Nat) : Int) := zwk (by omega)
  rw [zxh]
  simp only [Int.toNat_natCast, w1, w2]
  by_cases hj : j < t.length
  ·have hcj : (j : Int) < (t.length : Int) := by omega
   have hst : t.take j ++ [t.getD j default] = t.take (j + 1) := by
    rw [zxu hj]; exact (List.take_append_getElem hj)
   have hi := ih (j + 1) (by omega) (by omega) (by omega)
   rw [← hst] at hi
   by_cases hj2 : j + 1 < t.length
   ·have hcj2 : ((j + 1 : Nat) : Int) < (t.length : Int) := by omega
    unfold zvn
    have hq : (0 : Int) ≤ ((j - 1 : Nat) : Int) ∧ ((j - 1 : Nat) : Int) < ((t.take j).length : Int) := by rw [hlen]; omega
    simp (disch := omega) only [zqv, if_pos hcj, if_pos hcj2, zqq, zqq hq, zqf]
    obtain ⟨nt, hnt⟩ := zd2 K (((t.take j).getD (j - 1) default).Turn) ((t.getD (j + 1) default).Turn) ((Fl.ofInt .f32 (IntKind.i64.wrap ((t.getD j default).At - ((t.take j).getD (j - 1) default).At))).div (Fl.ofInt .f32 (IntKind.i64.wrap ((t.getD (j + 1) default).At - ((t.take j).getD (j - 1) default).At))))
    obtain ⟨v, hv, hn⟩ := apart_neg (K := K) (by omega) (t.getD j default).Turn nt
    rw [hnt, zqf, hv, zqf, show v.le zg9 = false from hn, zql, zqq (by rw [hlen, List.length_singleton]; omega)]
    exact hi
   ·have hcj2 : ¬ (((j + 1 : Nat) : Int) < (t.length : Int)) := by omega
    have hq : (0 : Int) ≤ ((j - 1 : Nat) : Int) ∧ ((j - 1 : Nat) : Int) < ((t.take j).length : Int) := by rw [hlen]; omega
    simp (disch := omega) only [zqv, if_pos hcj, if_neg hcj2, zqq, zqq hq, zqf]
    rw [zqq (by rw [hlen, List.length_singleton]; omega)]
    exact hi
  ·have hcj : ¬ ((j : Int) < (t.length : Int)) := by omega
   simp only [zqv, if_neg hcj]
   rw [List.take_of_length_le (by omega)]
/-- What a thinned clip is, for thinned tracks. -/
def thinC (f : List Key → List Key) (c : Clip) : Clip := Clip.mk c.Length c.Kind ((List.range c.Tracks.length).map fun i => f (c.Tracks.getD i default)) c.Roots
theorem thin_clip {K : Nat} (hK : 1048577 < K) {c : Clip} (hr : Rc c) (a1 : F32) (f : List Key → List Key) (hf : ∀ t, vt c.Length (t.map Key.At) = true → zvy K t a1 = some (f t) ∧ vt c.Length ((f t).map Key.At) = true) :
  zj3 K c a1 = some (thinC f c, true) := by
 have hr2 : Rc (thinC f c) := by
  refine ⟨hr.len, hr.kind, ?_, fun t ht => ?_, hr.roots⟩
  ·show 1 ≤ (List.map _ _).length ∧ (List.map _ _).length ≤ 12
   rw [List.length_map, List.length_range]; exact hr.tracks
  ·obtain ⟨i, hi, rfl⟩ := List.mem_map.1 ht
   exact (hf _ (hr.keys _ (zji (List.mem_range.1 hi)))).2
 have htl := hr.tracks
 have hrl := zkm hr.roots
 rw [List.length_map] at hrl
 unfold zj3
 rw [zvf hK hr.okc, validC_spec.2 hr, zqf, Bool.not_true, zql]
 have hch : zjt K c c.Length a1 = some (thinC f c, true) := by
  unfold zjt zkf zwl
  rw [zqq (by simp only [List.length_nil]; omega), List.nil_append, zqf, zqf]
  refine map_loop (List.range c.Tracks.length) (fun i => f (c.Tracks.getD i default)) _ (zwm K c c.Length a1 c.Roots) (fun k i hi => ?_) (fun k i xs hi hx => ?_) K (by rw [List.length_range]; omega)
  ·rw [List.length_range] at hi
   rw [zwm, zqv, if_neg (by omega)]
   rw [show zj8 K (Clip.mk c.Length c.Kind ((List.range c.Tracks.length).map fun i => f (c.Tracks.getD i default)) c.Roots) = _ from validClip_eq hK hr2.okc, zqf]
   rw [show Clip.mk c.Length c.Kind ((List.range c.Tracks.length).map fun i => f (c.Tracks.getD i default)) c.Roots = thinC f c from rfl, if_pos (validC_spec.2 hr2)]
  ·rw [List.length_range] at hi
   rw [zwm, zqv, if_pos (by omega), zqq (by omega)]
   unfold zki
   simp only [Int.toNat_natCast]
   rw [(hf _ (hr.keys _ (zji hi))).1, zqf, zqf, zqq (by simp only [List.length_singleton]; omega), zwk (by omega), zcs hi]
 rw [hch, zqf]
def thinT (K : Nat) (a1 : F32) (t : List Key) : List Key := (zvy K t a1).getD []
theorem zfl {K : Nat} (hK : 1048577 < K) (a1 : F32) {L : Int} {t : List Key} (hv : vt L (t.map Key.At) = true) :
  zvy K t a1 = some (thinT K a1 t) ∧ vt L ((thinT K a1 t).map Key.At) = true ∧ 1 ≤ (thinT K a1 t).length ∧ (thinT K a1 t).length ≤ t.length ∧ (thinT K a1 t).getD 0 default = t.getD 0 default ∧ (thinT K a1 t).getD ((thinT K a1 t).length - 1) default = t.getD (t.length - 1) default := by
 have hl := zkm hv
 rw [List.length_map] at hl
 unfold vt at hv
 rw [Bool.and_eq_true] at hv
 have hc := hv.1
 obtain ⟨r, p2, p3, p4, p5, p6, p7⟩ := thin_loop hK a1 L t hc (by omega) K 1 [t.getD 0 default] (by simp) (by simp) hl.1 (by omega)
  (by
   cases t with
   | nil => simp at hl
   | cons a t =>
    simp only [List.map_cons, chn, Bool.and_eq_true] at hc
    simp only [List.getD_cons_zero, List.map_cons, List.map_nil, chn, Bool.and_true, Bool.and_eq_true]
    exact hc.1)
  (fun h => by
   have := chn_next _ (-1) 0 hc (by rw [List.length_map]; exact h)
   rw [zdz (by omega), zdz h] at this
   simpa using this)
  rfl (fun h => by rw [← h]; rfl)
 have e : zvy K t a1 = some r := by
  unfold zvy
  rw [zqq (by omega)]
  exact p2
 have e2 : thinT K a1 t = r := by unfold thinT; rw [e]; rfl
 rw [e2]
 refine ⟨e, ?_, p3, p4, p6, p7⟩
 unfold vt vtE
 rw [List.length_map, p5, Bool.true_and, Bool.and_eq_true, decide_eq_true_eq, decide_eq_true_eq]
 omega
theorem thin_same {K : Nat} (hK : 1048577 < K) {L : Int} {t : List Key} (hv : vt L (t.map Key.At) = true) : zvy K t zg9 = some t := by
 have hl := zkm hv
 rw [List.length_map] at hl
 unfold zvy
 rw [zqq (by omega)]
 have := thin_keep hK t (by omega) K 1 (Nat.le_refl _) hl.1 (by omega)
 have e : t.take 1 = [t.getD ((0 : Int).toNat) default] := by
  cases t with
  | nil => simp at hl
  | cons a t => simp
 rw [e] at this
 exact this
end Go.Fw
