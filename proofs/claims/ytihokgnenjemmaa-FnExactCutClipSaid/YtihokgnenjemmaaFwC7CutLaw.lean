/- The law of CutClip, in plain Lean: a part of a clip. -/
import Derived.Test.YtihokgnenjemmaaFwC7CLaw2
import Derived.Test.YtihokgnenjemmaaFwFB
namespace Go.Fw
open Go

theorem sqrt_impl (K : Nat) (x : F32) : impl_RootNumber K x = some (Fl.cv .f64 .f32 (Fl.cv .f32 .f64 x).sqrt) := by
  unfold impl_RootNumber math_Sqrt math_sqrt
  simp only [bind_of, chk_pos (narrow_root x)]
theorem sqrt_spec (K : Nat) (x : F32) : spec_l01Sqrt K x = some (Fl.cv .f64 .f32 (Fl.cv .f32 .f64 x).sqrt) := by
  unfold spec_l01Sqrt math_Sqrt math_sqrt spec_l01Narrow
  simp only [bind_of, chk_pos (narrow_root x)]
theorem ne_eq' {k : FloatKind} (x y : Fl k) : x.ne y = !x.eq y := rfl
def innF (a b : Turn) : F32 := (((a.W.mul b.W).add (a.X.mul b.X)).add (a.Y.mul b.Y)).add (a.Z.mul b.Z)
def lenF (a : Turn) : F32 := Fl.cv .f64 .f32 (Fl.cv .f32 .f64 (innF a a)).sqrt
def mendF (a : Turn) : Turn := if ((lenF a).eq (Fl.mk (k := .f32) 0 (by decide)) || !(((lenF a).sub (lenF a)).eq (Fl.mk (k := .f32) 0 (by decide)))) = true then Turn.mk (Fl.mk (k := .f32) 1065353216 (by decide)) default default default else Turn.mk (a.W.div (lenF a)) (a.X.div (lenF a)) (a.Y.div (lenF a)) (a.Z.div (lenF a))
theorem mend_spec (K : Nat) (a : Turn) : spec_l02Mend K a = some (mendF a) := by
  unfold spec_l02Mend spec_l02Inner spec_l01Finite spec_l02No
  simp only [bind_of, sqrt_spec, ite2_or]
  unfold mendF lenF innF
  cases (((Fl.cv .f64 .f32 (Fl.cv .f32 .f64 ((((a.W.mul a.W).add (a.X.mul a.X)).add (a.Y.mul a.Y)).add (a.Z.mul a.Z))).sqrt)).eq (Fl.mk (k := .f32) 0 (by decide)) || !((((Fl.cv .f64 .f32 (Fl.cv .f32 .f64 ((((a.W.mul a.W).add (a.X.mul a.X)).add (a.Y.mul a.Y)).add (a.Z.mul a.Z))).sqrt)).sub (Fl.cv .f64 .f32 (Fl.cv .f32 .f64 ((((a.W.mul a.W).add (a.X.mul a.X)).add (a.Y.mul a.Y)).add (a.Z.mul a.Z))).sqrt)).eq (Fl.mk (k := .f32) 0 (by decide)))) <;> rfl
theorem mend_impl (K : Nat) (a : Turn) : impl_MendTurn K a = some (mendF a) := by
  rw [← mend_spec K a]
  unfold impl_MendTurn impl_LengthOfTurn impl_InnerOfTurns impl_isLength impl_IsFinite impl_NoTurn spec_l02Mend spec_l02Inner spec_l01Finite spec_l02No
  simp only [bind_of, sqrt_spec, sqrt_impl, ite2_or, ite2_and, ne_eq']
  generalize (Fl.cv .f64 .f32 (Fl.cv .f32 .f64 ((((a.W.mul a.W).add (a.X.mul a.X)).add (a.Y.mul a.Y)).add (a.Z.mul a.Z))).sqrt) = n
  cases n.eq (Fl.mk (k := .f32) 0 (by decide)) <;> cases (n.sub n).eq (Fl.mk (k := .f32) 0 (by decide)) <;> rfl
def oppF (t : Turn) : Turn := Turn.mk t.W.neg t.X.neg t.Y.neg t.Z.neg
def stepF (a b s : F32) : F32 := a.add (s.mul (b.sub a))
def stepsF (a b : Turn) (s : F32) : Turn := mendF (Turn.mk (stepF a.W b.W s) (stepF a.X b.X s) (stepF a.Y b.Y s) (stepF a.Z b.Z s))
def nearT (a b : Turn) (s : F32) : Turn := if (innF a b).lt' (Fl.mk (k := .f32) 0 (by decide)) = true then stepsF a (oppF b) s else stepsF a b s
theorem near_spec (K : Nat) (a b : Turn) (s : F32) : spec_l02Near K a b s = some (nearT a b s) := by
  unfold spec_l02Near spec_l02Inner spec_l02Opposite spec_l02Step
  simp only [bind_of, mend_spec]
  unfold nearT innF
  cases ((((a.W.mul b.W).add (a.X.mul b.X)).add (a.Y.mul b.Y)).add (a.Z.mul b.Z)).lt' (Fl.mk (k := .f32) 0 (by decide)) <;> rfl
theorem near_impl (K : Nat) (a b : Turn) (s : F32) : impl_NearTurn K a b s = some (nearT a b s) := by
  unfold impl_NearTurn impl_InnerOfTurns impl_Turn_opposite impl_between
  simp only [bind_of, mend_impl]
  unfold nearT innF
  cases ((((a.W.mul b.W).add (a.X.mul b.X)).add (a.Y.mul b.Y)).add (a.Z.mul b.Z)).lt' (Fl.mk (k := .f32) 0 (by decide)) <;> rfl
def nearP (a b : Vector) (s : F32) : Vector := Vector.mk (a.X.add ((b.X.sub a.X).mul s)) (a.Y.add ((b.Y.sub a.Y).mul s)) (a.Z.add ((b.Z.sub a.Z).mul s))
theorem nearp_spec (K : Nat) (a b : Vector) (s : F32) : spec_l01Between K a b s = some (nearP a b s) := rfl
theorem nearp_impl (K : Nat) (a b : Vector) (s : F32) : impl_BetweenVectors K a b s = some (nearP a b s) := rfl

/-- How many times are not later. -/
def fi (at_ : Int) : List Int → Nat
  | [] => 0
  | t :: l => if t ≤ at_ then fi at_ l + 1 else 0
theorem fi_le (x : Int) : ∀ l, fi x l ≤ l.length := by
  intro l
  induction l with
  | nil => exact Nat.le_refl _
  | cons t l ih =>
    unfold fi
    split
    · simp only [List.length_cons]; omega
    · exact Nat.zero_le _
theorem fi_lt (x : Int) : ∀ (l : List Int) (i : Nat), i < fi x l → l.getD i default ≤ x := by
  intro l
  induction l with
  | nil => intro i h; simp [fi] at h
  | cons t l ih =>
    intro i h
    unfold fi at h
    split at h
    · cases i with
      | zero => simpa using (by assumption)
      | succ i => rw [List.getD_cons_succ]; exact ih i (by omega)
    · omega
theorem fi_gt (x : Int) : ∀ (l : List Int), fi x l < l.length → x < l.getD (fi x l) default := by
  intro l
  induction l with
  | nil => intro h; simp at h
  | cons t l ih =>
    intro h
    unfold fi at h ⊢
    split
    · rename_i ht
      rw [if_pos ht, List.length_cons] at h
      rw [List.getD_cons_succ]
      exact ih (by omega)
    · rename_i ht
      simpa using ht
theorem chn_two {L last : Int} : ∀ {l : List Int}, chn L last l = true → 1 < l.length → l.getD 0 default < l.getD 1 default := by
  intro l h hl
  match l, h, hl with
  | a :: b :: l, h, _ =>
    simp only [chn, Bool.and_eq_true, decide_eq_true_eq] at h
    simpa using h.2.1.1
def shareF (kind p x q : Int) : F32 :=
  let f := (Fl.ofInt .f32 (IntKind.i64.wrap (x - p))).div (Fl.ofInt .f32 (IntKind.i64.wrap (q - p)))
  if kind = 2 then (f.mul f).mul ((Fl.mk (k := .f32) 1077936128 (by decide)).sub ((Fl.mk (k := .f32) 1073741824 (by decide)).mul f)) else f

theorem KgetD {t : List Key} {i : Nat} (h : i < t.length) : (t.map Key.At).getD i default = (t.getD i default).At := by
  rw [List.getD_eq_getElem?_getD, List.getElem?_map, List.getElem?_eq_getElem h, getD_of_lt h]; rfl
def smpK (t : List Key) (kind x : Int) : Turn :=
  let j := fi x (t.map Key.At)
  if j = 0 then (t.getD 0 default).Turn else if j = t.length ∨ (t.getD (j - 1) default).At = x ∨ kind = 0 then (t.getD (j - 1) default).Turn
  else nearT (t.getD (j - 1) default).Turn (t.getD j default).Turn (shareF kind (t.getD (j - 1) default).At x (t.getD j default).At)
theorem Kimpl {K : Nat} (t : List Key) (kind x : Int) (h1 : 1 ≤ t.length) (h2 : t.length ≤ 1048576) (hK : t.length < K) : impl_track_impl_Key_sample K t kind x = some (Key.mk x (smpK t kind x)) := by
  have hj := fi_le x (t.map Key.At)
  rw [List.length_map] at hj
  have hlt : ∀ i, i < fi x (t.map Key.At) → (t.getD i default).At ≤ x := fun i hi => by
    have := fi_lt x (t.map Key.At) i hi
    rwa [KgetD (by omega)] at this
  have hgt : fi x (t.map Key.At) < t.length → x < (t.getD (fi x (t.map Key.At)) default).At := fun h => by
    have := fi_gt x (t.map Key.At) (by rw [List.length_map]; exact h)
    rwa [KgetD h] at this
  unfold smpK
  generalize fi x (t.map Key.At) = j at hj hlt hgt ⊢
  unfold impl_track_impl_Key_sample
  have loop : ∀ (k i : Nat), i ≤ j → j - i < k → impl_track_impl_Key_sample_l1 K t kind x k (i : Int) = some (Key.mk x (if j = 0 then (t.getD 0 default).Turn else if j = t.length ∨ (t.getD (j - 1) default).At = x ∨ kind = 0 then (t.getD (j - 1) default).Turn
      else nearT (t.getD (j - 1) default).Turn (t.getD j default).Turn (shareF kind (t.getD (j - 1) default).At x (t.getD j default).At))) := by
    intro k
    induction k with
    | zero => intro i _ h; omega
    | succ k ih =>
      intro i hi hk
      rw [impl_track_impl_Key_sample_l1]
      unfold impl_turnTrack_1 impl_turnTrack_2 impl_turnTrack_3 impl_share
      by_cases h : i < j
      · have hc : (i : Int) < (t.length : Int) := by omega
        have := hlt i h
        simp (disch := omega) only [ite2_dec, if_pos hc, chk_pos, Int.toNat_natCast, bind_of, decide_eq_true this, ite2_true, wrap_nat1]
        exact ih (i + 1) h (by omega)
      · have e : i = j := by omega
        subst e
        have hstop : (ite2 (decide ((i : Int) < (t.length : Int))) (chk (0 ≤ (i : Int) ∧ (i : Int) < (t.length : Int)) ((some (t.getD (i : Int).toNat default).At).bind fun v5 => some (decide (v5 ≤ x)))) (some false)) = some false := by
          rw [ite2_dec]
          by_cases hn : i < t.length
          · have := hgt hn
            rw [if_pos (by omega), chk_pos (by omega), bind_of, Int.toNat_natCast, decide_eq_false (by omega)]
          · rw [if_neg (by omega)]
        rw [hstop, bind_of, ite2_false]
        by_cases hz : i = 0
        · subst hz
          rw [if_pos rfl, show (((0 : Nat) : Int) == 0) = true from rfl, ite2_true, chk_pos (by omega)]
          rfl
        · have hz1 : ((i : Int) == 0) = false := by rw [beq_eq_false_iff_ne]; omega
          have w : IntKind.i64.wrap ((i : Int) - 1) = ((i - 1 : Nat) : Int) := by rw [wrap_in (by omega) (by omega)]; omega
          have hq : (ite2 ((i : Int) == (t.length : Int)) (some true) (chk (0 ≤ ((i - 1 : Nat) : Int) ∧ ((i - 1 : Nat) : Int) < (t.length : Int)) ((some (t.getD ((i - 1 : Nat) : Int).toNat default).At).bind fun v16 => ite2 (v16 == x) (some true) (some (kind == 0))))) = some (decide (i = t.length ∨ (t.getD (i - 1) default).At = x ∨ kind = 0)) := by
            rw [chk_pos (by omega), bind_of, ite2_or, ite2_or, Int.toNat_natCast]
            congr 1
            rw [Bool.eq_iff_iff]
            simp only [Bool.or_eq_true, beq_iff_eq, decide_eq_true_eq]
            omega
          simp only [hz1, ite2_false, w, if_neg hz]
          rw [hq, bind_of, ite2_dec]
          by_cases hb : i = t.length ∨ (t.getD (i - 1) default).At = x ∨ kind = 0
          · rw [if_pos hb, if_pos hb, chk_pos (by omega)]
            rw [bind_of, Int.toNat_natCast]
          · have hn : i < t.length := by
              rcases Nat.lt_or_ge i t.length with g | g
              · exact g
              · exact absurd (.inl (by omega)) hb
            rw [if_neg hb, if_neg hb, chk_pos (by omega), chk_pos (by omega)]
            simp only [bind_of, Int.toNat_natCast, near_impl]
            unfold shareF
            by_cases h2 : kind = 2
            · rw [h2]; rfl
            · have : (kind == 2) = false := by rw [beq_eq_false_iff_ne]; exact h2
              rw [this, ite2_false, if_neg h2]
  exact loop K 0 (by omega) (by omega)
theorem Kspec {K : Nat} (t : List Key) (kind x L : Int) (ht : chn L (-1) (t.map Key.At) = true) (h1 : 1 ≤ t.length) (h2 : t.length ≤ 1048576) (hK : t.length < K) : spec_l05Turn K t x kind = some (smpK t kind x) := by
  have hj := fi_le x (t.map Key.At)
  rw [List.length_map] at hj
  have hlt : ∀ i, i < fi x (t.map Key.At) → (t.getD i default).At ≤ x := fun i hi => by
    have := fi_lt x (t.map Key.At) i hi
    rwa [KgetD (by omega)] at this
  have hgt : fi x (t.map Key.At) < t.length → x < (t.getD (fi x (t.map Key.At)) default).At := fun h => by
    have := fi_gt x (t.map Key.At) (by rw [List.length_map]; exact h)
    rwa [KgetD h] at this
  have htwo : 1 < t.length → (t.getD 0 default).At < (t.getD 1 default).At := fun h => by
    have := chn_two ht (by rw [List.length_map]; exact h)
    rwa [KgetD (by omega), KgetD h] at this
  unfold smpK
  generalize fi x (t.map Key.At) = j at hj hlt hgt ⊢
  unfold spec_l05Turn spec_l05Find
  rw [l05At_eq h2 hK, bind_of]
  have hlen : (t.map Key.At).length = t.length := List.length_map _
  obtain ⟨g, hg⟩ : ∃ g, g = (if j = 0 then 0 else j - 1) := ⟨_, rfl⟩
  have hgl : g < t.length := by
    rw [hg]; split <;> omega
  have loop : ∀ (k i : Nat), i ≤ g → g - i < k → spec_l05Find_l1 K (t.map Key.At) x kind k (i : Int) = some ((g : Int), if g + 1 = t.length ∨ x ≤ (t.getD g default).At ∨ kind = 0 then Fl.mk (k := .f32) 0 (by decide) else shareF kind (t.getD g default).At x (t.getD (g + 1) default).At) := by
    intro k
    induction k with
    | zero => intro i _ h; omega
    | succ k ih =>
      intro i hi hk
      have w : IntKind.i64.wrap ((i : Int) + 1) = ((i + 1 : Nat) : Int) := wrap_nat1 (by omega)
      rw [spec_l05Find_l1]
      simp only [w, hlen, ite2_dec, Int.toNat_natCast]
      by_cases h : i < g
      · have hjz : j ≠ 0 := fun e => by rw [hg, if_pos e] at h; omega
        have h0 := h
        rw [hg, if_neg hjz] at h
        have := hlt (i + 1) (by omega)
        rw [if_pos (by omega), chk_pos (by omega), KgetD (by omega), decide_eq_true this, bind_of, ite2_true]
        exact ih (i + 1) (by omega) (by omega)
      · have e : i = g := by omega
        subst e
        have hstop : (if ((i + 1 : Nat) : Int) < (t.length : Int) then chk (0 ≤ ((i + 1 : Nat) : Int) ∧ ((i + 1 : Nat) : Int) < (t.length : Int)) (some (decide ((t.map Key.At).getD (i + 1) default ≤ x))) else some false) = some false := by
          by_cases hn : i + 1 < t.length
          · have hx : x < (t.getD (i + 1) default).At := by
              by_cases hjz : j = 0
              · rw [if_pos hjz] at hg
                have a1 := hgt (by omega)
                rw [hjz] at a1
                have a2 := htwo (by omega)
                have e1 : i + 1 = 1 := by omega
                rw [e1]
                omega
              · rw [if_neg hjz] at hg
                have a1 := hgt (by omega)
                rw [show i + 1 = j by omega]
                exact a1
            rw [if_pos (by omega), chk_pos (by omega), KgetD hn, decide_eq_false (by omega)]
          · rw [if_neg (by omega)]
        rw [hstop, bind_of, ite2_false]
        have hq : (ite2 (((i + 1 : Nat) : Int) == (t.length : Int)) (some true) (chk (0 ≤ (i : Int) ∧ (i : Int) < (t.length : Int)) (if x ≤ (t.map Key.At).getD i default then some true else some (kind == 0)))) = some (decide (i + 1 = t.length ∨ x ≤ (t.getD i default).At ∨ kind = 0)) := by
          rw [chk_pos (by omega), KgetD hgl]
          have : (if x ≤ (t.getD i default).At then some true else some (kind == 0)) = some (decide (x ≤ (t.getD i default).At) || (kind == 0)) := by
            split
            · rename_i hh; rw [decide_eq_true hh]; rfl
            · rename_i hh; rw [decide_eq_false hh]; rfl
          rw [this, ite2_or]
          congr 1
          rw [Bool.eq_iff_iff]
          simp only [Bool.or_eq_true, beq_iff_eq, decide_eq_true_eq]
          omega
        rw [hq, bind_of, ite2_dec]
        by_cases hb : i + 1 = t.length ∨ x ≤ (t.getD i default).At ∨ kind = 0
        · rw [if_pos hb, if_pos hb]
        · have hn : i + 1 < t.length := by
            rcases Nat.lt_or_ge (i + 1) t.length with g2 | g2
            · exact g2
            · exact absurd (.inl (by omega)) hb
          rw [if_neg hb, if_neg hb, chk_pos (by omega), chk_pos (by omega), KgetD hgl, KgetD hn]
          unfold shareF
          by_cases h2 : kind = 2
          · rw [h2]; rfl
          · have : (kind == 2) = false := by rw [beq_eq_false_iff_ne]; exact h2
            rw [this, ite2_false, if_neg h2]
  rw [show spec_l05Find_l1 K (t.map Key.At) x kind K (0 : Int) = _ from loop K 0 (by omega) (by omega), bind_of]
  unfold spec_l05Inside
  have w : IntKind.i64.wrap ((g : Int) + 1) = ((g + 1 : Nat) : Int) := wrap_nat1 (by omega)
  have hins : (ite2 (kind != 0) (ite2 (decide (((g + 1 : Nat) : Int) < (t.length : Int))) (chk (0 ≤ (g : Int) ∧ (g : Int) < (t.length : Int)) (some (decide (x > (t.getD g default).At)))) (some false)) (some false)) = some (decide (¬ (g + 1 = t.length ∨ x ≤ (t.getD g default).At ∨ kind = 0))) := by
    rw [chk_pos (by omega), ite2_and, ite2_and]
    congr 1
    rw [Bool.eq_iff_iff]
    simp only [Bool.and_eq_true, bne_iff_ne, decide_eq_true_eq]
    omega
  simp only [w, hlen, Int.toNat_natCast, KgetD hgl]
  rw [hins, bind_of, bind_of, ite2_dec]
  by_cases hb : g + 1 = t.length ∨ x ≤ (t.getD g default).At ∨ kind = 0
  · rw [if_neg (not_not_intro hb), chk_pos (by omega)]
    by_cases hjz : j = 0
    · rw [if_pos hjz]
      rw [if_pos hjz] at hg
      rw [hg]
    · rw [if_neg hjz]
      rw [if_neg hjz] at hg
      have a1 := hlt (j - 1) (by omega)
      have hb' : j = t.length ∨ (t.getD (j - 1) default).At = x ∨ kind = 0 := by
        rw [hg] at hb
        omega
      rw [if_pos hb', hg]
  · have hn : g + 1 < t.length := by
      rcases Nat.lt_or_ge (g + 1) t.length with g2 | g2
      · exact g2
      · exact absurd (.inl (by omega)) hb
    rw [if_pos hb, chk_pos (by omega), chk_pos (by omega), if_neg hb]
    have hjz : j ≠ 0 := fun e => by
      rw [if_pos e] at hg
      have a1 := hgt (by omega)
      rw [e] at a1
      rw [hg] at hb
      omega
    rw [if_neg hjz] at hg
    have hb' : ¬ (j = t.length ∨ (t.getD (j - 1) default).At = x ∨ kind = 0) := by
      rw [hg] at hb
      omega
    rw [if_neg hjz, if_neg hb', near_spec, bind_of, hg, show j - 1 + 1 = j by omega]

theorem RgetD {t : List RootKey} {i : Nat} (h : i < t.length) : (t.map RootKey.At).getD i default = (t.getD i default).At := by
  rw [List.getD_eq_getElem?_getD, List.getElem?_map, List.getElem?_eq_getElem h, getD_of_lt h]; rfl
def smpR (t : List RootKey) (kind x : Int) : Vector :=
  let j := fi x (t.map RootKey.At)
  if j = 0 then (t.getD 0 default).Place else if j = t.length ∨ (t.getD (j - 1) default).At = x ∨ kind = 0 then (t.getD (j - 1) default).Place
  else nearP (t.getD (j - 1) default).Place (t.getD j default).Place (shareF kind (t.getD (j - 1) default).At x (t.getD j default).At)
theorem Rimpl {K : Nat} (t : List RootKey) (kind x : Int) (h1 : 1 ≤ t.length) (h2 : t.length ≤ 1048576) (hK : t.length < K) : impl_track_impl_RootKey_sample K t kind x = some (RootKey.mk x (smpR t kind x)) := by
  have hj := fi_le x (t.map RootKey.At)
  rw [List.length_map] at hj
  have hlt : ∀ i, i < fi x (t.map RootKey.At) → (t.getD i default).At ≤ x := fun i hi => by
    have := fi_lt x (t.map RootKey.At) i hi
    rwa [RgetD (by omega)] at this
  have hgt : fi x (t.map RootKey.At) < t.length → x < (t.getD (fi x (t.map RootKey.At)) default).At := fun h => by
    have := fi_gt x (t.map RootKey.At) (by rw [List.length_map]; exact h)
    rwa [RgetD h] at this
  unfold smpR
  generalize fi x (t.map RootKey.At) = j at hj hlt hgt ⊢
  unfold impl_track_impl_RootKey_sample
  have loop : ∀ (k i : Nat), i ≤ j → j - i < k → impl_track_impl_RootKey_sample_l1 K t kind x k (i : Int) = some (RootKey.mk x (if j = 0 then (t.getD 0 default).Place else if j = t.length ∨ (t.getD (j - 1) default).At = x ∨ kind = 0 then (t.getD (j - 1) default).Place
      else nearP (t.getD (j - 1) default).Place (t.getD j default).Place (shareF kind (t.getD (j - 1) default).At x (t.getD j default).At))) := by
    intro k
    induction k with
    | zero => intro i _ h; omega
    | succ k ih =>
      intro i hi hk
      rw [impl_track_impl_RootKey_sample_l1]
      unfold impl_rootTrack_1 impl_rootTrack_2 impl_rootTrack_3 impl_share
      by_cases h : i < j
      · have hc : (i : Int) < (t.length : Int) := by omega
        have := hlt i h
        simp (disch := omega) only [ite2_dec, if_pos hc, chk_pos, Int.toNat_natCast, bind_of, decide_eq_true this, ite2_true, wrap_nat1]
        exact ih (i + 1) h (by omega)
      · have e : i = j := by omega
        subst e
        have hstop : (ite2 (decide ((i : Int) < (t.length : Int))) (chk (0 ≤ (i : Int) ∧ (i : Int) < (t.length : Int)) ((some (t.getD (i : Int).toNat default).At).bind fun v5 => some (decide (v5 ≤ x)))) (some false)) = some false := by
          rw [ite2_dec]
          by_cases hn : i < t.length
          · have := hgt hn
            rw [if_pos (by omega), chk_pos (by omega), bind_of, Int.toNat_natCast, decide_eq_false (by omega)]
          · rw [if_neg (by omega)]
        rw [hstop, bind_of, ite2_false]
        by_cases hz : i = 0
        · subst hz
          rw [if_pos rfl, show (((0 : Nat) : Int) == 0) = true from rfl, ite2_true, chk_pos (by omega)]
          rfl
        · have hz1 : ((i : Int) == 0) = false := by rw [beq_eq_false_iff_ne]; omega
          have w : IntKind.i64.wrap ((i : Int) - 1) = ((i - 1 : Nat) : Int) := by rw [wrap_in (by omega) (by omega)]; omega
          have hq : (ite2 ((i : Int) == (t.length : Int)) (some true) (chk (0 ≤ ((i - 1 : Nat) : Int) ∧ ((i - 1 : Nat) : Int) < (t.length : Int)) ((some (t.getD ((i - 1 : Nat) : Int).toNat default).At).bind fun v16 => ite2 (v16 == x) (some true) (some (kind == 0))))) = some (decide (i = t.length ∨ (t.getD (i - 1) default).At = x ∨ kind = 0)) := by
            rw [chk_pos (by omega), bind_of, ite2_or, ite2_or, Int.toNat_natCast]
            congr 1
            rw [Bool.eq_iff_iff]
            simp only [Bool.or_eq_true, beq_iff_eq, decide_eq_true_eq]
            omega
          simp only [hz1, ite2_false, w, if_neg hz]
          rw [hq, bind_of, ite2_dec]
          by_cases hb : i = t.length ∨ (t.getD (i - 1) default).At = x ∨ kind = 0
          · rw [if_pos hb, if_pos hb, chk_pos (by omega)]
            rw [bind_of, Int.toNat_natCast]
          · have hn : i < t.length := by
              rcases Nat.lt_or_ge i t.length with g | g
              · exact g
              · exact absurd (.inl (by omega)) hb
            rw [if_neg hb, if_neg hb, chk_pos (by omega), chk_pos (by omega)]
            simp only [bind_of, Int.toNat_natCast, nearp_impl]
            unfold shareF
            by_cases h2 : kind = 2
            · rw [h2]; rfl
            · have : (kind == 2) = false := by rw [beq_eq_false_iff_ne]; exact h2
              rw [this, ite2_false, if_neg h2]
  exact loop K 0 (by omega) (by omega)
theorem Rspec {K : Nat} (t : List RootKey) (kind x L : Int) (ht : chn L (-1) (t.map RootKey.At) = true) (h1 : 1 ≤ t.length) (h2 : t.length ≤ 1048576) (hK : t.length < K) : spec_l05Root K t x kind = some (smpR t kind x) := by
  have hj := fi_le x (t.map RootKey.At)
  rw [List.length_map] at hj
  have hlt : ∀ i, i < fi x (t.map RootKey.At) → (t.getD i default).At ≤ x := fun i hi => by
    have := fi_lt x (t.map RootKey.At) i hi
    rwa [RgetD (by omega)] at this
  have hgt : fi x (t.map RootKey.At) < t.length → x < (t.getD (fi x (t.map RootKey.At)) default).At := fun h => by
    have := fi_gt x (t.map RootKey.At) (by rw [List.length_map]; exact h)
    rwa [RgetD h] at this
  have htwo : 1 < t.length → (t.getD 0 default).At < (t.getD 1 default).At := fun h => by
    have := chn_two ht (by rw [List.length_map]; exact h)
    rwa [RgetD (by omega), RgetD h] at this
  unfold smpR
  generalize fi x (t.map RootKey.At) = j at hj hlt hgt ⊢
  unfold spec_l05Root spec_l05Find
  rw [l05RootAt_eq h2 hK, bind_of]
  have hlen : (t.map RootKey.At).length = t.length := List.length_map _
  obtain ⟨g, hg⟩ : ∃ g, g = (if j = 0 then 0 else j - 1) := ⟨_, rfl⟩
  have hgl : g < t.length := by
    rw [hg]; split <;> omega
  have loop : ∀ (k i : Nat), i ≤ g → g - i < k → spec_l05Find_l1 K (t.map RootKey.At) x kind k (i : Int) = some ((g : Int), if g + 1 = t.length ∨ x ≤ (t.getD g default).At ∨ kind = 0 then Fl.mk (k := .f32) 0 (by decide) else shareF kind (t.getD g default).At x (t.getD (g + 1) default).At) := by
    intro k
    induction k with
    | zero => intro i _ h; omega
    | succ k ih =>
      intro i hi hk
      have w : IntKind.i64.wrap ((i : Int) + 1) = ((i + 1 : Nat) : Int) := wrap_nat1 (by omega)
      rw [spec_l05Find_l1]
      simp only [w, hlen, ite2_dec, Int.toNat_natCast]
      by_cases h : i < g
      · have hjz : j ≠ 0 := fun e => by rw [hg, if_pos e] at h; omega
        have h0 := h
        rw [hg, if_neg hjz] at h
        have := hlt (i + 1) (by omega)
        rw [if_pos (by omega), chk_pos (by omega), RgetD (by omega), decide_eq_true this, bind_of, ite2_true]
        exact ih (i + 1) (by omega) (by omega)
      · have e : i = g := by omega
        subst e
        have hstop : (if ((i + 1 : Nat) : Int) < (t.length : Int) then chk (0 ≤ ((i + 1 : Nat) : Int) ∧ ((i + 1 : Nat) : Int) < (t.length : Int)) (some (decide ((t.map RootKey.At).getD (i + 1) default ≤ x))) else some false) = some false := by
          by_cases hn : i + 1 < t.length
          · have hx : x < (t.getD (i + 1) default).At := by
              by_cases hjz : j = 0
              · rw [if_pos hjz] at hg
                have a1 := hgt (by omega)
                rw [hjz] at a1
                have a2 := htwo (by omega)
                have e1 : i + 1 = 1 := by omega
                rw [e1]
                omega
              · rw [if_neg hjz] at hg
                have a1 := hgt (by omega)
                rw [show i + 1 = j by omega]
                exact a1
            rw [if_pos (by omega), chk_pos (by omega), RgetD hn, decide_eq_false (by omega)]
          · rw [if_neg (by omega)]
        rw [hstop, bind_of, ite2_false]
        have hq : (ite2 (((i + 1 : Nat) : Int) == (t.length : Int)) (some true) (chk (0 ≤ (i : Int) ∧ (i : Int) < (t.length : Int)) (if x ≤ (t.map RootKey.At).getD i default then some true else some (kind == 0)))) = some (decide (i + 1 = t.length ∨ x ≤ (t.getD i default).At ∨ kind = 0)) := by
          rw [chk_pos (by omega), RgetD hgl]
          have : (if x ≤ (t.getD i default).At then some true else some (kind == 0)) = some (decide (x ≤ (t.getD i default).At) || (kind == 0)) := by
            split
            · rename_i hh; rw [decide_eq_true hh]; rfl
            · rename_i hh; rw [decide_eq_false hh]; rfl
          rw [this, ite2_or]
          congr 1
          rw [Bool.eq_iff_iff]
          simp only [Bool.or_eq_true, beq_iff_eq, decide_eq_true_eq]
          omega
        rw [hq, bind_of, ite2_dec]
        by_cases hb : i + 1 = t.length ∨ x ≤ (t.getD i default).At ∨ kind = 0
        · rw [if_pos hb, if_pos hb]
        · have hn : i + 1 < t.length := by
            rcases Nat.lt_or_ge (i + 1) t.length with g2 | g2
            · exact g2
            · exact absurd (.inl (by omega)) hb
          rw [if_neg hb, if_neg hb, chk_pos (by omega), chk_pos (by omega), RgetD hgl, RgetD hn]
          unfold shareF
          by_cases h2 : kind = 2
          · rw [h2]; rfl
          · have : (kind == 2) = false := by rw [beq_eq_false_iff_ne]; exact h2
            rw [this, ite2_false, if_neg h2]
  rw [show spec_l05Find_l1 K (t.map RootKey.At) x kind K (0 : Int) = _ from loop K 0 (by omega) (by omega), bind_of]
  unfold spec_l05Inside
  have w : IntKind.i64.wrap ((g : Int) + 1) = ((g + 1 : Nat) : Int) := wrap_nat1 (by omega)
  have hins : (ite2 (kind != 0) (ite2 (decide (((g + 1 : Nat) : Int) < (t.length : Int))) (chk (0 ≤ (g : Int) ∧ (g : Int) < (t.length : Int)) (some (decide (x > (t.getD g default).At)))) (some false)) (some false)) = some (decide (¬ (g + 1 = t.length ∨ x ≤ (t.getD g default).At ∨ kind = 0))) := by
    rw [chk_pos (by omega), ite2_and, ite2_and]
    congr 1
    rw [Bool.eq_iff_iff]
    simp only [Bool.and_eq_true, bne_iff_ne, decide_eq_true_eq]
    omega
  simp only [w, hlen, Int.toNat_natCast, RgetD hgl]
  rw [hins, bind_of, bind_of, ite2_dec]
  by_cases hb : g + 1 = t.length ∨ x ≤ (t.getD g default).At ∨ kind = 0
  · rw [if_neg (not_not_intro hb), chk_pos (by omega)]
    by_cases hjz : j = 0
    · rw [if_pos hjz]
      rw [if_pos hjz] at hg
      rw [hg]
    · rw [if_neg hjz]
      rw [if_neg hjz] at hg
      have a1 := hlt (j - 1) (by omega)
      have hb' : j = t.length ∨ (t.getD (j - 1) default).At = x ∨ kind = 0 := by
        rw [hg] at hb
        omega
      rw [if_pos hb', hg]
  · have hn : g + 1 < t.length := by
      rcases Nat.lt_or_ge (g + 1) t.length with g2 | g2
      · exact g2
      · exact absurd (.inl (by omega)) hb
    rw [if_pos hb, chk_pos (by omega), chk_pos (by omega), if_neg hb]
    have hjz : j ≠ 0 := fun e => by
      rw [if_pos e] at hg
      have a1 := hgt (by omega)
      rw [e] at a1
      rw [hg] at hb
      omega
    rw [if_neg hjz] at hg
    have hb' : ¬ (j = t.length ∨ (t.getD (j - 1) default).At = x ∨ kind = 0) := by
      rw [hg] at hb
      omega
    rw [if_neg hjz, if_neg hb', nearp_spec, bind_of, hg, show j - 1 + 1 = j by omega]

def midK (a b : Int) (t : List Key) : List Key := (t.filter fun k => decide (k.At > a) && decide (k.At < b)).map fun k => Key.mk (IntKind.i64.wrap (k.At - a)) k.Turn
def midR (a b : Int) (t : List RootKey) : List RootKey := (t.filter fun k => decide (k.At > a) && decide (k.At < b)).map fun k => RootKey.mk (IntKind.i64.wrap (k.At - a)) k.Place
def cutK (kind a b : Int) (t : List Key) : List Key := Key.mk 0 (smpK t kind a) :: midK a b t ++ [Key.mk (IntKind.i64.wrap (b - a)) (smpK t kind b)]
def cutR (kind a b : Int) (t : List RootKey) : List RootKey := RootKey.mk 0 (smpR t kind a) :: midR a b t ++ [RootKey.mk (IntKind.i64.wrap (b - a)) (smpR t kind b)]
def cutC (a b : Int) (c : Clip) : Clip := Clip.mk (IntKind.i64.wrap (b - a)) c.Kind (c.Tracks.map (cutK c.Kind a b)) (cutR c.Kind a b c.Roots)
/-- A loop that takes some. -/
theorem mid_loop {α β γ : Type} [Inhabited α] (t : List α) (p : α → Bool) (g : α → β) (x0 : β) (r : Option γ) (l : Nat → Int → List β → Option γ) (hend : ∀ (k i : Nat), t.length ≤ i → l (k + 1) (i : Int) (x0 :: (t.filter p).map g) = r)
    (hstep : ∀ (k i : Nat) (xs : List β), i < t.length → xs.length ≤ i + 1 → l (k + 1) (i : Int) xs = ite2 (p (t.getD i default)) (l k ((i + 1 : Nat) : Int) (xs ++ [g (t.getD i default)])) (l k ((i + 1 : Nat) : Int) xs)) : ∀ (K : Nat), t.length < K → l K 0 [x0] = r := by
  have key : ∀ (k i : Nat), i ≤ t.length → t.length - i < k → l k (i : Int) (x0 :: ((t.take i).filter p).map g) = r := by
    intro k
    induction k with
    | zero => intro i _ h; omega
    | succ k ih =>
      intro i hi hk
      by_cases h : i < t.length
      · have hlen : (x0 :: ((t.take i).filter p).map g).length ≤ i + 1 := by
          have := List.length_filter_le p (t.take i)
          rw [List.length_take] at this
          simp only [List.length_cons, List.length_map]
          omega
        rw [hstep k i _ h hlen]
        have hT := ih (i + 1) (by omega) (by omega)
        rw [take_succ_getD h, List.filter_append, List.map_append] at hT
        cases hp : p (t.getD i default)
        · rw [ite2_false]
          have : [t.getD i default].filter p = [] := by rw [List.filter_cons, if_neg (by rw [hp]; decide), List.filter_nil]
          rw [this, List.map_nil, List.append_nil] at hT
          exact hT
        · rw [ite2_true]
          have : [t.getD i default].filter p = [t.getD i default] := by rw [List.filter_cons, if_pos hp, List.filter_nil]
          rw [this] at hT
          exact hT
      · have e : t.take i = t := List.take_of_length_le (by omega)
        rw [e]
        exact hend k i (by omega)
  intro K hK
  have := key K 0 (by omega) (by omega)
  simpa using this

theorem core_CutClip {K : Nat} (hK : 1048577 < K) (c : Clip) (a b : Int) (hs : mx_Clip c ≤ 1048576) : ∃ r, spec_CutClip K c a b = some r ∧ impl_CutClip K c a b = some r ∧ mx_Clip r.1 ≤ 1048576 := by
  have h : Okc K c := okc_of hs
  have hnil : mx_Clip (Clip.mk 0 0 [] []) ≤ 1048576 := by simp [mx_Clip, mxL]
  unfold spec_CutClip impl_CutClip
  rw [l05Is_eq hK h, ValidClip_eq hK h]
  simp only [bind_of, In_eq, ite2_or]
  cases hv : validC c
  · exact ⟨_, rfl, rfl, hnil⟩
  · have hr := validC_spec.1 hv
    have htl := h.tl
    have hrl := h.rl
    have hcl := hr.len
    by_cases hab : 0 ≤ a ∧ a < b ∧ b ≤ c.Length
    · have w : IntKind.i64.wrap (b - 1) = b - 1 := wrap_in (by omega) (by omega)
      have d1 : (!(decide (1 ≤ b) && decide (b ≤ c.Length)) || !(decide (0 ≤ a) && decide (a ≤ b - 1))) = false := by
        rw [Bool.or_eq_false_iff, Bool.not_eq_false', Bool.not_eq_false', Bool.and_eq_true, Bool.and_eq_true, decide_eq_true_eq, decide_eq_true_eq, decide_eq_true_eq, decide_eq_true_eq]; omega
      have d2 : (decide (a < 0) || (decide (a ≥ b) || decide (b > c.Length))) = false := by
        rw [Bool.or_eq_false_iff, Bool.or_eq_false_iff, decide_eq_false_iff_not, decide_eq_false_iff_not, decide_eq_false_iff_not]; omega
      simp only [w, d1, d2, Bool.not_true, Bool.false_or, ite2_false]
      have lenK : ∀ t ∈ c.Tracks, 1 ≤ t.length ∧ t.length ≤ 12 := fun t ht => by
        have := vt_len (hr.keys t ht)
        rwa [List.length_map] at this
      have lenR : 1 ≤ c.Roots.length ∧ c.Roots.length ≤ 12 := by
        have := vt_len hr.roots
        rwa [List.length_map] at this
      have chK : ∀ t ∈ c.Tracks, chn c.Length (-1) (t.map Key.At) = true := fun t ht => by
        have := hr.keys t ht
        unfold vt at this
        rw [Bool.and_eq_true] at this
        exact this.1
      have chR : chn c.Length (-1) (c.Roots.map RootKey.At) = true := by
        have := hr.roots
        unfold vt at this
        rw [Bool.and_eq_true] at this
        exact this.1
      have clK : ∀ t ∈ c.Tracks, (cutK c.Kind a b t).length ≤ 14 := fun t ht => by
        have h1 := lenK t ht
        have h2 := List.length_filter_le (fun k : Key => decide (k.At > a) && decide (k.At < b)) t
        simp only [cutK, midK, List.length_append, List.length_cons, List.length_map, List.length_nil]
        omega
      have clR : (cutR c.Kind a b c.Roots).length ≤ 14 := by
        have h2 := List.length_filter_le (fun k : RootKey => decide (k.At > a) && decide (k.At < b)) c.Roots
        simp only [cutR, midR, List.length_append, List.length_cons, List.length_map, List.length_nil]
        omega
      have hmR : ∀ x0 : RootKey, (x0 :: midR a b c.Roots).length ≤ 13 := fun x0 => by
        have h2 := List.length_filter_le (fun k : RootKey => decide (k.At > a) && decide (k.At < b)) c.Roots
        simp only [midR, List.length_cons, List.length_map]
        omega
      have hout : Okc K (cutC a b c) := by
        refine ⟨by simp only [cutC, List.length_map]; exact h.tl, by show (cutR c.Kind a b c.Roots).length ≤ 1048576; omega, fun t ht => ?_⟩
        obtain ⟨t0, ht0, rfl⟩ := List.mem_map.1 ht
        have := clK t0 ht0
        omega
      have hroot : impl_CutClip_2 K c.Roots c a b = some (cutR c.Kind a b c.Roots) := by
        unfold impl_CutClip_2 impl_rootTrack impl_track_impl_RootKey_cut
        rw [bind_of, Rimpl _ _ _ lenR.1 (by omega) (by omega)]
        unfold impl_rootTrack_2
        rw [bind_of, bind_of]
        have := mid_loop c.Roots (fun k : RootKey => decide (k.At > a) && decide (k.At < b)) (fun k => RootKey.mk (IntKind.i64.wrap (k.At - a)) k.Place) (RootKey.mk 0 (smpR c.Roots c.Kind a)) (some (cutR c.Kind a b c.Roots)) (impl_track_impl_RootKey_cut_l1 K c.Roots c.Kind a b) (fun k i hi => by
          rw [impl_track_impl_RootKey_cut_l1, ite2_dec, if_neg (by omega), Rimpl _ _ _ lenR.1 (by omega) (by omega)]
          unfold impl_rootTrack_2
          rw [bind_of, bind_of, chk_pos (by have h2 := List.length_filter_le (fun k : RootKey => decide (k.At > a) && decide (k.At < b)) c.Roots
                                            simp only [List.length_cons, List.length_map, List.length_nil]; omega)]
          rfl) (fun k i xs hi hx => by
          have hc : (i : Int) < (c.Roots.length : Int) := by omega
          rw [impl_track_impl_RootKey_cut_l1]
          unfold impl_rootTrack_1 impl_rootTrack_2
          simp (disch := omega) only [ite2_dec (((i : Nat) : Int) < _), if_pos hc, chk_pos, Int.toNat_natCast, wrap_nat1, bind_of, ite2_and]
          rw [chk_pos (by simp only [List.length_singleton]; omega)]) K (by omega)
        rw [show impl_track_impl_RootKey_cut_l1 K c.Roots c.Kind a b K (0 : Int) [RootKey.mk 0 (smpR c.Roots c.Kind a)] = _ from this]; rfl
      have hkey : ∀ (j : Int) (t : List Key), t ∈ c.Tracks → impl_CutClip_1 K j t c a b = some (cutK c.Kind a b t) := by
        intro j t ht
        have hl := lenK t ht
        unfold impl_CutClip_1 impl_turnTrack impl_track_impl_Key_cut
        rw [bind_of, Kimpl _ _ _ hl.1 (by omega) (by omega)]
        unfold impl_turnTrack_2
        rw [bind_of, bind_of]
        have := mid_loop t (fun k : Key => decide (k.At > a) && decide (k.At < b)) (fun k => Key.mk (IntKind.i64.wrap (k.At - a)) k.Turn) (Key.mk 0 (smpK t c.Kind a)) (some (cutK c.Kind a b t)) (impl_track_impl_Key_cut_l1 K t c.Kind a b) (fun k i hi => by
          rw [impl_track_impl_Key_cut_l1, ite2_dec, if_neg (by omega), Kimpl _ _ _ hl.1 (by omega) (by omega)]
          unfold impl_turnTrack_2
          rw [bind_of, bind_of, chk_pos (by have h2 := List.length_filter_le (fun k : Key => decide (k.At > a) && decide (k.At < b)) t
                                            simp only [List.length_cons, List.length_map, List.length_nil]; omega)]
          rfl) (fun k i xs hi hx => by
          have hc : (i : Int) < (t.length : Int) := by omega
          rw [impl_track_impl_Key_cut_l1]
          unfold impl_turnTrack_1 impl_turnTrack_2
          simp (disch := omega) only [ite2_dec (((i : Nat) : Int) < _), if_pos hc, chk_pos, Int.toNat_natCast, wrap_nat1, bind_of, ite2_and]
          rw [chk_pos (by simp only [List.length_singleton]; omega)]) K (by omega)
        rw [show impl_track_impl_Key_cut_l1 K t c.Kind a b K (0 : Int) [Key.mk 0 (smpK t c.Kind a)] = _ from this]; rfl
      have hch : impl_Clip_changed K c (IntKind.i64.wrap (b - a)) c a b c a b = some (if validC (cutC a b c) = true then (cutC a b c, true) else (Clip.mk 0 0 [] [], false)) := by
        unfold impl_Clip_changed
        rw [hroot, bind_of]
        refine map_loop c.Tracks (cutK c.Kind a b) _ (impl_Clip_changed_l1 K c (IntKind.i64.wrap (b - a)) c a b _) (fun k i hi => ?_) (fun k i xs hi hx => ?_) K (by omega)
        · rw [impl_Clip_changed_l1, ite2_dec, if_neg (by omega)]
          rw [show impl_validClip K (Clip.mk (IntKind.i64.wrap (b - a)) c.Kind (c.Tracks.map (cutK c.Kind a b)) (cutR c.Kind a b c.Roots)) = _ from validClip_eq hK hout]
          rfl
        · have hc : (i : Int) < (c.Tracks.length : Int) := by omega
          rw [impl_Clip_changed_l1]
          simp (disch := omega) only [ite2_dec, if_pos hc, chk_pos, Int.toNat_natCast, wrap_nat1, hkey _ _ (getD_mem hi), bind_of]
          rw [chk_pos (by simp only [List.length_singleton]; omega)]
      have hsp : spec_CutClip_l4 K c a b (smpR c.Roots c.Kind a) K 0 [] = some (if validC (cutC a b c) = true then (cutC a b c, true) else (Clip.mk 0 0 [] [], false)) := by
        refine map_loop c.Tracks (cutK c.Kind a b) _ (spec_CutClip_l4 K c a b _) (fun k i hi => ?_) (fun k i xs hi hx => ?_) K (by omega)
        · rw [spec_CutClip_l4, ite2_dec, if_neg (by omega)]
          refine mid_loop c.Roots (fun k : RootKey => decide (k.At > a) && decide (k.At < b)) (fun k => RootKey.mk (IntKind.i64.wrap (k.At - a)) k.Place) (RootKey.mk 0 (smpR c.Roots c.Kind a)) _ (spec_CutClip_l6 K c a b _) (fun k i hi => ?_) (fun k i xs hi hx => ?_) K (by omega)
          · rw [spec_CutClip_l6, ite2_dec, if_neg (by omega), Rspec _ _ _ c.Length chR lenR.1 (by omega) (by omega), bind_of, chk_pos (by have := hmR (RootKey.mk 0 (smpR c.Roots c.Kind a)); simp only [midR] at this; simp only [List.length_singleton]; omega)]
            rw [show spec_l05Is K (Clip.mk (IntKind.i64.wrap (b - a)) c.Kind (c.Tracks.map (cutK c.Kind a b)) (RootKey.mk 0 (smpR c.Roots c.Kind a) :: (c.Roots.filter fun k : RootKey => decide (k.At > a) && decide (k.At < b)).map (fun k => RootKey.mk (IntKind.i64.wrap (k.At - a)) k.Place) ++ [RootKey.mk (IntKind.i64.wrap (b - a)) (smpR c.Roots c.Kind b)])) = _ from l05Is_eq hK hout, bind_of]
            show ite2 (!validC (cutC a b c)) (some (Clip.mk 0 0 [] [], false)) (some (cutC a b c, true)) = _
            cases validC (cutC a b c) <;> rfl
          · have hc : (i : Int) < (c.Roots.length : Int) := by omega
            rw [spec_CutClip_l6]
            simp (disch := omega) only [ite2_dec (((i : Nat) : Int) < _), if_pos hc, chk_pos, Int.toNat_natCast, wrap_nat1, bind_of, ite2_and]
            rw [chk_pos (by simp only [List.length_singleton]; omega)]
        · have hc : (i : Int) < (c.Tracks.length : Int) := by omega
          have hmem := getD_mem (xs := c.Tracks) hi
          have hl := lenK _ hmem
          have hcl := clK _ hmem
          have hin : spec_CutClip_l5 K c a b (i : Int) K 0 [Key.mk 0 (smpK (c.Tracks.getD i default) c.Kind a)] = some (Key.mk 0 (smpK (c.Tracks.getD i default) c.Kind a) :: midK a b (c.Tracks.getD i default)) := by
            refine mid_loop (c.Tracks.getD i default) (fun k : Key => decide (k.At > a) && decide (k.At < b)) (fun k => Key.mk (IntKind.i64.wrap (k.At - a)) k.Turn) (Key.mk 0 (smpK (c.Tracks.getD i default) c.Kind a)) _ (spec_CutClip_l5 K c a b (i : Int)) (fun k j hj => ?_) (fun k j xs hj hx => ?_) K (by omega)
            · rw [spec_CutClip_l5, Int.toNat_natCast, ite2_dec, if_neg (by omega)]
              rfl
            · have hc2 : (j : Int) < ((c.Tracks.getD i default).length : Int) := by omega
              rw [spec_CutClip_l5]
              simp (disch := omega) only [Int.toNat_natCast, ite2_dec (((j : Nat) : Int) < _), if_pos hc2, chk_pos, wrap_nat1, bind_of, ite2_and]
              rw [chk_pos (by simp only [List.length_singleton]; omega)]
          have hlm : (Key.mk 0 (smpK (c.Tracks.getD i default) c.Kind a) :: midK a b (c.Tracks.getD i default)).length ≤ 14 := by
            simp only [cutK, List.length_append] at hcl
            omega
          rw [spec_CutClip_l4]
          simp (disch := omega) only [ite2_dec, if_pos hc, chk_pos, Int.toNat_natCast, wrap_nat1]
          rw [Kspec _ _ _ c.Length (chK _ hmem) hl.1 (by omega) (by omega), bind_of, hin, bind_of, Kspec _ _ _ c.Length (chK _ hmem) hl.1 (by omega) (by omega), bind_of, chk_pos (by simp only [List.length_singleton]; omega), chk_pos (by simp only [List.length_singleton]; omega)]
          rfl
      rw [hch, Rspec _ _ _ c.Length chR lenR.1 (by omega) (by omega), bind_of, hsp]
      by_cases hvo : validC (cutC a b c) = true
      · rw [if_pos hvo]
        exact ⟨(cutC a b c, true), rfl, rfl, mx_of hout.tl hout.kl hout.rl⟩
      · rw [if_neg hvo]
        exact ⟨(Clip.mk 0 0 [] [], false), rfl, rfl, hnil⟩
    · have d2 : (decide (a < 0) || (decide (a ≥ b) || decide (b > c.Length))) = true := by
        rw [Bool.or_eq_true, Bool.or_eq_true, decide_eq_true_eq, decide_eq_true_eq, decide_eq_true_eq]; omega
      have d1 : (!(decide (1 ≤ b) && decide (b ≤ c.Length)) || !(decide (0 ≤ a) && decide (a ≤ IntKind.i64.wrap (b - 1)))) = true := by
        by_cases hb1 : 1 ≤ b ∧ b ≤ c.Length
        · have w : IntKind.i64.wrap (b - 1) = b - 1 := wrap_in (by omega) (by omega)
          rw [w, Bool.or_eq_true, Bool.not_eq_true', Bool.not_eq_true', Bool.and_eq_false_iff, Bool.and_eq_false_iff, decide_eq_false_iff_not, decide_eq_false_iff_not, decide_eq_false_iff_not, decide_eq_false_iff_not]; omega
        · have : (decide (1 ≤ b) && decide (b ≤ c.Length)) = false := by
            rw [Bool.and_eq_false_iff, decide_eq_false_iff_not, decide_eq_false_iff_not]; omega
          rw [this]; rfl
      simp only [d1, d2, Bool.not_true, Bool.false_or, ite2_true]
      exact ⟨_, rfl, rfl, hnil⟩

theorem law_CutClip (a : Clip) (x y : Int) (hm : mx_Clip a ≤ maxLen) : ∃ K, laws_FnExactCutClip K a x y = some true := by
  refine ⟨mx_Clip a + 1048578, ?_⟩
  generalize hKe : mx_Clip a + 1048578 = K
  unfold laws_FnExactCutClip
  obtain ⟨r, er, r1, r2, r3⟩ := sz_Clip K a 1048576 (by omega) (by omega) hm (by omega)
  rw [er, bind_of, ite2_dec]
  split
  · rfl
  · have hs : mx_Clip a ≤ 1048576 := by have := r3 (by omega); omega
    obtain ⟨s, s1, s2, s3⟩ := core_CutClip (K := K) (by omega) a x y hs
    obtain ⟨m, y0, y1, k1, k2, k3, k4, k5, k8⟩ := mark_Clip (K := K) (a := a) (k0 := 1) (by omega) hs (by omega) (by omega)
    obtain ⟨n, z0, z1, l1, l2, l3, l4, l5, l8⟩ := mark_Clip (K := K) (a := s.1) (k0 := 1) (by omega) s3 (by omega) (by omega)
    have n1 : decide (m < 0) = false := decide_eq_false (by omega)
    have n2 : decide (n < 0) = false := decide_eq_false (by omega)
    simp only [to_Clip (K := K) (a := a) (by omega) hs, bind_of, s1, s2, eq_Clip (K := K) (a := a) (by omega) hs, eq_Clip (K := K) (a := s.1) (by omega) s3, Bool.not_true, ite2_false, beq_self_eq_true, bne_self_eq_false, k1, chk_pos k4, chk_pos k5, n1, l1, chk_pos l4, chk_pos l5, l8, n2]

end Go.Fw
