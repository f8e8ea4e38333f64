/- Clips that are drawn, and their samples, in plain Lean. -/
import Derived.Test.YtcgakaboochpaadGreatFwGKSrcLaw
import Derived.Test.YtcgakaboochpaadGreatFwGKSameLaw
import Derived.Test.YtcgakaboochpaadGreatFwFC
import Derived.Test.YtcgakaboochpaadGreatFwFB
namespace Go.Fw
open Go

theorem set_ne {α : Type} [Inhabited α] {xs : List α} {i j : Nat} {v : α} (h : i ≠ j) : (xs.set i v).getD j default = xs.getD j default := by
 rw [List.getD_eq_getElem?_getD, List.getElem?_set_ne h, ← List.getD_eq_getElem?_getD]
theorem getD_left {α : Type} [Inhabited α] {a b : List α} {j : Nat} (h : j < a.length) : (a ++ b).getD j default = a.getD j default := by
 rw [List.getD_eq_getElem?_getD, List.getElem?_append_left h, ← List.getD_eq_getElem?_getD]
theorem getD_end {α : Type} [Inhabited α] {a : List α} {x : α} {j : Nat} (h : j = a.length) : (a ++ [x]).getD j default = x := by
 subst h
 rw [List.getD_eq_getElem?_getD, List.getElem?_append_right (Nat.le_refl _), Nat.sub_self]; rfl
/-- A loop that appends. -/
theorem map_loop {α β γ : Type} [Inhabited α] (a : List α) (g : α → β) (r : Option γ) (l : Nat → Int → List β → Option γ) (hend : ∀ (k i : Nat), a.length ≤ i → l (k + 1) (i : Int) (a.map g) = r)
  (hstep : ∀ (k i : Nat) (xs : List β), i < a.length → xs.length = i → l (k + 1) (i : Int) xs = l k ((i + 1 : Nat) : Int) (xs ++ [g (a.getD i default)])) : ∀ (K : Nat), a.length < K → l K 0 [] = r := by
 have key : ∀ (k i : Nat), i ≤ a.length → a.length - i < k → l k (i : Int) ((a.take i).map g) = r := by
  intro k
  induction k with
  | zero => intro i _ h; omega
  | succ k ih =>
   intro i hi hk
   by_cases h : i < a.length
   ·rw [hstep k i _ h (by simp; omega)]
    have : (a.take i).map g ++ [g (a.getD i default)] = (a.take (i + 1)).map g := by rw [zy1 h, List.map_append]; rfl
    rw [this]
    exact ih (i + 1) (by omega) (by omega)
   ·have e : a.take i = a := List.take_of_length_le (by omega)
    rw [e]
    exact hend k i (by omega)
 intro K hK
 have := key K 0 (by omega) (by omega)
 simpa using this
theorem ite2_and (x y : Bool) : ite2 x (some y) (some false) = some (x && y) := by cases x <;> rfl
theorem zgi (x y : Bool) : ite2 x (some true) (some y) = some (x || y) := by cases x <;> rfl
theorem zfy (x y : Bool) : ite2 x (some false) (some y) = some (!x && y) := by cases x <;> rfl
theorem zf6 (a b : Int) : decide (a < b) = !decide (b ≤ a) := by
 by_cases h : a < b
 ·rw [decide_eq_true h, decide_eq_false (by omega)]; rfl
 ·rw [decide_eq_false h, decide_eq_true (by omega)]; rfl
theorem dec_le (a b : Int) : decide (a ≤ b) = !decide (b < a) := by rw [zf6, Bool.not_not]
theorem dec_gt (a b : Int) : decide (a > b) = !decide (a ≤ b) := zf6 b a
/-- Times that ascend zf5 one, up to the length. -/
def chn (len : Int) : Int → List Int → Bool
 | _, [] => true
 | last, a :: l => (decide (last < a) && decide (a ≤ len)) && chn len a l
def vtE (n : Nat) : Bool := decide ((1 : Int) ≤ (n : Int)) && decide ((n : Int) ≤ 12)
def vt (len : Int) (l : List Int) : Bool := chn len (-1) l && vtE l.length
theorem vtE_end (n : Nat) : ((ite2 ((decide ((n : Int) ≥ (1 : Int)))) (some (decide ((n : Int) ≤ (12 : Int)))) (some false)).bind fun j14 => some j14) = some (vtE n) := by
 rw [ite2_and]; rfl
theorem keyValid_loop {K : Nat} (a : List Key) (len : Int) (hl : a.length ≤ 1048576) : ∀ (k i : Nat) (last : Int), i ≤ a.length → a.length - i < k →
  zq9 K a len k last (i : Int) = some (chn len last ((a.drop i).map Key.At) && vtE a.length) := by
 intro k
 induction k with
 | zero => intro i _ _ h; omega
 | succ k ih =>
  intro i last hi hk
  rw [zq9, zqv]
  by_cases h : i < a.length
  ·have hc : (i : Int) < (a.length : Int) := by omega
   have hd : a.drop i = a.getD i default :: a.drop (i + 1) := by rw [List.drop_eq_getElem_cons h, zxu h]
   unfold zwo
   simp (disch := omega) only [if_pos hc, zqq, Int.toNat_natCast, zwk, zqf, zgi, ih (i + 1) _ h (by omega)]
   rw [hd, List.map_cons]
   simp only [chn, zfy]
   rw [zf6 last (a.getD i default).At, dec_gt (a.getD i default).At len]
   cases decide ((a.getD i default).At ≤ last) <;> cases decide ((a.getD i default).At ≤ len) <;> rfl
  ·have e : a.drop i = [] := List.drop_of_length_le (by omega)
   rw [if_neg (by omega), vtE_end, e]; rfl
theorem rootValid_loop {K : Nat} (a : List RootKey) (len : Int) (hl : a.length ≤ 1048576) : ∀ (k i : Nat) (last : Int), i ≤ a.length → a.length - i < k →
  zq3 K a len k last (i : Int) = some (chn len last ((a.drop i).map RootKey.At) && vtE a.length) := by
 intro k
 induction k with
 | zero => intro i _ _ h; omega
 | succ k ih =>
  intro i last hi hk
  rw [zq3, zqv]
  by_cases h : i < a.length
  ·have hc : (i : Int) < (a.length : Int) := by omega
   have hd : a.drop i = a.getD i default :: a.drop (i + 1) := by rw [List.drop_eq_getElem_cons h, zxu h]
   unfold zwn
   simp (disch := omega) only [if_pos hc, zqq, Int.toNat_natCast, zwk, zqf, zgi, ih (i + 1) _ h (by omega)]
   rw [hd, List.map_cons]
   simp only [chn, zfy]
   rw [zf6 last (a.getD i default).At, dec_gt (a.getD i default).At len]
   cases decide ((a.getD i default).At ≤ last) <;> cases decide ((a.getD i default).At ≤ len) <;> rfl
  ·have e : a.drop i = [] := List.drop_of_length_le (by omega)
   rw [if_neg (by omega), vtE_end, e]; rfl
theorem keyValid_eq {K : Nat} {a : List Key} (len : Int) (hl : a.length ≤ 1048576) (hK : a.length < K) : zw3 K a len = some (vt len (a.map Key.At)) := by
 have := keyValid_loop (K := K) a len hl K 0 (-1) (by omega) (by omega)
 unfold zw3 vt
 rw [List.length_map]
 simpa using this
theorem rootValid_eq {K : Nat} {a : List RootKey} (len : Int) (hl : a.length ≤ 1048576) (hK : a.length < K) : zws K a len = some (vt len (a.map RootKey.At)) := by
 have := rootValid_loop (K := K) a len hl K 0 (-1) (by omega) (by omega)
 unfold zws vt
 rw [List.length_map]
 simpa using this
/-- A clip whose keys are right. -/
def keysC (c : Clip) : Bool := c.Tracks.all (fun t => vt c.Length (t.map Key.At)) && vt c.Length (c.Roots.map RootKey.At)
def zfh (c : Clip) : Bool := ((decide (1 ≤ c.Length) && decide (c.Length ≤ 1000)) && ((decide (0 ≤ c.Kind) && decide (c.Kind ≤ 2)) && (decide ((1 : Int) ≤ (c.Tracks.length : Int)) && decide ((c.Tracks.length : Int) ≤ 12)))) && keysC c
/-- Lengths that the laws bear. -/
structure Okc (K : Nat) (c : Clip) : Prop where
 tl : c.Tracks.length ≤ 1048576
 rl : c.Roots.length ≤ 1048576
 kl : ∀ t ∈ c.Tracks, t.length ≤ 1048576
theorem zvf {K : Nat} (hK : 1048577 < K) {c : Clip} (h : Okc K c) : zw4 K c = some (zfh c) := by
 have loop : ∀ (k i : Nat), i ≤ c.Tracks.length → c.Tracks.length - i < k → zwy K c k (i : Int) = some ((c.Tracks.drop i).all (fun t => vt c.Length (t.map Key.At)) && vt c.Length (c.Roots.map RootKey.At)) := by
  intro k
  induction k with
  | zero => intro i _ h; omega
  | succ k ih =>
   intro i hi hk
   have htl := h.tl
   have hrl := h.rl
   rw [zwy, zqv]
   unfold zjo zjl
   by_cases hlt : i < c.Tracks.length
   ·have hc : (i : Int) < (c.Tracks.length : Int) := by omega
    have hd : c.Tracks.drop i = c.Tracks.getD i default :: c.Tracks.drop (i + 1) := by rw [List.drop_eq_getElem_cons hlt, zxu hlt]
    have hkl := h.kl _ (zji hlt)
    simp (disch := omega) only [if_pos hc, zqq, Int.toNat_natCast, zwk, zqf]
    rw [keyValid_eq (K := K) _ hkl (by omega), zqf, ih (i + 1) (by omega) (by omega), hd, List.all_cons, zfy, Bool.not_not, Bool.and_assoc]
   ·have e : c.Tracks.drop i = [] := List.drop_of_length_le (by omega)
    rw [if_neg (by omega), zqf, rootValid_eq (K := K) _ hrl (by omega), zqf, e]; rfl
 unfold zw4
 have := loop K 0 (by omega) (by have := h.tl; omega)
 rw [List.drop_zero] at this
 rw [show zwy K c K (0 : Int) = _ from this]
 simp only [zqf, zgi, zfy, zfh, keysC, zf6, gt_iff_lt, Bool.not_or, Bool.not_not, Bool.and_assoc]
/-- A clip that is right: its parts. -/
structure Rc (c : Clip) : Prop where
 len : 1 ≤ c.Length ∧ c.Length ≤ 1000
 kind : 0 ≤ c.Kind ∧ c.Kind ≤ 2
 tracks : 1 ≤ c.Tracks.length ∧ c.Tracks.length ≤ 12
 keys : ∀ t ∈ c.Tracks, vt c.Length (t.map Key.At) = true
 roots : vt c.Length (c.Roots.map RootKey.At) = true
theorem validC_spec {c : Clip} : zfh c = true ↔ Rc c := by
 unfold zfh keysC
 simp only [Bool.and_eq_true, decide_eq_true_eq, List.all_eq_true]
 constructor
 ·rintro ⟨⟨h1, h2, h3⟩, h4, h5⟩
  exact ⟨h1, h2, by omega, h4, h5⟩
 ·rintro ⟨h1, h2, h3, h4, h5⟩
  exact ⟨⟨h1, h2, by omega⟩, h4, h5⟩
theorem zkm {len : Int} {l : List Int} (h : vt len l = true) : 1 ≤ l.length ∧ l.length ≤ 12 := by
 unfold vt vtE at h
 simp only [Bool.and_eq_true, decide_eq_true_eq] at h
 omega
theorem validClip_eq {K : Nat} (hK : 1048577 < K) {c : Clip} (h : Okc K c) : zj8 K c = some (if zfh c = true then (c, true) else (Clip.mk 0 0 [] [], false)) := by
 unfold zj8
 rw [zvf hK h, zqf]
 cases zfh c <;> rfl
theorem ite2_some {α : Type} (b : Bool) (x y : α) : ite2 b (some x) (some y) = some (if b = true then x else y) := by cases b <;> rfl
theorem sqrt_spec (K : Nat) (x : F32) : zk9 K x = some (Fl.cv .f64 .f32 (Fl.cv .f32 .f64 x).sqrt) := by
 unfold zk9 zj5 zk7 zk3
 simp only [zqf, zqq (zci x)]
theorem mend_some (K : Nat) (a : Turn) : ∃ t, zk6 K a = some t := by
 unfold zk6 zye zk0 zcc
 simp only [zqf, sqrt_spec, ite2_some]
 exact ⟨_, rfl⟩
theorem exact_dr {K : Nat} {c : List Int} (hc : Byt c) (at_ sd : Int) : Dr at_ 2 (zjv K (l00Src.mk c at_ sd)) (fun _ => True) := by
 unfold zjv
 refine Dr.bind (c2 := 0) (zkg hc at_ sd 24) (by decide) fun r a1 s1 _ => ?_
 have o : ∀ t : Turn, Dr a1 0 (some (t, a1, s1)) (fun _ => True) := fun t => .of trivial (by decide) rfl
 exact .ite (fun _ => .ite (fun _ => .chk (by decide) (.ite (fun _ => o _) fun _ => .ite (fun _ => o _) fun _ => .ite (fun _ => o _) fun _ => o _)) fun _ => .chk (by decide) (.ite (fun _ => o _) fun _ => .ite (fun _ => o _) fun _ => .ite (fun _ => o _) fun _ => o _)) fun _ => .chk (by decide) (.chk (by decide) (.chk (by decide) (o _)))
theorem turn_dr {K : Nat} {c : List Int} (hc : Byt c) (at_ sd : Int) : Dr at_ 10 (zj4 K (l00Src.mk c at_ sd)) (fun _ => True) := by
 unfold zj4
 refine Dr.bind (c1 := 2) (c2 := 8) (zga hc at_ sd 2) (by decide) fun r a1 s1 _ => .ite (fun _ => ?_) fun _ => ?_
 ·exact Dr.weak (c := 2 + 0) (P := fun _ => True) (Dr.bind (exact_dr hc a1 s1) (by decide) fun r2 a2 s2 _ => .of trivial (by decide) rfl) (by decide) (fun _ h => h)
 ·refine Dr.bind (c1 := 2) (c2 := 6) (zbg hc a1 s1) (by decide) fun r2 a2 s2 _ => Dr.bind (c1 := 2) (c2 := 4) (zbg hc a2 s2) (by decide) fun r3 a3 s3 _ => Dr.bind (c1 := 2) (c2 := 2) (zbg hc a3 s3) (by decide) fun r4 a4 s4 _ => Dr.bind (c1 := 2) (c2 := 0) (zbg hc a4 s4) (by decide) fun r5 a5 s5 _ => ?_
  obtain ⟨t, ht⟩ := mend_some K (Turn.mk r2 r3 r4 r5)
  simp only [ht, zqf]
  exact .of trivial (by decide) rfl
theorem zvg (K : Nat) (x : F32) : zxo K x x = some true := by
 unfold zxo zk5
 rw [zfb]
 cases h : nanB .f32 x.bits
 ·rw [zql]
  have : ∃ n, zvz K x = some n := by
   unfold zvz Fl.toBits
   simp [h]
  obtain ⟨n, hn⟩ := this
  rw [hn, zqf, zqf, zqf, beq_self_eq_true]
 ·rw [zq6, zqf, zqf, beq_self_eq_true]
theorem sameT_refl (K : Nat) (t : Turn) : zka K t t = some true := by
 unfold zka
 rw [zvg, zqf, zq6, zvg, zqf, zq6, zvg, zqf, zq6, zvg, zqf, zqf]
theorem sameV_refl (K : Nat) (v : Vector) : zvk K v v = some true := by
 unfold zvk
 rw [zvg, zqf, zq6, zvg, zqf, zq6, zvg, zqf, zqf]
theorem zkp (K : Nat) (x : F32) : zwr K x x = some true := by rw [same_impl, beq_self_eq_true]

/-- Times that ascend, in their range. -/
structure Asc (len : Int) (l : List Int) : Prop where
 asc : l.Pairwise (· < ·)
 inn : ∀ x ∈ l, 0 ≤ x ∧ x ≤ len
theorem chn_of {len : Int} : ∀ {l : List Int} {last : Int}, l.Pairwise (· < ·) → (∀ x ∈ l, last < x ∧ x ≤ len) → chn len last l = true
 | [], _, _, _ => rfl
 | a :: l, last, h1, h2 => by
  have ha := h2 a List.mem_cons_self
  rw [List.pairwise_cons] at h1
  simp only [chn, Bool.and_eq_true, decide_eq_true_eq]
  exact ⟨ha, chn_of h1.2 fun x hx => ⟨h1.1 x hx, (h2 x (List.mem_cons_of_mem _ hx)).2⟩⟩
theorem Asc.vt {len : Int} {l : List Int} (h : Asc len l) (h1 : 1 ≤ l.length) (h2 : l.length ≤ 12) : vt len l = true := by
 unfold Go.Fw.vt vtE
 simp only [Bool.and_eq_true, decide_eq_true_eq]
 exact ⟨chn_of h.asc fun x hx => by have := h.inn x hx; omega, by omega, by omega⟩
theorem Asc.add {len x : Int} {l : List Int} (h : Asc len l) (hx : 0 ≤ x ∧ x ≤ len) (hl : ∀ y ∈ l, y < x) : Asc len (l ++ [x]) := by
 refine ⟨List.pairwise_append.2 ⟨h.asc, List.pairwise_singleton _ _, fun a ha b hb => ?_⟩, fun y hy => ?_⟩
 ·rw [List.mem_singleton] at hb
  rw [hb]; exact hl a ha
 ·rcases List.mem_append.1 hy with hy | hy
  ·exact h.inn y hy
  ·rw [List.mem_singleton] at hy
   rw [hy]; exact hx
theorem put_loop {K : Nat} {a0 : List Int} {a1 len : Int} (h0 : Asc len a0) (ha : 0 ≤ a1 ∧ a1 ≤ len) (hl : a0.length ≤ 100) : ∀ (k i : Nat) (b : Bool) (ys : List Int), i ≤ a0.length → a0.length - i < k → Asc len ys → (∀ y ∈ ys, ∀ x ∈ a0.drop i, y < x) → (b = false → ∀ y ∈ ys, y < a1) → (b = true → ∀ x ∈ a0.drop i, a1 < x ∨ a1 < x) → ys.length ≤ i + 1 → (b = false → ys.length ≤ i) → (b = true → 1 ≤ ys.length) →
  ∃ r, zw9 K a0 a1 k b (i : Int) ys = some r ∧ Asc len r ∧ 1 ≤ r.length ∧ r.length ≤ a0.length + 1 := by
 intro k
 induction k with
 | zero => intro i _ _ _ h; omega
 | succ k ih =>
  intro i b ys g1 g2 g3 g4 g5 g6 g7 g8 g9
  rw [zw9, zqv]
  by_cases hi : i < a0.length
  ·have hd : a0.drop i = a0.getD i default :: a0.drop (i + 1) := by rw [List.drop_eq_getElem_cons hi, zxu hi]
   have hx := h0.inn _ (zji hi)
   have hpw : ∀ z ∈ a0.drop (i + 1), a0.getD i default < z := by
    have := h0.asc.drop (i := i)
    rw [hd, List.pairwise_cons] at this
    exact this.1
   have hyx : ∀ y ∈ ys, y < a0.getD i default := fun y hy => g4 y hy _ (by rw [hd]; exact List.mem_cons_self)
   have hyz : ∀ y ∈ ys, ∀ z ∈ a0.drop (i + 1), y < z := fun y hy z hz => g4 y hy z (by rw [hd]; exact List.mem_cons_of_mem _ hz)
   generalize hxx : a0.getD i default = x at hx hpw hyx
   have one : ∀ y ∈ ys ++ [x], ∀ z ∈ a0.drop (i + 1), y < z := fun y hy z hz => by
    rcases List.mem_append.1 hy with hy | hy
    ·exact hyz y hy z hz
    ·rw [List.mem_singleton] at hy
     rw [hy]; exact hpw z hz
   rw [if_pos (by omega), Int.toNat_natCast, hxx]
   cases b
   ·have g5 := g5 rfl; have g8 := g8 rfl
    rw [Bool.not_false, zq6, zqq (by omega), zqf, zqv]
    by_cases c1 : x ≥ a1
    ·rw [if_pos c1, zqq (by omega), zqv]
     by_cases c2 : x > a1
     ·rw [if_pos c2, zqq (by simp; omega), zqq (by simp; omega), zwk (by omega)]
      refine ih (i + 1) true _ (by omega) (by omega) ((g3.add ha g5).add hx fun y hy => ?_) (fun y hy z hz => ?_) (fun h => by cases h) (fun _ z hz => .inl ?_) (by simp; omega) (fun h => by cases h) (fun _ => by simp)
      ·rcases List.mem_append.1 hy with hy | hy
       ·exact hyx y hy
       ·rw [List.mem_singleton] at hy
        rw [hy]; exact c2
      ·have hz2 := hpw z hz
       rcases List.mem_append.1 hy with hy | hy
       ·rcases List.mem_append.1 hy with hy | hy
        ·exact hyz y hy z hz
        ·rw [List.mem_singleton] at hy
         rw [hy]; omega
       ·rw [List.mem_singleton] at hy
        rw [hy]; exact hz2
      ·have := hpw z hz; omega
     ·rw [if_neg c2, zqq (by simp; omega), zwk (by omega)]
      exact ih (i + 1) true _ (by omega) (by omega) (g3.add hx hyx) one (fun h => by cases h) (fun _ z hz => .inl (by have := hpw z hz; omega)) (by simp; omega) (fun h => by cases h) (fun _ => by simp)
    ·rw [if_neg c1, zqq (by omega), zqq (by simp; omega), zwk (by omega)]
     refine ih (i + 1) false _ (by omega) (by omega) (g3.add hx hyx) one (fun _ y hy => ?_) (fun h => by cases h) (by simp; omega) (fun _ => by simp; omega) (fun h => by cases h)
     rcases List.mem_append.1 hy with hy | hy
     ·exact g5 y hy
     ·rw [List.mem_singleton] at hy
      rw [hy]; omega
   ·have g6 := g6 rfl; have g9 := g9 rfl
    rw [Bool.not_true, zql, zqf, zql, zqq (by omega), zqq (by simp; omega), zwk (by omega)]
    exact ih (i + 1) true _ (by omega) (by omega) (g3.add hx hyx) one (fun h => by cases h) (fun _ z hz => g6 z (by rw [hd]; exact List.mem_cons_of_mem _ hz)) (by simp; omega) (fun h => by cases h) (fun _ => by simp)
  ·rw [if_neg (by omega)]
   cases b
   ·have g8 := g8 rfl
    rw [Bool.not_false, zq6, zqq (by simp; omega)]
    exact ⟨_, rfl, g3.add ha (g5 rfl), by simp, by simp; omega⟩
   ·rw [Bool.not_true, zql]
    exact ⟨ys, rfl, g3, g9 rfl, by omega⟩
theorem zhl {K : Nat} (hK : 200 < K) {a0 : List Int} {a1 len : Int} (h0 : Asc len a0) (ha : 0 ≤ a1 ∧ a1 ≤ len) (hl : a0.length ≤ 100) : ∃ r, zks K a0 a1 = some r ∧ Asc len r ∧ 1 ≤ r.length ∧ r.length ≤ a0.length + 1 := by
 have := put_loop (K := K) h0 ha hl K 0 false [] (by omega) (by omega) ⟨List.Pairwise.nil, fun x hx => by cases hx⟩ (fun y hy => by cases hy) (fun _ y hy => by cases hy) (fun h => by cases h) (by simp) (fun _ => by simp) (fun h => by cases h)
 exact this
theorem Dr.got {α β : Type} {at_ c : Int} {f : Option β} {x : β} {g : β → Option (α × Int × Int)} {P : α → Prop} (h : f = some x) (h2 : Dr at_ c (g x) P) : Dr at_ c (f.bind g) P := by rw [h]; exact h2
theorem times_loop_dr {K : Nat} (hK : 200 < K) {c : List Int} (hc : Byt c) (at0 sd0 : Int) (len : Nat) (hlen : 1 ≤ len ∧ len ≤ 1000) : ∀ (k t : Nat) (a s : Int) (l : List Int), t < k → Asc (len : Int) l → l.length + t ≤ 5 → 1 ≤ l.length + t →
  Dr a (2 * (t : Int) + 2) (zwu K (l00Src.mk c at0 sd0) (len : Int) k (t : Int) a s l) (fun r => vt (len : Int) r = true) := by
 intro k
 induction k with
 | zero => intro t _ _ _ h; omega
 | succ k ih =>
  intro t a s l h1 h2 h3 h4
  rw [zwu]
  refine .ite (fun g => ?_) fun g => ?_
  ·have ht : 0 < t := by have := of_decide_eq_true g; omega
   have w1 : IntKind.i64.wrap ((len : Int) + 1) = (len : Int) + 1 := zxj (by omega) (by omega)
   have w2 : IntKind.i64.wrap ((t : Int) - 1) = ((t - 1 : Nat) : Int) := by rw [zxj (by omega) (by omega)]; omega
   rw [w1, w2, show 2 * (t : Int) + 2 = 2 + (2 * ((t - 1 : Nat) : Int) + 2) by omega]
   refine Dr.bind (zkg hc a s _) (by omega) fun r a1 s1 hr => ?_
   obtain ⟨l2, e1, e2, e3, e4⟩ := zhl hK h2 (a1 := r) (by omega) (by omega)
   exact .got e1 (ih (t - 1) a1 s1 l2 (by omega) e2 (by omega) (by omega))
  ·have ht : t = 0 := by have := of_decide_eq_false g; omega
   subst ht
   rw [show 2 * ((0 : Nat) : Int) + 2 = 2 + 0 by omega]
   refine Dr.bind (zga hc a s 3) (by omega) fun r a1 s1 _ => .ite (fun _ => ?_) fun _ => ?_
   ·obtain ⟨l2, e1, e2, e3, e4⟩ := zhl hK h2 (a1 := 0) (by omega) (by omega)
    obtain ⟨l3, f1, f2, f3, f4⟩ := zhl hK e2 (a1 := (len : Int)) (by omega) (by omega)
    exact .got e1 (.got f1 (.of (f2.vt f3 (by omega)) (by omega) rfl))
   ·exact .of (h2.vt (by omega) (by omega)) (by omega) rfl
theorem times_dr {K : Nat} (hK : 200 < K) {c : List Int} (hc : Byt c) (at_ sd : Int) (len : Nat) (hlen : 1 ≤ len ∧ len ≤ 1000) : Dr at_ 12 (zx1 K (l00Src.mk c at_ sd) (len : Int)) (fun r => vt (len : Int) r = true) := by
 unfold zx1
 refine Dr.bind (c1 := 2) (c2 := 10) (zkg hc at_ sd 4) (by omega) fun r a1 s1 hr => ?_
 obtain ⟨t, ht⟩ : ∃ t : Nat, 1 + r = (t : Int) := ⟨(1 + r).toNat, by omega⟩
 rw [zxj (by omega) (by omega), ht]
 exact Dr.weak (times_loop_dr hK hc _ _ len hlen K t a1 s1 [] (by omega) ⟨List.Pairwise.nil, fun x hx => by cases hx⟩ (by simp; omega) (by simp; omega)) (by omega) fun _ h => h
theorem keys_loop {K : Nat} {c : List Int} (hc : Byt c) (at0 sd0 : Int) (v : List Int × Int × Int) (hv : v.1.length ≤ 12) : ∀ (k i : Nat) (a s : Int) (ks : List Key), i ≤ v.1.length → v.1.length - i < k → ks.map Key.At = v.1.take i → 0 ≤ a → a + 10 * ((v.1.length - i : Nat) : Int) ≤ 4611686018427387904 →
  ∃ a' s' r, zww K (l00Src.mk c at0 sd0) v k (i : Int) a s ks = some (a', s', r) ∧ r.map Key.At = v.1 ∧ 0 ≤ a' ∧ a' ≤ a + 10 * ((v.1.length - i : Nat) : Int) := by
 intro k
 induction k with
 | zero => intro i _ _ _ _ h; omega
 | succ k ih =>
  intro i a s ks h1 h2 h3 h4 h5
  have hlen : ks.length = i := by have := congrArg List.length h3; rw [List.length_map, List.length_take] at this; omega
  rw [zww, zqv]
  by_cases hi : i < v.1.length
  ·obtain ⟨t, a1, s1, e1, _, q1, q2⟩ := turn_dr (K := K) hc a s h4 (by omega)
   have h6 : (ks ++ [Key.mk (v.1.getD i default) t]).map Key.At = v.1.take (i + 1) := by rw [List.map_append, h3, zy1 hi]; rfl
   obtain ⟨a', s', r, g1, g2, g3, g4⟩ := ih (i + 1) a1 s1 _ (by omega) (by omega) h6 q1 (by omega)
   refine ⟨a', s', r, ?_, g2, g3, by omega⟩
   rw [if_pos (by omega), zqq (by omega), e1, zqf, Int.toNat_natCast, zqq (by simp; omega), zwk (by omega)]
   exact g1
  ·have : i = v.1.length := by omega
   rw [if_neg (by omega)]
   exact ⟨a, s, ks, rfl, by rw [h3, this, List.take_length], h4, by omega⟩
theorem roots_loop {K : Nat} {c : List Int} (hc : Byt c) (at0 sd0 kind : Int) (v1 : Int × Int × Int) (ts : List (List Key)) (v : List Int × Int × Int) (hv : v.1.length ≤ 12) (len : Nat) (hlen : 1 + v1.1 = (len : Int)) (hlen2 : len ≤ 1000) : ∀ (k i : Nat) (a s : Int) (ks : List RootKey), i ≤ v.1.length → v.1.length - i < k → ks.map RootKey.At = v.1.take i →
  Dr a (18 * ((v.1.length - i : Nat) : Int)) (zwt K (l00Src.mk c at0 sd0) kind v1 ts v k (i : Int) a s ks) (fun r => r.Length = (len : Int) ∧ r.Kind = kind ∧ r.Tracks = ts ∧ r.Roots.map RootKey.At = v.1) := by
 intro k
 induction k with
 | zero => intro i _ _ _ _ h; omega
 | succ k ih =>
  intro i a s ks h1 h2 h3
  have hl : ks.length = i := by have := congrArg List.length h3; rw [List.length_map, List.length_take] at this; omega
  rw [zwt]
  refine .ite (fun g => ?_) fun g => ?_
  ·have hi : i < v.1.length := by have := of_decide_eq_true g; omega
   rw [show 18 * ((v.1.length - i : Nat) : Int) = 18 + 18 * ((v.1.length - (i + 1) : Nat) : Int) by omega, zwk (by omega), Int.toNat_natCast]
   refine .chk (by omega) (Dr.bind (vector_dr hc a s) (by omega) fun x a1 s1 _ => .chk (by simp; omega) ?_)
   exact ih (i + 1) a1 s1 _ (by omega) (by omega) (by rw [List.map_append, h3, zy1 hi]; rfl)
  ·have : i = v.1.length := by have := of_decide_eq_false g; omega
   rw [zxj (by omega) (by omega), hlen]
   exact .of ⟨rfl, rfl, rfl, by rw [h3, this, List.take_length]⟩ (by omega) rfl
theorem tracks_loop {K : Nat} (hK : 200 < K) {c : List Int} (hc : Byt c) (at0 sd0 kind : Int) (v1 : Int × Int × Int) (len : Nat) (hlen : 1 + v1.1 = (len : Int)) (hlen2 : 1 ≤ len ∧ len ≤ 1000) (n : Nat) (hn : n ≤ 12) : ∀ (k t : Nat) (a s : Int) (ts : List (List Key)), t < k → ts.length + t = n → (∀ x ∈ ts, vt (len : Int) (x.map Key.At) = true) → 0 ≤ a → a + 140 * (t : Int) + 240 ≤ 4611686018427387904 →
  ∃ r a' s', zwv K (l00Src.mk c at0 sd0) kind v1 k (t : Int) a s ts = some (r, a', s') ∧ r.Length = (len : Int) ∧ r.Kind = kind ∧ r.Tracks.length = n ∧ (∀ x ∈ r.Tracks, vt (len : Int) (x.map Key.At) = true) ∧ vt (len : Int) (r.Roots.map RootKey.At) = true := by
 intro k
 induction k with
 | zero => intro t _ _ _ h; omega
 | succ k ih =>
  intro t a s ts h1 h2 h3 h4 h5
  rw [zwv, zqv, zxj (show -9223372036854775808 ≤ (1 : Int) + v1.1 by omega) (by omega), hlen]
  obtain ⟨l, a1, s1, e1, l1, q1, q2⟩ := times_dr (K := K) hK hc a s len hlen2 h4 (by omega)
  have hl := zkm l1
  by_cases ht : 0 < t
  ·obtain ⟨a2, s2, ks, e2, k1, k2, k3⟩ := keys_loop (K := K) hc at0 sd0 (l, a1, s1) (by show l.length ≤ 12; omega) K 0 a1 s1 [] (by omega) (by show l.length - 0 < K; omega) rfl q1 (by show a1 + 10 * ((l.length - 0 : Nat) : Int) ≤ _; omega)
   have k3 : a2 ≤ a1 + 10 * ((l.length - 0 : Nat) : Int) := k3
   have w2 : IntKind.i64.wrap ((t : Int) - 1) = ((t - 1 : Nat) : Int) := by rw [zxj (by omega) (by omega)]; omega
   obtain ⟨r, a', s', g⟩ := ih (t - 1) a2 s2 (ts ++ [ks]) (by omega) (by simp; omega) (fun x hx => by
    rcases List.mem_append.1 hx with hx | hx
    ·exact h3 x hx
    ·rw [List.mem_singleton] at hx
     rw [hx, k1]; exact l1) k2 (by omega)
   refine ⟨r, a', s', ?_, g.2⟩
   rw [if_pos (by omega), e1, zqf]
   rw [show ((0 : Nat) : Int) = 0 from rfl] at e2
   rw [e2, zqf, zqq (by simp; omega), w2]
   exact g.1
  ·have : t = 0 := by omega
   subst this
   obtain ⟨r, a', s', e2, ⟨r1, r2, r3, r4⟩, _⟩ := roots_loop (K := K) hc at0 sd0 kind v1 ts (l, a1, s1) (by show l.length ≤ 12; omega) len hlen hlen2.2 K 0 a1 s1 [] (by omega) (by show l.length - 0 < K; omega) rfl q1 (by show a1 + 18 * ((l.length - 0 : Nat) : Int) ≤ _; omega)
   rw [if_neg (by omega), e1, zqf]
   rw [show ((0 : Nat) : Int) = 0 from rfl] at e2
   refine ⟨r, a', s', e2, r1, r2, by rw [r3]; omega, by rw [r3]; exact h3, ?_⟩
   rw [r4]; exact l1
theorem list_ext_n {α : Type} [Inhabited α] {n : Nat} {a b : List α} (ha : a.length = n) (hb : b.length = n) (h : ∀ j, j < n → a.getD j default = b.getD j default) : a = b := by
 refine List.ext_getElem (by omega) fun j h1 h2 => ?_
 have := h j (by omega)
 rw [zxu h1, zxu h2] at this
 exact this
/-- A loop that fills a list. -/
theorem fill_loop {α γ : Type} [Inhabited α] (n : Nat) (a : List α) (g : Nat → α) (F : List α → γ) (l : Nat → Int → List α → Option γ) (hend : ∀ (k : Nat) (xs : List α), xs.length = n → l (k + 1) (n : Int) xs = some (F xs))
  (hstep : ∀ (k i : Nat) (xs : List α), i < n → xs.length = n → xs.getD i default = a.getD i default → l (k + 1) (i : Int) xs = l k ((i + 1 : Nat) : Int) (xs.set i (g i))) : ∀ (k i : Nat) (xs : List α), i ≤ n → n - i < k → xs.length = n → (∀ j, j < i → xs.getD j default = g j) → (∀ j, i ≤ j → xs.getD j default = a.getD j default) →
  ∃ r, l k (i : Int) xs = some (F r) ∧ r.length = n ∧ ∀ j, j < n → r.getD j default = g j := by
 intro k
 induction k with
 | zero => intro i _ _ h; omega
 | succ k ih =>
  intro i xs h1 h2 h3 h4 h5
  by_cases hi : i < n
  ·rw [hstep k i xs hi h3 (h5 i (Nat.le_refl i))]
   refine ih (i + 1) _ (by omega) (by omega) (by rw [List.length_set]; exact h3) (fun j hj => ?_) (fun j hj => ?_)
   ·by_cases e : j = i
    ·subst e
     rw [List.getD_eq_getElem?_getD, List.getElem?_set_self (by omega)]; rfl
    ·rw [set_ne (fun h => e h.symm)]; exact h4 j (by omega)
   ·rw [set_ne (by omega)]; exact h5 j (by omega)
  ·have : i = n := by omega
   subst this
   exact ⟨xs, hend k xs h3, h3, h4⟩
theorem samePose {K : Nat} {q : Pose} (h : q.Turns.length ≤ 12) (hK : 100 < K) : zvq K q q = some true := by
 have hT : ∀ t, zkl K t t = some true := fun t => by
  unfold zkl
  rw [zkp, zqf, zq6, zkp, zqf, zq6, zkp, zqf, zq6, zkp, zqf, zqf]
 have hV : zvb K q.Root q.Root = some true := by
  unfold zvb
  rw [zkp, zqf, zq6, zkp, zqf, zq6, zkp, zqf, zqf]
 have loop : ∀ (k i : Nat), i ≤ q.Turns.length → q.Turns.length - i < k → zqk K q.Turns q.Turns k (i : Int) = some true := by
  intro k
  induction k with
  | zero => intro i _ h; omega
  | succ k ih =>
   intro i g1 g2
   rw [zqk, zqv]
   by_cases hi : i < q.Turns.length
   ·rw [if_pos (by omega), zqq (by omega), zqq (by omega), hT, zqf, Bool.not_true, zql, zwk (by omega)]
    exact ih (i + 1) (by omega) (by omega)
   ·rw [if_neg (by omega)]
 unfold zvq zq1
 have := loop K 0 (by omega) (by omega)
 rw [hV, zqf, zq6, bne_self_eq_false, zql, show zqk K q.Turns q.Turns K (0 : Int) = some true from this, zqf, zqf]
theorem Rc.okc {K : Nat} {c : Clip} (h : Rc c) : Okc K c := by
 have h1 := h.tracks
 have h2 := zkm h.roots
 rw [List.length_map] at h2
 refine ⟨by omega, by omega, fun t ht => ?_⟩
 have := zkm (h.keys t ht)
 rw [List.length_map] at this
 omega
theorem sameClip {K : Nat} (hK : 100 < K) {c : Clip} (hc : Rc c) : laws_b10Clips K c c = some true := by
 have ht := hc.tracks
 have hrl := zkm hc.roots
 rw [List.length_map] at hrl
 have l5 : ∀ (k i : Nat), i ≤ c.Roots.length → c.Roots.length - i < k → zxs K c c k (i : Int) = some true := by
  intro k
  induction k with
  | zero => intro i _ h; omega
  | succ k ih =>
   intro i g1 g2
   rw [zxs, zqv]
   by_cases hi : i < c.Roots.length
   ·rw [if_pos (by omega), zqq (by omega), zqq (by omega), bne_self_eq_false, zql, sameV_refl, zqf, Bool.not_true, zqf, zql, zwk (by omega)]
    exact ih (i + 1) (by omega) (by omega)
   ·rw [if_neg (by omega)]
 have l4 : ∀ (x : Nat), x < c.Tracks.length → ∀ (k i : Nat), i ≤ (c.Tracks.getD x default).length → (c.Tracks.getD x default).length - i < k → zxa K c c (x : Int) k (i : Int) = some (.inl ()) := by
  intro x hx
  have hl := zkm (hc.keys _ (zji hx))
  rw [List.length_map] at hl
  intro k
  induction k with
  | zero => intro i _ h; omega
  | succ k ih =>
   intro i g1 g2
   rw [zxa, zqv, Int.toNat_natCast]
   by_cases hi : i < (c.Tracks.getD x default).length
   ·rw [if_pos (by omega), zqq (by omega), zqq (by omega), zqq (by omega), zqq (by omega), bne_self_eq_false, zql, sameT_refl, zqf, Bool.not_true, zqf, zql, zwk (by omega)]
    exact ih (i + 1) (by omega) (by omega)
   ·rw [if_neg (by omega)]
 have l3 : ∀ (k i : Nat), i ≤ c.Tracks.length → c.Tracks.length - i < k → zxd K c c k (i : Int) = some true := by
  intro k
  induction k with
  | zero => intro i _ h; omega
  | succ k ih =>
   intro i g1 g2
   rw [zxd, zqv]
   by_cases hi : i < c.Tracks.length
   ·have hl := zkm (hc.keys _ (zji hi))
    rw [List.length_map] at hl
    have := l4 i hi K 0 (by omega) (by omega)
    rw [if_pos (by omega), zqq (by omega), zqq (by omega), bne_self_eq_false, zql, show zxa K c c (i : Int) K (0 : Int) = _ from this, zwk (by omega)]
    exact ih (i + 1) (by omega) (by omega)
   ·rw [if_neg (by omega)]
    exact l5 K 0 (by omega) (by omega)
 unfold laws_b10Clips zyi zyr
 have := l3 K 0 (by omega) (by omega)
 rw [bne_self_eq_false, zql, bne_self_eq_false, zql, bne_self_eq_false, zql, bne_self_eq_false, zqf, zql, show zxd K c c K (0 : Int) = some true from this, zqf, zqf]
theorem chn_spec {len : Int} : ∀ {l : List Int} {last : Int}, chn len last l = true → (∀ x ∈ l, last < x ∧ x ≤ len) ∧ l.Pairwise (· < ·)
 | [], _, _ => ⟨fun x hx => (by cases hx), List.Pairwise.nil⟩
 | a :: l, last, h => by
  simp only [chn, Bool.and_eq_true, decide_eq_true_eq] at h
  obtain ⟨⟨h1, h2⟩, h3⟩ := h
  obtain ⟨g1, g2⟩ := chn_spec h3
  refine ⟨fun x hx => ?_, List.pairwise_cons.2 ⟨fun x hx => (g1 x hx).1, g2⟩⟩
  rcases List.mem_cons.1 hx with rfl | hx
  ·exact ⟨h1, h2⟩
  ·have := g1 x hx; omega
theorem zg1 {len : Int} {l : List Int} (h : vt len l = true) : Asc len l := by
 unfold vt at h
 simp only [Bool.and_eq_true] at h
 obtain ⟨h1, h2⟩ := chn_spec h.1
 exact ⟨h2, fun x hx => by have := h1 x hx; omega⟩
theorem zg7 {α : Type} [Inhabited α] {f : α → Int} {ks : List α} {len : Int} (h : Asc len (ks.map f)) {i j : Nat} (hij : i < j) (hj : j < ks.length) : f (ks.getD i default) < f (ks.getD j default) := by
 have := List.pairwise_iff_getElem.1 h.asc i j (by rw [List.length_map]; omega) (by rw [List.length_map]; exact hj) hij
 rw [List.getElem_map, List.getElem_map] at this
 rw [zxu (by omega), zxu hj]; exact this
theorem asc_in {α : Type} [Inhabited α] {f : α → Int} {ks : List α} {len : Int} (h : Asc len (ks.map f)) {j : Nat} (hj : j < ks.length) : 0 ≤ f (ks.getD j default) ∧ f (ks.getD j default) ≤ len := h.inn _ (List.mem_map_of_mem (zji hj))
theorem mend_impl (K : Nat) (a : Turn) : ∃ t, zvl K a = some t := by
 unfold zvl zvr zx2 zx6 zj5 zk7 zyf zjg zbh
 simp only [zqf, zqq (zci _), ite2_some]
 exact ⟨_, rfl⟩
theorem zd2 (K : Nat) (a b : Turn) (f : F32) : ∃ t, zvp K a b f = some t := by
 unfold zvp zx2 zj9 zxp
 simp only [zqf]
 cases e : ((((a.W.mul b.W).add (a.X.mul b.X)).add (a.Y.mul b.Y)).add (a.Z.mul b.Z)).lt' (Fl.mk (k := .f32) 0 (by decide))
 rotate_left
 ·rw [zq6]
  obtain ⟨t, h⟩ := mend_impl K (Turn.mk (a.W.add (f.mul ((Turn.mk b.W.neg b.X.neg b.Y.neg b.Z.neg).W.sub a.W))) (a.X.add (f.mul ((Turn.mk b.W.neg b.X.neg b.Y.neg b.Z.neg).X.sub a.X))) (a.Y.add (f.mul ((Turn.mk b.W.neg b.X.neg b.Y.neg b.Z.neg).Y.sub a.Y))) (a.Z.add (f.mul ((Turn.mk b.W.neg b.X.neg b.Y.neg b.Z.neg).Z.sub a.Z))))
  rw [h]
  exact ⟨t, rfl⟩
 ·rw [zql]
  obtain ⟨t, h⟩ := mend_impl K (Turn.mk (a.W.add (f.mul (b.W.sub a.W))) (a.X.add (f.mul (b.X.sub a.X))) (a.Y.add (f.mul (b.Y.sub a.Y))) (a.Z.add (f.mul (b.Z.sub a.Z))))
  rw [h]
  exact ⟨t, rfl⟩
theorem btw_some (K : Nat) (a b : Vector) (f : F32) : ∃ t, zx8 K a b f = some t := by
 unfold zx8 zv2 zv0 zkc
 simp only [zqf]
 exact ⟨_, rfl⟩
theorem key_stop {K : Nat} {ks : List Key} {kind t : Int} {k i : Nat} (hi : i ≤ ks.length) (h1 : 1 ≤ ks.length) (hl : ks.length ≤ 12) (hs : i < ks.length → ¬ (ks.getD i default).At ≤ t) : ∃ r, zqy K ks kind t (k + 1) (i : Int) = some r ∧ (1 ≤ i → (ks.getD (i - 1) default).At = t → r.Turn = (ks.getD (i - 1) default).Turn) := by
 have hA : ∀ x, zwo K x = some x.At := fun _ => rfl
 have hT : ∀ x y, zxv K x y = some (Key.mk y x.Turn) := fun _ _ => rfl
 have hB : ∀ x y z, ∃ r, zjd K x y z = some r := fun x y z => by
  unfold zjd
  obtain ⟨v, e⟩ := zd2 K x.Turn y.Turn z
  rw [e, zqf]
  exact ⟨_, rfl⟩
 rw [zqy]
 have hc : (ite2 (decide ((i : Int) < (ks.length : Int))) (chk (0 ≤ (i : Int) ∧ (i : Int) < (ks.length : Int)) ((zwo K (ks.getD (i : Int).toNat default)).bind fun v5 => some (decide (v5 ≤ t)))) (some false)) = some false := by
  rw [zqv]
  by_cases hlt : i < ks.length
  ·rw [if_pos (by omega), zqq (by omega), Int.toNat_natCast, hA, zqf, decide_eq_false (hs hlt)]
  ·rw [if_neg (by omega)]
 rw [hc, zqf, zql]
 by_cases h0 : i = 0
 ·subst h0
  rw [show (((0 : Nat) : Int) == 0) = true from rfl, zq6, zqq (by omega), hT, zqf]
  exact ⟨_, rfl, fun h => by omega⟩
 ·have w : IntKind.i64.wrap ((i : Int) - 1) = ((i - 1 : Nat) : Int) := by rw [zxj (by omega) (by omega)]; omega
  rw [show ((i : Int) == 0) = false by rw [beq_eq_false_iff_ne]; omega, zql, w]
  by_cases he : i = ks.length
  ·rw [show ((i : Int) == (ks.length : Int)) = true by rw [he, beq_self_eq_true], zq6, zqf, zq6, zqq (by omega), Int.toNat_natCast, hT, zqf]
   exact ⟨_, rfl, fun _ _ => rfl⟩
  ·rw [show ((i : Int) == (ks.length : Int)) = false by rw [beq_eq_false_iff_ne]; omega, zql, zqq (by omega), Int.toNat_natCast, hA, zqf]
   cases hq : ((ks.getD (i - 1) default).At == t)
   ·rw [zql, zqf]
    have hne : (ks.getD (i - 1) default).At ≠ t := by rw [beq_eq_false_iff_ne] at hq; exact hq
    cases hk : (kind == 0)
    ·rw [zql, zqq (by omega), zqq (by omega), zqf, Int.toNat_natCast, hA, zqf]
     unfold zvn
     rw [zqf]
     cases hk2 : (kind == 2)
     ·obtain ⟨r, e⟩ := hB (ks.getD (i - 1) default) (ks.getD i default) ((Fl.ofInt .f32 (IntKind.i64.wrap (t - (ks.getD (i - 1) default).At))).div (Fl.ofInt .f32 (IntKind.i64.wrap ((ks.getD i default).At - (ks.getD (i - 1) default).At))))
      rw [zql, e, zqf, hT, zqf]
      exact ⟨_, rfl, fun _ h => absurd h hne⟩
     ·rw [zq6]
      generalize (Fl.ofInt .f32 (IntKind.i64.wrap (t - (ks.getD (i - 1) default).At))).div (Fl.ofInt .f32 (IntKind.i64.wrap ((ks.getD i default).At - (ks.getD (i - 1) default).At))) = z
      obtain ⟨r, e⟩ := hB (ks.getD (i - 1) default) (ks.getD i default) ((z.mul z).mul ((Fl.mk (k := .f32) 1077936128 (by decide)).sub ((Fl.mk (k := .f32) 1073741824 (by decide)).mul z)))
      rw [e, zqf, hT, zqf]
      exact ⟨_, rfl, fun _ h => absurd h hne⟩
    ·rw [zq6, zqq (by omega), hT, zqf]
     exact ⟨_, rfl, fun _ h => absurd h hne⟩
   ·rw [zq6, zqf, zq6, zqq (by omega), hT, zqf]
    exact ⟨_, rfl, fun _ _ => rfl⟩
theorem zdi {K : Nat} {ks : List Key} {kind t len : Int} (hK : 100 < K) (hv : vt len (ks.map Key.At) = true) : ∃ r, zwz K ks kind t = some r ∧ ∀ m, m < ks.length → (ks.getD m default).At = t → r.Turn = (ks.getD m default).Turn := by
 have hl := zkm hv
 rw [List.length_map] at hl
 have ha := zg1 hv
 have loop : ∀ (k i : Nat), i ≤ ks.length → ks.length - i < k → (∀ j, j < i → (ks.getD j default).At ≤ t) → ∃ r, zqy K ks kind t k (i : Int) = some r ∧ ∀ m, m < ks.length → (ks.getD m default).At = t → r.Turn = (ks.getD m default).Turn := by
  intro k
  induction k with
  | zero => intro i _ h; omega
  | succ k ih =>
   intro i g1 g2 g3
   by_cases hgo : i < ks.length ∧ (ks.getD i default).At ≤ t
   ·obtain ⟨r, e, hr⟩ := ih (i + 1) (by omega) (by omega) (fun j hj => by
     by_cases e : j = i
     ·rw [e]; exact hgo.2
     ·exact g3 j (by omega))
    refine ⟨r, ?_, hr⟩
    rw [zqy, zqv, if_pos (by omega), zqq (by omega), Int.toNat_natCast, show zwo K (ks.getD i default) = some (ks.getD i default).At from rfl, zqf, decide_eq_true hgo.2, zqf, zq6, zwk (by omega)]
    exact e
   ·have hs : i < ks.length → ¬ (ks.getD i default).At ≤ t := fun h1 h2 => hgo ⟨h1, h2⟩
    obtain ⟨r, e, hr⟩ := key_stop (K := K) (kind := kind) (k := k) g1 hl.1 hl.2 hs
    refine ⟨r, e, fun m hm he => ?_⟩
    have m1 : m < i := by
     apply Classical.byContradiction
     intro hmi
     have h1 := hs (by omega)
     by_cases e : m = i
     ·rw [← e] at h1; omega
     ·have := zg7 ha (i := i) (j := m) (by omega) hm
      omega
    have m2 : m = i - 1 := by
     apply Classical.byContradiction
     intro hne
     have h1 := zg7 ha (i := m) (j := i - 1) (by omega) (by omega)
     have h2 := g3 (i - 1) (by omega)
     omega
    rw [m2] at he ⊢
    exact hr (by omega) he
 have := loop K 0 (by omega) (by omega) (fun j hj => by omega)
 exact this
theorem root_stop {K : Nat} {ks : List RootKey} {kind t : Int} {k i : Nat} (hi : i ≤ ks.length) (h1 : 1 ≤ ks.length) (hl : ks.length ≤ 12) (hs : i < ks.length → ¬ (ks.getD i default).At ≤ t) : ∃ r, zqt K ks kind t (k + 1) (i : Int) = some r ∧ (1 ≤ i → (ks.getD (i - 1) default).At = t → r.Place = (ks.getD (i - 1) default).Place) := by
 have hA : ∀ x, zwn K x = some x.At := fun _ => rfl
 have hT : ∀ x y, zxw K x y = some (RootKey.mk y x.Place) := fun _ _ => rfl
 have hB : ∀ x y z, ∃ r, zje K x y z = some r := fun x y z => by
  unfold zje
  obtain ⟨v, e⟩ := btw_some K x.Place y.Place z
  rw [e, zqf]
  exact ⟨_, rfl⟩
 rw [zqt]
 have hc : (ite2 (decide ((i : Int) < (ks.length : Int))) (chk (0 ≤ (i : Int) ∧ (i : Int) < (ks.length : Int)) ((zwn K (ks.getD (i : Int).toNat default)).bind fun v5 => some (decide (v5 ≤ t)))) (some false)) = some false := by
  rw [zqv]
  by_cases hlt : i < ks.length
  ·rw [if_pos (by omega), zqq (by omega), Int.toNat_natCast, hA, zqf, decide_eq_false (hs hlt)]
  ·rw [if_neg (by omega)]
 rw [hc, zqf, zql]
 by_cases h0 : i = 0
 ·subst h0
  rw [show (((0 : Nat) : Int) == 0) = true from rfl, zq6, zqq (by omega), hT, zqf]
  exact ⟨_, rfl, fun h => by omega⟩
 ·have w : IntKind.i64.wrap ((i : Int) - 1) = ((i - 1 : Nat) : Int) := by rw [zxj (by omega) (by omega)]; omega
  rw [show ((i : Int) == 0) = false by rw [beq_eq_false_iff_ne]; omega, zql, w]
  by_cases he : i = ks.length
  ·rw [show ((i : Int) == (ks.length : Int)) = true by rw [he, beq_self_eq_true], zq6, zqf, zq6, zqq (by omega), Int.toNat_natCast, hT, zqf]
   exact ⟨_, rfl, fun _ _ => rfl⟩
  ·rw [show ((i : Int) == (ks.length : Int)) = false by rw [beq_eq_false_iff_ne]; omega, zql, zqq (by omega), Int.toNat_natCast, hA, zqf]
   cases hq : ((ks.getD (i - 1) default).At == t)
   ·rw [zql, zqf]
    have hne : (ks.getD (i - 1) default).At ≠ t := by rw [beq_eq_false_iff_ne] at hq; exact hq
    cases hk : (kind == 0)
    ·rw [zql, zqq (by omega), zqq (by omega), zqf, Int.toNat_natCast, hA, zqf]
     unfold zvn
     rw [zqf]
     cases hk2 : (kind == 2)
     ·obtain ⟨r, e⟩ := hB (ks.getD (i - 1) default) (ks.getD i default) ((Fl.ofInt .f32 (IntKind.i64.wrap (t - (ks.getD (i - 1) default).At))).div (Fl.ofInt .f32 (IntKind.i64.wrap ((ks.getD i default).At - (ks.getD (i - 1) default).At))))
      rw [zql, e, zqf, hT, zqf]
      exact ⟨_, rfl, fun _ h => absurd h hne⟩
     ·rw [zq6]
      generalize (Fl.ofInt .f32 (IntKind.i64.wrap (t - (ks.getD (i - 1) default).At))).div (Fl.ofInt .f32 (IntKind.i64.wrap ((ks.getD i default).At - (ks.getD (i - 1) default).At))) = z
      obtain ⟨r, e⟩ := hB (ks.getD (i - 1) default) (ks.getD i default) ((z.mul z).mul ((Fl.mk (k := .f32) 1077936128 (by decide)).sub ((Fl.mk (k := .f32) 1073741824 (by decide)).mul z)))
      rw [e, zqf, hT, zqf]
      exact ⟨_, rfl, fun _ h => absurd h hne⟩
    ·rw [zq6, zqq (by omega), hT, zqf]
     exact ⟨_, rfl, fun _ h => absurd h hne⟩
   ·rw [zq6, zqf, zq6, zqq (by omega), hT, zqf]
    exact ⟨_, rfl, fun _ _ => rfl⟩
theorem root_sample {K : Nat} {ks : List RootKey} {kind t len : Int} (hK : 100 < K) (hv : vt len (ks.map RootKey.At) = true) : ∃ r, zw1 K ks kind t = some r ∧ ∀ m, m < ks.length → (ks.getD m default).At = t → r.Place = (ks.getD m default).Place := by
 have hl := zkm hv
 rw [List.length_map] at hl
 have ha := zg1 hv
 have loop : ∀ (k i : Nat), i ≤ ks.length → ks.length - i < k → (∀ j, j < i → (ks.getD j default).At ≤ t) → ∃ r, zqt K ks kind t k (i : Int) = some r ∧ ∀ m, m < ks.length → (ks.getD m default).At = t → r.Place = (ks.getD m default).Place := by
  intro k
  induction k with
  | zero => intro i _ h; omega
  | succ k ih =>
   intro i g1 g2 g3
   by_cases hgo : i < ks.length ∧ (ks.getD i default).At ≤ t
   ·obtain ⟨r, e, hr⟩ := ih (i + 1) (by omega) (by omega) (fun j hj => by
     by_cases e : j = i
     ·rw [e]; exact hgo.2
     ·exact g3 j (by omega))
    refine ⟨r, ?_, hr⟩
    rw [zqt, zqv, if_pos (by omega), zqq (by omega), Int.toNat_natCast, show zwn K (ks.getD i default) = some (ks.getD i default).At from rfl, zqf, decide_eq_true hgo.2, zqf, zq6, zwk (by omega)]
    exact e
   ·have hs : i < ks.length → ¬ (ks.getD i default).At ≤ t := fun h1 h2 => hgo ⟨h1, h2⟩
    obtain ⟨r, e, hr⟩ := root_stop (K := K) (kind := kind) (k := k) g1 hl.1 hl.2 hs
    refine ⟨r, e, fun m hm he => ?_⟩
    have m1 : m < i := by
     apply Classical.byContradiction
     intro hmi
     have h1 := hs (by omega)
     by_cases e : m = i
     ·rw [← e] at h1; omega
     ·have := zg7 ha (i := i) (j := m) (by omega) hm
      omega
    have m2 : m = i - 1 := by
     apply Classical.byContradiction
     intro hne
     have h1 := zg7 ha (i := m) (j := i - 1) (by omega) (by omega)
     have h2 := g3 (i - 1) (by omega)
     omega
    rw [m2] at he ⊢
    exact hr (by omega) he
 have := loop K 0 (by omega) (by omega) (fun j hj => by omega)
 exact this
def smp (K : Nat) (c : Clip) (t : Int) (j : Nat) : Turn := ((zwz K (c.Tracks.getD j default) c.Kind t).getD default).Turn
theorem sample_eq {K n : Nat} (hK : 1048577 < K) {c : Clip} (hc : Rc c) (hn : c.Tracks.length = n) {t : Int} (ht : 0 ≤ t ∧ t ≤ c.Length) : ∃ q, zju K c t = some (q, true) ∧ q.Turns.length = n ∧ (∀ x, x < n → ∀ m, m < (c.Tracks.getD x default).length → ((c.Tracks.getD x default).getD m default).At = t → q.Turns.getD x default = ((c.Tracks.getD x default).getD m default).Turn) ∧ ∀ m, m < c.Roots.length → (c.Roots.getD m default).At = t → q.Root = (c.Roots.getD m default).Place := by
 have htr := hc.tracks
 obtain ⟨rr, e1, e2⟩ := root_sample (K := K) (kind := c.Kind) (t := t) (by omega) hc.roots
 obtain ⟨r, r1, r2, r3⟩ := fill_loop n (List.replicate c.Tracks.length default) (smp K c t) (fun xs => Pose.mk rr.Place xs) (fun k i xs => zqx K c t rr.Place k i xs) (fun k xs hx => by
   show zqx K c t rr.Place (k + 1) (n : Int) xs = _
   rw [zqx, zqv, if_neg (by omega)]) (fun k i xs hi hx _ => by
   show zqx K c t rr.Place (k + 1) (i : Int) xs = _
   obtain ⟨v, v1, _⟩ := zdi (K := K) (kind := c.Kind) (t := t) (by omega) (hc.keys _ (zji (xs := c.Tracks) (i := i) (by omega)))
   have hg : smp K c t i = v.Turn := by unfold smp; rw [v1]; rfl
   rw [zqx, zqv, if_pos (by omega), zqq (by omega), Int.toNat_natCast]
   unfold zjo
   rw [zqf, v1, zqf, zqq (by omega), zwk (by omega), hg]) K 0 (List.replicate c.Tracks.length default) (by omega) (by omega) (by rw [List.length_replicate]; exact hn) (fun j hj => by omega) (fun j _ => rfl)
 refine ⟨Pose.mk rr.Place r, ?_, r2, fun x hx m hm he => ?_, fun m hm he => e2 m hm he⟩
 ·unfold zju zyy zwx zvw zjl
  rw [zvf hK hc.okc, validC_spec.2 hc, zqf, zq6, zqv, if_pos (show t ≥ 0 from ht.1), decide_eq_true ht.2, zqf, zqf, Bool.not_true, zql, zqf, e1, zqf, zqf, zqq (by omega), Int.toNat_natCast]
  rw [show zqx K c t rr.Place K (0 : Int) (List.replicate c.Tracks.length default) = _ from r1, zqf]
 ·obtain ⟨v, v1, v2⟩ := zdi (K := K) (kind := c.Kind) (t := t) (by omega) (hc.keys _ (zji (xs := c.Tracks) (i := x) (by omega)))
  show r.getD x default = _
  rw [r3 x hx]
  unfold smp
  rw [v1]
  exact v2 m hm he
theorem sumC_l {α β γ : Type} (a : α) (f : α → Option γ) (g : β → Option γ) : sumC (.inl a) f g = f a := rfl
theorem map_getD {α β : Type} [Inhabited α] [Inhabited β] {f : α → β} {l : List α} {j : Nat} (h : j < l.length) : (l.map f).getD j default = f (l.getD j default) := by
 rw [zxu (by rw [List.length_map]; exact h), List.getElem_map, zxu h]

end Go.Fw
