/- Clips that are drawn are right. (A template.) -/
import Derived.Test.YtbfcahbecedaiadFwGFMirA
namespace Go.Fw
open Go

/-- Times that ascend, in their range. -/
structure Asc (len : Int) (l : List Int) : Prop where
  asc : l.Pairwise (· < ·)
  inn : ∀ x ∈ l, 0 ≤ x ∧ x ≤ len
theorem chn_of {len : Int} : ∀ {l : List Int} {last : Int}, l.Pairwise (· < ·) → (∀ x ∈ l, last < x ∧ x ≤ len) → chn len last l = true
  | [], _, _, _ => rfl
  | a :: l, last, h1, h2 => by
    have ha := h2 a List.mem_cons_self
    rw [List.pairwise_cons] at h1
    simp only [chn, Bool.and_eq_true, decide_eq_true_eq]
    exact ⟨ha, chn_of h1.2 fun x hx => ⟨h1.1 x hx, (h2 x (List.mem_cons_of_mem _ hx)).2⟩⟩
theorem Asc.vt {len : Int} {l : List Int} (h : Asc len l) (h1 : 1 ≤ l.length) (h2 : l.length ≤ 12) : vt len l = true := by
  unfold Go.Fw.vt vtE
  simp only [Bool.and_eq_true, decide_eq_true_eq]
  exact ⟨chn_of h.asc fun x hx => by have := h.inn x hx; omega, by omega, by omega⟩
theorem Asc.add {len x : Int} {l : List Int} (h : Asc len l) (hx : 0 ≤ x ∧ x ≤ len) (hl : ∀ y ∈ l, y < x) : Asc len (l ++ [x]) := by
  refine ⟨List.pairwise_append.2 ⟨h.asc, List.pairwise_singleton _ _, fun a ha b hb => ?_⟩, fun y hy => ?_⟩
  · rw [List.mem_singleton] at hb
    rw [hb]; exact hl a ha
  · rcases List.mem_append.1 hy with hy | hy
    · exact h.inn y hy
    · rw [List.mem_singleton] at hy
      rw [hy]; exact hx
theorem put_loop {K : Nat} {a0 : List Int} {a1 len : Int} (h0 : Asc len a0) (ha : 0 ≤ a1 ∧ a1 ≤ len) (hl : a0.length ≤ 100) : ∀ (k i : Nat) (b : Bool) (ys : List Int), i ≤ a0.length → a0.length - i < k → Asc len ys → (∀ y ∈ ys, ∀ x ∈ a0.drop i, y < x) → (b = false → ∀ y ∈ ys, y < a1) → (b = true → ∀ x ∈ a0.drop i, a1 < x ∨ a1 < x) → ys.length ≤ i + 1 → (b = false → ys.length ≤ i) → (b = true → 1 ≤ ys.length) →
    ∃ r, spec_l00Put_l1 K a0 a1 k b (i : Int) ys = some r ∧ Asc len r ∧ 1 ≤ r.length ∧ r.length ≤ a0.length + 1 := by
  intro k
  induction k with
  | zero => intro i _ _ _ h; omega
  | succ k ih =>
    intro i b ys g1 g2 g3 g4 g5 g6 g7 g8 g9
    rw [spec_l00Put_l1, ite2_dec]
    by_cases hi : i < a0.length
    · have hd : a0.drop i = a0.getD i default :: a0.drop (i + 1) := by rw [List.drop_eq_getElem_cons hi, getD_of_lt hi]
      have hx := h0.inn _ (getD_mem hi)
      have hpw : ∀ z ∈ a0.drop (i + 1), a0.getD i default < z := by
        have := h0.asc.drop (i := i)
        rw [hd, List.pairwise_cons] at this
        exact this.1
      have hyx : ∀ y ∈ ys, y < a0.getD i default := fun y hy => g4 y hy _ (by rw [hd]; exact List.mem_cons_self)
      have hyz : ∀ y ∈ ys, ∀ z ∈ a0.drop (i + 1), y < z := fun y hy z hz => g4 y hy z (by rw [hd]; exact List.mem_cons_of_mem _ hz)
      generalize hxx : a0.getD i default = x at hx hpw hyx
      have one : ∀ y ∈ ys ++ [x], ∀ z ∈ a0.drop (i + 1), y < z := fun y hy z hz => by
        rcases List.mem_append.1 hy with hy | hy
        · exact hyz y hy z hz
        · rw [List.mem_singleton] at hy
          rw [hy]; exact hpw z hz
      rw [if_pos (by omega), Int.toNat_natCast, hxx]
      cases b
      · have g5 := g5 rfl; have g8 := g8 rfl
        rw [Bool.not_false, ite2_true, chk_pos (by omega), bind_of, ite2_dec]
        by_cases c1 : x ≥ a1
        · rw [if_pos c1, chk_pos (by omega), ite2_dec]
          by_cases c2 : x > a1
          · rw [if_pos c2, chk_pos (by simp; omega), chk_pos (by simp; omega), wrap_nat1 (by omega)]
            refine ih (i + 1) true _ (by omega) (by omega) ((g3.add ha g5).add hx fun y hy => ?_) (fun y hy z hz => ?_) (fun h => by cases h) (fun _ z hz => .inl ?_) (by simp; omega) (fun h => by cases h) (fun _ => by simp)
            · rcases List.mem_append.1 hy with hy | hy
              · exact hyx y hy
              · rw [List.mem_singleton] at hy
                rw [hy]; exact c2
            · have hz2 := hpw z hz
              rcases List.mem_append.1 hy with hy | hy
              · rcases List.mem_append.1 hy with hy | hy
                · exact hyz y hy z hz
                · rw [List.mem_singleton] at hy
                  rw [hy]; omega
              · rw [List.mem_singleton] at hy
                rw [hy]; exact hz2
            · have := hpw z hz; omega
          · rw [if_neg c2, chk_pos (by simp; omega), wrap_nat1 (by omega)]
            exact ih (i + 1) true _ (by omega) (by omega) (g3.add hx hyx) one (fun h => by cases h) (fun _ z hz => .inl (by have := hpw z hz; omega)) (by simp; omega) (fun h => by cases h) (fun _ => by simp)
        · rw [if_neg c1, chk_pos (by omega), chk_pos (by simp; omega), wrap_nat1 (by omega)]
          refine ih (i + 1) false _ (by omega) (by omega) (g3.add hx hyx) one (fun _ y hy => ?_) (fun h => by cases h) (by simp; omega) (fun _ => by simp; omega) (fun h => by cases h)
          rcases List.mem_append.1 hy with hy | hy
          · exact g5 y hy
          · rw [List.mem_singleton] at hy
            rw [hy]; omega
      · have g6 := g6 rfl; have g9 := g9 rfl
        rw [Bool.not_true, ite2_false, bind_of, ite2_false, chk_pos (by omega), chk_pos (by simp; omega), wrap_nat1 (by omega)]
        exact ih (i + 1) true _ (by omega) (by omega) (g3.add hx hyx) one (fun h => by cases h) (fun _ z hz => g6 z (by rw [hd]; exact List.mem_cons_of_mem _ hz)) (by simp; omega) (fun h => by cases h) (fun _ => by simp)
    · rw [if_neg (by omega)]
      cases b
      · have g8 := g8 rfl
        rw [Bool.not_false, ite2_true, chk_pos (by simp; omega)]
        exact ⟨_, rfl, g3.add ha (g5 rfl), by simp, by simp; omega⟩
      · rw [Bool.not_true, ite2_false]
        exact ⟨ys, rfl, g3, g9 rfl, by omega⟩
theorem put_eq {K : Nat} (hK : 200 < K) {a0 : List Int} {a1 len : Int} (h0 : Asc len a0) (ha : 0 ≤ a1 ∧ a1 ≤ len) (hl : a0.length ≤ 100) : ∃ r, spec_l00Put K a0 a1 = some r ∧ Asc len r ∧ 1 ≤ r.length ∧ r.length ≤ a0.length + 1 := by
  have := put_loop (K := K) h0 ha hl K 0 false [] (by omega) (by omega) ⟨List.Pairwise.nil, fun x hx => by cases hx⟩ (fun y hy => by cases hy) (fun _ y hy => by cases hy) (fun h => by cases h) (by simp) (fun _ => by simp) (fun h => by cases h)
  exact this
theorem Dr.got {α β : Type} {at_ c : Int} {f : Option β} {x : β} {g : β → Option (α × Int × Int)} {P : α → Prop} (h : f = some x) (h2 : Dr at_ c (g x) P) : Dr at_ c (f.bind g) P := by rw [h]; exact h2
theorem times_loop_dr {K : Nat} (hK : 200 < K) {c : List Int} (hc : Byt c) (at0 sd0 : Int) (len : Nat) (hlen : 1 ≤ len ∧ len ≤ 1000) : ∀ (k t : Nat) (a s : Int) (l : List Int), t < k → Asc (len : Int) l → l.length + t ≤ 5 → 1 ≤ l.length + t →
    Dr a (2 * (t : Int) + 2) (spec_l05DrawTimes_l1 K (l00Src.mk c at0 sd0) (len : Int) k (t : Int) a s l) (fun r => vt (len : Int) r = true) := by
  intro k
  induction k with
  | zero => intro t _ _ _ h; omega
  | succ k ih =>
    intro t a s l h1 h2 h3 h4
    rw [spec_l05DrawTimes_l1]
    refine .ite (fun g => ?_) fun g => ?_
    · have ht : 0 < t := by have := of_decide_eq_true g; omega
      have w1 : IntKind.i64.wrap ((len : Int) + 1) = (len : Int) + 1 := wrap_in (by omega) (by omega)
      have w2 : IntKind.i64.wrap ((t : Int) - 1) = ((t - 1 : Nat) : Int) := by rw [wrap_in (by omega) (by omega)]; omega
      rw [w1, w2, show 2 * (t : Int) + 2 = 2 + (2 * ((t - 1 : Nat) : Int) + 2) by omega]
      refine Dr.bind (pick_dr hc a s _) (by omega) fun r a1 s1 hr => ?_
      obtain ⟨l2, e1, e2, e3, e4⟩ := put_eq hK h2 (a1 := r) (by omega) (by omega)
      exact .got e1 (ih (t - 1) a1 s1 l2 (by omega) e2 (by omega) (by omega))
    · have ht : t = 0 := by have := of_decide_eq_false g; omega
      subst ht
      rw [show 2 * ((0 : Nat) : Int) + 2 = 2 + 0 by omega]
      refine Dr.bind (one_dr hc a s 3) (by omega) fun r a1 s1 _ => .ite (fun _ => ?_) fun _ => ?_
      · obtain ⟨l2, e1, e2, e3, e4⟩ := put_eq hK h2 (a1 := 0) (by omega) (by omega)
        obtain ⟨l3, f1, f2, f3, f4⟩ := put_eq hK e2 (a1 := (len : Int)) (by omega) (by omega)
        exact .got e1 (.got f1 (.of (f2.vt f3 (by omega)) (by omega) rfl))
      · exact .of (h2.vt (by omega) (by omega)) (by omega) rfl
theorem times_dr {K : Nat} (hK : 200 < K) {c : List Int} (hc : Byt c) (at_ sd : Int) (len : Nat) (hlen : 1 ≤ len ∧ len ≤ 1000) : Dr at_ 12 (spec_l05DrawTimes K (l00Src.mk c at_ sd) (len : Int)) (fun r => vt (len : Int) r = true) := by
  unfold spec_l05DrawTimes
  refine Dr.bind (c1 := 2) (c2 := 10) (pick_dr hc at_ sd 4) (by omega) fun r a1 s1 hr => ?_
  obtain ⟨t, ht⟩ : ∃ t : Nat, 1 + r = (t : Int) := ⟨(1 + r).toNat, by omega⟩
  rw [wrap_in (by omega) (by omega), ht]
  exact Dr.weak (times_loop_dr hK hc _ _ len hlen K t a1 s1 [] (by omega) ⟨List.Pairwise.nil, fun x hx => by cases hx⟩ (by simp; omega) (by simp; omega)) (by omega) fun _ h => h
theorem keys_loop {K : Nat} {c : List Int} (hc : Byt c) (at0 sd0 : Int) (v : List Int × Int × Int) (hv : v.1.length ≤ 12) : ∀ (k i : Nat) (a s : Int) (ks : List Key), i ≤ v.1.length → v.1.length - i < k → ks.map Key.At = v.1.take i → 0 ≤ a → a + 10 * ((v.1.length - i : Nat) : Int) ≤ 4611686018427387904 →
    ∃ a' s' r, spec_l05DrawSized_l5 K (l00Src.mk c at0 sd0) v k (i : Int) a s ks = some (a', s', r) ∧ r.map Key.At = v.1 ∧ 0 ≤ a' ∧ a' ≤ a + 10 * ((v.1.length - i : Nat) : Int) := by
  intro k
  induction k with
  | zero => intro i _ _ _ _ h; omega
  | succ k ih =>
    intro i a s ks h1 h2 h3 h4 h5
    have hlen : ks.length = i := by have := congrArg List.length h3; rw [List.length_map, List.length_take] at this; omega
    rw [spec_l05DrawSized_l5, ite2_dec]
    by_cases hi : i < v.1.length
    · obtain ⟨t, a1, s1, e1, _, q1, q2⟩ := turn_dr (K := K) hc a s h4 (by omega)
      have h6 : (ks ++ [Key.mk (v.1.getD i default) t]).map Key.At = v.1.take (i + 1) := by rw [List.map_append, h3, take_succ_getD hi]; rfl
      obtain ⟨a', s', r, g1, g2, g3, g4⟩ := ih (i + 1) a1 s1 _ (by omega) (by omega) h6 q1 (by omega)
      refine ⟨a', s', r, ?_, g2, g3, by omega⟩
      rw [if_pos (by omega), chk_pos (by omega), e1, bind_of, Int.toNat_natCast, chk_pos (by simp; omega), wrap_nat1 (by omega)]
      exact g1
    · have : i = v.1.length := by omega
      rw [if_neg (by omega)]
      exact ⟨a, s, ks, rfl, by rw [h3, this, List.take_length], h4, by omega⟩
theorem roots_loop {K : Nat} {c : List Int} (hc : Byt c) (at0 sd0 kind : Int) (v1 : Int × Int × Int) (ts : List (List Key)) (v : List Int × Int × Int) (hv : v.1.length ≤ 12) (len : Nat) (hlen : 1 + v1.1 = (len : Int)) (hlen2 : len ≤ 1000) : ∀ (k i : Nat) (a s : Int) (ks : List RootKey), i ≤ v.1.length → v.1.length - i < k → ks.map RootKey.At = v.1.take i →
    Dr a (18 * ((v.1.length - i : Nat) : Int)) (spec_l05DrawSized_l6 K (l00Src.mk c at0 sd0) kind v1 ts v k (i : Int) a s ks) (fun r => r.Length = (len : Int) ∧ r.Kind = kind ∧ r.Tracks = ts ∧ r.Roots.map RootKey.At = v.1) := by
  intro k
  induction k with
  | zero => intro i _ _ _ _ h; omega
  | succ k ih =>
    intro i a s ks h1 h2 h3
    have hl : ks.length = i := by have := congrArg List.length h3; rw [List.length_map, List.length_take] at this; omega
    rw [spec_l05DrawSized_l6]
    refine .ite (fun g => ?_) fun g => ?_
    · have hi : i < v.1.length := by have := of_decide_eq_true g; omega
      rw [show 18 * ((v.1.length - i : Nat) : Int) = 18 + 18 * ((v.1.length - (i + 1) : Nat) : Int) by omega, wrap_nat1 (by omega), Int.toNat_natCast]
      refine .chk (by omega) (Dr.bind (vector_dr hc a s) (by omega) fun x a1 s1 _ => .chk (by simp; omega) ?_)
      exact ih (i + 1) a1 s1 _ (by omega) (by omega) (by rw [List.map_append, h3, take_succ_getD hi]; rfl)
    · have : i = v.1.length := by have := of_decide_eq_false g; omega
      rw [wrap_in (by omega) (by omega), hlen]
      exact .of ⟨rfl, rfl, rfl, by rw [h3, this, List.take_length]⟩ (by omega) rfl
theorem tracks_loop {K : Nat} (hK : 200 < K) {c : List Int} (hc : Byt c) (at0 sd0 kind : Int) (v1 : Int × Int × Int) (len : Nat) (hlen : 1 + v1.1 = (len : Int)) (hlen2 : 1 ≤ len ∧ len ≤ 1000) (n : Nat) (hn : n ≤ 12) : ∀ (k t : Nat) (a s : Int) (ts : List (List Key)), t < k → ts.length + t = n → (∀ x ∈ ts, vt (len : Int) (x.map Key.At) = true) → 0 ≤ a → a + 140 * (t : Int) + 240 ≤ 4611686018427387904 →
    ∃ r a' s', spec_l05DrawSized_l4 K (l00Src.mk c at0 sd0) kind v1 k (t : Int) a s ts = some (r, a', s') ∧ r.Length = (len : Int) ∧ r.Kind = kind ∧ r.Tracks.length = n ∧ (∀ x ∈ r.Tracks, vt (len : Int) (x.map Key.At) = true) ∧ vt (len : Int) (r.Roots.map RootKey.At) = true := by
  intro k
  induction k with
  | zero => intro t _ _ _ h; omega
  | succ k ih =>
    intro t a s ts h1 h2 h3 h4 h5
    rw [spec_l05DrawSized_l4, ite2_dec, wrap_in (show -9223372036854775808 ≤ (1 : Int) + v1.1 by omega) (by omega), hlen]
    obtain ⟨l, a1, s1, e1, l1, q1, q2⟩ := times_dr (K := K) hK hc a s len hlen2 h4 (by omega)
    have hl := vt_len l1
    by_cases ht : 0 < t
    · obtain ⟨a2, s2, ks, e2, k1, k2, k3⟩ := keys_loop (K := K) hc at0 sd0 (l, a1, s1) (by show l.length ≤ 12; omega) K 0 a1 s1 [] (by omega) (by show l.length - 0 < K; omega) rfl q1 (by show a1 + 10 * ((l.length - 0 : Nat) : Int) ≤ _; omega)
      have k3 : a2 ≤ a1 + 10 * ((l.length - 0 : Nat) : Int) := k3
      have w2 : IntKind.i64.wrap ((t : Int) - 1) = ((t - 1 : Nat) : Int) := by rw [wrap_in (by omega) (by omega)]; omega
      obtain ⟨r, a', s', g⟩ := ih (t - 1) a2 s2 (ts ++ [ks]) (by omega) (by simp; omega) (fun x hx => by
        rcases List.mem_append.1 hx with hx | hx
        · exact h3 x hx
        · rw [List.mem_singleton] at hx
          rw [hx, k1]; exact l1) k2 (by omega)
      refine ⟨r, a', s', ?_, g.2⟩
      rw [if_pos (by omega), e1, bind_of]
      rw [show ((0 : Nat) : Int) = 0 from rfl] at e2
      rw [e2, bind_of, chk_pos (by simp; omega), w2]
      exact g.1
    · have : t = 0 := by omega
      subst this
      obtain ⟨r, a', s', e2, ⟨r1, r2, r3, r4⟩, _⟩ := roots_loop (K := K) hc at0 sd0 kind v1 ts (l, a1, s1) (by show l.length ≤ 12; omega) len hlen hlen2.2 K 0 a1 s1 [] (by omega) (by show l.length - 0 < K; omega) rfl q1 (by show a1 + 18 * ((l.length - 0 : Nat) : Int) ≤ _; omega)
      rw [if_neg (by omega), e1, bind_of]
      rw [show ((0 : Nat) : Int) = 0 from rfl] at e2
      refine ⟨r, a', s', e2, r1, r2, by rw [r3]; omega, by rw [r3]; exact h3, ?_⟩
      rw [r4]; exact l1
theorem clip_drawn {K : Nat} (hK : 200 < K) {c : List Int} (hc : Byt c) (kind : Int) (hk : 0 ≤ kind ∧ kind ≤ 2) (n : Nat) (hn : 1 ≤ n ∧ n ≤ 12) (x : Clip) (hx : x.Tracks.length = n) (hx2 : x.Kind = kind) : ∃ r, spec_B10Like K c x = some r ∧ Rc r ∧ r.Tracks.length = n := by
  unfold spec_B10Like spec_l05DrawSized
  obtain ⟨v, a1, s1, e1, p1, q1, q2⟩ := pick_dr (K := K) hc 0 0 16 (by omega) (by omega)
  obtain ⟨len, hlen⟩ : ∃ len : Nat, 1 + v = (len : Int) := ⟨(1 + v).toNat, by omega⟩
  obtain ⟨r, a', s', g1, g2, g3, g4, g5, g6⟩ := tracks_loop (K := K) hK hc 0 0 kind (v, a1, s1) len hlen (by omega) n (by omega) K n a1 s1 [] (by omega) (by simp) (fun x hx => by cases hx) q1 (by omega)
  refine ⟨r, ?_, ⟨by rw [g2]; omega, by rw [g3]; exact hk, by rw [g4]; exact hn, by rw [g2]; exact g5, by rw [g2]; exact g6⟩, g4⟩
  rw [hx, hx2, e1, bind_of]
  rw [g1, bind_of]

end Go.Fw
