/- Stored recordings: what is read of bytes, and what is written. -/
import Derived.Test.YtdddhokfmablnadFwGDRcRec
namespace Go.Fw
open Go

/-! What is read of a record. -/
/-- The word at a place. -/
def wdAt (s : ByteArray) (p : Nat) : Nat := (((bt s p).toNat ||| (bt s (p + 1)).toNat * 2 ^ 8) ||| (bt s (p + 2)).toNat * 2 ^ 16) ||| (bt s (p + 3)).toNat * 2 ^ 24
theorem bt_nat (s : ByteArray) (p : Nat) : (bt s p).toNat < 256 ∧ bt s p = ((bt s p).toNat : Int) := by
  obtain ⟨c, h, e⟩ := bt_range s p
  rw [e]; exact ⟨by rw [Int.toNat_natCast]; exact h, by rw [Int.toNat_natCast]⟩
theorem wdAt_lt (s : ByteArray) (p : Nat) : wdAt s p < 2 ^ 32 := word_lt _ _ _ _ (bt_nat s p).1 (bt_nat s (p + 1)).1 (bt_nat s (p + 2)).1 (bt_nat s (p + 3)).1
/-- The number at a place. -/
def flAt (s : ByteArray) (p : Nat) : F32 := Fl.of .f32 (wdAt s p) (wdAt_lt s p)
/-- Numbers read one after another. -/
def upd (s : ByteArray) (a : Nat) : Nat → Nat → List F32 → List F32
  | 0, _, xs => xs
  | c + 1, j, xs => upd s a c (j + 1) (xs.set (bt s (a + 1 + 5 * j)).toNat (flAt s (a + 1 + 5 * j + 1)))
theorem upd_len (s : ByteArray) (a : Nat) : ∀ (c j : Nat) (xs : List F32), (upd s a c j xs).length = xs.length := by
  intro c
  induction c with
  | zero => intro j xs; rfl
  | succ c ih => intro j xs; rw [upd, ih]; simp
/-- What comes behind the numbers of a record. -/
def nextEnd (K : Nat) (a0 : ByteArray) (a1 : Int) (a2 : List F32) (x12 : Int) (x14 : List F32) : Option ((List F32) × Int × Bool) :=
  chk (0 ≤ (0 : Int) ∧ (0 : Int) ≤ a1 ∧ a1 ≤ (a0.size : Int)) ((impl_record K (bytesOf (a0.extract (0 : Int).toNat a1.toNat)) a2 x14).bind fun v29 => chk (∀ x ∈ v29, 0 ≤ x ∧ x < 256) (chk (0 ≤ (0 : Int) ∧ (0 : Int) ≤ (IntKind.i64.wrap (x12 + (2 : Int))) ∧ (IntKind.i64.wrap (x12 + (2 : Int))) ≤ (a0.size : Int)) (ite2 ((!((strOf v29).toList == (a0.extract (0 : Int).toNat (IntKind.i64.wrap (x12 + (2 : Int))).toNat).toList))) (some (([] : (List F32)), (0 : Int), false)) (some (x14, (IntKind.i64.wrap (x12 + (2 : Int))), true)))))
theorem body_loop {K : Nat} (a0 : ByteArray) (a : Nat) (a2 : List F32) (m : Nat) (hm : bt a0 a = (m : Int)) (hm2 : m < 256) (hend : a + 1 + 5 * m + 2 ≤ a0.size) (hs : a0.size ≤ 1048576) : ∀ (k j : Nat) (xs : List F32), j ≤ m → m - j < k → xs.length ≤ 51 →
    ((∀ t, j ≤ t → t < m → bt a0 (a + 1 + 5 * t) < (xs.length : Int)) → impl_next_l1 K a0 (a : Int) a2 k ((a + 1 + 5 * j : Nat) : Int) (j : Int) xs = nextEnd K a0 (a : Int) a2 ((a + 1 + 5 * m : Nat) : Int) (upd a0 a (m - j) j xs)) ∧
    ((∃ t, j ≤ t ∧ t < m ∧ (xs.length : Int) ≤ bt a0 (a + 1 + 5 * t)) → impl_next_l1 K a0 (a : Int) a2 k ((a + 1 + 5 * j : Nat) : Int) (j : Int) xs = some ([], 0, false)) := by
  intro k
  induction k with
  | zero => intro j xs _ h; omega
  | succ k ih =>
    intro j xs hj hk hx
    rw [impl_next_l1, Int.toNat_natCast, wrap_bt, hm, ite2_dec]
    by_cases h : j < m
    · generalize hp : a + 1 + 5 * j = p
      have w : ∀ n : Nat, n ≤ 5 → IntKind.i64.wrap ((p : Int) + (n : Int)) = ((p + n : Nat) : Int) := fun n hn => by rw [wrap_in (by omega) (by omega)]; omega
      have w1 := w 1 (by omega); have w2 := w 2 (by omega); have w3 := w 3 (by omega); have w4 := w 4 (by omega); have w5 := w 5 (by omega)
      rw [show ((1 : Nat) : Int) = 1 from rfl] at w1
      rw [show ((2 : Nat) : Int) = 2 from rfl] at w2
      rw [show ((3 : Nat) : Int) = 3 from rfl] at w3
      rw [show ((4 : Nat) : Int) = 4 from rfl] at w4
      rw [show ((5 : Nat) : Int) = 5 from rfl] at w5
      rw [if_pos (by omega), chk_pos (by omega), Int.toNat_natCast, wrap_bt, ite2_dec]
      by_cases hb : bt a0 p < (xs.length : Int)
      · have hb0 := bt_nat a0 p
        rw [if_neg (by omega), w1, w2, w3, w4, w5, chk_pos (by omega), chk_pos (by omega), chk_pos (by omega), chk_pos (by omega), chk_pos (by omega), chk_pos (by omega), chk_pos (by omega)]
        simp only [Int.toNat_natCast, wrapu_bt, min8u, min16u, min24u]
        have b1 := bt_nat a0 (p + 1); have b2 := bt_nat a0 (p + 2); have b3 := bt_nat a0 (p + 3); have b4 := bt_nat a0 (p + 4)
        have ew : bits .or .u32 (bits .or .u32 (bits .or .u32 (bt a0 (p + 1)) (IntKind.u32.wrap (bt a0 (p + 2) * 2 ^ 8))) (IntKind.u32.wrap (bt a0 (p + 3) * 2 ^ 16))) (IntKind.u32.wrap (bt a0 (p + 4) * 2 ^ 24)) = (wdAt a0 (p + 1) : Int) := by
          unfold wdAt
          rw [b1.2, b2.2, b3.2, b4.2]
          rw [or_word .u32 (.inr rfl) _ _ _ _ b1.1 b2.1 b3.1 b4.1]
          simp only [Int.toNat_natCast]
        rw [ew, from_some K (wdAt_lt a0 (p + 1)), bind_of, chk_pos (by omega)]
        have wj : IntKind.i64.wrap ((j : Int) + 1) = ((j + 1 : Nat) : Int) := by rw [wrap_in (by omega) (by omega)]; omega
        rw [wj, show ((p + 5 : Nat) : Int) = ((a + 1 + 5 * (j + 1) : Nat) : Int) by omega]
        obtain ⟨i1, i2⟩ := ih (j + 1) (xs.set (bt a0 p).toNat (Fl.of .f32 (wdAt a0 (p + 1)) (wdAt_lt a0 (p + 1)))) (by omega) (by omega) (by simp; exact hx)
        refine ⟨fun hall => ?_, fun ⟨t, t1, t2, t3⟩ => ?_⟩
        · rw [i1 (fun t h1 h2 => by rw [List.length_set]; exact hall t (by omega) h2), show m - j = (m - (j + 1)) + 1 by omega, upd, hp]; rfl
        · refine i2 ⟨t, ?_, t2, by rw [List.length_set]; exact t3⟩
          by_cases e : t = j
          · subst e; rw [hp] at t3; omega
          · omega
      · rw [if_pos (by omega)]
        refine ⟨fun hall => ?_, fun _ => rfl⟩
        have := hall j (Nat.le_refl _) h
        rw [hp] at this; omega
    · have e : j = m := by omega
      subst e
      rw [if_neg (by omega)]
      refine ⟨fun _ => ?_, fun ⟨t, t1, t2, _⟩ => by omega⟩
      rw [Nat.sub_self]; rfl

/-! Bytes of which some begin. -/
/-- The bytes of s begin with l. -/
def Pre (s : ByteArray) (l : List Int) : Prop := l.length ≤ s.size ∧ s.extract 0 l.length = strOf l
theorem Pre.bt {s : ByteArray} {l : List Int} (h : Pre s l) (hl : InB l) {i : Nat} {x : Int} (hi : l[i]? = some x) : bt s i = x := by
  have hlt : i < l.length := by
    rcases Nat.lt_or_ge i l.length with g | g
    · exact g
    · rw [List.getElem?_eq_none g] at hi; cases hi
  have := bt_extract s (a := 0) (b := l.length) (i := i) (by omega) h.1
  rw [Nat.zero_add, h.2, bt_strOf hl hi] at this
  exact this.symm
theorem bytesOf_strOf {l : List Int} (h : InB l) : bytesOf (strOf l) = l := by
  apply List.ext_getElem?
  intro i
  by_cases hi : i < l.length
  · have h2 : l[i]? = some l[i] := List.getElem?_eq_getElem hi
    rw [h2]
    unfold bytesOf
    rw [List.getElem?_map, List.getElem?_range (by rw [strOf_size]; exact hi), Option.map_some, bt_strOf h h2]
  · have e : (bytesOf (strOf l)).length = l.length := by rw [bytesOf_len, strOf_size]
    rw [List.getElem?_eq_none (by omega), List.getElem?_eq_none (by omega)]
theorem Pre.left {s : ByteArray} {l m : List Int} (h : Pre s (l ++ m)) : Pre s l := by
  obtain ⟨h1, h2⟩ := h
  rw [List.length_append] at h1 h2
  refine ⟨by omega, ?_⟩
  have e := congrArg (fun b : ByteArray => b.extract 0 l.length) h2
  simp only [ByteArray.extract_extract] at e
  rw [strOf_append] at e
  rw [show (strOf l ++ strOf m).extract 0 l.length = strOf l by
    have := strOf_size l
    rw [← this]
    exact ByteArray.extract_append_eq_left rfl] at e
  rw [← e]
  congr 1
  omega
/-- A record of ys behind xs is written behind l. -/
structure Rec (K : Nat) (l : List Int) (xs ys : List F32) (l' : List Int) : Prop where
  ok : impl_record K l xs ys = some l'
  len : xs.length = ys.length
  is : ∃ c, l' = l ++ recB ys (chL xs ys xs.length) c
theorem Rec.ex {K : Nat} (hK : 3000000 < K) {l : List Int} {xs ys : List F32} (h0 : InB l) (hl0 : l.length ≤ 1048576) (hl : xs.length = ys.length) (ha : xs.length ≤ 51) : ∃ l', Rec K l xs ys l' := by
  obtain ⟨c, hc⟩ := record_eq hK h0 hl0 hl ha
  exact ⟨_, hc, hl, c, rfl⟩
theorem Rec.uniq {K : Nat} {l l1 l2 : List Int} {xs ys : List F32} (h1 : Rec K l xs ys l1) (h2 : Rec K l xs ys l2) : l1 = l2 := by
  have := h1.ok.symm.trans h2.ok
  exact Option.some.inj this
theorem Rec.inb {K : Nat} {l l' : List Int} {xs ys : List F32} (h : Rec K l xs ys l') (hl : InB l) : InB l' := by
  obtain ⟨c, rfl⟩ := h.is
  exact hl.append (recB_in _ _ _)
theorem Rec.long {K : Nat} {l l' : List Int} {xs ys : List F32} (h : Rec K l xs ys l') : l'.length = l.length + 1 + 5 * (chL xs ys xs.length).length + 2 := by
  obtain ⟨c, rfl⟩ := h.is
  rw [List.length_append, recB_len]; omega

theorem recB_byte {ys : List F32} {v : List Int} {c t r : Nat} {x : Int} (hr : r < 5) (h : v[t]? = some x) : (recB ys v c)[1 + 5 * t + r]? = (rb ys x)[r]? := by
  have hlt : t < v.length := by
    rcases Nat.lt_or_ge t v.length with g | g
    · exact g
    · rw [List.getElem?_eq_none g] at h; cases h
  unfold recB
  rw [List.getElem?_append_left (by rw [List.length_append, Wl_length, flat5_len _ (rb_len ys)]; omega), List.getElem?_append_right (by rw [Wl_length]; omega), Wl_length, show 1 + 5 * t + r - 1 = 5 * t + r by omega, flat_get _ (rb_len ys) v t r x hr h]
theorem rb_word {ys : List F32} {x : Int} {r : Nat} (hr : r < 4) : (rb ys x)[r + 1]? = some (((bitsN (ys.getD x.toNat default) / 2 ^ (8 * r) % 256 : Nat) : Int)) := by
  unfold rb
  rw [List.getElem?_append_right (by rw [Wl_length]; omega), Wl_length, Nat.add_sub_cancel]
  unfold Wl
  rw [List.getElem?_map, List.getElem?_range hr]; rfl
theorem word_back (n : Nat) (h : n < 2 ^ 32) : ((n % 256 ||| (n / 2 ^ 8 % 256) * 2 ^ 8) ||| (n / 2 ^ 16 % 256) * 2 ^ 16) ||| (n / 2 ^ 24 % 256) * 2 ^ 24 = n := by
  have e1 : n % 256 ||| (n / 2 ^ 8 % 256) * 2 ^ 8 = n % 2 ^ 16 := by
    rw [Nat.mul_comm, Nat.or_comm, ← Nat.two_pow_add_eq_or_of_lt (i := 8) (by omega)]; omega
  have e2 : n % 2 ^ 16 ||| (n / 2 ^ 16 % 256) * 2 ^ 16 = n % 2 ^ 24 := by
    rw [Nat.mul_comm, Nat.or_comm, ← Nat.two_pow_add_eq_or_of_lt (i := 16) (by omega)]; omega
  rw [e1, e2, Nat.mul_comm, Nat.or_comm, ← Nat.two_pow_add_eq_or_of_lt (i := 24) (by omega)]
  omega
/-- The bytes hold the record that was written. -/
structure Held (s : ByteArray) (a : Nat) (xs ys : List F32) : Prop where
  cnt : bt s a = ((chL xs ys xs.length).length : Int)
  ix : ∀ t x, (chL xs ys xs.length)[t]? = some x → bt s (a + 1 + 5 * t) = x ∧ flAt s (a + 1 + 5 * t + 1) = ys.getD x.toNat default
theorem held_of {K : Nat} {s : ByteArray} {l l' : List Int} {xs ys : List F32} (hr : Rec K l xs ys l') (hl : InB l) (hx : xs.length ≤ 51) (hp : Pre s l') : Held s l.length xs ys := by
  obtain ⟨c, he⟩ := hr.is
  have hin := hr.inb hl
  have hv := chL_in xs ys xs.length
  have hvl := chL_len xs ys xs.length
  have at_ : ∀ (i : Nat) (x : Int), (recB ys (chL xs ys xs.length) c)[i]? = some x → bt s (l.length + i) = x := by
    intro i x hi
    refine hp.bt hin ?_
    rw [he, List.getElem?_append_right (by omega), Nat.add_sub_cancel_left]; exact hi
  refine ⟨?_, fun t x ht => ?_⟩
  · refine at_ 0 _ ?_
    unfold recB
    rw [List.getElem?_append_left (by rw [List.length_append, Wl_length]; omega), List.getElem?_append_left (by rw [Wl_length]; omega), Wl1, wrap_u8_nat]
    simp
    omega
  · have hx1 := hv x (List.mem_of_getElem? ht)
    have h0 : bt s (l.length + 1 + 5 * t) = x := by
      have := at_ (1 + 5 * t) x (recB_get ys _ c t x ht hx1.1 (by omega))
      rwa [show l.length + 1 + 5 * t = l.length + (1 + 5 * t) by omega]
    refine ⟨h0, ?_⟩
    have hb := bitsN_lt (ys.getD x.toNat default)
    have g : ∀ r, r < 4 → bt s (l.length + 1 + 5 * t + 1 + r) = ((bitsN (ys.getD x.toNat default) / 2 ^ (8 * r) % 256 : Nat) : Int) := by
      intro r hr
      have := at_ (1 + 5 * t + (r + 1)) _ ((recB_byte (by omega) ht).trans (rb_word hr))
      rwa [show l.length + (1 + 5 * t + (r + 1)) = l.length + 1 + 5 * t + 1 + r by omega] at this
    have hw : wdAt s (l.length + 1 + 5 * t + 1) = bitsN (ys.getD x.toNat default) := by
      unfold wdAt
      have g0 := g 0 (by omega); have g1 := g 1 (by omega); have g2 := g 2 (by omega); have g3 := g 3 (by omega)
      rw [Nat.add_zero] at g0
      rw [g0, g1, g2, g3]
      simp only [Int.toNat_natCast, Nat.mul_zero, Nat.pow_zero, Nat.div_one]
      exact word_back _ (by omega)
    have hbits : bitsN (ys.getD x.toNat default) = (ys.getD x.toNat default).bits := bitsN_bits _
    refine Fl.ext ?_
    show canonF .f32 (wdAt s _) = _
    rw [hw, hbits]
    have := (ys.getD x.toNat default).ok
    unfold okF at this
    simp only [Bool.and_eq_true, beq_iff_eq] at this
    exact this.2
theorem setL {α : Type} [Inhabited α] {xs : List α} {i j : Nat} {v : α} (h : j < xs.length) : (xs.set i v).getD j default = if i = j then v else xs.getD j default := by
  by_cases e : i = j
  · subst e; rw [if_pos rfl, set_getD h]
  · rw [if_neg e, List.getD_eq_getElem?_getD, List.getElem?_set_ne e, ← List.getD_eq_getElem?_getD]
theorem upd_held {s : ByteArray} {a : Nat} {xs ys : List F32} (h : Held s a xs ys) (hl : xs.length = ys.length) : ∀ (c j : Nat) (zs : List F32), c + j = (chL xs ys xs.length).length → zs.length = xs.length →
    (∀ i, i < xs.length → zs.getD i default = ys.getD i default ∨ zs.getD i default = xs.getD i default ∧ (i : Int) ∉ (chL xs ys xs.length).take j) → upd s a c j zs = ys := by
  intro c
  induction c with
  | zero =>
    intro j zs h1 h2 h3
    have hj : j = (chL xs ys xs.length).length := by omega
    subst hj
    show zs = ys
    apply List.ext_getElem (by omega)
    intro i g1 g2
    have := h3 i (by omega)
    rw [List.take_length, getD_of_lt g1, getD_of_lt g2] at this
    rcases this with e | ⟨e1, e2⟩
    · exact e
    · have e3 := bitsN_inj (chL_not xs ys (by omega) e2)
      rw [e1, e3, getD_of_lt g2]
  | succ c ih =>
    intro j zs h1 h2 h3
    have hj : j < (chL xs ys xs.length).length := by omega
    have hv : (chL xs ys xs.length)[j]? = some (chL xs ys xs.length)[j] := List.getElem?_eq_getElem hj
    have hb := chL_in xs ys xs.length _ (List.getElem_mem hj)
    obtain ⟨q1, q2⟩ := h.ix j _ hv
    generalize (chL xs ys xs.length)[j] = x at *
    rw [upd, q1, q2]
    refine ih (j + 1) _ (by omega) (by simp; exact h2) (fun i hi => ?_)
    rw [setL (by omega)]
    by_cases e : x.toNat = i
    · subst e; rw [if_pos rfl]; exact .inl rfl
    · rw [if_neg e]
      rcases h3 i hi with g | ⟨g1, g2⟩
      · exact .inl g
      · refine .inr ⟨g1, ?_⟩
        rw [List.take_add_one, hv]
        simp only [Option.toList_some, List.mem_append, List.mem_singleton]
        rintro (g3 | g3)
        · exact g2 g3
        · exact e (by rw [← g3, Int.toNat_natCast])

/-! The next record. -/
theorem next_few {K : Nat} (s : ByteArray) (a : Nat) (xs : List F32) (hs : s.size ≤ 1048576) (ha : a ≤ 1048576) (h : s.size ≤ a ∨ (s.size : Int) < (a : Int) + 1 + 5 * bt s a + 2) : impl_next K s (a : Int) xs = some ([], 0, false) := by
  unfold impl_next
  have hb := bt_nat s a
  rw [ite2_dec]
  by_cases h1 : (a : Int) ≥ (s.size : Int)
  · rw [if_pos h1, bind_of, ite2_true]
  · have e1 : IntKind.i64.wrap ((a : Int) + 1) = (a : Int) + 1 := wrap_in (by omega) (by omega)
    rw [if_neg h1, chk_pos (by omega), Int.toNat_natCast, wrap_bt, e1]
    have e2 : IntKind.i64.wrap ((5 : Int) * bt s a) = 5 * bt s a := wrap_in (by omega) (by omega)
    have e3 : IntKind.i64.wrap ((a : Int) + 1 + 5 * bt s a) = (a : Int) + 1 + 5 * bt s a := wrap_in (by omega) (by omega)
    have e4 : IntKind.i64.wrap ((a : Int) + 1 + 5 * bt s a + 2) = (a : Int) + 1 + 5 * bt s a + 2 := wrap_in (by omega) (by omega)
    rw [e2, e3, e4, bind_of, decide_eq_true (by omega), ite2_true]
theorem next_in {K : Nat} (s : ByteArray) (a m : Nat) (xs : List F32) (hs : s.size ≤ 1048576) (ha : a < s.size) (hm : bt s a = (m : Int)) (he : a + 1 + 5 * m + 2 ≤ s.size) (hx : xs.length ≤ 51) : impl_next K s (a : Int) xs = impl_next_l1 K s (a : Int) xs K ((a + 1 + 5 * 0 : Nat) : Int) ((0 : Nat) : Int) xs := by
  unfold impl_next slices_Clone_float32_float32
  have hb := bt_nat s a
  rw [ite2_dec, if_neg (by omega), chk_pos (by omega), Int.toNat_natCast, wrap_bt, hm]
  have e1 : IntKind.i64.wrap ((a : Int) + 1) = ((a + 1 + 5 * 0 : Nat) : Int) := by rw [wrap_in (by omega) (by omega)]; omega
  have e2 : IntKind.i64.wrap ((5 : Int) * (m : Int)) = ((5 * m : Nat) : Int) := by rw [wrap_in (by omega) (by omega)]; omega
  have e3 : IntKind.i64.wrap (((a + 1 + 5 * 0 : Nat) : Int) + ((5 * m : Nat) : Int)) = ((a + 1 + 5 * m : Nat) : Int) := by rw [wrap_in (by omega) (by omega)]; omega
  have e4 : IntKind.i64.wrap (((a + 1 + 5 * m : Nat) : Int) + 2) = ((a + 1 + 5 * m + 2 : Nat) : Int) := by rw [wrap_in (by omega) (by omega)]; omega
  rw [e1, e2, e3, e4, bind_of, decide_eq_false (by omega), ite2_false, chk_pos (by simp; omega), bind_of, chk_pos (by omega), List.nil_append]; rfl
/-- What was written is read. -/
theorem next_held {K : Nat} (hK : 3000000 < K) {s : ByteArray} {l l' : List Int} {xs ys : List F32} (hr : Rec K l xs ys l') (hl : InB l) (hs : s.size ≤ 1048576) (hx : xs.length ≤ 51) (hp : Pre s l') : impl_next K s (l.length : Int) xs = some (ys, (l'.length : Int), true) := by
  have hh := held_of hr hl hx hp
  have hlong := hr.long
  have hle := hp.1
  have hv := chL_in xs ys xs.length
  have hvl := chL_len xs ys xs.length
  generalize hm : (chL xs ys xs.length).length = m at *
  have hcnt := hh.cnt
  rw [hm] at hcnt
  rw [next_in s l.length m xs hs (by omega) hcnt (by omega) hx]
  rw [(body_loop (K := K) s l.length xs m hcnt (by omega) (by omega) hs K 0 xs (by omega) (by omega) hx).1 (fun t _ h2 => ?_)]
  · rw [upd_held hh hr.len (m - 0) 0 xs (by omega) rfl (fun i hi => .inr ⟨rfl, by simp⟩)]
    obtain ⟨c, hc⟩ := hr.is
    have hpl : Pre s l := by rw [hc] at hp; exact hp.left
    have e2 : IntKind.i64.wrap (((l.length + 1 + 5 * m : Nat) : Int) + 2) = (l'.length : Int) := by rw [wrap_in (by omega) (by omega)]; omega
    unfold nextEnd
    rw [chk_pos (by omega), show ((0 : Int).toNat) = 0 from rfl, Int.toNat_natCast, hpl.2, bytesOf_strOf hl, hr.ok, bind_of, chk_pos (show ∀ x ∈ l', 0 ≤ x ∧ x < 256 from hr.inb hl), e2, chk_pos (by omega), Int.toNat_natCast, hp.2, beq_self_eq_true, Bool.not_true, ite2_false]
  · have ht : (chL xs ys xs.length)[t]? = some ((chL xs ys xs.length)[t]'(by omega)) := List.getElem?_eq_getElem (by omega)
    have h3 := (hh.ix t _ ht).1
    have h4 := hv _ (List.getElem_mem (by omega : t < (chL xs ys xs.length).length))
    rw [h3]; omega
/-- What is read was written so. -/
theorem next_sound {K : Nat} (hK : 3000000 < K) (s : ByteArray) (a : Nat) (xs : List F32) (hs : s.size ≤ 1048576) (ha : a ≤ s.size) (hx : xs.length ≤ 51) :
    impl_next K s (a : Int) xs = some ([], 0, false) ∨ ∃ ys e, impl_next K s (a : Int) xs = some (ys, ((e : Nat) : Int), true) ∧ a < e ∧ e ≤ s.size ∧ Rec K (bytesOf (s.extract 0 a)) xs ys (bytesOf (s.extract 0 e)) := by
  obtain ⟨m, hm2, hm⟩ := bt_range s a
  by_cases h1 : s.size ≤ a ∨ (s.size : Int) < (a : Int) + 1 + 5 * bt s a + 2
  · exact .inl (next_few s a xs hs (by omega) h1)
  · rw [next_in s a m xs hs (by omega) hm (by omega) hx]
    have hb := body_loop (K := K) s a xs m hm hm2 (by omega) hs K 0 xs (by omega) (by omega) hx
    by_cases hall : ∀ t, 0 ≤ t → t < m → bt s (a + 1 + 5 * t) < (xs.length : Int)
    · rw [hb.1 hall]
      generalize hy : upd s a (m - 0) 0 xs = ys
      have hyl : xs.length = ys.length := by rw [← hy, upd_len]
      have hbl : (bytesOf (s.extract 0 a)).length ≤ 1048576 := by rw [bytesOf_len, ByteArray.size_extract]; omega
      obtain ⟨l', hr⟩ := Rec.ex hK (bytesOf_in (s.extract 0 a)) hbl hyl hx
      have e2 : IntKind.i64.wrap (((a + 1 + 5 * m : Nat) : Int) + 2) = ((a + 1 + 5 * m + 2 : Nat) : Int) := by rw [wrap_in (by omega) (by omega)]; omega
      unfold nextEnd
      rw [chk_pos (by omega), show ((0 : Int).toNat) = 0 from rfl, Int.toNat_natCast, hr.ok, bind_of, chk_pos (show ∀ x ∈ l', 0 ≤ x ∧ x < 256 from hr.inb (bytesOf_in _)), e2, chk_pos (by omega), Int.toNat_natCast, toList_beq, ite2_ndec]
      by_cases hq : strOf l' = s.extract 0 (a + 1 + 5 * m + 2)
      · rw [if_pos hq]
        refine .inr ⟨ys, a + 1 + 5 * m + 2, rfl, by omega, by omega, ?_⟩
        rw [← hq, bytesOf_strOf (hr.inb (bytesOf_in _))]
        exact hr
      · rw [if_neg hq]; exact .inl rfl
    · refine .inl (hb.2 ?_)
      apply Classical.byContradiction
      intro hn
      exact hall fun t h0 h2 => by
        apply Classical.byContradiction
        intro h3
        exact hn ⟨t, h0, h2, by omega⟩

end Go.Fw
