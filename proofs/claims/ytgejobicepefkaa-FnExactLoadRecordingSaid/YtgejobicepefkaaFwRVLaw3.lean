/- The laws of recordings, in plain Lean: a record, and what is read of it. -/
import Derived.Test.YtgejobicepefkaaFwRVLaw2
import Derived.Laws.Strings
namespace Go.Fw
open Go

/-! Bytes. -/
theorem toList_inj {v w : ByteArray} (h : v.toList = w.toList) : v = w := by
  rw [ByteArray.toList_eq, ByteArray.toList_eq] at h
  exact ByteArray.ext (Array.ext' h)
theorem toList_beq (v w : ByteArray) : (v.toList == w.toList) = decide (v = w) := by
  by_cases h : v = w
  · simp [h]
  · rw [decide_eq_false h, beq_eq_false_iff_ne]
    exact fun e => h (toList_inj e)
theorem ite2_ndec {α : Type} (p : Prop) [Decidable p] (x y : Option α) : ite2 (!decide p) x y = if p then y else x := by
  by_cases h : p <;> simp [h, ite2]
theorem bt_range (s : ByteArray) (i : Nat) : ∃ c : Nat, c < 256 ∧ bt s i = (c : Int) := ⟨((s.data.toList[i]?).getD 0).toNat, UInt8.toNat_lt _, rfl⟩
theorem wrap_bt (s : ByteArray) (i : Nat) : IntKind.i64.wrap (bt s i) = bt s i := by
  obtain ⟨c, h, e⟩ := bt_range s i
  rw [e, wrap_in (by omega) (by omega)]
theorem wrapu_bt (s : ByteArray) (i : Nat) : IntKind.u32.wrap (bt s i) = bt s i := by
  obtain ⟨c, h, e⟩ := bt_range s i
  rw [e, IntKind.wrap_u32]; omega
theorem bt_strOf {l : List Int} (h : InB l) {i : Nat} {x : Int} (hi : l[i]? = some x) : bt (strOf l) i = x := by
  have hx := h x (List.mem_of_getElem? hi)
  unfold bt strOf
  simp only [List.getElem?_map, hi, Option.map_some, Option.getD_some]
  have : (UInt8.ofNat x.toNat).toNat = x.toNat := by
    rw [UInt8.toNat_ofNat']
    exact Nat.mod_eq_of_lt (by omega)
  rw [this]; omega
theorem bt_extract (s : ByteArray) {a b i : Nat} (h : a + i < b) (hb : b ≤ s.size) : bt (s.extract a b) i = bt s (a + i) := by
  unfold bt
  congr 2
  have h1 : i < (s.data.extract a b).size := by
    have : s.data.size = s.size := rfl
    simp; omega
  rw [ByteArray.data_extract]
  simp only [Array.getElem?_toList]
  rw [Array.getElem?_eq_getElem h1, Array.getElem_extract, Array.getElem?_eq_getElem]
theorem bytesOf_len (s : ByteArray) : (bytesOf s).length = s.size := by simp [bytesOf]
theorem bytesOf_in (s : ByteArray) : InB (bytesOf s) := by
  intro x hx
  obtain ⟨i, _, rfl⟩ := List.mem_map.1 hx
  obtain ⟨c, h, e⟩ := bt_range s i
  omega
theorem strOf_bytesOf (s : ByteArray) : strOf (bytesOf s) = s := strOfNums_bt s

/-! What a record holds. -/
def rb (ys : List F32) (e : Int) : List Int := Wl e.toNat 1 ++ Wl (bitsN (ys.getD e.toNat default)) 4
theorem rb_len (ys : List F32) (e : Int) : (rb ys e).length = 5 := by simp [rb, Wl_length]
theorem rb_in (ys : List F32) (e : Int) : InB (rb ys e) := (Wl_in _ _).append (Wl_in _ _)
theorem flat_len {α β : Type} (f : α → List β) (hf : ∀ x, (f x).length = 5) : ∀ v : List α, (v.flatMap f).length = 5 * v.length := by
  intro v
  induction v with
  | nil => rfl
  | cons x v ih => rw [List.flatMap_cons, List.length_append, hf, ih, List.length_cons]; omega
theorem flat_get {α β : Type} (f : α → List β) (hf : ∀ x, (f x).length = 5) : ∀ (v : List α) (t r : Nat) (x : α), r < 5 → v[t]? = some x → (v.flatMap f)[5 * t + r]? = (f x)[r]? := by
  intro v
  induction v with
  | nil => intro t r x _ h; simp at h
  | cons y v ih =>
    intro t r x hr h
    rw [List.flatMap_cons]
    cases t with
    | zero =>
      simp at h
      subst h
      rw [List.getElem?_append_left (by rw [hf]; omega)]
      congr 1; omega
    | succ t =>
      rw [List.getElem?_append_right (by rw [hf]; omega), hf, show 5 * (t + 1) + r - 5 = 5 * t + r by omega]
      exact ih t r x hr (by simpa using h)
theorem flat_in (ys : List F32) : ∀ v : List Int, InB (v.flatMap (rb ys)) := by
  intro v x hx
  obtain ⟨e, _, h⟩ := List.mem_flatMap.1 hx
  exact rb_in ys e x h
def recB (ys : List F32) (v : List Int) (c : Nat) : List Int := Wl v.length 1 ++ v.flatMap (rb ys) ++ Wl c 2
theorem recB_in (ys : List F32) (v : List Int) (c : Nat) : InB (recB ys v c) := ((Wl_in _ _).append (flat_in _ _)).append (Wl_in _ _)
theorem recB_len (ys : List F32) (v : List Int) (c : Nat) : (recB ys v c).length = 1 + 5 * v.length + 2 := by
  simp only [recB, List.length_append, Wl_length, flat_len _ (rb_len ys)]
theorem recB_get (ys : List F32) (v : List Int) (c t : Nat) (x : Int) (h : v[t]? = some x) (h0 : 0 ≤ x) (h1 : x < 256) : (recB ys v c)[1 + 5 * t]? = some x := by
  have hlt : t < v.length := by
    rcases Nat.lt_or_ge t v.length with g | g
    · exact g
    · rw [List.getElem?_eq_none g] at h; cases h
  unfold recB
  rw [List.getElem?_append_left (by rw [List.length_append, Wl_length, flat_len _ (rb_len ys)]; omega), List.getElem?_append_right (by rw [Wl_length]; omega), Wl_length, show 1 + 5 * t - 1 = 5 * t + 0 by omega, flat_get _ (rb_len ys) v t 0 x (by omega) h]
  unfold rb
  rw [List.getElem?_append_left (by rw [Wl_length]; omega)]
  have : Wl x.toNat 1 = [x] := by
    obtain ⟨e, rfl⟩ := Int.eq_ofNat_of_zero_le h0
    simp only [Int.toNat_natCast]
    rw [Wl1, wrap_u8_nat]
    congr 1
    omega
  rw [this]; rfl

theorem record_loop2 {K : Nat} (hK : 3000000 < K) (l0 : List Int) (a2 : List F32) (v1 : List Int) (h0 : InB l0) (hl0 : l0.length ≤ 1048576) (hv : v1.length ≤ 51) (ha2 : a2.length ≤ 51) (hr : ∀ x ∈ v1, 0 ≤ x ∧ x < (a2.length : Int)) : ∀ (k i : Nat) (d : List Int), i ≤ v1.length → v1.length - i < k → InB d → d.length ≤ 1 + 5 * i →
    ∃ c, c < 65003 ∧ spec_l10Record_l1 K (strOf l0) a2 v1 k (strOf d) (i : Int) = some (strOf (d ++ (v1.drop i).flatMap (rb a2) ++ Wl c 2)) ∧ impl_record_l1 K a2 v1 k (i : Int) (l0 ++ d) = some (l0 ++ (d ++ (v1.drop i).flatMap (rb a2) ++ Wl c 2)) := by
  intro k
  induction k with
  | zero => intro i d _ h; omega
  | succ k ih =>
    intro i d hi hk hd hdl
    rw [spec_l10Record_l1, impl_record_l1, ite2_dec, ite2_dec]
    by_cases h : i < v1.length
    · have w5 : IntKind.i64.wrap ((i : Int) + 1) = ((i + 1 : Nat) : Int) := by rw [wrap_in (by omega) (by omega)]; omega
      obtain ⟨g0, g1⟩ := hr _ (getD_mem (xs := v1) (i := i) h)
      obtain ⟨e, he⟩ := Int.eq_ofNat_of_zero_le g0
      have hle : e < 51 := by omega
      have w1 := word_eq (K := K) (v := e) (n := 1) (by omega) (by omega) (by omega)
      have hbl := bitsN_lt (a2.getD e default)
      have w4 := word_eq (K := K) (v := bitsN (a2.getD e default)) (n := 4) (by omega) (by omega) (by omega)
      have hnew : [IntKind.u8.wrap (e : Int)] ++ [IntKind.u8.wrap (bitsN (a2.getD e default) : Int), IntKind.u8.wrap ((bitsN (a2.getD e default) : Int).fdiv (2 ^ 8)), IntKind.u8.wrap ((bitsN (a2.getD e default) : Int).fdiv (2 ^ 16)), IntKind.u8.wrap ((bitsN (a2.getD e default) : Int).fdiv (2 ^ 24))] = Wl e 1 ++ Wl (bitsN (a2.getD e default)) 4 := by rw [← Wl1, ← Wl4]
      have hdrop : v1.drop i = (e : Int) :: v1.drop (i + 1) := by
        rw [List.drop_eq_getElem_cons h, ← getD_of_lt h, he]
      have hrb : rb a2 (e : Int) = Wl e 1 ++ Wl (bitsN (a2.getD e default)) 4 := by unfold rb; rw [Int.toNat_natCast]
      rw [hdrop, List.flatMap_cons, hrb]
      rw [if_pos (by omega), if_pos (by omega), chk_pos (by omega), chk_pos (by omega), Int.toNat_natCast, he]
      rw [he] at g1
      simp only [Int.toNat_natCast, bits_spec, bits_impl, bind_of, min8, min16, min24]
      rw [show ((1 : Nat) : Int) = 1 from rfl] at w1
      rw [show ((4 : Nat) : Int) = 4 from rfl] at w4
      rw [w1, bind_of, chk_pos (by omega), chk_pos (by omega), w4, bind_of, ← strOf_append, ← strOf_append]
      rw [chk_pos (by rw [strOf_size, strOf_size, Wl_length, Wl_length]; omega), chk_pos (by rw [strOf_size, strOf_size, List.length_append, Wl_length, Wl_length]; omega), chk_pos (by omega), chk_pos (by omega), chk_pos (by omega), w5]
      rw [chk_pos (by simp; omega)]
      have hlist : l0 ++ d ++ [IntKind.u8.wrap (e : Int), IntKind.u8.wrap (bitsN (a2.getD e default) : Int), IntKind.u8.wrap ((bitsN (a2.getD e default) : Int).fdiv (2 ^ 8)), IntKind.u8.wrap ((bitsN (a2.getD e default) : Int).fdiv (2 ^ 16)), IntKind.u8.wrap ((bitsN (a2.getD e default) : Int).fdiv (2 ^ 24))] = l0 ++ (d ++ (Wl e 1 ++ Wl (bitsN (a2.getD e default)) 4)) := by
        rw [← hnew, List.append_assoc]; rfl
      rw [hlist, ← List.append_assoc d (Wl e 1 ++ Wl (bitsN (a2.getD e default)) 4) ((v1.drop (i + 1)).flatMap (rb a2))]
      exact ih (i + 1) (d ++ (Wl e 1 ++ Wl (bitsN (a2.getD e default)) 4)) (by omega) (by omega) (hd.append ((Wl_in _ _).append (Wl_in _ _))) (by rw [List.length_append, List.length_append, Wl_length, Wl_length]; omega)
    · have e : i = v1.length := by omega
      have hin := h0.append hd
      have hsz : (strOf (l0 ++ d)).size < 2000000 := by rw [strOf_size, List.length_append]; omega
      obtain ⟨c, hc, c1, c2⟩ := check_eq (K := K) hsz (by rw [strOf_size, List.length_append]; omega)
      have w2 := word_eq (K := K) (v := c) (n := 2) (by omega) (by omega) (by omega)
      rw [show ((2 : Nat) : Int) = 2 from rfl] at w2
      rw [if_neg (by omega), if_neg (by omega), chk_pos (show ∀ x ∈ l0 ++ d, 0 ≤ x ∧ x < 256 from hin), ← strOf_append, chk_pos (by rw [strOf_size, strOf_size]; omega), c1, c2, bind_of, bind_of, w2, bind_of, ← strOf_append, chk_pos (by rw [strOf_size, strOf_size, Wl_length]; omega), chk_pos (by omega), min8, chk_pos (by simp; omega), List.append_assoc, ← Wl2]
      refine ⟨c, hc, ?_, ?_⟩
      · rw [e, List.drop_length]; simp
      · rw [e, List.drop_length]; simp
theorem record_eq2 {K : Nat} (hK : 3000000 < K) {l0 : List Int} {a1 a2 : List F32} (h0 : InB l0) (hl0 : l0.length ≤ 1048576) (hl : a1.length = a2.length) (ha : a1.length ≤ 51) :
    ∃ v c, v.length ≤ 51 ∧ (∀ x ∈ v, 0 ≤ x ∧ x < (a2.length : Int)) ∧ spec_l10Record K (strOf l0) a1 a2 = some (strOf (recB a2 v c)) ∧ impl_record K l0 a1 a2 = some (l0 ++ recB a2 v c) := by
  obtain ⟨v1, c1, c2, c3, c4⟩ := changed_some (K := K) hl ha (by omega)
  unfold spec_l10Record impl_record
  have w1 := word_eq (K := K) (v := v1.length) (n := 1) (by omega) (by omega) (by omega)
  rw [show ((1 : Nat) : Int) = 1 from rfl] at w1
  rw [c1, c2, bind_of, bind_of, w1, bind_of, chk_pos (by simp; omega), ← Wl1]
  obtain ⟨c, g1, g2, g3⟩ := record_loop2 hK l0 a2 v1 h0 hl0 (by omega) (by omega) (fun x hx => by have := c4 x hx; omega) K 0 (Wl v1.length 1) (by omega) (by omega) (Wl_in _ _) (by rw [Wl_length]; omega)
  rw [List.drop_zero] at g2 g3
  exact ⟨v1, c, by omega, fun x hx => by have := c4 x hx; omega, g2, g3⟩

/-! A word of four bytes. -/
theorem or_word (k : IntKind) (hb : k = .i64 ∨ k = .u32) (a b c d : Nat) (ha : a < 256) (hb' : b < 256) (hc : c < 256) (hd : d < 256) :
    bits .or k (bits .or k (bits .or k (a : Int) (k.wrap ((b : Int) * 2 ^ 8))) (k.wrap ((c : Int) * 2 ^ 16))) (k.wrap ((d : Int) * 2 ^ 24)) = ((((a ||| b * 2 ^ 8) ||| c * 2 ^ 16) ||| d * 2 ^ 24 : Nat) : Int) := by
  have hw : ∀ n : Int, 0 ≤ n → n < 2 ^ 32 → k.wrap n = n := by
    intro n h0 h1
    rcases hb with rfl | rfl
    · rw [wrap_in (by omega) (by omega)]
    · rw [IntKind.wrap_u32]; omega
  have hj : 32 ≤ k.bits := by rcases hb with rfl | rfl <;> decide
  have B := fun a b ha hb => (bits_nat k 32 hj hw a b ha hb).2
  have e1 : k.wrap ((b : Int) * 2 ^ 8) = ((b * 2 ^ 8 : Nat) : Int) := by rw [hw _ (by omega) (by omega)]; omega
  have e2 : k.wrap ((c : Int) * 2 ^ 16) = ((c * 2 ^ 16 : Nat) : Int) := by rw [hw _ (by omega) (by omega)]; omega
  have e3 : k.wrap ((d : Int) * 2 ^ 24) = ((d * 2 ^ 24 : Nat) : Int) := by rw [hw _ (by omega) (by omega)]; omega
  have l1 : a ||| b * 2 ^ 8 < 2 ^ 32 := Nat.or_lt_two_pow (by omega) (by omega)
  have l2 : (a ||| b * 2 ^ 8) ||| c * 2 ^ 16 < 2 ^ 32 := Nat.or_lt_two_pow l1 (by omega)
  rw [e1, e2, e3, B _ _ (by omega) (by omega), B _ _ l1 (by omega), B _ _ l2 (by omega)]
theorem word_lt (a b c d : Nat) (ha : a < 256) (hb : b < 256) (hc : c < 256) (hd : d < 256) : ((a ||| b * 2 ^ 8) ||| c * 2 ^ 16) ||| d * 2 ^ 24 < 2 ^ 32 :=
  Nat.or_lt_two_pow (Nat.or_lt_two_pow (Nat.or_lt_two_pow (by omega) (by omega)) (by omega)) (by omega)
theorem min8u : min (8 : Int).toNat (IntKind.bits .u32) = 8 := by decide
theorem min16u : min (16 : Int).toNat (IntKind.bits .u32) = 16 := by decide
theorem min24u : min (24 : Int).toNat (IntKind.bits .u32) = 24 := by decide
theorem from_some (K : Nat) {n : Nat} (h : n < 2 ^ 32) : ∃ x : F32, math_Float32frombits K (n : Int) = some x ∧ spec_l01From K (n : Int) = some x := by
  have e : Fl.ofBits .f32 (n : Int) = some (Fl.of .f32 n h) := by
    unfold Fl.ofBits
    rw [dif_pos ⟨by omega, by rw [Int.toNat_natCast]; exact h⟩]
    congr 1
  refine ⟨Fl.of .f32 n h, e, ?_⟩
  have hw : IntKind.u32.wrap (n : Int) = (n : Int) := by rw [IntKind.wrap_u32]; omega
  unfold spec_l01From
  rw [hw]
  unfold math_Float32frombits
  rw [e]; rfl

end Go.Fw
