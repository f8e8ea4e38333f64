/- Stored records, byte by byte. (A template, put together by pick.py and by hand.) -/
import Derived.Test.YtdddhokfmablnadFwGDRcBase
import Derived.Laws.Strings
namespace Go.Fw
open Go

theorem strOf_append (a b : List Int) : strOf (a ++ b) = strOf a ++ strOf b := by
  apply ByteArray.ext
  simp [strOf]
theorem strOf_size (a : List Int) : (strOf a).size = a.length := by simp [strOf, ByteArray.size]
def InB (l : List Int) : Prop := ∀ x ∈ l, 0 ≤ x ∧ x < 256
theorem InB.append {a b : List Int} (ha : InB a) (hb : InB b) : InB (a ++ b) := fun x hx => by
  rcases List.mem_append.1 hx with h | h
  · exact ha x h
  · exact hb x h
/-- The lowest bytes of a number. -/
def Wl (v n : Nat) : List Int := (List.range n).map fun i => ((v / 2 ^ (8 * i) % 256 : Nat) : Int)
theorem Wl_in (v n : Nat) : InB (Wl v n) := fun x hx => by
  obtain ⟨i, _, rfl⟩ := List.mem_map.1 hx
  have := Nat.mod_lt (v / 2 ^ (8 * i)) (show 0 < 256 by omega)
  omega
theorem Wl_length (v n : Nat) : (Wl v n).length = n := by simp [Wl]
theorem Wl_succ (v n : Nat) : Wl v (n + 1) = Wl v n ++ [((v / 2 ^ (8 * n) % 256 : Nat) : Int)] := by simp [Wl, List.range_succ]
theorem wrap_u8_nat (n : Nat) : IntKind.u8.wrap (n : Int) = ((n % 256 : Nat) : Int) := by rw [IntKind.wrap_u8]; omega
theorem fdiv_nat (n m : Nat) : (n : Int).fdiv (2 ^ m) = ((n / 2 ^ m : Nat) : Int) := by
  rw [Int.fdiv_eq_ediv_of_nonneg _ (Int.le_of_lt (Int.pow_pos (by decide)))]
  push_cast
  rfl
theorem Wl1 (v : Nat) : Wl v 1 = [IntKind.u8.wrap (v : Int)] := by
  rw [wrap_u8_nat]
  simp [Wl, List.range_succ]
theorem Wl2 (v : Nat) : Wl v 2 = [IntKind.u8.wrap (v : Int), IntKind.u8.wrap ((v : Int).fdiv (2 ^ 8))] := by
  rw [fdiv_nat, wrap_u8_nat, wrap_u8_nat]
  simp [Wl, List.range_succ]
theorem Wl4 (v : Nat) : Wl v 4 = [IntKind.u8.wrap (v : Int), IntKind.u8.wrap ((v : Int).fdiv (2 ^ 8)), IntKind.u8.wrap ((v : Int).fdiv (2 ^ 16)), IntKind.u8.wrap ((v : Int).fdiv (2 ^ 24))] := by
  rw [fdiv_nat, fdiv_nat, fdiv_nat, wrap_u8_nat, wrap_u8_nat, wrap_u8_nat, wrap_u8_nat]
  simp [Wl, List.range_succ]
theorem min8 : min (8 : Int).toNat (IntKind.bits .i64) = 8 := by decide
theorem min16 : min (16 : Int).toNat (IntKind.bits .i64) = 16 := by decide
theorem min24 : min (24 : Int).toNat (IntKind.bits .i64) = 24 := by decide
theorem toList_inj {v w : ByteArray} (h : v.toList = w.toList) : v = w := by
  rw [ByteArray.toList_eq, ByteArray.toList_eq] at h
  exact ByteArray.ext (Array.ext' h)
theorem toList_beq (v w : ByteArray) : (v.toList == w.toList) = decide (v = w) := by
  by_cases h : v = w
  · simp [h]
  · rw [decide_eq_false h, beq_eq_false_iff_ne]
    exact fun e => h (toList_inj e)
theorem ite2_ndec {α : Type} (p : Prop) [Decidable p] (x y : Option α) : ite2 (!decide p) x y = if p then y else x := by
  by_cases h : p <;> simp [h, ite2]
theorem bt_range (s : ByteArray) (i : Nat) : ∃ c : Nat, c < 256 ∧ bt s i = (c : Int) := ⟨((s.data.toList[i]?).getD 0).toNat, UInt8.toNat_lt _, rfl⟩
theorem wrap_bt (s : ByteArray) (i : Nat) : IntKind.i64.wrap (bt s i) = bt s i := by
  obtain ⟨c, h, e⟩ := bt_range s i
  rw [e, wrap_in (by omega) (by omega)]
theorem wrapu_bt (s : ByteArray) (i : Nat) : IntKind.u32.wrap (bt s i) = bt s i := by
  obtain ⟨c, h, e⟩ := bt_range s i
  rw [e, IntKind.wrap_u32]; omega
theorem bt_strOf {l : List Int} (h : InB l) {i : Nat} {x : Int} (hi : l[i]? = some x) : bt (strOf l) i = x := by
  have hx := h x (List.mem_of_getElem? hi)
  unfold bt strOf
  simp only [List.getElem?_map, hi, Option.map_some, Option.getD_some]
  have : (UInt8.ofNat x.toNat).toNat = x.toNat := by
    rw [UInt8.toNat_ofNat']
    exact Nat.mod_eq_of_lt (by omega)
  rw [this]; omega
theorem bt_extract (s : ByteArray) {a b i : Nat} (h : a + i < b) (hb : b ≤ s.size) : bt (s.extract a b) i = bt s (a + i) := by
  unfold bt
  congr 2
  have h1 : i < (s.data.extract a b).size := by
    have : s.data.size = s.size := rfl
    simp; omega
  rw [ByteArray.data_extract]
  simp only [Array.getElem?_toList]
  rw [Array.getElem?_eq_getElem h1, Array.getElem_extract, Array.getElem?_eq_getElem]
theorem bytesOf_len (s : ByteArray) : (bytesOf s).length = s.size := by simp [bytesOf]
theorem bytesOf_in (s : ByteArray) : InB (bytesOf s) := by
  intro x hx
  obtain ⟨i, _, rfl⟩ := List.mem_map.1 hx
  obtain ⟨c, h, e⟩ := bt_range s i
  omega
theorem strOf_bytesOf (s : ByteArray) : strOf (bytesOf s) = s := strOfNums_bt s
def rb (ys : List F32) (e : Int) : List Int := Wl e.toNat 1 ++ Wl (bitsN (ys.getD e.toNat default)) 4
theorem rb_len (ys : List F32) (e : Int) : (rb ys e).length = 5 := by simp [rb, Wl_length]
theorem rb_in (ys : List F32) (e : Int) : InB (rb ys e) := (Wl_in _ _).append (Wl_in _ _)
theorem flat5_len {α β : Type} (f : α → List β) (hf : ∀ x, (f x).length = 5) : ∀ v : List α, (v.flatMap f).length = 5 * v.length := by
  intro v
  induction v with
  | nil => rfl
  | cons x v ih => rw [List.flatMap_cons, List.length_append, hf, ih, List.length_cons]; omega
theorem flat_get {α β : Type} (f : α → List β) (hf : ∀ x, (f x).length = 5) : ∀ (v : List α) (t r : Nat) (x : α), r < 5 → v[t]? = some x → (v.flatMap f)[5 * t + r]? = (f x)[r]? := by
  intro v
  induction v with
  | nil => intro t r x _ h; simp at h
  | cons y v ih =>
    intro t r x hr h
    rw [List.flatMap_cons]
    cases t with
    | zero =>
      simp at h
      subst h
      rw [List.getElem?_append_left (by rw [hf]; omega)]
      congr 1; omega
    | succ t =>
      rw [List.getElem?_append_right (by rw [hf]; omega), hf, show 5 * (t + 1) + r - 5 = 5 * t + r by omega]
      exact ih t r x hr (by simpa using h)
theorem flat5_in (ys : List F32) : ∀ v : List Int, InB (v.flatMap (rb ys)) := by
  intro v x hx
  obtain ⟨e, _, h⟩ := List.mem_flatMap.1 hx
  exact rb_in ys e x h
def recB (ys : List F32) (v : List Int) (c : Nat) : List Int := Wl v.length 1 ++ v.flatMap (rb ys) ++ Wl c 2
theorem recB_in (ys : List F32) (v : List Int) (c : Nat) : InB (recB ys v c) := ((Wl_in _ _).append (flat5_in _ _)).append (Wl_in _ _)
theorem recB_len (ys : List F32) (v : List Int) (c : Nat) : (recB ys v c).length = 1 + 5 * v.length + 2 := by
  simp only [recB, List.length_append, Wl_length, flat5_len _ (rb_len ys)]
theorem recB_get (ys : List F32) (v : List Int) (c t : Nat) (x : Int) (h : v[t]? = some x) (h0 : 0 ≤ x) (h1 : x < 256) : (recB ys v c)[1 + 5 * t]? = some x := by
  have hlt : t < v.length := by
    rcases Nat.lt_or_ge t v.length with g | g
    · exact g
    · rw [List.getElem?_eq_none g] at h; cases h
  unfold recB
  rw [List.getElem?_append_left (by rw [List.length_append, Wl_length, flat5_len _ (rb_len ys)]; omega), List.getElem?_append_right (by rw [Wl_length]; omega), Wl_length, show 1 + 5 * t - 1 = 5 * t + 0 by omega, flat_get _ (rb_len ys) v t 0 x (by omega) h]
  unfold rb
  rw [List.getElem?_append_left (by rw [Wl_length]; omega)]
  have : Wl x.toNat 1 = [x] := by
    obtain ⟨e, rfl⟩ := Int.eq_ofNat_of_zero_le h0
    simp only [Int.toNat_natCast]
    rw [Wl1, wrap_u8_nat]
    congr 1
    omega
  rw [this]; rfl
theorem or_word (k : IntKind) (hb : k = .i64 ∨ k = .u32) (a b c d : Nat) (ha : a < 256) (hb' : b < 256) (hc : c < 256) (hd : d < 256) :
    bits .or k (bits .or k (bits .or k (a : Int) (k.wrap ((b : Int) * 2 ^ 8))) (k.wrap ((c : Int) * 2 ^ 16))) (k.wrap ((d : Int) * 2 ^ 24)) = ((((a ||| b * 2 ^ 8) ||| c * 2 ^ 16) ||| d * 2 ^ 24 : Nat) : Int) := by
  have hw : ∀ n : Int, 0 ≤ n → n < 2 ^ 32 → k.wrap n = n := by
    intro n h0 h1
    rcases hb with rfl | rfl
    · rw [wrap_in (by omega) (by omega)]
    · rw [IntKind.wrap_u32]; omega
  have hj : 32 ≤ k.bits := by rcases hb with rfl | rfl <;> decide
  have B := fun a b ha hb => (bits_nat k 32 hj hw a b ha hb).2
  have e1 : k.wrap ((b : Int) * 2 ^ 8) = ((b * 2 ^ 8 : Nat) : Int) := by rw [hw _ (by omega) (by omega)]; omega
  have e2 : k.wrap ((c : Int) * 2 ^ 16) = ((c * 2 ^ 16 : Nat) : Int) := by rw [hw _ (by omega) (by omega)]; omega
  have e3 : k.wrap ((d : Int) * 2 ^ 24) = ((d * 2 ^ 24 : Nat) : Int) := by rw [hw _ (by omega) (by omega)]; omega
  have l1 : a ||| b * 2 ^ 8 < 2 ^ 32 := Nat.or_lt_two_pow (by omega) (by omega)
  have l2 : (a ||| b * 2 ^ 8) ||| c * 2 ^ 16 < 2 ^ 32 := Nat.or_lt_two_pow l1 (by omega)
  rw [e1, e2, e3, B _ _ (by omega) (by omega), B _ _ l1 (by omega), B _ _ l2 (by omega)]
theorem word_lt (a b c d : Nat) (ha : a < 256) (hb : b < 256) (hc : c < 256) (hd : d < 256) : ((a ||| b * 2 ^ 8) ||| c * 2 ^ 16) ||| d * 2 ^ 24 < 2 ^ 32 :=
  Nat.or_lt_two_pow (Nat.or_lt_two_pow (Nat.or_lt_two_pow (by omega) (by omega)) (by omega)) (by omega)
theorem min8u : min (8 : Int).toNat (IntKind.bits .u32) = 8 := by decide
theorem min16u : min (16 : Int).toNat (IntKind.bits .u32) = 16 := by decide
theorem min24u : min (24 : Int).toNat (IntKind.bits .u32) = 24 := by decide
theorem bits_impl (K : Nat) (a : F32) : impl_BitsOf K a = some (bitsN a : Int) := by
  unfold impl_BitsOf bitsN math_Float32bits Fl.toBits
  rw [ne_self]
  cases h : nanB .f32 a.bits
  · have hl := a.lt
    have e : 2 ^ FloatKind.f32.format.width = 4294967296 := by decide
    rw [ite2_false]
    simp only [Bool.false_eq_true, if_false, bind_of]
    rw [wrap_in (by omega) (by omega)]
  · rw [ite2_true, if_pos rfl]; rfl
theorem check_loop (K : Nat) (s : ByteArray) (hs : s.size < 2000000) : ∀ (k i c : Nat), c < 65003 → i ≤ s.size → s.size - i < k → ∃ d : Nat, d < 65003 ∧ impl_check_l1 K s k (c : Int) (i : Int) = some (d : Int) := by
  intro k
  induction k with
  | zero => intro i c _ _ h; omega
  | succ k ih =>
    intro i c hc hi hk
    rw [impl_check_l1, ite2_dec]
    by_cases h : i < s.size
    · obtain ⟨b, hb1, hb2⟩ := bt_range s i
      have w5 : IntKind.i64.wrap ((i : Int) + 1) = ((i + 1 : Nat) : Int) := by rw [wrap_in (by omega) (by omega)]; omega
      have v1 : IntKind.i64.wrap ((613 : Int) * (c : Int)) = 613 * (c : Int) := wrap_in (by omega) (by omega)
      have v2 : IntKind.i64.wrap (b : Int) = (b : Int) := wrap_in (by omega) (by omega)
      have v3 : IntKind.i64.wrap (613 * (c : Int) + (b : Int)) = 613 * (c : Int) + (b : Int) := wrap_in (by omega) (by omega)
      have v4 : IntKind.i64.wrap (613 * (c : Int) + (b : Int) + 23) = ((613 * c + b + 23 : Nat) : Int) := by rw [wrap_in (by omega) (by omega)]; omega
      have v5 : ((613 * c + b + 23 : Nat) : Int).tmod (65003 : Int) = (((613 * c + b + 23) % 65003 : Nat) : Int) := by
        rw [Int.tmod_eq_emod_of_nonneg (by omega)]; omega
      rw [if_pos (by omega), chk_pos (by omega), chk_pos (by omega), Int.toNat_natCast, hb2, v1, v2, v3, v4, v5, w5]
      exact ih (i + 1) _ (Nat.mod_lt _ (by omega)) (by omega) (by omega)
    · rw [if_neg (by omega)]
      exact ⟨c, hc, rfl⟩
theorem check_eq {K : Nat} {s : ByteArray} (hs : s.size < 2000000) (hK : s.size < K) : ∃ d : Nat, d < 65003 ∧ impl_check K 0 s = some (d : Int) :=
  check_loop K s hs K 0 0 (by omega) (by omega) (by omega)
theorem record_loop {K : Nat} (hK : 3000000 < K) (l0 : List Int) (a2 : List F32) (v1 : List Int) (h0 : InB l0) (hl0 : l0.length ≤ 1048576) (hv : v1.length ≤ 51) (ha2 : a2.length ≤ 51) (hr : ∀ x ∈ v1, 0 ≤ x ∧ x < (a2.length : Int)) : ∀ (k i : Nat) (d : List Int), i ≤ v1.length → v1.length - i < k → InB d → d.length ≤ 1 + 5 * i →
    ∃ c, impl_record_l1 K a2 v1 k (i : Int) (l0 ++ d) = some (l0 ++ (d ++ (v1.drop i).flatMap (rb a2) ++ Wl c 2)) := by
  intro k
  induction k with
  | zero => intro i d _ h; omega
  | succ k ih =>
    intro i d hi hk hd hdl
    rw [impl_record_l1, ite2_dec]
    by_cases h : i < v1.length
    · have w5 : IntKind.i64.wrap ((i : Int) + 1) = ((i + 1 : Nat) : Int) := by rw [wrap_in (by omega) (by omega)]; omega
      obtain ⟨g0, g1⟩ := hr _ (getD_mem (xs := v1) (i := i) h)
      obtain ⟨e, he⟩ := Int.eq_ofNat_of_zero_le g0
      have hle : e < 51 := by omega
      have hbl := bitsN_lt (a2.getD e default)
      have hnew : [IntKind.u8.wrap (e : Int)] ++ [IntKind.u8.wrap (bitsN (a2.getD e default) : Int), IntKind.u8.wrap ((bitsN (a2.getD e default) : Int).fdiv (2 ^ 8)), IntKind.u8.wrap ((bitsN (a2.getD e default) : Int).fdiv (2 ^ 16)), IntKind.u8.wrap ((bitsN (a2.getD e default) : Int).fdiv (2 ^ 24))] = Wl e 1 ++ Wl (bitsN (a2.getD e default)) 4 := by rw [← Wl1, ← Wl4]
      have hdrop : v1.drop i = (e : Int) :: v1.drop (i + 1) := by
        rw [List.drop_eq_getElem_cons h, ← getD_of_lt h, he]
      have hrb : rb a2 (e : Int) = Wl e 1 ++ Wl (bitsN (a2.getD e default)) 4 := by unfold rb; rw [Int.toNat_natCast]
      rw [hdrop, List.flatMap_cons, hrb]
      rw [if_pos (by omega), chk_pos (by omega), Int.toNat_natCast, he]
      rw [he] at g1
      simp only [Int.toNat_natCast, bits_impl, bind_of, min8, min16, min24]
      rw [chk_pos (by omega), chk_pos (by omega), chk_pos (by omega), chk_pos (by omega), w5]
      rw [chk_pos (by simp; omega)]
      have hlist : l0 ++ d ++ [IntKind.u8.wrap (e : Int), IntKind.u8.wrap (bitsN (a2.getD e default) : Int), IntKind.u8.wrap ((bitsN (a2.getD e default) : Int).fdiv (2 ^ 8)), IntKind.u8.wrap ((bitsN (a2.getD e default) : Int).fdiv (2 ^ 16)), IntKind.u8.wrap ((bitsN (a2.getD e default) : Int).fdiv (2 ^ 24))] = l0 ++ (d ++ (Wl e 1 ++ Wl (bitsN (a2.getD e default)) 4)) := by
        rw [← hnew, List.append_assoc]; rfl
      rw [hlist, ← List.append_assoc d (Wl e 1 ++ Wl (bitsN (a2.getD e default)) 4) ((v1.drop (i + 1)).flatMap (rb a2))]
      exact ih (i + 1) (d ++ (Wl e 1 ++ Wl (bitsN (a2.getD e default)) 4)) (by omega) (by omega) (hd.append ((Wl_in _ _).append (Wl_in _ _))) (by rw [List.length_append, List.length_append, Wl_length, Wl_length]; omega)
    · have e : i = v1.length := by omega
      have hin := h0.append hd
      have hsz : (strOf (l0 ++ d)).size < 2000000 := by rw [strOf_size, List.length_append]; omega
      obtain ⟨c, hc, c2⟩ := check_eq (K := K) hsz (by rw [strOf_size, List.length_append]; omega)
      rw [if_neg (by omega), chk_pos (show ∀ x ∈ l0 ++ d, 0 ≤ x ∧ x < 256 from hin), c2, bind_of, chk_pos (by omega), min8, chk_pos (by simp; omega), List.append_assoc, ← Wl2]
      refine ⟨c, ?_⟩
      rw [e, List.drop_length]; simp
theorem chL_in (a b : List F32) : ∀ (n : Nat), ∀ x ∈ chL a b n, 0 ≤ x ∧ x < (n : Int) := by
  intro n x hx
  unfold chL at hx
  obtain ⟨j, hj, rfl⟩ := List.mem_map.1 hx
  have := (List.mem_filter.1 hj).1
  rw [List.mem_range] at this
  omega
theorem chL_not (a b : List F32) {n j : Nat} (hj : j < n) (h : (j : Int) ∉ chL a b n) : bitsN (a.getD j default) = bitsN (b.getD j default) := by
  apply Classical.byContradiction
  intro hne
  apply h
  unfold chL
  exact List.mem_map.2 ⟨j, List.mem_filter.2 ⟨List.mem_range.2 hj, by unfold diff; simpa using hne⟩, rfl⟩
theorem record_eq {K : Nat} (hK : 3000000 < K) {l0 : List Int} {a1 a2 : List F32} (h0 : InB l0) (hl0 : l0.length ≤ 1048576) (hl : a1.length = a2.length) (ha : a1.length ≤ 51) :
    ∃ c, impl_record K l0 a1 a2 = some (l0 ++ recB a2 (chL a1 a2 a1.length) c) := by
  have hv := chL_len a1 a2 a1.length
  have hin := chL_in a1 a2 a1.length
  unfold impl_record
  rw [changed_eq hl ha (by omega), bind_of, chk_pos (by simp; omega), ← Wl1]
  obtain ⟨c, g3⟩ := record_loop hK l0 a2 (chL a1 a2 a1.length) h0 hl0 (by omega) (by omega) (fun x hx => by have := hin x hx; omega) K 0 (Wl (chL a1 a2 a1.length).length 1) (by omega) (by omega) (Wl_in _ _) (by rw [Wl_length]; omega)
  rw [List.drop_zero] at g3
  exact ⟨c, g3⟩
theorem from_some (K : Nat) {n : Nat} (h : n < 2 ^ 32) : math_Float32frombits K (n : Int) = some (Fl.of .f32 n h) := by
  unfold math_Float32frombits Fl.ofBits
  rw [dif_pos ⟨by omega, by rw [Int.toNat_natCast]; exact h⟩]
  congr 1
theorem nan_word {a : F32} (h : nanB .f32 a.bits = true) : a.bits = 2143289344 := by
  rw [nan_bits h]; decide
theorem bitsN_bits (a : F32) : bitsN a = a.bits := by
  unfold bitsN
  rw [ne_self]
  cases h : nanB .f32 a.bits
  · simp
  · simp [nan_word h]
theorem bitsN_inj {a b : F32} (h : bitsN a = bitsN b) : a = b := by
  rw [bitsN_bits, bitsN_bits] at h
  exact Fl.ext h
theorem of_bits (a : F32) (h : a.bits < 2 ^ 32) : Fl.of .f32 a.bits h = a := by
  refine Fl.ext ?_
  show canonF .f32 a.bits = a.bits
  have := a.ok
  unfold okF at this
  simp only [Bool.and_eq_true, beq_iff_eq] at this
  exact this.2

end Go.Fw
