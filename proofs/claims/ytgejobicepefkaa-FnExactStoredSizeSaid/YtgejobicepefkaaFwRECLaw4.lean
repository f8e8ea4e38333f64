/- The laws of recordings, in plain Lean: a recording stored; its size. -/
import Derived.Test.YtgejobicepefkaaFwRECLaw3
namespace Go.Fw
open Go

theorem wrap_u8_nat (n : Nat) : IntKind.u8.wrap (n : Int) = ((n % 256 : Nat) : Int) := by rw [IntKind.wrap_u8]; omega
theorem fdiv_nat (n m : Nat) : (n : Int).fdiv (2 ^ m) = ((n / 2 ^ m : Nat) : Int) := by
  rw [Int.fdiv_eq_ediv_of_nonneg _ (Int.le_of_lt (Int.pow_pos (by decide)))]
  push_cast
  rfl
theorem Wl1 (v : Nat) : Wl v 1 = [IntKind.u8.wrap (v : Int)] := by
  rw [wrap_u8_nat]
  simp [Wl, List.range_succ]
theorem Wl2 (v : Nat) : Wl v 2 = [IntKind.u8.wrap (v : Int), IntKind.u8.wrap ((v : Int).fdiv (2 ^ 8))] := by
  rw [fdiv_nat, wrap_u8_nat, wrap_u8_nat]
  simp [Wl, List.range_succ]
theorem Wl4 (v : Nat) : Wl v 4 = [IntKind.u8.wrap (v : Int), IntKind.u8.wrap ((v : Int).fdiv (2 ^ 8)), IntKind.u8.wrap ((v : Int).fdiv (2 ^ 16)), IntKind.u8.wrap ((v : Int).fdiv (2 ^ 24))] := by
  rw [fdiv_nat, fdiv_nat, fdiv_nat, wrap_u8_nat, wrap_u8_nat, wrap_u8_nat, wrap_u8_nat]
  simp [Wl, List.range_succ]
theorem min8 : min (8 : Int).toNat (IntKind.bits .i64) = 8 := by decide
theorem min16 : min (16 : Int).toNat (IntKind.bits .i64) = 16 := by decide
theorem min24 : min (24 : Int).toNat (IntKind.bits .i64) = 24 := by decide

theorem record_loop {K : Nat} (hK : 200000 < K) (l0 : List Int) (a2 : List F32) (v1 : List Int) (h0 : InB l0) (hl0 : l0.length ≤ 100000) (hv : v1.length ≤ 51) (ha2 : a2.length ≤ 51) (hr : ∀ x ∈ v1, 0 ≤ x ∧ x < (a2.length : Int)) : ∀ (k i : Nat) (d : List Int), i ≤ v1.length → v1.length - i < k → InB d → d.length ≤ 1 + 5 * i →
    ∃ d', spec_l10Record_l1 K (strOf l0) a2 v1 k (strOf d) (i : Int) = some (strOf d') ∧ impl_record_l1 K a2 v1 k (i : Int) (l0 ++ d) = some (l0 ++ d') ∧ InB d' ∧ d'.length ≤ 3 + 5 * v1.length := by
  intro k
  induction k with
  | zero => intro i d _ h; omega
  | succ k ih =>
    intro i d hi hk hd hdl
    rw [spec_l10Record_l1, impl_record_l1, ite2_dec, ite2_dec]
    by_cases h : i < v1.length
    · have w5 : IntKind.i64.wrap ((i : Int) + 1) = ((i + 1 : Nat) : Int) := by rw [wrap_in (by omega) (by omega)]; omega
      obtain ⟨g0, g1⟩ := hr _ (getD_mem (xs := v1) (i := i) h)
      obtain ⟨e, he⟩ := Int.eq_ofNat_of_zero_le g0
      have hle : e < 51 := by omega
      have w1 := word_eq (K := K) (v := e) (n := 1) (by omega) (by omega) (by omega)
      have hbl := bitsN_lt (a2.getD e default)
      have w4 := word_eq (K := K) (v := bitsN (a2.getD e default)) (n := 4) (by omega) (by omega) (by omega)
      have hnew : [IntKind.u8.wrap (e : Int)] ++ [IntKind.u8.wrap (bitsN (a2.getD e default) : Int), IntKind.u8.wrap ((bitsN (a2.getD e default) : Int).fdiv (2 ^ 8)), IntKind.u8.wrap ((bitsN (a2.getD e default) : Int).fdiv (2 ^ 16)), IntKind.u8.wrap ((bitsN (a2.getD e default) : Int).fdiv (2 ^ 24))] = Wl e 1 ++ Wl (bitsN (a2.getD e default)) 4 := by rw [← Wl1, ← Wl4]
      rw [if_pos (by omega), if_pos (by omega), chk_pos (by omega), chk_pos (by omega), Int.toNat_natCast, he]
      rw [he] at g1
      simp only [Int.toNat_natCast, bits_spec, bits_impl, bind_of, min8, min16, min24]
      rw [show ((1 : Nat) : Int) = 1 from rfl] at w1
      rw [show ((4 : Nat) : Int) = 4 from rfl] at w4
      rw [w1, bind_of, chk_pos (by omega), chk_pos (by omega), w4, bind_of, ← strOf_append, ← strOf_append]
      rw [chk_pos (by rw [strOf_size, strOf_size, Wl_length, Wl_length]; omega), chk_pos (by rw [strOf_size, strOf_size, List.length_append, Wl_length, Wl_length]; omega), chk_pos (by omega), chk_pos (by omega), chk_pos (by omega), w5]
      rw [chk_pos (by simp; omega)]
      have hlist : l0 ++ d ++ [IntKind.u8.wrap (e : Int), IntKind.u8.wrap (bitsN (a2.getD e default) : Int), IntKind.u8.wrap ((bitsN (a2.getD e default) : Int).fdiv (2 ^ 8)), IntKind.u8.wrap ((bitsN (a2.getD e default) : Int).fdiv (2 ^ 16)), IntKind.u8.wrap ((bitsN (a2.getD e default) : Int).fdiv (2 ^ 24))] = l0 ++ (d ++ (Wl e 1 ++ Wl (bitsN (a2.getD e default)) 4)) := by
        rw [← hnew, List.append_assoc]; rfl
      rw [hlist]
      exact ih (i + 1) _ (by omega) (by omega) (hd.append ((Wl_in _ _).append (Wl_in _ _))) (by rw [List.length_append, List.length_append, Wl_length, Wl_length]; omega)
    · have e : i = v1.length := by omega
      have hin := h0.append hd
      have hsz : (strOf (l0 ++ d)).size < 1000000 := by rw [strOf_size, List.length_append]; omega
      obtain ⟨c, hc, c1, c2⟩ := check_eq (K := K) hsz (by rw [strOf_size, List.length_append]; omega)
      have w2 := word_eq (K := K) (v := c) (n := 2) (by omega) (by omega) (by omega)
      rw [show ((2 : Nat) : Int) = 2 from rfl] at w2
      rw [if_neg (by omega), if_neg (by omega), chk_pos (show ∀ x ∈ l0 ++ d, 0 ≤ x ∧ x < 256 from hin), ← strOf_append, chk_pos (by rw [strOf_size, strOf_size]; omega), c1, c2, bind_of, bind_of, w2, bind_of, ← strOf_append, chk_pos (by rw [strOf_size, strOf_size, Wl_length]; omega), chk_pos (by omega), min8, chk_pos (by simp; omega), List.append_assoc, ← Wl2]
      exact ⟨d ++ Wl c 2, rfl, rfl, hd.append (Wl_in _ _), by rw [List.length_append, Wl_length]; omega⟩
theorem record_eq {K : Nat} (hK : 200000 < K) {l0 : List Int} {a1 a2 : List F32} (h0 : InB l0) (hl0 : l0.length ≤ 100000) (hl : a1.length = a2.length) (ha : a1.length ≤ 51) :
    ∃ d, spec_l10Record K (strOf l0) a1 a2 = some (strOf d) ∧ impl_record K l0 a1 a2 = some (l0 ++ d) ∧ InB d ∧ d.length ≤ 258 := by
  obtain ⟨v1, c1, c2, c3, c4⟩ := changed_some (K := K) hl ha (by omega)
  unfold spec_l10Record impl_record
  have w1 := word_eq (K := K) (v := v1.length) (n := 1) (by omega) (by omega) (by omega)
  rw [show ((1 : Nat) : Int) = 1 from rfl] at w1
  rw [c1, c2, bind_of, bind_of, w1, bind_of, chk_pos (by simp; omega), ← Wl1]
  obtain ⟨d, g1, g2, g3, g4⟩ := record_loop hK l0 a2 v1 h0 hl0 (by omega) (by omega) (fun x hx => by have := c4 x hx; omega) K 0 (Wl v1.length 1) (by omega) (by omega) (Wl_in _ _) (by rw [Wl_length]; omega)
  exact ⟨d, g1, g2, g3, by omega⟩

theorem store_loop {K : Nat} (hK : 200000 < K) {a : Recording} (hr : Right a) (b : Nat) (hb : a.Bones = (b : Int)) : ∀ (k i : Nat) (l : List Int) (xs : List F32), i ≤ a.Frames.length → a.Frames.length - i < k → InB l → l.length ≤ 5 + 258 * i → xs.length = 3 + 4 * b →
    ∃ l', spec_l10Store_l1 K a k (strOf l) (i : Int) xs = some (strOf l') ∧ impl_StoreRecording_l1 K a k (i : Int) l xs = some (strOf l', true) ∧ l'.length ≤ 100000 := by
  have hf := hr.frames
  have hb1 := hr.bones
  intro k
  induction k with
  | zero => intro i l xs _ h; omega
  | succ k ih =>
    intro i l xs hi hk hl hll hx
    rw [spec_l10Store_l1, impl_StoreRecording_l1, ite2_dec, ite2_dec]
    by_cases h : i < a.Frames.length
    · have w5 : IntKind.i64.wrap ((i : Int) + 1) = ((i + 1 : Nat) : Int) := by rw [wrap_in (by omega) (by omega)]; omega
      have ht := hr.turns _ (getD_mem (xs := a.Frames) (i := i) h)
      obtain ⟨ys, n1, n2, n3⟩ := numbers_some (K := K) (p := a.Frames.getD i default) (by omega) (by omega)
      obtain ⟨d, r1, r2, r3, r4⟩ := record_eq hK (l0 := l) (a1 := xs) (a2 := ys) hl (by omega) (by omega) (by omega)
      rw [if_pos (by omega), if_pos (by omega), chk_pos (by omega), chk_pos (by omega), Int.toNat_natCast, n1, n2, bind_of, bind_of, r1, r2, bind_of, bind_of, ← strOf_append, chk_pos (by rw [strOf_size, strOf_size]; omega), w5]
      exact ih (i + 1) _ _ (by omega) (by omega) (hl.append r3) (by rw [List.length_append]; omega) (by omega)
    · rw [if_neg (by omega), if_neg (by omega), chk_pos (show ∀ x ∈ l, 0 ≤ x ∧ x < 256 from hl)]
      exact ⟨l, rfl, rfl, by omega⟩

theorem store_eq {K : Nat} (hK : 200000 < K) {a : Recording} (h : OkRec K a) : ∃ s ok, spec_StoreRecording K a = some (s, ok) ∧ impl_StoreRecording K a = some (s, ok) ∧ (ok = false → s = ByteArray.empty) ∧ (validR a = true → spec_l10Store K a = some s) ∧ ok = validR a := by
  unfold spec_StoreRecording impl_StoreRecording
  rw [l10Is_eq h, Valid_eq h, bind_of, bind_of]
  cases hv : validR a
  · exact ⟨ByteArray.empty, false, rfl, rfl, fun _ => rfl, fun h => (by cases h), rfl⟩
  · have hr := validR_spec.1 hv
    have hf := hr.frames
    have hb1 := hr.bones
    obtain ⟨b, hb⟩ := Int.eq_ofNat_of_zero_le (show 0 ≤ a.Bones by omega)
    simp only [Bool.not_true, ite2_false]
    have w1 : IntKind.i64.wrap ((4 : Int) * (b : Int)) = 4 * (b : Int) := wrap_in (by omega) (by omega)
    have w2 : IntKind.i64.wrap ((3 : Int) + 4 * (b : Int)) = ((3 + 4 * b : Nat) : Int) := by rw [wrap_in (by omega) (by omega)]; omega
    have wd := word_eq (K := K) (v := b) (n := 1) (by omega) (by omega) (by omega)
    rw [show ((1 : Nat) : Int) = 1 from rfl] at wd
    have hlit : (ByteArray.mk #[83, 75, 82, 49]) = strOf [83, 75, 82, 49] := rfl
    have hin : InB ([83, 75, 82, 49] ++ Wl b 1) := InB.append (fun x hx => by simp at hx; omega) (Wl_in _ _)
    obtain ⟨l', g1, g2, g3⟩ := store_loop hK hr b hb K 0 ([83, 75, 82, 49] ++ Wl b 1) (List.replicate (3 + 4 * b) default) (by omega) (by have := h.framesK; omega) hin (by rw [List.length_append, Wl_length]; simp) (by simp)
    have hst : spec_l10Store K a = some (strOf l') := by
      unfold spec_l10Store spec_l10Head
      rw [hb, wd, bind_of, hlit, ← strOf_append, chk_pos (by rw [strOf_size, strOf_size, Wl_length]; simp), bind_of, w1, w2, chk_pos (by rw [Int.toNat_natCast]; omega), Int.toNat_natCast]
      exact g1
    rw [hst, bind_of]
    refine ⟨strOf l', true, rfl, ?_, fun h => (by cases h), fun _ => rfl, rfl⟩
    unfold impl_header impl_none
    rw [hb, chk_pos (by simp), chk_pos (by simp), bind_of, w1, w2, chk_pos (by rw [Int.toNat_natCast]; omega), bind_of, Int.toNat_natCast, ← Wl1]
    exact g2

theorem law_StoreRecording (a : Recording) (hl : a.Frames.length ≤ maxLen) (hl2 : ∀ p ∈ a.Frames, p.Turns.length ≤ maxLen) : ∃ K, laws_FnExactStoreRecording K a = some true := by
  obtain ⟨m1, h1⟩ := list_max (fun p : Pose => p.Turns.length) a.Frames
  refine ⟨m1 + a.Frames.length + 200001, ?_⟩
  generalize hKe : m1 + a.Frames.length + 200001 = K
  unfold laws_FnExactStoreRecording
  obtain ⟨r, er, e2, hr⟩ := OkRec.sized (K := K) a (s := 1048576) (by omega) (by omega) hl hl2 (by omega) (fun p hp => by have := h1 p hp; omega)
  rw [er, bind_of, ite2_dec]
  split
  · rfl
  · have h := hr (by omega)
    obtain ⟨s, ok, s1, s2, _⟩ := store_eq (by omega) h
    simp only [h.to, bind_of, s1, s2, h.eq, Bool.not_true, ite2_false, beq_self_eq_true]
theorem law_StoredSize (a : Recording) (hl : a.Frames.length ≤ maxLen) (hl2 : ∀ p ∈ a.Frames, p.Turns.length ≤ maxLen) : ∃ K, laws_FnExactStoredSize K a = some true := by
  obtain ⟨m1, h1⟩ := list_max (fun p : Pose => p.Turns.length) a.Frames
  refine ⟨m1 + a.Frames.length + 200001, ?_⟩
  generalize hKe : m1 + a.Frames.length + 200001 = K
  unfold laws_FnExactStoredSize
  obtain ⟨r, er, e2, hr⟩ := OkRec.sized (K := K) a (s := 1048576) (by omega) (by omega) hl hl2 (by omega) (fun p hp => by have := h1 p hp; omega)
  rw [er, bind_of, ite2_dec]
  split
  · rfl
  · have h := hr (by omega)
    obtain ⟨s, ok, s1, s2, s3, s4, s5⟩ := store_eq (by omega) h
    have g1 : impl_StoredSize K a = some ((s.size : Int), ok) := by
      unfold impl_StoredSize
      rw [s2]; rfl
    have g2 : spec_StoredSize K a = some ((s.size : Int), ok) := by
      unfold spec_StoredSize
      rw [l10Is_eq h, bind_of]
      cases hv : validR a
      · rw [hv] at s5
        rw [s5, s3 s5]
        rfl
      · rw [s4 hv, s5, hv]; rfl
    simp only [h.to, bind_of, g1, g2, h.eq, Bool.not_true, ite2_false, beq_self_eq_true, bne_self_eq_false]

end Go.Fw
