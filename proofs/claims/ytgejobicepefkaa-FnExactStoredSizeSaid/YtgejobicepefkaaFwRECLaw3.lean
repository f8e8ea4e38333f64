/- The laws of recordings, in plain Lean: a recording stored. -/
import Derived.Test.YtgejobicepefkaaFwRECLaw2
namespace Go.Fw
open Go

/-! Bytes. -/
theorem strOf_append (a b : List Int) : strOf (a ++ b) = strOf a ++ strOf b := by
  apply ByteArray.ext
  simp [strOf]
theorem strOf_size (a : List Int) : (strOf a).size = a.length := by simp [strOf, ByteArray.size]
def InB (l : List Int) : Prop := ∀ x ∈ l, 0 ≤ x ∧ x < 256
theorem InB.append {a b : List Int} (ha : InB a) (hb : InB b) : InB (a ++ b) := fun x hx => by
  rcases List.mem_append.1 hx with h | h
  · exact ha x h
  · exact hb x h
/-- The lowest bytes of a number. -/
def Wl (v n : Nat) : List Int := (List.range n).map fun i => ((v / 2 ^ (8 * i) % 256 : Nat) : Int)
theorem Wl_in (v n : Nat) : InB (Wl v n) := fun x hx => by
  obtain ⟨i, _, rfl⟩ := List.mem_map.1 hx
  have := Nat.mod_lt (v / 2 ^ (8 * i)) (show 0 < 256 by omega)
  omega
theorem Wl_length (v n : Nat) : (Wl v n).length = n := by simp [Wl]
theorem Wl_succ (v n : Nat) : Wl v (n + 1) = Wl v n ++ [((v / 2 ^ (8 * n) % 256 : Nat) : Int)] := by simp [Wl, List.range_succ]
theorem word_loop (K v n : Nat) (hv : v < 4611686018427387904) (hn : n ≤ 4) : ∀ (k i : Nat), i ≤ n → n - i < k → spec_l10Word_l1 K (v : Int) (n : Int) k (i : Int) (Wl v i) = some (strOf (Wl v n)) := by
  intro k
  induction k with
  | zero => intro i _ h; omega
  | succ k ih =>
    intro i hi hk
    rw [spec_l10Word_l1, ite2_dec]
    by_cases h : i < n
    · have w1 : IntKind.i64.wrap ((8 : Int) * (i : Int)) = ((8 * i : Nat) : Int) := by rw [wrap_in (by omega) (by omega)]; omega
      have w2 : IntKind.u64.wrap ((8 * i : Nat) : Int) = ((8 * i : Nat) : Int) := by
        have : ∀ n : Int, IntKind.u64.wrap n = n % 18446744073709551616 := fun n => by simp [IntKind.wrap, IntKind.bits, IntKind.signed]
        rw [this]; omega
      have w5 : IntKind.i64.wrap ((i : Int) + 1) = ((i + 1 : Nat) : Int) := by rw [wrap_in (by omega) (by omega)]; omega
      have hmin : min (8 * i) (IntKind.bits .i64) = 8 * i := Nat.min_eq_left (by show 8 * i ≤ 64; omega)
      have hdiv : (v : Int).fdiv (2 ^ (8 * i)) = ((v / 2 ^ (8 * i) : Nat) : Int) := by
        rw [Int.fdiv_eq_ediv_of_nonneg _ (Int.le_of_lt (Int.pow_pos (by decide)))]
        push_cast
        rfl
      have hmask : bits .and .i64 ((v / 2 ^ (8 * i) : Nat) : Int) 255 = ((v / 2 ^ (8 * i) % 256 : Nat) : Int) := by
        have hlt : v / 2 ^ (8 * i) < 4611686018427387904 := Nat.lt_of_le_of_lt (Nat.div_le_self _ _) hv
        have := bits_mask .i64 62 (by decide) (fun n h0 h1 => wrap_in (by omega) (by omega)) 8 (by decide) ((v / 2 ^ (8 * i) : Nat) : Int) (Int.natCast_nonneg _) (by
          generalize v / 2 ^ (8 * i) = q at hlt
          omega)
        have e : ((2 : Int) ^ 8 - 1) = 255 := by decide
        rw [e] at this
        rw [this]
        omega
      have hw8 : IntKind.u8.wrap ((v / 2 ^ (8 * i) % 256 : Nat) : Int) = ((v / 2 ^ (8 * i) % 256 : Nat) : Int) := by rw [IntKind.wrap_u8]; omega
      rw [if_pos (by omega), w1, w2, w5, chk_pos (by omega), Int.toNat_natCast, hmin, hdiv, hmask, hw8, chk_pos (by rw [Wl_length]; simp; omega), ← Wl_succ]
      exact ih (i + 1) (by omega) (by omega)
    · have e : i = n := by omega
      rw [if_neg (by omega), e, chk_pos (show ∀ x ∈ Wl v n, 0 ≤ x ∧ x < 256 from Wl_in v n)]
theorem word_eq {K v n : Nat} (hv : v < 4611686018427387904) (hn : n ≤ 4) (hK : 4 < K) : spec_l10Word K (v : Int) (n : Int) = some (strOf (Wl v n)) :=
  word_loop K v n hv hn K 0 (by omega) (by omega)

/-! The check. -/
theorem check_loop (K : Nat) (s : ByteArray) (hs : s.size < 1000000) : ∀ (k i c : Nat), c < 65003 → i ≤ s.size → s.size - i < k → ∃ d : Nat, d < 65003 ∧ spec_l01Check_l1 K s k (c : Int) (i : Int) = some (d : Int) ∧ impl_check_l1 K s k (c : Int) (i : Int) = some (d : Int) := by
  intro k
  induction k with
  | zero => intro i c _ _ h; omega
  | succ k ih =>
    intro i c hc hi hk
    rw [spec_l01Check_l1, impl_check_l1, ite2_dec, ite2_dec]
    by_cases h : i < s.size
    · have hb : ∃ b : Nat, b < 256 ∧ bt s i = (b : Int) := ⟨((s.data.toList[i]?).getD 0).toNat, UInt8.toNat_lt _, rfl⟩
      obtain ⟨b, hb1, hb2⟩ := hb
      have w5 : IntKind.i64.wrap ((i : Int) + 1) = ((i + 1 : Nat) : Int) := by rw [wrap_in (by omega) (by omega)]; omega
      have v1 : IntKind.i64.wrap ((613 : Int) * (c : Int)) = 613 * (c : Int) := wrap_in (by omega) (by omega)
      have v2 : IntKind.i64.wrap (b : Int) = (b : Int) := wrap_in (by omega) (by omega)
      have v3 : IntKind.i64.wrap (613 * (c : Int) + (b : Int)) = 613 * (c : Int) + (b : Int) := wrap_in (by omega) (by omega)
      have v4 : IntKind.i64.wrap (613 * (c : Int) + (b : Int) + 23) = ((613 * c + b + 23 : Nat) : Int) := by rw [wrap_in (by omega) (by omega)]; omega
      have v5 : ((613 * c + b + 23 : Nat) : Int).tmod (65003 : Int) = (((613 * c + b + 23) % 65003 : Nat) : Int) := by
        rw [Int.tmod_eq_emod_of_nonneg (by omega)]; omega
      rw [if_pos (by omega), if_pos (by omega), chk_pos (by omega), chk_pos (by omega), chk_pos (by omega), chk_pos (by omega), Int.toNat_natCast, hb2, v1, v2, v3, v4, v5, w5]
      exact ih (i + 1) _ (Nat.mod_lt _ (by omega)) (by omega) (by omega)
    · rw [if_neg (by omega), if_neg (by omega)]
      exact ⟨c, hc, rfl, rfl⟩
theorem check_eq {K : Nat} {s : ByteArray} (hs : s.size < 1000000) (hK : s.size < K) : ∃ d : Nat, d < 65003 ∧ spec_l01Check K 0 s = some (d : Int) ∧ impl_check K 0 s = some (d : Int) :=
  check_loop K s hs K 0 0 (by omega) (by omega) (by omega)

/-! A pose's numbers. -/
theorem numbers_eq (K : Nat) (p : Pose) : ∀ (k : Nat) (i : Int) (xs : List F32), spec_l10Numbers_l1 K p k i xs = impl_listed_l1 K p k i xs := by
  intro k
  induction k with
  | zero => intro i xs; rw [spec_l10Numbers_l1, impl_listed_l1]
  | succ k ih =>
    intro i xs
    rw [spec_l10Numbers_l1, impl_listed_l1]
    simp only [spec_l06List, bind_of, ih]
theorem listed_loop (K : Nat) (p : Pose) (hp : p.Turns.length ≤ 12) : ∀ (k i : Nat) (xs : List F32), i ≤ p.Turns.length → xs.length = 3 + 4 * i → p.Turns.length - i < k → ∃ ys, impl_listed_l1 K p k (i : Int) xs = some ys ∧ ys.length = 3 + 4 * p.Turns.length := by
  intro k
  induction k with
  | zero => intro i xs _ _ h; omega
  | succ k ih =>
    intro i xs hi hx hk
    rw [impl_listed_l1, ite2_dec]
    by_cases h : i < p.Turns.length
    · have w5 : IntKind.i64.wrap ((i : Int) + 1) = ((i + 1 : Nat) : Int) := by rw [wrap_in (by omega) (by omega)]; omega
      rw [if_pos (by omega), chk_pos (by omega), w5, chk_pos (by simp; omega)]
      exact ih (i + 1) _ (by omega) (by simp; omega) (by omega)
    · have e : i = p.Turns.length := by omega
      rw [if_neg (by omega)]
      exact ⟨xs, rfl, by omega⟩
theorem numbers_some {K : Nat} {p : Pose} (hp : p.Turns.length ≤ 12) (hK : 12 < K) : ∃ ys, impl_listed K p = some ys ∧ spec_l10Numbers K p = some ys ∧ ys.length = 3 + 4 * p.Turns.length := by
  obtain ⟨ys, h1, h2⟩ := listed_loop K p hp K 0 [p.Root.X, p.Root.Y, p.Root.Z] (by omega) rfl (by omega)
  exact ⟨ys, h1, (numbers_eq K p K 0 _).trans h1, h2⟩

/-! What has changed. -/
theorem changed_eq (K : Nat) (a b : List F32) : ∀ (k : Nat) (i : Int) (xs : List Int), spec_l10Changed_l1 K a b k i xs = impl_changed_l1 K a b k i xs := by
  intro k
  induction k with
  | zero => intro i xs; rw [spec_l10Changed_l1, impl_changed_l1]
  | succ k ih =>
    intro i xs
    rw [spec_l10Changed_l1, impl_changed_l1]
    simp only [same_spec, same_impl, bind_of, ih]
theorem changed_loop (K : Nat) (a b : List F32) (hl : a.length = b.length) (ha : a.length ≤ 51) : ∀ (k i : Nat) (xs : List Int), i ≤ a.length → xs.length ≤ i → (∀ x ∈ xs, 0 ≤ x ∧ x < (a.length : Int)) → a.length - i < k →
    ∃ ys, impl_changed_l1 K a b k (i : Int) xs = some ys ∧ ys.length ≤ a.length ∧ ∀ x ∈ ys, 0 ≤ x ∧ x < (a.length : Int) := by
  intro k
  induction k with
  | zero => intro i xs _ _ _ h; omega
  | succ k ih =>
    intro i xs hi hx hr hk
    rw [impl_changed_l1, ite2_dec]
    by_cases h : i < a.length
    · have w5 : IntKind.i64.wrap ((i : Int) + 1) = ((i + 1 : Nat) : Int) := by rw [wrap_in (by omega) (by omega)]; omega
      rw [if_pos (by omega), chk_pos (by omega), chk_pos (by omega), same_impl, bind_of, w5]
      cases (bitsN (a.getD (i : Int).toNat default) == bitsN (b.getD (i : Int).toNat default))
      · rw [Bool.not_false, ite2_true, chk_pos (by simp; omega)]
        refine ih (i + 1) _ (by omega) (by simp; omega) (fun x hx' => ?_) (by omega)
        rcases List.mem_append.1 hx' with g | g
        · exact hr x g
        · rw [List.mem_singleton.1 g]; omega
      · rw [Bool.not_true, ite2_false]
        exact ih (i + 1) _ (by omega) (by omega) hr (by omega)
    · rw [if_neg (by omega)]
      exact ⟨xs, rfl, by omega, hr⟩
theorem changed_some {K : Nat} {a b : List F32} (hl : a.length = b.length) (ha : a.length ≤ 51) (hK : 51 < K) : ∃ ys, impl_changed K a b = some ys ∧ spec_l10Changed K a b = some ys ∧ ys.length ≤ a.length ∧ ∀ x ∈ ys, 0 ≤ x ∧ x < (a.length : Int) := by
  obtain ⟨ys, h1, h2, h3⟩ := changed_loop K a b hl ha K 0 [] (by omega) (by simp) (by simp) (by omega)
  exact ⟨ys, h1, (changed_eq K a b K 0 []).trans h1, h2, h3⟩

end Go.Fw
