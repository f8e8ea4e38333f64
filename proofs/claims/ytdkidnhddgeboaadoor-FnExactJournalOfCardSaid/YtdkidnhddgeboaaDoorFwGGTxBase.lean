/- Texts as lists of bytes: parts between marks, check numbers, decimal numbers. -/
import Derived.Test.YtdkidnhddgeboaaDoorFwGG
import Derived.Test.YtdkidnhddgeboaaDoorFwLW
import Derived.Lib.ItoaNum
import Derived.Lib.Bytealg
namespace Go.Fw
open Go
noncomputable section

def toL (s : ByteArray) : List UInt8 := s.data.toList
def ofL (l : List UInt8) : ByteArray := ⟨l.toArray⟩
theorem ofL_toL (s : ByteArray) : ofL (toL s) = s := rfl
theorem toL_ofL (l : List UInt8) : toL (ofL l) = l := rfl
theorem toL_length (s : ByteArray) : (toL s).length = s.size := rfl
theorem size_ofL (l : List UInt8) : (ofL l).size = l.length := rfl
theorem ofL_inj {a b : List UInt8} : ofL a = ofL b ↔ a = b := ⟨fun h => by have := congrArg toL h; rwa [toL_ofL, toL_ofL] at this, fun h => by rw [h]⟩
theorem toL_extract (s : ByteArray) (i j : Nat) : toL (s.extract i j) = ((toL s).drop i).take (j - i) := by
  simp [toL, ByteArray.data_extract]
theorem ext_ofL (s : ByteArray) (i j : Nat) : s.extract i j = ofL (((toL s).drop i).take (j - i)) := by rw [← toL_extract, ofL_toL]
theorem toList_toL (s : ByteArray) : s.toList = toL s := ByteArray.toList_eq s
theorem bt_toL {s : ByteArray} {i : Nat} (h : i < s.size) : bt s i = (((toL s)[i]'h).toNat : Int) := by rw [bt_getD s i h]; rfl
theorem drop_cons {α : Type} {l : List α} {i : Nat} (h : i < l.length) : l.drop i = l[i] :: l.drop (i + 1) := List.drop_eq_getElem_cons h

/-- Where a byte stands first. -/
def ix (c : UInt8) : List UInt8 → Nat
  | [] => 0
  | b :: l => if b = c then 0 else ix c l + 1
theorem ix_le (c : UInt8) : ∀ l, ix c l ≤ l.length
  | [] => Nat.le_refl _
  | b :: l => by have := ix_le c l; unfold ix; split <;> simp; omega
theorem ix_at (c : UInt8) : ∀ (l : List UInt8) (h : ix c l < l.length), l[ix c l] = c
  | [], h => by simp [ix] at h
  | b :: l, h => by
    unfold ix at h ⊢
    split
    · rename_i e; simp [e]
    · rename_i e
      simp only [if_neg e, List.length_cons] at h
      simp only [List.getElem_cons_succ]
      exact ix_at c l (by omega)
theorem ix_before (c : UInt8) : ∀ (l : List UInt8) (i : Nat) (_ : i < ix c l) (h2 : i < l.length), l[i] ≠ c
  | [], i, h, _ => by simp [ix] at h
  | b :: l, 0, h, _ => by
    unfold ix at h
    split at h
    · omega
    · rename_i e; simpa using e
  | b :: l, i + 1, h, h2 => by
    unfold ix at h
    split at h
    · omega
    · simp only [List.getElem_cons_succ]
      exact ix_before c l i (by omega) (by simpa using h2)
theorem indexByte_ix (c : UInt8) : ∀ l, Lib.indexByte l c = if ix c l < l.length then (ix c l : Int) else -1
  | [] => by simp [Lib.indexByte, ix]
  | b :: l => by
    have ih := indexByte_ix c l
    unfold Lib.indexByte ix
    by_cases e : b = c
    · subst e; simp
    · have e' : (b == c) = false := by simpa using e
      rw [e', ih, if_neg e, List.length_cons]
      by_cases h : ix c l < l.length
      · have h2 : ix c l + 1 < l.length + 1 := by omega
        have h3 : ((ix c l : Int) == -1) = false := by simp
        rw [if_pos h, if_pos h2, h3]
        simp
      · have h2 : ¬ ix c l + 1 < l.length + 1 := by omega
        rw [if_neg h, if_neg h2]
        rfl

/-- The parts between marks. -/
def spl (m : UInt8) : List UInt8 → List (List UInt8)
  | [] => [[]]
  | c :: l => if c = m then [] :: spl m l else match spl m l with
    | [] => [[c]]
    | p :: ps => (c :: p) :: ps
theorem spl_cons (m : UInt8) : ∀ l, ∃ p ps, spl m l = p :: ps
  | [] => ⟨_, _, rfl⟩
  | c :: l => by
    obtain ⟨p, ps, h⟩ := spl_cons m l
    unfold spl
    rw [h]
    split
    · exact ⟨_, _, rfl⟩
    · exact ⟨_, _, rfl⟩
theorem spl_mark {m : UInt8} (l : List UInt8) : spl m (m :: l) = [] :: spl m l := by
  conv => lhs; unfold spl
  rw [if_pos rfl]
theorem spl_other {m c : UInt8} {l p : List UInt8} {ps : List (List UInt8)} (h : c ≠ m) (e : spl m l = p :: ps) : spl m (c :: l) = (c :: p) :: ps := by
  conv => lhs; unfold spl
  rw [if_neg h, e]
theorem spl_no {m : UInt8} : ∀ {l : List UInt8}, ¬ ix m l < l.length → spl m l = [l]
  | [], _ => rfl
  | c :: l, h => by
    unfold ix at h
    split at h
    · simp at h
    · rename_i e
      exact spl_other e (spl_no (m := m) (l := l) (by simp only [List.length_cons] at h; omega))
theorem spl_at {m : UInt8} : ∀ {l : List UInt8}, ix m l < l.length → spl m l = l.take (ix m l) :: spl m (l.drop (ix m l + 1))
  | [], h => by simp [ix] at h
  | c :: l, h => by
    by_cases e : c = m
    · subst e
      rw [spl_mark]
      simp [ix]
    · have hi : ix m (c :: l) = ix m l + 1 := by rw [ix, if_neg e]
      rw [hi] at h ⊢
      have ih := spl_at (m := m) (l := l) (by simp only [List.length_cons] at h; omega)
      rw [spl_other e ih]
      rfl
theorem spl_length (m : UInt8) : ∀ l, (spl m l).length ≤ l.length + 1
  | [] => by simp [spl]
  | c :: l => by
    have ih := spl_length m l
    by_cases e : c = m
    · subst e; rw [spl_mark]; simp; omega
    · obtain ⟨p, ps, h⟩ := spl_cons m l
      rw [spl_other e h]
      rw [h] at ih
      simp only [List.length_cons] at ih ⊢; omega
theorem spl_part {m : UInt8} : ∀ {l p : List UInt8}, p ∈ spl m l → p.length ≤ l.length
  | [], p, h => by simp [spl] at h; subst h; simp
  | c :: l, q, h => by
    by_cases e : c = m
    · subst e
      rw [spl_mark] at h
      rcases List.mem_cons.1 h with rfl | h
      · simp
      · have := spl_part h; simp only [List.length_cons]; omega
    · obtain ⟨p, ps, hp⟩ := spl_cons m l
      rw [spl_other e hp] at h
      rcases List.mem_cons.1 h with rfl | h
      · have : p ∈ spl m l := by rw [hp]; simp
        have := spl_part this; simp only [List.length_cons]; omega
      · have : q ∈ spl m l := by rw [hp]; simp [h]
        have := spl_part this; simp only [List.length_cons]; omega

/-- Check numbers. -/
def ck (c : Int) (l : List UInt8) : Int := l.foldl (fun c b => (613 * c + (b.toNat : Int) + 23) % 65003) c
theorem ck_range {c : Int} {l : List UInt8} (h0 : 0 ≤ c) (h1 : c < 65003) : 0 ≤ ck c l ∧ ck c l < 65003 := by
  induction l generalizing c with
  | nil => exact ⟨h0, h1⟩
  | cons b l ih =>
    refine ih (c := (613 * c + (b.toNat : Int) + 23) % 65003) (by omega) (by omega)
theorem wrap_small {n : Int} (h0 : -1000000000 ≤ n) (h1 : n ≤ 1000000000) : IntKind.i64.wrap n = n := wrap_in (by omega) (by omega)
theorem ck_step {c : Int} (b : UInt8) (h0 : 0 ≤ c) (h1 : c < 65003) :
    (IntKind.i64.wrap ((IntKind.i64.wrap ((IntKind.i64.wrap ((613 : Int) * c)) + (IntKind.i64.wrap (b.toNat : Int)))) + (23 : Int))).tmod (65003 : Int) = (613 * c + (b.toNat : Int) + 23) % 65003 := by
  have hb : b.toNat < 256 := b.toNat_lt
  rw [wrap_small (n := 613 * c) (by omega) (by omega), wrap_small (n := (b.toNat : Int)) (by omega) (by omega), wrap_small (n := 613 * c + (b.toNat : Int)) (by omega) (by omega), wrap_small (by omega) (by omega)]
  exact Int.tmod_eq_emod_of_nonneg (by omega)
theorem spec_check {K : Nat} {c : Int} {a : ByteArray} (h0 : 0 ≤ c) (h1 : c < 65003) (hs : a.size ≤ 1048576) (hK : a.size < K) : spec_l01Check K c a = some (ck c (toL a)) := by
  have key : ∀ (k i : Nat) (c : Int), i ≤ a.size → a.size - i < k → 0 ≤ c → c < 65003 → spec_l01Check_l1 K a k c (i : Int) = some (ck c ((toL a).drop i)) := by
    intro k
    induction k with
    | zero => intro i c _ h; omega
    | succ k ih =>
      intro i c hi hk h0 h1
      have w1 : IntKind.i64.wrap ((i : Int) + 1) = ((i + 1 : Nat) : Int) := wrap_nat1 (by omega)
      rw [spec_l01Check_l1, ite2_dec]
      by_cases h : i < a.size
      · rw [if_pos (by omega), chk_pos (by omega), chk_pos (by omega), Int.toNat_natCast, bt_toL h, ck_step _ h0 h1, w1, ih (i + 1) _ (by omega) (by omega) (by omega) (by omega), drop_cons (by rw [toL_length]; exact h : i < (toL a).length)]
        rfl
      · rw [if_neg (by omega), List.drop_eq_nil_of_le (by rw [toL_length]; omega)]
        rfl
  exact key K 0 c (by omega) (by omega) h0 h1
theorem impl_check_eq (K : Nat) (c : Int) (a : ByteArray) : impl_check K c a = spec_l01Check K c a := by
  have key : ∀ (k : Nat) (c i : Int), impl_check_l1 K a k c i = spec_l01Check_l1 K a k c i := by
    intro k
    induction k with
    | zero => intro c i; rfl
    | succ k ih => intro c i; rw [impl_check_l1, spec_l01Check_l1, ih]
  exact key K c 0
theorem impl_check_val {K : Nat} {c : Int} {a : ByteArray} (h0 : 0 ≤ c) (h1 : c < 65003) (hs : a.size ≤ 1048576) (hK : a.size < K) : impl_check K c a = some (ck c (toL a)) := by
  rw [impl_check_eq, spec_check h0 h1 hs hK]

/-- Decimal numbers. -/
theorem impl_dec {K : Nat} {n : Int} (h0 : 0 ≤ n) (h1 : n ≤ 9223372036854775807) : impl_Decimal K n = some (ofL (Lib.itoa n)) := by
  unfold impl_Decimal strconv_FormatInt fmt10
  rw [if_pos ⟨rfl, by omega, h1⟩]
  rfl
theorem decDigits_small {u : Nat} (h : u < 10) : Lib.decDigits u = [UInt8.ofNat (48 + u)] := by
  rw [Lib.decDigits]; simp [h]
theorem decDigits_great {u : Nat} (h : ¬ u < 10) : Lib.decDigits u = Lib.decDigits (u / 10) ++ [UInt8.ofNat (48 + u % 10)] := by
  rw [Lib.decDigits]; simp [h]
def bts (l : List Int) : List UInt8 := l.map fun n => UInt8.ofNat n.toNat
theorem bts_cons (m : Nat) (l : List Int) : bts ((m : Int) :: l) = UInt8.ofNat m :: bts l := rfl
theorem dec_step {K k u : Nat} {n : Int} {out : List Int} (hu : u ≤ 1000000000) (h : u ≠ 0 ∨ out = []) (hl : out.length ≤ 64) :
    spec_l01Dec_l1 K n (k + 1) (u : Int) out = spec_l01Dec_l1 K n k ((u / 10 : Nat) : Int) (((48 + u % 10 : Nat) : Int) :: out) := by
  rw [spec_l01Dec_l1]
  have hcond : (ite2 (((out.length : Int)) == (0 : Int)) (some true) (some ((u : Int) != (0 : Int)))) = some true := by
    rcases h with h | h
    · have : ((u : Int) != (0 : Int)) = true := by simp; omega
      rw [this]
      unfold ite2
      split <;> rfl
    · subst h; rfl
  have hm : ((u : Int).tmod 10) = ((u % 10 : Nat) : Int) := by rw [Int.tmod_eq_emod_of_nonneg (by omega)]; omega
  have hd : ((u : Int).tdiv 10) = ((u / 10 : Nat) : Int) := by rw [Int.tdiv_eq_ediv_of_nonneg (by omega)]; omega
  have hm10 : u % 10 < 10 := Nat.mod_lt _ (by omega)
  have hw : IntKind.u8.wrap (IntKind.i64.wrap ((48 : Int) + ((u % 10 : Nat) : Int))) = ((48 + u % 10 : Nat) : Int) := by
    rw [wrap_small (n := (48 : Int) + ((u % 10 : Nat) : Int)) (by omega) (by omega), show ∀ n : Int, IntKind.u8.wrap n = n % 256 from fun n => by simp [IntKind.wrap, IntKind.bits, IntKind.signed]]
    omega
  rw [hcond, bind_of, ite2_true, chk_pos (by omega), ite2_dec, hm, hd, if_neg (by omega), hw, wrap_small (n := ((u / 10 : Nat) : Int)) (by omega) (by omega), chk_pos (by simp; omega)]
  rfl
theorem dec_end {K k : Nat} {n : Int} {out : List Int} (hn : 0 ≤ n) (h : out ≠ []) (hr : ∀ x ∈ out, 0 ≤ x ∧ x < 256) : spec_l01Dec_l1 K n (k + 1) 0 out = some (ofL (bts out)) := by
  rw [spec_l01Dec_l1]
  have hlen0 : (((out.length : Int)) == 0) = false := by
    simp only [beq_eq_false_iff_ne, ne_eq]
    intro e
    exact h (List.length_eq_zero_iff.1 (by omega))
  rw [hlen0, ite2_false, show ((0 : Int) != (0 : Int)) = false from rfl, bind_of, ite2_false, ite2_dec, if_neg (by omega), chk_pos hr]
  rfl
theorem spec_dec {K : Nat} {n : Nat} (hn : n ≤ 1000000000) (hK : 40 ≤ K) : spec_l01Dec K (n : Int) = some (ofL (Lib.itoa (n : Int))) := by
  have key : ∀ (k u : Nat) (out : List Int), u ≤ 1000000000 → u < 2 ^ k → (u ≠ 0 ∨ out = []) → out.length + k ≤ 64 → (∀ x ∈ out, 0 ≤ x ∧ x < 256) →
      ∀ f, k + 2 ≤ f → spec_l01Dec_l1 K (n : Int) f (u : Int) out = some (ofL (Lib.decDigits u ++ bts out)) := by
    intro k
    induction k with
    | zero =>
      intro u out hu hp hne hl hr f hf
      have h0 : u = 0 := by simpa using hp
      obtain ⟨f, rfl⟩ : ∃ g, f = g + 2 := ⟨f - 2, by omega⟩
      rw [dec_step hu hne (by omega), show u / 10 = 0 by omega, show (((0 : Nat) : Int)) = 0 from rfl, dec_end (by omega) (by simp) (by
        intro x hx
        rcases List.mem_cons.1 hx with rfl | hx
        · omega
        · exact hr x hx), decDigits_small (by omega)]
      subst h0
      simp [bts]
    | succ k ih =>
      intro u out hu hp hne hl hr f hf
      obtain ⟨f, rfl⟩ : ∃ g, f = g + 1 := ⟨f - 1, by omega⟩
      have hr' : ∀ x ∈ (((48 + u % 10 : Nat) : Int) :: out), 0 ≤ x ∧ x < 256 := by
        intro x hx
        rcases List.mem_cons.1 hx with rfl | hx
        · omega
        · exact hr x hx
      rw [dec_step hu hne (by omega)]
      by_cases hs : u / 10 = 0
      · obtain ⟨f, rfl⟩ : ∃ g, f = g + 1 := ⟨f - 1, by omega⟩
        rw [hs, show (((0 : Nat) : Int)) = 0 from rfl, dec_end (by omega) (by simp) hr', decDigits_small (by omega), Nat.mod_eq_of_lt (by omega), bts_cons]
        rfl
      · have hk : u / 10 < 2 ^ k := by
          rw [Nat.pow_succ] at hp
          generalize 2 ^ k = q at hp ⊢
          omega
        rw [ih (u / 10) _ (by omega) hk (.inl hs) (by simp; omega) hr' f (by omega), decDigits_great (by omega : ¬ u < 10), bts_cons, List.append_assoc]
        rfl
  have := key 30 n [] hn (by simp; omega) (.inr rfl) (by simp) (by simp) K (by omega)
  rw [spec_l01Dec, this]
  unfold Lib.itoa
  rw [if_neg (by omega)]
  simp [bts]

end
end Go.Fw
