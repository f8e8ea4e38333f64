/- Numbers as eight digits; texts of lists of numbers. -/
import Derived.Test.YtdclghdojlilfabDoorFwGPTxMin
import Derived.Test.YtdclghdojlilfabDoorFwFD
namespace Go.Fw
open Go Go.Proofs
noncomputable section

/-- The last k digits. -/
def hexK : Nat → Nat → List UInt8
  | 0, _ => []
  | k + 1, u => hexK k (u / 16) ++ [Hx.dig (u % 16)]
theorem hexK_length : ∀ (k u : Nat), (hexK k u).length = k
  | 0, _ => rfl
  | k + 1, u => by rw [hexK, List.length_append, hexK_length k]; rfl
theorem hexK_zero : ∀ k, hexK k 0 = Lib.repeatL [48] k
  | 0 => rfl
  | k + 1 => by
    rw [hexK, hexK_zero k, Lib.repeatL_add [48] k 1]; rfl
theorem hex_length : ∀ (k g u : Nat), u < 16 ^ (k + 1) → k ≤ g → 1 ≤ (Hx.hex (g + 1) u).length ∧ (Hx.hex (g + 1) u).length ≤ k + 1
  | 0, g, u, h, _ => by
    have hu : u < 16 := by simpa using h
    unfold Hx.hex
    rw [if_pos hu]; simp
  | k + 1, g, u, h, hg => by
    obtain ⟨g, rfl⟩ : ∃ j, g = j + 1 := ⟨g - 1, by omega⟩
    unfold Hx.hex
    by_cases hu : u < 16
    · rw [if_pos hu]; simp
    · rw [if_neg hu, List.length_append]
      have := hex_length k g (u / 16) (by rw [Nat.pow_succ] at h; omega) (by omega)
      simp only [List.length_singleton]; omega
theorem hex_pad : ∀ (k g u : Nat), u < 16 ^ (k + 1) → k ≤ g → Lib.repeatL [48] (k + 1 - (Hx.hex (g + 1) u).length) ++ Hx.hex (g + 1) u = hexK (k + 1) u
  | 0, g, u, h, _ => by
    have hu : u < 16 := by simpa using h
    unfold Hx.hex
    rw [if_pos hu, hexK, Nat.mod_eq_of_lt hu]; rfl
  | k + 1, g, u, h, hg => by
    obtain ⟨g, rfl⟩ : ∃ j, g = j + 1 := ⟨g - 1, by omega⟩
    unfold Hx.hex
    by_cases hu : u < 16
    · rw [if_pos hu, hexK, Nat.mod_eq_of_lt hu, Nat.div_eq_of_lt hu, hexK_zero]; rfl
    · rw [if_neg hu, hexK]
      have ih := hex_pad k g (u / 16) (by rw [Nat.pow_succ] at h; omega) (by omega)
      rw [← ih, List.length_append, List.length_singleton, show k + 1 + 1 - ((Hx.hex (g + 1) (u / 16)).length + 1) = k + 1 - (Hx.hex (g + 1) (u / 16)).length by omega, List.append_assoc]
/-- The bits of a number. -/
def bN (x : F32) : Nat := if x.ne x then 2143289344 else x.bits
theorem bN_lt (x : F32) : bN x < 16 ^ 8 := by
  unfold bN
  split
  · decide
  · exact x.lt
def h8 (x : F32) : List UInt8 := hexK 8 (bN x)
theorem h8_length (x : F32) : (h8 x).length = 8 := hexK_length _ _
theorem bits_of (x : F32) (h : x.ne x = false) : x.toBits = some (x.bits : Int) := by
  unfold Fl.toBits
  have : nanB .f32 x.bits = false := by
    cases hn : nanB .f32 x.bits
    · rfl
    · exfalso
      have : x.ne x = true := by
        show (FloatKind.f32.format.order x.bits x.bits != some .eq) = true
        rw [order_nan x x (.inl hn)]; rfl
      rw [this] at h; cases h
  simp [this]
theorem impl_bits (K : Nat) (x : F32) : impl_BitsOf K x = some (bN x : Int) := by
  have hl : x.bits < 4294967296 := x.lt
  unfold impl_BitsOf math_Float32bits bN
  cases h : x.ne x
  · rw [ite2_false, bits_of x h, bind_of, wrap_in (by omega) (by omega)]; rfl
  · rfl
theorem spec_bits (K : Nat) (x : F32) : spec_l01Bits K x = some (bN x : Int) := by
  have hl : x.bits < 4294967296 := x.lt
  unfold spec_l01Bits math_Float32bits bN
  cases h : x.ne x
  · rw [ite2_false, bits_of x h, bind_of, wrap_in (by omega) (by omega)]; rfl
  · rfl
theorem impl_hex (K : Nat) (x : F32) : impl_hexOf K x = some (ofL (h8 x)) := by
  have hl := bN_lt x
  have l1 : 1 ≤ (Hx.hex 16 (bN x)).length := (hex_length 7 15 (bN x) hl (by omega)).1
  have l2 : (Hx.hex 16 (bN x)).length ≤ 8 := (hex_length 7 15 (bN x) hl (by omega)).2
  have hp : Lib.repeatL [48] (8 - (Hx.hex 16 (bN x)).length) ++ Hx.hex 16 (bN x) = hexK 8 (bN x) := hex_pad 7 15 (bN x) hl (by omega)
  have hl2 : bN x < 4294967296 := hl
  have h8l : (hexK 8 (bN x)).length = 8 := hexK_length _ _
  unfold impl_hexOf strconv_FormatInt strings_Repeat fmtI rep1
  rw [impl_bits, bind_of, if_pos rfl, if_pos (by omega), Int.toNat_natCast, bind_of]
  show ((if 0 ≤ IntKind.i64.wrap (8 - (((Hx.hex 16 (bN x)).length : Nat) : Int)) ∧ IntKind.i64.wrap (8 - (((Hx.hex 16 (bN x)).length : Nat) : Int)) ≤ 9223372036854775807 ∧ 1 * (IntKind.i64.wrap (8 - (((Hx.hex 16 (bN x)).length : Nat) : Int))).toNat ≤ 140737488355328 then some (ByteArray.mk (Lib.repeatL [48] (IntKind.i64.wrap (8 - (((Hx.hex 16 (bN x)).length : Nat) : Int))).toNat).toArray) else none).bind _) = _
  rw [wrap_in (by omega) (by omega), if_pos (by omega), bind_of, show (8 - (((Hx.hex 16 (bN x)).length : Nat) : Int)).toNat = 8 - (Hx.hex 16 (bN x)).length by omega]
  have e := ofL_app (Lib.repeatL [48] (8 - (Hx.hex 16 (bN x)).length)) (Hx.hex 16 (bN x))
  rw [hp] at e
  have e2 := congrArg List.length hp
  rw [List.length_append, h8l] at e2
  have e3 : (ofL (Lib.repeatL [48] (8 - (Hx.hex 16 (bN x)).length))).size + (ofL (Hx.hex 16 (bN x))).size = 8 := e2
  rw [chk_pos (by
    show (((ofL (Lib.repeatL [48] (8 - (Hx.hex 16 (bN x)).length))).size + (ofL (Hx.hex 16 (bN x))).size : Nat) : Int) ≤ _
    omega)]
  exact congrArg some e
theorem shr_mask (u k j : Nat) (hu : u < 4294967296) (hk : j = k * 4) (hk2 : k ≤ 7) : bits .and .i64 ((u : Int).fdiv (2 ^ (min (IntKind.u64.wrap (j : Int)).toNat (IntKind.bits .i64)))) 15 = ((u / 16 ^ k % 16 : Nat) : Int) := by
  subst hk
  have w2 : IntKind.u64.wrap ((k * 4 : Nat) : Int) = ((k * 4 : Nat) : Int) := by rw [IntKind.wrap_u64]; omega
  have hmin : min (k * 4) (IntKind.bits .i64) = k * 4 := Nat.min_eq_left (by show k * 4 ≤ 64; omega)
  have hdiv : (u : Int).fdiv (2 ^ (k * 4)) = ((u / 16 ^ k : Nat) : Int) := by
    rw [Int.fdiv_eq_ediv_of_nonneg _ (Int.le_of_lt (Int.pow_pos (by decide)))]
    have : (2 : Int) ^ (k * 4) = ((16 ^ k : Nat) : Int) := by
      rw [Nat.mul_comm, Int.pow_mul]; push_cast; rfl
    rw [this]; rfl
  rw [w2, Int.toNat_natCast, hmin, hdiv]
  have hlt : u / 16 ^ k < 4611686018427387904 := Nat.lt_of_le_of_lt (Nat.div_le_self _ _) (by omega)
  have := bits_mask .i64 62 (by decide) (fun n h0 h1 => wrap_in (by omega) (by omega)) 4 (by decide) ((u / 16 ^ k : Nat) : Int) (Int.natCast_nonneg _) (by
    generalize u / 16 ^ k = q at hlt
    omega)
  have e : ((2 : Int) ^ 4 - 1) = 15 := by decide
  rw [e] at this
  rw [this]
  omega
theorem dig_bt : ∀ n : Fin 16, bt (ByteArray.mk #[48, 49, 50, 51, 52, 53, 54, 55, 56, 57, 97, 98, 99, 100, 101, 102]) n.val = ((Hx.dig n.val).toNat : Int) := by decide +kernel
theorem hexs_step {K k u : Nat} {j : Nat} {out : List Int} (hu : u < 4294967296) (hk2 : k ≤ 7) (hj : j = k * 4) (hl : out.length ≤ 64) :
    ∀ f, spec_l01Hex_l1 K (u : Int) (f + 1) (j : Int) out = spec_l01Hex_l1 K (u : Int) f ((j : Int) - 4) (out ++ [((Hx.dig (u / 16 ^ k % 16)).toNat : Int)]) := by
  intro f
  have hm := shr_mask u k j hu hj hk2
  have h16 : u / 16 ^ k % 16 < 16 := Nat.mod_lt _ (by omega)
  have w2 : 0 ≤ IntKind.u64.wrap (j : Int) := by rw [IntKind.wrap_u64]; omega
  rw [spec_l01Hex_l1, ite2_dec, if_pos (by omega), chk_pos w2, hm, chk_pos ⟨by omega, by show _ < ((16 : Nat) : Int); omega⟩, Int.toNat_natCast, dig_bt ⟨u / 16 ^ k % 16, h16⟩, chk_pos (by simp; omega), wrap_in (by omega) (by omega)]
theorem strOf_map (l : List UInt8) : strOf (l.map fun b => (b.toNat : Int)) = ofL l := by
  unfold strOf ofL
  rw [List.map_map]
  congr 2
  conv => rhs; rw [← List.map_id l]
  apply List.map_congr_left
  intro b _
  simp
theorem hexK8 (u : Nat) : hexK 8 u = [Hx.dig (u / 16 ^ 7 % 16), Hx.dig (u / 16 ^ 6 % 16), Hx.dig (u / 16 ^ 5 % 16), Hx.dig (u / 16 ^ 4 % 16), Hx.dig (u / 16 ^ 3 % 16), Hx.dig (u / 16 ^ 2 % 16), Hx.dig (u / 16 ^ 1 % 16), Hx.dig (u / 16 ^ 0 % 16)] := by
  simp only [hexK, List.nil_append, List.cons_append, Nat.div_div_eq_div_mul]
  simp
theorem spec_hex {K : Nat} (hK : 20 < K) (x : F32) : spec_l01Hex K x = some (ofL (h8 x)) := by
  have hu : bN x < 4294967296 := bN_lt x
  have go : ∀ f, spec_l01Hex_l1 K (bN x : Int) (f + 9) 28 [] = some (ofL (h8 x)) := by
    intro f
    obtain ⟨d, hd⟩ : ∃ d : Nat → Int, ∀ k, d k = ((Hx.dig (bN x / 16 ^ k % 16)).toNat : Int) := ⟨_, fun _ => rfl⟩
    have st : ∀ (k j : Nat) (o : List Int) (f : Nat), k ≤ 7 → j = k * 4 → o.length ≤ 64 → spec_l01Hex_l1 K (bN x : Int) (f + 1) (j : Int) o = spec_l01Hex_l1 K (bN x : Int) f ((j : Int) - 4) (o ++ [d k]) := fun k j o f h1 h2 h3 => by
      rw [hd]; exact hexs_step hu h1 h2 h3 f
    have e7 : spec_l01Hex_l1 K (bN x : Int) (f + 9) 28 [] = spec_l01Hex_l1 K (bN x : Int) (f + 8) 24 [d 7] := st 7 28 [] (f + 8) (by omega) rfl (by simp)
    have e6 : spec_l01Hex_l1 K (bN x : Int) (f + 8) 24 [d 7] = spec_l01Hex_l1 K (bN x : Int) (f + 7) 20 [d 7, d 6] := st 6 24 _ (f + 7) (by omega) rfl (by simp)
    have e5 : spec_l01Hex_l1 K (bN x : Int) (f + 7) 20 [d 7, d 6] = spec_l01Hex_l1 K (bN x : Int) (f + 6) 16 [d 7, d 6, d 5] := st 5 20 _ (f + 6) (by omega) rfl (by simp)
    have e4 : spec_l01Hex_l1 K (bN x : Int) (f + 6) 16 [d 7, d 6, d 5] = spec_l01Hex_l1 K (bN x : Int) (f + 5) 12 [d 7, d 6, d 5, d 4] := st 4 16 _ (f + 5) (by omega) rfl (by simp)
    have e3 : spec_l01Hex_l1 K (bN x : Int) (f + 5) 12 [d 7, d 6, d 5, d 4] = spec_l01Hex_l1 K (bN x : Int) (f + 4) 8 [d 7, d 6, d 5, d 4, d 3] := st 3 12 _ (f + 4) (by omega) rfl (by simp)
    have e2 : spec_l01Hex_l1 K (bN x : Int) (f + 4) 8 [d 7, d 6, d 5, d 4, d 3] = spec_l01Hex_l1 K (bN x : Int) (f + 3) 4 [d 7, d 6, d 5, d 4, d 3, d 2] := st 2 8 _ (f + 3) (by omega) rfl (by simp)
    have e1 : spec_l01Hex_l1 K (bN x : Int) (f + 3) 4 [d 7, d 6, d 5, d 4, d 3, d 2] = spec_l01Hex_l1 K (bN x : Int) (f + 2) 0 [d 7, d 6, d 5, d 4, d 3, d 2, d 1] := st 1 4 _ (f + 2) (by omega) rfl (by simp)
    have e0 : spec_l01Hex_l1 K (bN x : Int) (f + 2) 0 [d 7, d 6, d 5, d 4, d 3, d 2, d 1] = spec_l01Hex_l1 K (bN x : Int) (f + 1) (-4) [d 7, d 6, d 5, d 4, d 3, d 2, d 1, d 0] := st 0 0 _ (f + 1) (by omega) rfl (by simp)
    have hl : [d 7, d 6, d 5, d 4, d 3, d 2, d 1, d 0] = (h8 x).map fun b => (b.toNat : Int) := by
      unfold h8
      rw [hexK8]
      simp only [hd, List.map_cons, List.map_nil]
    rw [e7, e6, e5, e4, e3, e2, e1, e0, hl, spec_l01Hex_l1, ite2_dec, if_neg (by omega), chk_pos, strOf_map]
    intro y hy
    obtain ⟨b, _, rfl⟩ := List.mem_map.1 hy
    have := b.toNat_lt
    omega
  unfold spec_l01Hex
  rw [spec_bits, bind_of]
  obtain ⟨f, rfl⟩ : ∃ f, K = f + 9 := ⟨K - 9, by omega⟩
  exact go f

/-! Texts of lists. -/
def tailT (l : List F32) : List UInt8 := (l.map fun x => 44 :: h8 x).flatten
def nt : List F32 → List UInt8
  | [] => [110, 111, 110, 101]
  | x :: r => h8 x ++ tailT r
theorem tailT_cons (x : F32) (r : List F32) : tailT (x :: r) = (44 :: h8 x) ++ tailT r := rfl
theorem tailT_length : ∀ l, (tailT l).length = 9 * l.length
  | [] => rfl
  | x :: r => by rw [tailT_cons, List.length_append, tailT_length r, List.length_cons, List.length_cons, h8_length]; omega
theorem nt_length (l : List F32) : (nt l).length ≤ 9 * l.length + 4 := by
  cases l with
  | nil => simp [nt]
  | cons x r => simp only [nt, List.length_append, h8_length, tailT_length, List.length_cons]; omega
theorem spec_nt {K : Nat} {l : List F32} (hl : l.length ≤ 1000000) (hK : l.length + 21 < K) : spec_l01NText K l = some (ofL (nt l)) := by
  unfold spec_l01NText
  cases l with
  | nil => rfl
  | cons x r =>
    have key : ∀ (k i : Nat) (o : List UInt8), i ≤ (x :: r).length → (x :: r).length - i < k → o.length + 9 * ((x :: r).length - i) ≤ 100000000 → spec_l01NText_l1 K (x :: r) k (ofL o) (i : Int) = some (ofL (o ++ tailT ((x :: r).drop i))) := by
      intro k
      induction k with
      | zero => intro i o _ h; omega
      | succ k ih =>
        intro i o h1 h2 h3
        rw [spec_l01NText_l1, ite2_dec]
        by_cases hi : i < (x :: r).length
        · rw [if_pos (by omega), chk_pos (by omega), Int.toNat_natCast, getD_of_lt hi, spec_hex (by omega), bind_of]
          have hs : (ByteArray.mk #[44] ++ ofL (h8 ((x :: r)[i]))) = ofL (44 :: h8 ((x :: r)[i])) := ofL_app [44] _
          have hl8 := h8_length ((x :: r)[i])
          rw [hs, ofL_app]
          rw [chk_pos (by show ((1 + (h8 ((x :: r)[i])).length : Nat) : Int) ≤ _; omega), chk_pos (by rw [size_ofL, size_ofL, List.length_cons]; omega), wrap_nat1 (by omega)]
          rw [ih (i + 1) _ (by omega) (by omega) (by rw [List.length_append, List.length_cons]; omega), drop_cons hi, tailT_cons, List.append_assoc]
        · rw [if_neg (by omega), List.drop_eq_nil_of_le (by omega)]
          show _ = some (ofL (o ++ []))
          rw [List.append_nil]
    have hne : (((x :: r).length : Int) == 0) = false := by
      rw [beq_eq_false_iff_ne]; simp only [List.length_cons]; omega
    rw [hne, ite2_false, chk_pos (by simp), show ((x :: r).getD ((0 : Int).toNat) default) = x from rfl, spec_hex (by omega), bind_of]
    have := key K 1 (h8 x) (by simp) (by omega) (by rw [h8_length]; omega)
    exact this
theorem join_nt (x : F32) (r : List F32) : Lib.join ((x :: r).map fun y => h8 y) [44] = nt (x :: r) := by
  rw [List.map_cons, Lib.join_cons, nt]
  congr 1
  unfold Lib.joinTail tailT
  rw [List.map_map]; rfl
theorem impl_joined_nt {K : Nat} {l : List F32} (hl : l.length ≤ 1000000) : impl_joined K (l.map fun y => ofL (h8 y)) = some (ofL (nt l)) := by
  unfold impl_joined strings_Join join1
  cases l with
  | nil => rfl
  | cons x r =>
    have hne : ((((x :: r).map fun y => ofL (h8 y)).length : Int) == 0) = false := by
      rw [beq_eq_false_iff_ne, List.length_map]; simp only [List.length_cons]; omega
    have e : ((x :: r).map fun y => ofL (h8 y)).map (·.data.toList) = (x :: r).map fun y => h8 y := by
      rw [List.map_map]; rfl
    have e2 : (ByteArray.mk #[44]).data.toList = [44] := rfl
    have hn := nt_length (x :: r)
    rw [hne, ite2_false, e, e2, join_nt, if_pos ⟨by rw [List.length_map]; omega, by omega⟩, bind_of]; rfl
theorem impl_nt {K : Nat} {l : List F32} (hl : l.length ≤ 1000000) (hK : l.length < K) : impl_numbersText K l = some (ofL (nt l)) := by
  unfold impl_numbersText
  have key : ∀ (k i : Nat) (o : List ByteArray), i ≤ l.length → l.length - i < k → o.length = l.length → (∀ j, j < i → o.getD j default = ofL (h8 (l.getD j default))) → impl_numbersText_l1 K l k (i : Int) o = some (ofL (nt l)) := by
    intro k
    induction k with
    | zero => intro i o _ h; omega
    | succ k ih =>
      intro i o h1 h2 h3 h4
      rw [impl_numbersText_l1, ite2_dec]
      by_cases hi : i < l.length
      · rw [if_pos (by omega), chk_pos (by omega), Int.toNat_natCast, impl_hex, bind_of, chk_pos (by omega), wrap_nat1 (by omega)]
        refine ih (i + 1) _ (by omega) (by omega) (by rw [List.length_set]; exact h3) fun j hj => ?_
        by_cases e : j = i
        · subst e
          rw [set_getD (by omega)]
        · have : (o.set i (ofL (h8 (l.getD i default)))).getD j default = o.getD j default := by
            rw [List.getD_eq_getElem?_getD, List.getElem?_set_ne (by omega), ← List.getD_eq_getElem?_getD]
          rw [this]; exact h4 j (by omega)
      · rw [if_neg (by omega)]
        have e : o = l.map fun y => ofL (h8 y) := by
          apply List.ext_getElem
          · rw [List.length_map]; exact h3
          · intro j hj hj2
            rw [List.length_map] at hj2
            have := h4 j (by omega)
            rw [getD_of_lt hj, getD_of_lt hj2] at this
            rw [this, List.getElem_map]
        rw [e, impl_joined_nt hl]; rfl
  rw [chk_pos (by omega), Int.toNat_natCast]
  exact key K 0 _ (by omega) (by omega) (by simp) (fun j hj => by omega)

end
end Go.Fw
