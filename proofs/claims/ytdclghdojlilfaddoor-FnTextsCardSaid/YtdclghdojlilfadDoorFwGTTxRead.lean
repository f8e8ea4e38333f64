/- Texts as lists of bytes: parts between marks. -/
import Derived.Test.YtdclghdojlilfadDoorFwGT
import Derived.Test.YtdclghdojlilfadDoorFwLW
import Derived.Lib.Bytealg
import Derived.Test.YtdclghdojlilfadDoorFwFD
namespace Go.Fw
open Go
noncomputable section

def toL (s : ByteArray) : List UInt8 := s.data.toList
def ofL (l : List UInt8) : ByteArray := ⟨l.toArray⟩
theorem ofL_toL (s : ByteArray) : ofL (toL s) = s := rfl
theorem toL_ofL (l : List UInt8) : toL (ofL l) = l := rfl
theorem toL_length (s : ByteArray) : (toL s).length = s.size := rfl
theorem size_ofL (l : List UInt8) : (ofL l).size = l.length := rfl
theorem ofL_inj {a b : List UInt8} : ofL a = ofL b ↔ a = b := ⟨fun h => by have := congrArg toL h; rwa [toL_ofL, toL_ofL] at this, fun h => by rw [h]⟩
theorem toL_extract (s : ByteArray) (i j : Nat) : toL (s.extract i j) = ((toL s).drop i).take (j - i) := by
  simp [toL, ByteArray.data_extract]
theorem ext_ofL (s : ByteArray) (i j : Nat) : s.extract i j = ofL (((toL s).drop i).take (j - i)) := by rw [← toL_extract, ofL_toL]
theorem toList_toL (s : ByteArray) : s.toList = toL s := ByteArray.toList_eq s
theorem bt_toL {s : ByteArray} {i : Nat} (h : i < s.size) : bt s i = (((toL s)[i]'h).toNat : Int) := by rw [bt_getD s i h]; rfl
theorem drop_cons {α : Type} {l : List α} {i : Nat} (h : i < l.length) : l.drop i = l[i] :: l.drop (i + 1) := List.drop_eq_getElem_cons h

/-- Where a byte stands first. -/
def ix (c : UInt8) : List UInt8 → Nat
  | [] => 0
  | b :: l => if b = c then 0 else ix c l + 1
theorem ix_le (c : UInt8) : ∀ l, ix c l ≤ l.length
  | [] => Nat.le_refl _
  | b :: l => by have := ix_le c l; unfold ix; split <;> simp; omega
theorem ix_at (c : UInt8) : ∀ (l : List UInt8) (h : ix c l < l.length), l[ix c l] = c
  | [], h => by simp [ix] at h
  | b :: l, h => by
    unfold ix at h ⊢
    split
    · rename_i e; simp [e]
    · rename_i e
      simp only [if_neg e, List.length_cons] at h
      simp only [List.getElem_cons_succ]
      exact ix_at c l (by omega)
theorem ix_before (c : UInt8) : ∀ (l : List UInt8) (i : Nat) (_ : i < ix c l) (h2 : i < l.length), l[i] ≠ c
  | [], i, h, _ => by simp [ix] at h
  | b :: l, 0, h, _ => by
    unfold ix at h
    split at h
    · omega
    · rename_i e; simpa using e
  | b :: l, i + 1, h, h2 => by
    unfold ix at h
    split at h
    · omega
    · simp only [List.getElem_cons_succ]
      exact ix_before c l i (by omega) (by simpa using h2)
theorem indexByte_ix (c : UInt8) : ∀ l, Lib.indexByte l c = if ix c l < l.length then (ix c l : Int) else -1
  | [] => by simp [Lib.indexByte, ix]
  | b :: l => by
    have ih := indexByte_ix c l
    unfold Lib.indexByte ix
    by_cases e : b = c
    · subst e; simp
    · have e' : (b == c) = false := by simpa using e
      rw [e', ih, if_neg e, List.length_cons]
      by_cases h : ix c l < l.length
      · have h2 : ix c l + 1 < l.length + 1 := by omega
        have h3 : ((ix c l : Int) == -1) = false := by simp
        rw [if_pos h, if_pos h2, h3]
        simp
      · have h2 : ¬ ix c l + 1 < l.length + 1 := by omega
        rw [if_neg h, if_neg h2]
        rfl

/-- The parts between marks. -/
def spl (m : UInt8) : List UInt8 → List (List UInt8)
  | [] => [[]]
  | c :: l => if c = m then [] :: spl m l else match spl m l with
    | [] => [[c]]
    | p :: ps => (c :: p) :: ps
theorem spl_cons (m : UInt8) : ∀ l, ∃ p ps, spl m l = p :: ps
  | [] => ⟨_, _, rfl⟩
  | c :: l => by
    obtain ⟨p, ps, h⟩ := spl_cons m l
    unfold spl
    rw [h]
    split
    · exact ⟨_, _, rfl⟩
    · exact ⟨_, _, rfl⟩
theorem spl_mark {m : UInt8} (l : List UInt8) : spl m (m :: l) = [] :: spl m l := by
  conv => lhs; unfold spl
  rw [if_pos rfl]
theorem spl_other {m c : UInt8} {l p : List UInt8} {ps : List (List UInt8)} (h : c ≠ m) (e : spl m l = p :: ps) : spl m (c :: l) = (c :: p) :: ps := by
  conv => lhs; unfold spl
  rw [if_neg h, e]
theorem spl_no {m : UInt8} : ∀ {l : List UInt8}, ¬ ix m l < l.length → spl m l = [l]
  | [], _ => rfl
  | c :: l, h => by
    unfold ix at h
    split at h
    · simp at h
    · rename_i e
      exact spl_other e (spl_no (m := m) (l := l) (by simp only [List.length_cons] at h; omega))
theorem spl_at {m : UInt8} : ∀ {l : List UInt8}, ix m l < l.length → spl m l = l.take (ix m l) :: spl m (l.drop (ix m l + 1))
  | [], h => by simp [ix] at h
  | c :: l, h => by
    by_cases e : c = m
    · subst e
      rw [spl_mark]
      simp [ix]
    · have hi : ix m (c :: l) = ix m l + 1 := by rw [ix, if_neg e]
      rw [hi] at h ⊢
      have ih := spl_at (m := m) (l := l) (by simp only [List.length_cons] at h; omega)
      rw [spl_other e ih]
      rfl
theorem spl_length (m : UInt8) : ∀ l, (spl m l).length ≤ l.length + 1
  | [] => by simp [spl]
  | c :: l => by
    have ih := spl_length m l
    by_cases e : c = m
    · subst e; rw [spl_mark]; simp; omega
    · obtain ⟨p, ps, h⟩ := spl_cons m l
      rw [spl_other e h]
      rw [h] at ih
      simp only [List.length_cons] at ih ⊢; omega
theorem spl_part {m : UInt8} : ∀ {l p : List UInt8}, p ∈ spl m l → p.length ≤ l.length
  | [], p, h => by simp [spl] at h; subst h; simp
  | c :: l, q, h => by
    by_cases e : c = m
    · subst e
      rw [spl_mark] at h
      rcases List.mem_cons.1 h with rfl | h
      · simp
      · have := spl_part h; simp only [List.length_cons]; omega
    · obtain ⟨p, ps, hp⟩ := spl_cons m l
      rw [spl_other e hp] at h
      rcases List.mem_cons.1 h with rfl | h
      · have : p ∈ spl m l := by rw [hp]; simp
        have := spl_part this; simp only [List.length_cons]; omega
      · have : q ∈ spl m l := by rw [hp]; simp [h]
        have := spl_part this; simp only [List.length_cons]; omega

theorem wrap_small {n : Int} (h0 : -1000000000 ≤ n) (h1 : n ≤ 1000000000) : IntKind.i64.wrap n = n := wrap_in (by omega) (by omega)
theorem ofL_app (a b : List UInt8) : ofL a ++ ofL b = ofL (a ++ b) := by
  apply ByteArray.ext
  simp [ofL]

end
end Go.Fw

namespace Go.Fw
open Go Go.Proofs
noncomputable section

/-- The last k digits. -/
def hexK : Nat → Nat → List UInt8
  | 0, _ => []
  | k + 1, u => hexK k (u / 16) ++ [Hx.dig (u % 16)]
theorem hexK_length : ∀ (k u : Nat), (hexK k u).length = k
  | 0, _ => rfl
  | k + 1, u => by rw [hexK, List.length_append, hexK_length k]; rfl
theorem hexK_zero : ∀ k, hexK k 0 = Lib.repeatL [48] k
  | 0 => rfl
  | k + 1 => by
    rw [hexK, hexK_zero k, Lib.repeatL_add [48] k 1]; rfl
theorem hex_length : ∀ (k g u : Nat), u < 16 ^ (k + 1) → k ≤ g → 1 ≤ (Hx.hex (g + 1) u).length ∧ (Hx.hex (g + 1) u).length ≤ k + 1
  | 0, g, u, h, _ => by
    have hu : u < 16 := by simpa using h
    unfold Hx.hex
    rw [if_pos hu]; simp
  | k + 1, g, u, h, hg => by
    obtain ⟨g, rfl⟩ : ∃ j, g = j + 1 := ⟨g - 1, by omega⟩
    unfold Hx.hex
    by_cases hu : u < 16
    · rw [if_pos hu]; simp
    · rw [if_neg hu, List.length_append]
      have := hex_length k g (u / 16) (by rw [Nat.pow_succ] at h; omega) (by omega)
      simp only [List.length_singleton]; omega
theorem hex_pad : ∀ (k g u : Nat), u < 16 ^ (k + 1) → k ≤ g → Lib.repeatL [48] (k + 1 - (Hx.hex (g + 1) u).length) ++ Hx.hex (g + 1) u = hexK (k + 1) u
  | 0, g, u, h, _ => by
    have hu : u < 16 := by simpa using h
    unfold Hx.hex
    rw [if_pos hu, hexK, Nat.mod_eq_of_lt hu]; rfl
  | k + 1, g, u, h, hg => by
    obtain ⟨g, rfl⟩ : ∃ j, g = j + 1 := ⟨g - 1, by omega⟩
    unfold Hx.hex
    by_cases hu : u < 16
    · rw [if_pos hu, hexK, Nat.mod_eq_of_lt hu, Nat.div_eq_of_lt hu, hexK_zero]; rfl
    · rw [if_neg hu, hexK]
      have ih := hex_pad k g (u / 16) (by rw [Nat.pow_succ] at h; omega) (by omega)
      rw [← ih, List.length_append, List.length_singleton, show k + 1 + 1 - ((Hx.hex (g + 1) (u / 16)).length + 1) = k + 1 - (Hx.hex (g + 1) (u / 16)).length by omega, List.append_assoc]
/-- The bits of a number. -/
def bN (x : F32) : Nat := if x.ne x then 2143289344 else x.bits
theorem bN_lt (x : F32) : bN x < 16 ^ 8 := by
  unfold bN
  split
  · decide
  · exact x.lt
def h8 (x : F32) : List UInt8 := hexK 8 (bN x)
theorem h8_length (x : F32) : (h8 x).length = 8 := hexK_length _ _
theorem bits_of (x : F32) (h : x.ne x = false) : x.toBits = some (x.bits : Int) := by
  unfold Fl.toBits
  have : nanB .f32 x.bits = false := by
    cases hn : nanB .f32 x.bits
    · rfl
    · exfalso
      have : x.ne x = true := by
        show (FloatKind.f32.format.order x.bits x.bits != some .eq) = true
        rw [order_nan x x (.inl hn)]; rfl
      rw [this] at h; cases h
  simp [this]
theorem impl_bits (K : Nat) (x : F32) : impl_BitsOf K x = some (bN x : Int) := by
  have hl : x.bits < 4294967296 := x.lt
  unfold impl_BitsOf math_Float32bits bN
  cases h : x.ne x
  · rw [ite2_false, bits_of x h, bind_of, wrap_in (by omega) (by omega)]; rfl
  · rfl
theorem impl_hex (K : Nat) (x : F32) : impl_hexOf K x = some (ofL (h8 x)) := by
  have hl := bN_lt x
  have l1 : 1 ≤ (Hx.hex 16 (bN x)).length := (hex_length 7 15 (bN x) hl (by omega)).1
  have l2 : (Hx.hex 16 (bN x)).length ≤ 8 := (hex_length 7 15 (bN x) hl (by omega)).2
  have hp : Lib.repeatL [48] (8 - (Hx.hex 16 (bN x)).length) ++ Hx.hex 16 (bN x) = hexK 8 (bN x) := hex_pad 7 15 (bN x) hl (by omega)
  have hl2 : bN x < 4294967296 := hl
  have h8l : (hexK 8 (bN x)).length = 8 := hexK_length _ _
  unfold impl_hexOf strconv_FormatInt strings_Repeat fmtI rep1
  rw [impl_bits, bind_of, if_pos rfl, if_pos (by omega), Int.toNat_natCast, bind_of]
  show ((if 0 ≤ IntKind.i64.wrap (8 - (((Hx.hex 16 (bN x)).length : Nat) : Int)) ∧ IntKind.i64.wrap (8 - (((Hx.hex 16 (bN x)).length : Nat) : Int)) ≤ 9223372036854775807 ∧ 1 * (IntKind.i64.wrap (8 - (((Hx.hex 16 (bN x)).length : Nat) : Int))).toNat ≤ 140737488355328 then some (ByteArray.mk (Lib.repeatL [48] (IntKind.i64.wrap (8 - (((Hx.hex 16 (bN x)).length : Nat) : Int))).toNat).toArray) else none).bind _) = _
  rw [wrap_in (by omega) (by omega), if_pos (by omega), bind_of, show (8 - (((Hx.hex 16 (bN x)).length : Nat) : Int)).toNat = 8 - (Hx.hex 16 (bN x)).length by omega]
  have e := ofL_app (Lib.repeatL [48] (8 - (Hx.hex 16 (bN x)).length)) (Hx.hex 16 (bN x))
  rw [hp] at e
  have e2 := congrArg List.length hp
  rw [List.length_append, h8l] at e2
  have e3 : (ofL (Lib.repeatL [48] (8 - (Hx.hex 16 (bN x)).length))).size + (ofL (Hx.hex 16 (bN x))).size = 8 := e2
  rw [chk_pos (by
    show (((ofL (Lib.repeatL [48] (8 - (Hx.hex 16 (bN x)).length))).size + (ofL (Hx.hex 16 (bN x))).size : Nat) : Int) ≤ _
    omega)]
  exact congrArg some e
/-! Texts of lists. -/
def tailT (l : List F32) : List UInt8 := (l.map fun x => 44 :: h8 x).flatten
def nt : List F32 → List UInt8
  | [] => [110, 111, 110, 101]
  | x :: r => h8 x ++ tailT r
theorem tailT_cons (x : F32) (r : List F32) : tailT (x :: r) = (44 :: h8 x) ++ tailT r := rfl
theorem tailT_length : ∀ l, (tailT l).length = 9 * l.length
  | [] => rfl
  | x :: r => by rw [tailT_cons, List.length_append, tailT_length r, List.length_cons, List.length_cons, h8_length]; omega
theorem nt_length (l : List F32) : (nt l).length ≤ 9 * l.length + 4 := by
  cases l with
  | nil => simp [nt]
  | cons x r => simp only [nt, List.length_append, h8_length, tailT_length, List.length_cons]; omega
theorem join_nt (x : F32) (r : List F32) : Lib.join ((x :: r).map fun y => h8 y) [44] = nt (x :: r) := by
  rw [List.map_cons, Lib.join_cons, nt]
  congr 1
  unfold Lib.joinTail tailT
  rw [List.map_map]; rfl
theorem impl_joined_nt {K : Nat} {l : List F32} (hl : l.length ≤ 1000000) : impl_joined K (l.map fun y => ofL (h8 y)) = some (ofL (nt l)) := by
  unfold impl_joined strings_Join join1
  cases l with
  | nil => rfl
  | cons x r =>
    have hne : ((((x :: r).map fun y => ofL (h8 y)).length : Int) == 0) = false := by
      rw [beq_eq_false_iff_ne, List.length_map]; simp only [List.length_cons]; omega
    have e : ((x :: r).map fun y => ofL (h8 y)).map (·.data.toList) = (x :: r).map fun y => h8 y := by
      rw [List.map_map]; rfl
    have e2 : (ByteArray.mk #[44]).data.toList = [44] := rfl
    have hn := nt_length (x :: r)
    rw [hne, ite2_false, e, e2, join_nt, if_pos ⟨by rw [List.length_map]; omega, by omega⟩, bind_of]; rfl
theorem impl_nt {K : Nat} {l : List F32} (hl : l.length ≤ 1000000) (hK : l.length < K) : impl_numbersText K l = some (ofL (nt l)) := by
  unfold impl_numbersText
  have key : ∀ (k i : Nat) (o : List ByteArray), i ≤ l.length → l.length - i < k → o.length = l.length → (∀ j, j < i → o.getD j default = ofL (h8 (l.getD j default))) → impl_numbersText_l1 K l k (i : Int) o = some (ofL (nt l)) := by
    intro k
    induction k with
    | zero => intro i o _ h; omega
    | succ k ih =>
      intro i o h1 h2 h3 h4
      rw [impl_numbersText_l1, ite2_dec]
      by_cases hi : i < l.length
      · rw [if_pos (by omega), chk_pos (by omega), Int.toNat_natCast, impl_hex, bind_of, chk_pos (by omega), wrap_nat1 (by omega)]
        refine ih (i + 1) _ (by omega) (by omega) (by rw [List.length_set]; exact h3) fun j hj => ?_
        by_cases e : j = i
        · subst e
          rw [set_getD (by omega)]
        · have : (o.set i (ofL (h8 (l.getD i default)))).getD j default = o.getD j default := by
            rw [List.getD_eq_getElem?_getD, List.getElem?_set_ne (by omega), ← List.getD_eq_getElem?_getD]
          rw [this]; exact h4 j (by omega)
      · rw [if_neg (by omega)]
        have e : o = l.map fun y => ofL (h8 y) := by
          apply List.ext_getElem
          · rw [List.length_map]; exact h3
          · intro j hj hj2
            rw [List.length_map] at hj2
            have := h4 j (by omega)
            rw [getD_of_lt hj, getD_of_lt hj2] at this
            rw [this, List.getElem_map]
        rw [e, impl_joined_nt hl]; rfl
  rw [chk_pos (by omega), Int.toNat_natCast]
  exact key K 0 _ (by omega) (by omega) (by simp) (fun j hj => by omega)

end
end Go.Fw

namespace Go.Fw
open Go Go.Proofs
noncomputable section

theorem dig_hex : ∀ n : Fin 16, Px.isHex (Hx.dig n.val) ∧ Px.hv (Hx.dig n.val) = n.val := by decide +kernel
theorem hexK_isHex : ∀ (k u : Nat), ∀ c ∈ hexK k u, Px.isHex c
  | 0, _, c, h => by cases h
  | k + 1, u, c, h => by
    rw [hexK] at h
    rcases List.mem_append.1 h with h | h
    · exact hexK_isHex k _ c h
    · obtain rfl := List.mem_singleton.1 h
      exact (dig_hex ⟨u % 16, Nat.mod_lt _ (by omega)⟩).1
theorem hval_hexK : ∀ (k u : Nat), Px.hval (hexK k u) = u % 16 ^ k
  | 0, u => by simp [hexK, Px.hval, Nat.mod_one]
  | k + 1, u => by
    rw [hexK, Px.hval_snoc, hval_hexK k, (dig_hex ⟨u % 16, Nat.mod_lt _ (by omega)⟩).2]
    show u / 16 % 16 ^ k * 16 + u % 16 = _
    rw [Nat.pow_succ, Nat.mul_comm (16 ^ k) 16, Nat.mod_mul]
    omega
theorem p16_h8 (x : F32) : p16 (ofL (h8 x)) 16 32 = some ((bN x : Int), ()) := by
  have hl := h8_length x
  have hv : Px.hval (h8 x) = bN x := by
    unfold h8; rw [hval_hexK, Nat.mod_eq_of_lt (bN_lt x)]
  unfold p16
  rw [if_pos ⟨rfl, rfl, by rw [size_ofL, hl]; decide, by rw [size_ofL, hl]; decide, hexK_isHex 8 _⟩]
  show some ((Px.hval (h8 x) : Int), ()) = _
  rw [hv]
theorem of_bN (x : F32) : Fl.ofBits .f32 (IntKind.u32.wrap (bN x : Int)) = some x := by
  have hlt := bN_lt x
  have h16 : (16 : Nat) ^ 8 = 4294967296 := by decide
  have hw : IntKind.u32.wrap (bN x : Int) = (bN x : Int) := by
    have : ∀ n : Int, IntKind.u32.wrap n = n % 4294967296 := fun n => by simp [IntKind.wrap, IntKind.bits, IntKind.signed]
    rw [this]; omega
  have hb : bN x < 2 ^ FloatKind.f32.format.width := hlt
  rw [hw]
  unfold Fl.ofBits
  rw [dif_pos ⟨by omega, by rw [Int.toNat_natCast]; exact hb⟩]
  have key : canonF .f32 (bN x) = x.bits := by
    unfold bN
    have hx := x.ok
    unfold okF at hx
    simp only [Bool.and_eq_true, beq_iff_eq] at hx
    cases hn : nanB .f32 x.bits
    · have hne : x.ne x = false := by
        show (FloatKind.f32.format.order x.bits x.bits != some .eq) = false
        rw [order_f32 hn hn, compare_eq' rfl]; rfl
      rw [hne, if_neg (by decide)]
      exact hx.2
    · have hne : x.ne x = true := by
        show (FloatKind.f32.format.order x.bits x.bits != some .eq) = true
        rw [order_nan x x (.inl hn)]; rfl
      rw [hne, if_pos rfl, canonF_nan (by decide +kernel), ← hx.2, canonF_nan hn]
  congr 1
  unfold Fl.of
  cases x with
  | mk b ok =>
    simp only at key
    simp only [Int.toNat_natCast, key]
theorem fromHex_h8 (K : Nat) (x : F32) : impl_fromHex K (ofL (h8 x)) = some (x, true) := by
  unfold impl_fromHex strconv_ParseUint math_Float32frombits
  rw [p16_h8, bind_of, size_ofL, h8_length, show ((((8 : Nat) : Int)) != 8) = false from rfl, ite2_false, of_bN, bind_of, impl_hex, bind_of, beq_self_eq_true]

/-! Parts between commas. -/
theorem no44 (x : F32) : ∀ c ∈ h8 x, c ≠ 44 := fun c hc h => by
  subst h
  have := hexK_isHex 8 _ 44 hc
  revert this; decide
theorem ix_append (m : UInt8) : ∀ (p r : List UInt8), (∀ c ∈ p, c ≠ m) → ix m (p ++ m :: r) = p.length
  | [], r, _ => by simp [ix]
  | b :: p, r, h => by
    show ix m (b :: (p ++ m :: r)) = _
    rw [ix, if_neg (h b (by simp)), ix_append m p r fun c hc => h c (List.mem_cons_of_mem _ hc)]; rfl
/-- What stands behind the first part. -/
def tailP (l : List (List UInt8)) : List UInt8 := (l.map fun p => 44 :: p).flatten
theorem tailP_cons (p : List UInt8) (r : List (List UInt8)) : tailP (p :: r) = (44 :: p) ++ tailP r := rfl
theorem split_ps : ∀ (r : List (List UInt8)) (x : List UInt8), (∀ c ∈ x, c ≠ 44) → (∀ p ∈ r, ∀ c ∈ p, c ≠ (44 : UInt8)) → Lib.splitB ⟨#[44]⟩ 0 r.length (ofL (x ++ tailP r)) = (x :: r).map ofL
  | [], x, _, _ => by
    show [ofL (x ++ [])] = _
    rw [List.append_nil]; rfl
  | y :: r, x, hx, hr => by
    have hi : Lib.indexB (ofL (x ++ tailP (y :: r))) ⟨#[44]⟩ = (x.length : Int) := by
      show Lib.index (x ++ tailP (y :: r)) [44] = _
      have e := ix_append 44 x (y ++ tailP r) hx
      have e2 : x ++ tailP (y :: r) = x ++ 44 :: (y ++ tailP r) := rfl
      rw [Px.index_one, indexByte_ix, e2, e, if_pos (by simp)]
    rw [List.length_cons, Lib.splitB_hit _ _ _ _ _ hi]
    have e1 : (ofL (x ++ tailP (y :: r))).extract 0 (x.length + 0) = ofL x := by
      rw [ext_ofL, toL_ofL, List.drop_zero]; simp
    have e3 : (ofL (x ++ tailP (y :: r))).extract (x.length + (ByteArray.mk #[44]).size) (ofL (x ++ tailP (y :: r))).size = ofL (y ++ tailP r) := by
      rw [ext_ofL, toL_ofL, size_ofL]
      have : (ByteArray.mk #[44]).size = 1 := rfl
      rw [this]
      have e4 : (x ++ tailP (y :: r)).drop (x.length + 1) = y ++ tailP r := by
        show (x ++ 44 :: (y ++ tailP r)).drop (x.length + 1) = _
        rw [List.drop_append]
        simp
      rw [e4, List.take_of_length_le]
      have := congrArg List.length e4
      rw [List.length_drop] at this
      omega
    rw [e1, e3, split_ps r y (hr y (by simp)) fun p hp => hr p (List.mem_cons_of_mem _ hp)]; rfl
theorem count_ps (r : List (List UInt8)) (x : List UInt8) (hx : ∀ c ∈ x, c ≠ 44) (hr : ∀ p ∈ r, ∀ c ∈ p, c ≠ (44 : UInt8)) : Lib.countB (ofL (x ++ tailP r)) ⟨#[44]⟩ = r.length := by
  show Lib.count (x ++ tailP r) [44] = _
  rw [Lib.count_one, List.count_append, List.count_eq_zero.2 (fun h => hx 44 h rfl), Nat.zero_add]
  induction r with
  | nil => rfl
  | cons y r ih =>
    rw [tailP_cons, List.count_append, ih fun p hp => hr p (List.mem_cons_of_mem _ hp), List.count_cons_self, List.count_eq_zero.2 (fun h => hr y (by simp) 44 h rfl), List.length_cons]
    omega
theorem words_ps (K : Nat) {r : List (List UInt8)} {x : List UInt8} (hx : ∀ c ∈ x, c ≠ 44) (hr : ∀ p ∈ r, ∀ c ∈ p, c ≠ (44 : UInt8)) (hn : x ++ tailP r ≠ [110, 111, 110, 101]) (hl : (x ++ tailP r).length < 4294967281) : impl_words K (ofL (x ++ tailP r)) = some ((x :: r).map ofL) := by
  unfold impl_words strings_Split
  have h1 : ((ofL (x ++ tailP r)).toList == (ByteArray.mk #[110, 111, 110, 101]).toList) = false := by
    rw [toList_toL, toList_toL, toL_ofL, beq_eq_false_iff_ne]
    exact hn
  rw [h1, ite2_false]
  unfold split1
  rw [if_pos ⟨rfl, by rw [size_ofL]; exact hl⟩, bind_of, count_ps r x hx hr, split_ps r x hx hr]
theorem words_none (K : Nat) : impl_words K (ByteArray.mk #[110, 111, 110, 101]) = some [] := by
  unfold impl_words
  rw [beq_self_eq_true, ite2_true]
theorem tailT_P (r : List F32) : tailT r = tailP (r.map h8) := by
  unfold tailT tailP
  rw [List.map_map]; rfl
theorem words_nt (K : Nat) {l : List F32} (hl : l.length ≤ 1000000) : impl_words K (ofL (nt l)) = some (l.map fun y => ofL (h8 y)) := by
  cases l with
  | nil => exact words_none K
  | cons x r =>
    have hsz := nt_length (x :: r)
    rw [nt, tailT_P] at *
    rw [words_ps K (no44 x) (fun p hp => by obtain ⟨y, _, rfl⟩ := List.mem_map.1 hp; exact no44 y) (fun h => by
      have := congrArg List.length h
      rw [List.length_append, h8_length] at this
      simp only [List.length_cons, List.length_nil] at this
      omega) (by omega), List.map_cons, List.map_map]; rfl
theorem read_nt {K : Nat} {l : List F32} (hl : l.length ≤ 256) (hK : 300 < K) : impl_ReadNumbers K (ofL (nt l)) = some (l, true) := by
  have key : ∀ (k i : Nat) (o : List F32), i ≤ l.length → l.length - i < k → o.length = l.length → (∀ j, j < i → o.getD j default = l.getD j default) → impl_ReadNumbers_l1 K (l.map fun y => ofL (h8 y)) k (i : Int) o = some (l, true) := by
    intro k
    induction k with
    | zero => intro i o _ h; omega
    | succ k ih =>
      intro i o h1 h2 h3 h4
      rw [impl_ReadNumbers_l1, ite2_dec, List.length_map]
      by_cases hi : i < l.length
      · have hg : (l.map fun y => ofL (h8 y)).getD i default = ofL (h8 l[i]) := by
          rw [getD_of_lt (by rw [List.length_map]; exact hi), List.getElem_map]
        rw [if_pos (by omega), chk_pos (by omega), Int.toNat_natCast, hg, fromHex_h8, bind_of, Bool.not_true, ite2_false, chk_pos (by omega), wrap_nat1 (by omega)]
        refine ih (i + 1) _ (by omega) (by omega) (by rw [List.length_set]; exact h3) fun j hj => ?_
        by_cases e : j = i
        · subst e
          rw [set_getD (by omega), getD_of_lt hi]
        · have : (o.set i l[i]).getD j default = o.getD j default := by
            rw [List.getD_eq_getElem?_getD, List.getElem?_set_ne (by omega), ← List.getD_eq_getElem?_getD]
          rw [this]; exact h4 j (by omega)
      · rw [if_neg (by omega)]
        have e : o = l := by
          apply List.ext_getElem h3
          intro j hj hj2
          have := h4 j (by omega)
          rwa [getD_of_lt hj, getD_of_lt hj2] at this
        rw [e]
  unfold impl_ReadNumbers
  rw [words_nt K (by omega), bind_of, List.length_map, decide_eq_false (by omega), ite2_false, chk_pos (by omega), Int.toNat_natCast]
  exact key K 0 _ (by omega) (by omega) (by simp) (fun j hj => by omega)

end
end Go.Fw

