/- Texts of poses are read alike. -/
import Derived.Test.YtcgakaboochpaaeDoorFwGQTxHexA
import Derived.Test.YtcgakaboochpaaeDoorFwGQTxCutM
import Derived.Test.YtcgakaboochpaaeDoorFwGQLaw
namespace Go.Fw
open Go Go.Proofs
noncomputable section

/-! Parts between marks. -/
theorem ix_lt_of_mem {m : UInt8} : ∀ {l : List UInt8}, m ∈ l → ix m l < l.length
  | b :: l, h => by
    unfold ix
    split
    · simp
    · rename_i e
      rcases List.mem_cons.1 h with h | h
      · exact absurd h.symm e
      · have := ix_lt_of_mem h
        simp only [List.length_cons]; omega
theorem split_spl (m : UInt8) : ∀ (n : Nat) (l : List UInt8), l.length ≤ n → Lib.splitB ⟨#[m]⟩ 0 (Lib.countB (ofL l) ⟨#[m]⟩) (ofL l) = (spl m l).map ofL := by
  have hsz : (ByteArray.mk #[m]).size = 1 := rfl
  have cnt : ∀ l : List UInt8, Lib.countB (ofL l) ⟨#[m]⟩ = l.count m := fun l => Lib.count_one m l
  intro n
  induction n with
  | zero =>
    intro l hl
    have : l = [] := List.length_eq_zero_iff.1 (by omega)
    subst this
    rw [cnt]; rfl
  | succ n ih =>
    intro l hl
    by_cases h : ix m l < l.length
    · have hi : Lib.indexB (ofL l) ⟨#[m]⟩ = (ix m l : Int) := by
        show Lib.index l [m] = _
        rw [Px.index_one, indexByte_ix, if_pos h]
      have hdec : l = l.take (ix m l) ++ m :: l.drop (ix m l + 1) := by
        have := List.take_append_drop (ix m l) l
        rw [drop_cons h, ix_at m l h] at this
        exact this.symm
      have hno : (l.take (ix m l)).count m = 0 := List.count_eq_zero.2 fun hm => by
        obtain ⟨j, hj, e⟩ := List.getElem_of_mem hm
        rw [List.length_take] at hj
        rw [List.getElem_take] at e
        exact ix_before m l j (by omega) (by omega) e
      have hc : l.count m = (l.drop (ix m l + 1)).count m + 1 := by
        conv => lhs; rw [hdec]
        rw [List.count_append, hno, List.count_cons_self]; omega
      rw [cnt, hc, Lib.splitB_hit _ _ _ _ _ hi]
      have e1 : (ofL l).extract 0 (ix m l + 0) = ofL (l.take (ix m l)) := by
        rw [ext_ofL, toL_ofL, List.drop_zero]; simp
      have e3 : (ofL l).extract (ix m l + (ByteArray.mk #[m]).size) (ofL l).size = ofL (l.drop (ix m l + 1)) := by
        rw [ext_ofL, toL_ofL, size_ofL, hsz, List.take_of_length_le (by rw [List.length_drop]; omega)]
      have := ih (l.drop (ix m l + 1)) (by rw [List.length_drop]; omega)
      rw [cnt] at this
      rw [e1, e3, this, spl_at h]; rfl
    · have hz : l.count m = 0 := List.count_eq_zero.2 fun hm => h (ix_lt_of_mem hm)
      rw [cnt, hz, Lib.splitB_zero, spl_no h]; rfl
theorem split_eq (K : Nat) (l : List UInt8) (m : UInt8) (hl : l.length ≤ 1048576) : strings_Split K (ofL l) (ByteArray.mk #[m]) = some ((spl m l).map ofL) := by
  unfold strings_Split split1
  rw [if_pos ⟨rfl, by rw [size_ofL]; omega⟩, split_spl m l.length l (Nat.le_refl _)]

/-! One number. -/
theorem dig_hex : ∀ n : Fin 16, Px.isHex (Hx.dig n.val) ∧ Px.hv (Hx.dig n.val) = n.val := by decide +kernel
theorem hexK_isHex : ∀ (k u : Nat), ∀ c ∈ hexK k u, Px.isHex c
  | 0, _, c, h => by cases h
  | k + 1, u, c, h => by
    rw [hexK] at h
    rcases List.mem_append.1 h with h | h
    · exact hexK_isHex k _ c h
    · obtain rfl := List.mem_singleton.1 h
      exact (dig_hex ⟨u % 16, Nat.mod_lt _ (by omega)⟩).1
theorem hval_hexK : ∀ (k u : Nat), Px.hval (hexK k u) = u % 16 ^ k
  | 0, u => by simp [hexK, Px.hval, Nat.mod_one]
  | k + 1, u => by
    rw [hexK, Px.hval_snoc, hval_hexK k, (dig_hex ⟨u % 16, Nat.mod_lt _ (by omega)⟩).2]
    show u / 16 % 16 ^ k * 16 + u % 16 = _
    rw [Nat.pow_succ, Nat.mul_comm (16 ^ k) 16, Nat.mod_mul]
    omega
theorem hval_h8 (x : F32) : Px.hval (h8 x) = bN x := by
  unfold h8; rw [hval_hexK, Nat.mod_eq_of_lt (bN_lt x)]
theorem dig_hv : ∀ n : Fin 256, (48 ≤ n.val ∧ n.val ≤ 57) ∨ (97 ≤ n.val ∧ n.val ≤ 102) → Hx.dig (if n.val ≤ 57 then n.val - 48 else n.val - 87) = UInt8.ofNat n.val := by decide +kernel
theorem hexK_hval : ∀ (k : Nat) (p : List UInt8), p.length = k → (∀ c ∈ p, Px.isHex c) → hexK k (Px.hval p) = p
  | 0, p, h, _ => by rw [List.length_eq_zero_iff.1 h]; rfl
  | k + 1, p, h, hp => by
    have hne : p ≠ [] := fun e => by rw [e] at h; cases h
    obtain ⟨q, c, rfl⟩ : ∃ q c, p = q ++ [c] := ⟨p.dropLast, p.getLast hne, (List.dropLast_concat_getLast hne).symm⟩
    have hc := hp c (by simp)
    have hlt := Px.hv_lt hc
    have hq : q.length = k := by rw [List.length_append] at h; simpa using h
    rw [Px.hval_snoc, hexK, show (Px.hval q * 16 + Px.hv c) / 16 = Px.hval q by omega, show (Px.hval q * 16 + Px.hv c) % 16 = Px.hv c by omega, hexK_hval k q hq fun x hx => hp x (List.mem_append_left _ hx)]
    have e : Hx.dig (Px.hv c) = c := by
      have := dig_hv ⟨c.toNat, c.toNat_lt⟩ hc
      refine Eq.trans this ?_
      exact UInt8.toNat_inj.1 (by simp)
    rw [e]
/-- The number with eight digits. -/
def rdX (p : List UInt8) (h : Px.hval p < 4294967296) : F32 := Fl.of .f32 (Px.hval p) h
def okN (p : List UInt8) : Prop := p.length = 8 ∧ (∀ c ∈ p, Px.isHex c) ∧ ∃ h, bN (rdX p h) = Px.hval p
theorem hval8 {p : List UInt8} (h : p.length = 8) (hx : ∀ c ∈ p, Px.isHex c) : Px.hval p < 4294967296 := by
  have := Px.hval_lt p hx
  rw [h] at this
  exact this
def rd (p : List UInt8) : F32 := if h : Px.hval p < 4294967296 then rdX p h else default
theorem u32_in {n : Int} (h0 : 0 ≤ n) (h1 : n < 4294967296) : IntKind.u32.wrap n = n := by
  have : ∀ n : Int, IntKind.u32.wrap n = n % 4294967296 := fun n => by simp [IntKind.wrap, IntKind.bits, IntKind.signed]
  rw [this]; omega
theorem u32_rng (n : Int) : 0 ≤ IntKind.u32.wrap n ∧ IntKind.u32.wrap n < 4294967296 := by
  have : ∀ n : Int, IntKind.u32.wrap n = n % 4294967296 := fun n => by simp [IntKind.wrap, IntKind.bits, IntKind.signed]
  rw [this]; omega
theorem ofBits_rd {p : List UInt8} (h : Px.hval p < 4294967296) : Fl.ofBits .f32 (IntKind.u32.wrap (Px.hval p : Int)) = some (rd p) := by
  rw [u32_in (by omega) (by omega)]
  unfold Fl.ofBits
  have hb : (Px.hval p : Nat) < 2 ^ FloatKind.f32.format.width := h
  rw [dif_pos ⟨by omega, by rw [Int.toNat_natCast]; exact hb⟩]
  unfold rd
  rw [dif_pos h]; rfl
theorem ofBits_some (n : Int) : ∃ x, Fl.ofBits .f32 (IntKind.u32.wrap n) = some x := by
  obtain ⟨h0, h1⟩ := u32_rng n
  unfold Fl.ofBits
  exact ⟨_, dif_pos ⟨h0, by have : 2 ^ FloatKind.f32.format.width = 4294967296 := by decide
                            omega⟩⟩
theorem okN_iff {p : List UInt8} (h : p.length = 8) (hx : ∀ c ∈ p, Px.isHex c) : okN p ↔ bN (rd p) = Px.hval p := by
  have hv := hval8 h hx
  unfold rd
  rw [dif_pos hv]
  exact ⟨fun ⟨_, _, _, e⟩ => e, fun e => ⟨h, hx, hv, e⟩⟩
theorem same_h8 (x : F32) (p : List UInt8) : (((ofL (h8 x)).toList == (ofL p).toList) = true) ↔ h8 x = p := by
  rw [toList_toL, toList_toL, toL_ofL, toL_ofL, beq_iff_eq]
open Classical in
theorem fromHex_eq (K : Nat) (p : List UInt8) (hl : p.length ≤ 1048576) : ∃ y, impl_fromHex K (ofL p) = some (y, decide (okN p)) ∧ (okN p → y = rd p) := by
  have hp : strconv_ParseUint K (ofL p) 16 32 = some (Px.p16G p) := by
    unfold strconv_ParseUint p16g
    rw [if_pos ⟨rfl, rfl, by rw [size_ofL]; omega⟩]; rfl
  unfold impl_fromHex
  rw [hp, bind_of]
  by_cases h8l : p.length = 8
  · have hsz : (((ofL p).size : Int) != 8) = false := by rw [size_ofL, h8l]; rfl
    by_cases hx : ∀ c ∈ p, Px.isHex c
    · have hv := hval8 h8l hx
      have he : Px.p16G p = ((Px.hval p : Int), false) := by
        have hne : p ≠ [] := fun e => by rw [e] at h8l; cases h8l
        unfold Px.p16G Px.p16E
        rw [if_neg hne, Px.p16M_hex p 0 0 hx (by decide) (by omega)]; rfl
      rw [he, ite2_false, hsz, bind_of, ite2_false]
      unfold math_Float32frombits
      rw [ofBits_rd hv, bind_of, impl_hex, bind_of]
      refine ⟨rd p, ?_, fun _ => rfl⟩
      congr 2
      have hiff : (h8 (rd p) = p) ↔ okN p := by
        rw [okN_iff h8l hx]
        constructor
        · intro e
          rw [← hval_h8, e]
        · intro e
          unfold h8
          rw [e]; exact hexK_hval 8 p h8l hx
      by_cases ho : okN p
      · rw [decide_eq_true ho]; exact (same_h8 _ _).2 (hiff.2 ho)
      · rw [decide_eq_false ho]
        cases hb : ((ofL (h8 (rd p))).toList == (ofL p).toList)
        · rfl
        · exact absurd (hiff.1 ((same_h8 _ _).1 hb)) ho
    · have ho : ¬ okN p := fun h => hx h.2.1
      rw [decide_eq_false ho]
      cases hb : (Px.p16G p).2
      · rw [ite2_false, hsz, bind_of, ite2_false]
        unfold math_Float32frombits
        obtain ⟨x, ex⟩ := ofBits_some (Px.p16G p).1
        rw [ex, bind_of, impl_hex, bind_of]
        refine ⟨x, ?_, fun h => absurd h ho⟩
        congr 2
        cases hb2 : ((ofL (h8 x)).toList == (ofL p).toList)
        · rfl
        · have := (same_h8 _ _).1 hb2
          exact absurd (fun c hc => by rw [← this] at hc; exact hexK_isHex 8 _ c hc) hx
      · rw [ite2_true, bind_of, ite2_true]
        exact ⟨_, rfl, fun h => absurd h ho⟩
  · have ho : ¬ okN p := fun h => h8l h.1
    have hsz : (((ofL p).size : Int) != 8) = true := by
      rw [size_ofL, bne_iff_ne]; omega
    rw [decide_eq_false ho, hsz]
    have : (ite2 (Px.p16G p).2 (some true) (some true)) = some true := by cases (Px.p16G p).2 <;> rfl
    rw [this, bind_of, ite2_true]
    exact ⟨_, rfl, fun h => absurd h ho⟩

/-! The reference's way. -/
theorem spec_bits (K : Nat) (x : F32) : spec_l01Bits K x = some (bN x : Int) := by
  have hl : x.bits < 4294967296 := x.lt
  unfold spec_l01Bits math_Float32bits bN
  cases h : x.ne x
  · rw [ite2_false, bits_of x h, bind_of, wrap_in (by omega) (by omega)]; rfl
  · rfl
theorem spec_digits {K : Nat} {v : List ByteArray} {i : Nat} {p : List UInt8} (hi : i < v.length) (hv : v.getD i default = ofL p) (hp : p.length = 8) : ∀ (f k : Nat), k ≤ 8 → 8 - k < f → (∀ c ∈ p.take k, Px.isHex c) →
    spec_l01NRead_l4 K v (i : Int) f (Px.hval (p.take k) : Int) (k : Int) = some (if (∀ c ∈ p, Px.isHex c) then .inl (Px.hval p : Int) else .inr ()) := by
  intro f
  induction f with
  | zero => intro k _ h; omega
  | succ f ih =>
    intro k h1 h2 h3
    rw [spec_l01NRead_l4, ite2_dec]
    by_cases hk : k < 8
    · have hkl : k < p.length := by omega
      have hb : bt (ofL p) k = ((p[k]).toNat : Int) := bt_toL (s := ofL p) hkl
      have hc256 : (p[k]).toNat < 256 := (p[k]).toNat_lt
      have htk : p.take (k + 1) = p.take k ++ [p[k]] := by rw [List.take_add_one, List.getElem?_eq_getElem hkl]; rfl
      have hlt := Px.hval_lt (p.take k) h3
      have hlt7 : Px.hval (p.take k) < 268435456 := Nat.lt_of_lt_of_le hlt (Nat.pow_le_pow_right (by omega) (show _ ≤ 7 by rw [List.length_take]; omega))
      rw [if_pos (by omega), chk_pos (by omega)]
      simp only [Int.toNat_natCast, hv, hb]
      rw [chk_pos (by rw [size_ofL]; omega)]
      have step : ∀ d : Nat, d < 16 → Px.hv p[k] = d → Px.isHex p[k] → spec_l01NRead_l4 K v (i : Int) f (IntKind.i64.wrap (IntKind.i64.wrap (16 * (Px.hval (p.take k) : Int)) + (d : Int))) (IntKind.i64.wrap ((k : Int) + 1)) = some (if (∀ c ∈ p, Px.isHex c) then .inl (Px.hval p : Int) else .inr ()) := by
        intro d hd he hx
        have e : IntKind.i64.wrap (IntKind.i64.wrap (16 * (Px.hval (p.take k) : Int)) + (d : Int)) = (Px.hval (p.take (k + 1)) : Int) := by
          rw [htk, Px.hval_snoc, he, wrap_in (n := 16 * _) (by omega) (by omega), wrap_in (by omega) (by omega)]; omega
        rw [e, wrap_nat1 (by omega)]
        refine ih (k + 1) (by omega) (by omega) fun c hc => ?_
        rw [htk] at hc
        rcases List.mem_append.1 hc with hc | hc
        · exact h3 c hc
        · obtain rfl := List.mem_singleton.1 hc; exact hx
      have bad : ¬ Px.isHex p[k] → (some (Sum.inr ()) : Option (Int ⊕ Unit)) = some (if (∀ c ∈ p, Px.isHex c) then .inl (Px.hval p : Int) else .inr ()) := fun hx => by
        rw [if_neg fun h => hx (h _ (List.getElem_mem hkl))]
      have w8 : ∀ n : Int, 0 ≤ n → n < 256 → IntKind.u8.wrap n = n := fun n a b => by rw [IntKind.wrap_u8]; omega
      generalize hq : (p[k]).toNat = q at *
      by_cases d1 : 48 ≤ q ∧ q ≤ 57
      · have hx : Px.isHex p[k] := by unfold Px.isHex; omega
        have he : Px.hv p[k] = q - 48 := by unfold Px.hv; rw [hq, if_pos d1.2]
        have t1 : decide ((q : Int) ≥ 48) = true := decide_eq_true (by omega)
        have t2 : decide ((q : Int) ≤ 57) = true := decide_eq_true (by omega)
        have t3 : decide ((q : Int) ≥ 97) = false := decide_eq_false (by omega)
        have t4 : IntKind.i64.wrap (IntKind.u8.wrap ((q : Int) - 48)) = ((q - 48 : Nat) : Int) := by rw [w8 _ (by omega) (by omega), wrap_in (by omega) (by omega)]; omega
        have t5 : decide (((q - 48 : Nat) : Int) < 0) = false := decide_eq_false (by omega)
        simp only [t1, t2, t3, t4, t5, ite2_true, ite2_false, bind_of]
        exact step _ (by omega) he hx
      · have j1 : (ite2 (decide ((q : Int) ≥ 48)) (some (decide ((q : Int) ≤ 57))) (some false)) = some false := by
          rw [ite2_dec]
          by_cases a : (q : Int) ≥ 48
          · rw [if_pos a, decide_eq_false (by omega)]
          · rw [if_neg a]
        by_cases d2 : 97 ≤ q ∧ q ≤ 102
        · have hx : Px.isHex p[k] := by unfold Px.isHex; omega
          have he : Px.hv p[k] = q - 87 := by unfold Px.hv; rw [hq, if_neg (by omega)]
          have t1 : decide ((q : Int) ≥ 97) = true := decide_eq_true (by omega)
          have t2 : decide ((q : Int) ≤ 102) = true := decide_eq_true (by omega)
          have t4 : IntKind.i64.wrap (IntKind.i64.wrap (IntKind.u8.wrap ((q : Int) - 97)) + 10) = ((q - 87 : Nat) : Int) := by rw [w8 _ (by omega) (by omega), wrap_in (n := (q : Int) - 97) (by omega) (by omega), wrap_in (by omega) (by omega)]; omega
          have t5 : decide (((q - 87 : Nat) : Int) < 0) = false := decide_eq_false (by omega)
          simp only [j1, t1, t2, t4, t5, ite2_true, ite2_false, bind_of]
          exact step _ (by omega) he hx
        · have hx : ¬ Px.isHex p[k] := by unfold Px.isHex; omega
          have j2 : (ite2 (decide ((q : Int) ≥ 97)) (some (decide ((q : Int) ≤ 102))) (some false)) = some false := by
            rw [ite2_dec]
            by_cases a : (q : Int) ≥ 97
            · rw [if_pos a, decide_eq_false (by omega)]
            · rw [if_neg a]
          have t5 : decide (((-1) : Int) < 0) = true := by decide
          simp only [j1, j2, t5, ite2_true, ite2_false, bind_of]
          exact bad hx
    · have e : k = 8 := by omega
      subst e
      rw [List.take_of_length_le (by omega)] at h3
      rw [if_neg (by omega), List.take_of_length_le (by omega), if_pos h3]

/-! Lists of numbers. -/
open Classical in
def resN (ps : List (List UInt8)) : List F32 × Bool := if ∀ p ∈ ps, okN p then (ps.map rd, true) else ([], false)
open Classical in
theorem impl_list {K : Nat} {ps : List (List UInt8)} (hl : ps.length ≤ 256) (hs : ∀ p ∈ ps, p.length ≤ 1048576) : ∀ (k i : Nat) (o : List F32), i ≤ ps.length → ps.length - i < k → o.length = ps.length → (∀ j, (hj : j < i) → (hj2 : j < ps.length) → okN ps[j] ∧ o.getD j default = rd ps[j]) →
    impl_ReadNumbers_l1 K (ps.map ofL) k (i : Int) o = some (resN ps) := by
  intro k
  induction k with
  | zero => intro i o _ h; omega
  | succ k ih =>
    intro i o h1 h2 h3 h4
    rw [impl_ReadNumbers_l1, ite2_dec, List.length_map]
    by_cases hi : i < ps.length
    · have hg : (ps.map ofL).getD i default = ofL ps[i] := by
        rw [getD_of_lt (by rw [List.length_map]; exact hi), List.getElem_map]
      obtain ⟨y, e1, e2⟩ := fromHex_eq K ps[i] (hs _ (List.getElem_mem hi))
      rw [if_pos (by omega), chk_pos (by omega), Int.toNat_natCast, hg, e1, bind_of]
      by_cases ho : okN ps[i]
      · rw [decide_eq_true ho, Bool.not_true, ite2_false, chk_pos (by omega), wrap_nat1 (by omega), e2 ho]
        refine ih (i + 1) _ (by omega) (by omega) (by rw [List.length_set]; exact h3) fun j hj hj2 => ?_
        by_cases e : j = i
        · subst e
          exact ⟨ho, set_getD (by omega)⟩
        · have : (o.set i (rd ps[i])).getD j default = o.getD j default := by
            rw [List.getD_eq_getElem?_getD, List.getElem?_set_ne (by omega), ← List.getD_eq_getElem?_getD]
          rw [this]; exact h4 j (by omega) hj2
      · rw [decide_eq_false ho, Bool.not_false, ite2_true]
        unfold resN
        rw [if_neg fun h => ho (h _ (List.getElem_mem hi))]
    · rw [if_neg (by omega)]
      have hall : ∀ p ∈ ps, okN p := fun p hp => by
        obtain ⟨j, hj, rfl⟩ := List.getElem_of_mem hp
        exact (h4 j (by omega) hj).1
      unfold resN
      rw [if_pos hall]
      have e : o = ps.map rd := by
        apply List.ext_getElem
        · rw [List.length_map]; exact h3
        · intro j hj hj2
          rw [List.length_map] at hj2
          have := (h4 j (by omega) hj2).2
          rw [getD_of_lt hj] at this
          rw [this, List.getElem_map]
      rw [e]
open Classical in
theorem spec_list {K : Nat} (hK : 20 < K) {ps : List (List UInt8)} (hl : ps.length ≤ 256) : ∀ (k i : Nat) (o : List F32), i ≤ ps.length → ps.length - i < k → o = (ps.take i).map rd → (∀ p ∈ ps.take i, okN p) →
    spec_l01NRead_l3 K (ps.map ofL) k (i : Int) o = some (resN ps) := by
  intro k
  induction k with
  | zero => intro i o _ h; omega
  | succ k ih =>
    intro i o h1 h2 h3 h4
    rw [spec_l01NRead_l3, ite2_dec, List.length_map]
    by_cases hi : i < ps.length
    · have hg : (ps.map ofL).getD i default = ofL ps[i] := by
        rw [getD_of_lt (by rw [List.length_map]; exact hi), List.getElem_map]
      have htk : ps.take (i + 1) = ps.take i ++ [ps[i]] := by rw [List.take_add_one, List.getElem?_eq_getElem hi]; rfl
      have bad : ¬ okN ps[i] → (some (([] : List F32), false) : Option (List F32 × Bool)) = some (resN ps) := fun ho => by
        unfold resN
        rw [if_neg fun h => ho (h _ (List.getElem_mem hi))]
      rw [if_pos (by omega), chk_pos (by omega), Int.toNat_natCast, hg, size_ofL]
      by_cases h8l : (ps[i]).length = 8
      · rw [h8l, show ((((8 : Nat) : Int)) != 8) = false from rfl, ite2_false]
        have hd := spec_digits (K := K) (v := ps.map ofL) (i := i) (p := ps[i]) (by rw [List.length_map]; exact hi) hg h8l K 0 (by omega) (by omega) (fun c hc => by cases hc)
        rw [show ((Px.hval (List.take 0 ps[i]) : Nat) : Int) = 0 from rfl, show (((0 : Nat)) : Int) = 0 from rfl] at hd
        rw [hd, bind_of]
        by_cases hx : ∀ c ∈ ps[i], Px.isHex c
        · have hv := hval8 h8l hx
          have ex : spec_l01From K (Px.hval ps[i] : Int) = some (rd ps[i]) := by
            unfold spec_l01From math_Float32frombits
            rw [ofBits_rd hv]; rfl
          rw [if_pos hx]
          show (spec_l01From K (Px.hval ps[i] : Int)).bind _ = _
          rw [ex, bind_of, spec_bits, bind_of]
          by_cases ho : okN ps[i]
          · have e := (okN_iff h8l hx).1 ho
            rw [e, bne_self_eq_false, ite2_false, chk_pos (by rw [h3]; simp; omega), wrap_nat1 (by omega)]
            refine ih (i + 1) _ (by omega) (by omega) (by rw [htk, List.map_append, h3]; rfl) fun p hp => ?_
            rw [htk] at hp
            rcases List.mem_append.1 hp with hp | hp
            · exact h4 p hp
            · obtain rfl := List.mem_singleton.1 hp; exact ho
          · have hne : ((bN (rd ps[i]) : Int) != (Px.hval ps[i] : Int)) = true := by
              rw [bne_iff_ne]
              intro e
              exact ho ((okN_iff h8l hx).2 (by omega))
            rw [hne, ite2_true]
            exact bad ho
        · rw [if_neg hx]
          exact bad fun ho => hx ho.2.1
      · have hne : (((ps[i]).length : Int) != 8) = true := by rw [bne_iff_ne]; omega
        rw [hne, ite2_true]
        exact bad fun ho => h8l ho.1
    · have e : i = ps.length := by omega
      subst e
      rw [List.take_length] at h3 h4
      rw [if_neg (by omega), h3]
      unfold resN
      rw [if_pos h4]
theorem read_same {K : Nat} {s : List UInt8} (hs : s.length ≤ 1048576) (hK : 1100000 ≤ K) : ∃ r, spec_l01NRead K (ofL s) = some r ∧ impl_ReadNumbers K (ofL s) = some r := by
  unfold spec_l01NRead impl_ReadNumbers impl_words
  cases hb : ((ofL s).toList == (ByteArray.mk #[110, 111, 110, 101]).toList)
  · have hcut := cut_parts (K := K) (a := ofL s) (m := 44) (by rw [size_ofL]; exact hs) (by rw [size_ofL]; omega)
    rw [toL_ofL] at hcut
    have hcut : spec_l01Cut K (ofL s) 44 = some ((spl 44 s).map ofL) := hcut
    rw [ite2_false, ite2_false, hcut, split_eq K s 44 hs, bind_of, bind_of, bind_of, List.length_map]
    by_cases hl : (spl 44 s).length > 256
    · rw [decide_eq_true (by omega), ite2_true, ite2_true]
      exact ⟨_, rfl, rfl⟩
    · rw [decide_eq_false (by omega), ite2_false, ite2_false, chk_pos (by omega), Int.toNat_natCast]
      refine ⟨_, spec_list (K := K) (by omega) (by omega) K 0 [] (by omega) (by omega) rfl (fun p hp => by cases hp), ?_⟩
      exact impl_list (K := K) (by omega) (fun p hp => Nat.le_trans (spl_part hp) hs) K 0 _ (by omega) (by omega) (by simp) (fun j hj => by omega)
  · rw [ite2_true, ite2_true, bind_of, decide_eq_false (by simp), ite2_false]
    refine ⟨_, rfl, ?_⟩
    obtain ⟨k, rfl⟩ : ∃ k, K = k + 1 := ⟨K - 1, by omega⟩
    rfl
theorem vec_same {K : Nat} {s : List UInt8} (hs : s.length ≤ 1048576) (hK : 1100000 ≤ K) : ∃ r, spec_l01VRead K (ofL s) = some r ∧ impl_ReadVector K (ofL s) = some r := by
  obtain ⟨⟨l, b⟩, e1, e2⟩ := read_same (K := K) hs hK
  unfold spec_l01VRead impl_ReadVector
  rw [e1, e2, bind_of]
  cases b
  · exact ⟨_, rfl, rfl⟩
  · simp only [Bool.not_true, ite2_false, bind_of]
    cases h : ((l.length : Int) != 3)
    · have hl : (l.length : Int) = 3 := by simpa using h
      rw [ite2_false, chk_pos (by omega), chk_pos (by omega), chk_pos (by omega)]
      exact ⟨_, rfl, rfl⟩
    · exact ⟨_, rfl, rfl⟩
theorem turn_same {K : Nat} {s : List UInt8} (hs : s.length ≤ 1048576) (hK : 1100000 ≤ K) : ∃ r, spec_l11Turn K (ofL s) = some r ∧ impl_readTurn K (ofL s) = some r := by
  obtain ⟨⟨l, b⟩, e1, e2⟩ := read_same (K := K) hs hK
  unfold spec_l11Turn impl_readTurn
  rw [e1, e2, bind_of]
  cases b
  · exact ⟨_, rfl, rfl⟩
  · simp only [Bool.not_true, ite2_false, bind_of]
    cases h : ((l.length : Int) != 4)
    · have hl : (l.length : Int) = 4 := by simpa using h
      rw [ite2_false, chk_pos (by omega), chk_pos (by omega), chk_pos (by omega), chk_pos (by omega)]
      exact ⟨_, rfl, rfl⟩
    · exact ⟨_, rfl, rfl⟩

/-! Poses. -/
theorem turns_same {K : Nat} (hK : 1100000 ≤ K) {ps : List (List UInt8)} (hl : ps.length ≤ 13) (hl2 : 1 ≤ ps.length) (hs : ∀ p ∈ ps, p.length ≤ 1048576) (v : Vector × Bool) : ∀ (k i : Nat) (o : List Turn), i + 1 ≤ ps.length → ps.length - i < k → o.length = i →
    ∃ r, spec_l11Read_l1 K (ps.map ofL) v k ((i + 1 : Nat) : Int) o = some r ∧ impl_ReadPose_l1 K (ps.map ofL) v k (i : Int) o = some r ∧ r.1.Turns.length ≤ 12 := by
  intro k
  induction k with
  | zero => intro i o _ h; omega
  | succ k ih =>
    intro i o h1 h2 h3
    have hlen : (((ps.map ofL).drop (1 : Int).toNat).take (((ps.map ofL).length : Int).toNat - (1 : Int).toNat)).length = ps.length - 1 := by
      rw [List.length_take, List.length_drop, List.length_map]; simp
    rw [spec_l11Read_l1, impl_ReadPose_l1, ite2_dec, ite2_dec, hlen, List.length_map]
    by_cases hi : i + 1 < ps.length
    · have hg : (ps.map ofL).getD (i + 1) default = ofL ps[i + 1] := by
        rw [getD_of_lt (by rw [List.length_map]; exact hi), List.getElem_map]
      have hg2 : (((ps.map ofL).drop (1 : Int).toNat).take (ps.length - (1 : Int).toNat)).getD i default = ofL ps[i + 1] := by
        have e1 : ((1 : Int)).toNat = 1 := rfl
        rw [e1, List.getD_eq_getElem?_getD, List.getElem?_take, if_pos (by omega), List.getElem?_drop, show 1 + i = i + 1 by omega, ← List.getD_eq_getElem?_getD]
        exact hg
      obtain ⟨⟨t, b⟩, e1, e2⟩ := turn_same (K := K) (hs _ (List.getElem_mem hi)) hK
      rw [if_pos (by omega), if_pos (by omega), chk_pos (by omega), chk_pos (by omega)]
      simp only [Int.toNat_natCast]
      rw [hg, hg2, e1, e2, bind_of, bind_of]
      cases b
      · rw [Bool.not_false, ite2_true, ite2_true]
        exact ⟨_, rfl, rfl, Nat.zero_le _⟩
      · rw [Bool.not_true, ite2_false, ite2_false, chk_pos (by rw [List.length_singleton]; omega), chk_pos (by rw [List.length_singleton]; omega), wrap_nat1 (by omega), wrap_nat1 (by omega)]
        exact ih (i + 1) (o ++ [t]) (by omega) (by omega) (by rw [List.length_append, List.length_singleton]; omega)
    · rw [if_neg (by omega), if_neg (by omega)]
      exact ⟨_, rfl, rfl, by show o.length ≤ 12; omega⟩
theorem pose_same {K : Nat} {s : List UInt8} (hs : s.length ≤ 1048576) (hK : 1100000 ≤ K) : ∃ r, spec_ReadPose K (ofL s) = some r ∧ impl_ReadPose K (ofL s) = some r ∧ r.1.Turns.length ≤ 12 := by
  have hcut := cut_parts (K := K) (a := ofL s) (m := 59) (by rw [size_ofL]; exact hs) (by rw [size_ofL]; omega)
  rw [toL_ofL] at hcut
  have hcut : spec_l01Cut K (ofL s) 59 = some ((spl 59 s).map ofL) := hcut
  obtain ⟨p0, pr, hp⟩ := spl_cons 59 s
  have hpart : ∀ p ∈ spl 59 s, p.length ≤ 1048576 := fun p h => Nat.le_trans (spl_part h) hs
  unfold spec_ReadPose spec_l11Read impl_ReadPose
  rw [hcut, split_eq K s 59 hs, bind_of, bind_of, List.length_map]
  rw [hp] at hpart ⊢
  have h0 : (((p0 :: pr).map ofL).getD ((0 : Int).toNat) default) = ofL p0 := rfl
  obtain ⟨⟨v, b⟩, e1, e2⟩ := vec_same (K := K) (hpart p0 (by simp)) hK
  have hpos : 0 < (p0 :: pr).length := by simp
  rw [chk_pos (by omega), h0, e1, bind_of]
  have hlen : ((p0 :: pr).map ofL).length = (p0 :: pr).length := List.length_map _
  generalize hL : (p0 :: pr).length = L at *
  by_cases hsm : (L : Int) < 2
  · rw [decide_eq_true hsm]
    cases b <;> simp only [Bool.not_true, Bool.not_false, ite2_true, ite2_false, bind_of] <;> exact ⟨_, rfl, rfl, Nat.zero_le _⟩
  · rw [decide_eq_false hsm]
    by_cases hbg : (L : Int) > 13
    · rw [decide_eq_true hbg]
      cases b <;> simp only [Bool.not_true, Bool.not_false, ite2_true, ite2_false, bind_of] <;> exact ⟨_, rfl, rfl, Nat.zero_le _⟩
    · rw [decide_eq_false hbg]
      cases b
      · simp only [Bool.not_true, Bool.not_false, ite2_true, ite2_false, bind_of]
        rw [chk_pos (by omega), e2, bind_of]
        exact ⟨_, rfl, rfl, Nat.zero_le _⟩
      · simp only [Bool.not_true, Bool.not_false, ite2_true, ite2_false, bind_of]
        rw [chk_pos (by omega), e2, bind_of]
        simp only [Bool.not_true, ite2_false]
        rw [chk_pos (by omega)]
        obtain ⟨r, r1, r2, r3⟩ := turns_same (K := K) hK (ps := p0 :: pr) (by omega) (by simp) hpart (v, true) K 0 [] (by simp) (by omega) rfl
        have r1 : spec_l11Read_l1 K ((p0 :: pr).map ofL) (v, true) K 1 [] = some r := r1
        have r2 : impl_ReadPose_l1 K ((p0 :: pr).map ofL) (v, true) K 0 [] = some r := r2
        rw [r1, r2]
        exact ⟨r, rfl, rfl, r3⟩
theorem law_ReadPose (a : ByteArray) (_ : a.size ≤ maxLen) : ∃ K, laws_FnExactReadPose K a = some true := by
  refine ⟨1200000, ?_⟩
  generalize hKe : 1200000 = K
  unfold laws_FnExactReadPose
  rw [ite2_dec]
  split
  · rfl
  · rename_i hn
    obtain ⟨⟨p, b⟩, e1, e2, e3⟩ := pose_same (K := K) (s := toL a) (by rw [toL_length]; omega) (by omega)
    rw [ofL_toL] at e1 e2
    have e3 : p.Turns.length ≤ 12 := e3
    have hs : mx_Pose p ≤ 1048576 := by show p.Turns.length ≤ _; omega
    have hK2 : mx_Pose p < K := by show p.Turns.length < _; omega
    obtain ⟨m, y0, k1, k2, k3, k4, k5⟩ := mark_Pose (K := K) (a := p) (k0 := 1) hK2 hs (by omega) (by omega)
    have n1 : decide (m < 0) = false := decide_eq_false (by omega)
    have x2 : (!(b == b)) = false := by simp
    have x3 := eq_Pose (K := K) (a := p) hK2 hs
    simp only [e1, e2, bind_of, x3, Bool.not_true, ite2_false, x2, k1, chk_pos k4, k5, n1, bne_self_eq_false]

end
end Go.Fw
