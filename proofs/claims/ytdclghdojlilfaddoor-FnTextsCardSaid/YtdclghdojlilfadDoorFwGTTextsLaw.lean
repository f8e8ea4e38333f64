/- The law of texts, in plain Lean. -/
import Derived.Test.YtdclghdojlilfadDoorFwGTTxRead
import Derived.Test.YtdclghdojlilfadDoorFwGTSrcFloat
namespace Go.Fw
open Go Go.Proofs

/-! Decimal numerals. -/
def dval (a : Nat) (l : List UInt8) : Nat := l.foldl (fun a c => a * 10 + (c.toNat - 48)) a
def isD (c : UInt8) : Prop := 48 ≤ c.toNat ∧ c.toNat ≤ 57
theorem dval_ge : ∀ (l : List UInt8) (a : Nat), a ≤ dval a l
  | [], _ => Nat.le_refl _
  | c :: l, a => by
    have := dval_ge l (a * 10 + (c.toNat - 48))
    show a ≤ dval (a * 10 + (c.toNat - 48)) l
    omega
theorem parse_dval : ∀ (l : List UInt8) (a : Nat), (∀ c ∈ l, isD c) → dval a l < 1844674407370955162 → Lib.parseUint10 a l = .ok (dval a l)
  | [], a, _, _ => rfl
  | c :: l, a, h, hb => by
    have h1 := dval_ge l (a * 10 + (c.toNat - 48))
    have h2 : dval a (c :: l) = dval (a * 10 + (c.toNat - 48)) l := rfl
    rw [h2] at hb ⊢
    rw [Lib.parseUint10, if_pos (show 48 ≤ c.toNat ∧ c.toNat ≤ 57 from h c (by simp)), if_neg (by omega), if_neg (by omega)]
    exact parse_dval l _ (fun x hx => h x (List.mem_cons_of_mem _ hx)) hb
theorem dec_facts : ∀ (u : Nat), (∀ c ∈ Lib.decDigits u, isD c) ∧ dval 0 (Lib.decDigits u) = u ∧ 1 ≤ (Lib.decDigits u).length ∧ (Lib.decDigits u).length ≤ u + 1 := by
  intro u
  induction u using Nat.strongRecOn with
  | _ u ih =>
    have dg : ∀ n, n < 10 → isD (UInt8.ofNat (48 + n)) ∧ (UInt8.ofNat (48 + n)).toNat = 48 + n := by
      intro n hn
      have e : (UInt8.ofNat (48 + n)).toNat = 48 + n := by rw [UInt8.toNat_ofNat']; omega
      exact ⟨⟨by omega, by omega⟩, e⟩
    rw [Lib.decDigits]
    by_cases h : u < 10
    · rw [dif_pos h]
      obtain ⟨d1, d2⟩ := dg u h
      refine ⟨fun c hc => ?_, ?_, by simp, by simp⟩
      · obtain rfl := List.mem_singleton.1 hc; exact d1
      · show 0 * 10 + ((UInt8.ofNat (48 + u)).toNat - 48) = u
        omega
    · rw [dif_neg h]
      obtain ⟨i1, i2, i3, i4⟩ := ih (u / 10) (by omega)
      obtain ⟨d1, d2⟩ := dg (u % 10) (by omega)
      refine ⟨fun c hc => ?_, ?_, by simp, by simp; omega⟩
      · rcases List.mem_append.1 hc with hc | hc
        · exact i1 c hc
        · obtain rfl := List.mem_singleton.1 hc; exact d1
      · unfold dval at i2 ⊢
        rw [List.foldl_append, i2]
        show u / 10 * 10 + ((UInt8.ofNat (48 + u % 10)).toNat - 48) = u
        omega
theorem pInt_itoa {v : Int} (h0 : -900000 ≤ v) (h1 : v ≤ 900000) : Px.pIntL (Lib.itoa v) = some v := by
  unfold Lib.itoa
  by_cases hn : v < 0
  · rw [if_pos hn]
    obtain ⟨i1, i2, i3, i4⟩ := dec_facts v.natAbs
    have hp := parse_dval (Lib.decDigits v.natAbs) 0 i1 (by omega)
    have hne : Lib.decDigits v.natAbs ≠ [] := fun e => by rw [e] at i3; simp at i3
    simp only [Px.pIntL]
    rw [if_pos (by simp only [List.length_cons]; omega), if_neg (by decide), if_pos trivial, if_neg hne, hp, i2]
    simp only
    rw [if_pos (by omega)]
    congr 1
    omega
  · rw [if_neg hn]
    obtain ⟨i1, i2, i3, i4⟩ := dec_facts v.toNat
    have hp := parse_dval (Lib.decDigits v.toNat) 0 i1 (by omega)
    cases hd : Lib.decDigits v.toNat with
    | nil => rw [hd] at i3; simp at i3
    | cons c r =>
      rw [hd] at hp i1 i2 i4
      have hc := i1 c (by simp)
      unfold isD at hc
      simp only [Px.pIntL]
      rw [if_pos (by omega), if_neg (fun e => by subst e; revert hc; decide), if_neg (fun e => by subst e; revert hc; decide), hp, i2]
      simp only
      rw [if_pos (by omega)]
      congr 1
      omega
theorem itoa_bytes {v : Int} (h0 : -900000 ≤ v) (h1 : v ≤ 900000) : (∀ c ∈ Lib.itoa v, c ≠ 44 ∧ c ≠ 110) ∧ 1 ≤ (Lib.itoa v).length ∧ (Lib.itoa v).length ≤ 1000000 := by
  have dn : ∀ c : UInt8, isD c → c ≠ 44 ∧ c ≠ 110 := fun c hc => by
    unfold isD at hc
    constructor <;> (intro e; subst e; revert hc; decide)
  unfold Lib.itoa
  by_cases hn : v < 0
  · rw [if_pos hn]
    obtain ⟨i1, i2, i3, i4⟩ := dec_facts v.natAbs
    refine ⟨fun c hc => ?_, by simp, by simp only [List.length_cons]; omega⟩
    rcases List.mem_cons.1 hc with rfl | hc
    · decide
    · exact dn c (i1 c hc)
  · rw [if_neg hn]
    obtain ⟨i1, i2, i3, i4⟩ := dec_facts v.toNat
    exact ⟨fun c hc => dn c (i1 c hc), i3, by omega⟩
theorem dec_eq (K : Nat) {v : Int} (h0 : -900000 ≤ v) (h1 : v ≤ 900000) : impl_Decimal K v = some (ofL (Lib.itoa v)) := by
  unfold impl_Decimal strconv_FormatInt fmtI fmt10
  rw [if_neg (by decide), if_pos ⟨rfl, by omega, by omega⟩]; rfl
theorem value_eq (K : Nat) {v : Int} (h0 : -900000 ≤ v) (h1 : v ≤ 900000) : impl_isValue K v = some true := by
  unfold impl_isValue
  rw [ite2_dec, if_pos (by omega), bind_of, decide_eq_true (by omega)]
theorem readDec_eq (K : Nat) {v : Int} (h0 : -900000 ≤ v) (h1 : v ≤ 900000) : impl_ReadDecimal K (ofL (Lib.itoa v)) = some (v, true) := by
  have hp : strconv_ParseInt K (ofL (Lib.itoa v)) 10 64 = some (v, ()) := by
    unfold strconv_ParseInt pInt
    rw [if_pos ⟨rfl, rfl⟩]
    show (Px.pIntL (Lib.itoa v)).map _ = _
    rw [pInt_itoa h0 h1]; rfl
  unfold impl_ReadDecimal
  rw [hp, bind_of, value_eq K h0 h1, bind_of, Bool.not_true, ite2_false, dec_eq K h0 h1, bind_of, beq_self_eq_true, Bool.not_true, bind_of, ite2_false]

/-! Lists of integers. -/
def In9 (v : Int) : Prop := -900000 ≤ v ∧ v ≤ 900000
def lt' (l : List Int) : List UInt8 := match l with
  | [] => [110, 111, 110, 101]
  | x :: r => Lib.itoa x ++ tailP (r.map Lib.itoa)
theorem tailP_length : ∀ (l : List (List UInt8)), (∀ p ∈ l, p.length ≤ 1000000) → (tailP l).length ≤ 1000001 * l.length
  | [], _ => Nat.le_refl _
  | p :: r, h => by
    have h1 := tailP_length r fun x hx => h x (List.mem_cons_of_mem _ hx)
    have h2 := h p (by simp)
    rw [tailP_cons, List.length_append, List.length_cons, List.length_cons]
    omega
theorem lt_length {l : List Int} (h : ∀ v ∈ l, In9 v) (hl : l.length ≤ 64) : (lt' l).length ≤ 70000000 := by
  cases l with
  | nil => simp [lt']
  | cons x r =>
    have h1 := (itoa_bytes (h x (by simp)).1 (h x (by simp)).2).2.2
    have h2 := tailP_length (r.map Lib.itoa) fun p hp => by
      obtain ⟨v, hv, rfl⟩ := List.mem_map.1 hp
      have := h v (List.mem_cons_of_mem _ hv)
      exact (itoa_bytes this.1 this.2).2.2
    simp only [List.length_cons] at hl
    rw [List.length_map] at h2
    show (Lib.itoa x ++ tailP (r.map Lib.itoa)).length ≤ _
    rw [List.length_append]
    omega
theorem joined_lt {K : Nat} {l : List Int} (h : ∀ v ∈ l, In9 v) (hl : l.length ≤ 64) : impl_joined K (l.map fun v => ofL (Lib.itoa v)) = some (ofL (lt' l)) := by
  unfold impl_joined strings_Join join1
  cases l with
  | nil => rfl
  | cons x r =>
    have hne : ((((x :: r).map fun v => ofL (Lib.itoa v)).length : Int) == 0) = false := by
      rw [beq_eq_false_iff_ne, List.length_map]; simp only [List.length_cons]; omega
    have e : ((x :: r).map fun v => ofL (Lib.itoa v)).map (·.data.toList) = (x :: r).map Lib.itoa := by
      rw [List.map_map]; rfl
    have e2 : (ByteArray.mk #[44]).data.toList = [44] := rfl
    have e3 : Lib.join ((x :: r).map Lib.itoa) [44] = lt' (x :: r) := by
      rw [List.map_cons, Lib.join_cons]; rfl
    have hn := lt_length h hl
    rw [hne, ite2_false, e, e2, e3, if_pos ⟨by rw [List.length_map]; omega, by omega⟩, bind_of]; rfl
theorem listText_eq {K : Nat} {l : List Int} (h : ∀ v ∈ l, In9 v) (hl : l.length ≤ 64) (hK : 100 < K) : impl_ListText K l = some (ofL (lt' l), true) := by
  have inner : impl_listText K l = some (ofL (lt' l)) := by
    have key : ∀ (k i : Nat) (o : List ByteArray), i ≤ l.length → l.length - i < k → o.length = l.length → (∀ j, j < i → o.getD j default = ofL (Lib.itoa (l.getD j default))) → impl_listText_l1 K l k (i : Int) o = some (ofL (lt' l)) := by
      intro k
      induction k with
      | zero => intro i o _ h; omega
      | succ k ih =>
        intro i o h1 h2 h3 h4
        rw [impl_listText_l1, ite2_dec]
        by_cases hi : i < l.length
        · have hv := h _ (getD_mem hi)
          rw [if_pos (by omega), chk_pos (by omega), Int.toNat_natCast, dec_eq K hv.1 hv.2, bind_of, chk_pos (by omega), wrap_nat1 (by omega)]
          refine ih (i + 1) _ (by omega) (by omega) (by rw [List.length_set]; exact h3) fun j hj => ?_
          by_cases e : j = i
          · subst e
            rw [set_getD (by omega)]
          · have : (o.set i (ofL (Lib.itoa (l.getD i default)))).getD j default = o.getD j default := by
              rw [List.getD_eq_getElem?_getD, List.getElem?_set_ne (by omega), ← List.getD_eq_getElem?_getD]
            rw [this]; exact h4 j (by omega)
        · rw [if_neg (by omega)]
          have e : o = l.map fun v => ofL (Lib.itoa v) := by
            apply List.ext_getElem
            · rw [List.length_map]; exact h3
            · intro j hj hj2
              rw [List.length_map] at hj2
              have := h4 j (by omega)
              rw [getD_of_lt hj, getD_of_lt hj2] at this
              rw [this, List.getElem_map]
          rw [e, joined_lt h hl]; rfl
    unfold impl_listText
    rw [chk_pos (by omega), Int.toNat_natCast]
    exact key K 0 _ (by omega) (by omega) (by simp) (fun j hj => by omega)
  have key : ∀ (k i : Nat), i ≤ l.length → l.length - i < k → impl_ListText_l1 K l k (i : Int) = some (ofL (lt' l), true) := by
    intro k
    induction k with
    | zero => intro i _ h; omega
    | succ k ih =>
      intro i h1 h2
      rw [impl_ListText_l1, ite2_dec]
      by_cases hi : i < l.length
      · have hv := h _ (getD_mem hi)
        rw [if_pos (by omega), chk_pos (by omega), Int.toNat_natCast, value_eq K hv.1 hv.2, bind_of, Bool.not_true, ite2_false, wrap_nat1 (by omega)]
        exact ih (i + 1) (by omega) (by omega)
      · rw [if_neg (by omega), inner]; rfl
  unfold impl_ListText
  rw [ite2_dec, if_neg (by omega)]
  exact key K 0 (by omega) (by omega)
theorem words_lt (K : Nat) {l : List Int} (h : ∀ v ∈ l, In9 v) (hl : l.length ≤ 64) : impl_words K (ofL (lt' l)) = some (l.map fun v => ofL (Lib.itoa v)) := by
  have hlen := lt_length h hl
  cases l with
  | nil => exact words_none K
  | cons x r =>
    have hx := itoa_bytes (h x (by simp)).1 (h x (by simp)).2
    have := words_ps K (x := Lib.itoa x) (r := r.map Lib.itoa) (fun c hc => (hx.1 c hc).1) (fun p hp c hc => by
      obtain ⟨v, hv, rfl⟩ := List.mem_map.1 hp
      have hv := h v (List.mem_cons_of_mem _ hv)
      exact ((itoa_bytes hv.1 hv.2).1 c hc).1) (fun e => by
      cases hd : Lib.itoa x with
      | nil => rw [hd] at hx; simp at hx
      | cons c q =>
        rw [hd] at e hx
        injection e with e _
        exact (hx.1 c (by simp)).2 e) (by show (lt' (x :: r)).length < _; omega)
    refine this.trans ?_
    rw [List.map_cons, List.map_map]; rfl
theorem readList_eq {K : Nat} {l : List Int} (h : ∀ v ∈ l, In9 v) (hl : l.length ≤ 64) (hK : 100 < K) : impl_ReadList K (ofL (lt' l)) = some (l, true) := by
  have key : ∀ (k i : Nat) (o : List Int), i ≤ l.length → l.length - i < k → o.length = l.length → (∀ j, j < i → o.getD j default = l.getD j default) → impl_ReadList_l1 K (l.map fun v => ofL (Lib.itoa v)) k (i : Int) o = some (l, true) := by
    intro k
    induction k with
    | zero => intro i o _ h; omega
    | succ k ih =>
      intro i o h1 h2 h3 h4
      rw [impl_ReadList_l1, ite2_dec, List.length_map]
      by_cases hi : i < l.length
      · have hv := h _ (List.getElem_mem hi)
        have hg : (l.map fun v => ofL (Lib.itoa v)).getD i default = ofL (Lib.itoa l[i]) := by
          rw [getD_of_lt (by rw [List.length_map]; exact hi), List.getElem_map]
        rw [if_pos (by omega), chk_pos (by omega), Int.toNat_natCast, hg, readDec_eq K hv.1 hv.2, bind_of, Bool.not_true, ite2_false, chk_pos (by omega), wrap_nat1 (by omega)]
        refine ih (i + 1) _ (by omega) (by omega) (by rw [List.length_set]; exact h3) fun j hj => ?_
        by_cases e : j = i
        · subst e
          rw [set_getD (by omega), getD_of_lt hi]
        · have : (o.set i l[i]).getD j default = o.getD j default := by
            rw [List.getD_eq_getElem?_getD, List.getElem?_set_ne (by omega), ← List.getD_eq_getElem?_getD]
          rw [this]; exact h4 j (by omega)
      · rw [if_neg (by omega)]
        have e : o = l := by
          apply List.ext_getElem h3
          intro j hj hj2
          have := h4 j (by omega)
          rwa [getD_of_lt hj, getD_of_lt hj2] at this
        rw [e]
  unfold impl_ReadList
  rw [words_lt K h hl, bind_of, List.length_map, decide_eq_false (by omega), ite2_false, chk_pos (by omega), Int.toNat_natCast]
  exact key K 0 _ (by omega) (by omega) (by simp) (fun j hj => by omega)

/-! The law. -/
theorem specbits_some (K : Nat) (x : F32) : ∃ n, spec_l01Bits K x = some n := by
  unfold spec_l01Bits math_Float32bits
  cases h : x.ne x
  · rw [ite2_false, bits_of x h, bind_of]; exact ⟨_, rfl⟩
  · exact ⟨_, rfl⟩
theorem same_refl (K : Nat) (x : F32) : spec_SameNumber K x x = some true := by
  obtain ⟨n, hn⟩ := specbits_some K x
  unfold spec_SameNumber spec_l01Same
  rw [hn, bind_of, bind_of, bind_of, beq_self_eq_true]
theorem b10Same_refl {K : Nat} {l : List F32} (hl : l.length ≤ 1000) (hK : 1000 < K) : laws_b10Same K l l = some true := by
  have key : ∀ (k i : Nat), i ≤ l.length → l.length - i < k → laws_b10Same_l1 K l l k (i : Int) = some true := by
    intro k
    induction k with
    | zero => intro i _ h; omega
    | succ k ih =>
      intro i h1 h2
      rw [laws_b10Same_l1, ite2_dec]
      by_cases hi : i < l.length
      · rw [if_pos (by omega), chk_pos (by omega), chk_pos (by omega), same_refl, bind_of, Bool.not_true, ite2_false, wrap_nat1 (by omega)]
        exact ih (i + 1) (by omega) (by omega)
      · rw [if_neg (by omega)]
  unfold laws_b10Same
  rw [bne_self_eq_false, ite2_false]
  exact key K 0 (by omega) (by omega)
theorem b10Nums_refl {K : Nat} {l : List Int} (hl : l.length ≤ 1000) (hK : 1000 < K) : laws_b10Nums K l l = some true := by
  have key : ∀ (k i : Nat), i ≤ l.length → l.length - i < k → laws_b10Nums_l1 K l l k (i : Int) = some true := by
    intro k
    induction k with
    | zero => intro i _ h; omega
    | succ k ih =>
      intro i h1 h2
      rw [laws_b10Nums_l1, ite2_dec]
      by_cases hi : i < l.length
      · rw [if_pos (by omega), chk_pos (by omega), chk_pos (by omega), bne_self_eq_false, ite2_false, wrap_nat1 (by omega)]
        exact ih (i + 1) (by omega) (by omega)
      · rw [if_neg (by omega)]
  unfold laws_b10Nums
  rw [bne_self_eq_false, ite2_false]
  exact key K 0 (by omega) (by omega)
theorem b10At_rng {K : Nat} {c : List Int} (hc : Byt c) (k n : Int) (hk : 0 ≤ k) (hk2 : k < 1000000) (hn : 1 ≤ n) : ∃ r, laws_b10At K c k n = some r ∧ 0 ≤ r ∧ r < n := by
  unfold laws_b10At
  rw [ite2_dec]
  by_cases h1 : n ≤ 1
  · rw [if_pos h1]; exact ⟨0, rfl, by omega, by omega⟩
  · rw [if_neg h1, ite2_dec]
    by_cases h : k < (c.length : Int)
    · have hb := hc _ (getD_mem (xs := c) (i := k.toNat) (by omega))
      rw [if_pos h, chk_pos (by omega), chk_pos (by omega), wrap_in (by omega) (by omega)]
      exact ⟨_, rfl, tmod_in hb.1 (by omega)⟩
    · rw [if_neg h, chk_pos (by omega), wrap_in (n := k * 37) (by omega) (by omega), wrap_in (by omega) (by omega)]
      exact ⟨_, rfl, tmod_in (by omega) (by omega)⟩
theorem floats_loop {K : Nat} {c : List Int} (hc : Byt c) (v1 : Bool × Int × Int) : ∀ (k m : Nat) (at_ sd : Int) (o : List F32), m < k → 0 ≤ at_ → at_ + 10 * (m : Int) ≤ 4000000000 → o.length + m ≤ 100 →
    ∃ l a s, spec_l01DrawFloats_l1 K (l00Src.mk c 0 0) v1 k (m : Int) at_ sd o = some (l, a, s) ∧ l.length = o.length + m := by
  intro k
  induction k with
  | zero => intro m _ _ _ h; omega
  | succ k ih =>
    intro m at_ sd o h1 h2 h3 h4
    rw [spec_l01DrawFloats_l1, ite2_dec]
    by_cases hm : 0 < m
    · have hw : IntKind.i64.wrap ((m : Int) - 1) = ((m - 1 : Nat) : Int) := by rw [wrap_in (by omega) (by omega)]; omega
      rw [if_pos (by omega)]
      cases hv : v1.1
      · rw [ite2_false]
        obtain ⟨r, a, s, e, _, q1, q2⟩ := plain_dr (K := K) hc at_ sd h2 (by omega)
        rw [e, bind_of, chk_pos (by simp; omega), hw]
        obtain ⟨l, a', s', e', hl⟩ := ih (m - 1) a s (o ++ [r]) (by omega) q1 (by omega) (by simp; omega)
        exact ⟨l, a', s', e', by rw [hl]; simp; omega⟩
      · rw [ite2_true]
        obtain ⟨r, a, s, e, _, q1, q2⟩ := float_dr (K := K) hc at_ sd h2 (by omega)
        rw [e, bind_of, chk_pos (by simp; omega), hw]
        obtain ⟨l, a', s', e', hl⟩ := ih (m - 1) a s (o ++ [r]) (by omega) q1 (by omega) (by simp; omega)
        exact ⟨l, a', s', e', by rw [hl]; simp; omega⟩
    · rw [if_neg (by omega)]
      exact ⟨o, at_, sd, rfl, by omega⟩
theorem numbers_drawn {K : Nat} (hK : 100 < K) {c : List Int} (hc : Byt c) (m : Nat) (hm : m ≤ 12) : ∃ l, spec_B10Numbers K c (m : Int) = some l ∧ l.length = m := by
  obtain ⟨r, a, s, e, _, q1, q2⟩ := one_dr (K := K) hc 0 0 4 (by omega) (by omega)
  obtain ⟨l, a', s', e', hl⟩ := floats_loop (K := K) hc (r, a, s) K m a s [] (by omega) q1 (by omega) (by simp; omega)
  refine ⟨l, ?_, by rw [hl]; simp⟩
  unfold spec_B10Numbers spec_l01DrawFloats
  rw [e, bind_of, e', bind_of]
theorem nums_loop {K : Nat} (hK : 1000 < K) {c : List Int} (hc : Byt c) : ∀ (k i : Nat) (o : List Int), i ≤ 8 → 9 - i < k → o.length = i → (∀ v ∈ o, In9 v) → laws_FnTexts_l1 K c k (i : Int) o = some true := by
  obtain ⟨m, em, m0, m1⟩ := b10At_rng (K := K) hc 1 8 (by omega) (by omega) (by omega)
  intro k
  induction k with
  | zero => intro i o _ h; omega
  | succ k ih =>
    intro i o h1 h2 h3 h4
    rw [laws_FnTexts_l1, em, bind_of, ite2_dec]
    by_cases hi : (i : Int) < m
    · obtain ⟨x, ex, x0, x1⟩ := b10At_rng (K := K) hc ((i : Int) + 2) 256 (by omega) (by omega) (by omega)
      rw [if_pos hi, wrap_in (n := (i : Int) + 2) (by omega) (by omega), ex, bind_of, wrap_in (n := 1000 * x) (by omega) (by omega), wrap_in (n := 1000 * x - 90000) (by omega) (by omega), chk_pos (by simp; omega), wrap_nat1 (by omega)]
      refine ih (i + 1) _ (by omega) (by omega) (by simp; omega) fun v hv => ?_
      rcases List.mem_append.1 hv with hv | hv
      · exact h4 v hv
      · obtain rfl := List.mem_singleton.1 hv
        exact ⟨by omega, by omega⟩
    · rw [if_neg hi, listText_eq h4 (by omega) (by omega), bind_of, readList_eq h4 (by omega) (by omega), bind_of, ite2_true, ite2_true, b10Nums_refl (l := o) (by omega) hK]; rfl
theorem texts_true {K : Nat} (hK : 2000 < K) {a b : List Int} (ha : Byt a) (hb : Byt b) (l0 : a.length ≤ 1048576) (l1 : b.length ≤ 1048576) : laws_FnTexts K a b = some true := by
  obtain ⟨m, em, m0, m1⟩ := b10At_rng (K := K) hb 0 12 (by omega) (by omega) (by omega)
  obtain ⟨n, rfl⟩ : ∃ n : Nat, m = (n : Int) := ⟨m.toNat, by omega⟩
  obtain ⟨l, el, hl⟩ := numbers_drawn (K := K) (by omega) ha n (by omega)
  have e1 : impl_NumbersText K l = some (ofL (nt l), true) := by
    unfold impl_NumbersText
    rw [ite2_dec, if_neg (by omega), impl_nt (by omega) (by omega), bind_of]
  have e2 := read_nt (K := K) (l := l) (by omega) (by omega)
  have e3 := b10Same_refl (K := K) (l := l) (by omega) (by omega)
  unfold laws_FnTexts laws_b10Long
  rw [ite2_dec, if_neg (by omega), bind_of, bind_of, decide_eq_false (by omega), ite2_false, em, bind_of, el, bind_of, e1, bind_of, e2, bind_of, Bool.not_true, ite2_false, ite2_false, e3, bind_of, Bool.not_true, ite2_false]
  have hsz : (ite2 (decide ((l.length : Int) > (0 : Int))) (some (((ofL (nt l)).size : Int) != (IntKind.i64.wrap ((IntKind.i64.wrap ((9 : Int) * (l.length : Int))) - (1 : Int))))) (some false)) = some false := by
    rw [ite2_dec]
    cases l with
    | nil => rfl
    | cons x r =>
      have h1 : (nt (x :: r)).length = 9 * r.length + 8 := by
        rw [nt, List.length_append, h8_length, tailT_length]; omega
      simp only [List.length_cons] at hl
      rw [if_pos (by simp only [List.length_cons]; omega), size_ofL, h1, wrap_in (n := 9 * _) (by simp only [List.length_cons]; omega) (by simp only [List.length_cons]; omega), wrap_in (by simp only [List.length_cons]; omega) (by simp only [List.length_cons]; omega)]
      congr 1
      rw [bne_eq_false_iff_eq]
      simp only [List.length_cons]; omega
  rw [hsz, bind_of, ite2_false]
  exact nums_loop (by omega) hb K 0 [] (by omega) (by omega) rfl (fun v hv => by cases hv)
theorem law_FnTexts (a b : List Int) (ha : a.length ≤ maxLen ∧ ∀ x ∈ a, (Lit.int .u8 x).wf = true) (hb : b.length ≤ maxLen ∧ ∀ x ∈ b, (Lit.int .u8 x).wf = true) : ∃ K, laws_FnTexts K a b = some true := by
  have byt : ∀ {c : List Int}, (∀ x ∈ c, (Lit.int .u8 x).wf = true) → Byt c := fun h x hx => by
    have := h x hx
    simp only [Lit.wf, Bool.and_eq_true, decide_eq_true_eq] at this
    have e1 : IntKind.u8.min = 0 := by decide
    have e2 : IntKind.u8.max = 255 := by decide
    omega
  refine ⟨3000, ?_⟩
  by_cases l0 : (a.length : Int) > 1048576
  · unfold laws_FnTexts laws_b10Long
    rw [ite2_dec, if_pos l0]; rfl
  · by_cases l1 : (b.length : Int) > 1048576
    · unfold laws_FnTexts laws_b10Long
      rw [ite2_dec, if_neg l0, bind_of, bind_of, decide_eq_true l1]; rfl
    · exact texts_true (by omega) (byt ha.2) (byt hb.2) (by omega) (by omega)

end Go.Fw
