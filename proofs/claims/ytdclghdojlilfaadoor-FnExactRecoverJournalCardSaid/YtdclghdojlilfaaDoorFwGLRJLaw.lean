/- The journal of a text is recovered alike. -/
import Derived.Test.YtdclghdojlilfaaDoorFwGLTxList
namespace Go.Fw
open Go
noncomputable section

/-- Lines of a journal: those that are right, and their bytes. -/
def rcv : List (List UInt8) → Int → List (List UInt8) × Nat
  | [], _ => ([], 0)
  | ln :: r, c => if ix 32 ln = ln.length then ([], 0) else
    if ln.take (ix 32 ln) = Lib.itoa (ck c (ln.drop (ix 32 ln + 1))) then (ln.drop (ix 32 ln + 1) :: (rcv r (ck c (ln.drop (ix 32 ln + 1)))).1, ln.length + 1 + (rcv r (ck c (ln.drop (ix 32 ln + 1)))).2) else ([], 0)
theorem rcv_length : ∀ (ls : List (List UInt8)) (c : Int), (rcv ls c).1.length ≤ ls.length
  | [], _ => Nat.le_refl _
  | ln :: r, c => by
    unfold rcv
    split
    · simp
    · split
      · have := rcv_length r (ck c (ln.drop (ix 32 ln + 1)))
        simp; omega
      · simp
theorem mapD {ls : List (List UInt8)} {i : Nat} (h : i < ls.length) : (ls.map ofL).getD i default = ofL ls[i] := by
  rw [getD_of_lt (by simpa using h)]; simp

theorem spec_l4 {K : Nat} {v : List ByteArray × ByteArray} {i : Nat} {ln : List UInt8} (hi : i < v.1.length) (hv : v.1.getD i default = ofL ln) (hs : ln.length ≤ 8000) (hK : 8000 < K) :
    spec_RecoverJournal_l4 K v (i : Int) K 0 = some (ix 32 ln : Int) := by
  have key : ∀ (f j : Nat), j ≤ ix 32 ln → ix 32 ln - j < f → spec_RecoverJournal_l4 K v (i : Int) f (j : Int) = some (ix 32 ln : Int) := by
    intro f
    induction f with
    | zero => intro j _ h; omega
    | succ f ih =>
      intro j hj hf
      have hle := ix_le 32 ln
      rw [spec_RecoverJournal_l4, chk_pos (by omega), Int.toNat_natCast, hv, size_ofL, ite2_dec]
      by_cases hlt : j < ln.length
      · rw [if_pos (by omega), chk_pos (by omega), Int.toNat_natCast, bt_toL (s := ofL ln) (i := j) hlt, bind_of]
        have hb : (toL (ofL ln))[j]'hlt = ln[j] := rfl
        rw [hb]
        by_cases e : j = ix 32 ln
        · subst e
          have := ix_at 32 ln hlt
          rw [this]
          rfl
        · have hne := ix_before 32 ln j (by omega) hlt
          have : (((ln[j]).toNat : Int) != (32 : Int)) = true := by
            simp only [bne_iff_ne, ne_eq]
            intro h
            apply hne
            apply UInt8.toNat_inj.1
            have : (32 : UInt8).toNat = 32 := rfl
            omega
          rw [this, ite2_true, wrap_nat1 (by omega), ih (j + 1) (by omega) (by omega)]
      · have e : j = ix 32 ln := by omega
        rw [if_neg (by omega), bind_of, ite2_false, e]
  exact key K 0 (by omega) (by have := ix_le 32 ln; omega)

theorem take_eq {a b : List UInt8} : ((ofL a).toList == (ofL b).toList) = decide (a = b) := by
  rw [toList_toL, toList_toL, toL_ofL, toL_ofL]
  by_cases h : a = b
  · subst h; simp
  · simp [h]
theorem ext_line {ln : List UInt8} (i j : Nat) : (ofL ln).extract i j = ofL ((ln.drop i).take (j - i)) := ext_ofL _ _ _
theorem ext_end {ln : List UInt8} (i : Nat) : (ofL ln).extract i ln.length = ofL (ln.drop i) := by
  rw [ext_line, List.take_of_length_le (by rw [List.length_drop]; omega)]

theorem spec_l3 {K : Nat} {ls : List (List UInt8)} {t : ByteArray} (hl : ls.length ≤ 8001) (hs : ∀ p ∈ ls, p.length ≤ 8000) (hK : 20000 ≤ K) :
    ∀ (f i n : Nat) (c : Int) (out : List ByteArray), i ≤ ls.length → ls.length - i < f → n ≤ i * 8001 → out.length ≤ i → 0 ≤ c → c < 65003 →
      spec_RecoverJournal_l3 K (ls.map ofL, t) f c (n : Int) (i : Int) out = some (out ++ (rcv (ls.drop i) c).1.map ofL, ((n + (rcv (ls.drop i) c).2 : Nat) : Int), true) := by
  intro f
  induction f with
  | zero => intro i n c out _ h; omega
  | succ f ih =>
    intro i n c out hi hf hn ho h0 h1
    have hlen : (ls.map ofL).length = ls.length := List.length_map _
    rw [spec_RecoverJournal_l3, ite2_dec, hlen]
    by_cases hlt : i < ls.length
    · have hg := mapD hlt
      have hsz := hs ls[i] (List.getElem_mem hlt)
      rw [if_pos (by omega), spec_l4 (ln := ls[i]) (by rw [hlen]; exact hlt) hg hsz (by omega), bind_of, chk_pos (by omega), Int.toNat_natCast, hg, size_ofL, drop_cons hlt]
      generalize hln : ls[i] = ln at *
      have hle := ix_le 32 ln
      by_cases e : ix 32 ln = ln.length
      · have : (((ix 32 ln : Int)) == (ln.length : Int)) = true := by simp; omega
        rw [this, ite2_true, rcv, if_pos e]
        simp
      · have : (((ix 32 ln : Int)) == (ln.length : Int)) = false := by simp; omega
        have w1 : IntKind.i64.wrap ((ix 32 ln : Int) + 1) = ((ix 32 ln + 1 : Nat) : Int) := wrap_nat1 (by omega)
        have hb := ck_range (l := ln.drop (ix 32 ln + 1)) h0 h1
        have hck : 0 ≤ ck c (ln.drop (ix 32 ln + 1)) ∧ ck c (ln.drop (ix 32 ln + 1)) < 65003 := hb
        rw [this, ite2_false, w1, chk_pos (by omega), Int.toNat_natCast, Int.toNat_natCast, ext_end, spec_check h0 h1 (by rw [size_ofL, List.length_drop]; omega) (by rw [size_ofL, List.length_drop]; omega), bind_of, chk_pos (by omega), toL_ofL]
        obtain ⟨cn, hcn⟩ : ∃ cn : Nat, ck c (ln.drop (ix 32 ln + 1)) = (cn : Int) := ⟨(ck c (ln.drop (ix 32 ln + 1))).toNat, by omega⟩
        rw [hcn, spec_dec (by omega) (by omega), bind_of, show ((0 : Int)).toNat = 0 from rfl, ext_line, List.drop_zero, Nat.sub_zero, Int.toNat_natCast, take_eq, rcv, if_neg e, hcn]
        by_cases ed : ln.take (ix 32 ln) = Lib.itoa (cn : Int)
        · have hmul : (i + 1) * 8001 = i * 8001 + 8001 := by omega
          have hbig : i * 8001 ≤ 8001 * 8001 := Nat.mul_le_mul_right _ (by omega)
          have w2 : IntKind.i64.wrap ((ln.length : Int) + 1) = ((ln.length + 1 : Nat) : Int) := wrap_nat1 (by omega)
          have w3 : IntKind.i64.wrap ((n : Int) + ((ln.length + 1 : Nat) : Int)) = ((n + (ln.length + 1) : Nat) : Int) := by rw [wrap_small (by omega) (by omega)]; omega
          have w4 : IntKind.i64.wrap ((i : Int) + 1) = ((i + 1 : Nat) : Int) := wrap_nat1 (by omega)
          rw [decide_eq_true ed, Bool.not_true, ite2_false, chk_pos (by simp; omega), w2, w3, w4, ih (i + 1) _ _ _ (by omega) (by omega) (by omega) (by simp; omega) (by omega) (by omega), if_pos ed]
          simp only [List.map_cons, List.append_assoc, List.singleton_append, Option.some.injEq, Prod.mk.injEq, true_and, and_true]
          omega
        · rw [decide_eq_false ed, Bool.not_false, ite2_true, if_neg ed]
          simp
    · have e : i = ls.length := by omega
      rw [if_neg (by omega), e, List.drop_length, rcv]
      simp

theorem idx1_val (l : List UInt8) (c : UInt8) : idx1 (ofL l) ⟨#[c]⟩ = some (if ix c l < l.length then (ix c l : Int) else -1) := by
  unfold idx1
  rw [if_pos (show (ByteArray.mk #[c]).size = 1 from rfl)]
  congr 1
  exact indexByte_ix c l
theorem cut_val {K : Nat} (l : List UInt8) (c : UInt8) (hl : l.length ≤ 8000) : strings_Cut K (ofL l) ⟨#[c]⟩ = some (if ix c l < l.length then (ofL (l.take (ix c l)), ofL (l.drop (ix c l + 1)), true) else (ofL l, ByteArray.empty, false)) := by
  unfold strings_Cut stringslite_Cut stringslite_Index
  rw [idx1_val, bind_of]
  by_cases h : ix c l < l.length
  · have hz : (ByteArray.mk #[c]).size = 1 := rfl
    have w1 : IntKind.i64.wrap ((ix c l : Int) + (((ByteArray.mk #[c]).size : Nat) : Int)) = ((ix c l + 1 : Nat) : Int) := by rw [hz]; exact wrap_nat1 (by omega)
    rw [if_pos h, ite2_dec, if_pos (by omega), w1, size_ofL, chk_pos (by omega), chk_pos (by omega), bind_of, if_pos h, show ((0 : Int)).toNat = 0 from rfl, Int.toNat_natCast, Int.toNat_natCast, Int.toNat_natCast, ext_end, ext_line]
    simp
  · rw [if_neg h, ite2_dec, if_neg (by omega), bind_of, if_neg h]
theorem itoa_empty (n : Nat) : [] ≠ Lib.itoa (n : Int) := by
  unfold Lib.itoa
  rw [if_neg (by omega)]
  rw [Lib.decDigits]
  split <;> simp

theorem impl_l1 {K : Nat} {a : ByteArray} (hs : a.size ≤ 8000) (hK : 20000 ≤ K) :
    ∀ (f at_ : Nat) (c : Int) (out : List ByteArray), at_ ≤ a.size → a.size - at_ < f → out.length ≤ at_ → 0 ≤ c → c < 65003 →
      impl_RecoverJournal_l1 K a f (at_ : Int) c out = some (out ++ (rcv (spl 10 ((toL a).drop at_)).dropLast c).1.map ofL, ((at_ + (rcv (spl 10 ((toL a).drop at_)).dropLast c).2 : Nat) : Int), true) := by
  intro f
  induction f with
  | zero => intro at_ c out _ h; omega
  | succ f ih =>
    intro at_ c out hat hf ho h0 h1
    have hla : (toL a).length = a.size := rfl
    generalize hR : (toL a).drop at_ = R
    have hRl : R.length = a.size - at_ := by rw [← hR, List.length_drop, hla]
    have hx : a.extract at_ a.size = ofL R := by rw [← hR, ← ext_end]; rfl
    rw [impl_RecoverJournal_l1, chk_pos (by omega), Int.toNat_natCast, Int.toNat_natCast, hx, cut_val R 10 (by omega), bind_of]
    by_cases hn : ix 10 R < R.length
    · rw [if_pos hn, spl_at hn]
      generalize hln : R.take (ix 10 R) = ln
      have hll : ln.length = ix 10 R := by rw [← hln, List.length_take]; omega
      have hdl : (ln :: spl 10 (R.drop (ix 10 R + 1))).dropLast = ln :: (spl 10 (R.drop (ix 10 R + 1))).dropLast := by
        obtain ⟨p, ps, hp⟩ := spl_cons 10 (R.drop (ix 10 R + 1))
        rw [hp]; rfl
      rw [hdl]
      simp only []
      rw [cut_val ln 32 (by omega), bind_of]
      have hle := ix_le 32 ln
      by_cases e : ix 32 ln = ln.length
      · rw [if_neg (by omega)]
        simp only []
        rw [impl_check_val h0 h1 (by decide) (Nat.lt_of_lt_of_le (show ByteArray.empty.size < 1 by decide) (by omega)), bind_of, Bool.not_true, ite2_false, Bool.not_false, ite2_true, bind_of, ite2_true, rcv, if_pos e]
        simp
      · have hb := ck_range (l := ln.drop (ix 32 ln + 1)) h0 h1
        rw [if_pos (by omega)]
        simp only []
        rw [impl_check_val h0 h1 (by rw [size_ofL, List.length_drop]; omega) (by rw [size_ofL, List.length_drop]; omega), bind_of, toL_ofL]
        obtain ⟨cn, hcn⟩ : ∃ cn : Nat, ck c (ln.drop (ix 32 ln + 1)) = (cn : Int) := ⟨(ck c (ln.drop (ix 32 ln + 1))).toNat, by omega⟩
        rw [Bool.not_true, ite2_false, ite2_false, hcn, impl_dec (by omega) (by omega), bind_of, bind_of, take_eq, rcv, if_neg e, hcn]
        by_cases ed : ln.take (ix 32 ln) = Lib.itoa (cn : Int)
        · have w2 : IntKind.i64.wrap ((((ofL ln).size : Nat) : Int) + 1) = ((ln.length + 1 : Nat) : Int) := wrap_nat1 (by rw [size_ofL]; omega)
          have w3 : IntKind.i64.wrap ((at_ : Int) + ((ln.length + 1 : Nat) : Int)) = ((at_ + (ln.length + 1) : Nat) : Int) := by rw [wrap_small (by omega) (by omega)]; omega
          have hdr : (toL a).drop (at_ + (ln.length + 1)) = R.drop (ix 10 R + 1) := by rw [← hR, List.drop_drop, hll, hR]
          rw [decide_eq_true ed, Bool.not_true, ite2_false, chk_pos (by simp; omega), w2, w3, ih _ _ _ (by omega) (by omega) (by simp; omega) (by omega) (by omega), if_pos ed, hdr]
          simp only [List.map_cons, List.append_assoc, List.singleton_append, Option.some.injEq, Prod.mk.injEq, true_and, and_true]
          omega
        · rw [decide_eq_false ed, Bool.not_false, ite2_true, if_neg ed]
          simp
    · rw [if_neg hn, spl_no hn]
      simp only []
      have hRs : R.length ≤ 8000 := by omega
      rw [cut_val R 32 hRs, bind_of]
      have hck : ∃ z, impl_check K c (if ix 32 R < R.length then (ofL (R.take (ix 32 R)), ofL (R.drop (ix 32 R + 1)), true) else (ofL R, ByteArray.empty, false)).2.1 = some z := by
        split
        · exact ⟨_, impl_check_val h0 h1 (by rw [size_ofL, List.length_drop]; omega) (by rw [size_ofL, List.length_drop]; omega)⟩
        · exact ⟨_, impl_check_val (a := ByteArray.empty) h0 h1 (by decide) (Nat.lt_of_lt_of_le (show ByteArray.empty.size < 1 by decide) (by omega))⟩
      obtain ⟨z, hz⟩ := hck
      rw [hz, bind_of, Bool.not_false, ite2_true, bind_of, ite2_true]
      simp [rcv]

theorem both {K : Nat} {a : ByteArray} (hK : 20000 ≤ K) : ∃ q : List ByteArray × Int × Bool, spec_RecoverJournal K a = some q ∧ impl_RecoverJournal K a = some q ∧ q.1.length ≤ 8001 := by
  by_cases hs : a.size ≤ 8000
  · refine ⟨(((rcv (spl 10 (toL a)).dropLast 0).1).map ofL, (((rcv (spl 10 (toL a)).dropLast 0).2 : Nat) : Int), true), ?_, ?_, ?_⟩
    · unfold spec_RecoverJournal spec_l11Lines
      have hcp := cut_parts (K := K) (a := a) (m := 10) (by omega) (by omega)
      rw [show ((10 : UInt8).toNat : Int) = 10 from rfl] at hcp
      have hlen := spl_length 10 (toL a)
      rw [toL_length] at hlen
      obtain ⟨p, ps, hp⟩ := spl_cons 10 (toL a)
      have hll : ((spl 10 (toL a)).map ofL).length = (spl 10 (toL a)).length := List.length_map _
      have hpos : 0 < (spl 10 (toL a)).length := by rw [hp]; simp
      have w : IntKind.i64.wrap ((((spl 10 (toL a)).map ofL).length : Int) - 1) = (((spl 10 (toL a)).length - 1 : Nat) : Int) := by rw [hll, wrap_small (by omega) (by omega)]; omega
      rw [ite2_dec, if_neg (by omega), hcp, bind_of, w, chk_pos (by omega), chk_pos (by omega), bind_of, Int.toNat_natCast, ← List.map_take, ← List.dropLast_eq_take]
      have hdl : (spl 10 (toL a)).dropLast.length ≤ 8001 := by rw [List.length_dropLast]; omega
      have := spec_l3 (K := K) (ls := (spl 10 (toL a)).dropLast) (t := ((spl 10 (toL a)).map ofL).getD ((spl 10 (toL a)).length - 1) default) hdl (fun q hq => by
        have := spl_part ((List.dropLast_sublist _).subset hq)
        rw [toL_length] at this; omega) hK K 0 0 0 [] (by omega) (by omega) (by omega) (by simp) (by omega) (by omega)
      rw [show (((0 : Nat) : Int)) = 0 from rfl] at this
      rw [this]
      simp
    · unfold impl_RecoverJournal
      have := impl_l1 (K := K) hs hK K 0 0 [] (by omega) (by omega) (by simp) (by omega) (by omega)
      rw [show (((0 : Nat) : Int)) = 0 from rfl] at this
      rw [ite2_dec, if_neg (by omega), this]
      simp
    · have h1 := rcv_length (spl 10 (toL a)).dropLast 0
      have h2 := spl_length 10 (toL a)
      rw [List.length_dropLast] at h1
      rw [toL_length] at h2
      rw [List.length_map]; omega
  · exact ⟨([], 0, false), by unfold spec_RecoverJournal; rw [ite2_dec, if_pos (by omega)], by unfold impl_RecoverJournal; rw [ite2_dec, if_pos (by omega)], by simp⟩

theorem law_RecoverJournal (a : ByteArray) (_ : a.size ≤ maxLen) : ∃ K, laws_FnExactRecoverJournal K a = some true := by
  refine ⟨20000, ?_⟩
  unfold laws_FnExactRecoverJournal
  rw [ite2_dec]
  split
  · rfl
  · obtain ⟨q, h1, h2, h3⟩ := both (K := 20000) (a := a) (Nat.le_refl _)
    obtain ⟨q1, q2, q3⟩ := q
    have h3 : q1.length ≤ 8001 := h3
    have e1 := eqS (K := 20000) (a := q1) (by omega) (by omega)
    have e2 := markS (K := 20000) (a := q1) (by omega) (by omega)
    have e3 := heldS (K := 20000) (a := q1) (by omega) (by omega)
    have e4 := cnOne q1
    have x1 : (q2 != q2) = false := by simp
    have x2 : (!(q3 == q3)) = false := by simp
    have x3 : ((1 + cnL one q1) != (1 + cnL one q1)) = false := by simp
    have x4 : ¬ (1 + cnL one q1 < 0) := by omega
    have hl := mkL_length (mtf 20000) one q1 1
    simp only [h1, h2, bind_of, e1, Bool.not_true, ite2_false, x1, x2, e2, e3, ite2_dec, if_neg x4, x3, chk_pos hl]

end
end Go.Fw
