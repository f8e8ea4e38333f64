/- Journals are made alike. -/
import Derived.Test.YtdkidnhddgeboaaDoorFwGGJoBase
import Derived.Test.YtdkidnhddgeboaaDoorFwGGLaw
namespace Go.Fw
open Go
noncomputable section

theorem spec_j4 {K : Nat} {v : List ByteArray} {i : Nat} {ln : List UInt8} (hi : i < v.length) (hv : v.getD i default = ofL ln) (hs : ln.length ≤ 8000) (hK : 8000 < K) :
    spec_JournalOf_l4 K v (i : Int) K 0 = some (if ix 10 ln < ln.length then .inr () else .inl ()) := by
  have key : ∀ (f j : Nat), j ≤ ix 10 ln → j ≤ ln.length → ix 10 ln - j < f → spec_JournalOf_l4 K v (i : Int) f (j : Int) = some (if ix 10 ln < ln.length then .inr () else .inl ()) := by
    intro f
    induction f with
    | zero => intro j _ _ h; omega
    | succ f ih =>
      intro j hj hj2 hf
      have hle := ix_le 10 ln
      rw [spec_JournalOf_l4, chk_pos (by omega), Int.toNat_natCast, hv, size_ofL, ite2_dec]
      by_cases hlt : j < ln.length
      · rw [if_pos (by omega), chk_pos (by omega), Int.toNat_natCast, bt_toL (s := ofL ln) (i := j) hlt]
        have hb : (toL (ofL ln))[j]'hlt = ln[j] := rfl
        rw [hb]
        by_cases e : j = ix 10 ln
        · subst e
          rw [ix_at 10 ln hlt, if_pos hlt]
          rfl
        · have hne := ix_before 10 ln j (by omega) hlt
          have : (((ln[j]).toNat : Int) == (10 : Int)) = false := by
            simp only [beq_eq_false_iff_ne, ne_eq]
            intro h
            apply hne
            apply UInt8.toNat_inj.1
            have : (10 : UInt8).toNat = 10 := rfl
            omega
          rw [this, ite2_false, wrap_nat1 (by omega), ih (j + 1) (by omega) (by omega) (by omega)]
      · rw [if_neg (by omega), if_neg (by omega)]
  exact key K 0 (by omega) (by omega) (by have := ix_le 10 ln; omega)

theorem spec_jo {K : Nat} {ls : List (List UInt8)} (hl : ls.length ≤ 1048576) (hs : ∀ p ∈ ls, p.length ≤ 1048576) (hK : 1100000 ≤ K) :
    spec_JournalOf K (ls.map ofL) = some (if jok ls 0 0 then (ofL (jl ls 0), true) else (ByteArray.empty, false)) := by
  have key : ∀ (f i n : Nat), i ≤ ls.length → ls.length - i < f → n ≤ 8000 → n + need (ls.drop i) = need ls → (∀ ln ∈ ls.take i, ¬ ix 10 ln < ln.length) →
      spec_JournalOf_l3 K (ls.map ofL) f (n : Int) (i : Int) = some (if jok ls 0 0 then (ofL (jl ls 0), true) else (ByteArray.empty, false)) := by
    intro f
    induction f with
    | zero => intro i n _ h; omega
    | succ f ih =>
      intro i n hi hf hn hsum hpre
      have hlen : (ls.map ofL).length = ls.length := List.length_map _
      have hne := need_le (ls := ls) (c := 0) (by omega) (by omega)
      rw [spec_JournalOf_l3, ite2_dec, hlen]
      by_cases hlt : i < ls.length
      · have hg := mapD' hlt
        have hsz := hs ls[i] (List.getElem_mem hlt)
        have hmem : ls[i] ∈ ls := List.getElem_mem hlt
        rw [drop_cons hlt] at hsum
        have htk : ls.take (i + 1) = ls.take i ++ [ls[i]] := by rw [List.take_add_one, List.getElem?_eq_getElem hlt]; rfl
        rw [if_pos (by omega), chk_pos (by omega), Int.toNat_natCast, hg, size_ofL]
        generalize ls[i] = ln at *
        have hsum' : n + (ln.length + 3 + need (ls.drop (i + 1))) = need ls := hsum
        have w1 : IntKind.i64.wrap ((ln.length : Int) + 3) = ((ln.length + 3 : Nat) : Int) := by rw [wrap_small (by omega) (by omega)]; omega
        have w2 : IntKind.i64.wrap ((n : Int) + ((ln.length + 3 : Nat) : Int)) = ((n + (ln.length + 3) : Nat) : Int) := by rw [wrap_small (by omega) (by omega)]; omega
        rw [w1, w2, ite2_dec]
        by_cases hbig : n + (ln.length + 3) > 8000
        · rw [if_pos (by omega), if_neg (fun h => by have := h.2; omega)]
        · rw [if_neg (by omega), spec_j4 (ln := ln) (by rw [hlen]; exact hlt) hg (by omega) (by omega), bind_of]
          by_cases hnl : ix 10 ln < ln.length
          · rw [if_pos hnl, if_neg (fun h => h.1 ln hmem hnl)]
            rfl
          · rw [if_neg hnl]
            show spec_JournalOf_l3 K (ls.map ofL) f _ _ = _
            rw [wrap_nat1 (by omega), ih (i + 1) _ (by omega) (by omega) (by omega) (by omega) (fun l hl => by
              rw [htk] at hl
              rcases List.mem_append.1 hl with hl | hl
              · exact hpre l hl
              · simp at hl; subst hl; exact hnl)]
      · have e : i = ls.length := by omega
        subst e
        rw [List.drop_length] at hsum
        have hn0 : need ls ≤ 8000 := by simp only [need] at hsum; omega
        rw [if_neg (by omega), spec_journal hn0 (by omega), bind_of, ite2_dec, size_ofL]
        rw [List.take_length] at hpre
        by_cases hb : (jl ls 0).length > 8000
        · rw [if_pos (by omega), if_neg (fun h => by have := h.2; omega)]
        · rw [if_neg (by omega), if_pos ⟨hpre, by omega⟩]
  have := key K 0 0 (by omega) (by omega) (by omega) (by simp) (by simp)
  rw [show (((0 : Nat) : Int)) = 0 from rfl] at this
  exact this

theorem szS {K : Nat} {a : List ByteArray} (hl : a.length ≤ maxLen) (hs : ∀ x ∈ a, x.size ≤ maxLen) (hK : a.length < K) :
    ∃ v, laws_szStringS K a 1048576 = some v ∧ (0 ≤ v → a.length ≤ 1048576 ∧ ∀ x ∈ a, x.size ≤ 1048576) := by
  rw [maxLen_eq] at hl hs
  have key : ∀ (f i : Nat) (s : Int), i ≤ a.length → a.length - i < f → 0 ≤ s → s ≤ 1048576 → a.length ≤ 1048576 → ∃ v, laws_szStringS_l1 K a f s (i : Int) = some v ∧ (0 ≤ v → ∀ x ∈ a.drop i, x.size ≤ 1048576) := by
    intro f
    induction f with
    | zero => intro i s _ h; omega
    | succ f ih =>
      intro i s hi hf h0 h1 hla
      rw [laws_szStringS_l1, ite2_dec]
      by_cases hlt : i < a.length
      · have hg : a.getD i default = a[i] := getD_of_lt hlt
        have hsz := hs a[i] (List.getElem_mem hlt)
        rw [if_pos (by omega), chk_pos (by omega), Int.toNat_natCast, hg, wrap_in (by omega) (by omega), ite2_dec, drop_cons hlt]
        by_cases hneg : s - (a[i].size : Int) < 0
        · rw [if_pos hneg]
          exact ⟨_, rfl, fun h => absurd h (by omega)⟩
        · rw [if_neg hneg, wrap_nat1 (by omega)]
          obtain ⟨v, hv, hk⟩ := ih (i + 1) (s - (a[i].size : Int)) (by omega) (by omega) (by omega) (by omega) hla
          refine ⟨v, hv, fun h x hx => ?_⟩
          rcases List.mem_cons.1 hx with rfl | hx
          · omega
          · exact hk h x hx
      · rw [if_neg (by omega)]
        exact ⟨s, rfl, fun _ x hx => by rw [List.drop_eq_nil_of_le (by omega)] at hx; cases hx⟩
  unfold laws_szStringS
  rw [wrap_in (by omega) (by omega), ite2_dec]
  by_cases h : (1048576 : Int) - (a.length : Int) < 0
  · rw [if_pos h]
    exact ⟨_, rfl, fun h => absurd h (by omega)⟩
  · rw [if_neg h]
    obtain ⟨v, hv, hk⟩ := key K 0 ((1048576 : Int) - (a.length : Int)) (by omega) (by omega) (by omega) (by omega) (by omega)
    exact ⟨v, hv, fun h2 => ⟨by omega, by simpa using hk h2⟩⟩

theorem law_JournalOf (a : List ByteArray) (h : a.length ≤ maxLen ∧ ∀ x ∈ a, x.size ≤ maxLen) : ∃ K, laws_FnExactJournalOf K a = some true := by
  refine ⟨1100000 + a.length, ?_⟩
  generalize hK : 1100000 + a.length = K
  obtain ⟨v, hv, hb⟩ := szS (K := K) h.1 h.2 (by omega)
  unfold laws_FnExactJournalOf
  rw [hv, bind_of, ite2_dec]
  by_cases hneg : v < 0
  · rw [if_pos hneg]
  · obtain ⟨hl, hs⟩ := hb (by omega)
    have ha : a = (a.map toL).map ofL := by rw [List.map_map]; conv => lhs; rw [← List.map_id a]
                                            rfl
    have hl' : (a.map toL).length ≤ 1048576 := by simpa using hl
    have hs' : ∀ p ∈ a.map toL, p.length ≤ 1048576 := fun p hp => by
      obtain ⟨x, hx, rfl⟩ := List.mem_map.1 hp
      exact hs x hx
    have e1 := spec_jo (K := K) hl' hs' (by omega)
    have e2 := impl_journal (K := K) hl' hs' (by omega)
    rw [← ha] at e1 e2
    have e3 := to_StringS (K := K) (a := a) (by omega) hl
    have e4 := eq_StringS (K := K) (a := a) (by omega) hl
    generalize (if jok (a.map toL) 0 0 then (ofL (jl (a.map toL) 0), true) else (ByteArray.empty, false)) = q at e1 e2
    obtain ⟨q1, q2⟩ := q
    have x1 : (q1.toList == q1.toList) = true := by simp
    have x2 : (!(q2 == q2)) = false := by simp
    simp only [if_neg hneg, e3, bind_of, e1, e2, x1, Bool.not_true, ite2_false, x2, e4]

end
end Go.Fw
