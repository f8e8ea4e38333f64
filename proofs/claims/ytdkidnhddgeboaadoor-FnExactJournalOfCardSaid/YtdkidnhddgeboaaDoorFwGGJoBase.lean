/- Journals of lines. -/
import Derived.Test.YtdkidnhddgeboaaDoorFwGGTxBase
namespace Go.Fw
open Go
noncomputable section

theorem ofL_append (a b : List UInt8) : ofL a ++ ofL b = ofL (a ++ b) := by
  apply ByteArray.ext
  simp [ofL]
theorem decDigits_len : ∀ (u : Nat), 1 ≤ (Lib.decDigits u).length ∧ (Lib.decDigits u).length ≤ u + 1 := by
  intro u
  induction u using Nat.strongRecOn with
  | _ u ih =>
    by_cases h : u < 10
    · rw [decDigits_small h]; simp
    · have := ih (u / 10) (by omega)
      rw [decDigits_great h]
      simp; omega
theorem itoa_len {c : Int} (h0 : 0 ≤ c) (h1 : c < 65003) : 1 ≤ (Lib.itoa c).length ∧ (Lib.itoa c).length ≤ 65004 := by
  unfold Lib.itoa
  rw [if_neg (by omega)]
  have := decDigits_len c.toNat
  omega

/-- A line of a journal; the journal. -/
def rec1 (ln : List UInt8) (c : Int) : List UInt8 := Lib.itoa (ck c ln) ++ [32] ++ ln ++ [10]
def jl : List (List UInt8) → Int → List UInt8
  | [], _ => []
  | ln :: r, c => rec1 ln c ++ jl r (ck c ln)
def need : List (List UInt8) → Nat
  | [] => 0
  | ln :: r => ln.length + 3 + need r
theorem rec1_len {ln : List UInt8} {c : Int} (h0 : 0 ≤ c) (h1 : c < 65003) : ln.length + 3 ≤ (rec1 ln c).length ∧ (rec1 ln c).length ≤ ln.length + 65006 := by
  obtain ⟨q0, q1⟩ := ck_range (l := ln) h0 h1
  have := itoa_len q0 q1
  simp only [rec1, List.length_append, List.length_cons, List.length_nil]
  omega
theorem need_le : ∀ {ls : List (List UInt8)} {c : Int}, 0 ≤ c → c < 65003 → need ls ≤ (jl ls c).length
  | [], _, _, _ => Nat.le_refl _
  | ln :: r, c, h0, h1 => by
    obtain ⟨q0, q1⟩ := ck_range (l := ln) h0 h1
    have := need_le (ls := r) q0 q1
    have h := (rec1_len (ln := ln) h0 h1).1
    simp only [need, jl, List.length_append]; omega
theorem len_need : ∀ (ls : List (List UInt8)), ls.length * 3 ≤ need ls
  | [] => Nat.le_refl _
  | ln :: r => by have := len_need r; simp only [need, List.length_cons]; omega
theorem mapD' {ls : List (List UInt8)} {i : Nat} (h : i < ls.length) : (ls.map ofL).getD i default = ofL ls[i] := by
  rw [getD_of_lt (by simpa using h)]; simp
theorem rec1_val {ln : List UInt8} {c : Int} : ((ofL (Lib.itoa (ck c ln)) ++ ByteArray.mk #[32]) ++ ofL ln) ++ ByteArray.mk #[10] = ofL (rec1 ln c) := by
  show ((ofL (Lib.itoa (ck c ln)) ++ ofL [32]) ++ ofL ln) ++ ofL [10] = _
  rw [ofL_append, ofL_append, ofL_append]; rfl

theorem spec_journal {K : Nat} {ls : List (List UInt8)} (hn : need ls ≤ 8000) (hK : 20000 ≤ K) : spec_l11Journal K (ls.map ofL) = some (ofL (jl ls 0)) := by
  have key : ∀ (f i : Nat) (c : Int) (out : List UInt8), i ≤ ls.length → ls.length - i < f → 0 ≤ c → c < 65003 → need (ls.drop i) ≤ 8000 → out.length ≤ i * 80000 →
      spec_l11Journal_l1 K (ls.map ofL) f (ofL out) c (i : Int) = some (ofL (out ++ jl (ls.drop i) c)) := by
    intro f
    induction f with
    | zero => intro i c out _ h; omega
    | succ f ih =>
      intro i c out hi hf h0 h1 hnd ho
      have hlen : (ls.map ofL).length = ls.length := List.length_map _
      have hl3 := len_need ls
      rw [spec_l11Journal_l1, ite2_dec, hlen]
      by_cases hlt : i < ls.length
      · have hg := mapD' hlt
        rw [drop_cons hlt] at hnd ⊢
        rw [if_pos (by omega), chk_pos (by omega), Int.toNat_natCast, hg]
        generalize ls[i] = ln at *
        have hnd' : ln.length + 3 + need (ls.drop (i + 1)) ≤ 8000 := hnd
        obtain ⟨q0, q1⟩ := ck_range (l := ln) h0 h1
        have hil := itoa_len q0 q1
        have hr := rec1_len (ln := ln) h0 h1
        have z1 : (ByteArray.mk #[32]).size = 1 := rfl
        have z2 : (ByteArray.mk #[10]).size = 1 := rfl
        rw [spec_check h0 h1 (by rw [size_ofL]; omega) (by rw [size_ofL]; omega), bind_of, toL_ofL]
        obtain ⟨cn, hcn⟩ : ∃ cn : Nat, ck c ln = (cn : Int) := ⟨(ck c ln).toNat, by omega⟩
        rw [hcn, spec_dec (by omega) (by omega), bind_of, ← hcn]
        have hmul : (i + 1) * 80000 = i * 80000 + 80000 := by omega
        have hbig : i * 80000 ≤ 8000 * 80000 := Nat.mul_le_mul_right _ (by omega)
        rw [chk_pos (by rw [size_ofL, z1]; omega), chk_pos (by rw [ByteArray.size_append, size_ofL, z1, size_ofL]; omega), chk_pos (by rw [ByteArray.size_append, ByteArray.size_append, size_ofL, z1, size_ofL, z2]; omega), rec1_val, chk_pos (by rw [size_ofL, size_ofL]; omega), ofL_append, wrap_nat1 (by omega),
          ih (i + 1) _ _ (by omega) (by omega) q0 q1 (by omega) (by rw [List.length_append]; omega), jl, List.append_assoc]
      · have e : i = ls.length := by omega
        rw [if_neg (by omega), e, List.drop_length, jl, List.append_nil]
  have := key K 0 0 [] (by omega) (by have := len_need ls; omega) (by omega) (by omega) hn (by simp)
  rw [show (((0 : Nat) : Int)) = 0 from rfl] at this
  unfold spec_l11Journal
  rw [show ByteArray.empty = ofL [] from rfl, this]
  simp

/-- What a journal of lines is. -/
def jok (ls : List (List UInt8)) (c : Int) (n : Nat) : Prop := (∀ ln ∈ ls, ¬ ix 10 ln < ln.length) ∧ n + (jl ls c).length ≤ 8000
instance (ls : List (List UInt8)) (c : Int) (n : Nat) : Decidable (jok ls c n) := by unfold jok; exact inferInstance

theorem has1_val (l : List UInt8) (c : UInt8) : has1 (ofL l) ⟨#[c]⟩ = some (decide (ix c l < l.length)) := by
  unfold has1
  rw [if_pos (show (ByteArray.mk #[c]).size = 1 from rfl)]
  have h := indexByte_ix c l
  have e : Lib.indexByte (ofL l).data.toList ((ByteArray.mk #[c]).data.getD 0 0) = Lib.indexByte l c := rfl
  rw [e, h]
  by_cases hh : ix c l < l.length
  · rw [if_pos hh]; simp [hh]
  · rw [if_neg hh]; simp [hh]

theorem impl_journal {K : Nat} {ls : List (List UInt8)} (hl : ls.length ≤ 1048576) (hs : ∀ p ∈ ls, p.length ≤ 1048576) (hK : 1100000 ≤ K) :
    impl_JournalOf K (ls.map ofL) = some (if jok ls 0 0 then (ofL (jl ls 0), true) else (ByteArray.empty, false)) := by
  have key : ∀ (f i : Nat) (c : Int) (out : List UInt8), i ≤ ls.length → ls.length - i < f → 0 ≤ c → c < 65003 → out.length ≤ 8000 →
      impl_JournalOf_l1 K (ls.map ofL) f c (i : Int) (ofL out) = some (if jok (ls.drop i) c out.length then (ofL (out ++ jl (ls.drop i) c), true) else (ByteArray.empty, false)) := by
    intro f
    induction f with
    | zero => intro i c out _ h; omega
    | succ f ih =>
      intro i c out hi hf h0 h1 ho
      have hlen : (ls.map ofL).length = ls.length := List.length_map _
      rw [impl_JournalOf_l1, ite2_dec, hlen]
      by_cases hlt : i < ls.length
      · have hg := mapD' hlt
        have hsz := hs ls[i] (List.getElem_mem hlt)
        rw [drop_cons hlt]
        rw [if_pos (by omega), chk_pos (by omega), Int.toNat_natCast, hg]
        generalize ls[i] = ln at *
        unfold strings_Contains
        rw [has1_val, bind_of, ite2_dec]
        by_cases hnl : ix 10 ln < ln.length
        · rw [if_pos hnl, if_neg (fun h => h.1 ln (by simp) hnl)]
        · obtain ⟨q0, q1⟩ := ck_range (l := ln) h0 h1
          have hil := itoa_len q0 q1
          have hr := rec1_len (ln := ln) h0 h1
          have z1 : (ByteArray.mk #[32]).size = 1 := rfl
          have z2 : (ByteArray.mk #[10]).size = 1 := rfl
          rw [if_neg hnl, impl_check_val h0 h1 (by rw [size_ofL]; omega) (by rw [size_ofL]; omega), bind_of, toL_ofL, impl_dec q0 (by omega), bind_of]
          rw [chk_pos (by rw [size_ofL, z1]; omega), chk_pos (by rw [ByteArray.size_append, size_ofL, z1, size_ofL]; omega), chk_pos (by rw [ByteArray.size_append, ByteArray.size_append, size_ofL, z1, size_ofL, z2]; omega), rec1_val, chk_pos (by rw [size_ofL, size_ofL]; omega), ofL_append, ite2_dec, size_ofL, wrap_nat1 (by omega)]
          by_cases hbig : (out ++ rec1 ln c).length > 8000
          · rw [if_pos (by omega), if_neg (fun h => by have := h.2; rw [jl, List.length_append] at this; rw [List.length_append] at hbig; omega)]
          · rw [if_neg (by omega), ih (i + 1) _ _ (by omega) (by omega) q0 q1 (by omega)]
            have hiff : jok (ls.drop (i + 1)) (ck c ln) (out ++ rec1 ln c).length ↔ jok (ln :: ls.drop (i + 1)) c out.length := by
              unfold jok
              rw [jl, List.length_append, List.length_append]
              constructor
              · rintro ⟨k1, k2⟩
                exact ⟨fun l hl => by rcases List.mem_cons.1 hl with rfl | hl; exact hnl; exact k1 l hl, by omega⟩
              · rintro ⟨k1, k2⟩
                exact ⟨fun l hl => k1 l (List.mem_cons_of_mem _ hl), by omega⟩
            by_cases hj : jok (ls.drop (i + 1)) (ck c ln) (out ++ rec1 ln c).length
            · rw [if_pos hj, if_pos (hiff.1 hj), jl, List.append_assoc]
            · rw [if_neg hj, if_neg (fun h => hj (hiff.2 h))]
      · have e : i = ls.length := by omega
        rw [if_neg (by omega), e, List.drop_length, jl, List.append_nil, if_pos ⟨by simp, by simpa [jl] using ho⟩]
  have := key K 0 0 [] (by omega) (by omega) (by omega) (by omega) (by simp)
  rw [show (((0 : Nat) : Int)) = 0 from rfl] at this
  unfold impl_JournalOf
  rw [show ByteArray.empty = ofL [] from rfl, this]
  simp
  rfl

end
end Go.Fw
