/- Texts as lists of bytes: parts between marks. -/
import Derived.Test.YtcgakaboochpaaeDoorFwGQ
import Derived.Test.YtcgakaboochpaaeDoorFwLW
import Derived.Lib.Bytealg
namespace Go.Fw
open Go
noncomputable section

def toL (s : ByteArray) : List UInt8 := s.data.toList
def ofL (l : List UInt8) : ByteArray := ⟨l.toArray⟩
theorem ofL_toL (s : ByteArray) : ofL (toL s) = s := rfl
theorem toL_ofL (l : List UInt8) : toL (ofL l) = l := rfl
theorem toL_length (s : ByteArray) : (toL s).length = s.size := rfl
theorem size_ofL (l : List UInt8) : (ofL l).size = l.length := rfl
theorem ofL_inj {a b : List UInt8} : ofL a = ofL b ↔ a = b := ⟨fun h => by have := congrArg toL h; rwa [toL_ofL, toL_ofL] at this, fun h => by rw [h]⟩
theorem toL_extract (s : ByteArray) (i j : Nat) : toL (s.extract i j) = ((toL s).drop i).take (j - i) := by
  simp [toL, ByteArray.data_extract]
theorem ext_ofL (s : ByteArray) (i j : Nat) : s.extract i j = ofL (((toL s).drop i).take (j - i)) := by rw [← toL_extract, ofL_toL]
theorem toList_toL (s : ByteArray) : s.toList = toL s := ByteArray.toList_eq s
theorem bt_toL {s : ByteArray} {i : Nat} (h : i < s.size) : bt s i = (((toL s)[i]'h).toNat : Int) := by rw [bt_getD s i h]; rfl
theorem drop_cons {α : Type} {l : List α} {i : Nat} (h : i < l.length) : l.drop i = l[i] :: l.drop (i + 1) := List.drop_eq_getElem_cons h

/-- Where a byte stands first. -/
def ix (c : UInt8) : List UInt8 → Nat
  | [] => 0
  | b :: l => if b = c then 0 else ix c l + 1
theorem ix_le (c : UInt8) : ∀ l, ix c l ≤ l.length
  | [] => Nat.le_refl _
  | b :: l => by have := ix_le c l; unfold ix; split <;> simp; omega
theorem ix_at (c : UInt8) : ∀ (l : List UInt8) (h : ix c l < l.length), l[ix c l] = c
  | [], h => by simp [ix] at h
  | b :: l, h => by
    unfold ix at h ⊢
    split
    · rename_i e; simp [e]
    · rename_i e
      simp only [if_neg e, List.length_cons] at h
      simp only [List.getElem_cons_succ]
      exact ix_at c l (by omega)
theorem ix_before (c : UInt8) : ∀ (l : List UInt8) (i : Nat) (_ : i < ix c l) (h2 : i < l.length), l[i] ≠ c
  | [], i, h, _ => by simp [ix] at h
  | b :: l, 0, h, _ => by
    unfold ix at h
    split at h
    · omega
    · rename_i e; simpa using e
  | b :: l, i + 1, h, h2 => by
    unfold ix at h
    split at h
    · omega
    · simp only [List.getElem_cons_succ]
      exact ix_before c l i (by omega) (by simpa using h2)
theorem indexByte_ix (c : UInt8) : ∀ l, Lib.indexByte l c = if ix c l < l.length then (ix c l : Int) else -1
  | [] => by simp [Lib.indexByte, ix]
  | b :: l => by
    have ih := indexByte_ix c l
    unfold Lib.indexByte ix
    by_cases e : b = c
    · subst e; simp
    · have e' : (b == c) = false := by simpa using e
      rw [e', ih, if_neg e, List.length_cons]
      by_cases h : ix c l < l.length
      · have h2 : ix c l + 1 < l.length + 1 := by omega
        have h3 : ((ix c l : Int) == -1) = false := by simp
        rw [if_pos h, if_pos h2, h3]
        simp
      · have h2 : ¬ ix c l + 1 < l.length + 1 := by omega
        rw [if_neg h, if_neg h2]
        rfl

/-- The parts between marks. -/
def spl (m : UInt8) : List UInt8 → List (List UInt8)
  | [] => [[]]
  | c :: l => if c = m then [] :: spl m l else match spl m l with
    | [] => [[c]]
    | p :: ps => (c :: p) :: ps
theorem spl_cons (m : UInt8) : ∀ l, ∃ p ps, spl m l = p :: ps
  | [] => ⟨_, _, rfl⟩
  | c :: l => by
    obtain ⟨p, ps, h⟩ := spl_cons m l
    unfold spl
    rw [h]
    split
    · exact ⟨_, _, rfl⟩
    · exact ⟨_, _, rfl⟩
theorem spl_mark {m : UInt8} (l : List UInt8) : spl m (m :: l) = [] :: spl m l := by
  conv => lhs; unfold spl
  rw [if_pos rfl]
theorem spl_other {m c : UInt8} {l p : List UInt8} {ps : List (List UInt8)} (h : c ≠ m) (e : spl m l = p :: ps) : spl m (c :: l) = (c :: p) :: ps := by
  conv => lhs; unfold spl
  rw [if_neg h, e]
theorem spl_no {m : UInt8} : ∀ {l : List UInt8}, ¬ ix m l < l.length → spl m l = [l]
  | [], _ => rfl
  | c :: l, h => by
    unfold ix at h
    split at h
    · simp at h
    · rename_i e
      exact spl_other e (spl_no (m := m) (l := l) (by simp only [List.length_cons] at h; omega))
theorem spl_at {m : UInt8} : ∀ {l : List UInt8}, ix m l < l.length → spl m l = l.take (ix m l) :: spl m (l.drop (ix m l + 1))
  | [], h => by simp [ix] at h
  | c :: l, h => by
    by_cases e : c = m
    · subst e
      rw [spl_mark]
      simp [ix]
    · have hi : ix m (c :: l) = ix m l + 1 := by rw [ix, if_neg e]
      rw [hi] at h ⊢
      have ih := spl_at (m := m) (l := l) (by simp only [List.length_cons] at h; omega)
      rw [spl_other e ih]
      rfl
theorem spl_length (m : UInt8) : ∀ l, (spl m l).length ≤ l.length + 1
  | [] => by simp [spl]
  | c :: l => by
    have ih := spl_length m l
    by_cases e : c = m
    · subst e; rw [spl_mark]; simp; omega
    · obtain ⟨p, ps, h⟩ := spl_cons m l
      rw [spl_other e h]
      rw [h] at ih
      simp only [List.length_cons] at ih ⊢; omega
theorem spl_part {m : UInt8} : ∀ {l p : List UInt8}, p ∈ spl m l → p.length ≤ l.length
  | [], p, h => by simp [spl] at h; subst h; simp
  | c :: l, q, h => by
    by_cases e : c = m
    · subst e
      rw [spl_mark] at h
      rcases List.mem_cons.1 h with rfl | h
      · simp
      · have := spl_part h; simp only [List.length_cons]; omega
    · obtain ⟨p, ps, hp⟩ := spl_cons m l
      rw [spl_other e hp] at h
      rcases List.mem_cons.1 h with rfl | h
      · have : p ∈ spl m l := by rw [hp]; simp
        have := spl_part this; simp only [List.length_cons]; omega
      · have : q ∈ spl m l := by rw [hp]; simp [h]
        have := spl_part this; simp only [List.length_cons]; omega

theorem wrap_small {n : Int} (h0 : -1000000000 ≤ n) (h1 : n ≤ 1000000000) : IntKind.i64.wrap n = n := wrap_in (by omega) (by omega)
theorem ofL_app (a b : List UInt8) : ofL a ++ ofL b = ofL (a ++ b) := by
  apply ByteArray.ext
  simp [ofL]

end
end Go.Fw
