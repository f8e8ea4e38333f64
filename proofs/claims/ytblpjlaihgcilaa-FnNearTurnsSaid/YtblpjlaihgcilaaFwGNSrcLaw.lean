/- What is drawn out of bytes: numbers in their ranges, nothing fails. -/
import Derived.Test.YtblpjlaihgcilaaFwGN
import Derived.Test.YtblpjlaihgcilaaFwLW
namespace Go.Fw
open Go


/-- Bytes. -/
def Byt (c : List Int) : Prop := ∀ x ∈ c, 0 ≤ x ∧ x < 256
/-- A draw: it yields what is so, and moves on by at most c bytes. -/
def Dr {α : Type} (at_ c : Int) (f : Option (α × Int × Int)) (P : α → Prop) : Prop :=
  0 ≤ at_ → at_ + c ≤ 4611686018427387904 → ∃ r at' sd', f = some (r, at', sd') ∧ P r ∧ 0 ≤ at' ∧ at' ≤ at_ + c
theorem Dr.of {α : Type} {at_ c at' sd : Int} {r : α} {P : α → Prop} (hp : P r) (h : 0 ≤ c) (e : at' = at_) : Dr at_ c (some (r, at', sd)) P := fun h0 _ => ⟨r, at', sd, rfl, hp, by omega, by omega⟩
theorem Dr.bind {α β : Type} {at_ c1 c2 : Int} {f : Option (α × Int × Int)} {g : α × Int × Int → Option (β × Int × Int)} {P : α → Prop} {Q : β → Prop} (h : Dr at_ c1 f P) (h2 : 0 ≤ c2)
    (hg : ∀ r at' sd', P r → Dr at' c2 (g (r, at', sd')) Q) : Dr at_ (c1 + c2) (f.bind g) Q := by
  intro h0 hM
  obtain ⟨r, a1, s1, hf, hp, h3, h4⟩ := h h0 (by omega)
  obtain ⟨r2, a2, s2, hf2, hp2, h5, h6⟩ := hg r a1 s1 hp h3 (by omega)
  exact ⟨r2, a2, s2, by rw [hf]; exact hf2, hp2, h5, by omega⟩
theorem Dr.weak {α : Type} {at_ c c' : Int} {f : Option (α × Int × Int)} {P Q : α → Prop} (h : Dr at_ c f P) (hc : c ≤ c') (hp : ∀ r, P r → Q r) : Dr at_ c' f Q := by
  intro h0 hM
  obtain ⟨r, a1, s1, hf, hp', h3, h4⟩ := h h0 (by omega)
  exact ⟨r, a1, s1, hf, hp r hp', h3, by omega⟩
theorem Dr.ite {α : Type} {at_ c : Int} {f g : Option (α × Int × Int)} {b : Bool} {P : α → Prop} (h1 : b = true → Dr at_ c f P) (h2 : b = false → Dr at_ c g P) : Dr at_ c (ite2 b f g) P := by
  cases b
  · exact h2 rfl
  · exact h1 rfl
theorem Dr.chk {α : Type} {at_ c : Int} {f : Option (α × Int × Int)} {p : Prop} [Decidable p] {P : α → Prop} (hp : p) (h : Dr at_ c f P) : Dr at_ c (chk p f) P := by rw [chk_pos hp]; exact h
theorem u64_wrap (n : Int) : IntKind.u64.wrap n = n % 18446744073709551616 := by simp [IntKind.wrap, IntKind.bits, IntKind.signed]
theorem and255 {x : Int} (h0 : 0 ≤ x) (h1 : x < 4611686018427387904) : bits .and .u64 x 255 = x % 256 := by
  have := bits_mask .u64 62 (by decide) (fun n h0 h1 => by rw [u64_wrap]; omega) 8 (by decide) x h0 (by omega)
  have e : ((2 : Int) ^ 8 - 1) = 255 := by decide
  have e2 : ((2 : Int) ^ 8) = 256 := by decide
  rw [e, e2] at this
  exact this
theorem seed_in (n : Int) : 0 ≤ IntKind.i64.wrap (bits .and .u64 ((IntKind.u64.wrap n).fdiv (2 ^ (min (40 : Int).toNat (IntKind.bits .u64)))) (255 : Int)) ∧ IntKind.i64.wrap (bits .and .u64 ((IntKind.u64.wrap n).fdiv (2 ^ (min (40 : Int).toNat (IntKind.bits .u64)))) (255 : Int)) < 256 := by
  have e : ((2 : Int) ^ (min (40 : Int).toNat (IntKind.bits .u64))) = 1099511627776 := by decide
  rw [e, u64_wrap, Int.fdiv_eq_ediv_of_nonneg _ (by decide)]
  rw [and255 (by omega) (by omega), wrap_in (by omega) (by omega)]
  omega
theorem next_dr {K : Nat} {c : List Int} (hc : Byt c) (at_ sd : Int) : Dr at_ 1 (spec_l00Src_next K (l00Src.mk c at_ sd)) (fun r => 0 ≤ r ∧ r < 256) := by
  intro h0 hM
  have w : IntKind.i64.wrap (at_ + 1) = at_ + 1 := wrap_in (by omega) (by omega)
  unfold spec_l00Src_next
  simp only [w]
  rw [ite2_dec]
  by_cases hlt : at_ < (c.length : Int)
  · have hb := hc _ (getD_mem (xs := c) (i := at_.toNat) (by omega))
    rw [if_pos hlt, chk_pos ⟨h0, hlt⟩, ite2_dec]
    split
    · exact ⟨_, _, _, rfl, by rw [wrap_in (by omega) (by omega)]; omega, by omega, by omega⟩
    · rw [chk_pos (by decide)]
      exact ⟨_, _, _, rfl, seed_in _, by omega, by omega⟩
  · rw [if_neg hlt, ite2_dec]
    split
    · exact ⟨_, _, _, rfl, by omega, by omega, by omega⟩
    · rw [chk_pos (by decide)]
      exact ⟨_, _, _, rfl, seed_in _, by omega, by omega⟩
theorem tmod_in {x n : Int} (h0 : 0 ≤ x) (hn : 1 < n) : 0 ≤ x.tmod n ∧ x.tmod n < n := by
  rw [Int.tmod_eq_emod_of_nonneg h0]
  exact ⟨Int.emod_nonneg _ (by omega), Int.emod_lt_of_pos _ (by omega)⟩
theorem pick_dr {K : Nat} {c : List Int} (hc : Byt c) (at_ sd n : Int) : Dr at_ 2 (spec_l00Src_pick K (l00Src.mk c at_ sd) n) (fun r => 0 ≤ r ∧ (r < n ∨ n ≤ 1 ∧ r = 0)) := by
  unfold spec_l00Src_pick
  refine .ite (fun h => .of ⟨by omega, .inr ⟨of_decide_eq_true h, rfl⟩⟩ (by omega) rfl) (fun h => ?_)
  have hn : 1 < n := by have := of_decide_eq_false h; omega
  refine Dr.bind (c1 := 1) (c2 := 1) (next_dr hc at_ sd) (by decide) fun r a1 s1 hr => ?_
  refine .ite (fun h2 => ?_) (fun _ => .chk (by omega) (.of ⟨(tmod_in hr.1 hn).1, .inl (tmod_in hr.1 hn).2⟩ (by omega) rfl))
  refine Dr.weak (c := 1 + 0) (P := fun r => 0 ≤ r ∧ (r < n ∨ n ≤ 1 ∧ r = 0)) (Dr.bind (next_dr hc a1 s1) (by decide) fun r2 a2 s2 hr2 => ?_) (by decide) (fun _ h => h)
  have e : IntKind.i64.wrap (IntKind.i64.wrap (r * 256) + r2) = r * 256 + r2 := by
    rw [wrap_in (n := r * 256) (by omega) (by omega), wrap_in (by omega) (by omega)]
  show Dr a2 0 (Go.Fw.chk (n ≠ 0) (some (((IntKind.i64.wrap ((IntKind.i64.wrap (r * (256 : Int))) + r2)).tmod n), a2, s2))) _
  rw [e]
  exact .chk (by omega) (.of ⟨(tmod_in (by omega) hn).1, .inl (tmod_in (by omega) hn).2⟩ (by omega) rfl)
theorem one_dr {K : Nat} {c : List Int} (hc : Byt c) (at_ sd n : Int) : Dr at_ 2 (spec_l00Src_one K (l00Src.mk c at_ sd) n) (fun _ => True) := by
  unfold spec_l00Src_one
  exact Dr.bind (c2 := 0) (pick_dr hc at_ sd n) (by decide) fun r a1 s1 _ => .of trivial (by omega) rfl
theorem small_dr {K : Nat} {c : List Int} (hc : Byt c) (at_ sd : Int) : Dr at_ 2 (spec_l01DrawSmall K (l00Src.mk c at_ sd)) (fun _ => True) := by
  unfold spec_l01DrawSmall
  exact Dr.bind (c2 := 0) (pick_dr hc at_ sd 33) (by decide) fun r a1 s1 _ => .of trivial (by omega) rfl

end Go.Fw
