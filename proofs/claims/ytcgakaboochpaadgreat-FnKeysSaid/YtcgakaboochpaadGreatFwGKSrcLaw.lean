/- What is drawn out of bytes: numbers in their ranges, nothing fails. -/
import Derived.Test.YtcgakaboochpaadGreatFwGK
import Derived.Test.YtcgakaboochpaadGreatFwLW
namespace Go.Fw
open Go

/-- Bytes. -/
def Byt (c : List Int) : Prop := ∀ x ∈ c, 0 ≤ x ∧ x < 256
/-- A draw: it yields what is so, and moves on by at most c bytes. -/
def Dr {α : Type} (at_ c : Int) (f : Option (α × Int × Int)) (P : α → Prop) : Prop :=
 0 ≤ at_ → at_ + c ≤ 4611686018427387904 → ∃ r at' sd', f = some (r, at', sd') ∧ P r ∧ 0 ≤ at' ∧ at' ≤ at_ + c
theorem Dr.of {α : Type} {at_ c at' sd : Int} {r : α} {P : α → Prop} (hp : P r) (h : 0 ≤ c) (e : at' = at_) : Dr at_ c (some (r, at', sd)) P := fun h0 _ => ⟨r, at', sd, rfl, hp, by omega, by omega⟩
theorem Dr.bind {α β : Type} {at_ c1 c2 : Int} {f : Option (α × Int × Int)} {g : α × Int × Int → Option (β × Int × Int)} {P : α → Prop} {Q : β → Prop} (h : Dr at_ c1 f P) (h2 : 0 ≤ c2)
  (hg : ∀ r at' sd', P r → Dr at' c2 (g (r, at', sd')) Q) : Dr at_ (c1 + c2) (f.bind g) Q := by
 intro h0 hM
 obtain ⟨r, a1, s1, hf, hp, h3, h4⟩ := h h0 (by omega)
 obtain ⟨r2, a2, s2, hf2, hp2, h5, h6⟩ := hg r a1 s1 hp h3 (by omega)
 exact ⟨r2, a2, s2, by rw [hf]; exact hf2, hp2, h5, by omega⟩
theorem Dr.weak {α : Type} {at_ c c' : Int} {f : Option (α × Int × Int)} {P Q : α → Prop} (h : Dr at_ c f P) (hc : c ≤ c') (hp : ∀ r, P r → Q r) : Dr at_ c' f Q := by
 intro h0 hM
 obtain ⟨r, a1, s1, hf, hp', h3, h4⟩ := h h0 (by omega)
 exact ⟨r, a1, s1, hf, hp r hp', h3, by omega⟩
theorem Dr.ite {α : Type} {at_ c : Int} {f g : Option (α × Int × Int)} {b : Bool} {P : α → Prop} (h1 : b = true → Dr at_ c f P) (h2 : b = false → Dr at_ c g P) : Dr at_ c (ite2 b f g) P := by
 cases b
 ·exact h2 rfl
 ·exact h1 rfl
theorem Dr.chk {α : Type} {at_ c : Int} {f : Option (α × Int × Int)} {p : Prop} [Decidable p] {P : α → Prop} (hp : p) (h : Dr at_ c f P) : Dr at_ c (chk p f) P := by rw [zqq hp]; exact h

theorem u64_wrap (n : Int) : IntKind.u64.wrap n = n % 18446744073709551616 := by simp [IntKind.wrap, IntKind.bits, IntKind.signed]
theorem and255 {x : Int} (h0 : 0 ≤ x) (h1 : x < 4611686018427387904) : bits .and .u64 x 255 = x % 256 := by
 have := bits_mask .u64 62 (by decide) (fun n h0 h1 => by rw [u64_wrap]; omega) 8 (by decide) x h0 (by omega)
 have e : ((2 : Int) ^ 8 - 1) = 255 := by decide
 have e2 : ((2 : Int) ^ 8) = 256 := by decide
 rw [e, e2] at this
 exact this
theorem seed_in (n : Int) : 0 ≤ IntKind.i64.wrap (bits .and .u64 ((IntKind.u64.wrap n).fdiv (2 ^ (min (40 : Int).toNat (IntKind.bits .u64)))) (255 : Int)) ∧ IntKind.i64.wrap (bits .and .u64 ((IntKind.u64.wrap n).fdiv (2 ^ (min (40 : Int).toNat (IntKind.bits .u64)))) (255 : Int)) < 256 := by
 have e : ((2 : Int) ^ (min (40 : Int).toNat (IntKind.bits .u64))) = 1099511627776 := by decide
 rw [e, u64_wrap, Int.fdiv_eq_ediv_of_nonneg _ (by decide)]
 rw [and255 (by omega) (by omega), zxj (by omega) (by omega)]
 omega

theorem next_dr {K : Nat} {c : List Int} (hc : Byt c) (at_ sd : Int) : Dr at_ 1 (zjf K (l00Src.mk c at_ sd)) (fun r => 0 ≤ r ∧ r < 256) := by
 intro h0 hM
 have w : IntKind.i64.wrap (at_ + 1) = at_ + 1 := zxj (by omega) (by omega)
 unfold zjf
 simp only [w]
 rw [zqv]
 by_cases hlt : at_ < (c.length : Int)
 ·have hb := hc _ (zji (xs := c) (i := at_.toNat) (by omega))
  rw [if_pos hlt, zqq ⟨h0, hlt⟩, zqv]
  split
  ·exact ⟨_, _, _, rfl, by rw [zxj (by omega) (by omega)]; omega, by omega, by omega⟩
  ·rw [zqq (by decide)]
   exact ⟨_, _, _, rfl, seed_in _, by omega, by omega⟩
 ·rw [if_neg hlt, zqv]
  split
  ·exact ⟨_, _, _, rfl, by omega, by omega, by omega⟩
  ·rw [zqq (by decide)]
   exact ⟨_, _, _, rfl, seed_in _, by omega, by omega⟩
theorem zda {x n : Int} (h0 : 0 ≤ x) (hn : 1 < n) : 0 ≤ x.tmod n ∧ x.tmod n < n := by
 rw [Int.tmod_eq_emod_of_nonneg h0]
 exact ⟨Int.emod_nonneg _ (by omega), Int.emod_lt_of_pos _ (by omega)⟩
theorem zkg {K : Nat} {c : List Int} (hc : Byt c) (at_ sd n : Int) : Dr at_ 2 (zq7 K (l00Src.mk c at_ sd) n) (fun r => 0 ≤ r ∧ (r < n ∨ n ≤ 1 ∧ r = 0)) := by
 unfold zq7
 refine .ite (fun h => .of ⟨by omega, .inr ⟨of_decide_eq_true h, rfl⟩⟩ (by omega) rfl) (fun h => ?_)
 have hn : 1 < n := by have := of_decide_eq_false h; omega
 refine Dr.bind (c1 := 1) (c2 := 1) (next_dr hc at_ sd) (by decide) fun r a1 s1 hr => ?_
 refine .ite (fun h2 => ?_) (fun _ => .chk (by omega) (.of ⟨(zda hr.1 hn).1, .inl (zda hr.1 hn).2⟩ (by omega) rfl))
 refine Dr.weak (c := 1 + 0) (P := fun r => 0 ≤ r ∧ (r < n ∨ n ≤ 1 ∧ r = 0)) (Dr.bind (next_dr hc a1 s1) (by decide) fun r2 a2 s2 hr2 => ?_) (by decide) (fun _ h => h)
 have e : IntKind.i64.wrap (IntKind.i64.wrap (r * 256) + r2) = r * 256 + r2 := by
  rw [zxj (n := r * 256) (by omega) (by omega), zxj (by omega) (by omega)]
 show Dr a2 0 (Go.Fw.chk (n ≠ 0) (some (((IntKind.i64.wrap ((IntKind.i64.wrap (r * (256 : Int))) + r2)).tmod n), a2, s2))) _
 rw [e]
 exact .chk (by omega) (.of ⟨(zda (by omega) hn).1, .inl (zda (by omega) hn).2⟩ (by omega) rfl)
theorem zga {K : Nat} {c : List Int} (hc : Byt c) (at_ sd n : Int) : Dr at_ 2 (zxc K (l00Src.mk c at_ sd) n) (fun _ => True) := by
 unfold zxc
 exact Dr.bind (c2 := 0) (zkg hc at_ sd n) (by decide) fun r a1 s1 _ => .of trivial (by omega) rfl
theorem among_dr {K : Nat} {c : List Int} (hc : Byt c) (at_ sd : Int) (l : List Int) (hl : l ≠ []) : Dr at_ 2 (zx5 K (l00Src.mk c at_ sd) l) (fun _ => True) := by
 unfold zx5
 have h1 : 1 ≤ l.length := List.length_pos_iff.2 hl
 refine Dr.bind (c2 := 0) (zkg hc at_ sd (l.length : Int)) (by decide) fun r a1 s1 hr => .chk (show 0 ≤ r ∧ r < (l.length : Int) by omega) (.of trivial (by omega) rfl)
theorem zbg {K : Nat} {c : List Int} (hc : Byt c) (at_ sd : Int) : Dr at_ 2 (zwp K (l00Src.mk c at_ sd)) (fun _ => True) := by
 unfold zwp
 exact Dr.bind (c2 := 0) (zkg hc at_ sd 33) (by decide) fun r a1 s1 _ => .of trivial (by omega) rfl
theorem plain_dr {K : Nat} {c : List Int} (hc : Byt c) (at_ sd : Int) : Dr at_ 4 (zx4 K (l00Src.mk c at_ sd)) (fun _ => True) := by
 unfold zx4
 refine Dr.bind (c1 := 2) (c2 := 2) (zkg hc at_ sd 129) (by decide) fun r a1 s1 _ => Dr.bind (c2 := 0) (zga hc a1 s1 4) (by decide) fun r2 a2 s2 _ => ?_
 exact .ite (fun _ => .of trivial (by omega) rfl) (fun _ => .of trivial (by omega) rfl)
theorem zyz (K : Nat) (x : Int) : ∃ f, zjy K x = some f := by
 unfold zjy zvt
 have h : 0 ≤ IntKind.u32.wrap x ∧ IntKind.u32.wrap x < 4294967296 := by
  have : IntKind.u32.wrap x = x % 4294967296 := by simp [IntKind.wrap, IntKind.bits, IntKind.signed]
  omega
 unfold Fl.ofBits
 rw [dif_pos ⟨h.1, by have e : 2 ^ FloatKind.f32.format.width = 4294967296 := by decide
                      rw [e]; omega⟩]
 exact ⟨_, rfl⟩
theorem float_dr {K : Nat} {c : List Int} (hc : Byt c) (at_ sd : Int) : Dr at_ 10 (zjx K (l00Src.mk c at_ sd)) (fun _ => True) := by
 unfold zjx
 refine Dr.bind (c1 := 2) (c2 := 8) (zga hc at_ sd 12) (by decide) fun r a1 s1 _ => ?_
 refine .ite (fun _ => ?_) (fun _ => ?_)
 ·exact Dr.weak (Dr.bind (c2 := 0) (plain_dr hc a1 s1) (by decide) fun r2 a2 s2 _ => .of (P := fun _ => True) trivial (by omega) rfl) (by decide) (fun _ h => h)
 ·refine Dr.bind (c1 := 2) (c2 := 6) (zkg hc a1 s1 4) (by decide) fun r2 a2 s2 _ => ?_
  refine .ite (fun _ => ?_) (fun _ => .ite (fun _ => ?_) (fun _ => .ite (fun _ => ?_) (fun _ => ?_)))
  ·refine Dr.weak (c := 2 + 0) (P := fun _ => True) (Dr.bind (among_dr hc a2 s2 _ (by simp)) (by decide) fun r3 a3 s3 _ => ?_) (by decide) (fun _ h => h)
   obtain ⟨f, hf⟩ := zyz K r3
   simp only [hf, zqf]
   exact .of trivial (by omega) rfl
  ·refine Dr.weak (c := 2 + (2 + 0)) (P := fun _ => True) (Dr.bind (zkg hc a2 s2 _) (by decide) fun r3 a3 s3 _ => Dr.bind (zkg hc a3 s3 _) (by decide) fun r4 a4 s4 _ => ?_) (by decide) (fun _ h => h)
   obtain ⟨f, hf⟩ := zyz K (IntKind.i64.wrap (IntKind.i64.wrap (r3 * 65536) + r4))
   simp only [hf, zqf]
   exact .of trivial (by omega) rfl
  ·refine Dr.weak (c := 2 + 0) (P := fun _ => True) (Dr.bind (zkg hc a2 s2 _) (by decide) fun r3 a3 s3 _ => ?_) (by decide) (fun _ h => h)
   obtain ⟨f, hf⟩ := zyz K (IntKind.i64.wrap (r3 * 65536))
   simp only [hf, zqf]
   exact .of trivial (by omega) rfl
  ·refine Dr.bind (c1 := 4) (c2 := 2) (plain_dr hc a2 s2) (by decide) fun r3 a3 s3 _ => Dr.bind (c2 := 0) (among_dr hc a3 s3 _ (by simp)) (by decide) fun r4 a4 s4 _ => ?_
   obtain ⟨f, hf⟩ := zyz K r4
   simp only [hf, zqf]
   exact .of trivial (by omega) rfl
theorem vector_dr {K : Nat} {c : List Int} (hc : Byt c) (at_ sd : Int) : Dr at_ 18 (zjk K (l00Src.mk c at_ sd)) (fun _ => True) := by
 unfold zjk
 refine Dr.bind (c1 := 2) (c2 := 16) (zga hc at_ sd 10) (by decide) fun r a1 s1 _ => Dr.bind (c1 := 2) (c2 := 14) (zbg hc a1 s1) (by decide) fun r2 a2 s2 _ => Dr.bind (c1 := 2) (c2 := 12) (zbg hc a2 s2) (by decide) fun r3 a3 s3 _ => Dr.bind (c1 := 2) (c2 := 10) (zbg hc a3 s3) (by decide) fun r4 a4 s4 _ => ?_
 exact .ite (fun _ => Dr.bind (c2 := 0) (float_dr hc a4 s4) (by decide) fun r5 a5 s5 _ => .of trivial (by omega) rfl) (fun _ => .of trivial (by decide) rfl)

end Go.Fw
