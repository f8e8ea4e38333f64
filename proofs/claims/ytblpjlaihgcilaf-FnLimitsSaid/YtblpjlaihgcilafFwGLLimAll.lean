/- What is drawn out of bytes: numbers in their ranges, nothing fails. -/
import Derived.Test.YtblpjlaihgcilafFwGL
import Derived.Test.YtblpjlaihgcilafFwLW
import Derived.Test.YtblpjlaihgcilafFwFA
import Derived.Test.YtblpjlaihgcilafFwFU
import Derived.Test.YtblpjlaihgcilafFwFX
import Derived.KernelRfl
namespace Go.Fw
open Go


def Byt (c : List Int) : Prop := ∀ x ∈ c, 0 ≤ x ∧ x < 256
def Dr {α : Type} (at_ c : Int) (f : Option (α × Int × Int)) (P : α → Prop) : Prop :=
 0 ≤ at_ → at_ + c ≤ 4611686018427387904 → ∃ r at' sd', f = some (r, at', sd') ∧ P r ∧ 0 ≤ at' ∧ at' ≤ at_ + c
theorem Dr.of {α : Type} {at_ c at' sd : Int} {r : α} {P : α → Prop} (hp : P r) (h : 0 ≤ c) (e : at' = at_) : Dr at_ c (some (r, at', sd)) P := fun h0 _ => ⟨r, at', sd, rfl, hp, by omega, by omega⟩
theorem Dr.bind {α β : Type} {at_ c1 c2 : Int} {f : Option (α × Int × Int)} {g : α × Int × Int → Option (β × Int × Int)} {P : α → Prop} {Q : β → Prop} (h : Dr at_ c1 f P) (h2 : 0 ≤ c2)
  (hg : ∀ r at' sd', P r → Dr at' c2 (g (r, at', sd')) Q) : Dr at_ (c1 + c2) (f.bind g) Q := by
 intro h0 hM
 obtain ⟨r, a1, s1, hf, hp, h3, h4⟩ := h h0 (by omega)
 obtain ⟨r2, a2, s2, hf2, hp2, h5, h6⟩ := hg r a1 s1 hp h3 (by omega)
 exact ⟨r2, a2, s2, by rw [hf]; exact hf2, hp2, h5, by omega⟩
theorem Dr.weak {α : Type} {at_ c c' : Int} {f : Option (α × Int × Int)} {P Q : α → Prop} (h : Dr at_ c f P) (hc : c ≤ c') (hp : ∀ r, P r → Q r) : Dr at_ c' f Q := by
 intro h0 hM
 obtain ⟨r, a1, s1, hf, hp', h3, h4⟩ := h h0 (by omega)
 exact ⟨r, a1, s1, hf, hp r hp', h3, by omega⟩
theorem Dr.ite {α : Type} {at_ c : Int} {f g : Option (α × Int × Int)} {b : Bool} {P : α → Prop} (h1 : b = true → Dr at_ c f P) (h2 : b = false → Dr at_ c g P) : Dr at_ c (ite2 b f g) P := by
 cases b
 ·exact h2 rfl
 ·exact h1 rfl
theorem Dr.chk {α : Type} {at_ c : Int} {f : Option (α × Int × Int)} {p : Prop} [Decidable p] {P : α → Prop} (hp : p) (h : Dr at_ c f P) : Dr at_ c (chk p f) P := by rw [chk_pos hp]; exact h
theorem u64_wrap (n : Int) : IntKind.u64.wrap n = n % 18446744073709551616 := by simp [IntKind.wrap, IntKind.bits, IntKind.signed]
theorem and255 {x : Int} (h0 : 0 ≤ x) (h1 : x < 4611686018427387904) : bits .and .u64 x 255 = x % 256 := by
 have := bits_mask .u64 62 (by decide) (fun n h0 h1 => by rw [u64_wrap]; omega) 8 (by decide) x h0 (by omega)
 have e : ((2 : Int) ^ 8 - 1) = 255 := by decide
 have e2 : ((2 : Int) ^ 8) = 256 := by decide
 rw [e, e2] at this
 exact this
theorem seed_in (n : Int) : 0 ≤ IntKind.i64.wrap (bits .and .u64 ((IntKind.u64.wrap n).fdiv (2 ^ (min (40 : Int).toNat (IntKind.bits .u64)))) (255 : Int)) ∧ IntKind.i64.wrap (bits .and .u64 ((IntKind.u64.wrap n).fdiv (2 ^ (min (40 : Int).toNat (IntKind.bits .u64)))) (255 : Int)) < 256 := by
 have e : ((2 : Int) ^ (min (40 : Int).toNat (IntKind.bits .u64))) = 1099511627776 := by decide
 rw [e, u64_wrap, Int.fdiv_eq_ediv_of_nonneg _ (by decide)]
 rw [and255 (by omega) (by omega), wrap_in (by omega) (by omega)]
 omega
theorem next_dr {K : Nat} {c : List Int} (hc : Byt c) (at_ sd : Int) : Dr at_ 1 (spec_l00Src_next K (l00Src.mk c at_ sd)) (fun r => 0 ≤ r ∧ r < 256) := by
 intro h0 hM
 have w : IntKind.i64.wrap (at_ + 1) = at_ + 1 := wrap_in (by omega) (by omega)
 unfold spec_l00Src_next
 simp only [w]
 rw [ite2_dec]
 by_cases hlt : at_ < (c.length : Int)
 ·have hb := hc _ (getD_mem (xs := c) (i := at_.toNat) (by omega))
  rw [if_pos hlt, chk_pos ⟨h0, hlt⟩, ite2_dec]
  split
  ·exact ⟨_, _, _, rfl, by rw [wrap_in (by omega) (by omega)]; omega, by omega, by omega⟩
  ·rw [chk_pos (by decide)]
   exact ⟨_, _, _, rfl, seed_in _, by omega, by omega⟩
 ·rw [if_neg hlt, ite2_dec]
  split
  ·exact ⟨_, _, _, rfl, by omega, by omega, by omega⟩
  ·rw [chk_pos (by decide)]
   exact ⟨_, _, _, rfl, seed_in _, by omega, by omega⟩
theorem tmod_in {x n : Int} (h0 : 0 ≤ x) (hn : 1 < n) : 0 ≤ x.tmod n ∧ x.tmod n < n := by
 rw [Int.tmod_eq_emod_of_nonneg h0]
 exact ⟨Int.emod_nonneg _ (by omega), Int.emod_lt_of_pos _ (by omega)⟩
theorem pick_dr {K : Nat} {c : List Int} (hc : Byt c) (at_ sd n : Int) : Dr at_ 2 (spec_l00Src_pick K (l00Src.mk c at_ sd) n) (fun r => 0 ≤ r ∧ (r < n ∨ n ≤ 1 ∧ r = 0)) := by
 unfold spec_l00Src_pick
 refine .ite (fun h => .of ⟨by omega, .inr ⟨of_decide_eq_true h, rfl⟩⟩ (by omega) rfl) (fun h => ?_)
 have hn : 1 < n := by have := of_decide_eq_false h; omega
 refine Dr.bind (c1 := 1) (c2 := 1) (next_dr hc at_ sd) (by decide) fun r a1 s1 hr => ?_
 refine .ite (fun h2 => ?_) (fun _ => .chk (by omega) (.of ⟨(tmod_in hr.1 hn).1, .inl (tmod_in hr.1 hn).2⟩ (by omega) rfl))
 refine Dr.weak (c := 1 + 0) (P := fun r => 0 ≤ r ∧ (r < n ∨ n ≤ 1 ∧ r = 0)) (Dr.bind (next_dr hc a1 s1) (by decide) fun r2 a2 s2 hr2 => ?_) (by decide) (fun _ h => h)
 have e : IntKind.i64.wrap (IntKind.i64.wrap (r * 256) + r2) = r * 256 + r2 := by
  rw [wrap_in (n := r * 256) (by omega) (by omega), wrap_in (by omega) (by omega)]
 show Dr a2 0 (Go.Fw.chk (n ≠ 0) (some (((IntKind.i64.wrap ((IntKind.i64.wrap (r * (256 : Int))) + r2)).tmod n), a2, s2))) _
 rw [e]
 exact .chk (by omega) (.of ⟨(tmod_in (by omega) hn).1, .inl (tmod_in (by omega) hn).2⟩ (by omega) rfl)
theorem one_dr {K : Nat} {c : List Int} (hc : Byt c) (at_ sd n : Int) : Dr at_ 2 (spec_l00Src_one K (l00Src.mk c at_ sd) n) (fun _ => True) := by
 unfold spec_l00Src_one
 exact Dr.bind (c2 := 0) (pick_dr hc at_ sd n) (by decide) fun r a1 s1 _ => .of trivial (by omega) rfl
theorem small_dr {K : Nat} {c : List Int} (hc : Byt c) (at_ sd : Int) : Dr at_ 2 (spec_l01DrawSmall K (l00Src.mk c at_ sd)) (fun _ => True) := by
 unfold spec_l01DrawSmall
 exact Dr.bind (c2 := 0) (pick_dr hc at_ sd 33) (by decide) fun r a1 s1 _ => .of trivial (by omega) rfl

end Go.Fw

namespace Go.Fw
open Go Go.Proofs
noncomputable section

theorem num_i4 (K : Nat) (a0 a1 v1 v3 x : F64) : ∀ (k : Nat) (y : F64) (i : Int), impl_wideAngle_l4 K a0 a1 v1 v3 x k y i = impl_wideAngle_l2 K a0 a1 v1 v3 x k y i := by
 intro k
 induction k with
 | zero => intro y i; rfl
 | succ k ih => intro y i; rw [impl_wideAngle_l4, impl_wideAngle_l2, ih]
theorem num_i3 (K : Nat) (a0 a1 v1 v3 : F64) : ∀ (k : Nat) (x : F64) (i : Int), impl_wideAngle_l3 K a0 a1 v1 v3 k x i = impl_wideAngle_l1 K a0 a1 v1 v3 k x i := by
 intro k
 induction k with
 | zero => intro x i; rfl
 | succ k ih =>
  intro x i
  rw [impl_wideAngle_l3, impl_wideAngle_l1, num_i4]
  simp only [ih]
theorem num_l2 (K : Nat) (a0 a1 v1 v3 x : F64) : ∀ (m j k : Nat), j + m = 8 → m < k → impl_wideAngle_l2 K a0 a1 v1 v3 x k (serN x j) (15 - 2 * (j : Int)) = impl_wideAngle_l2 K a0 a1 v1 v3 x 1 (serN x 8) (-1) := by
 intro m
 induction m with
 | zero =>
  intro j k hj hk
  obtain ⟨k, rfl⟩ : ∃ q, k = q + 1 := ⟨k - 1, by omega⟩
  have : j = 8 := by omega
  subst this
  rw [impl_wideAngle_l2, impl_wideAngle_l2, ite2_dec, ite2_dec, if_neg (by omega), if_neg (by omega)]
 | succ m ih =>
  intro j k hj hk
  obtain ⟨k, rfl⟩ : ∃ q, k = q + 1 := ⟨k - 1, by omega⟩
  rw [impl_wideAngle_l2, ite2_dec, if_pos (by omega)]
  have hw : IntKind.i64.wrap (15 - 2 * (j : Int) - 2) = 15 - 2 * ((j + 1 : Nat) : Int) := by rw [wrap_in (by omega) (by omega)]; omega
  rw [hw]
  exact ih (j + 1) k (by omega) (by omega)
theorem num_l1 (K : Nat) (hK : 16 < K) (a0 a1 v1 v3 x : F64) : impl_wideAngle_l1 K a0 a1 v1 v3 K x 0 = impl_wideAngle_l2 K a0 a1 v1 v3 (halfF (halfF (halfF x))) 1 (serN (halfF (halfF (halfF x))) 8) (-1) := by
 obtain ⟨k, rfl⟩ : ∃ q, K = q + 4 := ⟨K - 4, by omega⟩
 have w1 : IntKind.i64.wrap (0 + 1) = 1 := by decide
 have w2 : IntKind.i64.wrap (1 + 1) = 2 := by decide
 have w3 : IntKind.i64.wrap (2 + 1) = 3 := by decide
 rw [impl_wideAngle_l1, ite2_dec, if_pos (by omega), w1]
 unfold math_Sqrt math_sqrt
 rw [bind_of, bind_of, impl_wideAngle_l1, ite2_dec, if_pos (by omega), w2]
 unfold math_Sqrt math_sqrt
 rw [bind_of, bind_of, impl_wideAngle_l1, ite2_dec, if_pos (by omega), w3]
 unfold math_Sqrt math_sqrt
 rw [bind_of, bind_of, impl_wideAngle_l1, ite2_dec, if_neg (by omega)]
 exact num_l2 (k + 4) a0 a1 v1 v3 _ 8 0 (k + 4) (by omega) (by omega)
theorem wideAngle_eq {K : Nat} (hK : 16 < K) (y x : F64) : impl_wideAngle K y x = some (angF y x) := by
 unfold impl_wideAngle math_Abs
 rw [bind_of, bind_of, num_i3]
 unfold angF
 cases h : y.abs.gt x.abs <;> simp only [ite2_true, ite2_false, Bool.false_eq_true, if_false, if_true] <;> rw [num_l1 K hK, impl_wideAngle_l2, ite2_dec, if_neg (by omega), h] <;> simp only [ite2_true, ite2_false]
 ·cases h1 : x.lt' o0 <;> cases h2 : y.lt' o0 <;> (have h1' := h1; have h2' := h2; unfold o0 at h1' h2'; rw [h1', h2']) <;> rfl
 ·cases h1 : x.lt' o0 <;> cases h2 : y.lt' o0 <;> (have h1' := h1; have h2' := h2; unfold o0 at h1' h2'; rw [h1', h2']) <;> rfl

end
end Go.Fw

namespace Go.Fw
open Go

def HW (i : Nat) : Int := if i < 8 then (if i = 0 then 2 else if i = 4 then -2 else 0) else if (i - 8) % 2 = 1 then 1 else -1
def HX (i : Nat) : Int := if i < 8 then (if i = 1 then 2 else if i = 5 then -2 else 0) else if (i - 8) / 2 % 2 = 1 then 1 else -1
def HY (i : Nat) : Int := if i < 8 then (if i = 2 then 2 else if i = 6 then -2 else 0) else if (i - 8) / 4 % 2 = 1 then 1 else -1
def HZ (i : Nat) : Int := if i < 8 then (if i = 3 then 2 else if i = 7 then -2 else 0) else if (i - 8) / 8 % 2 = 1 then 1 else -1
def hf (n : Int) : F32 := if n = 2 then Fl.mk (k := .f32) 1065353216 (by decide) else if n = 1 then Fl.mk (k := .f32) 1056964608 (by decide) else if n = -1 then Fl.mk (k := .f32) 3204448256 (by decide) else if n = -2 then Fl.mk (k := .f32) 3212836864 (by decide) else Fl.mk (k := .f32) 0 (by decide)
def uT (i : Nat) : Turn := Turn.mk (hf (HW i)) (hf (HX i)) (hf (HY i)) (hf (HZ i))
def drawX (v1 : Int × Int × Int) : Option (Turn × Int × Int) := ite2 ((decide (v1.1 < (8 : Int)))) (ite2 ((decide (v1.1 ≥ (4 : Int)))) (chk ((4 : Int) ≠ 0) (ite2 (((v1.1.tmod (4 : Int)) == (0 : Int))) (some ((Turn.mk (Fl.mk (k := .f32) 3212836864 (by decide)) (default : F32) (default : F32) (default : F32)), v1.2.1, v1.2.2)) (ite2 (((v1.1.tmod (4 : Int)) == (1 : Int))) (some ((Turn.mk (default : F32) (Fl.mk (k := .f32) 3212836864 (by decide)) (default : F32) (default : F32)), v1.2.1, v1.2.2)) (ite2 (((v1.1.tmod (4 : Int)) == (2 : Int))) (some ((Turn.mk (default : F32) (default : F32) (Fl.mk (k := .f32) 3212836864 (by decide)) (default : F32)), v1.2.1, v1.2.2)) (some ((Turn.mk (default : F32) (default : F32) (default : F32) (Fl.mk (k := .f32) 3212836864 (by decide))), v1.2.1, v1.2.2)))))) (chk ((4 : Int) ≠ 0) (ite2 (((v1.1.tmod (4 : Int)) == (0 : Int))) (some ((Turn.mk (Fl.mk (k := .f32) 1065353216 (by decide)) (default : F32) (default : F32) (default : F32)), v1.2.1, v1.2.2)) (ite2 (((v1.1.tmod (4 : Int)) == (1 : Int))) (some ((Turn.mk (default : F32) (Fl.mk (k := .f32) 1065353216 (by decide)) (default : F32) (default : F32)), v1.2.1, v1.2.2)) (ite2 (((v1.1.tmod (4 : Int)) == (2 : Int))) (some ((Turn.mk (default : F32) (default : F32) (Fl.mk (k := .f32) 1065353216 (by decide)) (default : F32)), v1.2.1, v1.2.2)) (some ((Turn.mk (default : F32) (default : F32) (default : F32) (Fl.mk (k := .f32) 1065353216 (by decide))), v1.2.1, v1.2.2))))))) (chk (0 ≤ (1 : Int)) (chk (0 ≤ (2 : Int)) (chk (0 ≤ (3 : Int)) (some ((Turn.mk ((Fl.ofInt .f32 (bits .and .i64 (IntKind.i64.wrap (v1.1 - (8 : Int))) (1 : Int))).sub (Fl.mk (k := .f32) 1056964608 (by decide))) ((Fl.ofInt .f32 (bits .and .i64 ((IntKind.i64.wrap (v1.1 - (8 : Int))).fdiv (2 ^ (min (1 : Int).toNat (IntKind.bits .i64)))) (1 : Int))).sub (Fl.mk (k := .f32) 1056964608 (by decide))) ((Fl.ofInt .f32 (bits .and .i64 ((IntKind.i64.wrap (v1.1 - (8 : Int))).fdiv (2 ^ (min (2 : Int).toNat (IntKind.bits .i64)))) (1 : Int))).sub (Fl.mk (k := .f32) 1056964608 (by decide))) ((Fl.ofInt .f32 (bits .and .i64 ((IntKind.i64.wrap (v1.1 - (8 : Int))).fdiv (2 ^ (min (3 : Int).toNat (IntKind.bits .i64)))) (1 : Int))).sub (Fl.mk (k := .f32) 1056964608 (by decide)))), v1.2.1, v1.2.2)))))
theorem fl0 : (Fl.ofInt .f32 0).sub (Fl.mk (k := .f32) 1056964608 (by decide)) = hf (-1) := by decide +kernel
theorem fl1 : (Fl.ofInt .f32 1).sub (Fl.mk (k := .f32) 1056964608 (by decide)) = hf 1 := by decide +kernel
theorem dx0 (a s : Int) : drawX ((0 : Int), a, s) = some (uT 0, a, s) := by kernel_rfl
theorem dx1 (a s : Int) : drawX ((1 : Int), a, s) = some (uT 1, a, s) := by kernel_rfl
theorem dx2 (a s : Int) : drawX ((2 : Int), a, s) = some (uT 2, a, s) := by kernel_rfl
theorem dx3 (a s : Int) : drawX ((3 : Int), a, s) = some (uT 3, a, s) := by kernel_rfl
theorem dx4 (a s : Int) : drawX ((4 : Int), a, s) = some (uT 4, a, s) := by kernel_rfl
theorem dx5 (a s : Int) : drawX ((5 : Int), a, s) = some (uT 5, a, s) := by kernel_rfl
theorem dx6 (a s : Int) : drawX ((6 : Int), a, s) = some (uT 6, a, s) := by kernel_rfl
theorem dx7 (a s : Int) : drawX ((7 : Int), a, s) = some (uT 7, a, s) := by kernel_rfl
theorem dx8 (a s : Int) : drawX ((8 : Int), a, s) = some (uT 8, a, s) := by
 have e : drawX ((8 : Int), a, s) = some (Turn.mk ((Fl.ofInt .f32 0).sub (Fl.mk (k := .f32) 1056964608 (by decide))) ((Fl.ofInt .f32 0).sub (Fl.mk (k := .f32) 1056964608 (by decide))) ((Fl.ofInt .f32 0).sub (Fl.mk (k := .f32) 1056964608 (by decide))) ((Fl.ofInt .f32 0).sub (Fl.mk (k := .f32) 1056964608 (by decide))), a, s) := by kernel_rfl
 have e2 : some (Turn.mk (hf (-1)) (hf (-1)) (hf (-1)) (hf (-1)), a, s) = some (uT 8, a, s) := by kernel_rfl
 rw [e]
 simp only [fl0]
 exact e2
theorem dx9 (a s : Int) : drawX ((9 : Int), a, s) = some (uT 9, a, s) := by
 have e : drawX ((9 : Int), a, s) = some (Turn.mk ((Fl.ofInt .f32 1).sub (Fl.mk (k := .f32) 1056964608 (by decide))) ((Fl.ofInt .f32 0).sub (Fl.mk (k := .f32) 1056964608 (by decide))) ((Fl.ofInt .f32 0).sub (Fl.mk (k := .f32) 1056964608 (by decide))) ((Fl.ofInt .f32 0).sub (Fl.mk (k := .f32) 1056964608 (by decide))), a, s) := by kernel_rfl
 have e2 : some (Turn.mk (hf (1)) (hf (-1)) (hf (-1)) (hf (-1)), a, s) = some (uT 9, a, s) := by kernel_rfl
 rw [e]
 simp only [fl0, fl1]
 exact e2
theorem dx10 (a s : Int) : drawX ((10 : Int), a, s) = some (uT 10, a, s) := by
 have e : drawX ((10 : Int), a, s) = some (Turn.mk ((Fl.ofInt .f32 0).sub (Fl.mk (k := .f32) 1056964608 (by decide))) ((Fl.ofInt .f32 1).sub (Fl.mk (k := .f32) 1056964608 (by decide))) ((Fl.ofInt .f32 0).sub (Fl.mk (k := .f32) 1056964608 (by decide))) ((Fl.ofInt .f32 0).sub (Fl.mk (k := .f32) 1056964608 (by decide))), a, s) := by kernel_rfl
 have e2 : some (Turn.mk (hf (-1)) (hf (1)) (hf (-1)) (hf (-1)), a, s) = some (uT 10, a, s) := by kernel_rfl
 rw [e]
 simp only [fl0, fl1]
 exact e2
theorem dx11 (a s : Int) : drawX ((11 : Int), a, s) = some (uT 11, a, s) := by
 have e : drawX ((11 : Int), a, s) = some (Turn.mk ((Fl.ofInt .f32 1).sub (Fl.mk (k := .f32) 1056964608 (by decide))) ((Fl.ofInt .f32 1).sub (Fl.mk (k := .f32) 1056964608 (by decide))) ((Fl.ofInt .f32 0).sub (Fl.mk (k := .f32) 1056964608 (by decide))) ((Fl.ofInt .f32 0).sub (Fl.mk (k := .f32) 1056964608 (by decide))), a, s) := by kernel_rfl
 have e2 : some (Turn.mk (hf (1)) (hf (1)) (hf (-1)) (hf (-1)), a, s) = some (uT 11, a, s) := by kernel_rfl
 rw [e]
 simp only [fl0, fl1]
 exact e2
theorem dx12 (a s : Int) : drawX ((12 : Int), a, s) = some (uT 12, a, s) := by
 have e : drawX ((12 : Int), a, s) = some (Turn.mk ((Fl.ofInt .f32 0).sub (Fl.mk (k := .f32) 1056964608 (by decide))) ((Fl.ofInt .f32 0).sub (Fl.mk (k := .f32) 1056964608 (by decide))) ((Fl.ofInt .f32 1).sub (Fl.mk (k := .f32) 1056964608 (by decide))) ((Fl.ofInt .f32 0).sub (Fl.mk (k := .f32) 1056964608 (by decide))), a, s) := by kernel_rfl
 have e2 : some (Turn.mk (hf (-1)) (hf (-1)) (hf (1)) (hf (-1)), a, s) = some (uT 12, a, s) := by kernel_rfl
 rw [e]
 simp only [fl0, fl1]
 exact e2
theorem dx13 (a s : Int) : drawX ((13 : Int), a, s) = some (uT 13, a, s) := by
 have e : drawX ((13 : Int), a, s) = some (Turn.mk ((Fl.ofInt .f32 1).sub (Fl.mk (k := .f32) 1056964608 (by decide))) ((Fl.ofInt .f32 0).sub (Fl.mk (k := .f32) 1056964608 (by decide))) ((Fl.ofInt .f32 1).sub (Fl.mk (k := .f32) 1056964608 (by decide))) ((Fl.ofInt .f32 0).sub (Fl.mk (k := .f32) 1056964608 (by decide))), a, s) := by kernel_rfl
 have e2 : some (Turn.mk (hf (1)) (hf (-1)) (hf (1)) (hf (-1)), a, s) = some (uT 13, a, s) := by kernel_rfl
 rw [e]
 simp only [fl0, fl1]
 exact e2
theorem dx14 (a s : Int) : drawX ((14 : Int), a, s) = some (uT 14, a, s) := by
 have e : drawX ((14 : Int), a, s) = some (Turn.mk ((Fl.ofInt .f32 0).sub (Fl.mk (k := .f32) 1056964608 (by decide))) ((Fl.ofInt .f32 1).sub (Fl.mk (k := .f32) 1056964608 (by decide))) ((Fl.ofInt .f32 1).sub (Fl.mk (k := .f32) 1056964608 (by decide))) ((Fl.ofInt .f32 0).sub (Fl.mk (k := .f32) 1056964608 (by decide))), a, s) := by kernel_rfl
 have e2 : some (Turn.mk (hf (-1)) (hf (1)) (hf (1)) (hf (-1)), a, s) = some (uT 14, a, s) := by kernel_rfl
 rw [e]
 simp only [fl0, fl1]
 exact e2
theorem dx15 (a s : Int) : drawX ((15 : Int), a, s) = some (uT 15, a, s) := by
 have e : drawX ((15 : Int), a, s) = some (Turn.mk ((Fl.ofInt .f32 1).sub (Fl.mk (k := .f32) 1056964608 (by decide))) ((Fl.ofInt .f32 1).sub (Fl.mk (k := .f32) 1056964608 (by decide))) ((Fl.ofInt .f32 1).sub (Fl.mk (k := .f32) 1056964608 (by decide))) ((Fl.ofInt .f32 0).sub (Fl.mk (k := .f32) 1056964608 (by decide))), a, s) := by kernel_rfl
 have e2 : some (Turn.mk (hf (1)) (hf (1)) (hf (1)) (hf (-1)), a, s) = some (uT 15, a, s) := by kernel_rfl
 rw [e]
 simp only [fl0, fl1]
 exact e2
theorem dx16 (a s : Int) : drawX ((16 : Int), a, s) = some (uT 16, a, s) := by
 have e : drawX ((16 : Int), a, s) = some (Turn.mk ((Fl.ofInt .f32 0).sub (Fl.mk (k := .f32) 1056964608 (by decide))) ((Fl.ofInt .f32 0).sub (Fl.mk (k := .f32) 1056964608 (by decide))) ((Fl.ofInt .f32 0).sub (Fl.mk (k := .f32) 1056964608 (by decide))) ((Fl.ofInt .f32 1).sub (Fl.mk (k := .f32) 1056964608 (by decide))), a, s) := by kernel_rfl
 have e2 : some (Turn.mk (hf (-1)) (hf (-1)) (hf (-1)) (hf (1)), a, s) = some (uT 16, a, s) := by kernel_rfl
 rw [e]
 simp only [fl0, fl1]
 exact e2
theorem dx17 (a s : Int) : drawX ((17 : Int), a, s) = some (uT 17, a, s) := by
 have e : drawX ((17 : Int), a, s) = some (Turn.mk ((Fl.ofInt .f32 1).sub (Fl.mk (k := .f32) 1056964608 (by decide))) ((Fl.ofInt .f32 0).sub (Fl.mk (k := .f32) 1056964608 (by decide))) ((Fl.ofInt .f32 0).sub (Fl.mk (k := .f32) 1056964608 (by decide))) ((Fl.ofInt .f32 1).sub (Fl.mk (k := .f32) 1056964608 (by decide))), a, s) := by kernel_rfl
 have e2 : some (Turn.mk (hf (1)) (hf (-1)) (hf (-1)) (hf (1)), a, s) = some (uT 17, a, s) := by kernel_rfl
 rw [e]
 simp only [fl0, fl1]
 exact e2
theorem dx18 (a s : Int) : drawX ((18 : Int), a, s) = some (uT 18, a, s) := by
 have e : drawX ((18 : Int), a, s) = some (Turn.mk ((Fl.ofInt .f32 0).sub (Fl.mk (k := .f32) 1056964608 (by decide))) ((Fl.ofInt .f32 1).sub (Fl.mk (k := .f32) 1056964608 (by decide))) ((Fl.ofInt .f32 0).sub (Fl.mk (k := .f32) 1056964608 (by decide))) ((Fl.ofInt .f32 1).sub (Fl.mk (k := .f32) 1056964608 (by decide))), a, s) := by kernel_rfl
 have e2 : some (Turn.mk (hf (-1)) (hf (1)) (hf (-1)) (hf (1)), a, s) = some (uT 18, a, s) := by kernel_rfl
 rw [e]
 simp only [fl0, fl1]
 exact e2
theorem dx19 (a s : Int) : drawX ((19 : Int), a, s) = some (uT 19, a, s) := by
 have e : drawX ((19 : Int), a, s) = some (Turn.mk ((Fl.ofInt .f32 1).sub (Fl.mk (k := .f32) 1056964608 (by decide))) ((Fl.ofInt .f32 1).sub (Fl.mk (k := .f32) 1056964608 (by decide))) ((Fl.ofInt .f32 0).sub (Fl.mk (k := .f32) 1056964608 (by decide))) ((Fl.ofInt .f32 1).sub (Fl.mk (k := .f32) 1056964608 (by decide))), a, s) := by kernel_rfl
 have e2 : some (Turn.mk (hf (1)) (hf (1)) (hf (-1)) (hf (1)), a, s) = some (uT 19, a, s) := by kernel_rfl
 rw [e]
 simp only [fl0, fl1]
 exact e2
theorem dx20 (a s : Int) : drawX ((20 : Int), a, s) = some (uT 20, a, s) := by
 have e : drawX ((20 : Int), a, s) = some (Turn.mk ((Fl.ofInt .f32 0).sub (Fl.mk (k := .f32) 1056964608 (by decide))) ((Fl.ofInt .f32 0).sub (Fl.mk (k := .f32) 1056964608 (by decide))) ((Fl.ofInt .f32 1).sub (Fl.mk (k := .f32) 1056964608 (by decide))) ((Fl.ofInt .f32 1).sub (Fl.mk (k := .f32) 1056964608 (by decide))), a, s) := by kernel_rfl
 have e2 : some (Turn.mk (hf (-1)) (hf (-1)) (hf (1)) (hf (1)), a, s) = some (uT 20, a, s) := by kernel_rfl
 rw [e]
 simp only [fl0, fl1]
 exact e2
theorem dx21 (a s : Int) : drawX ((21 : Int), a, s) = some (uT 21, a, s) := by
 have e : drawX ((21 : Int), a, s) = some (Turn.mk ((Fl.ofInt .f32 1).sub (Fl.mk (k := .f32) 1056964608 (by decide))) ((Fl.ofInt .f32 0).sub (Fl.mk (k := .f32) 1056964608 (by decide))) ((Fl.ofInt .f32 1).sub (Fl.mk (k := .f32) 1056964608 (by decide))) ((Fl.ofInt .f32 1).sub (Fl.mk (k := .f32) 1056964608 (by decide))), a, s) := by kernel_rfl
 have e2 : some (Turn.mk (hf (1)) (hf (-1)) (hf (1)) (hf (1)), a, s) = some (uT 21, a, s) := by kernel_rfl
 rw [e]
 simp only [fl0, fl1]
 exact e2
theorem dx22 (a s : Int) : drawX ((22 : Int), a, s) = some (uT 22, a, s) := by
 have e : drawX ((22 : Int), a, s) = some (Turn.mk ((Fl.ofInt .f32 0).sub (Fl.mk (k := .f32) 1056964608 (by decide))) ((Fl.ofInt .f32 1).sub (Fl.mk (k := .f32) 1056964608 (by decide))) ((Fl.ofInt .f32 1).sub (Fl.mk (k := .f32) 1056964608 (by decide))) ((Fl.ofInt .f32 1).sub (Fl.mk (k := .f32) 1056964608 (by decide))), a, s) := by kernel_rfl
 have e2 : some (Turn.mk (hf (-1)) (hf (1)) (hf (1)) (hf (1)), a, s) = some (uT 22, a, s) := by kernel_rfl
 rw [e]
 simp only [fl0, fl1]
 exact e2
theorem dx23 (a s : Int) : drawX ((23 : Int), a, s) = some (uT 23, a, s) := by
 have e : drawX ((23 : Int), a, s) = some (Turn.mk ((Fl.ofInt .f32 1).sub (Fl.mk (k := .f32) 1056964608 (by decide))) ((Fl.ofInt .f32 1).sub (Fl.mk (k := .f32) 1056964608 (by decide))) ((Fl.ofInt .f32 1).sub (Fl.mk (k := .f32) 1056964608 (by decide))) ((Fl.ofInt .f32 1).sub (Fl.mk (k := .f32) 1056964608 (by decide))), a, s) := by kernel_rfl
 have e2 : some (Turn.mk (hf (1)) (hf (1)) (hf (1)) (hf (1)), a, s) = some (uT 23, a, s) := by kernel_rfl
 rw [e]
 simp only [fl1]
 exact e2
theorem drawX_all (q : Nat) (hq : q < 24) (a s : Int) : drawX ((q : Int), a, s) = some (uT q, a, s) := by
 match q, hq with
 | 0, _ => exact dx0 a s
 | 1, _ => exact dx1 a s
 | 2, _ => exact dx2 a s
 | 3, _ => exact dx3 a s
 | 4, _ => exact dx4 a s
 | 5, _ => exact dx5 a s
 | 6, _ => exact dx6 a s
 | 7, _ => exact dx7 a s
 | 8, _ => exact dx8 a s
 | 9, _ => exact dx9 a s
 | 10, _ => exact dx10 a s
 | 11, _ => exact dx11 a s
 | 12, _ => exact dx12 a s
 | 13, _ => exact dx13 a s
 | 14, _ => exact dx14 a s
 | 15, _ => exact dx15 a s
 | 16, _ => exact dx16 a s
 | 17, _ => exact dx17 a s
 | 18, _ => exact dx18 a s
 | 19, _ => exact dx19 a s
 | 20, _ => exact dx20 a s
 | 21, _ => exact dx21 a s
 | 22, _ => exact dx22 a s
 | 23, _ => exact dx23 a s
 | q + 24, h => exact absurd h (by omega)
theorem draw_is (K : Nat) (a0 : l00Src) : spec_l02DrawExact K a0 = (spec_l00Src_pick K a0 (24 : Int)).bind drawX := rfl
theorem exact_u {K : Nat} {c : List Int} (hc : Byt c) (at_ sd : Int) : Dr at_ 2 (spec_l02DrawExact K (l00Src.mk c at_ sd)) (fun t => ∃ i, i < 24 ∧ t = uT i) := by
 rw [draw_is]
 refine Dr.bind (c2 := 0) (pick_dr hc at_ sd 24) (by decide) fun r a1 s1 hr => ?_
 intro h0 _
 obtain ⟨q, rfl⟩ : ∃ q : Nat, r = (q : Int) := ⟨r.toNat, by omega⟩
 have hq : q < 24 := by omega
 exact ⟨uT q, a1, s1, drawX_all q hq a1 s1, ⟨q, hq, rfl⟩, h0, by omega⟩
def tq (t : Turn) : Q4 := ⟨t.W, t.X, t.Y, t.Z⟩
def mt (q : Q4) : Turn := Turn.mk q.w q.x q.y q.z
theorem tq_mt (q : Q4) : tq (mt q) = q := rfl
theorem z32 : Num (Fl.mk (k := .f32) 0 (by decide)) ∧ val (Fl.mk (k := .f32) 0 (by decide)) = 0 := const_val (s := false) (m := 0) (p := -149) (by decide) (by decide +kernel)
theorem mul_impl (K : Nat) (a b : Turn) : impl_MulTurns K a b = some (mt (mulQ (tq a) (tq b))) := rfl
theorem inv_impl (K : Nat) (a : Turn) : impl_InverseOf K a = some (mt (conjQ (tq a))) := rfl
theorem isfin_impl (K : Nat) {x : F32} (hx : Num x) : impl_IsFinite K x = some true := by
 unfold impl_IsFinite
 rw [isfin_num hx]
theorem root_impl (K : Nat) (x : F32) : impl_RootNumber K x = some (rootQ x) := by
 unfold impl_RootNumber math_Sqrt math_sqrt
 rw [bind_of, bind_of, chk_pos (narrow_root x)]; rfl
theorem size_impl (K : Nat) (x : F32) : impl_size K x = some x.abs32 := by
 unfold impl_size math_Abs
 rw [bind_of, chk_pos (by rw [narrow_abs]; rfl), cv_abs]
theorem islen_impl (K : Nat) {n : F32} (hn : Num n) (h0 : val n ≠ 0) : impl_isLength K n = some true := by
 unfold impl_isLength
 rw [isfin_impl K hn, bind_of, ite2_true, bind_of]
 congr 1
 rw [ne_val hn z32.1, z32.2]; exact h0
theorem angle_impl {K : Nat} (hK : 16 < K) {q : Q4} (h : Fair q) : impl_AngleOf K (mt q) = some (angQ q) := by
 obtain ⟨l1, l2, w1, w2, l3, l4, -⟩ := fair_parts h
 obtain ⟨-, -, -, n1, -, -, -⟩ := angQ_near h
 unfold angP at n1
 unfold impl_AngleOf impl_Turn_vector impl_LongOf impl_InnerOf
 rw [bind_of, bind_of, root_impl, bind_of, bind_of, size_impl, bind_of]
 have e : rootQ ((((mt q).X.mul (mt q).X).add ((mt q).Y.mul (mt q).Y)).add ((mt q).Z.mul (mt q).Z)) = lenV q.x q.y q.z := rfl
 have e2 : (mt q).W.abs32 = q.w.abs32 := rfl
 dsimp only at e ⊢
 rw [e, e2]
 unfold impl_AngleTurns
 rw [isfin_impl K w1, bind_of, Bool.not_true, ite2_false, isfin_impl K l1, bind_of, bind_of, Bool.not_true, ite2_false]
 have hj : ite2 (q.w.abs32.eq (Fl.mk (k := .f32) 0 (by decide))) (some ((lenV q.x q.y q.z).eq (Fl.mk (k := .f32) 0 (by decide)))) (some false) = some false := by
  cases h1 : q.w.abs32.eq (Fl.mk (k := .f32) 0 (by decide))
  ·rfl
  ·cases h0 : (lenV q.x q.y q.z).eq (Fl.mk (k := .f32) 0 (by decide))
   ·rfl
   ·rw [eq_val w1 z32.1, z32.2, w2] at h1
    rw [eq_val l1 z32.1, z32.2] at h0
    rw [h1, h0] at l4
    grind
 rw [hj, bind_of, ite2_false, wideAngle_eq hK, bind_of, chk_pos n1, bind_of]; rfl
theorem apart_impl {K : Nat} (hK : 16 < K) (a b : Turn) (h : Fair (apartQ (tq a) (tq b))) : impl_ApartTurns K a b = some (angQ (apartQ (tq a) (tq b))) := by
 unfold impl_ApartTurns
 rw [inv_impl, bind_of, mul_impl, bind_of, show mt (mulQ (tq (mt (conjQ (tq a)))) (tq b)) = mt (apartQ (tq a) (tq b)) from rfl, angle_impl hK h, bind_of]
theorem scale_norm (r : R4) (k : Rat) : innR (scaleR r k) (scaleR r k) = k * k * innR r r := by
 unfold innR scaleR
 grind
theorem U4.of_near {q : Q4} {r : R4} (h : C4 q r (1 / 2000000)) (hb : B4 r (100001 / 100000)) (hn : (innR r r - 1).abs ≤ 1 / 500000) : U4 q := by
 obtain ⟨n, h1, h2, h3, h4⟩ := h
 obtain ⟨b1, b2, b3, b4⟩ := hb
 have sum : ∀ {v x : Rat}, (v - x).abs ≤ 1 / 2000000 → x.abs ≤ 100001 / 100000 → (v * v - x * x).abs ≤ 11 / 10000000 := by
  intro v x h1 h2
  have e : v * v - x * x = (v - x) * (v + x) := by grind
  have h3 : (v + x).abs ≤ 22 / 10 := by
   obtain ⟨a1, a2⟩ := abs_bounds h1
   obtain ⟨a3, a4⟩ := abs_bounds h2
   exact abs_le (by grind) (by grind)
  rw [e, mul_abs]
  refine Rat.le_trans (mul_le_mul' h1 h3 Rat.abs_nonneg (by decide +kernel)) (by decide +kernel)
 obtain ⟨w1, w2⟩ := abs_bounds (sum h1 b1)
 obtain ⟨x1, x2⟩ := abs_bounds (sum h2 b2)
 obtain ⟨y1, y2⟩ := abs_bounds (sum h3 b3)
 obtain ⟨z1, z2⟩ := abs_bounds (sum h4 b4)
 obtain ⟨c1, c2⟩ := abs_bounds hn
 refine ⟨n, ?_⟩
 unfold innR vq at *
 exact abs_le (by grind) (by grind)
def okT (t : Turn) : Bool := numD (Ieee.single.read t.W.bits) && numD (Ieee.single.read t.X.bits) && numD (Ieee.single.read t.Y.bits) && numD (Ieee.single.read t.Z.bits) && decide (innR (vq (tq t)) (vq (tq t)) = 1)
theorem num_of_fin {x : F32} (h : numD (Ieee.single.read x.bits) = true) : Num x := by
 cases e : Ieee.single.read x.bits with
 | number s m i => exact ⟨s, m, i, e⟩
 | infinity s => rw [e] at h; cases h
 | nan s t => rw [e] at h; cases h
theorem okT_u {t : Turn} (h : okT t = true) : U4 (tq t) := by
 unfold okT at h
 simp only [Bool.and_eq_true, decide_eq_true_eq] at h
 obtain ⟨⟨⟨⟨h1, h2⟩, h3⟩, h4⟩, h5⟩ := h
 refine ⟨⟨num_of_fin h1, num_of_fin h2, num_of_fin h3, num_of_fin h4⟩, ?_⟩
 rw [h5, Rat.sub_self, Rat.abs_zero]
 decide +kernel
theorem uT_ok : ∀ i : Fin 24, okT (uT i.val) = true := by decide +kernel
def qF (r : Int) : F32 := (Fl.ofInt .f32 (IntKind.i64.wrap (r - (16 : Int)))).div (Fl.mk (k := .f32) 1082130432 (by decide))
theorem qF_ok : ∀ r : Fin 33, (numD (Ieee.single.read (qF (r.val : Int)).bits) && decide (val (qF (r.val : Int)) * 4 = (r.val : Rat) - 16)) = true := by decide +kernel
theorem qF_val {r : Nat} (h : r < 33) : Num (qF (r : Int)) ∧ val (qF (r : Int)) * 4 = (r : Rat) - 16 := by
 have := qF_ok ⟨r, h⟩
 simp only [Bool.and_eq_true, decide_eq_true_eq] at this
 exact ⟨num_of_fin this.1, this.2⟩
theorem small_q {K : Nat} {c : List Int} (hc : Byt c) (at_ sd : Int) : Dr at_ 2 (spec_l01DrawSmall K (l00Src.mk c at_ sd)) (fun f => ∃ r : Nat, r < 33 ∧ f = qF (r : Int)) := by
 unfold spec_l01DrawSmall
 refine Dr.bind (c2 := 0) (pick_dr hc at_ sd 33) (by decide) fun r a1 s1 hr => .of ⟨r.toNat, by omega, ?_⟩ (by omega) rfl
 have : ((r.toNat : Nat) : Int) = r := by omega
 rw [this]; rfl
theorem noT_u : U4 (tq (Turn.mk (Fl.mk (k := .f32) 1065353216 (by decide)) (default : F32) (default : F32) (default : F32))) := okT_u (by decide +kernel)
theorem sqrt_spec' (K : Nat) (x : F32) : spec_l01Sqrt K x = some (rootQ x) := by
 unfold spec_l01Sqrt math_Sqrt math_sqrt spec_l01Narrow
 simp only [bind_of, chk_pos (narrow_root x)]; rfl
theorem mend_drawn (K : Nat) {a b c d : Nat} (ha : a < 33) (hb : b < 33) (hc : c < 33) (hd : d < 33) : ∃ t, spec_l02Mend K (Turn.mk (qF a) (qF b) (qF c) (qF d)) = some t ∧ U4 (tq t) := by
 unfold spec_l02Mend spec_l02Inner spec_l01Finite spec_l02No
 simp only [bind_of, sqrt_spec']
 obtain ⟨a1, a2⟩ := qF_val ha
 obtain ⟨b1, b2⟩ := qF_val hb
 obtain ⟨c1, c2⟩ := qF_val hc
 obtain ⟨d1, d2⟩ := qF_val hd
 by_cases hz : a = 16 ∧ b = 16 ∧ c = 16 ∧ d = 16
 ·obtain ⟨rfl, rfl, rfl, rfl⟩ := hz
  refine ⟨Turn.mk (Fl.mk (k := .f32) 1065353216 (by decide)) (default : F32) (default : F32) (default : F32), ?_, noT_u⟩
  have e : (rootQ (((((qF (16 : Nat)).mul (qF (16 : Nat))).add ((qF (16 : Nat)).mul (qF (16 : Nat)))).add ((qF (16 : Nat)).mul (qF (16 : Nat)))).add ((qF (16 : Nat)).mul (qF (16 : Nat))))).eq (Fl.mk (k := .f32) 0 (by decide)) = true := by decide +kernel
  rw [e]; rfl
 ·have hq : N4 (tq (Turn.mk (qF a) (qF b) (qF c) (qF d))) := ⟨a1, b1, c1, d1⟩
  have lim : ∀ {r : Nat} {x : Rat}, r < 33 → x * 4 = (r : Rat) - 16 → x.abs ≤ 500 ∧ 0 ≤ x * x ∧ (r ≠ 16 → 1 / 16 ≤ x * x) := by
   intro r x hr hx
   have h1 : (r : Rat) ≤ ((32 : Nat) : Rat) := Rat.natCast_le_natCast.2 (by omega)
   have h2 : ((0 : Nat) : Rat) ≤ (r : Rat) := Rat.natCast_le_natCast.2 (by omega)
   have e1 : ((32 : Nat) : Rat) = 32 := rfl
   have e2 : ((0 : Nat) : Rat) = 0 := rfl
   rw [e1] at h1
   rw [e2] at h2
   refine ⟨abs_le (by grind) (by grind), sq_nonneg x, fun hne => ?_⟩
   rcases Nat.lt_or_gt_of_ne hne with h | h
   ·have h3 : (r : Rat) ≤ ((15 : Nat) : Rat) := Rat.natCast_le_natCast.2 (by omega)
    have e3 : ((15 : Nat) : Rat) = 15 := rfl
    rw [e3] at h3
    have h4 : 1 / 4 ≤ -x := by grind
    have := mul_le_mul' h4 h4 (by decide +kernel) (by grind)
    grind
   ·have h3 : ((17 : Nat) : Rat) ≤ (r : Rat) := Rat.natCast_le_natCast.2 (by omega)
    have e3 : ((17 : Nat) : Rat) = 17 := rfl
    rw [e3] at h3
    have h4 : 1 / 4 ≤ x := by grind
    have := mul_le_mul' h4 h4 (by decide +kernel) (by grind)
    grind
  obtain ⟨la1, la2, la3⟩ := lim ha a2
  obtain ⟨lb1, lb2, lb3⟩ := lim hb b2
  obtain ⟨lc1, lc2, lc3⟩ := lim hc c2
  obtain ⟨ld1, ld2, ld3⟩ := lim hd d2
  have hbd : B4 (vq (tq (Turn.mk (qF a) (qF b) (qF c) (qF d)))) 500 := ⟨la1, lb1, lc1, ld1⟩
  have hin : 1 / 100 ≤ innR (vq (tq (Turn.mk (qF a) (qF b) (qF c) (qF d)))) (vq (tq (Turn.mk (qF a) (qF b) (qF c) (qF d)))) := by
   show 1 / 100 ≤ val (qF a) * val (qF a) + val (qF b) * val (qF b) + val (qF c) * val (qF c) + val (qF d) * val (qF d)
   by_cases h1 : a = 16
   ·by_cases h2 : b = 16
    ·by_cases h3 : c = 16
     ·have := ld3 (fun h4 => hz ⟨h1, h2, h3, h4⟩); grind
     ·have := lc3 h3; grind
    ·have := lb3 h2; grind
   ·have := la3 h1; grind
  obtain ⟨k, k0, k1, k2, k3, k4⟩ := mend_near hq hbd hin
  obtain ⟨-, n1, n2, -, -⟩ := lenQ_near hq hbd
  have hn0 : val (lenQ (tq (Turn.mk (qF a) (qF b) (qF c) (qF d)))) ≠ 0 := fun h => by rw [h, Rat.mul_zero] at k1; exact absurd k1 (by decide)
  have e1 : (lenQ (tq (Turn.mk (qF a) (qF b) (qF c) (qF d)))).eq (Fl.mk (k := .f32) 0 (by decide)) = false := by
   rw [← Bool.not_eq_true, eq_val n1 z32.1, z32.2]; exact hn0
  refine ⟨mt (divQ (tq (Turn.mk (qF a) (qF b) (qF c) (qF d))) (lenQ (tq (Turn.mk (qF a) (qF b) (qF c) (qF d))))), ?_, ?_⟩
  ·have e2 := isfin_num n1
   unfold lenQ innQ tq at e1 e2 ⊢
   dsimp only at e1 e2 ⊢
   rw [e1, ite2_false, e2, bind_of, Bool.not_true, ite2_false]; rfl
  ·exact U4.of_near k3 k4 (by rw [scale_norm]; exact Rat.le_trans k2 (by decide +kernel))
theorem turn_u {K : Nat} {c : List Int} (hc : Byt c) (at_ sd : Int) : Dr at_ 10 (spec_l02DrawTurn K (l00Src.mk c at_ sd)) (fun t => U4 (tq t)) := by
 unfold spec_l02DrawTurn
 refine Dr.bind (c1 := 2) (c2 := 8) (one_dr hc at_ sd 2) (by decide) fun r a1 s1 _ => .ite (fun _ => ?_) fun _ => ?_
 ·refine Dr.weak (c := 2 + 0) (P := fun t => U4 (tq t)) (Dr.bind (exact_u hc a1 s1) (by decide) fun r2 a2 s2 h => .of ?_ (by decide) rfl) (by decide) (fun _ h => h)
  obtain ⟨i, hi, rfl⟩ := h
  exact okT_u (uT_ok ⟨i, hi⟩)
 ·refine Dr.bind (c1 := 2) (c2 := 6) (small_q hc a1 s1) (by decide) fun r2 a2 s2 h2 => Dr.bind (c1 := 2) (c2 := 4) (small_q hc a2 s2) (by decide) fun r3 a3 s3 h3 => Dr.bind (c1 := 2) (c2 := 2) (small_q hc a3 s3) (by decide) fun r4 a4 s4 h4 => Dr.bind (c1 := 2) (c2 := 0) (small_q hc a4 s4) (by decide) fun r5 a5 s5 h5 => ?_
  obtain ⟨i2, j2, rfl⟩ := h2
  obtain ⟨i3, j3, rfl⟩ := h3
  obtain ⟨i4, j4, rfl⟩ := h4
  obtain ⟨i5, j5, rfl⟩ := h5
  obtain ⟨t, ht, hu⟩ := mend_drawn K j2 j3 j4 j5
  simp only [ht, bind_of]
  exact .of hu (by decide) rfl

end Go.Fw

namespace Go.Fw
open Go

theorem num_of_fin64 {x : F64} (h : numD (Ieee.double.read x.bits) = true) : Num x := by
 cases e : Ieee.double.read x.bits with
 | number s m i => exact ⟨s, m, i, e⟩
 | infinity s => rw [e] at h; cases h
 | nan s t => rw [e] at h; cases h
def sN (j : Nat) : F64 := Fl.ofInt .f64 (IntKind.i64.wrap ((IntKind.i64.wrap ((2 : Int) * (8 - (j : Int)))) * (IntKind.i64.wrap ((IntKind.i64.wrap ((2 : Int) * (8 - (j : Int)))) + (1 : Int)))))
theorem sN_ok : ∀ j : Fin 8, (numD (Ieee.double.read (sN j.val).bits) && decide (6 ≤ val (sN j.val))) = true := by decide +kernel
def stepS (t : F64) (x : F64) (j : Nat) : F64 := (Fl.mk (k := .f64) 4607182418800017408 (by decide)).sub (((t.mul t).mul x).div (sN j))
def sinS (t : F64) : Nat → F64
 | 0 => Fl.mk (k := .f64) 4607182418800017408 (by decide)
 | j + 1 => stepS t (sinS t j) j
def tauF : F64 := Fl.mk (k := .f64) 4618760256179416344 (by decide)
theorem tau_val : Num tauF ∧ 628 / 100 ≤ val tauF ∧ val tauF ≤ 6284 / 1000 := by
 have h : (numD (Ieee.double.read tauF.bits) && decide (628 / 100 ≤ val tauF) && decide (val tauF ≤ 6284 / 1000)) = true := by decide +kernel
 simp only [Bool.and_eq_true, decide_eq_true_eq] at h
 exact ⟨num_of_fin64 h.1.1, h.1.2, h.2⟩
theorem step_in {t x : F64} {j : Nat} (hj : j < 8) (ht : Num t) (hx : Num x) (t0 : 0 ≤ val t) (t1 : val t ≤ 158 / 100) (x0 : 1 / 2 ≤ val x) (x1 : val x ≤ 1 + 1 / 1000000) : Num (stepS t x j) ∧ 1 / 2 ≤ val (stepS t x j) ∧ val (stepS t x j) ≤ 1 + 1 / 1000000 := by
 have hn := sN_ok ⟨j, hj⟩
 simp only [Bool.and_eq_true, decide_eq_true_eq] at hn
 obtain ⟨n1, n2⟩ := hn
 have n1 := num_of_fin64 n1
 have hn0 : val (sN j) ≠ 0 := fun h => by rw [h] at n2; exact absurd n2 (by decide +kernel)
 have tt : val t * val t ≤ 25 / 10 := Rat.le_trans (mul_le_mul' t1 t1 t0 (by decide +kernel)) (by decide +kernel)
 have tt0 := Rat.mul_nonneg t0 t0
 obtain ⟨a1, a2, a3, -⟩ := mul64 ht ht (by rw [Rat.abs_of_nonneg tt0]; exact Rat.le_trans tt (by decide +kernel))
 have a3 := a3 tt0
 unfold o64 at a2
 rw [Rat.abs_of_nonneg tt0] at a2
 obtain ⟨c1, c2⟩ := abs_bounds a2
 have hA : val (t.mul t) ≤ 2501 / 1000 := by grind
 have px0 : 0 ≤ val (t.mul t) * val x := Rat.mul_nonneg a3 (by grind)
 have px : val (t.mul t) * val x ≤ 2502 / 1000 := Rat.le_trans (mul_le_mul' hA x1 a3 (by grind)) (by decide +kernel)
 obtain ⟨b1, b2, b3, -⟩ := mul64 a1 hx (by rw [Rat.abs_of_nonneg px0]; exact Rat.le_trans px (by decide +kernel))
 have b3 := b3 px0
 unfold o64 at b2
 rw [Rat.abs_of_nonneg px0] at b2
 obtain ⟨c3, c4⟩ := abs_bounds b2
 have hB : val ((t.mul t).mul x) ≤ 2503 / 1000 := by grind
 obtain ⟨q, hq⟩ := quot_ex (a := val ((t.mul t).mul x)) hn0
 have q0 : 0 ≤ q := by
  refine Rat.not_lt.1 fun h => ?_
  have := Rat.mul_lt_mul_of_pos_right h (show 0 < val (sN j) by grind)
  rw [hq, Rat.zero_mul] at this
  exact absurd b3 (Rat.not_le.2 this)
 have q1 : q ≤ 42 / 100 := by
  have := Rat.mul_le_mul_of_nonneg_left n2 q0
  grind
 obtain ⟨d1, d2, -⟩ := div64 b1 n1 hn0 hq (by rw [Rat.abs_of_nonneg q0]; grind)
 rw [Rat.abs_of_nonneg q0] at d2
 obtain ⟨c5, c6⟩ := abs_bounds d2
 obtain ⟨o1, o2⟩ := one64
 unfold stepS
 generalize ((t.mul t).mul x).div (sN j) = D at *
 have hv : (val (Fl.mk (k := .f64) 4607182418800017408 (by decide)) - val D).abs ≤ 11 / 10 := by rw [o2]; exact abs_le (by grind) (by grind)
 obtain ⟨e1, e2, -, -⟩ := sub64 o1 d1 (Rat.le_trans hv (by decide +kernel))
 have ho : o64 (val (Fl.mk (k := .f64) 4607182418800017408 (by decide)) - val D) ≤ 1 / 10000000 := by unfold o64; grind
 obtain ⟨c7, c8⟩ := abs_bounds (Rat.le_trans e2 ho)
 rw [o2] at c7 c8
 exact ⟨e1, by grind, by grind⟩
theorem ser_in {t : F64} (ht : Num t) (t0 : 0 ≤ val t) (t1 : val t ≤ 158 / 100) : ∀ j, j ≤ 8 → Num (sinS t j) ∧ 1 / 2 ≤ val (sinS t j) ∧ val (sinS t j) ≤ 1 + 1 / 1000000
 | 0, _ => ⟨one64.1, by show 1 / 2 ≤ val (Fl.mk (k := .f64) 4607182418800017408 (by decide)); rw [one64.2]; decide +kernel, by show val (Fl.mk (k := .f64) 4607182418800017408 (by decide)) ≤ _; rw [one64.2]; decide +kernel⟩
 | j + 1, h => by
  obtain ⟨a, b, c⟩ := ser_in ht t0 t1 j (by omega)
  exact step_in (by omega) ht a t0 t1 b c
def sinF (z : F64) : F64 := (z.mul tauF).mul (sinS (z.mul tauF) 8)
theorem sinF_in {z : F64} (hz : Num z) (z0 : 0 ≤ val z) (z1 : val z ≤ 1 / 4 + 1 / 1000000) : Num (sinF z) ∧ 3 * val z - 1 / 1000000 ≤ val (sinF z) ∧ 0 ≤ val (sinF z) ∧ val (sinF z) ≤ 16 / 10 := by
 obtain ⟨t1, t2, t3⟩ := tau_val
 have p0 : 0 ≤ val z * val tauF := Rat.mul_nonneg z0 (by grind)
 have p1 : val z * val tauF ≤ 1575 / 1000 := Rat.le_trans (mul_le_mul' z1 t3 z0 (by grind)) (by decide +kernel)
 have p2 : val z * (628 / 100) ≤ val z * val tauF := Rat.mul_le_mul_of_nonneg_left t2 z0
 obtain ⟨a1, a2, a3, -⟩ := mul64 hz t1 (by rw [Rat.abs_of_nonneg p0]; exact Rat.le_trans p1 (by decide +kernel))
 have a3 := a3 p0
 unfold o64 at a2
 rw [Rat.abs_of_nonneg p0] at a2
 obtain ⟨c1, c2⟩ := abs_bounds a2
 obtain ⟨s1, s2, s3⟩ := ser_in a1 a3 (by grind) 8 (Nat.le_refl _)
 have r0 : 0 ≤ val (z.mul tauF) * val (sinS (z.mul tauF) 8) := Rat.mul_nonneg a3 (by grind)
 have r1 : val (z.mul tauF) * val (sinS (z.mul tauF) 8) ≤ 159 / 100 := Rat.le_trans (mul_le_mul' (show val (z.mul tauF) ≤ 158 / 100 by grind) s3 a3 (by grind)) (by decide +kernel)
 have r2 : val (z.mul tauF) * (1 / 2) ≤ val (z.mul tauF) * val (sinS (z.mul tauF) 8) := Rat.mul_le_mul_of_nonneg_left s2 a3
 obtain ⟨b1, b2, b3, -⟩ := mul64 a1 s1 (by rw [Rat.abs_of_nonneg r0]; exact Rat.le_trans r1 (by decide +kernel))
 unfold o64 at b2
 rw [Rat.abs_of_nonneg r0] at b2
 obtain ⟨c3, c4⟩ := abs_bounds b2
 unfold sinF
 exact ⟨b1, by grind, b3 r0, by grind⟩
theorem sine1 (v : F64) : impl_sine_l1 100 v 100 (Fl.mk (k := .f64) 4607182418800017408 (by decide)) 8 = ite2 (v.ge (Fl.mk (k := .f64) 4602678819172646912 (by decide))) (some (sinF ((Fl.mk (k := .f64) 4602678819172646912 (by decide)).sub (v.sub (Fl.mk (k := .f64) 4602678819172646912 (by decide))))).neg) (some (sinF ((Fl.mk (k := .f64) 4602678819172646912 (by decide)).sub (v.sub (Fl.mk (k := .f64) 4602678819172646912 (by decide)))))) := rfl
theorem sine2 (v : F64) : impl_sine_l2 100 v 100 (Fl.mk (k := .f64) 4607182418800017408 (by decide)) 8 = ite2 (v.ge (Fl.mk (k := .f64) 4602678819172646912 (by decide))) (some (sinF (v.sub (Fl.mk (k := .f64) 4602678819172646912 (by decide)))).neg) (some (sinF (v.sub (Fl.mk (k := .f64) 4602678819172646912 (by decide))))) := rfl
theorem sine3 (v : F64) : impl_sine_l3 100 v 100 (Fl.mk (k := .f64) 4607182418800017408 (by decide)) 8 = ite2 (v.ge (Fl.mk (k := .f64) 4602678819172646912 (by decide))) (some (sinF ((Fl.mk (k := .f64) 4602678819172646912 (by decide)).sub v)).neg) (some (sinF ((Fl.mk (k := .f64) 4602678819172646912 (by decide)).sub v))) := rfl
theorem sine4 (v : F64) : impl_sine_l4 100 v 100 (Fl.mk (k := .f64) 4607182418800017408 (by decide)) 8 = ite2 (v.ge (Fl.mk (k := .f64) 4602678819172646912 (by decide))) (some (sinF v).neg) (some (sinF v)) := rfl
theorem trunc_small {x : F64} (hx : Num x) (h : (val x).abs < 1) : ∃ o, x.integ .zero = some o ∧ Num o ∧ val o = 0 := by
 obtain ⟨s, m, i, e⟩ := hx
 rw [val_of e, dv_abs] at h
 have hc : Ieee.Toward.zero.cut s (m <<< i.toNat) (-i).toNat = 0 := by
  rcases Int.le_total 0 i with hi | hi
  ·have h1 : (m : Rat) * 1 ≤ (m : Rat) * p2 i := Rat.mul_le_mul_of_nonneg_left (by rw [← p2_zero]; exact p2_mono hi) Rat.natCast_nonneg
   have h2 : (m : Rat) < ((1 : Nat) : Rat) := by
    have : ((1 : Nat) : Rat) = 1 := rfl
    rw [this]; grind
   have h3 : m < 1 := Rat.natCast_lt_natCast.1 h2
   have h4 : m = 0 := by omega
   subst h4
   unfold Ieee.Toward.cut
   simp
  ·have h2 : p2 0 = p2 i * ((2 ^ (0 - i).toNat : Nat) : Rat) := p2_sub hi
   rw [p2_zero] at h2
   have h3 : (m : Rat) * p2 i < ((2 ^ (0 - i).toNat : Nat) : Rat) * p2 i := by rw [Rat.mul_comm ((2 ^ (0 - i).toNat : Nat) : Rat), ← h2]; exact h
   have h4 : (m : Rat) < ((2 ^ (0 - i).toNat : Nat) : Rat) := Rat.not_le.1 fun hc => by
    have := Rat.mul_le_mul_of_nonneg_right hc (Rat.le_of_lt (p2_pos i))
    exact absurd h3 (Rat.not_lt.2 this)
   have h5 : m < 2 ^ (0 - i).toNat := Rat.natCast_lt_natCast.1 h4
   rw [show (0 - i).toNat = (-i).toNat by omega] at h5
   rw [show i.toNat = 0 by omega, Nat.shiftLeft_eq, Nat.pow_zero, Nat.mul_one]
   unfold Ieee.Toward.cut
   simp only [Nat.one_shiftLeft]
   rcases Nat.le_total (-i).toNat (m.log2 + 2) with hd | hd
   ·rw [Nat.min_eq_left hd, Nat.div_eq_of_lt h5]; simp
   ·rw [Nat.min_eq_right hd, Nat.div_eq_of_lt (by
     have h6 : m < 2 ^ (m.log2 + 1) := Nat.lt_log2_self
     have h7 : 2 ^ (m.log2 + 2) = 2 * 2 ^ (m.log2 + 1) := by rw [Nat.pow_succ, Nat.mul_comm]
     omega)]; simp
 have hn : nanB .f64 x.bits = false := by show (Ieee.double.read x.bits).isNaN = false; rw [show Ieee.double.read x.bits = _ from e]; rfl
 unfold Fl.integ
 rw [hn]
 refine ⟨_, rfl, ?_⟩
 have ed : (FloatKind.f64.decode x.bits).integral .zero = .number s 0 0 := by
  show (Ieee.double.read x.bits).integral .zero = _
  rw [show Ieee.double.read x.bits = _ from e]
  show Ieee.Datum.number s _ 0 = _
  rw [hc]
 have z : dv (.number s 0 0) = 0 := by show (if s then -1 else 1) * (((0 : Nat) : Rat) * p2 0) = 0; simp
 obtain ⟨m', p', e1, e2, e3, e4⟩ := write_val .f64 (s := s) (m := 0) (p := 0) (by rw [z, Rat.abs_zero]; exact p2_pos _)
 have e5 : Ieee.double.read (canonF .f64 (FloatKind.f64.encode ((FloatKind.f64.decode x.bits).integral .zero))) = .number s m' p' := by
  rw [ed, canonF_num (by show (Ieee.double.read (FloatKind.f64.format.write (.number s 0 0))).isNaN = false; rw [show Ieee.double.read (FloatKind.f64.format.write (.number s 0 0)) = _ from e1]; rfl)]
  exact e1
 refine ⟨⟨s, m', p', e5⟩, ?_⟩
 rw [z] at e3 e4
 show dv (Ieee.double.read (canonF .f64 (FloatKind.f64.encode ((FloatKind.f64.decode x.bits).integral .zero)))) = 0
 rw [e5]
 exact Rat.le_antisymm (e4 Rat.le_refl) (e3 Rat.le_refl)
end Go.Fw

namespace Go.Fw
open Go

theorem zero64 : Num (Fl.mk (k := .f64) 0 (by decide)) ∧ val (Fl.mk (k := .f64) 0 (by decide)) = 0 := o0_val
theorem half64c : Num (Fl.mk (k := .f64) 4602678819172646912 (by decide)) ∧ val (Fl.mk (k := .f64) 4602678819172646912 (by decide)) = 1 / 2 := oH_val
theorem quart64 : Num (Fl.mk (k := .f64) 4598175219545276416 (by decide)) ∧ val (Fl.mk (k := .f64) 4598175219545276416 (by decide)) = 1 / 4 := oQ_val
theorem big64 : Num (Fl.mk (k := .f64) 4841369599423283200 (by decide)) ∧ 1000 ≤ val (Fl.mk (k := .f64) 4841369599423283200 (by decide)) := by
 have h : (numD (Ieee.double.read (Fl.mk (k := .f64) 4841369599423283200 (by decide)).bits) && decide (1000 ≤ val (Fl.mk (k := .f64) 4841369599423283200 (by decide)))) = true := by decide +kernel
 simp only [Bool.and_eq_true, decide_eq_true_eq] at h
 exact ⟨num_of_fin64 h.1, h.2⟩
theorem p2m1 : p2 (-1) = 1 / 2 := by decide +kernel
theorem near64 {x y : F64} (hx : Num x) (hy : Num y) (h : (val x - val y).abs ≤ 10) : Num (x.sub y) ∧ (val (x.sub y) - (val x - val y)).abs ≤ 1 / 1000000000 ∧ (0 ≤ val x - val y → 0 ≤ val (x.sub y)) := by
 obtain ⟨a, b, c, -⟩ := sub64 hx hy (Rat.le_trans h (by decide +kernel))
 exact ⟨a, Rat.le_trans b (by have := Rat.abs_nonneg (x := val x - val y); unfold o64; grind), c⟩
theorem nearA64 {x y : F64} (hx : Num x) (hy : Num y) (h : (val x + val y).abs ≤ 10) : Num (x.add y) ∧ (val (x.add y) - (val x + val y)).abs ≤ 1 / 1000000000 ∧ (0 ≤ val x + val y → 0 ≤ val (x.add y)) := by
 obtain ⟨a, b, c, -⟩ := add64 hx hy (Rat.le_trans h (by decide +kernel))
 exact ⟨a, Rat.le_trans b (by have := Rat.abs_nonneg (x := val x + val y); unfold o64; grind), c⟩
theorem ge_false {k : FloatKind} {x y : Fl k} (hx : Num x) (hy : Num y) (h : val x < val y) : x.ge y = false := by
 rw [← Bool.not_eq_true, ge_val hx hy]; exact Rat.not_le.2 h
theorem ge_true {k : FloatKind} {x y : Fl k} (hx : Num x) (hy : Num y) (h : val y ≤ val x) : x.ge y = true := (ge_val hx hy).2 h
theorem gt_false {k : FloatKind} {x y : Fl k} (hx : Num x) (hy : Num y) (h : val x ≤ val y) : x.gt y = false := by
 rw [← Bool.not_eq_true, gt_val hx hy]; exact Rat.not_lt.2 h
theorem lt_false {k : FloatKind} {x y : Fl k} (hx : Num x) (hy : Num y) (h : val y ≤ val x) : x.lt' y = false := by
 rw [← Bool.not_eq_true, lt_val hx hy]; exact Rat.not_lt.2 h
theorem eq_false' {k : FloatKind} {x y : Fl k} (hx : Num x) (hy : Num y) (h : val x ≠ val y) : x.eq y = false := by
 rw [← Bool.not_eq_true, eq_val hx hy]; exact h
theorem ne_false {k : FloatKind} {x y : Fl k} (hx : Num x) (hy : Num y) (h : val x = val y) : x.ne y = false := by
 rw [← Bool.not_eq_true, ne_val hx hy]; exact fun hc => hc h
theorem wide_of {a p : F64} (ha : Num a) (hb : (val a).abs ≤ 10) (_hp : impl_placesOf 100 a = some p) : impl_wideSine 100 a = impl_sine 100 a := by
 obtain ⟨s1, s2, s3, s4⟩ := sub_val ha ha (by rw [Rat.sub_self, Rat.abs_zero]; exact p2_pos _)
 rw [Rat.sub_self] at s3 s4
 unfold impl_wideSine math_Abs
 rw [ne_false s1 zero64.1 (by rw [zero64.2]; exact Rat.le_antisymm (s4 Rat.le_refl) (s3 Rat.le_refl)), ite2_false, bind_of]
 obtain ⟨b1, b2⟩ := abs_val ha
 rw [ge_false b1 big64.1 (by rw [b2]; have := big64.2; grind), ite2_false]
 cases impl_sine 100 a <;> rfl
theorem wide_pos {g : F64} (hg : Num g) (g0 : 0 ≤ val g) (g1 : val g ≤ 1 / 2 + 1 / 100000000) : ∃ v, impl_wideSine 100 g = some v ∧ Num v ∧ (val v).abs ≤ 16 / 10 ∧ 3 * (if val g ≤ 1 / 4 then val g else 1 / 2 - val g) - 1 / 100000 ≤ (val v).abs := by
 obtain ⟨o, t1, t2, t3⟩ := trunc_small hg (by rw [Rat.abs_of_nonneg g0]; grind)
 have hp : impl_placesOf 100 g = some g := by
  unfold impl_placesOf math_Trunc math_archTrunc
  rw [t1, bind_of, bind_of, ne_false t2 zero64.1 (by rw [t3, zero64.2]), ite2_false, lt_false hg zero64.1 (by rw [zero64.2]; exact g0), ite2_false]
 rw [wide_of hg (by rw [Rat.abs_of_nonneg g0]; grind) hp]
 unfold impl_sine
 rw [hp, bind_of]
 by_cases h1 : 1 / 2 ≤ val g
 ·-- the half: the part is nearly nought
  obtain ⟨a1, a2, a3⟩ := near64 hg half64c.1 (by rw [half64c.2]; exact abs_le (by grind) (by grind))
  rw [half64c.2] at a2 a3
  obtain ⟨c1, c2⟩ := abs_bounds a2
  have a3 := a3 (by grind)
  rw [ge_true hg half64c.1 (by rw [half64c.2]; exact h1), ite2_true, gt_false a1 quart64.1 (by rw [quart64.2]; grind), ite2_false, sine2, ge_true hg half64c.1 (by rw [half64c.2]; exact h1), ite2_true]
  obtain ⟨d1, d2, d3, d4⟩ := sinF_in a1 a3 (by grind)
  obtain ⟨e1, e2⟩ := neg_val d1
  refine ⟨_, rfl, e1, by rw [e2, Rat.abs_neg, Rat.abs_of_nonneg d3]; exact d4, ?_⟩
  rw [if_neg (by grind)]
  exact Rat.le_trans (show _ ≤ (0 : Rat) by grind) Rat.abs_nonneg
 ·have hlt : val g < 1 / 2 := Rat.not_le.1 h1
  rw [ge_false hg half64c.1 (by rw [half64c.2]; exact hlt), ite2_false]
  by_cases h2 : val g ≤ 1 / 4
  ·rw [gt_false hg quart64.1 (by rw [quart64.2]; exact h2), ite2_false, sine4, ge_false hg half64c.1 (by rw [half64c.2]; exact hlt), ite2_false]
   obtain ⟨d1, d2, d3, d4⟩ := sinF_in hg g0 (by grind)
   refine ⟨_, rfl, d1, by rw [Rat.abs_of_nonneg d3]; exact d4, ?_⟩
   rw [if_pos h2, Rat.abs_of_nonneg d3]; grind
  ·have h2' := Rat.not_le.1 h2
   rw [(gt_val hg quart64.1).2 (by rw [quart64.2]; exact h2'), ite2_true, sine3, ge_false hg half64c.1 (by rw [half64c.2]; exact hlt), ite2_false]
   obtain ⟨a1, a2, a3⟩ := near64 half64c.1 hg (by rw [half64c.2]; exact abs_le (by grind) (by grind))
   rw [half64c.2] at a2 a3
   obtain ⟨c1, c2⟩ := abs_bounds a2
   obtain ⟨d1, d2, d3, d4⟩ := sinF_in a1 (a3 (by grind)) (by grind)
   refine ⟨_, rfl, d1, by rw [Rat.abs_of_nonneg d3]; exact d4, ?_⟩
   rw [if_neg h2, Rat.abs_of_nonneg d3]; grind
theorem wide_neg {g : F64} (hg : Num g) (g0 : val g < 0) (g1 : -(1 / 4) - 1 / 100000000 ≤ val g) : ∃ v, impl_wideSine 100 g = some v ∧ Num v ∧ (val v).abs ≤ 16 / 10 ∧ 3 * (-val g) - 1 / 100000 ≤ (val v).abs := by
 have hab : (val g).abs ≤ 1 / 4 + 1 / 100000000 := abs_le (by grind) (by grind)
 obtain ⟨o, t1, t2, t3⟩ := trunc_small hg (by grind)
 have hp : impl_placesOf 100 g = some (g.add (Fl.mk (k := .f64) 4607182418800017408 (by decide))) := by
  unfold impl_placesOf math_Trunc math_archTrunc
  rw [t1, bind_of, bind_of, ne_false t2 zero64.1 (by rw [t3, zero64.2]), ite2_false, (lt_val hg zero64.1).2 (by rw [zero64.2]; exact g0), ite2_true]
 rw [wide_of hg (by grind) hp]
 unfold impl_sine
 rw [hp, bind_of]
 obtain ⟨o1, o2⟩ := one64
 obtain ⟨a1, a2, a3⟩ := nearA64 hg o1 (by rw [o2]; exact abs_le (by grind) (by grind))
 have a4 := add_pow (E := 0) hg o1 (by decide) (by decide) (by rw [o2, p2_zero]; exact abs_le (by grind) (by grind))
 rw [o2] at a2 a3
 rw [p2_zero] at a4
 generalize g.add (Fl.mk (k := .f64) 4607182418800017408 (by decide)) = p at *
 obtain ⟨c1, c2⟩ := abs_bounds a2
 obtain ⟨c3, c4⟩ := abs_bounds a4
 rw [ge_true a1 half64c.1 (by rw [half64c.2]; grind), ite2_true]
 obtain ⟨b1, b2, b3⟩ := near64 a1 half64c.1 (by rw [half64c.2]; exact abs_le (by grind) (by grind))
 have b4 := sub_pow (E := -1) a1 half64c.1 (by decide) (by decide) (by rw [half64c.2, p2m1]; exact abs_le (by grind) (by grind))
 rw [half64c.2] at b2 b3
 rw [p2m1] at b4
 obtain ⟨c5, c6⟩ := abs_bounds b2
 obtain ⟨c7, c8⟩ := abs_bounds b4
 by_cases h2 : val (p.sub (Fl.mk (k := .f64) 4602678819172646912 (by decide))) ≤ 1 / 4
 ·rw [gt_false b1 quart64.1 (by rw [quart64.2]; exact h2), ite2_false, sine2, ge_true a1 half64c.1 (by rw [half64c.2]; grind), ite2_true]
  obtain ⟨d1, d2, d3, d4⟩ := sinF_in b1 (b3 (by grind)) (by grind)
  obtain ⟨e1, e2⟩ := neg_val d1
  exact ⟨_, rfl, e1, by rw [e2, Rat.abs_neg, Rat.abs_of_nonneg d3]; exact d4, by rw [e2, Rat.abs_neg, Rat.abs_of_nonneg d3]; grind⟩
 ·have h2' := Rat.not_le.1 h2
  rw [(gt_val b1 quart64.1).2 (by rw [quart64.2]; exact h2'), ite2_true, sine1, ge_true a1 half64c.1 (by rw [half64c.2]; grind), ite2_true]
  obtain ⟨e1, e2, e3⟩ := near64 half64c.1 b1 (by rw [half64c.2]; exact abs_le (by grind) (by grind))
  rw [half64c.2] at e2 e3
  obtain ⟨c9, c10⟩ := abs_bounds e2
  obtain ⟨d1, d2, d3, d4⟩ := sinF_in e1 (e3 (by grind)) (by grind)
  obtain ⟨f1, f2⟩ := neg_val d1
  exact ⟨_, rfl, f1, by rw [f2, Rat.abs_neg, Rat.abs_of_nonneg d3]; exact d4, by rw [f2, Rat.abs_neg, Rat.abs_of_nonneg d3]; grind⟩
theorem sincos {h : F64} (hh : Num h) (h1 : (val h).abs ≤ 1 / 4 + 1 / 1000000000) : ∃ s c, impl_wideSine 100 h = some s ∧ impl_wideSine 100 (h.add (Fl.mk (k := .f64) 4598175219545276416 (by decide))) = some c ∧ Num s ∧ Num c ∧ (val s).abs ≤ 16 / 10 ∧ (val c).abs ≤ 16 / 10 ∧ 7 / 10 ≤ (val s).abs + (val c).abs := by
 obtain ⟨b1, b2⟩ := abs_bounds h1
 obtain ⟨a1, a2, -⟩ := nearA64 hh quart64.1 (by rw [quart64.2]; exact abs_le (by grind) (by grind))
 rw [quart64.2] at a2
 obtain ⟨c1, c2⟩ := abs_bounds a2
 generalize h.add (Fl.mk (k := .f64) 4598175219545276416 (by decide)) = g at *
 have hg : ∃ c, impl_wideSine 100 g = some c ∧ Num c ∧ (val c).abs ≤ 16 / 10 ∧ 3 * (1 / 4 - (val h).abs) - 1 / 10000 ≤ (val c).abs := by
  by_cases hg0 : val g < 0
  ·obtain ⟨c, e1, e2, e3, e4⟩ := wide_neg a1 hg0 (by grind)
   refine ⟨c, e1, e2, e3, Rat.le_trans ?_ e4⟩
   rcases abs_cases (val h) with ⟨i1, i2⟩ | ⟨i1, i2⟩ <;> rw [i2] <;> grind
  ·obtain ⟨c, e1, e2, e3, e4⟩ := wide_pos a1 (Rat.not_lt.1 hg0) (by grind)
   refine ⟨c, e1, e2, e3, Rat.le_trans ?_ e4⟩
   split <;> rcases abs_cases (val h) with ⟨i1, i2⟩ | ⟨i1, i2⟩ <;> rw [i2] <;> grind
 obtain ⟨c, e1, e2, e3, e4⟩ := hg
 by_cases hn : val h < 0
 ·obtain ⟨s, d1, d2, d3, d4⟩ := wide_neg hh hn (by grind)
  refine ⟨s, c, d1, e1, d2, e2, d3, e3, ?_⟩
  have : (val h).abs = -val h := Rat.abs_of_nonpos (Rat.le_of_lt hn)
  grind
 ·have h0 := Rat.not_lt.1 hn
  obtain ⟨s, d1, d2, d3, d4⟩ := wide_pos hh h0 (by grind)
  refine ⟨s, c, d1, e1, d2, e2, d3, e3, ?_⟩
  have : (val h).abs = val h := Rat.abs_of_nonneg h0
  split at d4 <;> grind
end Go.Fw

namespace Go.Fw
open Go

theorem long_impl (K : Nat) (x y z : F32) : impl_LongOf K (Vector.mk x y z) = some (lenV x y z) := by
 unfold impl_LongOf impl_InnerOf
 rw [bind_of, root_impl, bind_of]; rfl
theorem angT {K : Nat} (hK : 16 < K) {y w : F32} (ny : Num y) (nw : Num w) (w0 : val w ≠ 0 ∨ val y ≠ 0) (h : (convBits .f64 (angF (Fl.cv .f32 .f64 y) (Fl.cv .f32 .f64 w)).bits .f32).isSome = true) :
  impl_AngleTurns K y w = some (Fl.cv .f64 .f32 (angF (Fl.cv .f32 .f64 y) (Fl.cv .f32 .f64 w))) := by
 unfold impl_AngleTurns
 rw [isfin_impl K nw, bind_of, Bool.not_true, ite2_false, isfin_impl K ny, bind_of, bind_of, Bool.not_true, ite2_false]
 have hj : ite2 (w.eq (Fl.mk (k := .f32) 0 (by decide))) (some (y.eq (Fl.mk (k := .f32) 0 (by decide)))) (some false) = some false := by
  cases h1 : w.eq (Fl.mk (k := .f32) 0 (by decide))
  ·rfl
  ·cases h0 : y.eq (Fl.mk (k := .f32) 0 (by decide))
   ·rfl
   ·rw [eq_val nw z32.1, z32.2] at h1
    rw [eq_val ny z32.1, z32.2] at h0
    rcases w0 with h | h
    ·exact absurd h1 h
    ·exact absurd h0 h
 rw [hj, bind_of, ite2_false, wideAngle_eq hK, bind_of, chk_pos h]
def f1' : F32 := Fl.mk (k := .f32) 1065353216 (by decide)
def zN : F32 := lenV (default : F32) (default : F32) f1'
theorem z_facts : Num zN ∧ val zN = 1 ∧ Num ((default : F32).div zN) ∧ val ((default : F32).div zN) = 0 ∧ Num (f1'.div zN) ∧ val (f1'.div zN) = 1 := by
 have h : (numD (Ieee.single.read zN.bits) && decide (val zN = 1) && numD (Ieee.single.read ((default : F32).div zN).bits) && decide (val ((default : F32).div zN) = 0) && numD (Ieee.single.read (f1'.div zN).bits) && decide (val (f1'.div zN) = 1)) = true := by decide +kernel
 simp only [Bool.and_eq_true, decide_eq_true_eq] at h
 obtain ⟨⟨⟨⟨⟨h1, h2⟩, h3⟩, h4⟩, h5⟩, h6⟩ := h
 exact ⟨num_of_fin h1, h2, num_of_fin h3, h4, num_of_fin h5, h6⟩
theorem zmul {a b : F32} (ha : Num a) (hb : Num b) (h : val a * val b = 0) : Num (a.mul b) ∧ val (a.mul b) = 0 := by
 obtain ⟨m1, -, m3, m4⟩ := mul_val ha hb (by rw [h, Rat.abs_zero]; exact p2_pos _)
 rw [h] at m3 m4
 exact ⟨m1, Rat.le_antisymm (m4 Rat.le_refl) (m3 Rat.le_refl)⟩
theorem zadd {a b : F32} (ha : Num a) (hb : Num b) (h : val a + val b = 0) : Num (a.add b) ∧ val (a.add b) = 0 := by
 obtain ⟨m1, -, m3, m4⟩ := add_val ha hb (by rw [h, Rat.abs_zero]; exact p2_pos _)
 rw [h] at m3 m4
 exact ⟨m1, Rat.le_antisymm (m4 Rat.le_refl) (m3 Rat.le_refl)⟩
theorem zsub {a b : F32} (ha : Num a) (hb : Num b) (h : val a - val b = 0) : Num (a.sub b) ∧ val (a.sub b) = 0 := by
 obtain ⟨m1, -, m3, m4⟩ := sub_val ha hb (by rw [h, Rat.abs_zero]; exact p2_pos _)
 rw [h] at m3 m4
 exact ⟨m1, Rat.le_antisymm (m4 Rat.le_refl) (m3 Rat.le_refl)⟩
def Zt (T : Q4) : Prop := N4 T ∧ val T.x = 0 ∧ val T.y = 0 ∧ (val T.w).abs ≤ 162 / 100 ∧ (val T.z).abs ≤ 162 / 100 ∧ 69 / 100 ≤ (val T.w).abs + (val T.z).abs
theorem about_z {a : F32} (ha : Num a) (h : (val a).abs ≤ 1 / 2) : ∃ T, impl_TurnAbout 100 (Vector.mk (default : F32) (default : F32) (Fl.mk (k := .f32) 1065353216 (by decide))) a = some (mt T) ∧ Zt T := by
 obtain ⟨z1, z2, z3, z4, z5, z6⟩ := z_facts
 obtain ⟨w1, w2⟩ := widen_val ha
 have t2 : Num (Fl.mk (k := .f64) 4611686018427387904 (by decide)) ∧ val (Fl.mk (k := .f64) 4611686018427387904 (by decide)) = 2 := const_val (s := false) (m := 4503599627370496) (p := -51) (by decide) (by decide +kernel)
 have ht0 : val (Fl.mk (k := .f64) 4611686018427387904 (by decide)) ≠ 0 := by rw [t2.2]; decide +kernel
 obtain ⟨q, hq⟩ := quot_ex (a := val (Fl.cv .f32 .f64 a)) ht0
 have hq2 : q * 2 = val a := by rw [← w2, ← hq, t2.2]
 obtain ⟨b1, b2⟩ := abs_bounds h
 have hqa : q.abs ≤ 1 / 4 := abs_le (by grind) (by grind)
 obtain ⟨d1, d2, -⟩ := div64 w1 t2.1 ht0 hq (Rat.le_trans hqa (by decide +kernel))
 have ho : q.abs * (1 / 2251799813685248) + 1 / 1000000000000000000000000000000 ≤ 1 / 10000000000 := by grind
 obtain ⟨c1, c2⟩ := abs_bounds (Rat.le_trans d2 ho)
 obtain ⟨c3, c4⟩ := abs_bounds hqa
 obtain ⟨s, c, e1, e2, e3, e4, e5, e6, e7⟩ := sincos d1 (abs_le (by grind) (by grind))
 have nar : ∀ {v : F64}, Num v → (val v).abs ≤ 16 / 10 → (convBits .f64 v.bits .f32).isSome = true ∧ Num (Fl.cv .f64 .f32 v) ∧ (val (Fl.cv .f64 .f32 v) - val v).abs ≤ 1 / 1000000 := by
  intro v hv hb
  obtain ⟨n1, n2, n3, -⟩ := narrow64 hv (Rat.le_trans hb (by decide +kernel))
  exact ⟨n1, n2, Rat.le_trans n3 (by have := Rat.abs_nonneg (x := val v); unfold o32; grind)⟩
 obtain ⟨s1, s2, s3⟩ := nar e3 e5
 obtain ⟨k1, k2, k3⟩ := nar e4 e6
 clear nar
 obtain ⟨g1, g2⟩ := abs_bounds s3
 obtain ⟨g3, g4⟩ := abs_bounds k3
 obtain ⟨g5, g6⟩ := abs_bounds e5
 obtain ⟨g7, g8⟩ := abs_bounds e6
 obtain ⟨p1, p2⟩ := zmul z3 s2 (by rw [z4, Rat.zero_mul])
 have sb : (val (f1'.div zN) * val (Fl.cv .f64 .f32 s)).abs ≤ 1601 / 1000 := by rw [z6, Rat.one_mul]; exact abs_le (by grind) (by grind)
 obtain ⟨r1, r2⟩ := m32 z5 s2 sb (by decide +kernel)
 rw [z6, Rat.one_mul] at r2
 obtain ⟨g9, g10⟩ := abs_bounds r2
 refine ⟨⟨Fl.cv .f64 .f32 c, ((default : F32).div zN).mul (Fl.cv .f64 .f32 s), ((default : F32).div zN).mul (Fl.cv .f64 .f32 s), (f1'.div zN).mul (Fl.cv .f64 .f32 s)⟩, ?_, ⟨k2, p1, p1, r1⟩, p2, p2, abs_le (by grind) (by grind), abs_le (by grind) (by grind), ?_⟩
 ·unfold impl_TurnAbout
  have hil : impl_isLength 100 (lenV (default : F32) (default : F32) (Fl.mk (k := .f32) 1065353216 (by decide))) = some true := islen_impl 100 (n := zN) z1 (by rw [z2]; decide +kernel)
  rw [long_impl, bind_of, hil, bind_of, Bool.not_true, ite2_false, e1, bind_of, chk_pos s1, e2, bind_of, chk_pos k1]
  unfold impl_Vector_over impl_ScaleVector impl_turnOf
  rw [bind_of, bind_of, bind_of]; rfl
 ·dsimp only
  have a1 : (val s).abs ≤ (val ((f1'.div zN).mul (Fl.cv .f64 .f32 s))).abs + 1 / 100000 := by
   rcases abs_cases (val s) with ⟨i1, i2⟩ | ⟨i1, i2⟩ <;> rw [i2] <;> rcases abs_cases (val ((f1'.div zN).mul (Fl.cv .f64 .f32 s))) with ⟨i3, i4⟩ | ⟨i3, i4⟩ <;> rw [i4] <;> grind
  have a2 : (val c).abs ≤ (val (Fl.cv .f64 .f32 c)).abs + 1 / 100000 := by
   rcases abs_cases (val c) with ⟨i1, i2⟩ | ⟨i1, i2⟩ <;> rw [i2] <;> rcases abs_cases (val (Fl.cv .f64 .f32 c)) with ⟨i3, i4⟩ | ⟨i3, i4⟩ <;> rw [i4] <;> grind
  grind
theorem ang_small5 {y x : F64} {e : Rat} (ny : Num y) (nx : Num x) (py : 0 ≤ val y) (px : 1 / 5 ≤ val x) (he : e ≤ 1 / 10) (h : val y ≤ e) : 0 ≤ val (angF y x) ∧ val (angF y x) ≤ e * 2 + 1 / 1000000000 := by
 have hx0 : 0 < val x := by grind
 refine ⟨(ang_in ny nx py (by grind) (.inr hx0)).2.1, ?_⟩
 rcases ang_cases ny nx py (by grind) (.inr hx0) with ⟨c1, c2, t1, n1, p1, l1, ⟨q1, e1, f1, g1, d1⟩, r1⟩ | ⟨c1, _⟩
 ·have := (core_in n1 p1 l1).2.2
  obtain ⟨u1, u2⟩ := abs_bounds d1
  have hq : q1 ≤ 5 * e := by
   have : q1 * (1 / 5) ≤ val y := by rw [← e1]; exact Rat.mul_le_mul_of_nonneg_left px f1
   grind
  rw [r1]
  grind
 ·grind
theorem ang32 {p : F64} (p1 : Num p) (p2 : 0 ≤ val p) (p3 : val p ≤ 26 / 100) : (convBits .f64 p.bits .f32).isSome = true ∧ Num (t2c.mul (Fl.cv .f64 .f32 p)) ∧ (val (t2c.mul (Fl.cv .f64 .f32 p)) - 2 * val p).abs ≤ 1 / 1000000 := by
 obtain ⟨n1, n2, n3, n4, -⟩ := narrow64 p1 (by rw [Rat.abs_of_nonneg p2]; grind)
 have n5 := n4 p2
 unfold o32 at n3
 rw [Rat.abs_of_nonneg p2] at n3
 obtain ⟨c1, c2⟩ := abs_bounds n3
 obtain ⟨m1, m2, m3, -⟩ := mul32 t2c_val.1 n2 (by rw [t2c_val.2, Rat.abs_of_nonneg (by grind)]; grind)
 rw [t2c_val.2] at m2 m3
 unfold o32 at m2
 rw [Rat.abs_of_nonneg (show 0 ≤ 2 * val (Fl.cv .f64 .f32 p) by grind)] at m2
 obtain ⟨c3, c4⟩ := abs_bounds m2
 exact ⟨n1, m1, abs_le (by grind) (by grind)⟩
theorem self_apart {T : Q4} (h : Zt T) : ∃ r, impl_ApartTurns 100 (mt T) (mt T) = some r ∧ Num r ∧ (val r).abs ≤ 1 / 2000 := by
 obtain ⟨⟨nw, nx, ny, nz⟩, hx, hy, bw, bz, hs⟩ := h
 obtain ⟨gx, vx⟩ := neg_val nx
 obtain ⟨gy, vy⟩ := neg_val ny
 obtain ⟨gz, vz⟩ := neg_val nz
 rw [hx] at vx
 rw [hy] at vy
 have nz0 : (-0 : Rat) = 0 := by decide +kernel
 rw [nz0] at vx vy
 have bz' : (val T.z.neg).abs ≤ 162 / 100 := by rw [vz, Rat.abs_neg]; exact bz
 have prod : ∀ {a b : F32}, Num a → Num b → (val a).abs ≤ 162 / 100 → (val b).abs ≤ 162 / 100 → Num (a.mul b) ∧ (val (a.mul b) - val a * val b).abs ≤ 4 / 10000000 ∧ (val a * val b).abs ≤ 263 / 100 := by
  intro a b ha hb h1 h2
  have e : (val a * val b).abs ≤ 263 / 100 := by rw [mul_abs]; exact Rat.le_trans (mul_le_mul' h1 h2 Rat.abs_nonneg (by decide +kernel)) (by decide +kernel)
  obtain ⟨m1, m2⟩ := m32 ha hb e (by decide +kernel)
  exact ⟨m1, Rat.le_trans m2 (by decide +kernel), e⟩
 obtain ⟨ww1, ww2, ww3⟩ := prod nw nw bw bw
 obtain ⟨zz1, zz2, zz3⟩ := prod gz nz bz' bz
 obtain ⟨wz1, wz2, wz3⟩ := prod nw nz bw bz
 obtain ⟨zw1, zw2, zw3⟩ := prod gz nw bz' bw
 clear prod
 rw [vz] at zz2 zz3 zw2 zw3
 obtain ⟨c1, c2⟩ := abs_bounds ww2
 obtain ⟨c3, c4⟩ := abs_bounds ww3
 obtain ⟨c5, c6⟩ := abs_bounds zz2
 obtain ⟨c7, c8⟩ := abs_bounds zz3
 obtain ⟨c9, c10⟩ := abs_bounds wz2
 obtain ⟨c11, c12⟩ := abs_bounds wz3
 obtain ⟨c13, c14⟩ := abs_bounds zw2
 obtain ⟨c15, c16⟩ := abs_bounds zw3
 have sq : 238 / 1000 ≤ val T.w * val T.w + val T.z * val T.z := by
  have h1 := sq_nonneg ((val T.w).abs - (val T.z).abs)
  have h2 := mul_le_mul' hs hs (by decide +kernel) (by grind)
  have h3 : (val T.w).abs * (val T.w).abs = val T.w * val T.w := by rw [← mul_abs]; exact Rat.abs_of_nonneg (sq_nonneg _)
  have h4 : (val T.z).abs * (val T.z).abs = val T.z * val T.z := by rw [← mul_abs]; exact Rat.abs_of_nonneg (sq_nonneg _)
  grind
 obtain ⟨xx1, xx2⟩ := zmul gx nx (by rw [hx, Rat.mul_zero])
 obtain ⟨yy1, yy2⟩ := zmul gy ny (by rw [hy, Rat.mul_zero])
 obtain ⟨a1, a2⟩ := s32 ww1 xx1 (c := 264 / 100) (by rw [xx2]; exact abs_le (by grind) (by grind)) (by decide +kernel)
 rw [xx2] at a2
 obtain ⟨d1, d2⟩ := abs_bounds a2
 obtain ⟨a3, a4⟩ := s32 a1 yy1 (c := 265 / 100) (by rw [yy2]; exact abs_le (by grind) (by grind)) (by decide +kernel)
 rw [yy2] at a4
 obtain ⟨d3, d4⟩ := abs_bounds a4
 obtain ⟨a5, a6⟩ := s32 a3 zz1 (c := 54 / 10) (abs_le (by grind) (by grind)) (by decide +kernel)
 obtain ⟨d5, d6⟩ := abs_bounds a6
 have nQw : Num (apartQ T T).w := a5
 have vQw : 1 / 5 ≤ val (apartQ T T).w := by
  show 1 / 5 ≤ val ((((T.w.mul T.w).sub (T.x.neg.mul T.x)).sub (T.y.neg.mul T.y)).sub (T.z.neg.mul T.z))
  grind
 obtain ⟨i1, i2⟩ := zmul nw nx (by rw [hx, Rat.mul_zero])
 obtain ⟨i3, i4⟩ := zmul gx nw (by rw [vx, Rat.zero_mul])
 obtain ⟨i5, i6⟩ := zmul gy nz (by rw [vy, Rat.zero_mul])
 obtain ⟨i7, i8⟩ := zmul gz ny (by rw [hy, Rat.mul_zero])
 obtain ⟨j1, j2⟩ := zadd i1 i3 (by rw [i2, i4, Rat.add_zero])
 obtain ⟨j3, j4⟩ := zadd j1 i5 (by rw [j2, i6, Rat.add_zero])
 have hQx := zsub j3 i7 (by rw [j4, i8, Rat.sub_self])
 obtain ⟨nQx, vQx⟩ : Num (apartQ T T).x ∧ val (apartQ T T).x = 0 := hQx
 obtain ⟨k1, k2⟩ := zmul nw ny (by rw [hy, Rat.mul_zero])
 obtain ⟨k3, k4⟩ := zmul gx nz (by rw [vx, Rat.zero_mul])
 obtain ⟨k5, k6⟩ := zmul gy nw (by rw [vy, Rat.zero_mul])
 obtain ⟨k7, k8⟩ := zmul gz nx (by rw [hx, Rat.mul_zero])
 obtain ⟨l1, l2⟩ := zsub k1 k3 (by rw [k2, k4, Rat.sub_self])
 obtain ⟨l3, l4⟩ := zadd l1 k5 (by rw [l2, k6, Rat.add_zero])
 have hQy := zadd l3 k7 (by rw [l4, k8, Rat.add_zero])
 obtain ⟨nQy, vQy⟩ : Num (apartQ T T).y ∧ val (apartQ T T).y = 0 := hQy
 obtain ⟨m1, m2⟩ := zmul gx ny (by rw [vx, Rat.zero_mul])
 obtain ⟨m3, m4⟩ := zmul gy nx (by rw [vy, Rat.zero_mul])
 obtain ⟨b1, b2⟩ := a32 wz1 m1 (c := 264 / 100) (by rw [m2]; exact abs_le (by grind) (by grind)) (by decide +kernel)
 rw [m2] at b2
 obtain ⟨d7, d8⟩ := abs_bounds b2
 obtain ⟨b3, b4⟩ := s32 b1 m3 (c := 265 / 100) (by rw [m4]; exact abs_le (by grind) (by grind)) (by decide +kernel)
 rw [m4] at b4
 obtain ⟨d9, d10⟩ := abs_bounds b4
 obtain ⟨b5, b6⟩ := a32 b3 zw1 (c := 1 / 1000) (abs_le (by grind) (by grind)) (by decide +kernel)
 obtain ⟨d11, d12⟩ := abs_bounds b6
 have nQz : Num (apartQ T T).z := b5
 have vQz : (val (apartQ T T).z).abs ≤ 3 / 1000000 := by
  show (val ((((T.w.mul T.z).add (T.x.neg.mul T.y)).sub (T.y.neg.mul T.x)).add (T.z.neg.mul T.w))).abs ≤ 3 / 1000000
  exact abs_le (by grind) (by grind)
 obtain ⟨-, n1, n2, n3⟩ := lenV_near nQx nQy nQz (by rw [vQx]; decide +kernel) (by rw [vQy]; decide +kernel) (Rat.le_trans vQz (by decide +kernel))
 rw [vQx, vQy] at n3
 have zs : val (apartQ T T).z * val (apartQ T T).z ≤ 9 / 1000000000000 := by
  have := mul_le_mul' vQz vQz Rat.abs_nonneg (by decide +kernel)
  rw [← mul_abs, Rat.abs_of_nonneg (sq_nonneg _)] at this
  exact Rat.le_trans this (by decide +kernel)
 obtain ⟨f1, f2⟩ := abs_bounds n3
 have hL : val (lenV (apartQ T T).x (apartQ T T).y (apartQ T T).z) ≤ 4 / 1000000 := le_of_sq (by decide +kernel) (by grind)
 obtain ⟨u1, u2⟩ := abs32_val nQw
 rw [Rat.abs_of_nonneg (by grind)] at u2
 obtain ⟨v1, v2⟩ := widen_val n1
 obtain ⟨v3, v4⟩ := widen_val u1
 obtain ⟨w1, w2⟩ := ang_small5 (e := 4 / 1000000) v1 v3 (by rw [v2]; exact n2) (by rw [v4, u2]; exact vQw) (by decide +kernel) (by rw [v2]; exact hL)
 have wn := (ang_in v1 v3 (by rw [v2]; exact n2) (by rw [v4, u2]; grind) (.inr (by rw [v4, u2]; grind))).1
 obtain ⟨x1, x2, x3⟩ := ang32 wn w1 (by grind)
 obtain ⟨g1, g2⟩ := abs_bounds x3
 refine ⟨_, ?_, x2, abs_le (by grind) (by grind)⟩
 unfold impl_ApartTurns
 rw [inv_impl, bind_of, mul_impl, bind_of, show mt (mulQ (tq (mt (conjQ (tq (mt T))))) (tq (mt T))) = mt (apartQ T T) from rfl]
 unfold impl_AngleOf impl_Turn_vector
 rw [bind_of, show Vector.mk (mt (apartQ T T)).X (mt (apartQ T T)).Y (mt (apartQ T T)).Z = Vector.mk (apartQ T T).x (apartQ T T).y (apartQ T T).z from rfl, long_impl, bind_of, size_impl, bind_of, show (mt (apartQ T T)).W.abs32 = (apartQ T T).w.abs32 from rfl, angT (by decide) n1 u1 (.inl (by rw [u2]; grind)) x1, bind_of, bind_of]
 rfl
end Go.Fw

namespace Go.Fw
open Go

theorem half_c : Num (Fl.mk (k := .f32) 1056964608 (by decide)) ∧ val (Fl.mk (k := .f32) 1056964608 (by decide)) = 1 / 2 := const_val (s := false) (m := 8388608) (p := -24) (by decide) (by decide +kernel)
theorem mhalf_c : Num (Fl.mk (k := .f32) 3204448256 (by decide)) ∧ val (Fl.mk (k := .f32) 3204448256 (by decide)) = -(1 / 2) := const_val (s := true) (m := 8388608) (p := -24) (by decide) (by decide +kernel)
theorem one_c : Num (Fl.mk (k := .f32) 1065353216 (by decide)) ∧ val (Fl.mk (k := .f32) 1065353216 (by decide)) = 1 := const_val (s := false) (m := 8388608) (p := -23) (by decide) (by decide +kernel)
theorem ang_half {y x : F64} (hy : Num y) (hx : Num x) (hz : val y ≠ 0 ∨ val x ≠ 0) : Num (angF y x) ∧ (val (angF y x)).abs ≤ 1 / 2 := by
 obtain ⟨y1, y2⟩ := abs_val hy
 obtain ⟨x1, x2⟩ := abs_val hx
 have hy0 := Rat.abs_nonneg (x := val y)
 have hx0 := Rat.abs_nonneg (x := val x)
 have pos : ∀ {v : Rat}, v ≠ 0 → 0 < v.abs := by
  intro v hv
  rcases abs_cases v with ⟨h1, h2⟩ | ⟨h1, h2⟩ <;> rw [h2]
  ·exact Rat.lt_of_le_of_ne h1 (Ne.symm hv)
  ·have := Rat.lt_of_le_of_ne h1 hv
   grind
 have hb : ∀ b, b = (if y.abs.gt x.abs = true then oQ.sub (coreF (x.abs.div y.abs)) else coreF (y.abs.div x.abs)) → Num b ∧ 0 ≤ val b ∧ val b ≤ 26 / 100 := by
  intro b hbe
  subst hbe
  cases hg : y.abs.gt x.abs
  ·simp only [Bool.false_eq_true, if_false]
   have hg' : ¬ y.abs.gt x.abs = true := by rw [hg]; exact Bool.false_ne_true
   rw [gt_val y1 x1, y2, x2] at hg'
   have hle := Rat.not_lt.1 hg'
   have hx1 : 0 < (val x).abs := by
    rcases hz with h | h
    ·have := pos h
     grind
    ·exact pos h
   obtain ⟨a, b, c⟩ := ratio_in y1 x1 (by rw [y2]; exact hy0) (by rw [y2, x2]; exact hle) (by rw [x2]; exact hx1)
   obtain ⟨d, e, f⟩ := core_in a b c
   exact ⟨d, e, by grind⟩
  ·simp only [if_true]
   rw [gt_val y1 x1, y2, x2] at hg
   obtain ⟨a, b, c⟩ := ratio_in x1 y1 (by rw [x2]; exact hx0) (by rw [y2, x2]; exact Rat.le_of_lt hg) (by rw [y2]; grind)
   obtain ⟨d, e, f⟩ := core_in a b c
   obtain ⟨q1, q2⟩ := oQ_val
   have hs : 0 ≤ val oQ - val (coreF (x.abs.div y.abs)) := by rw [q2]; grind
   obtain ⟨s1, s2, s3, -⟩ := sub64 q1 d (by rw [Rat.abs_of_nonneg hs, q2]; grind)
   unfold o64 at s2
   rw [Rat.abs_of_nonneg hs, q2] at s2
   obtain ⟨s4, s5⟩ := abs_bounds s2
   exact ⟨s1, s3 hs, by grind⟩
 unfold angF
 dsimp only
 obtain ⟨b1, b2, b3⟩ := hb _ rfl
 generalize (if y.abs.gt x.abs = true then oQ.sub (coreF (x.abs.div y.abs)) else coreF (y.abs.div x.abs)) = b at *
 clear hb
 have hc : ∀ c, c = (if x.lt' o0 = true then oH.sub b else b) → Num c ∧ (val c).abs ≤ 1 / 2 := by
  intro c hce
  subst hce
  obtain ⟨h1, h2⟩ := oH_val
  split
  ·have hv : (val oH - val b).abs ≤ p2 (-1) := by rw [h2, p2m1]; exact abs_le (by grind) (by grind)
   have hv2 := sub_pow h1 b1 (E := -1) (by decide) (by decide) hv
   rw [p2m1] at hv hv2
   exact ⟨(sub64 h1 b1 (Rat.le_trans hv (by decide +kernel))).1, hv2⟩
  ·exact ⟨b1, abs_le (by grind) (by grind)⟩
 obtain ⟨c1, c2⟩ := hc _ rfl
 generalize (if x.lt' o0 = true then oH.sub b else b) = c at *
 split
 ·obtain ⟨n1, n2⟩ := neg_val c1
  exact ⟨n1, by rw [n2, Rat.abs_neg]; exact c2⟩
 ·exact ⟨c1, c2⟩
theorem angle_in {y w : F32} (ny : Num y) (nw : Num w) : ∃ r, impl_AngleTurns 100 y w = some r ∧ Num r ∧ (val r).abs ≤ 1 / 2 := by
 by_cases hz : val w ≠ 0 ∨ val y ≠ 0
 ·obtain ⟨a1, a2⟩ := widen_val ny
  obtain ⟨a3, a4⟩ := widen_val nw
  obtain ⟨b1, b2⟩ := ang_half a1 a3 (by rw [a2, a4]; exact hz.symm)
  obtain ⟨n1, n2, -⟩ := narrow64 b1 (Rat.le_trans b2 (by decide +kernel))
  have n3 := narrow_pow b1 (E := -1) (by decide) (by decide) (by rw [p2m1]; exact b2)
  rw [p2m1] at n3
  exact ⟨_, angT (by decide) ny nw hz n1, n2, n3⟩
 ·have h1 : val w = 0 := Classical.byContradiction fun h => hz (.inl h)
  have h2 : val y = 0 := Classical.byContradiction fun h => hz (.inr h)
  refine ⟨Fl.mk (k := .f32) 0 (by decide), ?_, z32.1, by rw [z32.2]; decide +kernel⟩
  unfold impl_AngleTurns
  rw [isfin_impl 100 nw, bind_of, Bool.not_true, ite2_false, isfin_impl 100 ny, bind_of, bind_of, Bool.not_true, ite2_false, (eq_val nw z32.1).2 (by rw [z32.2]; exact h1), ite2_true, (eq_val ny z32.1).2 (by rw [z32.2]; exact h2), bind_of, ite2_true]
theorem hinge_in {q : Q4} (h : N4 q) (hb : (val q.z).abs ≤ 2) : ∃ r, impl_HingeAngle 100 (mt q) (Vector.mk (default : F32) (default : F32) (Fl.mk (k := .f32) 1065353216 (by decide))) = some r ∧ Num r ∧ (val r).abs ≤ 1 / 2 := by
 obtain ⟨nw, nx, ny, nz⟩ := h
 have dz : Num (default : F32) ∧ val (default : F32) = 0 := z32
 obtain ⟨o1, o2⟩ := one_c
 obtain ⟨a1, a2⟩ := zmul dz.1 nx (by rw [dz.2, Rat.zero_mul])
 obtain ⟨a3, a4⟩ := zmul dz.1 ny (by rw [dz.2, Rat.zero_mul])
 obtain ⟨a5, a6⟩ := zadd a1 a3 (by rw [a2, a4, Rat.add_zero])
 obtain ⟨b1, b2⟩ := m32 o1 nz (c := 2) (by rw [o2, Rat.one_mul]; exact hb) (by decide +kernel)
 rw [o2, Rat.one_mul] at b2
 obtain ⟨c1, c2⟩ := abs_bounds b2
 obtain ⟨c3, c4⟩ := abs_bounds hb
 obtain ⟨b3, -⟩ := a32 a5 b1 (c := 3) (by rw [a6, Rat.zero_add]; exact abs_le (by grind) (by grind)) (by decide +kernel)
 obtain ⟨v, e1, e2, e3⟩ := angle_in b3 nw
 obtain ⟨d1, d2⟩ := abs_bounds e3
 have hv2 : (val t2c * val v).abs ≤ 1 := by rw [t2c_val.2]; exact abs_le (by grind) (by grind)
 obtain ⟨m1, -⟩ := mul32 t2c_val.1 e2 (Rat.le_trans hv2 (by decide +kernel))
 have m2 := mul_pow t2c_val.1 e2 (E := 0) (by decide) (by decide) (by rw [p2_zero]; exact hv2)
 rw [p2_zero] at m2
 obtain ⟨d3, d4⟩ := abs_bounds m2
 unfold impl_HingeAngle impl_Turn_vector impl_InnerOf
 rw [bind_of, bind_of]
 dsimp only
 rw [show impl_AngleTurns 100 ((((default : F32).mul (mt q).X).add ((default : F32).mul (mt q).Y)).add ((Fl.mk (k := .f32) 1065353216 (by decide)).mul (mt q).Z)) (mt q).W = some v from e1, bind_of]
 change ∃ r, ite2 ((t2c.mul v).gt (Fl.mk (k := .f32) 1056964608 (by decide))) (ite2 (((t2c.mul v).sub (Fl.mk (k := .f32) 1065353216 (by decide))).lt' (Fl.mk (k := .f32) 3204448256 (by decide))) (some (((t2c.mul v).sub (Fl.mk (k := .f32) 1065353216 (by decide))).add (Fl.mk (k := .f32) 1065353216 (by decide)))) (some ((t2c.mul v).sub (Fl.mk (k := .f32) 1065353216 (by decide))))) (ite2 ((t2c.mul v).lt' (Fl.mk (k := .f32) 3204448256 (by decide))) (some ((t2c.mul v).add (Fl.mk (k := .f32) 1065353216 (by decide)))) (some (t2c.mul v))) = some r ∧ _
 generalize t2c.mul v = r at *
 cases g : r.gt (Fl.mk (k := .f32) 1056964608 (by decide))
 ·have g' : ¬ r.gt (Fl.mk (k := .f32) 1056964608 (by decide)) = true := by rw [g]; exact Bool.false_ne_true
  rw [gt_val m1 half_c.1, half_c.2] at g'
  have g'' := Rat.not_lt.1 g'
  rw [ite2_false]
  cases l : r.lt' (Fl.mk (k := .f32) 3204448256 (by decide))
  ·have l' : ¬ r.lt' (Fl.mk (k := .f32) 3204448256 (by decide)) = true := by rw [l]; exact Bool.false_ne_true
   rw [lt_val m1 mhalf_c.1, mhalf_c.2] at l'
   rw [ite2_false]
   exact ⟨r, rfl, m1, abs_le g'' (Rat.not_lt.1 l')⟩
  ·rw [lt_val m1 mhalf_c.1, mhalf_c.2] at l
   rw [ite2_true]
   have hs : (val r + val (Fl.mk (k := .f32) 1065353216 (by decide))).abs ≤ 1 / 2 := by rw [o2]; exact abs_le (by grind) (by grind)
   have p1 := add_pow m1 o1 (E := -1) (by decide) (by decide) (by rw [p2m1]; exact hs)
   rw [p2m1] at p1
   exact ⟨_, rfl, (add32 m1 o1 (Rat.le_trans hs (by decide +kernel))).1, p1⟩
 ·rw [gt_val m1 half_c.1, half_c.2] at g
  rw [ite2_true]
  have hs : (val r - val (Fl.mk (k := .f32) 1065353216 (by decide))).abs ≤ 1 / 2 := by rw [o2]; exact abs_le (by grind) (by grind)
  have p1 := sub_pow m1 o1 (E := -1) (by decide) (by decide) (by rw [p2m1]; exact hs)
  rw [p2m1] at p1
  have p3 := (sub32 m1 o1 (Rat.le_trans hs (by decide +kernel))).1
  rw [lt_false p3 mhalf_c.1 (by rw [mhalf_c.2]; exact (abs_bounds p1).2), ite2_false]
  exact ⟨_, rfl, p3, p1⟩
end Go.Fw

namespace Go.Fw
open Go

theorem cv_back (x : F32) : convBits .f64 (Fl.cv .f32 .f64 x).bits .f32 = some x.bits := by
 rcases wide x with ⟨h, h2⟩ | ⟨s, h, h2⟩ | ⟨s, h, h2⟩ | ⟨s, r, R, m, M, p, E, h0, h1, h2, h3, h4, h5, h6, h7, h7', h8, h9, h10, h11, h12, h13, h14, h15⟩
 ·rw [nan_bits h, nan_bits h2]; decide
 ·rw [h, h2]; cases s <;> decide
 ·rw [h, h2]; cases s <;> decide
 ·rw [h2, h8]
  have hrd := d_read (s := s) h9 h10 h11 h13 h14
  have hS : SameV M E m p := by
   unfold SameV at h12 ⊢
   rw [Int.min_comm]; exact h12.symm
  have hnear := nearest_exact Ieee.single s hS (by omega) h4 (by rw [s_lp]; exact h6) (by rw [s_bin]; omega) (by rw [s_bin, s_lp]; exact h7)
  rw [s_lp, s_bin, s_inf, show p - -149 = p + 149 by omega, ← h3, Nat.min_eq_left (by omega)] at hnear
  obtain ⟨m', p', q, _⟩ := s_read (s := s) h1
  exact cvn_number hrd hnear ⟨_, _, _, q⟩
theorem cv_cv (x : F32) : (convBits .f64 (Fl.cv .f32 .f64 x).bits .f32).isSome = true ∧ Fl.cv .f64 .f32 (Fl.cv .f32 .f64 x) = x := by
 refine ⟨by rw [cv_back]; rfl, ?_⟩
 apply Fl.ext
 show (convBits .f64 (Fl.cv .f32 .f64 x).bits .f32).getD 0 = x.bits
 rw [cv_back]; rfl
theorem div_zero {k : FloatKind} {x y : Fl k} (hx : Num x) (hy : Num y) (hy0 : val y ≠ 0) (h : val x = 0) : Num (x.div y) ∧ val (x.div y) = 0 := by
 obtain ⟨s, m, i, ex⟩ := hx
 obtain ⟨t, n, j, ey⟩ := hy
 have hn : n ≠ 0 := by
  intro h0
  apply hy0
  rw [val_of ey, h0]
  show (if t = true then (-1 : Rat) else 1) * (((0 : Nat) : Rat) * p2 j) = 0
  simp
 have hm : m = 0 := by
  have h1 : (val x).abs = (m : Rat) * p2 i := by rw [val_of ex, dv_abs]
  rw [h, Rat.abs_zero] at h1
  refine Classical.byContradiction fun hc => ?_
  have := Rat.mul_pos (Rat.natCast_pos.2 (Nat.pos_of_ne_zero hc)) (p2_pos i)
  rw [← h1] at this
  exact absurd this (Rat.not_lt.2 Rat.le_refl)
 subst hm
 generalize hdg : k.format.fractionBits + 2 = dg
 generalize hmore : dg + n.log2 - (0 : Nat).log2 = more
 have e : k.format.div x.bits y.bits = some (k.format.write (.number (s ^^ t) (2 * (0 * 2 ^ more / n) + (0 * 2 ^ more % n != 0).toNat) (i - j - (more : Int) - 1))) := by
  unfold Ieee.Format.div
  rw [ex, ey]
  show Option.map _ (if n = 0 then _ else _) = _
  rw [if_neg hn]
  simp only [Option.map_some, hdg, hmore, Nat.shiftLeft_eq]
 have hz : 2 * (0 * 2 ^ more / n) + (0 * 2 ^ more % n != 0).toNat = 0 := by simp
 rw [hz] at e
 generalize i - j - (more : Int) - 1 = P at e
 have hd : dv (.number (s ^^ t) 0 P) = 0 := by
  show (if (s ^^ t) = true then (-1 : Rat) else 1) * (((0 : Nat) : Rat) * p2 P) = 0
  simp
 obtain ⟨g1, g2, g3, g4⟩ := op_val (h := fun _ h => k.format.div_lt h) e (by rw [hd, Rat.abs_zero]; exact p2_pos _)
 exact ⟨g1, Rat.le_antisymm (g4 (by rw [hd]; exact Rat.le_refl)) (g3 (by rw [hd]; exact Rat.le_refl))⟩
def Ns (x : F32) : Prop := val x = 0 ∨ 1 / 2500 ≤ val x * val x
def Nt (t : Turn) : Prop := Ns t.W ∧ Ns t.X ∧ Ns t.Y ∧ Ns t.Z
def okN (t : Turn) : Bool := (decide (val t.W = 0) || decide (1 / 2500 ≤ val t.W * val t.W)) && (decide (val t.X = 0) || decide (1 / 2500 ≤ val t.X * val t.X)) && (decide (val t.Y = 0) || decide (1 / 2500 ≤ val t.Y * val t.Y)) && (decide (val t.Z = 0) || decide (1 / 2500 ≤ val t.Z * val t.Z))
theorem okN_n {t : Turn} (h : okN t = true) : Nt t := by
 unfold okN at h
 simp only [Bool.and_eq_true, Bool.or_eq_true, decide_eq_true_eq] at h
 exact ⟨h.1.1.1, h.1.1.2, h.1.2, h.2⟩
theorem uT_n : ∀ i : Fin 24, okN (uT i.val) = true := by decide +kernel
theorem part_ns {r : Nat} {n : F32} {k : Rat} (hr : r < 33) (hn : Num n) (hk : k * val n = 1) (k0 : 0 < k) (hq : (val (qF (r : Int)) * k).abs ≤ 2) (hk1 : 1 / 9 ≤ k) : Ns ((qF (r : Int)).div n) := by
 obtain ⟨h1, h2⟩ := qF_val hr
 have hn0 : val n ≠ 0 := fun h => by rw [h, Rat.mul_zero] at hk; exact absurd hk (by decide)
 by_cases h16 : r = 16
 ·subst h16
  left
  exact (div_zero h1 hn hn0 (by have e : ((16 : Nat) : Rat) = 16 := rfl; rw [e] at h2; grind)).2
 ·right
  obtain ⟨d1, d2⟩ := div_near h1 hn hk hq
  obtain ⟨c1, c2⟩ := abs_bounds d2
  rcases Nat.lt_or_gt_of_ne h16 with h | h
  ·have h3 : (r : Rat) ≤ ((15 : Nat) : Rat) := Rat.natCast_le_natCast.2 (by omega)
   have e3 : ((15 : Nat) : Rat) = 15 := rfl
   rw [e3] at h3
   have h4 : 1 / 4 ≤ -val (qF (r : Int)) := by grind
   have h5 := mul_le_mul' h4 hk1 (by decide +kernel) (by grind)
   have h6 : 2 / 100 ≤ -val ((qF (r : Int)).div n) := by grind
   have := mul_le_mul' h6 h6 (by decide +kernel) (by grind)
   grind
  ·have h3 : ((17 : Nat) : Rat) ≤ (r : Rat) := Rat.natCast_le_natCast.2 (by omega)
   have e3 : ((17 : Nat) : Rat) = 17 := rfl
   rw [e3] at h3
   have h4 : 1 / 4 ≤ val (qF (r : Int)) := by grind
   have h5 := mul_le_mul' h4 hk1 (by decide +kernel) (by grind)
   have h6 : 2 / 100 ≤ val ((qF (r : Int)).div n) := by grind
   have := mul_le_mul' h6 h6 (by decide +kernel) (by grind)
   grind
end Go.Fw

namespace Go.Fw
open Go

theorem mend_n (K : Nat) {a b c d : Nat} (ha : a < 33) (hb : b < 33) (hc : c < 33) (hd : d < 33) : ∃ t, spec_l02Mend K (Turn.mk (qF a) (qF b) (qF c) (qF d)) = some t ∧ Nt t := by
 unfold spec_l02Mend spec_l02Inner spec_l01Finite spec_l02No
 simp only [bind_of, sqrt_spec']
 obtain ⟨a1, a2⟩ := qF_val ha
 obtain ⟨b1, b2⟩ := qF_val hb
 obtain ⟨c1, c2⟩ := qF_val hc
 obtain ⟨d1, d2⟩ := qF_val hd
 by_cases hz : a = 16 ∧ b = 16 ∧ c = 16 ∧ d = 16
 ·obtain ⟨rfl, rfl, rfl, rfl⟩ := hz
  refine ⟨Turn.mk (Fl.mk (k := .f32) 1065353216 (by decide)) (default : F32) (default : F32) (default : F32), ?_, okN_n (by decide +kernel)⟩
  have e : (rootQ (((((qF (16 : Nat)).mul (qF (16 : Nat))).add ((qF (16 : Nat)).mul (qF (16 : Nat)))).add ((qF (16 : Nat)).mul (qF (16 : Nat)))).add ((qF (16 : Nat)).mul (qF (16 : Nat))))).eq (Fl.mk (k := .f32) 0 (by decide)) = true := by decide +kernel
  rw [e]; rfl
 ·have hq : N4 (tq (Turn.mk (qF a) (qF b) (qF c) (qF d))) := ⟨a1, b1, c1, d1⟩
  have lim : ∀ {r : Nat} {x : Rat}, r < 33 → x * 4 = (r : Rat) - 16 → x.abs ≤ 500 ∧ 0 ≤ x * x ∧ (r ≠ 16 → 1 / 16 ≤ x * x) ∧ x * x ≤ 16 := by
   intro r x hr hx
   have h1 : (r : Rat) ≤ ((32 : Nat) : Rat) := Rat.natCast_le_natCast.2 (by omega)
   have h2 : ((0 : Nat) : Rat) ≤ (r : Rat) := Rat.natCast_le_natCast.2 (by omega)
   have e1 : ((32 : Nat) : Rat) = 32 := rfl
   have e2 : ((0 : Nat) : Rat) = 0 := rfl
   rw [e1] at h1
   rw [e2] at h2
   have ha4 : x.abs ≤ 4 := abs_le (by grind) (by grind)
   refine ⟨abs_le (by grind) (by grind), sq_nonneg x, fun hne => ?_, ?_⟩
   ·rcases Nat.lt_or_gt_of_ne hne with h | h
    ·have h3 : (r : Rat) ≤ ((15 : Nat) : Rat) := Rat.natCast_le_natCast.2 (by omega)
     have e3 : ((15 : Nat) : Rat) = 15 := rfl
     rw [e3] at h3
     have h4 : 1 / 4 ≤ -x := by grind
     have := mul_le_mul' h4 h4 (by decide +kernel) (by grind)
     grind
    ·have h3 : ((17 : Nat) : Rat) ≤ (r : Rat) := Rat.natCast_le_natCast.2 (by omega)
     have e3 : ((17 : Nat) : Rat) = 17 := rfl
     rw [e3] at h3
     have h4 : 1 / 4 ≤ x := by grind
     have := mul_le_mul' h4 h4 (by decide +kernel) (by grind)
     grind
   ·have := mul_le_mul' ha4 ha4 Rat.abs_nonneg (by decide +kernel)
    rw [← mul_abs, Rat.abs_of_nonneg (sq_nonneg _)] at this
    exact Rat.le_trans this (by decide +kernel)
  obtain ⟨la1, la2, la3, la4⟩ := lim ha a2
  obtain ⟨lb1, lb2, lb3, lb4⟩ := lim hb b2
  obtain ⟨lc1, lc2, lc3, lc4⟩ := lim hc c2
  obtain ⟨ld1, ld2, ld3, ld4⟩ := lim hd d2
  have hbd : B4 (vq (tq (Turn.mk (qF a) (qF b) (qF c) (qF d)))) 500 := ⟨la1, lb1, lc1, ld1⟩
  have hin : 1 / 100 ≤ innR (vq (tq (Turn.mk (qF a) (qF b) (qF c) (qF d)))) (vq (tq (Turn.mk (qF a) (qF b) (qF c) (qF d)))) := by
   show 1 / 100 ≤ val (qF a) * val (qF a) + val (qF b) * val (qF b) + val (qF c) * val (qF c) + val (qF d) * val (qF d)
   by_cases h1 : a = 16
   ·by_cases h2 : b = 16
    ·by_cases h3 : c = 16
     ·have := ld3 (fun h4 => hz ⟨h1, h2, h3, h4⟩); grind
     ·have := lc3 h3; grind
    ·have := lb3 h2; grind
   ·have := la3 h1; grind
  obtain ⟨k, k0, k1, k2, k3, k4⟩ := mend_near hq hbd hin
  obtain ⟨-, n1, n2, -, n5⟩ := lenQ_near hq hbd
  have hup : innR (vq (tq (Turn.mk (qF a) (qF b) (qF c) (qF d)))) (vq (tq (Turn.mk (qF a) (qF b) (qF c) (qF d)))) ≤ 64 := by
   show val (qF a) * val (qF a) + val (qF b) * val (qF b) + val (qF c) * val (qF c) + val (qF d) * val (qF d) ≤ 64
   grind
  have hn0 : val (lenQ (tq (Turn.mk (qF a) (qF b) (qF c) (qF d)))) ≠ 0 := fun h => by rw [h, Rat.mul_zero] at k1; exact absurd k1 (by decide)
  have e1 : (lenQ (tq (Turn.mk (qF a) (qF b) (qF c) (qF d)))).eq (Fl.mk (k := .f32) 0 (by decide)) = false := by
   rw [← Bool.not_eq_true, eq_val n1 z32.1, z32.2]; exact hn0
  have hlen : val (lenQ (tq (Turn.mk (qF a) (qF b) (qF c) (qF d)))) ≤ 9 := by
   obtain ⟨g1, g2⟩ := abs_bounds n5
   exact le_of_sq (by decide +kernel) (by grind)
  have hk9 : 1 / 9 ≤ k := by
   have := Rat.mul_le_mul_of_nonneg_left hlen (Rat.le_of_lt k0)
   grind
  have le2 : ∀ {x : Rat}, x.abs ≤ 100001 / 100000 → x.abs ≤ 2 := fun h => Rat.le_trans h (by decide +kernel)
  refine ⟨mt (divQ (tq (Turn.mk (qF a) (qF b) (qF c) (qF d))) (lenQ (tq (Turn.mk (qF a) (qF b) (qF c) (qF d))))), ?_, ?_⟩
  ·have e2 := isfin_num n1
   unfold lenQ innQ tq at e1 e2 ⊢
   dsimp only at e1 e2 ⊢
   rw [e1, ite2_false, e2, bind_of, Bool.not_true, ite2_false]; rfl
  ·exact ⟨part_ns ha n1 k1 k0 (le2 k4.1) hk9, part_ns hb n1 k1 k0 (le2 k4.2.1) hk9, part_ns hc n1 k1 k0 (le2 k4.2.2.1) hk9, part_ns hd n1 k1 k0 (le2 k4.2.2.2) hk9⟩
theorem turn_n {K : Nat} {c : List Int} (hc : Byt c) (at_ sd : Int) : Dr at_ 10 (spec_l02DrawTurn K (l00Src.mk c at_ sd)) (fun t => U4 (tq t) ∧ Nt t) := by
 unfold spec_l02DrawTurn
 refine Dr.bind (c1 := 2) (c2 := 8) (one_dr hc at_ sd 2) (by decide) fun r a1 s1 _ => .ite (fun _ => ?_) fun _ => ?_
 ·refine Dr.weak (c := 2 + 0) (P := fun t => U4 (tq t) ∧ Nt t) (Dr.bind (exact_u hc a1 s1) (by decide) fun r2 a2 s2 h => .of ?_ (by decide) rfl) (by decide) (fun _ h => h)
  obtain ⟨i, hi, rfl⟩ := h
  exact ⟨okT_u (uT_ok ⟨i, hi⟩), okN_n (uT_n ⟨i, hi⟩)⟩
 ·refine Dr.bind (c1 := 2) (c2 := 6) (small_q hc a1 s1) (by decide) fun r2 a2 s2 h2 => Dr.bind (c1 := 2) (c2 := 4) (small_q hc a2 s2) (by decide) fun r3 a3 s3 h3 => Dr.bind (c1 := 2) (c2 := 2) (small_q hc a3 s3) (by decide) fun r4 a4 s4 h4 => Dr.bind (c1 := 2) (c2 := 0) (small_q hc a4 s4) (by decide) fun r5 a5 s5 h5 => ?_
  obtain ⟨i2, j2, rfl⟩ := h2
  obtain ⟨i3, j3, rfl⟩ := h3
  obtain ⟨i4, j4, rfl⟩ := h4
  obtain ⟨i5, j5, rfl⟩ := h5
  obtain ⟨t, ht, hu⟩ := mend_drawn K j2 j3 j4 j5
  obtain ⟨t', ht', hn⟩ := mend_n K j2 j3 j4 j5
  rw [ht] at ht'
  cases ht'
  simp only [ht, bind_of]
  exact .of ⟨hu, hn⟩ (by decide) rfl
theorem r8turn (K : Nat) {c : List Int} (hc : Byt c) : ∃ t, spec_R8Turn K c = some t ∧ U4 (tq t) ∧ Nt t := by
 obtain ⟨r, a', s', h, hp, -, -⟩ := turn_n (K := K) hc 0 0 (by decide) (by decide)
 unfold spec_R8Turn
 rw [h]
 exact ⟨r, rfl, hp⟩
theorem r8At_in (K : Nat) {c : List Int} (hc : Byt c) (k n : Int) (k0 : 0 ≤ k) (hn : 1 < n) : ∃ i : Nat, (i : Int) < n ∧ laws_r8At K c k n = some (i : Int) := by
 unfold laws_r8At
 rw [decide_eq_false (show ¬ n ≤ 1 by omega), ite2_false, bind_of]
 by_cases h : k ≥ (c.length : Int)
 ·rw [decide_eq_true h, ite2_true]
  exact ⟨0, by omega, rfl⟩
 ·rw [decide_eq_false h, ite2_false, chk_pos ⟨k0, by omega⟩, chk_pos (by omega)]
  have hx : 0 ≤ c.getD k.toNat default ∧ c.getD k.toNat default < 256 := by
   rw [List.getD_eq_getElem?_getD, List.getElem?_eq_getElem (show k.toNat < c.length by omega)]
   exact hc _ (List.getElem_mem _)
  generalize c.getD k.toNat default = x at hx
  have hw : IntKind.i64.wrap x = x := by unfold IntKind.wrap; simp [IntKind.signed, IntKind.bits]; omega
  rw [hw]
  obtain ⟨t1, t2⟩ := tmod_in (n := n) hx.1 hn
  exact ⟨(x.tmod n).toNat, by omega, by congr 1; omega⟩
end Go.Fw

namespace Go.Fw
open Go


def tF (n : Nat) : F32 := (Fl.ofInt .f32 (IntKind.i64.wrap ((1 : Int) + (n : Int)))).div (Fl.mk (k := .f32) 1115684864 (by decide))
def hF (n : Nat) : F64 := (Fl.cv .f32 .f64 (tF n)).div (Fl.mk (k := .f64) 4611686018427387904 (by decide))
def gF (n : Nat) : F64 := ((Fl.cv .f32 .f64 (tF n)).div (Fl.mk (k := .f64) 4611686018427387904 (by decide))).add (Fl.mk (k := .f64) 4598175219545276416 (by decide))
def flOf (b : Nat) : F32 := if h : okF .f32 b = true then ⟨b, h⟩ else default
theorem flOf_eq {x : F32} {b : Nat} (h : x.bits = b) : x = flOf b := by
 subst h
 unfold flOf
 rw [dif_pos x.ok]
def sB (n : Nat) : Nat := [1028193072, 1036565814, 1041645699, 1044891074, 1048104908, 1049927729, 1051491540, 1053028117, 1054533760, 1056004842, 1057201213, 1057896922, 1058570176, 1059219353, 1059842890, 1060439283, 1061007097, 1061544963, 1062051586, 1062525745, 1062966298, 1063372184, 1063742424, 1064076126, 1064372488, 1064630795, 1064850424, 1065030846, 1065171628, 1065272429, 1065333007].getD n 0
def sinB (v : Option F64) : Option (Bool × Nat) := v.map fun v => ((convBits .f64 v.bits .f32).isSome, (Fl.cv .f64 .f32 v).bits)
theorem sin_tab : ∀ n : Fin 31, (sinB (impl_wideSine 100 (hF n.val)) == some (true, sB n.val)) = true := by decide +kernel
theorem cos_tab : ∀ n : Fin 31, (sinB (impl_wideSine 100 (gF n.val)) == some (true, sB (30 - n.val))) = true := by decide +kernel
theorem sin_of {v : Option F64} {b : Nat} (h : (sinB v == some (true, b)) = true) : ∃ x, v = some x ∧ (convBits .f64 x.bits .f32).isSome = true ∧ Fl.cv .f64 .f32 x = flOf b := by
 have h := eq_of_beq h
 unfold sinB at h
 cases v with
 | none => cases h
 | some x =>
  simp only [Option.map_some, Option.some.injEq, Prod.mk.injEq] at h
  exact ⟨x, rfl, h.1, flOf_eq h.2⟩
def dF : F64 := Fl.mk (k := .f64) 4543979261917470057 (by decide)
def sF (n : Nat) : F32 := flOf (sB n)
def cF' (n : Nat) : F32 := flOf (sB (30 - n))
def hiS (n : Nat) : F64 := (Fl.cv .f32 .f64 (sF n)).add dF
def loS (n : Nat) : F64 := (Fl.cv .f32 .f64 (sF n)).sub dF
def hiC (n : Nat) : F64 := (Fl.cv .f32 .f64 (cF' n)).add dF
def loC (n : Nat) : F64 := (Fl.cv .f32 .f64 (cF' n)).sub dF
def okS (n : Nat) : Bool := numD (Ieee.single.read (tF n).bits) && numD (Ieee.single.read (sF n).bits) && numD (Ieee.single.read (cF' n).bits) && decide (0 ≤ val (tF n)) && decide (val (tF n) ≤ 31 / 64) && decide (1 / 25 ≤ val (sF n)) && decide (val (sF n) ≤ 1) && decide (1 / 25 ≤ val (cF' n)) && decide (val (cF' n) ≤ 1) && decide ((val (sF n) * val (sF n) + val (cF' n) * val (cF' n) - 1).abs ≤ 1 / 1000000)
theorem okS_tab : ∀ n : Fin 31, okS n.val = true := by decide +kernel
def okB (n : Nat) : Bool := numD (Ieee.double.read (hiS n).bits) && numD (Ieee.double.read (loS n).bits) && numD (Ieee.double.read (hiC n).bits) && numD (Ieee.double.read (loC n).bits) && decide (val (sF n) + 59 / 1000000 ≤ val (hiS n)) && decide (val (loS n) ≤ val (sF n) - 59 / 1000000) && decide (val (cF' n) + 59 / 1000000 ≤ val (hiC n)) && decide (val (loC n) ≤ val (cF' n) - 59 / 1000000) && decide (0 ≤ val (loS n)) && decide (0 ≤ val (loC n))
theorem okB_tab : ∀ n : Fin 31, okB n.val = true := by decide +kernel
def okH (n : Nat) : Bool := decide (2 * val (angF (hiS n) (loC n)) ≤ val (tF n) + 5 / 100000) && decide (val (tF n) - 5 / 100000 ≤ 2 * val (angF (loS n) (hiC n))) && (decide (1 / 2 ≤ val (loS n)) || decide (1 / 2 ≤ val (loC n)))
theorem okH_tab : ∀ n : Fin 31, okH n.val = true := by decide +kernel
theorem tab_facts {n : Nat} (hn : n < 31) : Num (tF n) ∧ Num (sF n) ∧ Num (cF' n) ∧ 0 ≤ val (tF n) ∧ val (tF n) ≤ 31 / 64 ∧ 1 / 25 ≤ val (sF n) ∧ val (sF n) ≤ 1 ∧ 1 / 25 ≤ val (cF' n) ∧ val (cF' n) ≤ 1 ∧ (val (sF n) * val (sF n) + val (cF' n) * val (cF' n) - 1).abs ≤ 1 / 1000000 := by
 have h := okS_tab ⟨n, hn⟩
 unfold okS at h
 simp only [Bool.and_eq_true, decide_eq_true_eq] at h
 obtain ⟨⟨⟨⟨⟨⟨⟨⟨⟨h1, h2⟩, h3⟩, h4⟩, h5⟩, h6⟩, h7⟩, h8⟩, h9⟩, h10⟩ := h
 exact ⟨num_of_fin h1, num_of_fin h2, num_of_fin h3, h4, h5, h6, h7, h8, h9, h10⟩
theorem ang_tab {n : Nat} (hn : n < 31) {l w : F32} (nl : Num l) (nw : Num w) (hl : (val l - val (sF n)).abs ≤ 5 / 100000) (hw : (val w - val (cF' n)).abs ≤ 5 / 100000) :
  Num (angF (Fl.cv .f32 .f64 l) (Fl.cv .f32 .f64 w)) ∧ 0 ≤ val (angF (Fl.cv .f32 .f64 l) (Fl.cv .f32 .f64 w)) ∧ val (angF (Fl.cv .f32 .f64 l) (Fl.cv .f32 .f64 w)) ≤ 26 / 100 ∧ (2 * val (angF (Fl.cv .f32 .f64 l) (Fl.cv .f32 .f64 w)) - val (tF n)).abs ≤ 6 / 100000 := by
 obtain ⟨t1, t2, t3, t4, t5, t6, t7, t8, t9, t10⟩ := tab_facts hn
 have h := okB_tab ⟨n, hn⟩
 unfold okB at h
 simp only [Bool.and_eq_true, decide_eq_true_eq] at h
 obtain ⟨⟨⟨⟨⟨⟨⟨⟨⟨b1, b2⟩, b3⟩, b4⟩, b5⟩, b6⟩, b7⟩, b8⟩, b9⟩, b10⟩ := h
 have h := okH_tab ⟨n, hn⟩
 unfold okH at h
 simp only [Bool.and_eq_true, Bool.or_eq_true, decide_eq_true_eq] at h
 obtain ⟨⟨g1, g2⟩, g3⟩ := h
 obtain ⟨a1, a2⟩ := widen_val nl
 obtain ⟨a3, a4⟩ := widen_val nw
 obtain ⟨c1, c2⟩ := abs_bounds hl
 obtain ⟨c3, c4⟩ := abs_bounds hw
 have l0 : 0 < val l := by grind
 have w0 : 0 < val w := by grind
 obtain ⟨p1, p2, p3⟩ := ang_in a1 a3 (by rw [a2]; exact Rat.le_of_lt l0) (by rw [a4]; exact Rat.le_of_lt w0) (.inl (by rw [a2]; exact l0))
 refine ⟨p1, p2, p3, ?_⟩
 have up := ang_mono (e := 0) a1 a3 (num_of_fin64 b1) (num_of_fin64 b4) (by rw [a2]; exact Rat.le_of_lt l0) (by rw [a4]; exact Rat.le_of_lt w0) (by grind) b10 (by rw [a2, a4]; grind) (by grind) Rat.le_refl (by
  rw [a2, a4, Rat.add_zero]
  exact mul_le_mul' (by grind) (by grind) (Rat.le_of_lt l0) (Rat.le_of_lt w0))
 have dn := ang_mono (e := 0) (num_of_fin64 b2) (num_of_fin64 b3) a1 a3 b9 (by grind) (by rw [a2]; exact Rat.le_of_lt l0) (by rw [a4]; exact Rat.le_of_lt w0) (by grind) (by rw [a2, a4]; grind) Rat.le_refl (by
  rw [a2, a4, Rat.add_zero]
  exact mul_le_mul' (by grind) (by grind) b9 (by grind))
 exact abs_le (by grind) (by grind)
theorem ang_t {n : Nat} (hn : n < 31) {l w : F32} (nl : Num l) (nw : Num w) (hl : (val l - val (sF n)).abs ≤ 5 / 100000) (hw : (val w - val (cF' n)).abs ≤ 5 / 100000) :
  (convBits .f64 (angF (Fl.cv .f32 .f64 l) (Fl.cv .f32 .f64 w)).bits .f32).isSome = true ∧ Num (t2c.mul (Fl.cv .f64 .f32 (angF (Fl.cv .f32 .f64 l) (Fl.cv .f32 .f64 w)))) ∧ (val (t2c.mul (Fl.cv .f64 .f32 (angF (Fl.cv .f32 .f64 l) (Fl.cv .f32 .f64 w)))) - val (tF n)).abs ≤ 7 / 100000 := by
 obtain ⟨a1, a2, a3, a4⟩ := ang_tab hn nl nw hl hw
 obtain ⟨b1, b2, b3⟩ := ang32 a1 a2 a3
 obtain ⟨c1, c2⟩ := abs_bounds a4
 obtain ⟨c3, c4⟩ := abs_bounds b3
 exact ⟨b1, b2, abs_le (by grind) (by grind)⟩
theorem part_near {x N s : F32} {k u : Rat} (hx : Num x) (hN : Num N) (hs : Num s) (hk : k * val N = 1) (hu : val x * k = u) (hub : u.abs ≤ 101 / 100) (s0 : 1 / 25 ≤ val s) (s1 : val s ≤ 1) :
  Num ((x.div N).mul s) ∧ (val ((x.div N).mul s) - u * val s).abs ≤ val s * (7 / 10000000) := by
 have hs0 : 0 ≤ val s := by grind
 obtain ⟨d1, d2⟩ := div_near hx hN hk (by rw [hu]; exact Rat.le_trans hub (by decide +kernel))
 rw [hu] at d2
 obtain ⟨c1, c2⟩ := abs_bounds d2
 obtain ⟨c3, c4⟩ := abs_bounds hub
 have hp : (val (x.div N)).abs ≤ 102 / 100 := abs_le (by grind) (by grind)
 have hps : (val (x.div N) * val s).abs ≤ 102 / 100 * val s := by
  rw [mul_abs, Rat.abs_of_nonneg hs0]; exact Rat.mul_le_mul_of_nonneg_right hp hs0
 obtain ⟨m1, m2⟩ := m32 d1 hs hps (by grind)
 refine ⟨m1, ?_⟩
 have e1 := Rat.mul_le_mul_of_nonneg_right c1 hs0
 have e2 := Rat.mul_le_mul_of_nonneg_right c2 hs0
 obtain ⟨c5, c6⟩ := abs_bounds m2
 exact abs_le (by grind) (by grind)
theorem unit_abs3 {u1 u2 u3 : Rat} (hu : (u1 * u1 + u2 * u2 + u3 * u3 - 1).abs ≤ 12 / 10000000) : u1.abs ≤ 101 / 100 ∧ u2.abs ≤ 101 / 100 ∧ u3.abs ≤ 101 / 100 := by
 obtain ⟨c1, c2⟩ := abs_bounds hu
 have q1 := sq_nonneg u1
 have q2 := sq_nonneg u2
 have q3 := sq_nonneg u3
 exact ⟨sq_le (by grind) (by decide +kernel), sq_le (by grind) (by decide +kernel), sq_le (by grind) (by decide +kernel)⟩
def partQ (x N s : F32) : F32 := (x.div N).mul s
def aboutQ (n : Nat) (x y z : F32) : Q4 := ⟨cF' n, partQ x (lenV x y z) (sF n), partQ y (lenV x y z) (sF n), partQ z (lenV x y z) (sF n)⟩
theorem U4.fair {q : Q4} (h : U4 q) : Fair q := by
 refine ⟨h.1, h.bound.mono (by decide +kernel), ?_⟩
 have := (abs_bounds h.2).2
 grind
theorem about_facts {n : Nat} (hn : n < 31) {x y z : F32} (nx : Num x) (ny : Num y) (nz : Num z) (bx : (val x).abs ≤ 4) (by_ : (val y).abs ≤ 4) (bz : (val z).abs ≤ 4) (h16 : 1 / 16 ≤ val x * val x + val y * val y + val z * val z) (h48 : val x * val x + val y * val y + val z * val z ≤ 48) :
  Num (lenV x y z) ∧ 0 < val (lenV x y z) ∧ val (lenV x y z) ≤ 8 ∧ U4 (aboutQ n x y z) ∧
  (∃ u1 u2 u3 k : Rat, k * val (lenV x y z) = 1 ∧ val x * k = u1 ∧ val y * k = u2 ∧ val z * k = u3 ∧ (u1 * u1 + u2 * u2 + u3 * u3 - 1).abs ≤ 12 / 10000000 ∧
   (val (aboutQ n x y z).x - u1 * val (sF n)).abs ≤ val (sF n) * (7 / 10000000) ∧ (val (aboutQ n x y z).y - u2 * val (sF n)).abs ≤ val (sF n) * (7 / 10000000) ∧ (val (aboutQ n x y z).z - u3 * val (sF n)).abs ≤ val (sF n) * (7 / 10000000)) := by
 obtain ⟨t1, t2, t3, t4, t5, t6, t7, t8, t9, t10⟩ := tab_facts hn
 have le5 : ∀ {x : Rat}, x.abs ≤ 4 → x.abs ≤ 500 := fun h => Rat.le_trans h (by decide +kernel)
 obtain ⟨-, l1, l2, l3⟩ := lenV_near nx ny nz (le5 bx) (le5 by_) (le5 bz)
 obtain ⟨n0, n8, k, k0, hk, hσ⟩ := dir_of l2 h16 h48 l3
 have hu : (val x * k * (val x * k) + val y * k * (val y * k) + val z * k * (val z * k) - 1).abs ≤ 12 / 10000000 := by
  have e : val x * k * (val x * k) + val y * k * (val y * k) + val z * k * (val z * k) = k * k * (val x * val x + val y * val y + val z * val z) := by grind
  rw [e]; exact hσ
 obtain ⟨b1, b2, b3⟩ := unit_abs3 hu
 obtain ⟨p1, p2⟩ := part_near nx l1 t2 hk rfl b1 t6 t7
 obtain ⟨p3, p4⟩ := part_near ny l1 t2 hk rfl b2 t6 t7
 obtain ⟨p5, p6⟩ := part_near nz l1 t2 hk rfl b3 t6 t7
 refine ⟨l1, n0, n8, ⟨⟨t3, p1, p3, p5⟩, ?_⟩, _, _, _, k, hk, rfl, rfl, rfl, hu, p2, p4, p6⟩
 have hs0 : 0 ≤ val (sF n) := by grind
 have hss : val (sF n) * val (sF n) ≤ 1 := Rat.le_trans (mul_le_mul' t7 t7 hs0 (by decide +kernel)) (by decide +kernel)
 obtain ⟨-, -, -, hsum⟩ := len_close (η := val (sF n) * (7 / 10000000)) p1 p3 p5 t6 (Rat.le_trans t7 (by decide +kernel)) hu (by grind) (by grind) p2 p4 p6
 obtain ⟨c1, c2⟩ := abs_bounds hsum
 obtain ⟨c3, c4⟩ := abs_bounds t10
 show (val (cF' n) * val (cF' n) + val (partQ x (lenV x y z) (sF n)) * val (partQ x (lenV x y z) (sF n)) + val (partQ y (lenV x y z) (sF n)) * val (partQ y (lenV x y z) (sF n)) + val (partQ z (lenV x y z) (sF n)) * val (partQ z (lenV x y z) (sF n)) - 1).abs ≤ 1 / 100000
 unfold partQ
 exact abs_le (by grind) (by grind)
theorem about_impl {n : Nat} (hn : n < 31) {x y z : F32} (l1 : Num (lenV x y z)) (n0 : 0 < val (lenV x y z)) : impl_TurnAbout 100 (Vector.mk x y z) (tF n) = some (mt (aboutQ n x y z)) := by
 obtain ⟨v, e1, e2, e3⟩ := sin_of (sin_tab ⟨n, hn⟩)
 obtain ⟨w, e4, e5, e6⟩ := sin_of (cos_tab ⟨n, hn⟩)
 unfold impl_TurnAbout
 rw [long_impl, bind_of, islen_impl 100 l1 (Rat.ne_of_gt n0), bind_of, Bool.not_true, ite2_false]
 rw [show (Fl.cv .f32 .f64 (tF n)).div (Fl.mk (k := .f64) 4611686018427387904 (by decide)) = hF n from rfl, e1, bind_of, chk_pos e2]
 rw [show (hF n).add (Fl.mk (k := .f64) 4598175219545276416 (by decide)) = gF n from rfl, e4, bind_of, chk_pos e5]
 unfold impl_Vector_over impl_ScaleVector impl_turnOf
 rw [bind_of, bind_of, bind_of, e3, e6]; rfl

end Go.Fw

namespace Go.Fw
open Go

theorem p2m2 : p2 (-2) = 1 / 4 := by decide +kernel
theorem ang_quarter {y x : F64} (hy : Num y) (hx : Num x) (h0 : 0 ≤ val y) (h1 : 0 ≤ val x) (hz : 0 < val y ∨ 0 < val x) : (val (angF y x)).abs ≤ 1 / 4 := by
 obtain ⟨y1, y2⟩ := abs_val hy
 obtain ⟨x1, x2⟩ := abs_val hx
 rw [Rat.abs_of_nonneg h0] at y2
 rw [Rat.abs_of_nonneg h1] at x2
 have nx : x.lt' o0 = false := by
  rw [← Bool.not_eq_true, lt_val hx o0_val.1, o0_val.2]; exact Rat.not_lt.2 h1
 have ny : y.lt' o0 = false := by
  rw [← Bool.not_eq_true, lt_val hy o0_val.1, o0_val.2]; exact Rat.not_lt.2 h0
 unfold angF
 rw [nx, ny]
 simp only [Bool.false_eq_true, if_false]
 cases hg : y.abs.gt x.abs
 ·simp only [Bool.false_eq_true, if_false]
  have hg' : ¬ y.abs.gt x.abs = true := by rw [hg]; exact Bool.false_ne_true
  rw [gt_val y1 x1, y2, x2] at hg'
  obtain ⟨a, b, c⟩ := ratio_in y1 x1 (by rw [y2]; exact h0) (by rw [y2, x2]; exact Rat.not_lt.1 hg') (by rw [x2]; rcases hz with h | h <;> grind)
  obtain ⟨d, e, f⟩ := core_in a b c
  exact abs_le (by grind) (by grind)
 ·simp only [if_true]
  rw [gt_val y1 x1, y2, x2] at hg
  obtain ⟨a, b, c⟩ := ratio_in x1 y1 (by rw [x2]; exact h1) (by rw [y2, x2]; exact Rat.le_of_lt hg) (by rw [y2]; grind)
  obtain ⟨d, e, f⟩ := core_in a b c
  obtain ⟨q1, q2⟩ := oQ_val
  have := sub_pow q1 d (E := -2) (by decide) (by decide) (by rw [q2, p2m2]; exact abs_le (by grind) (by grind))
  rw [p2m2] at this
  exact this
theorem angQ_half {q : Q4} (h : Fair q) : val (angQ q) ≤ 1 / 2 := by
 obtain ⟨l1, l2, w1, w2, l3, l4, -⟩ := fair_parts h
 obtain ⟨a1, a2⟩ := widen_val l1
 obtain ⟨a3, a4⟩ := widen_val w1
 have hw := Rat.abs_nonneg (x := val q.w)
 have hz : 0 < val (Fl.cv .f32 .f64 (lenV q.x q.y q.z)) ∨ 0 < val (Fl.cv .f32 .f64 q.w.abs32) := by rw [a2, a4, w2]; grind
 have h4 := ang_quarter a1 a3 (by rw [a2]; exact l2) (by rw [a4, w2]; exact hw) hz
 obtain ⟨p1, p2', p3⟩ := ang_in a1 a3 (by rw [a2]; exact l2) (by rw [a4, w2]; exact hw) hz
 have n3 := narrow_pow p1 (E := -2) (by decide) (by decide) (by rw [p2m2]; exact h4)
 obtain ⟨n1, n2, -⟩ := narrow64 p1 (Rat.le_trans h4 (by decide +kernel))
 rw [p2m2] at n3
 obtain ⟨c1, c2⟩ := abs_bounds n3
 have m := mul_pow t2c_val.1 n2 (E := -1) (by decide) (by decide) (by rw [p2m1, t2c_val.2]; exact abs_le (by grind) (by grind))
 rw [p2m1] at m
 exact (abs_bounds m).1
theorem dir_of2 {n σ : Rat} (hn : 0 ≤ n) (h16 : 1 / 10000 ≤ σ) (_h48 : σ ≤ 48) (h : (n * n - σ).abs ≤ σ * (1 / 1000000) + 1 / 10000000000000000000000000) : 0 < n ∧ ∃ k, 0 < k ∧ k * n = 1 ∧ (k * k * σ - 1).abs ≤ 12 / 10000000 := by
 obtain ⟨c1, c2⟩ := abs_bounds h
 have hpos : 0 < n := by
  refine Rat.lt_of_le_of_ne hn fun e => ?_
  rw [← e] at c2; grind
 refine ⟨hpos, ?_⟩
 obtain ⟨k, hk⟩ := quot_ex (a := 1) (Rat.ne_of_gt hpos)
 have hk0 : 0 < k := by
  refine Rat.not_le.1 fun h => ?_
  have := Rat.mul_nonneg (show 0 ≤ -k by grind) (Rat.le_of_lt hpos)
  grind
 have hkk : 0 < k * k := Rat.mul_pos hk0 hk0
 have hone : k * k * (n * n) = 1 := by
  have : k * k * (n * n) = (k * n) * (k * n) := by grind
  rw [this, hk]; exact Rat.mul_one 1
 have d1 := Rat.mul_le_mul_of_nonneg_left c1 (Rat.le_of_lt hkk)
 have d2 := Rat.mul_le_mul_of_nonneg_left c2 (Rat.le_of_lt hkk)
 have d3 := Rat.mul_le_mul_of_nonneg_left h16 (Rat.le_of_lt hkk)
 refine ⟨k, hk0, hk, ?_⟩
 refine abs_le ?_ ?_ <;> grind
theorem root_zero {s : F32} (hs : Num s) (h : val s = 0) : Num (rootQ s) ∧ val (rootQ s) = 0 := by
 obtain ⟨w1, w2⟩ := widen_val hs
 have w0 : val (Fl.cv .f32 .f64 s) = 0 := by rw [w2, h]
 obtain ⟨r1, r2, r3⟩ := sqrt_val w1 (by rw [w0]; exact Rat.le_refl) (by rw [w0]; exact p2_pos _) (.inl w0)
 rw [w0, Rat.zero_mul] at r3
 have r4 : val (Fl.cv .f32 .f64 s).sqrt = 0 := by
  refine Rat.le_antisymm (le_of_sq Rat.le_refl ?_) r2
  have := (abs_bounds r3).1
  grind
 obtain ⟨-, n1, -, n3, n4⟩ := narrow_val r1 (by rw [r4, Rat.abs_zero]; exact p2_pos _)
 exact ⟨n1, Rat.le_antisymm (n4 (by rw [r4]; exact Rat.le_refl)) (n3 (by rw [r4]; exact Rat.le_refl))⟩
theorem len_zero {x y z : F32} (hx : Num x) (hy : Num y) (hz : Num z) (x0 : val x = 0) (y0 : val y = 0) (z0 : val z = 0) : Num (lenV x y z) ∧ val (lenV x y z) = 0 := by
 obtain ⟨a1, a2⟩ := zmul hx hx (by rw [x0, Rat.zero_mul])
 obtain ⟨b1, b2⟩ := zmul hy hy (by rw [y0, Rat.zero_mul])
 obtain ⟨c1, c2⟩ := zmul hz hz (by rw [z0, Rat.zero_mul])
 obtain ⟨d1, d2⟩ := zadd a1 b1 (by rw [a2, b2, Rat.add_zero])
 have e := zadd d1 c1 (by rw [d2, c2, Rat.add_zero])
 exact root_zero e.1 e.2
theorem islen_no (K : Nat) {n : F32} (hn : Num n) (h0 : val n = 0) : impl_isLength K n = some false := by
 unfold impl_isLength
 rw [isfin_impl K hn, bind_of, ite2_true, bind_of]
 congr 1
 rw [← Bool.not_eq_true, ne_val hn z32.1, z32.2]
 exact fun h => h h0
def Ax (a b c : F32) : Prop := Num a ∧ Num b ∧ Num c ∧ (val a).abs ≤ 2 ∧ (val b).abs ≤ 2 ∧ (val c).abs ≤ 2 ∧ 98 / 100 ≤ val a * val a + val b * val b + val c * val c ∧ val a * val a + val b * val b + val c * val c ≤ 102 / 100
theorem ax_of {x y z l : F32} {m : Rat} (hx : Num x) (hy : Num y) (hz : Num z) (hl : Num l) (hm : m * val l = 1) (hu : (val x * m * (val x * m) + val y * m * (val y * m) + val z * m * (val z * m) - 1).abs ≤ 12 / 10000000) : Ax (x.div l) (y.div l) (z.div l) := by
 obtain ⟨b1, b2, b3⟩ := unit_abs3 hu
 have one : ∀ {x : F32}, Num x → (val x * m).abs ≤ 101 / 100 → Num (x.div l) ∧ (val (x.div l)).abs ≤ 2 ∧ (val (x.div l) * val (x.div l) - val x * m * (val x * m)).abs ≤ 3 / 1000000 := by
  intro x hx hb
  obtain ⟨d1, d2⟩ := div_near hx hl hm (Rat.le_trans hb (by decide +kernel))
  obtain ⟨c1, c2⟩ := abs_bounds d2
  obtain ⟨c3, c4⟩ := abs_bounds hb
  refine ⟨d1, abs_le (by grind) (by grind), ?_⟩
  have e : val (x.div l) * val (x.div l) - val x * m * (val x * m) = (val (x.div l) - val x * m) * (val (x.div l) + val x * m) := by grind
  rw [e, mul_abs]
  exact Rat.le_trans (mul_le_mul' d2 (show (val (x.div l) + val x * m).abs ≤ 3 from abs_le (by grind) (by grind)) Rat.abs_nonneg (by decide +kernel)) (by decide +kernel)
 obtain ⟨a1, a2, a3⟩ := one hx b1
 obtain ⟨a4, a5, a6⟩ := one hy b2
 obtain ⟨a7, a8, a9⟩ := one hz b3
 obtain ⟨e1, e2⟩ := abs_bounds a3
 obtain ⟨e3, e4⟩ := abs_bounds a6
 obtain ⟨e5, e6⟩ := abs_bounds a9
 obtain ⟨e7, e8⟩ := abs_bounds hu
 exact ⟨a1, a4, a7, a2, a5, a8, by grind, by grind⟩
theorem axis_gen {q : Q4} (u : U4 q) (hn : Nt (mt q)) : ∃ a b c, impl_AxisOf 100 (mt q) = some (Vector.mk a b c) ∧ Ax a b c := by
 obtain ⟨k1, k2, k3, k4⟩ := u.bound
 obtain ⟨nw, nx, ny, nz⟩ := u.1
 have le5 : ∀ {x : Rat}, x.abs ≤ 10001 / 10000 → x.abs ≤ 500 := fun h => Rat.le_trans h (by decide +kernel)
 have sq2 : ∀ {x : Rat}, x.abs ≤ 10001 / 10000 → x * x ≤ 2 := fun {x} h => by
  have := mul_le_mul' h h Rat.abs_nonneg (by decide +kernel)
  rw [← mul_abs, Rat.abs_of_nonneg (sq_nonneg x)] at this
  exact Rat.le_trans this (by decide +kernel)
 obtain ⟨-, l1, l2, l3⟩ := lenV_near nx ny nz (le5 k2) (le5 k3) (le5 k4)
 have s1 := sq2 k2
 have s2 := sq2 k3
 have s3 := sq2 k4
 have p1 := sq_nonneg (val q.x)
 have p2' := sq_nonneg (val q.y)
 have p3 := sq_nonneg (val q.z)
 have hvx : (vq q).x = val q.x := rfl
 have hvy : (vq q).y = val q.y := rfl
 have hvz : (vq q).z = val q.z := rfl
 rw [hvx] at s1
 rw [hvy] at s2
 rw [hvz] at s3
 unfold impl_AxisOf impl_Turn_vector
 rw [bind_of, show Vector.mk (mt q).X (mt q).Y (mt q).Z = Vector.mk q.x q.y q.z from rfl, long_impl, bind_of]
 by_cases big : 1 / 10000 ≤ val q.x * val q.x + val q.y * val q.y + val q.z * val q.z
 ·obtain ⟨L0, m, m0, hm, hu⟩ := dir_of2 l2 big (by grind) l3
  rw [islen_impl 100 l1 (Rat.ne_of_gt L0), bind_of, Bool.not_true, ite2_false]
  cases h : (mt q).W.lt' (Fl.mk (k := .f32) 0 (by decide))
  ·rw [ite2_false]
   refine ⟨_, _, _, rfl, ax_of nx ny nz l1 hm ?_⟩
   have e : val q.x * m * (val q.x * m) + val q.y * m * (val q.y * m) + val q.z * m * (val q.z * m) = m * m * (val q.x * val q.x + val q.y * val q.y + val q.z * val q.z) := by grind
   rw [e]; exact hu
  ·rw [ite2_true]
   refine ⟨q.x.neg.div (lenV q.x q.y q.z), q.y.neg.div (lenV q.x q.y q.z), q.z.neg.div (lenV q.x q.y q.z), rfl, ax_of (neg_val nx).1 (neg_val ny).1 (neg_val nz).1 l1 hm ?_⟩
   rw [(neg_val nx).2, (neg_val ny).2, (neg_val nz).2]
   have e : -val q.x * m * (-val q.x * m) + -val q.y * m * (-val q.y * m) + -val q.z * m * (-val q.z * m) = m * m * (val q.x * val q.x + val q.y * val q.y + val q.z * val q.z) := by grind
   rw [e]; exact hu
 ·have hs := Rat.not_le.1 big
  obtain ⟨-, h1, h2, h3⟩ := hn
  have z1 : val q.x = 0 := by
   rcases h1 with h | h
   ·exact h
   ·have h : 1 / 2500 ≤ val q.x * val q.x := h
    grind
  have z2 : val q.y = 0 := by
   rcases h2 with h | h
   ·exact h
   ·have h : 1 / 2500 ≤ val q.y * val q.y := h
    grind
  have z3 : val q.z = 0 := by
   rcases h3 with h | h
   ·exact h
   ·have h : 1 / 2500 ≤ val q.z * val q.z := h
    grind
  obtain ⟨L1, L2⟩ := len_zero nx ny nz z1 z2 z3
  rw [islen_no 100 L1 L2, bind_of, Bool.not_false, ite2_true]
  have dz : Num (default : F32) ∧ val (default : F32) = 0 := z32
  obtain ⟨o1, o2⟩ := one_c
  refine ⟨_, _, _, rfl, dz.1, dz.1, o1, ?_, ?_, ?_, ?_, ?_⟩
  ·rw [dz.2]; decide +kernel
  ·rw [dz.2]; decide +kernel
  ·rw [o2]; decide +kernel
  ·rw [dz.2, o2]; decide +kernel
  ·rw [dz.2, o2]; decide +kernel
end Go.Fw

namespace Go.Fw
open Go

def mF (i : Nat) : F32 := (Fl.ofInt .f32 (i : Int)).div (Fl.mk (k := .f32) 1098907648 (by decide))
theorem mF_ok : ∀ i : Fin 9, (numD (Ieee.single.read (mF i.val).bits) && decide (val (mF i.val) * 16 = (i.val : Rat))) = true := by decide +kernel
theorem mF_val {i : Nat} (h : i < 9) : Num (mF i) ∧ val (mF i) * 16 = (i : Rat) := by
 have := mF_ok ⟨i, h⟩
 simp only [Bool.and_eq_true, decide_eq_true_eq] at this
 exact ⟨num_of_fin this.1, this.2⟩
theorem mF_t : ∀ i : Fin 7, ((mF (i.val + 1)).bits == (tF (4 * i.val + 3)).bits) = true := by decide +kernel
def h0F : F64 := (Fl.cv .f32 .f64 (mF 0)).div (Fl.mk (k := .f64) 4611686018427387904 (by decide))
theorem sin0 : (sinB (impl_wideSine 100 h0F) == some (true, 0)) = true := by decide +kernel
theorem cos0 : (sinB (impl_wideSine 100 (h0F.add (Fl.mk (k := .f64) 4598175219545276416 (by decide)))) == some (true, 1065353216)) = true := by decide +kernel
theorem flOf0 : flOf 0 = Fl.mk (k := .f32) 0 (by decide) := (flOf_eq (x := Fl.mk (k := .f32) 0 (by decide)) rfl).symm
theorem flOf1 : flOf 1065353216 = Fl.mk (k := .f32) 1065353216 (by decide) := (flOf_eq (x := Fl.mk (k := .f32) 1065353216 (by decide)) rfl).symm
theorem about_ax {n : Nat} (hn : n < 31) {a b c : F32} (h : Ax a b c) : ∃ l, impl_TurnAbout 100 (Vector.mk a b c) (tF n) = some l ∧ ∃ r, impl_AngleOf 100 l = some r ∧ Num r ∧ (val r - val (tF n)).abs ≤ 7 / 100000 := by
 obtain ⟨na, nb, nc, ba, bb, bc, h1, h2⟩ := h
 have le4 : ∀ {x : Rat}, x.abs ≤ 2 → x.abs ≤ 4 := fun h => Rat.le_trans h (by decide +kernel)
 obtain ⟨l1, n0, n8, uT, u1, u2, u3, k, hk, e1, e2, e3, hu, q1, q2, q3⟩ := about_facts hn na nb nc (le4 ba) (le4 bb) (le4 bc) (by grind) (by grind)
 obtain ⟨t1, t2, t3, t4, t5, t6, t7, t8, t9, t10⟩ := tab_facts hn
 obtain ⟨m1, m2, m3, m4⟩ := len_close (η := val (sF n) * (7 / 10000000)) uT.1.2.1 uT.1.2.2.1 uT.1.2.2.2 t6 (Rat.le_trans t7 (by decide +kernel)) hu (by grind) (by grind) q1 q2 q3
 have wq : (aboutQ n a b c).w = cF' n := rfl
 obtain ⟨w1, w2⟩ := abs32_val (x := (aboutQ n a b c).w) uT.1.1
 rw [wq, Rat.abs_of_nonneg (show 0 ≤ val (cF' n) by grind)] at w2
 have hz0 : (val (aboutQ n a b c).w.abs32 - val (cF' n)).abs ≤ 5 / 100000 := by rw [wq, w2, Rat.sub_self]; decide +kernel
 obtain ⟨g1, g2, g3⟩ := ang_t hn m1 w1 (Rat.le_trans m3 (by grind)) hz0
 exact ⟨_, about_impl hn l1 n0, _, angle_impl (by decide) uT.fair, g2, g3⟩
theorem about_ax0 {a b c : F32} (h : Ax a b c) : ∃ l, impl_TurnAbout 100 (Vector.mk a b c) (mF 0) = some l ∧ ∃ r, impl_AngleOf 100 l = some r ∧ Num r ∧ val r ≤ 1 / 10000 := by
 obtain ⟨na, nb, nc, ba, bb, bc, h1, h2⟩ := h
 have le5 : ∀ {x : Rat}, x.abs ≤ 2 → x.abs ≤ 500 := fun h => Rat.le_trans h (by decide +kernel)
 obtain ⟨-, l1, l2, l3⟩ := lenV_near na nb nc (le5 ba) (le5 bb) (le5 bc)
 obtain ⟨n0, m, m0, hm, hu⟩ := dir_of2 l2 (by grind) (by grind) l3
 have hu' : (val a * m * (val a * m) + val b * m * (val b * m) + val c * m * (val c * m) - 1).abs ≤ 12 / 10000000 := by
  have e : val a * m * (val a * m) + val b * m * (val b * m) + val c * m * (val c * m) = m * m * (val a * val a + val b * val b + val c * val c) := by grind
  rw [e]; exact hu
 obtain ⟨A1, A2, A3, -⟩ := ax_of na nb nc l1 hm hu'
 obtain ⟨v, e1, e2, e3⟩ := sin_of sin0
 obtain ⟨w, e4, e5, e6⟩ := sin_of cos0
 rw [flOf0] at e3
 rw [flOf1] at e6
 obtain ⟨z1, z2⟩ := z32
 obtain ⟨p1, p2'⟩ := zmul A1 z1 (by rw [z2, Rat.mul_zero])
 obtain ⟨p3, p4⟩ := zmul A2 z1 (by rw [z2, Rat.mul_zero])
 obtain ⟨p5, p6⟩ := zmul A3 z1 (by rw [z2, Rat.mul_zero])
 obtain ⟨L1, L2⟩ := len_zero p1 p3 p5 p2' p4 p6
 obtain ⟨o1, o2⟩ := one_c
 obtain ⟨u1, u2⟩ := abs32_val o1
 rw [o2, Rat.abs_of_nonneg (by decide)] at u2
 obtain ⟨v1, v2⟩ := widen_val L1
 obtain ⟨v3, v4⟩ := widen_val u1
 obtain ⟨w1, w2⟩ := ang_small5 (e := 0) v1 v3 (by rw [v2, L2]; exact Rat.le_refl) (by rw [v4, u2]; decide +kernel) (by decide +kernel) (by rw [v2, L2]; exact Rat.le_refl)
 have wn := (ang_in v1 v3 (by rw [v2, L2]; exact Rat.le_refl) (by rw [v4, u2]; decide) (.inr (by rw [v4, u2]; decide))).1
 obtain ⟨x1, x2, x3⟩ := ang32 wn w1 (by grind)
 obtain ⟨g1, g2⟩ := abs_bounds x3
 refine ⟨mt ⟨Fl.mk (k := .f32) 1065353216 (by decide), (a.div (lenV a b c)).mul (Fl.mk (k := .f32) 0 (by decide)), (b.div (lenV a b c)).mul (Fl.mk (k := .f32) 0 (by decide)), (c.div (lenV a b c)).mul (Fl.mk (k := .f32) 0 (by decide))⟩, ?_, _, ?_, x2, by grind⟩
 ·unfold impl_TurnAbout
  rw [long_impl, bind_of, islen_impl 100 l1 (Rat.ne_of_gt n0), bind_of, Bool.not_true, ite2_false]
  rw [show (Fl.cv .f32 .f64 (mF 0)).div (Fl.mk (k := .f64) 4611686018427387904 (by decide)) = h0F from rfl, e1, bind_of, chk_pos e2, e4, bind_of, chk_pos e5]
  unfold impl_Vector_over impl_ScaleVector impl_turnOf
  rw [bind_of, bind_of, bind_of, e3, e6]; rfl
 ·unfold impl_AngleOf impl_Turn_vector
  rw [bind_of, show Vector.mk (mt ⟨Fl.mk (k := .f32) 1065353216 (by decide), (a.div (lenV a b c)).mul (Fl.mk (k := .f32) 0 (by decide)), (b.div (lenV a b c)).mul (Fl.mk (k := .f32) 0 (by decide)), (c.div (lenV a b c)).mul (Fl.mk (k := .f32) 0 (by decide))⟩).X (mt ⟨Fl.mk (k := .f32) 1065353216 (by decide), (a.div (lenV a b c)).mul (Fl.mk (k := .f32) 0 (by decide)), (b.div (lenV a b c)).mul (Fl.mk (k := .f32) 0 (by decide)), (c.div (lenV a b c)).mul (Fl.mk (k := .f32) 0 (by decide))⟩).Y (mt ⟨Fl.mk (k := .f32) 1065353216 (by decide), (a.div (lenV a b c)).mul (Fl.mk (k := .f32) 0 (by decide)), (b.div (lenV a b c)).mul (Fl.mk (k := .f32) 0 (by decide)), (c.div (lenV a b c)).mul (Fl.mk (k := .f32) 0 (by decide))⟩).Z = Vector.mk ((a.div (lenV a b c)).mul (Fl.mk (k := .f32) 0 (by decide))) ((b.div (lenV a b c)).mul (Fl.mk (k := .f32) 0 (by decide))) ((c.div (lenV a b c)).mul (Fl.mk (k := .f32) 0 (by decide))) from rfl, long_impl, bind_of, size_impl, bind_of]
  have hA := angT (K := 100) (by decide) L1 u1 (.inl (by rw [u2]; decide)) x1
  rw [show (mt ⟨Fl.mk (k := .f32) 1065353216 (by decide), (a.div (lenV a b c)).mul (Fl.mk (k := .f32) 0 (by decide)), (b.div (lenV a b c)).mul (Fl.mk (k := .f32) 0 (by decide)), (c.div (lenV a b c)).mul (Fl.mk (k := .f32) 0 (by decide))⟩).W.abs32 = (Fl.mk (k := .f32) 1065353216 (by decide)).abs32 from rfl, hA, bind_of]
  rfl
theorem limit_in {q : Q4} (u : U4 q) (hn : Nt (mt q)) {i : Nat} (hi : i < 9) : ∃ l, impl_LimitAngle 100 (mt q) (mF i) = some l ∧ (∃ r, impl_AngleOf 100 l = some r ∧ Num r ∧ val r ≤ val (mF i) + 1 / 2000) ∧ ((angQ q).le (mF i) = true → l = mt q) := by
 have f := u.fair
 obtain ⟨-, -, -, -, g1, g2, -⟩ := angQ_near f
 obtain ⟨m1, m2⟩ := mF_val hi
 have ha := angle_impl (K := 100) (by decide) f
 unfold impl_LimitAngle
 rw [ha, bind_of]
 cases h : (angQ q).gt (mF i)
 ·have h' : ¬ (angQ q).gt (mF i) = true := by rw [h]; exact Bool.false_ne_true
  rw [gt_val g1 m1] at h'
  rw [Bool.not_false, ite2_true]
  exact ⟨_, rfl, ⟨_, ha, g1, by have := Rat.not_lt.1 h'; grind⟩, fun _ => rfl⟩
 ·rw [gt_val g1 m1] at h
  rw [Bool.not_true, ite2_false]
  have no : ∀ l : Turn, (angQ q).le (mF i) = true → l = mt q := by
   intro l hl
   rw [le_val g1 m1] at hl
   exact absurd h (Rat.not_lt.2 hl)
  obtain ⟨a, b, c, e1, e2⟩ := axis_gen u hn
  rw [e1, bind_of]
  by_cases h0 : i = 0
  ·subst h0
   obtain ⟨l, x1, r, x2, x3, x4⟩ := about_ax0 e2
   rw [x1, bind_of]
   refine ⟨l, rfl, ⟨r, x2, x3, ?_⟩, no l⟩
   have e : ((0 : Nat) : Rat) = 0 := rfl
   rw [e] at m2
   grind
  ·by_cases h8 : i = 8
   ·subst h8
    have := angQ_half f
    have e : ((8 : Nat) : Rat) = 8 := rfl
    rw [e] at m2
    grind
   ·have ht := eq_of_beq (mF_t ⟨i - 1, by omega⟩)
    have ht2 : mF i = tF (4 * (i - 1) + 3) := by
     apply Fl.ext
     have : mF i = mF (i - 1 + 1) := by congr 1; omega
     rw [this]; exact ht
    obtain ⟨l, x1, r, x2, x3, x4⟩ := about_ax (n := 4 * (i - 1) + 3) (by omega) e2
    rw [← ht2] at x1 x4
    rw [x1, bind_of]
    obtain ⟨y1, y2⟩ := abs_bounds x4
    exact ⟨l, rfl, ⟨r, x2, x3, by grind⟩, no l⟩
end Go.Fw

namespace Go.Fw
open Go

def NV (p : Vector) : Prop := Num p.X ∧ Num p.Y ∧ Num p.Z
theorem points_loop {K : Nat} {c : List Int} (hc : Byt c) : ∀ (n k : Nat) (at_ sd : Int) (acc : List Vector), n < k → n + acc.length ≤ 5 → 0 ≤ at_ → at_ + 6 * (n : Int) ≤ 4611686018427387904 → (∀ p ∈ acc, NV p) →
  ∃ ps, spec_R8Points_l1 K c k (n : Int) at_ sd acc = some ps ∧ ps.length ≤ 5 ∧ ∀ p ∈ ps, NV p
 | 0, k + 1, at_, sd, acc, _, h2, _, _, ha => by
  rw [spec_R8Points_l1, decide_eq_false (by decide), ite2_false]
  exact ⟨acc, rfl, by omega, ha⟩
 | n + 1, k + 1, at_, sd, acc, h1, h2, h3, h4, ha => by
  obtain ⟨v1, a1, s1, e1, ⟨r1, hr1, rfl⟩, g1, g2⟩ := small_q (K := K) hc at_ sd h3 (by omega)
  obtain ⟨v2, a2, s2, e2, ⟨r2, hr2, rfl⟩, g3, g4⟩ := small_q (K := K) hc a1 s1 g1 (by omega)
  obtain ⟨v3, a3, s3, e3, ⟨r3, hr3, rfl⟩, g5, g6⟩ := small_q (K := K) hc a2 s2 g3 (by omega)
  rw [spec_R8Points_l1, decide_eq_true (by omega), ite2_true, e1, bind_of]
  dsimp only
  rw [e2, bind_of]
  dsimp only
  rw [e3, bind_of]
  dsimp only
  rw [chk_pos (by simp only [List.length_singleton]; omega)]
  have hw : IntKind.i64.wrap (((n + 1 : Nat) : Int) - 1) = (n : Int) := by
   unfold IntKind.wrap; simp [IntKind.signed, IntKind.bits]; omega
  rw [hw]
  refine points_loop hc n k a3 s3 _ (by omega) (by simp only [List.length_append, List.length_singleton]; omega) g5 (by omega) ?_
  intro p hp
  rcases List.mem_append.1 hp with h | h
  ·exact ha p h
  ·rw [List.mem_singleton] at h
   subst h
   exact ⟨(qF_val hr1).1, (qF_val hr2).1, (qF_val hr3).1⟩
theorem points_in {c : List Int} (hc : Byt c) : ∃ ps, spec_R8Points 100 c = some ps ∧ ps.length ≤ 5 ∧ ∀ p ∈ ps, NV p := by
 obtain ⟨v, a1, s1, e1, hv, g1, g2⟩ := pick_dr (K := 100) hc 0 0 4 (by decide) (by decide)
 unfold spec_R8Points
 rw [e1, bind_of]
 dsimp only
 have hv' : 0 ≤ v ∧ v < 4 := by omega
 have hw : IntKind.i64.wrap ((2 : Int) + v) = ((2 + v).toNat : Int) := by
  unfold IntKind.wrap; simp [IntKind.signed, IntKind.bits]; omega
 rw [hw]
 exact points_loop hc (2 + v).toNat 100 a1 s1 [] (by omega) (by simp only [List.length_nil]; omega) g1 (by omega) (fun p hp => by cases hp)
def liftV (f : F32) (p : Vector) : Vector := if p.Y.lt' f = true then Vector.mk p.X f p.Z else p
theorem lift_loop (f : F32) (v2 : List Vector) (hl : v2.length ≤ 5) : ∀ (m k i : Nat) (ys : List Vector), i + m = v2.length → ys.length = v2.length → m < k →
  ∃ ls, impl_LiftPoints_l1 100 f v2 k (i : Int) ys = some (ls, true) ∧ ls.length = ys.length ∧ ∀ j, j < ys.length → ls.getD j default = if i ≤ j then liftV f (ys.getD j default) else ys.getD j default
 | 0, k + 1, i, ys, h1, h2, _ => by
  rw [impl_LiftPoints_l1, decide_eq_false (by omega), ite2_false]
  exact ⟨ys, rfl, rfl, fun j hj => by rw [if_neg (by omega)]⟩
 | m + 1, k + 1, i, ys, h1, h2, h3 => by
  have hw : IntKind.i64.wrap ((i : Int) + 1) = ((i + 1 : Nat) : Int) := by
   unfold IntKind.wrap; simp [IntKind.signed, IntKind.bits]; omega
  have ht : ((i : Int)).toNat = i := by omega
  rw [impl_LiftPoints_l1, decide_eq_true (by omega), ite2_true, chk_pos (by omega), hw, ht]
  cases h : (ys.getD i default).Y.lt' f
  ·rw [ite2_false]
   obtain ⟨ls, e1, e2, e3⟩ := lift_loop f v2 hl m k (i + 1) ys (by omega) h2 (by omega)
   refine ⟨ls, e1, e2, fun j hj => ?_⟩
   rw [e3 j hj]
   by_cases hj2 : j = i
   ·subst hj2
    rw [if_neg (by omega), if_pos (Nat.le_refl _)]
    unfold liftV
    rw [h]; rfl
   ·by_cases hj3 : i ≤ j
    ·rw [if_pos (by omega), if_pos hj3]
    ·rw [if_neg (by omega), if_neg hj3]
  ·rw [ite2_true, bind_of]
   obtain ⟨ls, e1, e2, e3⟩ := lift_loop f v2 hl m k (i + 1) (ys.set i (Vector.mk (ys.getD i default).X f (ys.getD i default).Z)) (by omega) (by rw [List.length_set]; exact h2) (by omega)
   rw [List.length_set] at e2
   refine ⟨ls, e1, e2, fun j hj => ?_⟩
   rw [e3 j (by rw [List.length_set]; exact hj)]
   have hgd : (ys.set i (Vector.mk (ys.getD i default).X f (ys.getD i default).Z)).getD j default = if j = i then Vector.mk (ys.getD i default).X f (ys.getD i default).Z else ys.getD j default := by
    rw [List.getD_eq_getElem?_getD, List.getElem?_set]
    by_cases hj2 : j = i
    ·subst hj2
     rw [if_pos rfl, if_pos rfl, if_pos (by omega)]; rfl
    ·rw [if_neg (fun h => hj2 h.symm), if_neg hj2, List.getD_eq_getElem?_getD]
   rw [hgd]
   by_cases hj2 : j = i
   ·subst hj2
    rw [if_neg (by omega), if_pos rfl, if_pos (Nat.le_refl _)]
    unfold liftV
    rw [h, if_pos rfl]
   ·rw [if_neg hj2]
    by_cases hj3 : i ≤ j
    ·rw [if_pos (by omega), if_pos hj3]
    ·rw [if_neg (by omega), if_neg hj3]
theorem lift_in (f : F32) {ps : List Vector} (hl : ps.length ≤ 5) : ∃ ls, impl_LiftPoints 100 ps f = some (ls, true) ∧ ls.length = ps.length ∧ ∀ j, j < ps.length → ls.getD j default = liftV f (ps.getD j default) := by
 unfold impl_LiftPoints slices_Clone_impl_Vector_impl_Vector
 rw [decide_eq_false (by omega), ite2_false, chk_pos (by simp only [List.length_nil]; omega), bind_of, List.nil_append]
 obtain ⟨ls, e1, e2, e3⟩ := lift_loop f ps hl ps.length 100 0 ps (by omega) rfl (by omega)
 refine ⟨ls, e1, e2, fun j hj => ?_⟩
 rw [e3 j hj, if_pos (Nat.zero_le _)]
theorem body_ok {f : F32} (hf : Num f) {p : Vector} (hp : NV p) {C : Prop} [Decidable C] (hC : C) :
  ite2 ((liftV f p).Y.lt' f) (some true) (chk C (ite2 (p.Y.ge f) (ite2 (!((liftV f p).X.eq p.X && ((liftV f p).Y.eq p.Y && ((liftV f p).Z.eq p.Z && true)))) (some true) (ite2 ((liftV f p).X.ne p.X) (some true) (some ((liftV f p).Z.ne p.Z)))) (ite2 ((liftV f p).X.ne p.X) (some true) (some ((liftV f p).Z.ne p.Z))))) = some false := by
 obtain ⟨h1, h2, h3⟩ := hp
 have rx : p.X.eq p.X = true := (eq_val h1 h1).2 rfl
 have ry : p.Y.eq p.Y = true := (eq_val h2 h2).2 rfl
 have rz : p.Z.eq p.Z = true := (eq_val h3 h3).2 rfl
 have nx : p.X.ne p.X = false := ne_false h1 h1 rfl
 have nz : p.Z.ne p.Z = false := ne_false h3 h3 rfl
 cases h : p.Y.lt' f
 ·have h' : ¬ p.Y.lt' f = true := by rw [h]; exact Bool.false_ne_true
  rw [lt_val h2 hf] at h'
  have e : liftV f p = p := by unfold liftV; rw [h]; rfl
  rw [e, h, ite2_false, chk_pos hC, ge_true h2 hf (Rat.not_lt.1 h'), ite2_true, rx, ry, rz, nx, nz]; rfl
 ·have h' := (lt_val h2 hf).1 h
  have e : liftV f p = Vector.mk p.X f p.Z := by unfold liftV; rw [h, if_pos rfl]
  rw [e]
  dsimp only
  rw [lt_false hf hf Rat.le_refl, ite2_false, chk_pos hC, ge_false h2 hf h', ite2_false, nx, ite2_false, nz]
def flF (n : Nat) : F32 := (Fl.ofInt .f32 (IntKind.i64.wrap ((n : Int) - (8 : Int)))).div (Fl.mk (k := .f32) 1082130432 (by decide))
theorem flF_ok : ∀ n : Fin 17, numD (Ieee.single.read (flF n.val).bits) = true := by decide +kernel
def lF (n : Nat) : F32 := (Fl.ofInt .f32 (IntKind.i64.wrap ((n : Int) - (8 : Int)))).div (Fl.mk (k := .f32) 1098907648 (by decide))
theorem lF_ok : ∀ n : Fin 8, (numD (Ieee.single.read (lF n.val).bits) && decide (-(1 / 2) ≤ val (lF n.val)) && decide (val (lF n.val) ≤ 0) && (lF n.val).ge (Fl.mk (k := .f32) 3204448256 (by decide))) = true := by decide +kernel
def hiF (n : Nat) : F32 := (mF n).add (Fl.mk (k := .f32) 1031798784 (by decide))
theorem hiF_ok : ∀ n : Fin 9, (numD (Ieee.single.read (hiF n.val).bits) && decide (0 < val (hiF n.val)) && (hiF n.val).ge (Fl.mk (k := .f32) 3204448256 (by decide)) && (mF n.val).le (Fl.mk (k := .f32) 1056964608 (by decide))) = true := by decide +kernel
theorem limit_fail (t : Turn) (ax : Vector) {n m : Nat} (hn : n < 9) (hm : m < 8) : impl_LimitHinge 100 t ax (hiF n) (lF m) = some (Turn.mk (default : F32) (default : F32) (default : F32) (default : F32), false) := by
 have h1 := hiF_ok ⟨n, hn⟩
 have h2 := lF_ok ⟨m, hm⟩
 simp only [Bool.and_eq_true, decide_eq_true_eq] at h1 h2
 obtain ⟨⟨⟨a1, a2⟩, a3⟩, a4⟩ := h1
 obtain ⟨⟨⟨b1, b2⟩, b3⟩, b4⟩ := h2
 have hle : (hiF n).le (lF m) = false := by
  rw [← Bool.not_eq_true, le_val (num_of_fin a1) (num_of_fin b1)]
  exact Rat.not_le.2 (by grind)
 unfold impl_LimitHinge
 rw [a3, Bool.not_true, ite2_false, hle, Bool.not_false, ite2_true, bind_of, ite2_true]
theorem l1_ok {q : Turn} {ps ls : List Vector} {n m x : Nat} (hn : n < 9) (hm : m < 8) (hx : x < 17) (hp : ∀ p ∈ ps, NV p) (hl : ps.length ≤ 5) (h1 : ls.length = ps.length) (h2 : ∀ j, j < ps.length → ls.getD j default = liftV (flF x) (ps.getD j default)) :
  ∀ (r k i : Nat), i + r = ps.length → r < k → laws_FnLimits_l1 100 q (m : Int) (n : Int) ps (x : Int) (ls, true) k (i : Int) = some true ∧ laws_FnLimits_l2 100 q (m : Int) (n : Int) ps (x : Int) (ls, true) k (i : Int) = some true ∧ laws_FnLimits_l3 100 q (m : Int) (n : Int) ps (x : Int) (ls, true) k (i : Int) = some true ∧ laws_FnLimits_l4 100 q (m : Int) (n : Int) ps (x : Int) (ls, true) k (i : Int) = some true
 | 0, k + 1, i, e, _ => by
  have hf : impl_LimitHinge 100 q (Vector.mk (default : F32) (default : F32) (Fl.mk (k := .f32) 1065353216 (by decide))) (((Fl.ofInt .f32 (n : Int)).div (Fl.mk (k := .f32) 1098907648 (by decide))).add (Fl.mk (k := .f32) 1031798784 (by decide))) ((Fl.ofInt .f32 (IntKind.i64.wrap ((m : Int) - (8 : Int)))).div (Fl.mk (k := .f32) 1098907648 (by decide))) = _ := limit_fail q _ hn hm
  rw [laws_FnLimits_l1, laws_FnLimits_l2, laws_FnLimits_l3, laws_FnLimits_l4, decide_eq_false (by omega), ite2_false, hf, bind_of]
  exact ⟨rfl, rfl, rfl, rfl⟩
 | r + 1, k + 1, i, e, hk => by
  have hw : IntKind.i64.wrap ((i : Int) + 1) = ((i + 1 : Nat) : Int) := by
   unfold IntKind.wrap; simp [IntKind.signed, IntKind.bits]; omega
  have ht : ((i : Int)).toNat = i := by omega
  have hpi : NV (ps.getD i default) := by
   rw [List.getD_eq_getElem?_getD, List.getElem?_eq_getElem (show i < ps.length by omega)]
   exact hp _ (List.getElem_mem _)
  have hb := body_ok (num_of_fin (flF_ok ⟨x, hx⟩)) hpi (C := 0 ≤ (i : Int) ∧ (i : Int) < (ps.length : Int)) (by omega)
  have ih := l1_ok (q := q) hn hm hx hp hl h1 h2 r k (i + 1) (by omega) (by omega)
  unfold flF at hb h2
  refine ⟨?_, ?_, ?_, ?_⟩
  ·rw [laws_FnLimits_l1, decide_eq_true (by omega), ite2_true, chk_pos (by dsimp only; omega), hw, ht]
   dsimp only
   rw [h2 i (by omega), hb, bind_of, ite2_false]
   exact ih.1
  ·rw [laws_FnLimits_l2, decide_eq_true (by omega), ite2_true, chk_pos (by dsimp only; omega), hw, ht]
   dsimp only
   rw [h2 i (by omega), hb, bind_of, ite2_false]
   exact ih.2.1
  ·rw [laws_FnLimits_l3, decide_eq_true (by omega), ite2_true, chk_pos (by dsimp only; omega), hw, ht]
   dsimp only
   rw [h2 i (by omega), hb, bind_of, ite2_false]
   exact ih.2.2.1
  ·rw [laws_FnLimits_l4, decide_eq_true (by omega), ite2_true, chk_pos (by dsimp only; omega), hw, ht]
   dsimp only
   rw [h2 i (by omega), hb, bind_of, ite2_false]
   exact ih.2.2.2
end Go.Fw

namespace Go.Fw
open Go

theorem gap0 {r : F32} (hr : Num r) (h : (val r).abs ≤ 1 / 2000) : (((Fl.cv .f32 .f64 r).sub (Fl.mk (k := .f64) 0 (by decide))).maxF ((Fl.mk (k := .f64) 0 (by decide)).sub (Fl.cv .f32 .f64 r))).gt (Fl.mk (k := .f64) 4562254508917369340 (by decide)) = false := by
 obtain ⟨a1, a2⟩ := widen_val hr
 have c : Num (Fl.mk (k := .f64) 4562254508917369340 (by decide)) ∧ val (Fl.mk (k := .f64) 4562254508917369340 (by decide)) = 4611686018427388 * p2 (-62) := const_val (s := false) (m := 4611686018427388) (p := -62) (by decide) (by decide +kernel)
 have cl : 99 / 100000 ≤ val (Fl.mk (k := .f64) 4562254508917369340 (by decide)) := by rw [c.2]; decide +kernel
 obtain ⟨g1, g2⟩ := gap_le a1 zero64.1 (B := 1 / 2000) (by rw [a2, zero64.2, show val r - 0 = val r by grind]; exact h) (by decide +kernel)
 exact gt_false g1 c.1 (by grind)
theorem gt_most {x y : F32} (hx : Num x) (hy : Num y) (y0 : 0 ≤ val y) (y1 : val y ≤ 1) (h : val x ≤ val y + 1 / 2000) : (Fl.cv .f32 .f64 x).gt ((Fl.cv .f32 .f64 y).add (Fl.mk (k := .f64) 4562254508917369340 (by decide))) = false := by
 obtain ⟨a1, a2⟩ := widen_val hx
 obtain ⟨b1, b2⟩ := widen_val hy
 have c : Num (Fl.mk (k := .f64) 4562254508917369340 (by decide)) ∧ val (Fl.mk (k := .f64) 4562254508917369340 (by decide)) = 4611686018427388 * p2 (-62) := const_val (s := false) (m := 4611686018427388) (p := -62) (by decide) (by decide +kernel)
 have cl : 99 / 100000 ≤ val (Fl.mk (k := .f64) 4562254508917369340 (by decide)) := by rw [c.2]; decide +kernel
 have cu : val (Fl.mk (k := .f64) 4562254508917369340 (by decide)) ≤ 1 / 100 := by rw [c.2]; decide +kernel
 obtain ⟨s1, s2, -⟩ := nearA64 b1 c.1 (by rw [b2]; exact abs_le (by grind) (by grind))
 obtain ⟨d1, d2⟩ := abs_bounds s2
 rw [b2] at d2
 exact gt_false a1 s1 (by rw [a2]; grind)
theorem gapL_impl (K : Nat) (a b : F64) : laws_r8Gap K a b = some ((a.sub b).maxF (b.sub a)) := rfl
theorem same_self {K : Nat} {x : F32} (hx : Num x) : impl_SameNumber K x x = some true := by
 unfold impl_SameNumber math_Signbit math_Float64bits
 rw [ne_false hx hx rfl, ite2_false, bind_of, ite2_false, (eq_val hx hx).2 rfl, ite2_true]
 obtain ⟨n, hn⟩ : ∃ n, (Fl.cv .f32 .f64 x).toBits = some n := by
  unfold Fl.toBits
  obtain ⟨s, m, p, e⟩ := (widen_val hx).1
  have hnan : nanB .f64 (Fl.cv .f32 .f64 x).bits = false := by show (Ieee.double.read (Fl.cv .f32 .f64 x).bits).isNaN = false; rw [show Ieee.double.read (Fl.cv .f32 .f64 x).bits = _ from e]; rfl
  rw [hnan]
  exact ⟨_, rfl⟩
 rw [hn, bind_of, bind_of, bind_of, bind_of, beq_self_eq_true]
theorem sameT_self {K : Nat} {q : Q4} (h : N4 q) : impl_SameTurn K (mt q) (mt q) = some true := by
 obtain ⟨a, b, c, d⟩ := h
 unfold impl_SameTurn
 rw [show impl_SameNumber K (mt q).W (mt q).W = some true from same_self a, bind_of, ite2_true, show impl_SameNumber K (mt q).X (mt q).X = some true from same_self b, bind_of, ite2_true, show impl_SameNumber K (mt q).Y (mt q).Y = some true from same_self c, bind_of, ite2_true, show impl_SameNumber K (mt q).Z (mt q).Z = some true from same_self d, bind_of, bind_of]
theorem limits_true (a b : List Int) (ha : Byt a) (hb : Byt b) : ∃ K, laws_FnLimits K a b = some true := by
 refine ⟨100, ?_⟩
 have hK : 16 < 100 := by decide
 unfold laws_FnLimits laws_r8Long
 rw [ite2_dec]
 by_cases la : (a.length : Int) > 48
 ·rw [if_pos la, bind_of, bind_of, ite2_true]
 rw [if_neg la, bind_of]
 by_cases lb : (b.length : Int) > 48
 ·rw [decide_eq_true lb, bind_of, ite2_true]
 rw [decide_eq_false lb, bind_of, ite2_false]
 obtain ⟨t, et, ut, nt⟩ := r8turn 100 ha
 obtain ⟨q, rfl⟩ : ∃ q, t = mt q := ⟨tq t, rfl⟩
 have ut : U4 q := ut
 obtain ⟨i, hi, ei⟩ := r8At_in 100 hb 0 9 (by decide) (by decide)
 obtain ⟨m, hm, em⟩ := r8At_in 100 hb 1 8 (by decide) (by decide)
 obtain ⟨n, hn, en⟩ := r8At_in 100 hb 2 9 (by decide) (by decide)
 obtain ⟨x, hx, ex⟩ := r8At_in 100 ha 40 17 (by decide) (by decide)
 have hi : i < 9 := by omega
 have hm : m < 8 := by omega
 have hn : n < 9 := by omega
 have hx : x < 17 := by omega
 obtain ⟨ps, ep, hp5, hpn⟩ := points_in hb
 obtain ⟨ls, el2, h1, h2⟩ := lift_in (flF x) hp5
 unfold flF at el2
 obtain ⟨l, el, ⟨r1, er1, nr1, vr1⟩, hle⟩ := limit_in ut nt hi
 have hz2 : (val q.z).abs ≤ 2 := Rat.le_trans ut.bound.2.2.2 (by decide +kernel)
 obtain ⟨r, er, nr, vr⟩ := hinge_in ut.1 hz2
 obtain ⟨v1, v2⟩ := abs_bounds vr
 obtain ⟨mi1, mi2⟩ := mF_val hi
 obtain ⟨mn1, mn2⟩ := mF_val hn
 have rat : ∀ {k : Nat} {v : Rat}, k < 9 → v * 16 = (k : Rat) → 0 ≤ v ∧ v ≤ 1 / 2 := by
  intro k v hk hv
  have g1 : (k : Rat) ≤ ((8 : Nat) : Rat) := Rat.natCast_le_natCast.2 (by omega)
  have g2 : ((0 : Nat) : Rat) ≤ (k : Rat) := Rat.natCast_le_natCast.2 (by omega)
  have e1 : ((8 : Nat) : Rat) = 8 := rfl
  have e2 : ((0 : Nat) : Rat) = 0 := rfl
  rw [e1] at g1
  rw [e2] at g2
  exact ⟨by grind, by grind⟩
 obtain ⟨i0, i1⟩ := rat hi mi2
 obtain ⟨n0, n1⟩ := rat hn mn2
 have hl := lF_ok ⟨m, hm⟩
 simp only [Bool.and_eq_true, decide_eq_true_eq] at hl
 obtain ⟨⟨⟨b1, b2⟩, b3⟩, b4⟩ := hl
 have b1 := num_of_fin b1
 have hh := hiF_ok ⟨n, hn⟩
 simp only [Bool.and_eq_true, decide_eq_true_eq] at hh
 have hcond1 : (lF m).le (mF n) = true := (le_val b1 mn1).2 (by grind)
 obtain ⟨Tl, tl, zl⟩ := about_z b1 (abs_le (by grind) (by grind))
 obtain ⟨Th, th, zh⟩ := about_z mn1 (abs_le (by grind) (by grind))
 obtain ⟨Tr, tr, zr⟩ := about_z nr vr
 have g1 : r.gt (Fl.mk (k := .f32) 1056964608 (by decide)) = false := gt_false nr half_c.1 (by rw [half_c.2]; exact v1)
 have g2 : r.lt' (Fl.mk (k := .f32) 3204448256 (by decide)) = false := lt_false nr mhalf_c.1 (by rw [mhalf_c.2]; exact v2)
 have hLH : impl_LimitHinge 100 (mt q) (Vector.mk (default : F32) (default : F32) (Fl.mk (k := .f32) 1065353216 (by decide))) (lF m) (mF n) = ite2 (r.lt' (lF m)) (some (mt Tl, true)) (ite2 (r.gt (mF n)) (some (mt Th, true)) (some (mt Tr, true))) := by
  unfold impl_LimitHinge
  rw [b4, Bool.not_true, ite2_false, hcond1, Bool.not_true, ite2_false, hh.2, Bool.not_true, bind_of, ite2_false, er, bind_of, tl, bind_of, th, bind_of, tr, bind_of]
 rw [et, bind_of, ei, bind_of, em, bind_of, en, bind_of]
 rw [show (Fl.ofInt .f32 (i : Int)).div (Fl.mk (k := .f32) 1098907648 (by decide)) = mF i from rfl, show (Fl.ofInt .f32 (n : Int)).div (Fl.mk (k := .f32) 1098907648 (by decide)) = mF n from rfl, show (Fl.ofInt .f32 (IntKind.i64.wrap ((m : Int) - (8 : Int)))).div (Fl.mk (k := .f32) 1098907648 (by decide)) = lF m from rfl]
 rw [el, bind_of, hLH, er]
 have hj : ∀ T : Q4, (ite2 (!(mt T, true).2) (some true) ((impl_AngleOf 100 l).bind fun v19 => ite2 ((Fl.cv .f32 .f64 v19).gt ((Fl.cv .f32 .f64 (mF i)).add (Fl.mk (k := .f64) 4562254508917369340 (by decide)))) (some true) ((impl_AngleOf 100 (mt q)).bind fun v22 => ite2 (v22.le (mF i)) ((impl_SameTurn 100 l (mt q)).bind fun v25 => ite2 (!v25) (some true) (ite2 (r.gt (Fl.mk (k := .f32) 1056964608 (by decide))) (some true) (some (r.lt' (Fl.mk (k := .f32) 3204448256 (by decide)))))) (ite2 (r.gt (Fl.mk (k := .f32) 1056964608 (by decide))) (some true) (some (r.lt' (Fl.mk (k := .f32) 3204448256 (by decide)))))))) = some false := by
  intro T
  dsimp only
  rw [Bool.not_true, ite2_false, er1, bind_of, gt_most nr1 mi1 i0 (by grind) vr1, ite2_false, angle_impl hK ut.fair, bind_of, g1, ite2_false, g2]
  cases hc : (angQ q).le (mF i)
  ·rw [ite2_false]
  ·rw [ite2_true, hle hc, sameT_self ut.1, bind_of, Bool.not_true, ite2_false]
 cases c1 : r.lt' (lF m)
 ·rw [ite2_false]
  cases c2 : r.gt (mF n)
  ·rw [ite2_false, bind_of, bind_of]
   dsimp only
   rw [show (ite2 (!true) _ _ : Option Bool) = some false from hj Tr, bind_of, ite2_false, c1, ite2_false, c2, ite2_false, chk_pos (cv_cv r).1, (cv_cv r).2, tr, bind_of]
   have zT := zr
   obtain ⟨r', s1, s2, s3⟩ := self_apart zT
   rw [s1, bind_of, gapL_impl, bind_of, gap0 s2 s3, ite2_false, ep, bind_of, ex, bind_of, el2, bind_of]
   dsimp only
   rw [Bool.not_true, ite2_false, h1, bne_self_eq_false, bind_of, ite2_false]
   exact (l1_ok (q := mt q) hn hm hx hpn hp5 h1 h2 ps.length 100 0 (by omega) (by omega)).2.2.2
  ·rw [ite2_true, bind_of, bind_of]
   dsimp only
   rw [show (ite2 (!true) _ _ : Option Bool) = some false from hj Th, bind_of, ite2_false, c1, ite2_false, c2, ite2_true, chk_pos (cv_cv (mF n)).1, (cv_cv (mF n)).2, th, bind_of]
   have zT := zh
   obtain ⟨r', s1, s2, s3⟩ := self_apart zT
   rw [s1, bind_of, gapL_impl, bind_of, gap0 s2 s3, ite2_false, ep, bind_of, ex, bind_of, el2, bind_of]
   dsimp only
   rw [Bool.not_true, ite2_false, h1, bne_self_eq_false, bind_of, ite2_false]
   exact (l1_ok (q := mt q) hn hm hx hpn hp5 h1 h2 ps.length 100 0 (by omega) (by omega)).2.2.1
 ·have c2 : r.gt (mF n) = false := gt_false nr mn1 (by have := (lt_val nr b1).1 c1; grind)
  rw [ite2_true, bind_of, bind_of]
  dsimp only
  rw [show (ite2 (!true) _ _ : Option Bool) = some false from hj Tl, bind_of, ite2_false, c1, ite2_true, c2, ite2_false, chk_pos (cv_cv (lF m)).1, (cv_cv (lF m)).2, tl, bind_of]
  have zT := zl
  obtain ⟨r', s1, s2, s3⟩ := self_apart zT
  rw [s1, bind_of, gapL_impl, bind_of, gap0 s2 s3, ite2_false, ep, bind_of, ex, bind_of, el2, bind_of]
  dsimp only
  rw [Bool.not_true, ite2_false, h1, bne_self_eq_false, bind_of, ite2_false]
  exact (l1_ok (q := mt q) hn hm hx hpn hp5 h1 h2 ps.length 100 0 (by omega) (by omega)).2.1
theorem law_FnLimits (a b : List Int) (ha : a.length ≤ maxLen ∧ ∀ x ∈ a, (Lit.int .u8 x).wf = true) (hb : b.length ≤ maxLen ∧ ∀ x ∈ b, (Lit.int .u8 x).wf = true) : ∃ K, laws_FnLimits K a b = some true := by
 have byt : ∀ {c : List Int}, (∀ x ∈ c, (Lit.int .u8 x).wf = true) → Byt c := fun h x hx => by
  have := h x hx
  simp only [Lit.wf, Bool.and_eq_true, decide_eq_true_eq] at this
  have e1 : IntKind.u8.min = 0 := by decide
  have e2 : IntKind.u8.max = 255 := by decide
  omega
 exact limits_true a b (byt ha.2) (byt hb.2)
end Go.Fw

