/- What is drawn out of bytes: numbers in their ranges, nothing fails. -/
import Derived.Test.YtblpjlaihgcilacFwGA
import Derived.Test.YtblpjlaihgcilacFwLW
import Derived.Test.YtblpjlaihgcilacFwFA
import Derived.Test.YtblpjlaihgcilacFwFU
import Derived.KernelRfl
namespace Go.Fw
open Go


/-- Bytes. -/
def Byt (c : List Int) : Prop := ∀ x ∈ c, 0 ≤ x ∧ x < 256
/-- A draw: it yields what is so, and moves on by at most c bytes. -/
def Dr {α : Type} (at_ c : Int) (f : Option (α × Int × Int)) (P : α → Prop) : Prop :=
  0 ≤ at_ → at_ + c ≤ 4611686018427387904 → ∃ r at' sd', f = some (r, at', sd') ∧ P r ∧ 0 ≤ at' ∧ at' ≤ at_ + c
theorem Dr.of {α : Type} {at_ c at' sd : Int} {r : α} {P : α → Prop} (hp : P r) (h : 0 ≤ c) (e : at' = at_) : Dr at_ c (some (r, at', sd)) P := fun h0 _ => ⟨r, at', sd, rfl, hp, by omega, by omega⟩
theorem Dr.bind {α β : Type} {at_ c1 c2 : Int} {f : Option (α × Int × Int)} {g : α × Int × Int → Option (β × Int × Int)} {P : α → Prop} {Q : β → Prop} (h : Dr at_ c1 f P) (h2 : 0 ≤ c2)
    (hg : ∀ r at' sd', P r → Dr at' c2 (g (r, at', sd')) Q) : Dr at_ (c1 + c2) (f.bind g) Q := by
  intro h0 hM
  obtain ⟨r, a1, s1, hf, hp, h3, h4⟩ := h h0 (by omega)
  obtain ⟨r2, a2, s2, hf2, hp2, h5, h6⟩ := hg r a1 s1 hp h3 (by omega)
  exact ⟨r2, a2, s2, by rw [hf]; exact hf2, hp2, h5, by omega⟩
theorem Dr.weak {α : Type} {at_ c c' : Int} {f : Option (α × Int × Int)} {P Q : α → Prop} (h : Dr at_ c f P) (hc : c ≤ c') (hp : ∀ r, P r → Q r) : Dr at_ c' f Q := by
  intro h0 hM
  obtain ⟨r, a1, s1, hf, hp', h3, h4⟩ := h h0 (by omega)
  exact ⟨r, a1, s1, hf, hp r hp', h3, by omega⟩
theorem Dr.ite {α : Type} {at_ c : Int} {f g : Option (α × Int × Int)} {b : Bool} {P : α → Prop} (h1 : b = true → Dr at_ c f P) (h2 : b = false → Dr at_ c g P) : Dr at_ c (ite2 b f g) P := by
  cases b
  · exact h2 rfl
  · exact h1 rfl
theorem Dr.chk {α : Type} {at_ c : Int} {f : Option (α × Int × Int)} {p : Prop} [Decidable p] {P : α → Prop} (hp : p) (h : Dr at_ c f P) : Dr at_ c (chk p f) P := by rw [chk_pos hp]; exact h
theorem u64_wrap (n : Int) : IntKind.u64.wrap n = n % 18446744073709551616 := by simp [IntKind.wrap, IntKind.bits, IntKind.signed]
theorem and255 {x : Int} (h0 : 0 ≤ x) (h1 : x < 4611686018427387904) : bits .and .u64 x 255 = x % 256 := by
  have := bits_mask .u64 62 (by decide) (fun n h0 h1 => by rw [u64_wrap]; omega) 8 (by decide) x h0 (by omega)
  have e : ((2 : Int) ^ 8 - 1) = 255 := by decide
  have e2 : ((2 : Int) ^ 8) = 256 := by decide
  rw [e, e2] at this
  exact this
theorem seed_in (n : Int) : 0 ≤ IntKind.i64.wrap (bits .and .u64 ((IntKind.u64.wrap n).fdiv (2 ^ (min (40 : Int).toNat (IntKind.bits .u64)))) (255 : Int)) ∧ IntKind.i64.wrap (bits .and .u64 ((IntKind.u64.wrap n).fdiv (2 ^ (min (40 : Int).toNat (IntKind.bits .u64)))) (255 : Int)) < 256 := by
  have e : ((2 : Int) ^ (min (40 : Int).toNat (IntKind.bits .u64))) = 1099511627776 := by decide
  rw [e, u64_wrap, Int.fdiv_eq_ediv_of_nonneg _ (by decide)]
  rw [and255 (by omega) (by omega), wrap_in (by omega) (by omega)]
  omega
theorem next_dr {K : Nat} {c : List Int} (hc : Byt c) (at_ sd : Int) : Dr at_ 1 (spec_l00Src_next K (l00Src.mk c at_ sd)) (fun r => 0 ≤ r ∧ r < 256) := by
  intro h0 hM
  have w : IntKind.i64.wrap (at_ + 1) = at_ + 1 := wrap_in (by omega) (by omega)
  unfold spec_l00Src_next
  simp only [w]
  rw [ite2_dec]
  by_cases hlt : at_ < (c.length : Int)
  · have hb := hc _ (getD_mem (xs := c) (i := at_.toNat) (by omega))
    rw [if_pos hlt, chk_pos ⟨h0, hlt⟩, ite2_dec]
    split
    · exact ⟨_, _, _, rfl, by rw [wrap_in (by omega) (by omega)]; omega, by omega, by omega⟩
    · rw [chk_pos (by decide)]
      exact ⟨_, _, _, rfl, seed_in _, by omega, by omega⟩
  · rw [if_neg hlt, ite2_dec]
    split
    · exact ⟨_, _, _, rfl, by omega, by omega, by omega⟩
    · rw [chk_pos (by decide)]
      exact ⟨_, _, _, rfl, seed_in _, by omega, by omega⟩
theorem tmod_in {x n : Int} (h0 : 0 ≤ x) (hn : 1 < n) : 0 ≤ x.tmod n ∧ x.tmod n < n := by
  rw [Int.tmod_eq_emod_of_nonneg h0]
  exact ⟨Int.emod_nonneg _ (by omega), Int.emod_lt_of_pos _ (by omega)⟩
theorem pick_dr {K : Nat} {c : List Int} (hc : Byt c) (at_ sd n : Int) : Dr at_ 2 (spec_l00Src_pick K (l00Src.mk c at_ sd) n) (fun r => 0 ≤ r ∧ (r < n ∨ n ≤ 1 ∧ r = 0)) := by
  unfold spec_l00Src_pick
  refine .ite (fun h => .of ⟨by omega, .inr ⟨of_decide_eq_true h, rfl⟩⟩ (by omega) rfl) (fun h => ?_)
  have hn : 1 < n := by have := of_decide_eq_false h; omega
  refine Dr.bind (c1 := 1) (c2 := 1) (next_dr hc at_ sd) (by decide) fun r a1 s1 hr => ?_
  refine .ite (fun h2 => ?_) (fun _ => .chk (by omega) (.of ⟨(tmod_in hr.1 hn).1, .inl (tmod_in hr.1 hn).2⟩ (by omega) rfl))
  refine Dr.weak (c := 1 + 0) (P := fun r => 0 ≤ r ∧ (r < n ∨ n ≤ 1 ∧ r = 0)) (Dr.bind (next_dr hc a1 s1) (by decide) fun r2 a2 s2 hr2 => ?_) (by decide) (fun _ h => h)
  have e : IntKind.i64.wrap (IntKind.i64.wrap (r * 256) + r2) = r * 256 + r2 := by
    rw [wrap_in (n := r * 256) (by omega) (by omega), wrap_in (by omega) (by omega)]
  show Dr a2 0 (Go.Fw.chk (n ≠ 0) (some (((IntKind.i64.wrap ((IntKind.i64.wrap (r * (256 : Int))) + r2)).tmod n), a2, s2))) _
  rw [e]
  exact .chk (by omega) (.of ⟨(tmod_in (by omega) hn).1, .inl (tmod_in (by omega) hn).2⟩ (by omega) rfl)
theorem small_dr {K : Nat} {c : List Int} (hc : Byt c) (at_ sd : Int) : Dr at_ 2 (spec_l01DrawSmall K (l00Src.mk c at_ sd)) (fun _ => True) := by
  unfold spec_l01DrawSmall
  exact Dr.bind (c2 := 0) (pick_dr hc at_ sd 33) (by decide) fun r a1 s1 _ => .of trivial (by omega) rfl

end Go.Fw

namespace Go.Fw
open Go Go.Proofs
noncomputable section

theorem num_i4 (K : Nat) (a0 a1 v1 v3 x : F64) : ∀ (k : Nat) (y : F64) (i : Int), impl_wideAngle_l4 K a0 a1 v1 v3 x k y i = impl_wideAngle_l2 K a0 a1 v1 v3 x k y i := by
  intro k
  induction k with
  | zero => intro y i; rfl
  | succ k ih => intro y i; rw [impl_wideAngle_l4, impl_wideAngle_l2, ih]
theorem num_i3 (K : Nat) (a0 a1 v1 v3 : F64) : ∀ (k : Nat) (x : F64) (i : Int), impl_wideAngle_l3 K a0 a1 v1 v3 k x i = impl_wideAngle_l1 K a0 a1 v1 v3 k x i := by
  intro k
  induction k with
  | zero => intro x i; rfl
  | succ k ih =>
    intro x i
    rw [impl_wideAngle_l3, impl_wideAngle_l1, num_i4]
    simp only [ih]
theorem num_l2 (K : Nat) (a0 a1 v1 v3 x : F64) : ∀ (m j k : Nat), j + m = 8 → m < k → impl_wideAngle_l2 K a0 a1 v1 v3 x k (serN x j) (15 - 2 * (j : Int)) = impl_wideAngle_l2 K a0 a1 v1 v3 x 1 (serN x 8) (-1) := by
  intro m
  induction m with
  | zero =>
    intro j k hj hk
    obtain ⟨k, rfl⟩ : ∃ q, k = q + 1 := ⟨k - 1, by omega⟩
    have : j = 8 := by omega
    subst this
    rw [impl_wideAngle_l2, impl_wideAngle_l2, ite2_dec, ite2_dec, if_neg (by omega), if_neg (by omega)]
  | succ m ih =>
    intro j k hj hk
    obtain ⟨k, rfl⟩ : ∃ q, k = q + 1 := ⟨k - 1, by omega⟩
    rw [impl_wideAngle_l2, ite2_dec, if_pos (by omega)]
    have hw : IntKind.i64.wrap (15 - 2 * (j : Int) - 2) = 15 - 2 * ((j + 1 : Nat) : Int) := by rw [wrap_in (by omega) (by omega)]; omega
    rw [hw]
    exact ih (j + 1) k (by omega) (by omega)
theorem num_l1 (K : Nat) (hK : 16 < K) (a0 a1 v1 v3 x : F64) : impl_wideAngle_l1 K a0 a1 v1 v3 K x 0 = impl_wideAngle_l2 K a0 a1 v1 v3 (halfF (halfF (halfF x))) 1 (serN (halfF (halfF (halfF x))) 8) (-1) := by
  obtain ⟨k, rfl⟩ : ∃ q, K = q + 4 := ⟨K - 4, by omega⟩
  have w1 : IntKind.i64.wrap (0 + 1) = 1 := by decide
  have w2 : IntKind.i64.wrap (1 + 1) = 2 := by decide
  have w3 : IntKind.i64.wrap (2 + 1) = 3 := by decide
  rw [impl_wideAngle_l1, ite2_dec, if_pos (by omega), w1]
  unfold math_Sqrt math_sqrt
  rw [bind_of, bind_of, impl_wideAngle_l1, ite2_dec, if_pos (by omega), w2]
  unfold math_Sqrt math_sqrt
  rw [bind_of, bind_of, impl_wideAngle_l1, ite2_dec, if_pos (by omega), w3]
  unfold math_Sqrt math_sqrt
  rw [bind_of, bind_of, impl_wideAngle_l1, ite2_dec, if_neg (by omega)]
  exact num_l2 (k + 4) a0 a1 v1 v3 _ 8 0 (k + 4) (by omega) (by omega)
theorem wideAngle_eq {K : Nat} (hK : 16 < K) (y x : F64) : impl_wideAngle K y x = some (angF y x) := by
  unfold impl_wideAngle math_Abs
  rw [bind_of, bind_of, num_i3]
  unfold angF
  cases h : y.abs.gt x.abs <;> simp only [ite2_true, ite2_false, Bool.false_eq_true, if_false, if_true] <;> rw [num_l1 K hK, impl_wideAngle_l2, ite2_dec, if_neg (by omega), h] <;> simp only [ite2_true, ite2_false]
  · cases h1 : x.lt' o0 <;> cases h2 : y.lt' o0 <;> (have h1' := h1; have h2' := h2; unfold o0 at h1' h2'; rw [h1', h2']) <;> rfl
  · cases h1 : x.lt' o0 <;> cases h2 : y.lt' o0 <;> (have h1' := h1; have h2' := h2; unfold o0 at h1' h2'; rw [h1', h2']) <;> rfl

end
end Go.Fw

namespace Go.Fw
open Go

def tq (t : Turn) : Q4 := ⟨t.W, t.X, t.Y, t.Z⟩
def mt (q : Q4) : Turn := Turn.mk q.w q.x q.y q.z
theorem tq_mt (q : Q4) : tq (mt q) = q := rfl
theorem z32 : Num (Fl.mk (k := .f32) 0 (by decide)) ∧ val (Fl.mk (k := .f32) 0 (by decide)) = 0 := const_val (s := false) (m := 0) (p := -149) (by decide) (by decide +kernel)
theorem mul_impl (K : Nat) (a b : Turn) : impl_MulTurns K a b = some (mt (mulQ (tq a) (tq b))) := rfl
theorem inv_impl (K : Nat) (a : Turn) : impl_InverseOf K a = some (mt (conjQ (tq a))) := rfl
theorem isfin_impl (K : Nat) {x : F32} (hx : Num x) : impl_IsFinite K x = some true := by
  unfold impl_IsFinite
  rw [isfin_num hx]
theorem root_impl (K : Nat) (x : F32) : impl_RootNumber K x = some (rootQ x) := by
  unfold impl_RootNumber math_Sqrt math_sqrt
  rw [bind_of, bind_of, chk_pos (narrow_root x)]; rfl
theorem size_impl (K : Nat) (x : F32) : impl_size K x = some x.abs32 := by
  unfold impl_size math_Abs
  rw [bind_of, chk_pos (by rw [narrow_abs]; rfl), cv_abs]
theorem islen_impl (K : Nat) {n : F32} (hn : Num n) (h0 : val n ≠ 0) : impl_isLength K n = some true := by
  unfold impl_isLength
  rw [isfin_impl K hn, bind_of, ite2_true, bind_of]
  congr 1
  rw [ne_val hn z32.1, z32.2]; exact h0
theorem angle_impl {K : Nat} (hK : 16 < K) {q : Q4} (h : Fair q) : impl_AngleOf K (mt q) = some (angQ q) := by
  obtain ⟨l1, l2, w1, w2, l3, l4, -⟩ := fair_parts h
  obtain ⟨-, -, -, n1, -, -, -⟩ := angQ_near h
  unfold angP at n1
  unfold impl_AngleOf impl_Turn_vector impl_LongOf impl_InnerOf
  rw [bind_of, bind_of, root_impl, bind_of, bind_of, size_impl, bind_of]
  have e : rootQ ((((mt q).X.mul (mt q).X).add ((mt q).Y.mul (mt q).Y)).add ((mt q).Z.mul (mt q).Z)) = lenV q.x q.y q.z := rfl
  have e2 : (mt q).W.abs32 = q.w.abs32 := rfl
  dsimp only at e ⊢
  rw [e, e2]
  unfold impl_AngleTurns
  rw [isfin_impl K w1, bind_of, Bool.not_true, ite2_false, isfin_impl K l1, bind_of, bind_of, Bool.not_true, ite2_false]
  have hj : ite2 (q.w.abs32.eq (Fl.mk (k := .f32) 0 (by decide))) (some ((lenV q.x q.y q.z).eq (Fl.mk (k := .f32) 0 (by decide)))) (some false) = some false := by
    cases h1 : q.w.abs32.eq (Fl.mk (k := .f32) 0 (by decide))
    · rfl
    · cases h0 : (lenV q.x q.y q.z).eq (Fl.mk (k := .f32) 0 (by decide))
      · rfl
      · rw [eq_val w1 z32.1, z32.2, w2] at h1
        rw [eq_val l1 z32.1, z32.2] at h0
        rw [h1, h0] at l4
        grind
  rw [hj, bind_of, ite2_false, wideAngle_eq hK, bind_of, chk_pos n1, bind_of]; rfl
theorem apart_impl {K : Nat} (hK : 16 < K) (a b : Turn) (h : Fair (apartQ (tq a) (tq b))) : impl_ApartTurns K a b = some (angQ (apartQ (tq a) (tq b))) := by
  unfold impl_ApartTurns
  rw [inv_impl, bind_of, mul_impl, bind_of, show mt (mulQ (tq (mt (conjQ (tq a)))) (tq b)) = mt (apartQ (tq a) (tq b)) from rfl, angle_impl hK h, bind_of]
theorem num_of_fin {x : F32} (h : numD (Ieee.single.read x.bits) = true) : Num x := by
  cases e : Ieee.single.read x.bits with
  | number s m i => exact ⟨s, m, i, e⟩
  | infinity s => rw [e] at h; cases h
  | nan s t => rw [e] at h; cases h
/-- A quarter. -/
def qF (r : Int) : F32 := (Fl.ofInt .f32 (IntKind.i64.wrap (r - (16 : Int)))).div (Fl.mk (k := .f32) 1082130432 (by decide))
theorem qF_ok : ∀ r : Fin 33, (numD (Ieee.single.read (qF (r.val : Int)).bits) && decide (val (qF (r.val : Int)) * 4 = (r.val : Rat) - 16)) = true := by decide +kernel
theorem qF_val {r : Nat} (h : r < 33) : Num (qF (r : Int)) ∧ val (qF (r : Int)) * 4 = (r : Rat) - 16 := by
  have := qF_ok ⟨r, h⟩
  simp only [Bool.and_eq_true, decide_eq_true_eq] at this
  exact ⟨num_of_fin this.1, this.2⟩
theorem small_q {K : Nat} {c : List Int} (hc : Byt c) (at_ sd : Int) : Dr at_ 2 (spec_l01DrawSmall K (l00Src.mk c at_ sd)) (fun f => ∃ r : Nat, r < 33 ∧ f = qF (r : Int)) := by
  unfold spec_l01DrawSmall
  refine Dr.bind (c2 := 0) (pick_dr hc at_ sd 33) (by decide) fun r a1 s1 hr => .of ⟨r.toNat, by omega, ?_⟩ (by omega) rfl
  have : ((r.toNat : Nat) : Int) = r := by omega
  rw [this]; rfl

end Go.Fw

namespace Go.Fw
open Go

def tF (n : Nat) : F32 := (Fl.ofInt .f32 (IntKind.i64.wrap ((1 : Int) + (n : Int)))).div (Fl.mk (k := .f32) 1115684864 (by decide))
def hF (n : Nat) : F64 := (Fl.cv .f32 .f64 (tF n)).div (Fl.mk (k := .f64) 4611686018427387904 (by decide))
def gF (n : Nat) : F64 := ((Fl.cv .f32 .f64 (tF n)).div (Fl.mk (k := .f64) 4611686018427387904 (by decide))).add (Fl.mk (k := .f64) 4598175219545276416 (by decide))
def flOf (b : Nat) : F32 := if h : okF .f32 b = true then ⟨b, h⟩ else default
theorem flOf_eq {x : F32} {b : Nat} (h : x.bits = b) : x = flOf b := by
  subst h
  unfold flOf
  rw [dif_pos x.ok]
def sB (n : Nat) : Nat := [1028193072, 1036565814, 1041645699, 1044891074, 1048104908, 1049927729, 1051491540, 1053028117, 1054533760, 1056004842, 1057201213, 1057896922, 1058570176, 1059219353, 1059842890, 1060439283, 1061007097, 1061544963, 1062051586, 1062525745, 1062966298, 1063372184, 1063742424, 1064076126, 1064372488, 1064630795, 1064850424, 1065030846, 1065171628, 1065272429, 1065333007].getD n 0
def sinB (v : Option F64) : Option (Bool × Nat) := v.map fun v => ((convBits .f64 v.bits .f32).isSome, (Fl.cv .f64 .f32 v).bits)
theorem sin_tab : ∀ n : Fin 31, (sinB (impl_wideSine 100 (hF n.val)) == some (true, sB n.val)) = true := by decide +kernel
theorem cos_tab : ∀ n : Fin 31, (sinB (impl_wideSine 100 (gF n.val)) == some (true, sB (30 - n.val))) = true := by decide +kernel
theorem sin_of {v : Option F64} {b : Nat} (h : (sinB v == some (true, b)) = true) : ∃ x, v = some x ∧ (convBits .f64 x.bits .f32).isSome = true ∧ Fl.cv .f64 .f32 x = flOf b := by
  have h := eq_of_beq h
  unfold sinB at h
  cases v with
  | none => cases h
  | some x =>
    simp only [Option.map_some, Option.some.injEq, Prod.mk.injEq] at h
    exact ⟨x, rfl, h.1, flOf_eq h.2⟩
def dF : F64 := Fl.mk (k := .f64) 4543979261917470057 (by decide)
def sF (n : Nat) : F32 := flOf (sB n)
def cF' (n : Nat) : F32 := flOf (sB (30 - n))
def hiS (n : Nat) : F64 := (Fl.cv .f32 .f64 (sF n)).add dF
def loS (n : Nat) : F64 := (Fl.cv .f32 .f64 (sF n)).sub dF
def hiC (n : Nat) : F64 := (Fl.cv .f32 .f64 (cF' n)).add dF
def loC (n : Nat) : F64 := (Fl.cv .f32 .f64 (cF' n)).sub dF
def okS (n : Nat) : Bool := numD (Ieee.single.read (tF n).bits) && numD (Ieee.single.read (sF n).bits) && numD (Ieee.single.read (cF' n).bits) && decide (0 ≤ val (tF n)) && decide (val (tF n) ≤ 31 / 64) && decide (1 / 25 ≤ val (sF n)) && decide (val (sF n) ≤ 1) && decide (1 / 25 ≤ val (cF' n)) && decide (val (cF' n) ≤ 1) && decide ((val (sF n) * val (sF n) + val (cF' n) * val (cF' n) - 1).abs ≤ 1 / 1000000)
theorem okS_tab : ∀ n : Fin 31, okS n.val = true := by decide +kernel
def okB (n : Nat) : Bool := numD (Ieee.double.read (hiS n).bits) && numD (Ieee.double.read (loS n).bits) && numD (Ieee.double.read (hiC n).bits) && numD (Ieee.double.read (loC n).bits) && decide (val (sF n) + 59 / 1000000 ≤ val (hiS n)) && decide (val (loS n) ≤ val (sF n) - 59 / 1000000) && decide (val (cF' n) + 59 / 1000000 ≤ val (hiC n)) && decide (val (loC n) ≤ val (cF' n) - 59 / 1000000) && decide (0 ≤ val (loS n)) && decide (0 ≤ val (loC n))
theorem okB_tab : ∀ n : Fin 31, okB n.val = true := by decide +kernel
def okH (n : Nat) : Bool := decide (2 * val (angF (hiS n) (loC n)) ≤ val (tF n) + 5 / 100000) && decide (val (tF n) - 5 / 100000 ≤ 2 * val (angF (loS n) (hiC n))) && (decide (1 / 2 ≤ val (loS n)) || decide (1 / 2 ≤ val (loC n)))
theorem okH_tab : ∀ n : Fin 31, okH n.val = true := by decide +kernel
end Go.Fw

namespace Go.Fw
open Go

theorem num_of_fin64 {x : F64} (h : numD (Ieee.double.read x.bits) = true) : Num x := by
  cases e : Ieee.double.read x.bits with
  | number s m i => exact ⟨s, m, i, e⟩
  | infinity s => rw [e] at h; cases h
  | nan s t => rw [e] at h; cases h
theorem tab_facts {n : Nat} (hn : n < 31) : Num (tF n) ∧ Num (sF n) ∧ Num (cF' n) ∧ 0 ≤ val (tF n) ∧ val (tF n) ≤ 31 / 64 ∧ 1 / 25 ≤ val (sF n) ∧ val (sF n) ≤ 1 ∧ 1 / 25 ≤ val (cF' n) ∧ val (cF' n) ≤ 1 ∧ (val (sF n) * val (sF n) + val (cF' n) * val (cF' n) - 1).abs ≤ 1 / 1000000 := by
  have h := okS_tab ⟨n, hn⟩
  unfold okS at h
  simp only [Bool.and_eq_true, decide_eq_true_eq] at h
  obtain ⟨⟨⟨⟨⟨⟨⟨⟨⟨h1, h2⟩, h3⟩, h4⟩, h5⟩, h6⟩, h7⟩, h8⟩, h9⟩, h10⟩ := h
  exact ⟨num_of_fin h1, num_of_fin h2, num_of_fin h3, h4, h5, h6, h7, h8, h9, h10⟩
theorem ang_tab {n : Nat} (hn : n < 31) {l w : F32} (nl : Num l) (nw : Num w) (hl : (val l - val (sF n)).abs ≤ 5 / 100000) (hw : (val w - val (cF' n)).abs ≤ 5 / 100000) :
    Num (angF (Fl.cv .f32 .f64 l) (Fl.cv .f32 .f64 w)) ∧ 0 ≤ val (angF (Fl.cv .f32 .f64 l) (Fl.cv .f32 .f64 w)) ∧ val (angF (Fl.cv .f32 .f64 l) (Fl.cv .f32 .f64 w)) ≤ 26 / 100 ∧ (2 * val (angF (Fl.cv .f32 .f64 l) (Fl.cv .f32 .f64 w)) - val (tF n)).abs ≤ 6 / 100000 := by
  obtain ⟨t1, t2, t3, t4, t5, t6, t7, t8, t9, t10⟩ := tab_facts hn
  have h := okB_tab ⟨n, hn⟩
  unfold okB at h
  simp only [Bool.and_eq_true, decide_eq_true_eq] at h
  obtain ⟨⟨⟨⟨⟨⟨⟨⟨⟨b1, b2⟩, b3⟩, b4⟩, b5⟩, b6⟩, b7⟩, b8⟩, b9⟩, b10⟩ := h
  have h := okH_tab ⟨n, hn⟩
  unfold okH at h
  simp only [Bool.and_eq_true, Bool.or_eq_true, decide_eq_true_eq] at h
  obtain ⟨⟨g1, g2⟩, g3⟩ := h
  obtain ⟨a1, a2⟩ := widen_val nl
  obtain ⟨a3, a4⟩ := widen_val nw
  obtain ⟨c1, c2⟩ := abs_bounds hl
  obtain ⟨c3, c4⟩ := abs_bounds hw
  have l0 : 0 < val l := by grind
  have w0 : 0 < val w := by grind
  obtain ⟨p1, p2, p3⟩ := ang_in a1 a3 (by rw [a2]; exact Rat.le_of_lt l0) (by rw [a4]; exact Rat.le_of_lt w0) (.inl (by rw [a2]; exact l0))
  refine ⟨p1, p2, p3, ?_⟩
  have up := ang_mono (e := 0) a1 a3 (num_of_fin64 b1) (num_of_fin64 b4) (by rw [a2]; exact Rat.le_of_lt l0) (by rw [a4]; exact Rat.le_of_lt w0) (by grind) b10 (by rw [a2, a4]; grind) (by grind) Rat.le_refl (by
    rw [a2, a4, Rat.add_zero]
    exact mul_le_mul' (by grind) (by grind) (Rat.le_of_lt l0) (Rat.le_of_lt w0))
  have dn := ang_mono (e := 0) (num_of_fin64 b2) (num_of_fin64 b3) a1 a3 b9 (by grind) (by rw [a2]; exact Rat.le_of_lt l0) (by rw [a4]; exact Rat.le_of_lt w0) (by grind) (by rw [a2, a4]; grind) Rat.le_refl (by
    rw [a2, a4, Rat.add_zero]
    exact mul_le_mul' (by grind) (by grind) b9 (by grind))
  exact abs_le (by grind) (by grind)
theorem ang32 {p : F64} (p1 : Num p) (p2 : 0 ≤ val p) (p3 : val p ≤ 26 / 100) : (convBits .f64 p.bits .f32).isSome = true ∧ Num (t2c.mul (Fl.cv .f64 .f32 p)) ∧ (val (t2c.mul (Fl.cv .f64 .f32 p)) - 2 * val p).abs ≤ 1 / 1000000 := by
  obtain ⟨n1, n2, n3, n4, -⟩ := narrow64 p1 (by rw [Rat.abs_of_nonneg p2]; grind)
  have n5 := n4 p2
  unfold o32 at n3
  rw [Rat.abs_of_nonneg p2] at n3
  obtain ⟨c1, c2⟩ := abs_bounds n3
  obtain ⟨m1, m2, m3, -⟩ := mul32 t2c_val.1 n2 (by rw [t2c_val.2, Rat.abs_of_nonneg (by grind)]; grind)
  rw [t2c_val.2] at m2 m3
  unfold o32 at m2
  rw [Rat.abs_of_nonneg (show 0 ≤ 2 * val (Fl.cv .f64 .f32 p) by grind)] at m2
  obtain ⟨c3, c4⟩ := abs_bounds m2
  exact ⟨n1, m1, abs_le (by grind) (by grind)⟩
theorem ang_t {n : Nat} (hn : n < 31) {l w : F32} (nl : Num l) (nw : Num w) (hl : (val l - val (sF n)).abs ≤ 5 / 100000) (hw : (val w - val (cF' n)).abs ≤ 5 / 100000) :
    (convBits .f64 (angF (Fl.cv .f32 .f64 l) (Fl.cv .f32 .f64 w)).bits .f32).isSome = true ∧ Num (t2c.mul (Fl.cv .f64 .f32 (angF (Fl.cv .f32 .f64 l) (Fl.cv .f32 .f64 w)))) ∧ (val (t2c.mul (Fl.cv .f64 .f32 (angF (Fl.cv .f32 .f64 l) (Fl.cv .f32 .f64 w)))) - val (tF n)).abs ≤ 7 / 100000 := by
  obtain ⟨a1, a2, a3, a4⟩ := ang_tab hn nl nw hl hw
  obtain ⟨b1, b2, b3⟩ := ang32 a1 a2 a3
  obtain ⟨c1, c2⟩ := abs_bounds a4
  obtain ⟨c3, c4⟩ := abs_bounds b3
  exact ⟨b1, b2, abs_le (by grind) (by grind)⟩
theorem gap_ok {x t : F32} (hx : Num x) (ht : Num t) (h : (val x - val t).abs ≤ 7 / 100000) :
    (((Fl.cv .f32 .f64 x).sub (Fl.cv .f32 .f64 t)).maxF ((Fl.cv .f32 .f64 t).sub (Fl.cv .f32 .f64 x))).gt (Fl.mk (k := .f64) 4547007122018943789 (by decide)) = false ∧
    (((Fl.cv .f32 .f64 x).sub (Fl.cv .f32 .f64 t)).maxF ((Fl.cv .f32 .f64 t).sub (Fl.cv .f32 .f64 x))).lt' (Fl.mk (k := .f64) 4547007122018943789 (by decide)) = true := by
  obtain ⟨a1, a2⟩ := widen_val hx
  obtain ⟨a3, a4⟩ := widen_val ht
  have c : Num (Fl.mk (k := .f64) 4547007122018943789 (by decide)) ∧ val (Fl.mk (k := .f64) 4547007122018943789 (by decide)) = 7378697629483821 * p2 (-66) := const_val (s := false) (m := 7378697629483821) (p := -66) (by decide) (by decide +kernel)
  have cl : 99 / 1000000 ≤ val (Fl.mk (k := .f64) 4547007122018943789 (by decide)) := by rw [c.2]; decide +kernel
  obtain ⟨g1, g2⟩ := gap_le a1 a3 (by rw [a2, a4]; exact h) (by decide +kernel)
  refine ⟨?_, ?_⟩
  · rw [← Bool.not_eq_true, gt_val g1 c.1]
    exact Rat.not_lt.2 (by grind)
  · rw [lt_val g1 c.1]; grind
theorem len_small {d1 d2 d3 : F32} (n1 : Num d1) (n2 : Num d2) (n3 : Num d3) (h1 : (val d1).abs ≤ 1 / 10000) (h2 : (val d2).abs ≤ 1 / 10000) (h3 : (val d3).abs ≤ 1 / 10000) :
    (Fl.cv .f32 .f64 (lenV d1 d2 d3)).gt (Fl.mk (k := .f64) 4562254508917369340 (by decide)) = false := by
  have le5 : ∀ {x : Rat}, x.abs ≤ 1 / 10000 → x.abs ≤ 500 := fun h => Rat.le_trans h (by decide +kernel)
  obtain ⟨-, l1, l2, l3⟩ := lenV_near n1 n2 n3 (le5 h1) (le5 h2) (le5 h3)
  have sq : ∀ {x : Rat}, x.abs ≤ 1 / 10000 → x * x ≤ 1 / 100000000 := fun {x} h => by
    have := mul_le_mul' h h Rat.abs_nonneg (by decide +kernel)
    rw [← mul_abs, Rat.abs_of_nonneg (sq_nonneg x)] at this
    exact Rat.le_trans this (by decide +kernel)
  have s1 := sq h1
  have s2 := sq h2
  have s3 := sq h3
  obtain ⟨c1, c2⟩ := abs_bounds l3
  have hL : val (lenV d1 d2 d3) ≤ 1 / 4000 := le_of_sq (by decide +kernel) (by grind)
  obtain ⟨a1, a2⟩ := widen_val l1
  have c : Num (Fl.mk (k := .f64) 4562254508917369340 (by decide)) ∧ val (Fl.mk (k := .f64) 4562254508917369340 (by decide)) = 4611686018427388 * p2 (-62) := const_val (s := false) (m := 4611686018427388) (p := -62) (by decide) (by decide +kernel)
  rw [← Bool.not_eq_true, gt_val a1 c.1, a2, c.2]
  exact Rat.not_lt.2 (Rat.le_trans hL (by decide +kernel))
/-- A part of the direction, times the sine. -/
theorem part_near {x N s : F32} {k u : Rat} (hx : Num x) (hN : Num N) (hs : Num s) (hk : k * val N = 1) (hu : val x * k = u) (hub : u.abs ≤ 101 / 100) (s0 : 1 / 25 ≤ val s) (s1 : val s ≤ 1) :
    Num ((x.div N).mul s) ∧ (val ((x.div N).mul s) - u * val s).abs ≤ val s * (7 / 10000000) := by
  have hs0 : 0 ≤ val s := by grind
  obtain ⟨d1, d2⟩ := div_near hx hN hk (by rw [hu]; exact Rat.le_trans hub (by decide +kernel))
  rw [hu] at d2
  obtain ⟨c1, c2⟩ := abs_bounds d2
  obtain ⟨c3, c4⟩ := abs_bounds hub
  have hp : (val (x.div N)).abs ≤ 102 / 100 := abs_le (by grind) (by grind)
  have hps : (val (x.div N) * val s).abs ≤ 102 / 100 * val s := by
    rw [mul_abs, Rat.abs_of_nonneg hs0]; exact Rat.mul_le_mul_of_nonneg_right hp hs0
  obtain ⟨m1, m2⟩ := m32 d1 hs hps (by grind)
  refine ⟨m1, ?_⟩
  have e1 := Rat.mul_le_mul_of_nonneg_right c1 hs0
  have e2 := Rat.mul_le_mul_of_nonneg_right c2 hs0
  obtain ⟨c5, c6⟩ := abs_bounds m2
  exact abs_le (by grind) (by grind)
theorem unit_abs3 {u1 u2 u3 : Rat} (hu : (u1 * u1 + u2 * u2 + u3 * u3 - 1).abs ≤ 12 / 10000000) : u1.abs ≤ 101 / 100 ∧ u2.abs ≤ 101 / 100 ∧ u3.abs ≤ 101 / 100 := by
  obtain ⟨c1, c2⟩ := abs_bounds hu
  have q1 := sq_nonneg u1
  have q2 := sq_nonneg u2
  have q3 := sq_nonneg u3
  exact ⟨sq_le (by grind) (by decide +kernel), sq_le (by grind) (by decide +kernel), sq_le (by grind) (by decide +kernel)⟩
/-- A part of the axis. -/
theorem axis_near {q l : F32} {u s m : Rat} (hq : Num q) (hl : Num l) (hm : m * val l = 1) (m0 : 0 < m) (s0 : 1 / 25 ≤ s) (hu : u.abs ≤ 101 / 100) (h : (val q - u * s).abs ≤ s * (7 / 10000000)) (hls : (val l - s).abs ≤ s * (8 / 1000000)) :
    Num (q.div l) ∧ (val (q.div l) - u).abs ≤ 1 / 100000 := by
  obtain ⟨c1, c2⟩ := abs_bounds hls
  obtain ⟨c3, c4⟩ := abs_bounds h
  obtain ⟨c5, c6⟩ := abs_bounds hu
  have m0' := Rat.le_of_lt m0
  have e1 := Rat.mul_le_mul_of_nonneg_left c1 m0'
  have e2 := Rat.mul_le_mul_of_nonneg_left c2 m0'
  have e3 := Rat.mul_le_mul_of_nonneg_left c3 m0'
  have e4 := Rat.mul_le_mul_of_nonneg_left c4 m0'
  have hms0 : 0 ≤ m * s := Rat.mul_nonneg m0' (by grind)
  have hms : m * s ≤ 1 + 1 / 100000 := by grind
  have hms2 : (m * s - 1).abs ≤ 81 / 10000000 := abs_le (by grind) (by grind)
  have e5 : (u * (m * s - 1)).abs ≤ 82 / 10000000 := by
    rw [mul_abs]; exact Rat.le_trans (mul_le_mul' hu hms2 Rat.abs_nonneg (by decide +kernel)) (by decide +kernel)
  obtain ⟨c7, c8⟩ := abs_bounds e5
  have hqm : (val q * m - u).abs ≤ 91 / 10000000 := by
    have e : val q * m - u = m * (val q - u * s) + u * (m * s - 1) := by grind
    rw [e]
    exact abs_le (by grind) (by grind)
  obtain ⟨c9, c10⟩ := abs_bounds hqm
  obtain ⟨d1, d2⟩ := div_near hq hl hm (abs_le (by grind) (by grind))
  obtain ⟨c11, c12⟩ := abs_bounds d2
  exact ⟨d1, abs_le (by grind) (by grind)⟩
/-- The axis times the length leads back. -/
theorem back_near {a N x : F32} {u k : Rat} (ha : Num a) (hN : Num N) (hx : Num x) (hk : k * val N = 1) (hu : val x * k = u) (n0 : 0 < val N) (n8 : val N ≤ 8) (hub : u.abs ≤ 101 / 100) (h : (val a - u).abs ≤ 1 / 100000) :
    Num ((a.mul N).sub x) ∧ (val ((a.mul N).sub x)).abs ≤ 1 / 10000 := by
  obtain ⟨c1, c2⟩ := abs_bounds h
  obtain ⟨c3, c4⟩ := abs_bounds hub
  have n0' := Rat.le_of_lt n0
  have hxu : val x = u * val N := by rw [← hu, Rat.mul_assoc, hk, Rat.mul_one]
  have e1 := Rat.mul_le_mul_of_nonneg_right c1 n0'
  have e2 := Rat.mul_le_mul_of_nonneg_right c2 n0'
  have haN : (val a * val N).abs ≤ 9 := by
    rw [mul_abs, Rat.abs_of_nonneg n0']
    exact Rat.le_trans (mul_le_mul' (show (val a).abs ≤ 102 / 100 from abs_le (by grind) (by grind)) n8 Rat.abs_nonneg (by decide +kernel)) (by decide +kernel)
  obtain ⟨m1, m2⟩ := m32 ha hN haN (by decide +kernel)
  obtain ⟨c5, c6⟩ := abs_bounds m2
  have hd : (val (a.mul N) - val x).abs ≤ 9 / 100000 := abs_le (by grind) (by grind)
  obtain ⟨s1, s2⟩ := s32 m1 hx hd (by decide +kernel)
  obtain ⟨c7, c8⟩ := abs_bounds s2
  obtain ⟨c9, c10⟩ := abs_bounds hd
  exact ⟨s1, abs_le (by grind) (by grind)⟩
end Go.Fw

namespace Go.Fw
open Go

/-- The axis, measured along the turn's vector, is the sine. -/
theorem hinge_near {a1 a2 a3 q1 q2 q3 : F32} {u1 u2 u3 s : Rat} (na1 : Num a1) (na2 : Num a2) (na3 : Num a3) (nq1 : Num q1) (nq2 : Num q2) (nq3 : Num q3) (s0 : 1 / 25 ≤ s) (s1 : s ≤ 1)
    (hu : (u1 * u1 + u2 * u2 + u3 * u3 - 1).abs ≤ 12 / 10000000) (ha1 : (val a1 - u1).abs ≤ 1 / 100000) (ha2 : (val a2 - u2).abs ≤ 1 / 100000) (ha3 : (val a3 - u3).abs ≤ 1 / 100000)
    (h1 : (val q1 - u1 * s).abs ≤ s * (7 / 10000000)) (h2 : (val q2 - u2 * s).abs ≤ s * (7 / 10000000)) (h3 : (val q3 - u3 * s).abs ≤ s * (7 / 10000000)) :
    Num (((a1.mul q1).add (a2.mul q2)).add (a3.mul q3)) ∧ (val (((a1.mul q1).add (a2.mul q2)).add (a3.mul q3)) - s).abs ≤ 5 / 100000 := by
  obtain ⟨b1, b2, b3⟩ := unit_abs3 hu
  have prod : ∀ {a q : F32} {u : Rat}, Num a → Num q → u.abs ≤ 101 / 100 → (val a - u).abs ≤ 1 / 100000 → (val q - u * s).abs ≤ s * (7 / 10000000) → Num (a.mul q) ∧ (val (a.mul q) - u * u * s).abs ≤ 12 / 1000000 ∧ (val (a.mul q)).abs ≤ 12 / 10 := by
    intro a q u na nq hub ha hq
    obtain ⟨c1, c2⟩ := abs_bounds hub
    obtain ⟨c3, c4⟩ := abs_bounds ha
    have hq' : (val q - u * s).abs ≤ 7 / 10000000 := by grind
    obtain ⟨c5, c6⟩ := abs_bounds hq'
    have us : (u * s).abs ≤ 101 / 100 := by
      rw [mul_abs, Rat.abs_of_nonneg (show 0 ≤ s by grind)]
      exact Rat.le_trans (mul_le_mul' hub s1 Rat.abs_nonneg (by decide +kernel)) (by decide +kernel)
    obtain ⟨c7, c8⟩ := abs_bounds us
    have qb : (val q).abs ≤ 102 / 100 := abs_le (by grind) (by grind)
    have ab : (val a).abs ≤ 102 / 100 := abs_le (by grind) (by grind)
    have e1 : ((val a - u) * val q).abs ≤ 103 / 10000000 := by
      rw [mul_abs]; exact Rat.le_trans (mul_le_mul' ha qb Rat.abs_nonneg (by decide +kernel)) (by decide +kernel)
    have e2 : (u * (val q - u * s)).abs ≤ 8 / 10000000 := by
      rw [mul_abs]; exact Rat.le_trans (mul_le_mul' hub hq' Rat.abs_nonneg (by decide +kernel)) (by decide +kernel)
    have e3 : (val a * val q).abs ≤ 105 / 100 := by
      rw [mul_abs]; exact Rat.le_trans (mul_le_mul' ab qb Rat.abs_nonneg (by decide +kernel)) (by decide +kernel)
    obtain ⟨m1, m2⟩ := m32 na nq e3 (by decide +kernel)
    obtain ⟨d1, d2⟩ := abs_bounds e1
    obtain ⟨d3, d4⟩ := abs_bounds e2
    obtain ⟨d5, d6⟩ := abs_bounds m2
    obtain ⟨d7, d8⟩ := abs_bounds e3
    refine ⟨m1, ?_, abs_le (by grind) (by grind)⟩
    have e : val (a.mul q) - u * u * s = (val (a.mul q) - val a * val q) + ((val a - u) * val q + u * (val q - u * s)) := by grind
    rw [e]
    exact abs_le (by grind) (by grind)
  obtain ⟨p1, p2, p3⟩ := prod na1 nq1 b1 ha1 h1
  obtain ⟨r1, r2, r3⟩ := prod na2 nq2 b2 ha2 h2
  obtain ⟨t1, t2, t3⟩ := prod na3 nq3 b3 ha3 h3
  clear prod
  obtain ⟨c1, c2⟩ := abs_bounds p2
  obtain ⟨c3, c4⟩ := abs_bounds r2
  obtain ⟨c5, c6⟩ := abs_bounds t2
  obtain ⟨f1, f2⟩ := abs_bounds p3
  obtain ⟨f3, f4⟩ := abs_bounds r3
  obtain ⟨f5, f6⟩ := abs_bounds t3
  obtain ⟨x1, x2⟩ := a32 p1 r1 (c := 24 / 10) (abs_le (by grind) (by grind)) (by decide +kernel)
  obtain ⟨c7, c8⟩ := abs_bounds x2
  obtain ⟨y1, y2⟩ := a32 x1 t1 (c := 4) (abs_le (by grind) (by grind)) (by decide +kernel)
  obtain ⟨c9, c10⟩ := abs_bounds y2
  have ss : ((u1 * u1 + u2 * u2 + u3 * u3 - 1) * s).abs ≤ 12 / 10000000 := by
    rw [mul_abs, Rat.abs_of_nonneg (show 0 ≤ s by grind)]
    exact Rat.le_trans (mul_le_mul' hu s1 Rat.abs_nonneg (by decide +kernel)) (by decide +kernel)
  obtain ⟨c11, c12⟩ := abs_bounds ss
  exact ⟨y1, abs_le (by grind) (by grind)⟩
/-- Nearly parallel: hardly any cross. -/
theorem cross_near {a b c d : F32} {u v s n : Rat} (na : Num a) (nb : Num b) (nc : Num c) (nd : Num d) (s1 : s ≤ 1) (hu : u.abs ≤ 101 / 100) (hv : v.abs ≤ 101 / 100) (s0 : 0 ≤ s)
    (ha : (val a - u * s).abs ≤ s * (7 / 10000000)) (hc : (val c - v * s).abs ≤ s * (7 / 10000000)) (hb : val b = v * n) (hd : val d = u * n) (bb : (val b).abs ≤ 4) (bd : (val d).abs ≤ 4) :
    Num ((a.mul b).sub (c.mul d)) ∧ (val ((a.mul b).sub (c.mul d))).abs ≤ 8 / 1000000 := by
  have one : ∀ {a b : F32} {u : Rat}, Num a → Num b → u.abs ≤ 101 / 100 → (val a - u * s).abs ≤ s * (7 / 10000000) → (val b).abs ≤ 4 → Num (a.mul b) ∧ (val (a.mul b) - u * s * val b).abs ≤ 35 / 10000000 := by
    intro a b u na nb hu ha bb
    have ha' : (val a - u * s).abs ≤ 7 / 10000000 := by grind
    have us : (u * s).abs ≤ 101 / 100 := by
      rw [mul_abs, Rat.abs_of_nonneg s0]
      exact Rat.le_trans (mul_le_mul' hu s1 Rat.abs_nonneg (by decide +kernel)) (by decide +kernel)
    obtain ⟨c1, c2⟩ := abs_bounds ha'
    obtain ⟨c3, c4⟩ := abs_bounds us
    have e1 : ((val a - u * s) * val b).abs ≤ 28 / 10000000 := by
      rw [mul_abs]; exact Rat.le_trans (mul_le_mul' ha' bb Rat.abs_nonneg (by decide +kernel)) (by decide +kernel)
    have e2 : (val a * val b).abs ≤ 41 / 10 := by
      rw [mul_abs]; exact Rat.le_trans (mul_le_mul' (show (val a).abs ≤ 102 / 100 from abs_le (by grind) (by grind)) bb Rat.abs_nonneg (by decide +kernel)) (by decide +kernel)
    obtain ⟨m1, m2⟩ := m32 na nb e2 (by decide +kernel)
    obtain ⟨d1, d2⟩ := abs_bounds e1
    obtain ⟨d3, d4⟩ := abs_bounds m2
    refine ⟨m1, ?_⟩
    have e : val (a.mul b) - u * s * val b = (val (a.mul b) - val a * val b) + (val a - u * s) * val b := by grind
    rw [e]
    exact abs_le (by grind) (by grind)
  obtain ⟨p1, p2⟩ := one na nb hu ha bb
  obtain ⟨r1, r2⟩ := one nc nd hv hc bd
  clear one
  have e : u * s * val b = v * s * val d := by rw [hb, hd]; grind
  rw [e] at p2
  obtain ⟨c1, c2⟩ := abs_bounds p2
  obtain ⟨c3, c4⟩ := abs_bounds r2
  have hdiff : (val (a.mul b) - val (c.mul d)).abs ≤ 7 / 1000000 := abs_le (by grind) (by grind)
  obtain ⟨x1, x2⟩ := s32 p1 r1 hdiff (by decide +kernel)
  obtain ⟨c5, c6⟩ := abs_bounds x2
  obtain ⟨c7, c8⟩ := abs_bounds hdiff
  exact ⟨x1, abs_le (by grind) (by grind)⟩
/-- A small thing, twice, and times the cosine. -/
theorem twice_near {z : F32} (hz : Num z) (h : (val z).abs ≤ 8 / 1000000) : Num (z.mul t2c) ∧ (val (z.mul t2c)).abs ≤ 17 / 1000000 := by
  have e : (val z * val t2c).abs ≤ 16 / 1000000 := by
    rw [t2c_val.2, mul_abs]
    exact Rat.le_trans (mul_le_mul' h (show (2 : Rat).abs ≤ 2 by decide +kernel) Rat.abs_nonneg (by decide +kernel)) (by decide +kernel)
  obtain ⟨m1, m2⟩ := m32 hz t2c_val.1 e (by decide +kernel)
  obtain ⟨c1, c2⟩ := abs_bounds m2
  obtain ⟨c3, c4⟩ := abs_bounds e
  exact ⟨m1, abs_le (by grind) (by grind)⟩
theorem scaled_near {z w : F32} (hz : Num z) (hw : Num w) (h : (val z).abs ≤ 17 / 1000000) (hw1 : (val w).abs ≤ 102 / 100) : Num (z.mul w) ∧ (val (z.mul w)).abs ≤ 18 / 1000000 := by
  have e : (val z * val w).abs ≤ 1735 / 100000000 := by
    rw [mul_abs]
    exact Rat.le_trans (mul_le_mul' h hw1 Rat.abs_nonneg (by decide +kernel)) (by decide +kernel)
  obtain ⟨m1, m2⟩ := m32 hz hw e (by decide +kernel)
  obtain ⟨c1, c2⟩ := abs_bounds m2
  obtain ⟨c3, c4⟩ := abs_bounds e
  exact ⟨m1, abs_le (by grind) (by grind)⟩
/-- A part of what is turned, taken from what it was. -/
theorem turned_near {v f g h k m n : F32} (nv : Num v) (nf : Num f) (hv : (val v).abs ≤ 4) (hf : (val f).abs ≤ 18 / 1000000) (ng : Num (g.mul h)) (nk : Num (m.mul n)) (hg : (val (g.mul h)).abs ≤ 18 / 1000000) (hk : (val (m.mul n)).abs ≤ 18 / 1000000) :
    Num (((v.add f).add ((g.mul h).sub (m.mul n))).sub v) ∧ (val (((v.add f).add ((g.mul h).sub (m.mul n))).sub v)).abs ≤ 1 / 10000 := by
  obtain ⟨c1, c2⟩ := abs_bounds hv
  obtain ⟨c3, c4⟩ := abs_bounds hf
  obtain ⟨c5, c6⟩ := abs_bounds hg
  obtain ⟨c7, c8⟩ := abs_bounds hk
  obtain ⟨a1, a2⟩ := a32 nv nf (c := 41 / 10) (abs_le (by grind) (by grind)) (by decide +kernel)
  obtain ⟨d1, d2⟩ := abs_bounds a2
  obtain ⟨s1, s2⟩ := s32 ng nk (c := 36 / 1000000) (abs_le (by grind) (by grind)) (by decide +kernel)
  obtain ⟨d3, d4⟩ := abs_bounds s2
  obtain ⟨b1, b2⟩ := a32 a1 s1 (c := 42 / 10) (abs_le (by grind) (by grind)) (by decide +kernel)
  obtain ⟨d5, d6⟩ := abs_bounds b2
  obtain ⟨e1, e2⟩ := s32 b1 nv (c := 1 / 1000) (abs_le (by grind) (by grind)) (by decide +kernel)
  obtain ⟨d7, d8⟩ := abs_bounds e2
  exact ⟨e1, abs_le (by grind) (by grind)⟩
theorem long_impl (K : Nat) (x y z : F32) : impl_LongOf K (Vector.mk x y z) = some (lenV x y z) := by
  unfold impl_LongOf impl_InnerOf
  rw [bind_of, root_impl, bind_of]; rfl
theorem angT {K : Nat} (hK : 16 < K) {y w : F32} (ny : Num y) (nw : Num w) (w0 : val w ≠ 0) (h : (convBits .f64 (angF (Fl.cv .f32 .f64 y) (Fl.cv .f32 .f64 w)).bits .f32).isSome = true) :
    impl_AngleTurns K y w = some (Fl.cv .f64 .f32 (angF (Fl.cv .f32 .f64 y) (Fl.cv .f32 .f64 w))) := by
  unfold impl_AngleTurns
  rw [isfin_impl K nw, bind_of, Bool.not_true, ite2_false, isfin_impl K ny, bind_of, bind_of, Bool.not_true, ite2_false]
  have h1 : w.eq (Fl.mk (k := .f32) 0 (by decide)) = false := by
    rw [← Bool.not_eq_true, eq_val nw z32.1, z32.2]; exact w0
  rw [h1, ite2_false, bind_of, ite2_false, wideAngle_eq hK, bind_of, chk_pos h]
theorem half_c : Num (Fl.mk (k := .f32) 1056964608 (by decide)) ∧ val (Fl.mk (k := .f32) 1056964608 (by decide)) = 1 / 2 := const_val (s := false) (m := 8388608) (p := -24) (by decide) (by decide +kernel)
theorem mhalf_c : Num (Fl.mk (k := .f32) 3204448256 (by decide)) ∧ val (Fl.mk (k := .f32) 3204448256 (by decide)) = -(1 / 2) := const_val (s := true) (m := 8388608) (p := -24) (by decide) (by decide +kernel)
theorem hinge_impl {K : Nat} (hK : 16 < K) {w x y z a b c : F32} (ny : Num (((a.mul x).add (b.mul y)).add (c.mul z))) (nw : Num w) (w0 : val w ≠ 0)
    (h : (convBits .f64 (angF (Fl.cv .f32 .f64 (((a.mul x).add (b.mul y)).add (c.mul z))) (Fl.cv .f32 .f64 w)).bits .f32).isSome = true)
    (nr : Num (t2c.mul (Fl.cv .f64 .f32 (angF (Fl.cv .f32 .f64 (((a.mul x).add (b.mul y)).add (c.mul z))) (Fl.cv .f32 .f64 w))))) (r0 : -(1 / 2) ≤ val (t2c.mul (Fl.cv .f64 .f32 (angF (Fl.cv .f32 .f64 (((a.mul x).add (b.mul y)).add (c.mul z))) (Fl.cv .f32 .f64 w)))))
    (r1 : val (t2c.mul (Fl.cv .f64 .f32 (angF (Fl.cv .f32 .f64 (((a.mul x).add (b.mul y)).add (c.mul z))) (Fl.cv .f32 .f64 w)))) ≤ 1 / 2) :
    impl_HingeAngle K (Turn.mk w x y z) (Vector.mk a b c) = some (t2c.mul (Fl.cv .f64 .f32 (angF (Fl.cv .f32 .f64 (((a.mul x).add (b.mul y)).add (c.mul z))) (Fl.cv .f32 .f64 w)))) := by
  unfold impl_HingeAngle impl_Turn_vector impl_InnerOf
  rw [bind_of, bind_of]
  dsimp only
  rw [angT hK ny nw w0 h, bind_of]
  generalize Fl.cv .f64 .f32 (angF (Fl.cv .f32 .f64 (((a.mul x).add (b.mul y)).add (c.mul z))) (Fl.cv .f32 .f64 w)) = r at nr r0 r1 ⊢
  change ite2 ((t2c.mul r).gt (Fl.mk (k := .f32) 1056964608 (by decide))) _ (ite2 ((t2c.mul r).lt' (Fl.mk (k := .f32) 3204448256 (by decide))) _ _) = _
  have g1 : (t2c.mul r).gt (Fl.mk (k := .f32) 1056964608 (by decide)) = false := by
    rw [← Bool.not_eq_true, gt_val nr half_c.1, half_c.2]; exact Rat.not_lt.2 r1
  have g2 : (t2c.mul r).lt' (Fl.mk (k := .f32) 3204448256 (by decide)) = false := by
    rw [← Bool.not_eq_true, lt_val nr mhalf_c.1, mhalf_c.2]; exact Rat.not_lt.2 r0
  rw [g1, ite2_false, g2, ite2_false]; rfl
end Go.Fw

namespace Go.Fw
open Go

def oneQ : Q4 := ⟨Fl.mk (k := .f32) 1065353216 (by decide), Fl.mk (k := .f32) 0 (by decide), Fl.mk (k := .f32) 0 (by decide), Fl.mk (k := .f32) 0 (by decide)⟩
theorem one32 : Num (Fl.mk (k := .f32) 1065353216 (by decide)) ∧ val (Fl.mk (k := .f32) 1065353216 (by decide)) = 1 := const_val (s := false) (m := 8388608) (p := -23) (by decide) (by decide +kernel)
theorem oneQ_vq : vq oneQ = ⟨1, 0, 0, 0⟩ := by
  unfold vq oneQ
  dsimp only
  rw [one32.2, z32.2]
theorem oneQ_u : U4 oneQ := by
  refine ⟨⟨one32.1, z32.1, z32.1, z32.1⟩, ?_⟩
  rw [oneQ_vq]
  decide +kernel
theorem noTurn_impl (K : Nat) : impl_NoTurn K = some (mt oneQ) := rfl
def partQ (x N s : F32) : F32 := (x.div N).mul s
def aboutQ (n : Nat) (x y z : F32) : Q4 := ⟨cF' n, partQ x (lenV x y z) (sF n), partQ y (lenV x y z) (sF n), partQ z (lenV x y z) (sF n)⟩
theorem U4.fair {q : Q4} (h : U4 q) : Fair q := by
  refine ⟨h.1, h.bound.mono (by decide +kernel), ?_⟩
  have := (abs_bounds h.2).2
  grind
/-- All that is needed of the turn about an axis. -/
theorem about_facts {n : Nat} (hn : n < 31) {x y z : F32} (nx : Num x) (ny : Num y) (nz : Num z) (bx : (val x).abs ≤ 4) (by_ : (val y).abs ≤ 4) (bz : (val z).abs ≤ 4) (h16 : 1 / 16 ≤ val x * val x + val y * val y + val z * val z) (h48 : val x * val x + val y * val y + val z * val z ≤ 48) :
    Num (lenV x y z) ∧ 0 < val (lenV x y z) ∧ val (lenV x y z) ≤ 8 ∧ U4 (aboutQ n x y z) ∧
    (∃ u1 u2 u3 k : Rat, k * val (lenV x y z) = 1 ∧ val x * k = u1 ∧ val y * k = u2 ∧ val z * k = u3 ∧ (u1 * u1 + u2 * u2 + u3 * u3 - 1).abs ≤ 12 / 10000000 ∧
      (val (aboutQ n x y z).x - u1 * val (sF n)).abs ≤ val (sF n) * (7 / 10000000) ∧ (val (aboutQ n x y z).y - u2 * val (sF n)).abs ≤ val (sF n) * (7 / 10000000) ∧ (val (aboutQ n x y z).z - u3 * val (sF n)).abs ≤ val (sF n) * (7 / 10000000)) := by
  obtain ⟨t1, t2, t3, t4, t5, t6, t7, t8, t9, t10⟩ := tab_facts hn
  have le5 : ∀ {x : Rat}, x.abs ≤ 4 → x.abs ≤ 500 := fun h => Rat.le_trans h (by decide +kernel)
  obtain ⟨-, l1, l2, l3⟩ := lenV_near nx ny nz (le5 bx) (le5 by_) (le5 bz)
  obtain ⟨n0, n8, k, k0, hk, hσ⟩ := dir_of l2 h16 h48 l3
  have hu : (val x * k * (val x * k) + val y * k * (val y * k) + val z * k * (val z * k) - 1).abs ≤ 12 / 10000000 := by
    have e : val x * k * (val x * k) + val y * k * (val y * k) + val z * k * (val z * k) = k * k * (val x * val x + val y * val y + val z * val z) := by grind
    rw [e]; exact hσ
  obtain ⟨b1, b2, b3⟩ := unit_abs3 hu
  obtain ⟨p1, p2⟩ := part_near nx l1 t2 hk rfl b1 t6 t7
  obtain ⟨p3, p4⟩ := part_near ny l1 t2 hk rfl b2 t6 t7
  obtain ⟨p5, p6⟩ := part_near nz l1 t2 hk rfl b3 t6 t7
  refine ⟨l1, n0, n8, ⟨⟨t3, p1, p3, p5⟩, ?_⟩, _, _, _, k, hk, rfl, rfl, rfl, hu, p2, p4, p6⟩
  have hs0 : 0 ≤ val (sF n) := by grind
  have hss : val (sF n) * val (sF n) ≤ 1 := Rat.le_trans (mul_le_mul' t7 t7 hs0 (by decide +kernel)) (by decide +kernel)
  obtain ⟨-, -, -, hsum⟩ := len_close (η := val (sF n) * (7 / 10000000)) p1 p3 p5 t6 (Rat.le_trans t7 (by decide +kernel)) hu (by grind) (by grind) p2 p4 p6
  obtain ⟨c1, c2⟩ := abs_bounds hsum
  obtain ⟨c3, c4⟩ := abs_bounds t10
  show (val (cF' n) * val (cF' n) + val (partQ x (lenV x y z) (sF n)) * val (partQ x (lenV x y z) (sF n)) + val (partQ y (lenV x y z) (sF n)) * val (partQ y (lenV x y z) (sF n)) + val (partQ z (lenV x y z) (sF n)) * val (partQ z (lenV x y z) (sF n)) - 1).abs ≤ 1 / 100000
  unfold partQ
  exact abs_le (by grind) (by grind)
theorem about_impl {n : Nat} (hn : n < 31) {x y z : F32} (l1 : Num (lenV x y z)) (n0 : 0 < val (lenV x y z)) : impl_TurnAbout 100 (Vector.mk x y z) (tF n) = some (mt (aboutQ n x y z)) := by
  obtain ⟨v, e1, e2, e3⟩ := sin_of (sin_tab ⟨n, hn⟩)
  obtain ⟨w, e4, e5, e6⟩ := sin_of (cos_tab ⟨n, hn⟩)
  unfold impl_TurnAbout
  rw [long_impl, bind_of, islen_impl 100 l1 (Rat.ne_of_gt n0), bind_of, Bool.not_true, ite2_false]
  rw [show (Fl.cv .f32 .f64 (tF n)).div (Fl.mk (k := .f64) 4611686018427387904 (by decide)) = hF n from rfl, e1, bind_of, chk_pos e2]
  rw [show (hF n).add (Fl.mk (k := .f64) 4598175219545276416 (by decide)) = gF n from rfl, e4, bind_of, chk_pos e5]
  unfold impl_Vector_over impl_ScaleVector impl_turnOf
  rw [bind_of, bind_of, bind_of, e3, e6]; rfl
theorem axis_impl {K : Nat} {q : Q4} (hl : Num (lenV q.x q.y q.z)) (h0 : val (lenV q.x q.y q.z) ≠ 0) (hw : Num q.w) (w0 : 0 ≤ val q.w) : impl_AxisOf K (mt q) = some (Vector.mk (q.x.div (lenV q.x q.y q.z)) (q.y.div (lenV q.x q.y q.z)) (q.z.div (lenV q.x q.y q.z))) := by
  unfold impl_AxisOf impl_Turn_vector
  rw [bind_of, show Vector.mk (mt q).X (mt q).Y (mt q).Z = Vector.mk q.x q.y q.z from rfl, long_impl, bind_of, islen_impl K hl h0, bind_of, Bool.not_true, ite2_false]
  have h : (mt q).W.lt' (Fl.mk (k := .f32) 0 (by decide)) = false := by
    rw [← Bool.not_eq_true, lt_val (x := (mt q).W) hw z32.1, z32.2]; exact Rat.not_lt.2 w0
  rw [h, ite2_false]; rfl
def crossF (a b c d : F32) : F32 := (a.mul b).sub (c.mul d)
def rotF (v c w q p r s : F32) : F32 := (v.add ((c.mul t2c).mul w)).add ((q.mul (p.mul t2c)).sub (r.mul (s.mul t2c)))
theorem rotate_impl (K : Nat) (q : Q4) (x y z : F32) : impl_RotateBy K (mt q) (Vector.mk x y z) = some (Vector.mk
    (rotF x (crossF q.y z q.z y) q.w q.y (crossF q.x y q.y x) q.z (crossF q.z x q.x z))
    (rotF y (crossF q.z x q.x z) q.w q.z (crossF q.y z q.z y) q.x (crossF q.x y q.y x))
    (rotF z (crossF q.x y q.y x) q.w q.x (crossF q.z x q.x z) q.y (crossF q.y z q.z y))) := rfl
theorem rot_small {v c w q p r s : F32} (nv : Num v) (nc : Num c) (nw : Num w) (nq : Num q) (np : Num p) (nr : Num r) (ns : Num s) (hv : (val v).abs ≤ 4) (hc : (val c).abs ≤ 8 / 1000000) (hp : (val p).abs ≤ 8 / 1000000) (hs : (val s).abs ≤ 8 / 1000000) (hw : (val w).abs ≤ 102 / 100) (hq : (val q).abs ≤ 102 / 100) (hr : (val r).abs ≤ 102 / 100) :
    Num ((rotF v c w q p r s).sub v) ∧ (val ((rotF v c w q p r s).sub v)).abs ≤ 1 / 10000 := by
  obtain ⟨a1, a2⟩ := twice_near nc hc
  obtain ⟨b1, b2⟩ := twice_near np hp
  obtain ⟨c1, c2⟩ := twice_near ns hs
  obtain ⟨d1, d2⟩ := scaled_near a1 nw a2 hw
  have sw : ∀ {z w : F32}, Num z → Num w → (val z).abs ≤ 17 / 1000000 → (val w).abs ≤ 102 / 100 → Num (w.mul z) ∧ (val (w.mul z)).abs ≤ 18 / 1000000 := by
    intro z w hz hw h hw1
    have e : (val w * val z).abs ≤ 1735 / 100000000 := by
      rw [mul_abs]
      exact Rat.le_trans (mul_le_mul' hw1 h Rat.abs_nonneg (by decide +kernel)) (by decide +kernel)
    obtain ⟨m1, m2⟩ := m32 hw hz e (by decide +kernel)
    obtain ⟨c1, c2⟩ := abs_bounds m2
    obtain ⟨c3, c4⟩ := abs_bounds e
    exact ⟨m1, abs_le (by grind) (by grind)⟩
  obtain ⟨f1, f2⟩ := sw b1 nq b2 hq
  obtain ⟨g1, g2⟩ := sw c1 nr c2 hr
  exact turned_near (k := v) nv d1 hv d2 f1 g1 f2 g2
theorem r8small (K : Nat) {c : List Int} (hc : Byt c) : ∃ r s t : Nat, r < 33 ∧ s < 33 ∧ t < 33 ∧ spec_R8Small K c = some (Vector.mk (qF (r : Int)) (qF (s : Int)) (qF (t : Int))) := by
  obtain ⟨v1, a1, s1, e1, ⟨r1, hr1, rfl⟩, h1, h2⟩ := small_q (K := K) hc 0 0 (by decide) (by decide)
  obtain ⟨v2, a2, s2, e2, ⟨r2, hr2, rfl⟩, h3, h4⟩ := small_q (K := K) hc a1 s1 h1 (by omega)
  obtain ⟨v3, a3, s3, e3, ⟨r3, hr3, rfl⟩, h5, h6⟩ := small_q (K := K) hc a2 s2 h3 (by omega)
  refine ⟨r1, r2, r3, hr1, hr2, hr3, ?_⟩
  unfold spec_R8Small
  rw [e1, bind_of]
  dsimp only
  rw [e2, bind_of]
  dsimp only
  rw [e3, bind_of]
theorem r8At_31 (K : Nat) {c : List Int} (hc : Byt c) : ∃ n : Nat, n < 31 ∧ laws_r8At K c 0 31 = some (n : Int) := by
  unfold laws_r8At
  rw [show decide ((31 : Int) ≤ 1) = false from rfl, ite2_false, bind_of]
  by_cases h : (0 : Int) ≥ (c.length : Int)
  · rw [decide_eq_true h, ite2_true]
    exact ⟨0, by decide, rfl⟩
  · rw [decide_eq_false h, ite2_false, chk_pos ⟨by decide, by omega⟩, chk_pos (by decide)]
    have hx : 0 ≤ c.getD (0 : Int).toNat default ∧ c.getD (0 : Int).toNat default < 256 := by
      rw [List.getD_eq_getElem?_getD, List.getElem?_eq_getElem (show (0 : Int).toNat < c.length by simp; omega)]
      exact hc _ (List.getElem_mem _)
    generalize c.getD (0 : Int).toNat default = x at hx
    have hw : IntKind.i64.wrap x = x := by unfold IntKind.wrap; simp [IntKind.signed, IntKind.bits]; omega
    rw [hw]
    obtain ⟨t1, t2⟩ := tmod_in (n := 31) hx.1 (by decide)
    exact ⟨(x.tmod 31).toNat, by omega, by congr 1; omega⟩
theorem quarter {r : Nat} (h : r < 33) : Num (qF (r : Int)) ∧ (val (qF (r : Int))).abs ≤ 4 ∧ 0 ≤ val (qF (r : Int)) * val (qF (r : Int)) ∧ val (qF (r : Int)) * val (qF (r : Int)) ≤ 16 ∧ (r ≠ 16 → 1 / 16 ≤ val (qF (r : Int)) * val (qF (r : Int))) ∧ (r ≠ 16 → (qF (r : Int)).eq (default : F32) = false) := by
  obtain ⟨n, e⟩ := qF_val h
  have h1 : (r : Rat) ≤ ((32 : Nat) : Rat) := Rat.natCast_le_natCast.2 (by omega)
  have h2 : ((0 : Nat) : Rat) ≤ (r : Rat) := Rat.natCast_le_natCast.2 (by omega)
  have e1 : ((32 : Nat) : Rat) = 32 := rfl
  have e2 : ((0 : Nat) : Rat) = 0 := rfl
  rw [e1] at h1
  rw [e2] at h2
  have ha : (val (qF (r : Int))).abs ≤ 4 := abs_le (by grind) (by grind)
  have hne : r ≠ 16 → 1 / 16 ≤ val (qF (r : Int)) * val (qF (r : Int)) := by
    intro hne
    rcases Nat.lt_or_gt_of_ne hne with h | h
    · have h3 : (r : Rat) ≤ ((15 : Nat) : Rat) := Rat.natCast_le_natCast.2 (by omega)
      have e3 : ((15 : Nat) : Rat) = 15 := rfl
      rw [e3] at h3
      have h4 : 1 / 4 ≤ -val (qF (r : Int)) := by grind
      have := mul_le_mul' h4 h4 (by decide +kernel) (by grind)
      grind
    · have h3 : ((17 : Nat) : Rat) ≤ (r : Rat) := Rat.natCast_le_natCast.2 (by omega)
      have e3 : ((17 : Nat) : Rat) = 17 := rfl
      rw [e3] at h3
      have h4 : 1 / 4 ≤ val (qF (r : Int)) := by grind
      have := mul_le_mul' h4 h4 (by decide +kernel) (by grind)
      grind
  refine ⟨n, ha, sq_nonneg _, ?_, hne, fun h => ?_⟩
  · have := mul_le_mul' ha ha Rat.abs_nonneg (by decide +kernel)
    rw [← mul_abs, Rat.abs_of_nonneg (sq_nonneg _)] at this
    exact Rat.le_trans this (by decide +kernel)
  · rw [← Bool.not_eq_true, eq_val (y := (default : F32)) n z32.1]
    intro hz
    have h5 := hne h
    have hz' : val (qF (r : Int)) = 0 := by rw [hz]; exact z32.2
    rw [hz'] at h5
    exact absurd h5 (by decide +kernel)
theorem gap_impl (K : Nat) (a b : F64) : laws_r8Gap K a b = some ((a.sub b).maxF (b.sub a)) := rfl
theorem zero_axis {n : Nat} : (impl_TurnAbout 100 (Vector.mk (qF (16 : Nat)) (qF (16 : Nat)) (qF (16 : Nat))) (tF n)) = some (mt oneQ) := by
  unfold impl_TurnAbout
  rw [long_impl, bind_of]
  have h : impl_isLength 100 (lenV (qF (16 : Nat)) (qF (16 : Nat)) (qF (16 : Nat))) = some false := by
    unfold impl_isLength impl_IsFinite
    rw [show ((lenV (qF (16 : Nat)) (qF (16 : Nat)) (qF (16 : Nat))).sub (lenV (qF (16 : Nat)) (qF (16 : Nat)) (qF (16 : Nat)))).eq (Fl.mk (k := .f32) 0 (by decide)) = true by decide +kernel, bind_of, ite2_true, bind_of]
    have hn : (lenV (qF (16 : Nat)) (qF (16 : Nat)) (qF (16 : Nat))).ne (Fl.mk (k := .f32) 0 (by decide)) = false := by decide +kernel
    rw [hn]
  rw [h, bind_of, Bool.not_false, ite2_true]; rfl
theorem cmul_one (q : R4) : cmulR q ⟨1, 0, 0, 0⟩ = ⟨q.w, -q.x, -q.y, -q.z⟩ := by
  cases q
  unfold cmulR mulR conjR
  congr 1 <;> grind
theorem apart_mt {K : Nat} (hK : 16 < K) (p q : Q4) (h : Fair (apartQ p q)) : impl_ApartTurns K (mt p) (mt q) = some (angQ (apartQ p q)) := apart_impl hK (mt p) (mt q) h
theorem about_true (a b : List Int) (ha : Byt a) (hb : Byt b) : ∃ K, laws_FnAbout K a b = some true := by
  refine ⟨100, ?_⟩
  have hK : 16 < 100 := by decide
  unfold laws_FnAbout laws_r8Long
  rw [ite2_dec]
  by_cases la : (a.length : Int) > 48
  · rw [if_pos la, bind_of, bind_of, ite2_true]
  rw [if_neg la, bind_of]
  by_cases lb : (b.length : Int) > 48
  · rw [decide_eq_true lb, bind_of, ite2_true]
  rw [decide_eq_false lb, bind_of, ite2_false]
  obtain ⟨r, s, t, hr, hs, ht, ev⟩ := r8small 100 ha
  obtain ⟨n, hn, en⟩ := r8At_31 100 hb
  rw [ev, bind_of, en, bind_of, long_impl, bind_of, show (Fl.ofInt .f32 (IntKind.i64.wrap ((1 : Int) + (n : Int)))).div (Fl.mk (k := .f32) 1115684864 (by decide)) = tF n from rfl]
  by_cases hz : r = 16 ∧ s = 16 ∧ t = 16
  · obtain ⟨rfl, rfl, rfl⟩ := hz
    rw [zero_axis, bind_of]
    dsimp only
    rw [show ((qF (16 : Nat)).eq (default : F32) && ((qF (16 : Nat)).eq (default : F32) && ((qF (16 : Nat)).eq (default : F32) && true))) = true by decide +kernel, ite2_true, noTurn_impl, bind_of]
    congr 1
  obtain ⟨nx, bx, x0, x16, xn, xe⟩ := quarter hr
  obtain ⟨ny, by_, y0, y16, yn, ye⟩ := quarter hs
  obtain ⟨nz, bz, z0, z16, zn, ze⟩ := quarter ht
  have hcond : ((qF (r : Int)).eq (default : F32) && ((qF (s : Int)).eq (default : F32) && ((qF (t : Int)).eq (default : F32) && true))) = false := by
    by_cases h1 : r = 16
    · by_cases h2 : s = 16
      · rw [ze fun h3 => hz ⟨h1, h2, h3⟩]; simp
      · rw [ye h2]; simp
    · rw [xe h1]; simp
  have h16 : 1 / 16 ≤ val (qF (r : Int)) * val (qF (r : Int)) + val (qF (s : Int)) * val (qF (s : Int)) + val (qF (t : Int)) * val (qF (t : Int)) := by
    by_cases h1 : r = 16
    · by_cases h2 : s = 16
      · have := zn fun h3 => hz ⟨h1, h2, h3⟩
        grind
      · have := yn h2; grind
    · have := xn h1; grind
  have h48 : val (qF (r : Int)) * val (qF (r : Int)) + val (qF (s : Int)) * val (qF (s : Int)) + val (qF (t : Int)) * val (qF (t : Int)) ≤ 48 := by grind
  generalize qF (r : Int) = x at *
  generalize qF (s : Int) = y at *
  generalize qF (t : Int) = z at *
  clear x0 y0 z0 x16 y16 z16 xn yn zn xe ye ze ev
  obtain ⟨l1, n0, n8, uT, u1, u2, u3, k, hk, e1, e2, e3, hu, q1, q2, q3⟩ := about_facts hn nx ny nz bx by_ bz h16 h48
  obtain ⟨t1, t2, t3, t4, t5, t6, t7, t8, t9, t10⟩ := tab_facts hn
  rw [about_impl hn l1 n0, bind_of]
  dsimp only
  rw [hcond, ite2_false]
  obtain ⟨d1, d2, d3⟩ := unit_abs3 hu
  have hs0 : 0 ≤ val (sF n) := by grind
  -- the length of the vector
  obtain ⟨m1, m2, m3, m4⟩ := len_close (η := val (sF n) * (7 / 10000000)) uT.1.2.1 uT.1.2.2.1 uT.1.2.2.2 t6 (Rat.le_trans t7 (by decide +kernel)) hu (by grind) (by grind) q1 q2 q3
  have hls : (val (lenV (aboutQ n x y z).x (aboutQ n x y z).y (aboutQ n x y z).z) - val (sF n)).abs ≤ val (sF n) * (8 / 1000000) := Rat.le_trans m3 (by grind)
  obtain ⟨f1, f2⟩ := abs_bounds hls
  have L0 : 0 < val (lenV (aboutQ n x y z).x (aboutQ n x y z).y (aboutQ n x y z).z) := by grind
  obtain ⟨m, hm⟩ := quot_ex (a := 1) (Rat.ne_of_gt L0)
  have hm0 : 0 < m := by
    refine Rat.not_le.1 fun h => ?_
    have := Rat.mul_nonneg (show 0 ≤ -m by grind) (Rat.le_of_lt L0)
    grind
  obtain ⟨a1, a2⟩ := axis_near uT.1.2.1 m1 hm hm0 t6 d1 q1 hls
  obtain ⟨a3, a4⟩ := axis_near uT.1.2.2.1 m1 hm hm0 t6 d2 q2 hls
  obtain ⟨a5, a6⟩ := axis_near uT.1.2.2.2 m1 hm hm0 t6 d3 q3 hls
  have wq : (aboutQ n x y z).w = cF' n := rfl
  rw [axis_impl m1 (Rat.ne_of_gt L0) (q := aboutQ n x y z) uT.1.1 (by rw [wq]; grind), bind_of, rotate_impl, bind_of]
  have fT := uT.fair
  rw [angle_impl hK fT, bind_of, gap_impl, bind_of]
  -- the angle
  obtain ⟨w1, w2⟩ := abs32_val (x := (aboutQ n x y z).w) uT.1.1
  rw [wq, Rat.abs_of_nonneg (show 0 ≤ val (cF' n) by grind)] at w2
  have hz0 : (val (aboutQ n x y z).w.abs32 - val (cF' n)).abs ≤ 5 / 100000 := by rw [wq, w2, Rat.sub_self]; decide +kernel
  obtain ⟨g1, g2, g3⟩ := ang_t hn m1 w1 (Rat.le_trans hls (by grind)) hz0
  have gA := (gap_ok (x := angQ (aboutQ n x y z)) g2 t1 g3).1
  rw [gA, ite2_false]
  -- the axis times the length
  obtain ⟨b1, b2⟩ := back_near a1 l1 nx hk e1 n0 n8 d1 a2
  obtain ⟨b3, b4⟩ := back_near a3 l1 ny hk e2 n0 n8 d2 a4
  obtain ⟨b5, b6⟩ := back_near a5 l1 nz hk e3 n0 n8 d3 a6
  unfold impl_ScaleVector impl_LessVectors
  rw [bind_of, bind_of, long_impl, bind_of]
  dsimp only
  rw [len_small b1 b3 b5 b2 b4 b6, ite2_false, bind_of, long_impl, bind_of]
  -- what is turned stays
  have hx : val x = u1 * val (lenV x y z) := by rw [← e1, Rat.mul_assoc, hk, Rat.mul_one]
  have hy : val y = u2 * val (lenV x y z) := by rw [← e2, Rat.mul_assoc, hk, Rat.mul_one]
  have hz' : val z = u3 * val (lenV x y z) := by rw [← e3, Rat.mul_assoc, hk, Rat.mul_one]
  obtain ⟨c1, c2⟩ := cross_near (a := (aboutQ n x y z).y) (b := z) (c := (aboutQ n x y z).z) (d := y) uT.1.2.2.1 nz uT.1.2.2.2 ny t7 d2 d3 hs0 q2 q3 hz' hy bz by_
  obtain ⟨c3, c4⟩ := cross_near (a := (aboutQ n x y z).z) (b := x) (c := (aboutQ n x y z).x) (d := z) uT.1.2.2.2 nx uT.1.2.1 nz t7 d3 d1 hs0 q3 q1 hx hz' bx bz
  obtain ⟨c5, c6⟩ := cross_near (a := (aboutQ n x y z).x) (b := y) (c := (aboutQ n x y z).y) (d := x) uT.1.2.1 ny uT.1.2.2.1 nx t7 d1 d2 hs0 q1 q2 hy hx by_ bx
  obtain ⟨k1, k2, k3, k4⟩ := uT.bound
  have le102 : ∀ {x : Rat}, x.abs ≤ 10001 / 10000 → x.abs ≤ 102 / 100 := fun h => Rat.le_trans h (by decide +kernel)
  obtain ⟨v1, v2⟩ := rot_small nx c1 uT.1.1 uT.1.2.2.1 c5 uT.1.2.2.2 c3 bx c2 c6 c4 (le102 k1) (le102 k3) (le102 k4)
  obtain ⟨v3, v4⟩ := rot_small ny c3 uT.1.1 uT.1.2.2.2 c1 uT.1.2.1 c5 by_ c4 c2 c6 (le102 k1) (le102 k4) (le102 k2)
  obtain ⟨v5, v6⟩ := rot_small nz c5 uT.1.1 uT.1.2.1 c3 uT.1.2.2.1 c1 bz c6 c4 c2 (le102 k1) (le102 k2) (le102 k3)
  have gR := len_small v1 v3 v5 v2 v4 v6
  rw [show (Fl.cv .f32 .f64 (lenV ((rotF x (crossF (aboutQ n x y z).y z (aboutQ n x y z).z y) (aboutQ n x y z).w (aboutQ n x y z).y (crossF (aboutQ n x y z).x y (aboutQ n x y z).y x) (aboutQ n x y z).z (crossF (aboutQ n x y z).z x (aboutQ n x y z).x z)).sub x) ((rotF y (crossF (aboutQ n x y z).z x (aboutQ n x y z).x z) (aboutQ n x y z).w (aboutQ n x y z).z (crossF (aboutQ n x y z).y z (aboutQ n x y z).z y) (aboutQ n x y z).x (crossF (aboutQ n x y z).x y (aboutQ n x y z).y x)).sub y) ((rotF z (crossF (aboutQ n x y z).x y (aboutQ n x y z).y x) (aboutQ n x y z).w (aboutQ n x y z).x (crossF (aboutQ n x y z).z x (aboutQ n x y z).x z) (aboutQ n x y z).y (crossF (aboutQ n x y z).y z (aboutQ n x y z).z y)).sub z))).gt (Fl.mk (k := .f64) 4562254508917369340 (by decide)) = false from gR, bind_of, ite2_false, noTurn_impl, bind_of]
  -- apartness
  obtain ⟨⟨⟨r1, r2, r3, r4⟩, r5, r6, r7, r8⟩, -, -, -, fA⟩ := unit_apart uT oneQ_u
  have hcm : cmulR (vq (aboutQ n x y z)) (vq oneQ) = ⟨val (aboutQ n x y z).w, -val (aboutQ n x y z).x, -val (aboutQ n x y z).y, -val (aboutQ n x y z).z⟩ := by
    rw [oneQ_vq]
    exact cmul_one _
  rw [hcm] at r5 r6 r7 r8
  dsimp only at r5 r6 r7 r8
  have opp : ∀ {p q u : Rat}, (p - -q).abs ≤ 1 / 250000 → (q - u * val (sF n)).abs ≤ val (sF n) * (7 / 10000000) → (p - (-u) * val (sF n)).abs ≤ 5 / 1000000 := by
    intro p q u h1 h2
    obtain ⟨i1, i2⟩ := abs_bounds h1
    obtain ⟨i3, i4⟩ := abs_bounds h2
    exact abs_le (by grind) (by grind)
  have hu' : (-u1 * -u1 + -u2 * -u2 + -u3 * -u3 - 1).abs ≤ 12 / 10000000 := by
    have e : -u1 * -u1 + -u2 * -u2 + -u3 * -u3 - 1 = u1 * u1 + u2 * u2 + u3 * u3 - 1 := by grind
    rw [e]; exact hu
  obtain ⟨o1, o2, o3, -⟩ := len_close (η := 5 / 1000000) r2 r3 r4 t6 (Rat.le_trans t7 (by decide +kernel)) hu' (by decide +kernel) (by decide +kernel) (opp r6 q1) (opp r7 q2) (opp r8 q3)
  obtain ⟨j1, j2⟩ := abs32_val r1
  obtain ⟨i1, i2⟩ := abs_bounds r5
  rw [wq] at i1 i2
  rw [Rat.abs_of_nonneg (show 0 ≤ val (apartQ (aboutQ n x y z) oneQ).w by grind)] at j2
  obtain ⟨h1, h2, h3⟩ := ang_t hn o1 j1 (Rat.le_trans o3 (by grind)) (by rw [j2]; exact abs_le (by grind) (by grind))
  rw [apart_mt hK _ _ fA, bind_of, gap_impl, bind_of, (gap_ok (x := angQ (apartQ (aboutQ n x y z) oneQ)) h2 t1 h3).2, ite2_true]
  -- the hinge
  obtain ⟨y1, y2⟩ := hinge_near a1 a3 a5 uT.1.2.1 uT.1.2.2.1 uT.1.2.2.2 t6 t7 hu a2 a4 a6 q1 q2 q3
  obtain ⟨s1, s2, s3⟩ := ang_t hn y1 uT.1.1 y2 (by rw [wq, Rat.sub_self]; decide +kernel)
  obtain ⟨z1, z2⟩ := abs_bounds s3
  have hh := hinge_impl hK y1 uT.1.1 (by rw [wq]; grind) s1 s2 (by grind) (by grind)
  rw [show impl_HingeAngle 100 (mt (aboutQ n x y z)) (Vector.mk ((aboutQ n x y z).x.div (lenV (aboutQ n x y z).x (aboutQ n x y z).y (aboutQ n x y z).z)) ((aboutQ n x y z).y.div (lenV (aboutQ n x y z).x (aboutQ n x y z).y (aboutQ n x y z).z)) ((aboutQ n x y z).z.div (lenV (aboutQ n x y z).x (aboutQ n x y z).y (aboutQ n x y z).z))) = some _ from hh, bind_of, gap_impl, bind_of, (gap_ok s2 t1 s3).2, bind_of]
theorem law_FnAbout (a b : List Int) (ha : a.length ≤ maxLen ∧ ∀ x ∈ a, (Lit.int .u8 x).wf = true) (hb : b.length ≤ maxLen ∧ ∀ x ∈ b, (Lit.int .u8 x).wf = true) : ∃ K, laws_FnAbout K a b = some true := by
  have byt : ∀ {c : List Int}, (∀ x ∈ c, (Lit.int .u8 x).wf = true) → Byt c := fun h x hx => by
    have := h x hx
    simp only [Lit.wf, Bool.and_eq_true, decide_eq_true_eq] at this
    have e1 : IntKind.u8.min = 0 := by decide
    have e2 : IntKind.u8.max = 255 := by decide
    omega
  exact about_true a b (byt ha.2) (byt hb.2)
end Go.Fw

