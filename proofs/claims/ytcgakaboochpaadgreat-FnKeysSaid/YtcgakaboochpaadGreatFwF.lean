
import Derived.Orders
import Derived.Laws.World
import Derived.Laws.Sem
import Derived.Laws.Entries
import Derived.Laws.FloatBits
import Derived.Laws.FloatArith
namespace Go.Fw
open Go
def nanB (k : FloatKind) (b : Nat) : Bool := (k.format.read b).isNaN
def nanBits : FloatKind → Nat
 | .f32 => 2143289344
 | .f64 => 9221120237041090561
def zq2 (k : FloatKind) (b : Nat) : Nat := if nanB k b then nanBits k else b
def optF (k : FloatKind) : Option Nat → Nat
 | some r => zq2 k r
 | none => nanBits k
def okF (k : FloatKind) (c : Nat) : Bool := decide (c < 2 ^ k.format.width) && (zq2 k c == c)
theorem zjb (k : FloatKind) : nanB k (nanBits k) = true := by cases k <;> decide
theorem nanBits_lt (k : FloatKind) : nanBits k < 2 ^ k.format.width := by cases k <;> decide
theorem zx3 {k : FloatKind} {b : Nat} (h : nanB k b = true) : zq2 k b = nanBits k := by simp [zq2, h]
theorem zwh {k : FloatKind} {b : Nat} (h : nanB k b = false) : zq2 k b = b := by simp [zq2, h]
theorem canonF_nanBits (k : FloatKind) : zq2 k (nanBits k) = nanBits k := zx3 (zjb k)
theorem canonF_canonF (k : FloatKind) (b : Nat) : zq2 k (zq2 k b) = zq2 k b := by
 cases h : nanB k b
 ·rw [zwh h, zwh h]
 ·rw [zx3 h, canonF_nanBits]
theorem zvh (k : FloatKind) (b : Nat) : nanB k (zq2 k b) = nanB k b := by
 cases h : nanB k b
 ·rw [zwh h, h]
 ·rw [zx3 h, zjb]
theorem canonF_lt {k : FloatKind} {b : Nat} (h : b < 2 ^ k.format.width) : zq2 k b < 2 ^ k.format.width := by
 cases hb : nanB k b
 ·rwa [zwh hb]
 ·rw [zx3 hb]; exact nanBits_lt k
theorem zy5 {k : FloatKind} {b : Nat} (h : b < 2 ^ k.format.width) : okF k (zq2 k b) = true := by
 simp [okF, canonF_lt h, canonF_canonF]
theorem zck (k : FloatKind) : okF k (nanBits k) = true := by cases k <;> decide
structure Fl (k : FloatKind) where
 bits : Nat
 ok : okF k bits = true
abbrev F32 := Fl .f32
abbrev F64 := Fl .f64
theorem Fl.ext {k : FloatKind} {x y : Fl k} (h : x.bits = y.bits) : x = y := by
 cases x; cases y; cases h; rfl
instance (k : FloatKind) : DecidableEq (Fl k) := fun x y =>
 if h : x.bits = y.bits then isTrue (Fl.ext h) else isFalse (fun e => h (e ▸ rfl))
theorem Fl.lt {k : FloatKind} (x : Fl k) : x.bits < 2 ^ k.format.width := by
 have := x.ok; simp [okF] at this; exact this.1
theorem Fl.canon {k : FloatKind} (x : Fl k) : zq2 k x.bits = x.bits := by
 have := x.ok; simp [okF] at this; exact this.2
def Fl.nan (k : FloatKind) : Fl k := ⟨nanBits k, zck k⟩
def Fl.of (k : FloatKind) (b : Nat) (h : b < 2 ^ k.format.width) : Fl k := ⟨zq2 k b, zy5 h⟩
theorem optF_ok {k : FloatKind} {o : Option Nat} (h : ∀ r, o = some r → r < 2 ^ k.format.width) : okF k (optF k o) = true := by
 cases o with
 | none => exact zck k
 | some r => exact zy5 (h r rfl)
def Fl.opt (k : FloatKind) (o : Option Nat) (h : ∀ r, o = some r → r < 2 ^ k.format.width) : Fl k := ⟨optF k o, optF_ok h⟩
instance (k : FloatKind) : Inhabited (Fl k) := ⟨⟨0, by cases k <;> decide⟩⟩
def Fl.add {k : FloatKind} (x y : Fl k) : Fl k := .opt k (k.format.add x.bits y.bits) fun _ h => k.format.add_lt h
def Fl.sub {k : FloatKind} (x y : Fl k) : Fl k := .opt k (k.format.sub x.bits y.bits) fun _ h => k.format.sub_lt h
def Fl.mul {k : FloatKind} (x y : Fl k) : Fl k := .opt k (k.format.mul x.bits y.bits) fun _ h => k.format.mul_lt h
def Fl.div {k : FloatKind} (x y : Fl k) : Fl k := .opt k (k.format.div x.bits y.bits) fun _ h => k.format.div_lt h
def Fl.sqrt {k : FloatKind} (x : Fl k) : Fl k := .opt k (k.format.sqrt x.bits) fun _ h => k.format.sqrt_lt h
def zft (k : FloatKind) (c : Nat) : Nat := zq2 k (Op.negFloat k c)
theorem negFloat_lt {k : FloatKind} {b : Nat} (h : b < 2 ^ k.format.width) : Op.negFloat k b < 2 ^ k.format.width := by
 unfold Op.negFloat
 refine Nat.xor_lt_two_pow h ?_
 cases k <;> decide
def Fl.neg {k : FloatKind} (x : Fl k) : Fl k := ⟨zft k x.bits, zy5 (negFloat_lt x.lt)⟩
theorem nearest_lt (k : FloatKind) (n : Int) : k.nearest n < 2 ^ k.format.width := by unfold FloatKind.nearest FloatKind.encode; exact k.format.write_lt _
def Fl.ofInt (k : FloatKind) (n : Int) : Fl k := ⟨zq2 k (k.nearest n), zy5 (nearest_lt k n)⟩
def zqw (src : FloatKind) (c : Nat) (dst : FloatKind) : Option Nat :=
 if nanB src c then some (nanBits dst) else (floatToFloatBits src c dst).map (zq2 dst)
def zv4 (op : BinOp) (k : FloatKind) (x y : Nat) : Bool :=
 match op with
 | .eql => k.format.order x y == some .eq
 | .neq => k.format.order x y != some .eq
 | .lss => k.format.order x y == some .lt
 | .leq => k.format.order x y == some .lt || k.format.order x y == some .eq
 | .gtr => k.format.order x y == some .gt
 | .geq => k.format.order x y == some .gt || k.format.order x y == some .eq
 | _ => false
def Fl.eq {k : FloatKind} (x y : Fl k) : Bool := zv4 .eql k x.bits y.bits
def Fl.ne {k : FloatKind} (x y : Fl k) : Bool := zv4 .neq k x.bits y.bits
def Fl.lt' {k : FloatKind} (x y : Fl k) : Bool := zv4 .lss k x.bits y.bits
def Fl.le {k : FloatKind} (x y : Fl k) : Bool := zv4 .leq k x.bits y.bits
def Fl.gt {k : FloatKind} (x y : Fl k) : Bool := zv4 .gtr k x.bits y.bits
theorem zvj {k : FloatKind} {b : Nat} (h : nanB k b = true) : ∃ s t, k.format.read b = .nan s t := by
 unfold nanB Ieee.Datum.isNaN at h
 split at h
 ·exact ⟨_, _, by assumption⟩
 ·cases h
theorem zyj (d : Ieee.Datum) (s : Bool) (t : Nat) : d.sum (.nan s t) = none := by cases d <;> rfl
theorem zku (d : Ieee.Datum) (s : Bool) (t : Nat) : d.product (.nan s t) = none := by cases d <;> rfl
theorem quotient_nan_right (n : Nat) (d : Ieee.Datum) (s : Bool) (t : Nat) : d.quotient n (.nan s t) = none := by cases d <;> rfl
theorem order_nan_right (d : Ieee.Datum) (s : Bool) (t : Nat) : d.order (.nan s t) = none := by cases d <;> rfl
theorem zbu {β : Type} {k : FloatKind} (f : Ieee.Datum → Ieee.Datum → β) (z : β) (hl : ∀ s t d, f (.nan s t) d = z) (hr : ∀ d s t, f d (.nan s t) = z) (a b : Nat) :
  f (k.format.read a) (k.format.read b) = f (k.format.read (zq2 k a)) (k.format.read (zq2 k b)) := by
 cases ha : nanB k a
 ·rw [zwh ha]
  cases hb : nanB k b
  ·rw [zwh hb]
  ·obtain ⟨s, t, e⟩ := zvj hb
   obtain ⟨s', t', e'⟩ := zvj (k := k) (b := zq2 k b) (by rw [zvh]; exact hb)
   rw [e, e', hr, hr]
 ·obtain ⟨s, t, e⟩ := zvj ha
  obtain ⟨s', t', e'⟩ := zvj (k := k) (b := zq2 k a) (by rw [zvh]; exact ha)
  rw [e, e', hl, hl]
theorem add_canon (k : FloatKind) (a b : Nat) : k.format.add a b = k.format.add (zq2 k a) (zq2 k b) := by
 unfold Ieee.Format.add
 rw [zbu (fun x y => x.sum y) none (fun _ _ _ => rfl) (fun _ _ _ => zyj _ _ _) a b]
theorem sub_canon (k : FloatKind) (a b : Nat) : k.format.sub a b = k.format.sub (zq2 k a) (zq2 k b) := by
 unfold Ieee.Format.sub
 rw [zbu (fun x y => x.sum y.opposite) none (fun _ _ _ => rfl) (fun _ _ _ => zyj _ _ _) a b]
theorem mul_canon (k : FloatKind) (a b : Nat) : k.format.mul a b = k.format.mul (zq2 k a) (zq2 k b) := by
 unfold Ieee.Format.mul
 rw [zbu (fun x y => x.product y) none (fun _ _ _ => rfl) (fun _ _ _ => zku _ _ _) a b]
theorem div_canon (k : FloatKind) (a b : Nat) : k.format.div a b = k.format.div (zq2 k a) (zq2 k b) := by
 unfold Ieee.Format.div
 rw [zbu (fun x y => x.quotient (k.format.fractionBits + 2) y) none (fun _ _ _ => rfl) (fun _ _ _ => quotient_nan_right _ _ _ _) a b]
theorem order_canon (k : FloatKind) (a b : Nat) : k.format.order a b = k.format.order (zq2 k a) (zq2 k b) := by
 unfold Ieee.Format.order
 rw [zbu (fun x y => x.order y) none (fun _ _ _ => rfl) (fun _ _ _ => order_nan_right _ _ _) a b]
theorem one_canon {β : Type} {k : FloatKind} (f : Ieee.Datum → β) (z : β) (hl : ∀ s t, f (.nan s t) = z) (a : Nat) :
  f (k.format.read a) = f (k.format.read (zq2 k a)) := by
 cases ha : nanB k a
 ·rw [zwh ha]
 ·obtain ⟨s, t, e⟩ := zvj ha
  obtain ⟨s', t', e'⟩ := zvj (k := k) (b := zq2 k a) (by rw [zvh]; exact ha)
  rw [e, e', hl, hl]
theorem sqrt_canon (k : FloatKind) (a : Nat) : k.format.sqrt a = k.format.sqrt (zq2 k a) := by
 unfold Ieee.Format.sqrt
 rw [one_canon (fun x => x.root (k.format.fractionBits + 2)) none (fun _ _ => rfl) a]
theorem cmpBits_canon (op : BinOp) (k : FloatKind) (a b : Nat) : zv4 op k a b = zv4 op k (zq2 k a) (zq2 k b) := by
 unfold zv4; rw [order_canon]
theorem cut_nan (q : Question) (k : FloatKind) (t : Nat) (h : (∃ x y, q = .nanBits k x y) ∨ (∃ b, q = .nanConv k b) ∨ (∃ m x y, q = .nanMinMax k m x y)) :
  nanB k (q.cut t) = true ∧ q.cut t < 2 ^ k.format.width := by
 have key : ∀ (n : Nat), (k = .f32 → n = (t % 2) * 2 ^ 31 + 0x7f800000 + 1 + (t / 2) % (2 ^ 23 - 1)) → (k = .f64 → n = (t % 2) * 2 ^ 63 + 0x7ff0000000000000 + 1 + (t / 2) % (2 ^ 52 - 1)) →
   nanB k n = true ∧ n < 2 ^ k.format.width := by
  intro n h32 h64
  cases k
  ·have hn := h32 rfl
   have h2 : t / 2 % (2 ^ 23 - 1) < 2 ^ 23 - 1 := Nat.mod_lt _ (by decide)
   have h1 : t % 2 < 2 := Nat.mod_lt _ (by decide)
   refine ⟨?_, ?_⟩
   ·unfold nanB FloatKind.format Ieee.Format.read
    have e1 : Ieee.single.signWeight = 2147483648 := by decide
    have e2 : Ieee.single.binade = 8388608 := by decide
    have e3 : Ieee.single.infRung = 2139095040 := by decide
    simp only [e1, e2, e3]
    have hr : n % 2147483648 > 2139095040 := by
     clear h32 h64
     generalize t / 2 % (2 ^ 23 - 1) = r at *
     have hq : t % 2 = 0 ∨ t % 2 = 1 := by omega
     rcases hq with hq | hq <;> rw [hq] at hn <;> omega
    rw [if_neg (by omega), if_neg (by omega), if_neg (by omega)]
    rfl
   ·show n < 2 ^ 32
    omega
  ·have hn := h64 rfl
   have h2 : t / 2 % (2 ^ 52 - 1) < 2 ^ 52 - 1 := Nat.mod_lt _ (by decide)
   have h1 : t % 2 < 2 := Nat.mod_lt _ (by decide)
   refine ⟨?_, ?_⟩
   ·unfold nanB FloatKind.format Ieee.Format.read
    have e1 : Ieee.double.signWeight = 9223372036854775808 := by decide
    have e2 : Ieee.double.binade = 4503599627370496 := by decide
    have e3 : Ieee.double.infRung = 9218868437227405312 := by decide
    simp only [e1, e2, e3]
    have hr : n % 9223372036854775808 > 9218868437227405312 := by
     clear h32 h64
     generalize t / 2 % (2 ^ 52 - 1) = r at *
     have hq : t % 2 = 0 ∨ t % 2 = 1 := by omega
     rcases hq with hq | hq <;> rw [hq] at hn <;> omega
    rw [if_neg (by omega), if_neg (by omega), if_neg (by omega)]
    rfl
   ·show n < 2 ^ 64
    omega
 rcases h with ⟨x, y, rfl⟩ | ⟨b, rfl⟩ | ⟨m, x, y, rfl⟩
 all_goals
  cases k
  ·exact key _ (fun _ => rfl) (fun h => by cases h)
  ·exact key _ (fun h => by cases h) (fun _ => rfl)
theorem xor_top (n x : Nat) : (x ^^^ 2 ^ n) % 2 ^ n = x % 2 ^ n := by
 rw [Nat.xor_mod_two_pow]
 simp
theorem zbz {k : FloatKind} {b : Nat} (h : nanB k b = true) : nanB k (Op.negFloat k b) = true := by
 have hm : Op.negFloat k b % k.format.signWeight = b % k.format.signWeight := by
  unfold Op.negFloat Ieee.Format.signWeight
  exact xor_top _ _
 have key : ∀ x, nanB k x = decide (k.format.infRung < x % k.format.signWeight) := by
  intro x
  have hib : k.format.binade ≤ k.format.infRung := by cases k <;> decide
  unfold nanB Ieee.Format.read
  dsimp only
  split
  ·rename_i h1; simp [Ieee.Datum.isNaN]; omega
  ·split
   ·rename_i h1 h2; simp [Ieee.Datum.isNaN]; omega
   ·split
    ·rename_i h1 h2 h3; simp [Ieee.Datum.isNaN, h3]
    ·rename_i h1 h2 h3; simp [Ieee.Datum.isNaN]; omega
 rw [key] at h ⊢
 rw [hm]; exact h
end Go.Fw
