
import Derived.Orders
import Derived.Laws.World
import Derived.Laws.Sem
import Derived.Laws.Entries
import Derived.Laws.FloatBits
import Derived.Laws.FloatArith
namespace Go.Fw
open Go
def nanB (k : FloatKind) (b : Nat) : Bool := (k.format.read b).isNaN
def nanBits : FloatKind → Nat
  | .f32 => 2143289344
  | .f64 => 9221120237041090561
def canonF (k : FloatKind) (b : Nat) : Nat := if nanB k b then nanBits k else b
def optF (k : FloatKind) : Option Nat → Nat
  | some r => canonF k r
  | none => nanBits k
def okF (k : FloatKind) (c : Nat) : Bool := decide (c < 2 ^ k.format.width) && (canonF k c == c)
theorem nan_nanBits (k : FloatKind) : nanB k (nanBits k) = true := by cases k <;> decide
theorem nanBits_lt (k : FloatKind) : nanBits k < 2 ^ k.format.width := by cases k <;> decide
theorem canonF_nan {k : FloatKind} {b : Nat} (h : nanB k b = true) : canonF k b = nanBits k := by simp [canonF, h]
theorem canonF_num {k : FloatKind} {b : Nat} (h : nanB k b = false) : canonF k b = b := by simp [canonF, h]
theorem canonF_nanBits (k : FloatKind) : canonF k (nanBits k) = nanBits k := canonF_nan (nan_nanBits k)
theorem canonF_canonF (k : FloatKind) (b : Nat) : canonF k (canonF k b) = canonF k b := by
  cases h : nanB k b
  · rw [canonF_num h, canonF_num h]
  · rw [canonF_nan h, canonF_nanBits]
theorem nanB_canonF (k : FloatKind) (b : Nat) : nanB k (canonF k b) = nanB k b := by
  cases h : nanB k b
  · rw [canonF_num h, h]
  · rw [canonF_nan h, nan_nanBits]
theorem canonF_lt {k : FloatKind} {b : Nat} (h : b < 2 ^ k.format.width) : canonF k b < 2 ^ k.format.width := by
  cases hb : nanB k b
  · rwa [canonF_num hb]
  · rw [canonF_nan hb]; exact nanBits_lt k
theorem okF_canonF {k : FloatKind} {b : Nat} (h : b < 2 ^ k.format.width) : okF k (canonF k b) = true := by
  simp [okF, canonF_lt h, canonF_canonF]
theorem okF_nanBits (k : FloatKind) : okF k (nanBits k) = true := by cases k <;> decide
structure Fl (k : FloatKind) where
  bits : Nat
  ok : okF k bits = true
abbrev F32 := Fl .f32
abbrev F64 := Fl .f64
theorem Fl.ext {k : FloatKind} {x y : Fl k} (h : x.bits = y.bits) : x = y := by
  cases x; cases y; cases h; rfl
instance (k : FloatKind) : DecidableEq (Fl k) := fun x y =>
  if h : x.bits = y.bits then isTrue (Fl.ext h) else isFalse (fun e => h (e ▸ rfl))
theorem Fl.lt {k : FloatKind} (x : Fl k) : x.bits < 2 ^ k.format.width := by
  have := x.ok; simp [okF] at this; exact this.1
theorem Fl.canon {k : FloatKind} (x : Fl k) : canonF k x.bits = x.bits := by
  have := x.ok; simp [okF] at this; exact this.2
def Fl.nan (k : FloatKind) : Fl k := ⟨nanBits k, okF_nanBits k⟩
def Fl.of (k : FloatKind) (b : Nat) (h : b < 2 ^ k.format.width) : Fl k := ⟨canonF k b, okF_canonF h⟩
theorem optF_ok {k : FloatKind} {o : Option Nat} (h : ∀ r, o = some r → r < 2 ^ k.format.width) : okF k (optF k o) = true := by
  cases o with
  | none => exact okF_nanBits k
  | some r => exact okF_canonF (h r rfl)
def Fl.opt (k : FloatKind) (o : Option Nat) (h : ∀ r, o = some r → r < 2 ^ k.format.width) : Fl k := ⟨optF k o, optF_ok h⟩
instance (k : FloatKind) : Inhabited (Fl k) := ⟨⟨0, by cases k <;> decide⟩⟩
def Fl.add {k : FloatKind} (x y : Fl k) : Fl k := .opt k (k.format.add x.bits y.bits) fun _ h => k.format.add_lt h
def Fl.sub {k : FloatKind} (x y : Fl k) : Fl k := .opt k (k.format.sub x.bits y.bits) fun _ h => k.format.sub_lt h
def Fl.mul {k : FloatKind} (x y : Fl k) : Fl k := .opt k (k.format.mul x.bits y.bits) fun _ h => k.format.mul_lt h
def Fl.div {k : FloatKind} (x y : Fl k) : Fl k := .opt k (k.format.div x.bits y.bits) fun _ h => k.format.div_lt h
def Fl.sqrt {k : FloatKind} (x : Fl k) : Fl k := .opt k (k.format.sqrt x.bits) fun _ h => k.format.sqrt_lt h
def negBits (k : FloatKind) (c : Nat) : Nat := canonF k (Op.negFloat k c)
theorem negFloat_lt {k : FloatKind} {b : Nat} (h : b < 2 ^ k.format.width) : Op.negFloat k b < 2 ^ k.format.width := by
  unfold Op.negFloat
  refine Nat.xor_lt_two_pow h ?_
  cases k <;> decide
def Fl.neg {k : FloatKind} (x : Fl k) : Fl k := ⟨negBits k x.bits, okF_canonF (negFloat_lt x.lt)⟩
theorem nearest_lt (k : FloatKind) (n : Int) : k.nearest n < 2 ^ k.format.width := by unfold FloatKind.nearest FloatKind.encode; exact k.format.write_lt _
def Fl.ofInt (k : FloatKind) (n : Int) : Fl k := ⟨canonF k (k.nearest n), okF_canonF (nearest_lt k n)⟩
def convBits (src : FloatKind) (c : Nat) (dst : FloatKind) : Option Nat :=
  if nanB src c then some (nanBits dst) else (floatToFloatBits src c dst).map (canonF dst)
def cmpBits (op : BinOp) (k : FloatKind) (x y : Nat) : Bool :=
  match op with
  | .eql => k.format.order x y == some .eq
  | .neq => k.format.order x y != some .eq
  | .lss => k.format.order x y == some .lt
  | .leq => k.format.order x y == some .lt || k.format.order x y == some .eq
  | .gtr => k.format.order x y == some .gt
  | .geq => k.format.order x y == some .gt || k.format.order x y == some .eq
  | _ => false
def Fl.eq {k : FloatKind} (x y : Fl k) : Bool := cmpBits .eql k x.bits y.bits
def Fl.ne {k : FloatKind} (x y : Fl k) : Bool := cmpBits .neq k x.bits y.bits
def Fl.lt' {k : FloatKind} (x y : Fl k) : Bool := cmpBits .lss k x.bits y.bits
def Fl.le {k : FloatKind} (x y : Fl k) : Bool := cmpBits .leq k x.bits y.bits
def Fl.gt {k : FloatKind} (x y : Fl k) : Bool := cmpBits .gtr k x.bits y.bits
def Fl.ge {k : FloatKind} (x y : Fl k) : Bool := cmpBits .geq k x.bits y.bits
/-! ### Nothing hangs on which not-a-number -/
theorem read_nan {k : FloatKind} {b : Nat} (h : nanB k b = true) : ∃ s t, k.format.read b = .nan s t := by
  unfold nanB Ieee.Datum.isNaN at h
  split at h
  · exact ⟨_, _, by assumption⟩
  · cases h
theorem sum_nan_right (d : Ieee.Datum) (s : Bool) (t : Nat) : d.sum (.nan s t) = none := by cases d <;> rfl
theorem product_nan_right (d : Ieee.Datum) (s : Bool) (t : Nat) : d.product (.nan s t) = none := by cases d <;> rfl
theorem quotient_nan_right (n : Nat) (d : Ieee.Datum) (s : Bool) (t : Nat) : d.quotient n (.nan s t) = none := by cases d <;> rfl
theorem order_nan_right (d : Ieee.Datum) (s : Bool) (t : Nat) : d.order (.nan s t) = none := by cases d <;> rfl
theorem two_canon {β : Type} {k : FloatKind} (f : Ieee.Datum → Ieee.Datum → β) (z : β) (hl : ∀ s t d, f (.nan s t) d = z) (hr : ∀ d s t, f d (.nan s t) = z) (a b : Nat) :
    f (k.format.read a) (k.format.read b) = f (k.format.read (canonF k a)) (k.format.read (canonF k b)) := by
  cases ha : nanB k a
  · rw [canonF_num ha]
    cases hb : nanB k b
    · rw [canonF_num hb]
    · obtain ⟨s, t, e⟩ := read_nan hb
      obtain ⟨s', t', e'⟩ := read_nan (k := k) (b := canonF k b) (by rw [nanB_canonF]; exact hb)
      rw [e, e', hr, hr]
  · obtain ⟨s, t, e⟩ := read_nan ha
    obtain ⟨s', t', e'⟩ := read_nan (k := k) (b := canonF k a) (by rw [nanB_canonF]; exact ha)
    rw [e, e', hl, hl]
theorem add_canon (k : FloatKind) (a b : Nat) : k.format.add a b = k.format.add (canonF k a) (canonF k b) := by
  unfold Ieee.Format.add
  rw [two_canon (fun x y => x.sum y) none (fun _ _ _ => rfl) (fun _ _ _ => sum_nan_right _ _ _) a b]
theorem sub_canon (k : FloatKind) (a b : Nat) : k.format.sub a b = k.format.sub (canonF k a) (canonF k b) := by
  unfold Ieee.Format.sub
  rw [two_canon (fun x y => x.sum y.opposite) none (fun _ _ _ => rfl) (fun _ _ _ => sum_nan_right _ _ _) a b]
theorem mul_canon (k : FloatKind) (a b : Nat) : k.format.mul a b = k.format.mul (canonF k a) (canonF k b) := by
  unfold Ieee.Format.mul
  rw [two_canon (fun x y => x.product y) none (fun _ _ _ => rfl) (fun _ _ _ => product_nan_right _ _ _) a b]
theorem div_canon (k : FloatKind) (a b : Nat) : k.format.div a b = k.format.div (canonF k a) (canonF k b) := by
  unfold Ieee.Format.div
  rw [two_canon (fun x y => x.quotient (k.format.fractionBits + 2) y) none (fun _ _ _ => rfl) (fun _ _ _ => quotient_nan_right _ _ _ _) a b]
theorem order_canon (k : FloatKind) (a b : Nat) : k.format.order a b = k.format.order (canonF k a) (canonF k b) := by
  unfold Ieee.Format.order
  rw [two_canon (fun x y => x.order y) none (fun _ _ _ => rfl) (fun _ _ _ => order_nan_right _ _ _) a b]
theorem one_canon {β : Type} {k : FloatKind} (f : Ieee.Datum → β) (z : β) (hl : ∀ s t, f (.nan s t) = z) (a : Nat) :
    f (k.format.read a) = f (k.format.read (canonF k a)) := by
  cases ha : nanB k a
  · rw [canonF_num ha]
  · obtain ⟨s, t, e⟩ := read_nan ha
    obtain ⟨s', t', e'⟩ := read_nan (k := k) (b := canonF k a) (by rw [nanB_canonF]; exact ha)
    rw [e, e', hl, hl]
theorem sqrt_canon (k : FloatKind) (a : Nat) : k.format.sqrt a = k.format.sqrt (canonF k a) := by
  unfold Ieee.Format.sqrt
  rw [one_canon (fun x => x.root (k.format.fractionBits + 2)) none (fun _ _ => rfl) a]
theorem cmpBits_canon (op : BinOp) (k : FloatKind) (a b : Nat) : cmpBits op k a b = cmpBits op k (canonF k a) (canonF k b) := by
  unfold cmpBits; rw [order_canon]
theorem cut_nan (q : Question) (k : FloatKind) (t : Nat) (h : (∃ x y, q = .nanBits k x y) ∨ (∃ b, q = .nanConv k b) ∨ (∃ m x y, q = .nanMinMax k m x y)) :
    nanB k (q.cut t) = true ∧ q.cut t < 2 ^ k.format.width := by
  have key : ∀ (n : Nat), (k = .f32 → n = (t % 2) * 2 ^ 31 + 0x7f800000 + 1 + (t / 2) % (2 ^ 23 - 1)) → (k = .f64 → n = (t % 2) * 2 ^ 63 + 0x7ff0000000000000 + 1 + (t / 2) % (2 ^ 52 - 1)) →
      nanB k n = true ∧ n < 2 ^ k.format.width := by
    intro n h32 h64
    cases k
    · have hn := h32 rfl
      have h2 : t / 2 % (2 ^ 23 - 1) < 2 ^ 23 - 1 := Nat.mod_lt _ (by decide)
      have h1 : t % 2 < 2 := Nat.mod_lt _ (by decide)
      refine ⟨?_, ?_⟩
      · unfold nanB FloatKind.format Ieee.Format.read
        have e1 : Ieee.single.signWeight = 2147483648 := by decide
        have e2 : Ieee.single.binade = 8388608 := by decide
        have e3 : Ieee.single.infRung = 2139095040 := by decide
        simp only [e1, e2, e3]
        have hr : n % 2147483648 > 2139095040 := by
          clear h32 h64
          generalize t / 2 % (2 ^ 23 - 1) = r at *
          have hq : t % 2 = 0 ∨ t % 2 = 1 := by omega
          rcases hq with hq | hq <;> rw [hq] at hn <;> omega
        rw [if_neg (by omega), if_neg (by omega), if_neg (by omega)]
        rfl
      · show n < 2 ^ 32
        omega
    · have hn := h64 rfl
      have h2 : t / 2 % (2 ^ 52 - 1) < 2 ^ 52 - 1 := Nat.mod_lt _ (by decide)
      have h1 : t % 2 < 2 := Nat.mod_lt _ (by decide)
      refine ⟨?_, ?_⟩
      · unfold nanB FloatKind.format Ieee.Format.read
        have e1 : Ieee.double.signWeight = 9223372036854775808 := by decide
        have e2 : Ieee.double.binade = 4503599627370496 := by decide
        have e3 : Ieee.double.infRung = 9218868437227405312 := by decide
        simp only [e1, e2, e3]
        have hr : n % 9223372036854775808 > 9218868437227405312 := by
          clear h32 h64
          generalize t / 2 % (2 ^ 52 - 1) = r at *
          have hq : t % 2 = 0 ∨ t % 2 = 1 := by omega
          rcases hq with hq | hq <;> rw [hq] at hn <;> omega
        rw [if_neg (by omega), if_neg (by omega), if_neg (by omega)]
        rfl
      · show n < 2 ^ 64
        omega
  rcases h with ⟨x, y, rfl⟩ | ⟨b, rfl⟩ | ⟨m, x, y, rfl⟩
  all_goals
    cases k
    · exact key _ (fun _ => rfl) (fun h => by cases h)
    · exact key _ (fun h => by cases h) (fun _ => rfl)
theorem xor_top (n x : Nat) : (x ^^^ 2 ^ n) % 2 ^ n = x % 2 ^ n := by
  rw [Nat.xor_mod_two_pow]
  simp
theorem negFloat_nan {k : FloatKind} {b : Nat} (h : nanB k b = true) : nanB k (Op.negFloat k b) = true := by
  have hm : Op.negFloat k b % k.format.signWeight = b % k.format.signWeight := by
    unfold Op.negFloat Ieee.Format.signWeight
    exact xor_top _ _
  have key : ∀ x, nanB k x = decide (k.format.infRung < x % k.format.signWeight) := by
    intro x
    have hib : k.format.binade ≤ k.format.infRung := by cases k <;> decide
    unfold nanB Ieee.Format.read
    dsimp only
    split
    · rename_i h1; simp [Ieee.Datum.isNaN]; omega
    · split
      · rename_i h1 h2; simp [Ieee.Datum.isNaN]; omega
      · split
        · rename_i h1 h2 h3; simp [Ieee.Datum.isNaN, h3]
        · rename_i h1 h2 h3; simp [Ieee.Datum.isNaN]; omega
  rw [key] at h ⊢
  rw [hm]; exact h
end Go.Fw
