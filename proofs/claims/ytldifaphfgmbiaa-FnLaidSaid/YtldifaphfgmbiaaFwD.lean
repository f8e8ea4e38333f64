/- What cells hold as plain data (C), what it means that a value reads as such data in a world (CRep), and how readings survive. -/
import Derived.Test.YtldifaphfgmbiaaFwF
import Derived.Below
namespace Go.Fw
open Go Go.RowKit

/-- What one cell holds, as data that is only read. -/
inductive C where
  | int (k : IntKind) (n : Int)
  | bool (b : Bool)
  | flt (k : FloatKind) (c : Nat)
  | str (s : ByteArray)
  /-- a slice of n elements of sz cells -/
  | seq (n sz : Nat) (get : Nat → Nat → C)
  /-- a pointer to m cells -/
  | ptr (m : Nat) (get : Nat → C)
  /-- a function with what it captured -/
  | fn (f : FuncId) (m : Nat) (cap : Nat → C)
  | nilptr | nilfn | niliface

/-- The cells that a reading must not look at: block, offset. -/
abbrev Av := Nat → Nat → Prop

def CRep (w : World) (av : Av) : C → Value → Prop
  | .int k n, v => v = .int k n
  | .bool b, v => v = .bool b
  | .flt k c, v => ∃ b, v = .float k b ∧ b < 2 ^ k.format.width ∧ canonF k b = c
  | .str s, v => v = .string s
  | .seq n sz get, v => ∃ a cap, v = .slice a n cap ∧ n ≤ cap ∧ (0 < n → ∃ b off, a = some ⟨b, off, none⟩ ∧
      ∀ i j, i < n → j < sz → ¬ av b (off + i * sz + j) ∧ ∃ u, w.cell? ⟨b, off + i * sz + j, none⟩ = some u ∧ CRep w av (get i j) u)
  | .ptr m get, v => ∃ b off, v = .pointer (some ⟨b, off, none⟩) ∧
      ∀ j, j < m → ¬ av b (off + j) ∧ ∃ u, w.cell? ⟨b, off + j, none⟩ = some u ∧ CRep w av (get j) u
  | .fn f m cap, v => ∃ cs : Array Value, v = .func (.func f) #[] cs ∧ cs.size = m ∧ ∀ j, j < m → ∃ u, cs[j]? = some u ∧ CRep w av (cap j) u
  | .nilptr, v => v = .pointer none
  | .nilfn, v => v = .nilFunc
  | .niliface, v => v = .nilIface

/-- What a reading looks at is as it was: it holds as it did. -/
theorem CRep.step {w w' : World} {av av' : Av} (hc : ∀ b o u, w.cell? ⟨b, o, none⟩ = some u → ¬ av b o → w'.cell? ⟨b, o, none⟩ = some u ∧ ¬ av' b o) :
    ∀ {c : C} {v : Value}, CRep w av c v → CRep w' av' c v := by
  intro c
  induction c with
  | int | bool | flt | str | nilptr | nilfn | niliface => intro v h; exact h
  | seq n sz get ih =>
    rintro v ⟨a, cap, hv, hn, h⟩
    refine ⟨a, cap, hv, hn, fun hp => ?_⟩
    obtain ⟨b, off, ha, hr⟩ := h hp
    refine ⟨b, off, ha, fun i j hi hj => ?_⟩
    obtain ⟨hav, u, hu, hcr⟩ := hr i j hi hj
    obtain ⟨hu', hav'⟩ := hc _ _ _ hu hav
    exact ⟨hav', u, hu', ih i j hcr⟩
  | ptr m get ih =>
    rintro v ⟨b, off, hv, hr⟩
    refine ⟨b, off, hv, fun j hj => ?_⟩
    obtain ⟨hav, u, hu, hcr⟩ := hr j hj
    obtain ⟨hu', hav'⟩ := hc _ _ _ hu hav
    exact ⟨hav', u, hu', ih j hcr⟩
  | fn f m cap ih =>
    rintro v ⟨cs, hv, hs, hr⟩
    refine ⟨cs, hv, hs, fun j hj => ?_⟩
    obtain ⟨u, hu, hcr⟩ := hr j hj
    exact ⟨u, hu, ih j hcr⟩

theorem CRep.avoid {w : World} {av av' : Av} (h : ∀ b o, b < w.heap.size → av' b o → av b o) {c : C} {v : Value} (hr : CRep w av c v) : CRep w av' c v :=
  CRep.step (fun b o _ hu hn => ⟨hu, fun h' => hn (h b o (World.block_lt_of_cell? w ⟨b, o, none⟩ hu) h')⟩) hr

/-- The number of cells that hold a value's parts. -/
inductive V where
  | one (c : C)
  | agg (cs : List C)

def VRep (w : World) (av : Av) : V → Value → Prop
  | .one c, v => CRep w av c v
  | .agg cs, v => ∃ vs : Array Value, v = .agg vs ∧ vs.size = cs.length ∧ ∀ (j : Nat) (c : C), cs[j]? = some c → ∃ u, vs[j]? = some u ∧ CRep w av c u

end Go.Fw
