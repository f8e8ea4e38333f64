/- Abstract states of one activation: what its temporaries hold, the objects that it made; the relation to the machine's frame and world. -/
import Derived.Test.YtgejobicepefkaaFwD
namespace Go.Fw
open Go Go.RowKit

/-- One cell's content, in an activation. -/
inductive X where
  | c (c : C)
  /-- the nil slice -/
  | nils
  /-- a pointer into the object 'id', at a cell -/
  | ptr (id off : Nat)
  /-- the slice over the whole of the array 'id' -/
  | arr (id : Nat)
  /-- a pointer into element i of the array 'id', at a cell -/
  | elt (id i off : Nat)
  /-- a slice that reads so; while the list 'id' lives, the one that may grow -/
  | lst (id n sz : Nat) (get : Nat → Nat → C)
  /-- a function literal over variables of this activation -/
  | clo (f : FuncId) (ids : List Nat)

inductive TV where
  | one (x : X)
  | agg (xs : List X)

inductive AV where
  | v (t : TV)
  | tup (ts : List TV)
  | undef

/-- What an activation made: a variable; an array whose elements are written; a list that grows. -/
inductive Ob where
  | box (xs : List X)
  | arr (n sz : Nat) (get : Nat → Nat → C)
  | lst (n sz : Nat) (get : Nat → Nat → C)

structure St where
  env : List (Nat × AV)
  heap : List (Nat × Ob)

/-- Where the objects lie: their values, and the blocks that are theirs. -/
structure Mem where
  val : Nat → Value
  foot : Nat → Nat → Prop

def Value.blk : Value → Option Nat
  | .pointer (some a) => some a.block
  | .slice (some a) _ _ => some a.block
  | _ => none

/-- The cells that readings must not look at: what may still be written. -/
def avOf (H : List (Nat × Ob)) (m : Mem) : Av := fun b o =>
  ∃ id ob, H.lookup id = some ob ∧ Value.blk (m.val id) = some b ∧ match ob with
    | .lst n sz _ => n * sz ≤ o
    | _ => True

/-- No cell of a row of n cells is frozen. -/
def okFr (fr : Nat × Nat) (n : Nat) : Prop := fr = (0, 0) ∨ n ≤ fr.1

/-- A value that owns all that it leads to, within F. -/
def OwnC (w : World) : C → (Nat → Prop) → Value → Prop
  | .seq n sz get, F, v => (v = .slice none 0 0 ∧ n = 0) ∨ ∃ b cap cur E fr, v = .slice (some ⟨b, 0, none⟩) n cap ∧ n ≤ cap ∧ okFr fr cur.size ∧ w.heap[b]? = some (.cells cur E fr) ∧ cur.size = cap * sz ∧ F b ∧
      ∃ G : Nat → Nat → Nat → Prop, (∀ i j, i < n → j < sz → (∀ x, G i j x → F x ∧ x ≠ b) ∧ ∃ u, cur[i * sz + j]? = some u ∧ OwnC w (get i j) (G i j) u) ∧
        ∀ i j i' j' x, i < n → j < sz → i' < n → j' < sz → G i j x → G i' j' x → i = i' ∧ j = j'
  | .int k n, _, v => v = .int k n
  | .bool b, _, v => v = .bool b
  | .flt k c, _, v => ∃ b, v = .float k b ∧ b < 2 ^ k.format.width ∧ canonF k b = c
  | .str s, _, v => v = .string s
  | _, _, _ => False

def XRep (H : List (Nat × Ob)) (m : Mem) (w : World) : X → Value → Prop
  | .c c, v => CRep w (avOf H m) c v
  | .nils, v => v = .slice none 0 0
  | .ptr id off, v => (H.lookup id).isSome = true ∧ ∃ b, m.val id = .pointer (some ⟨b, 0, none⟩) ∧ v = .pointer (some ⟨b, off, none⟩)
  | .arr id, v => (H.lookup id).isSome = true ∧ (match H.lookup id with | some (.arr _ _ _) => True | _ => False) ∧ v = m.val id
  | .elt id i off, v => ∃ n sz g b cap, H.lookup id = some (.arr n sz g) ∧ i < n ∧ m.val id = .slice (some ⟨b, 0, none⟩) n cap ∧ v = .pointer (some ⟨b, i * sz + off, none⟩)
  | .lst id n sz get, v => CRep w (avOf H m) (.seq n sz get) v ∧ ((H.lookup id).isSome = true → v = m.val id)
  | .clo f ids, v => (∀ id, id ∈ ids → (H.lookup id).isSome = true ∧ ∃ b, m.val id = .pointer (some ⟨b, 0, none⟩)) ∧ v = .func (.func f) #[] (ids.map m.val).toArray

def TVRep (H : List (Nat × Ob)) (m : Mem) (w : World) : TV → Value → Prop
  | .one x, v => XRep H m w x v
  | .agg xs, v => ∃ vs : Array Value, v = .agg vs ∧ vs.size = xs.length ∧ ∀ (j : Nat) (x : X), xs[j]? = some x → ∃ u, vs[j]? = some u ∧ XRep H m w x u

def AVRep (H : List (Nat × Ob)) (m : Mem) (w : World) : AV → Value → Prop
  | .v t, v => TVRep H m w t v
  | .tup ts, v => ∃ vs : Array Value, v = .tuple vs ∧ vs.size = ts.length ∧ ∀ (j : Nat) (t : TV), ts[j]? = some t → ∃ u, vs[j]? = some u ∧ TVRep H m w t u
  | .undef, v => v = undef

def ObRep (H : List (Nat × Ob)) (m : Mem) (w : World) (id : Nat) : Ob → Prop
  | .box xs => ∃ b cur E, m.val id = .pointer (some ⟨b, 0, none⟩) ∧ w.heap[b]? = some (.cells cur E (0, 0)) ∧ cur.size = xs.length ∧ m.foot id b ∧
      ∀ (j : Nat) (x : X), xs[j]? = some x → ∃ u, cur[j]? = some u ∧ XRep H m w x u
  | .arr n sz get => OwnC w (.seq n sz get) (m.foot id) (m.val id)
  | .lst n sz get => OwnC w (.seq n sz get) (m.foot id) (m.val id)

structure HeapOK (n0 : Nat) (H : List (Nat × Ob)) (m : Mem) (w : World) : Prop where
  ob : ∀ id ob, H.lookup id = some ob → ObRep H m w id ob
  lo : ∀ id b, (H.lookup id).isSome = true → m.foot id b → n0 ≤ b ∧ b < w.heap.size
  apart : ∀ id id' b, (H.lookup id).isSome = true → (H.lookup id').isSome = true → m.foot id b → m.foot id' b → id = id'

/-- What stands fixed in an activation. -/
structure Cx where
  P : Program
  w0 : World
  N : Nat

structure R (cx : Cx) (s : St) (a : Act) (w : World) : Prop where
  defers : a.defers = []
  size : a.tmps.size = cx.N
  below : Below cx.w0.heap.size cx.w0 w
  mem : ∃ m, HeapOK cx.w0.heap.size s.heap m w ∧ ∀ t v, s.env.lookup t = some v → ∃ u, a.tmps[t]? = some u ∧ AVRep s.heap m w v u

end Go.Fw
