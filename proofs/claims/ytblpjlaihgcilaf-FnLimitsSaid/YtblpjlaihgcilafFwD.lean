
import Derived.Test.YtblpjlaihgcilafFwF
import Derived.Below
import Derived.Lib.LaidTab
import Derived.Lib.ItoaNum
namespace Go.Fw
open Go Go.RowKit
inductive C where
  | int (k : IntKind) (n : Int)
  | bool (b : Bool)
  | flt (k : FloatKind) (c : Nat)
  | str (s : ByteArray)
  
  | seq (n sz : Nat) (get : Nat → Nat → C)
  
  | ptr (m : Nat) (get : Nat → C)
  
  | fn (f : FuncId) (m : Nat) (cap : Nat → C)
  | nilptr | nilfn | niliface
  
  | err (b : Bool)
abbrev Av := Nat → Nat → Prop
def CRep (w : World) (av : Av) : C → Value → Prop
  | .int k n, v => v = .int k n
  | .bool b, v => v = .bool b
  | .flt k c, v => ∃ b, v = .float k b ∧ b < 2 ^ k.format.width ∧ canonF k b = c
  | .str s, v => v = .string s
  | .seq n sz get, v => ∃ a cap, v = .slice a n cap ∧ n ≤ cap ∧ (0 < n → ∃ b off, a = some ⟨b, off, none⟩ ∧
      ∀ i j, i < n → j < sz → ¬ av b (off + i * sz + j) ∧ ∃ u, w.cell? ⟨b, off + i * sz + j, none⟩ = some u ∧ CRep w av (get i j) u)
  | .ptr m get, v => ∃ b off, v = .pointer (some ⟨b, off, none⟩) ∧
      ∀ j, j < m → ¬ av b (off + j) ∧ ∃ u, w.cell? ⟨b, off + j, none⟩ = some u ∧ CRep w av (get j) u
  | .fn f m cap, v => ∃ cs : Array Value, v = .func (.func f) #[] cs ∧ cs.size = m ∧ ∀ j, j < m → ∃ u, cs[j]? = some u ∧ CRep w av (cap j) u
  | .nilptr, v => v = .pointer none
  | .nilfn, v => v = .nilFunc
  | .niliface, v => v = .nilIface
  | .err b, v => if b then ∃ t x, v = .iface t x else v = .nilIface
theorem rep_err {w : World} {av : Av} {b : Bool} {v : Value} (h : CRep w av (.err b) v) : v = .nilIface ∨ ∃ t x, v = .iface t x := by
  have h : (if b then ∃ t x, v = .iface t x else v = .nilIface) := h
  cases b
  · exact .inl h
  · exact .inr h
theorem CRep.step {w w' : World} {av av' : Av} (hc : ∀ b o u, w.cell? ⟨b, o, none⟩ = some u → ¬ av b o → w'.cell? ⟨b, o, none⟩ = some u ∧ ¬ av' b o) :
    ∀ {c : C} {v : Value}, CRep w av c v → CRep w' av' c v := by
  intro c
  induction c with
  | int | bool | flt | str | nilptr | nilfn | niliface | err => intro v h; exact h
  | seq n sz get ih =>
    rintro v ⟨a, cap, hv, hn, h⟩
    refine ⟨a, cap, hv, hn, fun hp => ?_⟩
    obtain ⟨b, off, ha, hr⟩ := h hp
    refine ⟨b, off, ha, fun i j hi hj => ?_⟩
    obtain ⟨hav, u, hu, hcr⟩ := hr i j hi hj
    obtain ⟨hu', hav'⟩ := hc _ _ _ hu hav
    exact ⟨hav', u, hu', ih i j hcr⟩
  | ptr m get ih =>
    rintro v ⟨b, off, hv, hr⟩
    refine ⟨b, off, hv, fun j hj => ?_⟩
    obtain ⟨hav, u, hu, hcr⟩ := hr j hj
    obtain ⟨hu', hav'⟩ := hc _ _ _ hu hav
    exact ⟨hav', u, hu', ih j hcr⟩
  | fn f m cap ih =>
    rintro v ⟨cs, hv, hs, hr⟩
    refine ⟨cs, hv, hs, fun j hj => ?_⟩
    obtain ⟨u, hu, hcr⟩ := hr j hj
    exact ⟨u, hu, ih j hcr⟩
theorem CRep.avoid {w : World} {av av' : Av} (h : ∀ b o, b < w.heap.size → av' b o → av b o) {c : C} {v : Value} (hr : CRep w av c v) : CRep w av' c v :=
  CRep.step (fun b o _ hu hn => ⟨hu, fun h' => hn (h b o (World.block_lt_of_cell? w ⟨b, o, none⟩ hu) h')⟩) hr
inductive V where
  | one (c : C)
  | agg (cs : List C)
end Go.Fw
/-! Abstract states of one activation: what its temporaries hold, the objects that it made; the relation to the machine's frame and world. -/
namespace Go.Fw
open Go Go.RowKit
inductive X where
  | c (c : C)
  
  | nils
  
  | ptr (id off : Nat)
  
  | arr (id : Nat)
  
  | elt (id i off : Nat)
  
  | lst (id n sz : Nat) (get : Nat → Nat → C)
  
  | clo (f : FuncId) (ids : List Nat)
  
  | sub (id i j : Nat)
  
  | fx (id j : Nat) (c : C)
inductive TV where
  | one (x : X)
  | agg (xs : List X)
inductive AV where
  | v (t : TV)
  | tup (ts : List TV)
  | undef
  
  | prt (id lo len : Nat)
abbrev EP := (Nat → Option Obj) → (Nat → Prop) → Value → Prop
inductive Ob where
  | ext (p : EP)
  | box (xs : List X)
  | arr (d : Bool) (n sz : Nat) (get : Nat → Nat → C)
  | lst (n sz : Nat) (get : Nat → Nat → C)
structure St where
  env : List (Nat × AV)
  heap : List (Nat × Ob)
structure Mem where
  val : Nat → Value
  foot : Nat → Nat → Prop
  
  sub : Nat → Nat → Value
def Value.blk : Value → Option Nat
  | .pointer (some a) => some a.block
  | .slice (some a) _ _ => some a.block
  | _ => none
def reach (m : Mem) (id : Nat) (ob : Ob) (b : Nat) : Prop :=
  match ob with
  | .arr true _ _ _ => m.foot id b
  | .ext _ => m.foot id b
  | _ => Value.blk (m.val id) = some b
def avOf (H : List (Nat × Ob)) (m : Mem) : Av := fun b o =>
  ∃ id ob, H.lookup id = some ob ∧ reach m id ob b ∧ match ob with
    | .lst n sz _ => n * sz ≤ o
    | _ => True
def isSeq : C → Bool
  | .seq _ _ _ => true
  | _ => false
def okFr (fr : Nat × Nat) (n : Nat) : Prop := fr = (0, 0) ∨ n ≤ fr.1
def OwnC (w : World) : C → (Nat → Prop) → Value → Prop
  | .seq n sz get, F, v => (v = .slice none 0 0 ∧ n = 0) ∨ ∃ b cap cur E fr, v = .slice (some ⟨b, 0, none⟩) n cap ∧ n ≤ cap ∧ okFr fr cur.size ∧ w.heap[b]? = some (.cells cur E fr) ∧ cur.size = cap * sz ∧ F b ∧
      ∃ G : Nat → Nat → Nat → Prop, (∀ i j, i < n → j < sz → (∀ x, G i j x → F x ∧ x ≠ b) ∧ ∃ u, cur[i * sz + j]? = some u ∧ OwnC w (get i j) (G i j) u) ∧
        ∀ i j i' j' x, i < n → j < sz → i' < n → j' < sz → G i j x → G i' j' x → i = i' ∧ j = j'
  | .int k n, _, v => v = .int k n
  | .bool b, _, v => v = .bool b
  | .flt k c, _, v => ∃ b, v = .float k b ∧ b < 2 ^ k.format.width ∧ canonF k b = c
  | .str s, _, v => v = .string s
  | .fn f m _, _, v => m = 0 ∧ v = .func (.func f) #[] #[]
  | .niliface, _, v => v = .nilIface
  | .err b, _, v => if b then ∃ t x, v = .iface t x else v = .nilIface
  | _, _, _ => False
def XRep (H : List (Nat × Ob)) (m : Mem) (w : World) : X → Value → Prop
  | .c c, v => CRep w (avOf H m) c v
  | .nils, v => v = .slice none 0 0
  | .ptr id off, v => (H.lookup id).isSome = true ∧ ∃ b, m.val id = .pointer (some ⟨b, 0, none⟩) ∧ v = .pointer (some ⟨b, off, none⟩)
  | .arr id, v => (H.lookup id).isSome = true ∧ (match H.lookup id with | some (.arr _ _ _ _) => True | _ => False) ∧ v = m.val id
  | .elt id i off, v => ∃ d n sz g b cap, H.lookup id = some (.arr d n sz g) ∧ i < n ∧ m.val id = .slice (some ⟨b, 0, none⟩) n cap ∧ v = .pointer (some ⟨b, i * sz + off, none⟩)
  | .lst id n sz get, v => CRep w (avOf H m) (.seq n sz get) v ∧ ((H.lookup id).isSome = true → v = m.val id)
  | .sub id i j, v => ∃ n sz g, H.lookup id = some (.arr true n sz g) ∧ i < n ∧ j < sz ∧ isSeq (g i j) = true ∧ v = m.sub id (i * sz + j)
  | .fx id j c, v => v = m.sub id j ∧ CRep w (avOf H m) c v
  | .clo f ids, v => (∀ id, id ∈ ids → (H.lookup id).isSome = true ∧ ∃ b, m.val id = .pointer (some ⟨b, 0, none⟩)) ∧ v = .func (.func f) #[] (ids.map m.val).toArray
def TVRep (H : List (Nat × Ob)) (m : Mem) (w : World) : TV → Value → Prop
  | .one x, v => XRep H m w x v
  | .agg xs, v => ∃ vs : Array Value, v = .agg vs ∧ vs.size = xs.length ∧ ∀ (j : Nat) (x : X), xs[j]? = some x → ∃ u, vs[j]? = some u ∧ XRep H m w x u
def AVRep (H : List (Nat × Ob)) (m : Mem) (w : World) : AV → Value → Prop
  | .v t, v => TVRep H m w t v
  | .tup ts, v => ∃ vs : Array Value, v = .tuple vs ∧ vs.size = ts.length ∧ ∀ (j : Nat) (t : TV), ts[j]? = some t → ∃ u, vs[j]? = some u ∧ TVRep H m w t u
  | .undef, v => v = undef
  | .prt id lo len, v => ∃ d n sz g b cap, H.lookup id = some (.arr d n sz g) ∧ lo + len ≤ n ∧ m.val id = .slice (some ⟨b, 0, none⟩) n cap ∧ v = .slice (some ⟨b, lo * sz, none⟩) len (cap - lo)
def ExtRep (w : World) (p : EP) (F : Nat → Prop) (v : Value) : Prop := (∃ b, v = .pointer (some ⟨b, 0, none⟩) ∧ F b) ∧ ∃ hp : Nat → Option Obj, (∀ b, F b → w.heap[b]? = hp b) ∧ p hp F v
theorem ExtRep.heap {w w' : World} {p : EP} {F : Nat → Prop} {v : Value} (hF : ∀ b, F b → w'.heap[b]? = w.heap[b]?) (h : ExtRep w p F v) : ExtRep w' p F v := by
  obtain ⟨h1, hp, h2, h3⟩ := h
  exact ⟨h1, hp, fun b hb => by rw [hF b hb]; exact h2 b hb, h3⟩
def ObRep (H : List (Nat × Ob)) (m : Mem) (w : World) (id : Nat) : Ob → Prop
  | .ext p => ExtRep w p (m.foot id) (m.val id)
  | .box xs => ∃ b cur E, m.val id = .pointer (some ⟨b, 0, none⟩) ∧ w.heap[b]? = some (.cells cur E (0, 0)) ∧ cur.size = xs.length ∧ m.foot id b ∧
      ∀ (j : Nat) (x : X), xs[j]? = some x → ∃ u, cur[j]? = some u ∧ XRep H m w x u
  | .arr d n sz get => OwnC w (.seq n sz get) (m.foot id) (m.val id) ∧ (d = true → ∀ i j, i < n → j < sz → isSeq (get i j) = true → ∃ b, Value.blk (m.val id) = some b ∧ w.cell? ⟨b, i * sz + j, none⟩ = some (m.sub id (i * sz + j)))
  | .lst n sz get => OwnC w (.seq n sz get) (m.foot id) (m.val id)
structure BelowK (K : Nat → Prop) (w w' : World) : Prop where
  os : w'.os = w.os
  tape : w'.tape = w.tape
  output : w'.output = w.output
  size : w.heap.size ≤ w'.heap.size
  block : ∀ k, K k → w'.heap[k]? = w.heap[k]?
def gtabs : List (Nat × (Array Value → Prop)) := []
def Gd (w : World) : Prop := ∀ g ∈ gtabs, ∃ cs E fr, w.heap[g.1]? = some (.cells cs E fr) ∧ g.2 cs
def isG (b : Nat) : Prop := ∃ g ∈ gtabs, g.1 = b
def GK (K : Nat → Prop) (w : World) : Prop := Gd w ∧ ∀ b, isG b → K b
theorem Gd.lt {w : World} {b : Nat} (h : Gd w) (hb : isG b) : b < w.heap.size := by
  obtain ⟨g, hg, rfl⟩ := hb
  obtain ⟨cs, E, fr, hc, _⟩ := h g hg
  exact (Array.getElem?_eq_some_iff.1 hc).1
theorem Gd.step {w w' : World} (h : Gd w) (hb : ∀ b, isG b → w'.heap[b]? = w.heap[b]?) : Gd w' := by
  intro g hg
  obtain ⟨cs, E, fr, hc, hp⟩ := h g hg
  exact ⟨cs, E, fr, by rw [hb g.1 ⟨g, hg, rfl⟩]; exact hc, hp⟩
theorem GK.step {K : Nat → Prop} {w w' : World} (h : GK K w) (hb : BelowK K w w') : GK K w' := ⟨h.1.step fun b hg => hb.block b (h.2 b hg), h.2⟩
theorem Gd.below {w w' : World} (h : Gd w) (hb : Below w.heap.size w w') : Gd w' := h.step fun b hg => hb.block b (h.lt hg)
theorem BelowK.refl (K : Nat → Prop) (w : World) : BelowK K w w := ⟨rfl, rfl, rfl, Nat.le_refl _, fun _ _ => rfl⟩
theorem BelowK.trans {K : Nat → Prop} {a b c : World} (h : BelowK K a b) (k : BelowK K b c) : BelowK K a c :=
  ⟨k.os.trans h.os, k.tape.trans h.tape, k.output.trans h.output, Nat.le_trans h.size k.size, fun i hi => (k.block i hi).trans (h.block i hi)⟩
theorem BelowK.mono {K K' : Nat → Prop} {w w' : World} (h : BelowK K w w') (hk : ∀ b, K' b → K b) : BelowK K' w w' := ⟨h.os, h.tape, h.output, h.size, fun k hK => h.block k (hk k hK)⟩
theorem below_toK {n : Nat} {K : Nat → Prop} {w w' : World} (h : Below n w w') (hk : ∀ b, K b → b < n) : BelowK K w w' := ⟨h.os, h.tape, h.output, h.size, fun k hK => h.block k (hk k hK)⟩
theorem BelowK.below {n : Nat} {w w' : World} (h : BelowK (fun b => b < n) w w') : Below n w w' := ⟨h.os, h.tape, h.output, h.size, h.block⟩
structure HeapOK (n0 : Nat → Prop) (H : List (Nat × Ob)) (m : Mem) (w : World) : Prop where
  ob : ∀ id ob, H.lookup id = some ob → ObRep H m w id ob
  lo : ∀ id b, (H.lookup id).isSome = true → m.foot id b → ¬ n0 b ∧ b < w.heap.size
  apart : ∀ id id' b, (H.lookup id).isSome = true → (H.lookup id').isSome = true → m.foot id b → m.foot id' b → id = id'
structure Lim where
  nf : Nat
  n : Nat
structure Cx where
  P : Program
  w0 : World
  
  N : Lim
  
  K : Nat → Prop
  val0 : Nat → Value
  sub0 : Nat → Nat → Value
def FixOK (cx : Cx) (m : Mem) : Prop := ∀ id, id < cx.N.nf → m.val id = cx.val0 id ∧ m.sub id = cx.sub0 id
structure R (cx : Cx) (s : St) (a : Act) (w : World) : Prop where
  defers : a.defers = []
  size : a.tmps.size = cx.N.n
  below : BelowK cx.K cx.w0 w
  lowK : (∀ b, cx.K b → b < cx.w0.heap.size) ∧ GK cx.K cx.w0
  mem : ∃ m, (HeapOK cx.K s.heap m w ∧ FixOK cx m) ∧ ∀ t v, s.env.lookup t = some v → ∃ u, a.tmps[t]? = some u ∧ AVRep s.heap m w v u
theorem R.gk {cx : Cx} {s : St} {a : Act} {w : World} (h : R cx s a w) : GK cx.K w := h.lowK.2.step h.below
end Go.Fw
