
import Derived.Test.YtblpjlaihgcilafFwR6
namespace Go.Fw
open Go Go.RowKit
variable {cx : Cx}
def fillNil (id sz : Nat) (get : Nat → Nat → C) : X → X
  | .nils => .lst id 0 sz get
  | x => x
def fillAt (j id sz : Nat) (get : Nat → Nat → C) : List X → List X
  | [] => []
  | x :: xs => match j with
    | 0 => fillNil id sz get x :: xs
    | j + 1 => x :: fillAt j id sz get xs
theorem fillAt_length (id sz : Nat) (get : Nat → Nat → C) : ∀ (xs : List X) (j : Nat), (fillAt j id sz get xs).length = xs.length
  | [], _ => by simp [fillAt]
  | _ :: _, 0 => by simp [fillAt]
  | x :: xs, j + 1 => by simp [fillAt, fillAt_length id sz get xs j]
theorem fillAt_get (id sz : Nat) (get : Nat → Nat → C) : ∀ (xs : List X) (j i : Nat) (y : X), (fillAt j id sz get xs)[i]? = some y → ∃ x, xs[i]? = some x ∧ (y = x ∨ y = fillNil id sz get x)
  | [], _, i, y, h => by simp [fillAt] at h
  | x :: xs, 0, i, y, h => by
    cases i with
    | zero => simp [fillAt] at h; exact ⟨x, rfl, .inr h.symm⟩
    | succ i => simp [fillAt] at h; exact ⟨y, by simpa using h, .inl rfl⟩
  | x :: xs, j + 1, i, y, h => by
    cases i with
    | zero => simp [fillAt] at h; exact ⟨x, rfl, .inl h.symm⟩
    | succ i =>
      simp [fillAt] at h
      obtain ⟨z, hz, e⟩ := fillAt_get id sz get xs j i y h
      exact ⟨z, by simpa using hz, e⟩
def RN (cx : Cx) (id : Nat) (s : St) (a : Act) (w : World) : Prop :=
  a.defers = [] ∧ a.tmps.size = cx.N.n ∧ (BelowK cx.K cx.w0 w ∧ (∀ b, cx.K b → b < cx.w0.heap.size) ∧ GK cx.K cx.w0) ∧ ∃ m, m.val id = .slice none 0 0 ∧ (HeapOK cx.K s.heap m w ∧ FixOK cx m) ∧ ∀ t v, s.env.lookup t = some v → ∃ u, a.tmps[t]? = some u ∧ AVRep s.heap m w v u
theorem nil_rep {H : List (Nat × Ob)} {m : Mem} {w : World} {id sz : Nat} {get : Nat → Nat → C} (hv : m.val id = .slice none 0 0) {x : X} {v : Value} (h : XRep H m w x v) : XRep H m w (fillNil id sz get x) v := by
  cases x with
  | nils =>
    have e : v = .slice none 0 0 := h
    exact ⟨⟨none, 0, e, Nat.le_refl _, fun h => absurd h (by omega)⟩, fun _ => by rw [e, hv]⟩
  | c | ptr | arr | elt | lst | clo | sub | fx => exact h
theorem RN.tmp {id sz t : Nat} {get : Nat → Nat → C} {s : St} {a : Act} {w : World} (h : RN cx id s a w) (hl : s.env.lookup t = some (.v (.one .nils))) : RN cx id ⟨(t, .v (.one (.lst id 0 sz get))) :: s.env, s.heap⟩ a w := by
  obtain ⟨h1, h2, h3, m, hv, h4, h5⟩ := h
  refine ⟨h1, h2, h3, m, hv, h4, fun t' v hl' => ?_⟩
  simp only [List.lookup_cons] at hl'
  split at hl'
  · rename_i e
    simp at e
    cases hl'
    subst e
    obtain ⟨u, hu, hx⟩ := h5 t' _ hl
    exact ⟨u, hu, nil_rep (x := .nils) hv hx⟩
  · exact h5 t' v hl'
theorem RN.box {id sz b j : Nat} {get : Nat → Nat → C} {xs : List X} {s : St} {a : Act} {w : World} (h : RN cx id s a w) (hl : s.heap.lookup b = some (.box xs)) : RN cx id ⟨s.env, (b, .box (fillAt j id sz get xs)) :: s.heap⟩ a w := by
  obtain ⟨h1, h2, h3, m, hv, h4, h5⟩ := h
  obtain ⟨bb, cur, E, g1, g2, g3, g4, g5⟩ := h4.1.ob b _ hl
  have := set_box (ys := fillAt j id sz get xs) (cur' := cur) h4.1 hl g1 g2 (by rw [fillAt_length]; exact g3) (fun i y hy => by
    obtain ⟨x, hx, e⟩ := fillAt_get id sz get xs j i y hy
    obtain ⟨u, hu, hr⟩ := g5 i x hx
    rcases e with rfl | rfl
    · exact ⟨u, hu, hr⟩
    · exact ⟨u, hu, nil_rep hv hr⟩)
  rw [setRow_self w bb cur E (0, 0) g2] at this
  refine ⟨h1, h2, h3, m, hv, ⟨this.1, h4.2⟩, fun t v hl => ?_⟩
  obtain ⟨u, hu, hx⟩ := h5 t v hl
  exact ⟨u, hu, this.2.avrep (by simp) (by simp) hx⟩
end Go.Fw
/-! A nil slice as an empty array that is owned. -/
namespace Go.Fw
open Go Go.RowKit
variable {cx : Cx}
def fillNilA (id : Nat) : X → X
  | .nils => .arr id
  | x => x
def fillAtA (j id : Nat) : List X → List X
  | [] => []
  | x :: xs => match j with
    | 0 => fillNilA id x :: xs
    | j + 1 => x :: fillAtA j id xs
theorem fillAtA_length (id : Nat) : ∀ (xs : List X) (j : Nat), (fillAtA j id xs).length = xs.length
  | [], _ => by simp [fillAtA]
  | _ :: _, 0 => by simp [fillAtA]
  | x :: xs, j + 1 => by simp [fillAtA, fillAtA_length id xs j]
theorem fillAtA_get (id : Nat) : ∀ (xs : List X) (j i : Nat) (y : X), (fillAtA j id xs)[i]? = some y → ∃ x, xs[i]? = some x ∧ (y = x ∨ y = fillNilA id x)
  | [], _, i, y, h => by simp [fillAtA] at h
  | x :: xs, 0, i, y, h => by
    cases i with
    | zero => simp [fillAtA] at h; exact ⟨x, rfl, .inr h.symm⟩
    | succ i => simp [fillAtA] at h; exact ⟨y, by simpa using h, .inl rfl⟩
  | x :: xs, j + 1, i, y, h => by
    cases i with
    | zero => simp [fillAtA] at h; exact ⟨x, rfl, .inl h.symm⟩
    | succ i =>
      simp [fillAtA] at h
      obtain ⟨z, hz, e⟩ := fillAtA_get id xs j i y h
      exact ⟨z, by simpa using hz, e⟩
def RNA (cx : Cx) (id : Nat) (s : St) (a : Act) (w : World) : Prop :=
  RN cx id s a w ∧ ∃ d sz get, s.heap.lookup id = some (.arr d 0 sz get)
theorem nil_repA {H : List (Nat × Ob)} {m : Mem} {w : World} {id : Nat} (hv : m.val id = .slice none 0 0) (hl : ∃ d sz get, H.lookup id = some (.arr d 0 sz get)) {x : X} {v : Value} (h : XRep H m w x v) : XRep H m w (fillNilA id x) v := by
  cases x with
  | nils =>
    have e : v = .slice none 0 0 := h
    obtain ⟨d, sz, get, hl⟩ := hl
    exact ⟨by rw [hl]; rfl, by rw [hl]; trivial, by rw [e, hv]⟩
  | c | ptr | arr | elt | lst | clo | sub | fx => exact h
theorem RNA.tmp {id t : Nat} {s : St} {a : Act} {w : World} (h : RNA cx id s a w) (hl : s.env.lookup t = some (.v (.one .nils))) : RNA cx id ⟨(t, .v (.one (.arr id))) :: s.env, s.heap⟩ a w := by
  obtain ⟨⟨h1, h2, h3, m, hv, h4, h5⟩, ha⟩ := h
  refine ⟨⟨h1, h2, h3, m, hv, h4, fun t' v hl' => ?_⟩, ha⟩
  simp only [List.lookup_cons] at hl'
  split at hl'
  · rename_i e
    simp at e
    cases hl'
    subst e
    obtain ⟨u, hu, hx⟩ := h5 t' _ hl
    exact ⟨u, hu, nil_repA (w := w) (x := .nils) hv ha hx⟩
  · exact h5 t' v hl'
theorem RNA.box {id b j : Nat} {xs : List X} {s : St} {a : Act} {w : World} (h : RNA cx id s a w) (hl : s.heap.lookup b = some (.box xs)) : RNA cx id ⟨s.env, (b, .box (fillAtA j id xs)) :: s.heap⟩ a w := by
  obtain ⟨⟨h1, h2, h3, m, hv, h4, h5⟩, ha⟩ := h
  obtain ⟨bb, cur, E, g1, g2, g3, g4, g5⟩ := h4.1.ob b _ hl
  have := set_box (ys := fillAtA j id xs) (cur' := cur) h4.1 hl g1 g2 (by rw [fillAtA_length]; exact g3) (fun i y hy => by
    obtain ⟨x, hx, e⟩ := fillAtA_get id xs j i y hy
    obtain ⟨u, hu, hr⟩ := g5 i x hx
    rcases e with rfl | rfl
    · exact ⟨u, hu, hr⟩
    · exact ⟨u, hu, nil_repA hv ha hr⟩)
  rw [setRow_self w bb cur E (0, 0) g2] at this
  refine ⟨⟨h1, h2, h3, m, hv, ⟨this.1, h4.2⟩, fun t v hl => ?_⟩, ?_⟩
  · obtain ⟨u, hu, hx⟩ := h5 t v hl
    exact ⟨u, hu, this.2.avrep (by simp) (by simp) hx⟩
  · obtain ⟨d, sz, get, ha⟩ := ha
    refine ⟨d, sz, get, ?_⟩
    have hne : (id == b) = false := by
      rw [beq_eq_false_iff_ne]
      rintro rfl
      rw [ha] at hl; cases hl
    simp only [List.lookup_cons, hne]
    exact ha
end Go.Fw
