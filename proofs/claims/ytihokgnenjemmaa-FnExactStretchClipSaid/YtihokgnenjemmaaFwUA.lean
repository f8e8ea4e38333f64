/- A nil slice as an empty array that is owned. -/
import Derived.Test.YtihokgnenjemmaaFwU
namespace Go.Fw
open Go Go.RowKit

variable {cx : Cx}

def fillNilA (id : Nat) : X → X
  | .nils => .arr id
  | x => x
def fillAtA (j id : Nat) : List X → List X
  | [] => []
  | x :: xs => match j with
    | 0 => fillNilA id x :: xs
    | j + 1 => x :: fillAtA j id xs
theorem fillAtA_length (id : Nat) : ∀ (xs : List X) (j : Nat), (fillAtA j id xs).length = xs.length
  | [], _ => by simp [fillAtA]
  | _ :: _, 0 => by simp [fillAtA]
  | x :: xs, j + 1 => by simp [fillAtA, fillAtA_length id xs j]
theorem fillAtA_get (id : Nat) : ∀ (xs : List X) (j i : Nat) (y : X), (fillAtA j id xs)[i]? = some y → ∃ x, xs[i]? = some x ∧ (y = x ∨ y = fillNilA id x)
  | [], _, i, y, h => by simp [fillAtA] at h
  | x :: xs, 0, i, y, h => by
    cases i with
    | zero => simp [fillAtA] at h; exact ⟨x, rfl, .inr h.symm⟩
    | succ i => simp [fillAtA] at h; exact ⟨y, by simpa using h, .inl rfl⟩
  | x :: xs, j + 1, i, y, h => by
    cases i with
    | zero => simp [fillAtA] at h; exact ⟨x, rfl, .inl h.symm⟩
    | succ i =>
      simp [fillAtA] at h
      obtain ⟨z, hz, e⟩ := fillAtA_get id xs j i y h
      exact ⟨z, by simpa using hz, e⟩

/-- An empty array object. -/
def St.nilObjA (d : Bool) (id sz : Nat) (get : Nat → Nat → C) (s : St) : St := ⟨s.env, (id, .arr d 0 sz get) :: s.heap⟩

/-- A nil slice is the empty array: in a variable, in a temporary. -/
def unnilA (d : Bool) (id sz : Nat) (get : Nat → Nat → C) (ts : List Nat) (bs : List (Nat × Nat)) (s : St) : St :=
  bs.foldl (fun s b => match s.heap.lookup b.1 with
    | some (.box xs) => ⟨s.env, (b.1, .box (fillAtA b.2 id xs)) :: s.heap⟩
    | _ => s) (ts.foldl (fun s t => match s.env.lookup t with
      | some (.v (.one .nils)) => ⟨(t, .v (.one (.arr id))) :: s.env, s.heap⟩
      | _ => s) (s.nilObjA d id sz get))

/-- While the empty array is nil. -/
def RNA (cx : Cx) (id : Nat) (s : St) (a : Act) (w : World) : Prop :=
  RN cx id s a w ∧ ∃ d sz get, s.heap.lookup id = some (.arr d 0 sz get)

theorem nil_repA {H : List (Nat × Ob)} {m : Mem} {w : World} {id : Nat} (hv : m.val id = .slice none 0 0) (hl : ∃ d sz get, H.lookup id = some (.arr d 0 sz get)) {x : X} {v : Value} (h : XRep H m w x v) : XRep H m w (fillNilA id x) v := by
  cases x with
  | nils =>
    have e : v = .slice none 0 0 := h
    obtain ⟨d, sz, get, hl⟩ := hl
    exact ⟨by rw [hl]; rfl, by rw [hl]; trivial, by rw [e, hv]⟩
  | c | ptr | arr | elt | lst | clo | sub | fx => exact h

theorem RNA.start {d : Bool} {id sz : Nat} (hnf : Nat.ble cx.N.nf id = true) {get : Nat → Nat → C} {s : St} {a : Act} {w : World} (hok : okNil id s = true) (hR : R cx s a w) : RNA cx id (s.nilObjA d id sz get) a w := by
  unfold okNil at hok
  simp only [Bool.and_eq_true, List.all_eq_true, Bool.not_eq_true', List.contains_eq_mem, decide_eq_false_iff_not, bne_iff_ne, ne_eq] at hok
  obtain ⟨m, ⟨h1, hfix⟩, h2⟩ := hR.mem
  have key := add_objs (w' := w) (Below.refl _ _) h1 (fun b hb => Nat.lt_of_lt_of_le (hR.lowK b hb) hR.below.size) [(id, .arr d 0 sz get)] (fun _ => .slice none 0 0) (fun _ _ => False) (fun _ _ => undef)
    (fun i ob hl j hj hm => by simp at hm; subst hm; exact (hok.2 (i, ob) (lookup_mem hl)).2 hj)
    (fun i b _ h => h.elim) (fun i i' b _ _ h => h.elim)
    (fun hS i ob hl => by
      simp only [List.lookup_cons, List.lookup_nil] at hl
      split at hl
      · rename_i e
        simp at e
        cases hl
        subst e
        exact ⟨.inl ⟨by simp [Mem.add], rfl⟩, fun _ i j hi => absurd hi (Nat.not_lt_zero _)⟩
      · cases hl)
    (fun i ob b hl h => by
      simp only [List.lookup_cons, List.lookup_nil] at hl
      split at hl
      · rename_i e
        simp at e
        cases hl
        subst e
        cases d <;> simp [reach, Mem.add, Value.blk] at h
      · cases hl)
  refine ⟨⟨hR.defers, hR.size, ⟨hR.below, hR.lowK⟩, _, by simp [Mem.add], ⟨key.1, hfix.step key.2 (fun i hi => by simp at hi; subst hi; exact Nat.le_of_ble_eq_true hnf)⟩, fun t v hl => ?_⟩, d, sz, get, by simp [St.nilObjA]⟩
  obtain ⟨u, hu, hx⟩ := h2 t v hl
  exact ⟨u, hu, key.2.avrep (fun i hi hm => by simp at hm; subst hm; exact hok.1 (t, v) (mem_lookup hl) hi) (by simp) hx⟩

theorem RNA.tmp {id t : Nat} {s : St} {a : Act} {w : World} (h : RNA cx id s a w) (hl : s.env.lookup t = some (.v (.one .nils))) : RNA cx id ⟨(t, .v (.one (.arr id))) :: s.env, s.heap⟩ a w := by
  obtain ⟨⟨h1, h2, h3, m, hv, h4, h5⟩, ha⟩ := h
  refine ⟨⟨h1, h2, h3, m, hv, h4, fun t' v hl' => ?_⟩, ha⟩
  simp only [List.lookup_cons] at hl'
  split at hl'
  · rename_i e
    simp at e
    cases hl'
    subst e
    obtain ⟨u, hu, hx⟩ := h5 t' _ hl
    exact ⟨u, hu, nil_repA (w := w) (x := .nils) hv ha hx⟩
  · exact h5 t' v hl'

theorem RNA.box {id b j : Nat} {xs : List X} {s : St} {a : Act} {w : World} (h : RNA cx id s a w) (hl : s.heap.lookup b = some (.box xs)) : RNA cx id ⟨s.env, (b, .box (fillAtA j id xs)) :: s.heap⟩ a w := by
  obtain ⟨⟨h1, h2, h3, m, hv, h4, h5⟩, ha⟩ := h
  obtain ⟨bb, cur, E, g1, g2, g3, g4, g5⟩ := h4.1.ob b _ hl
  have := set_box (ys := fillAtA j id xs) (cur' := cur) h4.1 hl g1 g2 (by rw [fillAtA_length]; exact g3) (fun i y hy => by
    obtain ⟨x, hx, e⟩ := fillAtA_get id xs j i y hy
    obtain ⟨u, hu, hr⟩ := g5 i x hx
    rcases e with rfl | rfl
    · exact ⟨u, hu, hr⟩
    · exact ⟨u, hu, nil_repA hv ha hr⟩)
  rw [setRow_self w bb cur E (0, 0) g2] at this
  refine ⟨⟨h1, h2, h3, m, hv, ⟨this.1, h4.2⟩, fun t v hl => ?_⟩, ?_⟩
  · obtain ⟨u, hu, hx⟩ := h5 t v hl
    exact ⟨u, hu, this.2.avrep (by simp) (by simp) hx⟩
  · obtain ⟨d, sz, get, ha⟩ := ha
    refine ⟨d, sz, get, ?_⟩
    have hne : (id == b) = false := by
      rw [beq_eq_false_iff_ne]
      rintro rfl
      rw [ha] at hl; cases hl
    simp only [List.lookup_cons, hne]
    exact ha

theorem Sub.unnilA (d : Bool) (id sz : Nat) (get : Nat → Nat → C) (ts : List Nat) (bs : List (Nat × Nat)) (s : St) (hok : okNil id s = true) (hnf : Nat.ble cx.N.nf id = true) : Sub cx s (unnilA d id sz get ts bs s) := by
  intro a w hR
  have h0 : RNA cx id (s.nilObjA d id sz get) a w := RNA.start hnf hok hR
  refine RN.toR (id := id) ?_
  unfold Fw.unnilA
  have hts : ∀ (ts : List Nat) (s : St), RNA cx id s a w → RNA cx id (ts.foldl (fun s t => match s.env.lookup t with
      | some (.v (.one .nils)) => ⟨(t, .v (.one (.arr id))) :: s.env, s.heap⟩
      | _ => s) s) a w := by
    intro ts
    induction ts with
    | nil => intro s h; exact h
    | cons t ts ih =>
      intro s h
      rw [List.foldl_cons]
      refine ih _ ?_
      split
      · rename_i hl; exact h.tmp hl
      · exact h
  have hbs : ∀ (bs : List (Nat × Nat)) (s : St), RNA cx id s a w → RNA cx id (bs.foldl (fun s b => match s.heap.lookup b.1 with
    | some (.box xs) => ⟨s.env, (b.1, .box (fillAtA b.2 id xs)) :: s.heap⟩
    | _ => s) s) a w := by
    intro bs
    induction bs with
    | nil => intro s h; exact h
    | cons t ts ih =>
      intro s h
      rw [List.foldl_cons]
      refine ih _ ?_
      split
      · rename_i hl; exact h.box hl
      · exact h
  exact (hbs bs _ (hts ts _ h0)).1

end Go.Fw
