/- A nil slice as an empty list that may grow. -/
import Derived.Test.YtblpjlaihgcilacFwR6
namespace Go.Fw
open Go Go.RowKit

variable {cx : Cx}

def fillNil (id sz : Nat) (get : Nat → Nat → C) : X → X
  | .nils => .lst id 0 sz get
  | x => x
def fillAt (j id sz : Nat) (get : Nat → Nat → C) : List X → List X
  | [] => []
  | x :: xs => match j with
    | 0 => fillNil id sz get x :: xs
    | j + 1 => x :: fillAt j id sz get xs
theorem fillAt_length (id sz : Nat) (get : Nat → Nat → C) : ∀ (xs : List X) (j : Nat), (fillAt j id sz get xs).length = xs.length
  | [], _ => by simp [fillAt]
  | _ :: _, 0 => by simp [fillAt]
  | x :: xs, j + 1 => by simp [fillAt, fillAt_length id sz get xs j]
theorem fillAt_get (id sz : Nat) (get : Nat → Nat → C) : ∀ (xs : List X) (j i : Nat) (y : X), (fillAt j id sz get xs)[i]? = some y → ∃ x, xs[i]? = some x ∧ (y = x ∨ y = fillNil id sz get x)
  | [], _, i, y, h => by simp [fillAt] at h
  | x :: xs, 0, i, y, h => by
    cases i with
    | zero => simp [fillAt] at h; exact ⟨x, rfl, .inr h.symm⟩
    | succ i => simp [fillAt] at h; exact ⟨y, by simpa using h, .inl rfl⟩
  | x :: xs, j + 1, i, y, h => by
    cases i with
    | zero => simp [fillAt] at h; exact ⟨x, rfl, .inl h.symm⟩
    | succ i =>
      simp [fillAt] at h
      obtain ⟨z, hz, e⟩ := fillAt_get id sz get xs j i y h
      exact ⟨z, by simpa using hz, e⟩

/-- An empty list object. -/
def St.nilObj (id sz : Nat) (get : Nat → Nat → C) (s : St) : St := ⟨s.env, (id, .lst 0 sz get) :: s.heap⟩
def okNil (id : Nat) (s : St) : Bool := (s.env.all fun p => !p.2.ids.contains id) && s.heap.all fun p => p.1 != id && !p.2.ids.contains id

/-- A nil slice is the empty list: in a variable, in a temporary. -/
def unnil (id sz : Nat) (get : Nat → Nat → C) (ts : List Nat) (bs : List (Nat × Nat)) (s : St) : St :=
  bs.foldl (fun s b => match s.heap.lookup b.1 with
    | some (.box xs) => ⟨s.env, (b.1, .box (fillAt b.2 id sz get xs)) :: s.heap⟩
    | _ => s) (ts.foldl (fun s t => match s.env.lookup t with
      | some (.v (.one .nils)) => ⟨(t, .v (.one (.lst id 0 sz get))) :: s.env, s.heap⟩
      | _ => s) (s.nilObj id sz get))

/-- While the empty list is nil. -/
def RN (cx : Cx) (id : Nat) (s : St) (a : Act) (w : World) : Prop :=
  a.defers = [] ∧ a.tmps.size = cx.N.n ∧ (BelowK cx.K cx.w0 w ∧ (∀ b, cx.K b → b < cx.w0.heap.size) ∧ GK cx.K cx.w0) ∧ ∃ m, m.val id = .slice none 0 0 ∧ (HeapOK cx.K s.heap m w ∧ FixOK cx m) ∧ ∀ t v, s.env.lookup t = some v → ∃ u, a.tmps[t]? = some u ∧ AVRep s.heap m w v u

theorem RN.toR {id : Nat} {s : St} {a : Act} {w : World} (h : RN cx id s a w) : R cx s a w := by
  obtain ⟨h1, h2, h3, m, _, h4, h5⟩ := h
  exact ⟨h1, h2, h3.1, h3.2, m, h4, h5⟩

theorem nil_rep {H : List (Nat × Ob)} {m : Mem} {w : World} {id sz : Nat} {get : Nat → Nat → C} (hv : m.val id = .slice none 0 0) {x : X} {v : Value} (h : XRep H m w x v) : XRep H m w (fillNil id sz get x) v := by
  cases x with
  | nils =>
    have e : v = .slice none 0 0 := h
    exact ⟨⟨none, 0, e, Nat.le_refl _, fun h => absurd h (by omega)⟩, fun _ => by rw [e, hv]⟩
  | c | ptr | arr | elt | lst | clo | sub | fx => exact h

theorem RN.start {id sz : Nat} (hnf : Nat.ble cx.N.nf id = true) {get : Nat → Nat → C} {s : St} {a : Act} {w : World} (hok : okNil id s = true) (hR : R cx s a w) : RN cx id (s.nilObj id sz get) a w := by
  unfold okNil at hok
  simp only [Bool.and_eq_true, List.all_eq_true, Bool.not_eq_true', List.contains_eq_mem, decide_eq_false_iff_not, bne_iff_ne, ne_eq] at hok
  obtain ⟨m, ⟨h1, hfix⟩, h2⟩ := hR.mem
  have key := add_objs (w' := w) (Below.refl _ _) h1 (fun b hb => Nat.lt_of_lt_of_le (hR.lowK.1 b hb) hR.below.size) [(id, .lst 0 sz get)] (fun _ => .slice none 0 0) (fun _ _ => False) (fun _ _ => undef)
    (fun i ob hl j hj hm => by simp at hm; subst hm; exact (hok.2 (i, ob) (lookup_mem hl)).2 hj)
    (fun i b _ h => h.elim) (fun i i' b _ _ h => h.elim)
    (fun hS i ob hl => by
      simp only [List.lookup_cons, List.lookup_nil] at hl
      split at hl
      · rename_i e
        simp at e
        cases hl
        subst e
        exact .inl ⟨by simp [Mem.add], rfl⟩
      · cases hl)
    (fun i ob b hl h => by
      simp only [List.lookup_cons, List.lookup_nil] at hl
      split at hl
      · rename_i e
        simp at e
        cases hl
        subst e
        simp [reach, Mem.add, Value.blk] at h
      · cases hl)
  refine ⟨hR.defers, hR.size, ⟨hR.below, hR.lowK⟩, _, by simp [Mem.add], ⟨key.1, hfix.step key.2 (fun i hi => by simp at hi; subst hi; exact Nat.le_of_ble_eq_true hnf)⟩, fun t v hl => ?_⟩
  obtain ⟨u, hu, hx⟩ := h2 t v hl
  exact ⟨u, hu, key.2.avrep (fun i hi hm => by simp at hm; subst hm; exact hok.1 (t, v) (mem_lookup hl) hi) (by simp) hx⟩

theorem RN.tmp {id sz t : Nat} {get : Nat → Nat → C} {s : St} {a : Act} {w : World} (h : RN cx id s a w) (hl : s.env.lookup t = some (.v (.one .nils))) : RN cx id ⟨(t, .v (.one (.lst id 0 sz get))) :: s.env, s.heap⟩ a w := by
  obtain ⟨h1, h2, h3, m, hv, h4, h5⟩ := h
  refine ⟨h1, h2, h3, m, hv, h4, fun t' v hl' => ?_⟩
  simp only [List.lookup_cons] at hl'
  split at hl'
  · rename_i e
    simp at e
    cases hl'
    subst e
    obtain ⟨u, hu, hx⟩ := h5 t' _ hl
    exact ⟨u, hu, nil_rep (x := .nils) hv hx⟩
  · exact h5 t' v hl'

theorem RN.box {id sz b j : Nat} {get : Nat → Nat → C} {xs : List X} {s : St} {a : Act} {w : World} (h : RN cx id s a w) (hl : s.heap.lookup b = some (.box xs)) : RN cx id ⟨s.env, (b, .box (fillAt j id sz get xs)) :: s.heap⟩ a w := by
  obtain ⟨h1, h2, h3, m, hv, h4, h5⟩ := h
  obtain ⟨bb, cur, E, g1, g2, g3, g4, g5⟩ := h4.1.ob b _ hl
  have := set_box (ys := fillAt j id sz get xs) (cur' := cur) h4.1 hl g1 g2 (by rw [fillAt_length]; exact g3) (fun i y hy => by
    obtain ⟨x, hx, e⟩ := fillAt_get id sz get xs j i y hy
    obtain ⟨u, hu, hr⟩ := g5 i x hx
    rcases e with rfl | rfl
    · exact ⟨u, hu, hr⟩
    · exact ⟨u, hu, nil_rep hv hr⟩)
  rw [setRow_self w bb cur E (0, 0) g2] at this
  refine ⟨h1, h2, h3, m, hv, ⟨this.1, h4.2⟩, fun t v hl => ?_⟩
  obtain ⟨u, hu, hx⟩ := h5 t v hl
  exact ⟨u, hu, this.2.avrep (by simp) (by simp) hx⟩

theorem Sub.unnil (id sz : Nat) (get : Nat → Nat → C) (ts : List Nat) (bs : List (Nat × Nat)) (s : St) (hok : okNil id s = true) (hnf : Nat.ble cx.N.nf id = true) : Sub cx s (unnil id sz get ts bs s) := by
  intro a w hR
  have h0 : RN cx id (s.nilObj id sz get) a w := RN.start hnf hok hR
  refine RN.toR (id := id) ?_
  unfold Fw.unnil
  have hts : ∀ (ts : List Nat) (s : St), RN cx id s a w → RN cx id (ts.foldl (fun s t => match s.env.lookup t with
      | some (.v (.one .nils)) => ⟨(t, .v (.one (.lst id 0 sz get))) :: s.env, s.heap⟩
      | _ => s) s) a w := by
    intro ts
    induction ts with
    | nil => intro s h; exact h
    | cons t ts ih =>
      intro s h
      rw [List.foldl_cons]
      refine ih _ ?_
      split
      · rename_i hl; exact h.tmp hl
      · exact h
  have hbs : ∀ (bs : List (Nat × Nat)) (s : St), RN cx id s a w → RN cx id (bs.foldl (fun s b => match s.heap.lookup b.1 with
    | some (.box xs) => ⟨s.env, (b.1, .box (fillAt b.2 id sz get xs)) :: s.heap⟩
    | _ => s) s) a w := by
    intro bs
    induction bs with
    | nil => intro s h; exact h
    | cons t ts ih =>
      intro s h
      rw [List.foldl_cons]
      refine ih _ ?_
      split
      · rename_i hl; exact h.box hl
      · exact h
  exact hbs bs _ (hts ts _ h0)

/-- One state behind a piece of code, as much of it as is kept. -/
def OnlyS (cx : Cx) (s2 : St) : Exit → St → Prop := fun e s1 => e = .normal ∧ Sub cx s1 s2
theorem AW.joinS {s : St} {Q : Exit → St → Prop} {x : Code} {s2 : St} (hx : AW cx x s (OnlyS cx s2)) (hy : Q .normal s2) : AW cx x s Q :=
  AW.post (hx.mono fun _ _ ⟨he, hs⟩ => by subst he; exact ⟨s2, hs, hy⟩)

/-- One state for each way out. -/
theorem AW.joinM {s : St} {Q : Exit → St → Prop} {x : Code} (QM : Exit → St → Prop) (hx : AW cx x s QM) (hy : ∀ e s1, QM e s1 → ∃ s2, Sub cx s1 s2 ∧ Q e s2) : AW cx x s Q := AW.post (hx.mono hy)
def OnlyE (cx : Cx) (ex : Exit) (s2 : St) : Exit → St → Prop := fun e s1 => e = ex ∧ Sub cx s1 s2
def sumQ {α β : Type} (r : α ⊕ β) (f : α → Exit → St → Prop) (g : β → Exit → St → Prop) : Exit → St → Prop :=
  match r with
  | .inl a => f a
  | .inr b => g b
def sumC {α β γ : Type} (r : α ⊕ β) (f : α → Option γ) (g : β → Option γ) : Option γ :=
  match r with
  | .inl a => f a
  | .inr b => g b
theorem sumC_inl {α β γ : Type} {a : α} {f : α → Option γ} {g : β → Option γ} {o : γ} (h : sumC (.inl a) f g = some o) : f a = some o := h
theorem sumC_inr {α β γ : Type} {b : β} {f : α → Option γ} {g : β → Option γ} {o : γ} (h : sumC (.inr b) f g = some o) : g b = some o := h

end Go.Fw

/-! A nil slice as an empty array that is owned. -/
namespace Go.Fw
open Go Go.RowKit

variable {cx : Cx}

def fillNilA (id : Nat) : X → X
  | .nils => .arr id
  | x => x
def fillAtA (j id : Nat) : List X → List X
  | [] => []
  | x :: xs => match j with
    | 0 => fillNilA id x :: xs
    | j + 1 => x :: fillAtA j id xs
theorem fillAtA_length (id : Nat) : ∀ (xs : List X) (j : Nat), (fillAtA j id xs).length = xs.length
  | [], _ => by simp [fillAtA]
  | _ :: _, 0 => by simp [fillAtA]
  | x :: xs, j + 1 => by simp [fillAtA, fillAtA_length id xs j]
theorem fillAtA_get (id : Nat) : ∀ (xs : List X) (j i : Nat) (y : X), (fillAtA j id xs)[i]? = some y → ∃ x, xs[i]? = some x ∧ (y = x ∨ y = fillNilA id x)
  | [], _, i, y, h => by simp [fillAtA] at h
  | x :: xs, 0, i, y, h => by
    cases i with
    | zero => simp [fillAtA] at h; exact ⟨x, rfl, .inr h.symm⟩
    | succ i => simp [fillAtA] at h; exact ⟨y, by simpa using h, .inl rfl⟩
  | x :: xs, j + 1, i, y, h => by
    cases i with
    | zero => simp [fillAtA] at h; exact ⟨x, rfl, .inl h.symm⟩
    | succ i =>
      simp [fillAtA] at h
      obtain ⟨z, hz, e⟩ := fillAtA_get id xs j i y h
      exact ⟨z, by simpa using hz, e⟩

/-- An empty array object. -/
def St.nilObjA (d : Bool) (id sz : Nat) (get : Nat → Nat → C) (s : St) : St := ⟨s.env, (id, .arr d 0 sz get) :: s.heap⟩

/-- A nil slice is the empty array: in a variable, in a temporary. -/
def unnilA (d : Bool) (id sz : Nat) (get : Nat → Nat → C) (ts : List Nat) (bs : List (Nat × Nat)) (s : St) : St :=
  bs.foldl (fun s b => match s.heap.lookup b.1 with
    | some (.box xs) => ⟨s.env, (b.1, .box (fillAtA b.2 id xs)) :: s.heap⟩
    | _ => s) (ts.foldl (fun s t => match s.env.lookup t with
      | some (.v (.one .nils)) => ⟨(t, .v (.one (.arr id))) :: s.env, s.heap⟩
      | _ => s) (s.nilObjA d id sz get))

/-- While the empty array is nil. -/
def RNA (cx : Cx) (id : Nat) (s : St) (a : Act) (w : World) : Prop :=
  RN cx id s a w ∧ ∃ d sz get, s.heap.lookup id = some (.arr d 0 sz get)

theorem nil_repA {H : List (Nat × Ob)} {m : Mem} {w : World} {id : Nat} (hv : m.val id = .slice none 0 0) (hl : ∃ d sz get, H.lookup id = some (.arr d 0 sz get)) {x : X} {v : Value} (h : XRep H m w x v) : XRep H m w (fillNilA id x) v := by
  cases x with
  | nils =>
    have e : v = .slice none 0 0 := h
    obtain ⟨d, sz, get, hl⟩ := hl
    exact ⟨by rw [hl]; rfl, by rw [hl]; trivial, by rw [e, hv]⟩
  | c | ptr | arr | elt | lst | clo | sub | fx => exact h

theorem RNA.start {d : Bool} {id sz : Nat} (hnf : Nat.ble cx.N.nf id = true) {get : Nat → Nat → C} {s : St} {a : Act} {w : World} (hok : okNil id s = true) (hR : R cx s a w) : RNA cx id (s.nilObjA d id sz get) a w := by
  unfold okNil at hok
  simp only [Bool.and_eq_true, List.all_eq_true, Bool.not_eq_true', List.contains_eq_mem, decide_eq_false_iff_not, bne_iff_ne, ne_eq] at hok
  obtain ⟨m, ⟨h1, hfix⟩, h2⟩ := hR.mem
  have key := add_objs (w' := w) (Below.refl _ _) h1 (fun b hb => Nat.lt_of_lt_of_le (hR.lowK.1 b hb) hR.below.size) [(id, .arr d 0 sz get)] (fun _ => .slice none 0 0) (fun _ _ => False) (fun _ _ => undef)
    (fun i ob hl j hj hm => by simp at hm; subst hm; exact (hok.2 (i, ob) (lookup_mem hl)).2 hj)
    (fun i b _ h => h.elim) (fun i i' b _ _ h => h.elim)
    (fun hS i ob hl => by
      simp only [List.lookup_cons, List.lookup_nil] at hl
      split at hl
      · rename_i e
        simp at e
        cases hl
        subst e
        exact ⟨.inl ⟨by simp [Mem.add], rfl⟩, fun _ i j hi => absurd hi (Nat.not_lt_zero _)⟩
      · cases hl)
    (fun i ob b hl h => by
      simp only [List.lookup_cons, List.lookup_nil] at hl
      split at hl
      · rename_i e
        simp at e
        cases hl
        subst e
        cases d <;> simp [reach, Mem.add, Value.blk] at h
      · cases hl)
  refine ⟨⟨hR.defers, hR.size, ⟨hR.below, hR.lowK⟩, _, by simp [Mem.add], ⟨key.1, hfix.step key.2 (fun i hi => by simp at hi; subst hi; exact Nat.le_of_ble_eq_true hnf)⟩, fun t v hl => ?_⟩, d, sz, get, by simp [St.nilObjA]⟩
  obtain ⟨u, hu, hx⟩ := h2 t v hl
  exact ⟨u, hu, key.2.avrep (fun i hi hm => by simp at hm; subst hm; exact hok.1 (t, v) (mem_lookup hl) hi) (by simp) hx⟩

theorem RNA.tmp {id t : Nat} {s : St} {a : Act} {w : World} (h : RNA cx id s a w) (hl : s.env.lookup t = some (.v (.one .nils))) : RNA cx id ⟨(t, .v (.one (.arr id))) :: s.env, s.heap⟩ a w := by
  obtain ⟨⟨h1, h2, h3, m, hv, h4, h5⟩, ha⟩ := h
  refine ⟨⟨h1, h2, h3, m, hv, h4, fun t' v hl' => ?_⟩, ha⟩
  simp only [List.lookup_cons] at hl'
  split at hl'
  · rename_i e
    simp at e
    cases hl'
    subst e
    obtain ⟨u, hu, hx⟩ := h5 t' _ hl
    exact ⟨u, hu, nil_repA (w := w) (x := .nils) hv ha hx⟩
  · exact h5 t' v hl'

theorem RNA.box {id b j : Nat} {xs : List X} {s : St} {a : Act} {w : World} (h : RNA cx id s a w) (hl : s.heap.lookup b = some (.box xs)) : RNA cx id ⟨s.env, (b, .box (fillAtA j id xs)) :: s.heap⟩ a w := by
  obtain ⟨⟨h1, h2, h3, m, hv, h4, h5⟩, ha⟩ := h
  obtain ⟨bb, cur, E, g1, g2, g3, g4, g5⟩ := h4.1.ob b _ hl
  have := set_box (ys := fillAtA j id xs) (cur' := cur) h4.1 hl g1 g2 (by rw [fillAtA_length]; exact g3) (fun i y hy => by
    obtain ⟨x, hx, e⟩ := fillAtA_get id xs j i y hy
    obtain ⟨u, hu, hr⟩ := g5 i x hx
    rcases e with rfl | rfl
    · exact ⟨u, hu, hr⟩
    · exact ⟨u, hu, nil_repA hv ha hr⟩)
  rw [setRow_self w bb cur E (0, 0) g2] at this
  refine ⟨⟨h1, h2, h3, m, hv, ⟨this.1, h4.2⟩, fun t v hl => ?_⟩, ?_⟩
  · obtain ⟨u, hu, hx⟩ := h5 t v hl
    exact ⟨u, hu, this.2.avrep (by simp) (by simp) hx⟩
  · obtain ⟨d, sz, get, ha⟩ := ha
    refine ⟨d, sz, get, ?_⟩
    have hne : (id == b) = false := by
      rw [beq_eq_false_iff_ne]
      rintro rfl
      rw [ha] at hl; cases hl
    simp only [List.lookup_cons, hne]
    exact ha

theorem Sub.unnilA (d : Bool) (id sz : Nat) (get : Nat → Nat → C) (ts : List Nat) (bs : List (Nat × Nat)) (s : St) (hok : okNil id s = true) (hnf : Nat.ble cx.N.nf id = true) : Sub cx s (unnilA d id sz get ts bs s) := by
  intro a w hR
  have h0 : RNA cx id (s.nilObjA d id sz get) a w := RNA.start hnf hok hR
  refine RN.toR (id := id) ?_
  unfold Fw.unnilA
  have hts : ∀ (ts : List Nat) (s : St), RNA cx id s a w → RNA cx id (ts.foldl (fun s t => match s.env.lookup t with
      | some (.v (.one .nils)) => ⟨(t, .v (.one (.arr id))) :: s.env, s.heap⟩
      | _ => s) s) a w := by
    intro ts
    induction ts with
    | nil => intro s h; exact h
    | cons t ts ih =>
      intro s h
      rw [List.foldl_cons]
      refine ih _ ?_
      split
      · rename_i hl; exact h.tmp hl
      · exact h
  have hbs : ∀ (bs : List (Nat × Nat)) (s : St), RNA cx id s a w → RNA cx id (bs.foldl (fun s b => match s.heap.lookup b.1 with
    | some (.box xs) => ⟨s.env, (b.1, .box (fillAtA b.2 id xs)) :: s.heap⟩
    | _ => s) s) a w := by
    intro bs
    induction bs with
    | nil => intro s h; exact h
    | cons t ts ih =>
      intro s h
      rw [List.foldl_cons]
      refine ih _ ?_
      split
      · rename_i hl; exact h.box hl
      · exact h
  exact (hbs bs _ (hts ts _ h0)).1

end Go.Fw
