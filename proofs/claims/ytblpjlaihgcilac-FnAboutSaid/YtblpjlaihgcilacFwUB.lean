/- A list that grew, taken as an array that is owned. -/
import Derived.Test.YtblpjlaihgcilacFwZ
namespace Go.Fw
open Go Go.RowKit

variable {cx : Cx}

def ownX (id : List Nat) : X → Option X
  | .c c => if isScal c then some (.c c) else none
  | .nils => some .nils
  | .ptr i o => some (.ptr i o)
  | .arr i => if i ∈ id then none else some (.arr i)
  | .lst i _ _ _ => if i ∈ id then some (.arr i) else none
  | _ => none
def ownXs (id : List Nat) : List X → Option (List X)
  | [] => some []
  | x :: xs => match ownX id x, ownXs id xs with
    | some y, some ys => some (y :: ys)
    | _, _ => none
def ownAV (id : List Nat) : AV → Option AV
  | .v (.one x) => (ownX id x).map fun y => .v (.one y)
  | .v (.agg xs) => (ownXs id xs).map fun ys => .v (.agg ys)
  | _ => none
def ownOb (id : List Nat) (i : Nat) : Ob → Option Ob
  | .ext p => some (.ext p)
  | .box xs => (ownXs id xs).map .box
  | .arr d n sz g => if i ∈ id then none else some (.arr d n sz g)
  | .lst n sz g => if i ∈ id then some (.arr true n sz g) else some (.lst n sz g)
def mapL {β : Type} (f : Nat → β → Option β) : List (Nat × β) → Option (List (Nat × β))
  | [] => some []
  | (i, b) :: r => match f i b, mapL f r with
    | some c, some q => some ((i, c) :: q)
    | _, _ => none
def isLst : Option Ob → Bool
  | some (.lst _ _ _) => true
  | _ => false
def lstOwn (nf : Nat) (id : List Nat) (s : St) : Option St :=
  match mapL (fun _ => ownAV id) s.env, mapL (ownOb id) s.heap with
  | some e, some h => if (id.all fun i => isLst (s.heap.lookup i) && Nat.ble nf i) then some ⟨e, h⟩ else none
  | _, _ => none

theorem mapL_some {β : Type} {f : Nat → β → Option β} : ∀ {l l' : List (Nat × β)}, mapL f l = some l' → ∀ {t : Nat} {v' : β}, l'.lookup t = some v' → ∃ v, l.lookup t = some v ∧ f t v = some v'
  | [], l', h, t, v', hl => by cases h; cases hl
  | (i, b) :: r, l', h, t, v', hl => by
    unfold mapL at h
    split at h
    · rename_i c q hc hq
      cases h
      simp only [List.lookup_cons] at hl ⊢
      split at hl
      · rename_i e
        cases hl
        have e' : t = i := by simpa using e
        subst e'
        exact ⟨b, rfl, hc⟩
      · exact mapL_some hq hl
    · cases h
theorem mapL_conv {β : Type} {f : Nat → β → Option β} : ∀ {l l' : List (Nat × β)}, mapL f l = some l' → ∀ {t : Nat} {v : β}, l.lookup t = some v → ∃ v', f t v = some v' ∧ l'.lookup t = some v'
  | [], l', h, t, v, hl => by cases hl
  | (i, b) :: r, l', h, t, v, hl => by
    unfold mapL at h
    split at h
    · rename_i c q hc hq
      cases h
      simp only [List.lookup_cons] at hl ⊢
      split at hl
      · rename_i e
        cases hl
        have e' : t = i := by simpa using e
        subst e'
        exact ⟨c, hc, rfl⟩
      · exact mapL_conv hq hl
    · cases h
theorem ownXs_get {id : List Nat} : ∀ {xs ys : List X}, ownXs id xs = some ys → ys.length = xs.length ∧ ∀ (j : Nat) (y : X), ys[j]? = some y → ∃ x, xs[j]? = some x ∧ ownX id x = some y
  | [], ys, h => by cases h; exact ⟨rfl, fun j y hy => by simp at hy⟩
  | x :: xs, ys, h => by
    unfold ownXs at h
    split at h
    · rename_i y q hy hq
      cases h
      obtain ⟨h1, h2⟩ := ownXs_get hq
      refine ⟨by simp [h1], fun j z hz => ?_⟩
      cases j with
      | zero => simp at hz; subst hz; exact ⟨x, rfl, hy⟩
      | succ j => exact h2 j z (by simpa using hz)
    · cases h

theorem Sub.lstOwn {s s' : St} (id : List Nat) (h : lstOwn cx.N.nf id s = some s') : Sub cx s s' := by
  intro a w hR
  unfold Fw.lstOwn at h
  split at h
  case h_2 => cases h
  rename_i e hp he hh
  split at h
  case isFalse => cases h
  rename_i hl
  cases h
  obtain ⟨m, ⟨hok, hfix⟩, henv⟩ := hR.mem
  have hnf : ∀ i ∈ id, cx.N.nf ≤ i := by
    intro i hi
    have := List.all_eq_true.1 hl i hi
    rw [Bool.and_eq_true] at this
    exact Nat.le_of_ble_eq_true this.2
  have hlst : ∀ i ∈ id, ∃ n sz g, s.heap.lookup i = some (.lst n sz g) := by
    intro i hi
    have := List.all_eq_true.1 hl i hi
    rw [Bool.and_eq_true] at this
    have h1 := this.1
    unfold isLst at h1
    split at h1
    · rename_i n sz g e; exact ⟨n, sz, g, e⟩
    · cases h1
  let m' : Mem := ⟨m.val, m.foot, fun i => if i ∈ id then subOf w (m.val i) else m.sub i⟩
  have alive : ∀ i, (s.heap.lookup i).isSome = true → (hp.lookup i).isSome = true := by
    intro i hi
    obtain ⟨ob, ho⟩ := Option.isSome_iff_exists.1 hi
    obtain ⟨ob', _, h2⟩ := mapL_conv hh ho
    rw [h2]; rfl
  have alive' : ∀ i, (hp.lookup i).isSome = true → (s.heap.lookup i).isSome = true := by
    intro i hi
    obtain ⟨ob, ho⟩ := Option.isSome_iff_exists.1 hi
    obtain ⟨ob', h2, _⟩ := mapL_some hh ho
    rw [h2]; rfl
  have hx : ∀ {x y : X} {v : Value}, ownX id x = some y → XRep s.heap m w x v → XRep hp m' w y v := by
    intro x y v hxy hr
    cases x with
    | c c =>
      simp only [ownX] at hxy
      split at hxy
      · rename_i hc
        cases hxy
        cases c <;> simp [isScal] at hc <;> exact hr
      · cases hxy
    | nils => cases hxy; exact hr
    | ptr i o =>
      cases hxy
      obtain ⟨h1, h2⟩ := hr
      exact ⟨alive i h1, h2⟩
    | arr i =>
      simp only [ownX] at hxy
      split at hxy
      · cases hxy
      · rename_i hi
        cases hxy
        obtain ⟨h1, h2, h3⟩ := hr
        refine ⟨alive i h1, ?_, h3⟩
        obtain ⟨ob, ho⟩ := Option.isSome_iff_exists.1 h1
        rw [ho] at h2
        obtain ⟨ob', g1, g2⟩ := mapL_conv hh ho
        rw [g2]
        cases ob with
        | arr d n' sz' g' =>
          simp only [ownOb] at g1
          rw [if_neg hi] at g1
          cases g1
          trivial
        | ext p => exact h2.elim
        | box xs => exact h2.elim
        | lst n' sz' g' => exact h2.elim
    | lst i n' sz' g' =>
      simp only [ownX] at hxy
      split at hxy
      · rename_i hi
        cases hxy
        obtain ⟨_, h2⟩ := hr
        obtain ⟨n, sz, g, hl⟩ := hlst i hi
        obtain ⟨ob', g1, g2⟩ := mapL_conv hh hl
        simp only [ownOb, if_pos hi] at g1
        cases g1
        exact ⟨by rw [g2]; rfl, by rw [g2]; trivial, h2 (by rw [hl]; rfl)⟩
      · cases hxy
    | elt | sub | fx | clo => cases hxy
  have hav : ∀ {x y : AV} {v : Value}, ownAV id x = some y → AVRep s.heap m w x v → AVRep hp m' w y v := by
    intro x y v hxy hr
    cases x with
    | v t =>
      cases t with
      | one x =>
        simp only [ownAV] at hxy
        simp only [Option.map_eq_some_iff] at hxy
        obtain ⟨z, hz, rfl⟩ := hxy
        exact hx hz hr
      | agg xs =>
        simp only [ownAV] at hxy
        simp only [Option.map_eq_some_iff] at hxy
        obtain ⟨zs, hz, rfl⟩ := hxy
        obtain ⟨h1, h2⟩ := ownXs_get hz
        obtain ⟨vs, rfl, h3, h4⟩ := hr
        refine ⟨vs, Eq.refl _, by omega, fun j y hy => ?_⟩
        obtain ⟨x, hx1, hx2⟩ := h2 j y hy
        obtain ⟨u, hu, hr⟩ := h4 j x hx1
        exact ⟨u, hu, hx hx2 hr⟩
    | tup | undef | prt => cases hxy
  refine ⟨hR.defers, hR.size, hR.below, hR.lowK, m', ⟨⟨fun i ob hob => ?_, fun i b ha hf => hok.lo i b (alive' i ha) hf, fun i i' b ha ha' hf hf' => hok.apart i i' b (alive' i ha) (alive' i' ha') hf hf'⟩, fun i hi => ?_⟩, fun t v hv => ?_⟩
  · obtain ⟨ob0, h1, h2⟩ := mapL_some hh hob
    have h3 := hok.ob i _ h1
    cases ob0 with
    | ext p =>
      simp only [ownOb] at h2
      cases h2
      exact h3
    | box xs =>
      simp only [ownOb] at h2
      simp only [Option.map_eq_some_iff] at h2
      obtain ⟨ys, hys, rfl⟩ := h2
      obtain ⟨g1, g2⟩ := ownXs_get hys
      obtain ⟨b, cur, E, k1, k2, k3, k4, k5⟩ := h3
      refine ⟨b, cur, E, k1, k2, by omega, k4, fun j y hy => ?_⟩
      obtain ⟨x, hx1, hx2⟩ := g2 j y hy
      obtain ⟨u, hu, hr⟩ := k5 j x hx1
      exact ⟨u, hu, hx hx2 hr⟩
    | arr d n' sz' g' =>
      simp only [ownOb] at h2
      split at h2
      · cases h2
      · rename_i hi
        cases h2
        refine ⟨h3.1, fun hd p q hp hq hs => ?_⟩
        have := h3.2 hd p q hp hq hs
        simpa [m', hi] using this
    | lst n' sz' g' =>
      simp only [ownOb] at h2
      split at h2
      · rename_i hi
        cases h2
        refine ⟨h3, fun _ p q hp hq _ => ?_⟩
        obtain ⟨b, k1, k2⟩ := own_subs h3 p q hp hq
        exact ⟨b, k1, by simpa [m', hi] using k2⟩
      · cases h2
        exact h3
  · have hne : i ∉ id := fun e => by
      have := hnf i e
      omega
    have := hfix i hi
    simpa [m', hne] using this
  · obtain ⟨v0, h1, h2⟩ := mapL_some he hv
    obtain ⟨u, hu, hr⟩ := henv t v0 h1
    exact ⟨u, hu, hav h2 hr⟩

/-- A region in the text's order, of which less is kept behind its first operations. -/
def runSplit (P : Program) (N : Lim) (ops : Array Oper) (j : Nat) (hs1 : List Hint) (ts1 ids1 : List Nat) (hs2 : List Hint) (ts ids : List Nat) (s : St) : Option (St × Prop) :=
  match runOps P N ops (ops.toList.take j) hs1 s with
  | some (s1, ob1) => if okRestr ids1 (restr ts1 ids1 s1) then match runOps P N ops (ops.toList.drop j) hs2 (restr ts1 ids1 s1) with
    | some (s2, ob2) => if okRestr ids (restr ts ids s2) then some (restr ts ids s2, ob1 ∧ ob2) else none
    | none => none
    else none
  | none => none
theorem AW.splitA {s s' : St} {ob : Prop} {Q : Exit → St → Prop} {id : Nat} {ops : Array Oper} (j : Nat) (hs1 : List Hint) (ts1 ids1 : List Nat) (hs2 : List Hint) (ts ids : List Nat)
    (h : runSplit cx.P cx.N ops j hs1 ts1 ids1 hs2 ts ids s = some (s', ob)) (hob : ob) (hq : Q .normal s') : AW cx (.region id ops false) s Q := by
  unfold runSplit at h
  split at h
  case h_2 => cases h
  rename_i s1 ob1 h1
  split at h
  case isFalse => cases h
  rename_i hc1
  split at h
  case h_2 => cases h
  rename_i s2 ob2 h2
  split at h
  case isFalse => cases h
  rename_i hc2
  cases h
  refine AW.post (Q := Q) ?_
  intro a w hR
  have key : wpList cx.P ops (fun e a' w' => ∃ s', (∃ s2, Sub cx s' s2 ∧ Q e s2) ∧ R cx s' a' w') (ops.toList.take j ++ ops.toList.drop j) a w := by
    refine runOps_then _ hs1 s s1 ob1 h1 hob.1 (fun a w hR1 => ?_) a w hR
    have hR2 := Sub.restr ts1 ids1 hc1 a w hR1
    have := runOps_then (rest := []) (K := fun e a' w' => ∃ s', (∃ s2, Sub cx s' s2 ∧ Q e s2) ∧ R cx s' a' w') _ hs2 _ s2 ob2 h2 hob.2 (fun a w hR => wpList_nil ⟨s2, ⟨_, Sub.restr ts ids hc2, hq⟩, hR⟩) _ _ hR2
    simpa using this
  rw [List.take_append_drop] at key
  have e : ops = ops.toList.toArray := by simp
  rw [e] at key ⊢
  exact wp_region_lit key

end Go.Fw
