
import Derived.Test.YtblpjlaihgcilafFwS2
namespace Go.Fw
open Go Go.RowKit
variable {P : Program} {n0 : Nat → Prop} {H : List (Nat × Ob)} {m : Mem} {w w' : World}
structure Slot where
  i : Nat
  j : Nat
  u : Nat
  ob : Ob
  
  dead : Bool := false
def mutX (Hs : Nat → Option Ob) (us : Option (Nat × (Nat → Nat → C))) (i j : Nat) : X → MC → Option (List Slot × Prop)
  | x, .ro c => some ([], isP Hs x c)
  | .arr id, .mu c (.seq n' sz' g') => match Hs id with
    | some (.arr true n sz g) => some ([{ i := i, j := j, u := id, ob := .arr true n' sz' g' }], c = .seq n sz g ∧ n' = n ∧ sz' = sz ∧ ∀ i j, i < n → j < sz → isSeq (g' i j) = isSeq (g i j))
    | _ => none
  | .arr id, .mv c => match Hs id with
    | some (.arr true n sz g) => some ([{ i := i, j := j, u := id, ob := .arr true n sz g, dead := true }], c = .seq n sz g)
    | _ => none
  | .sub id a b, .mu c c' => match Hs id, us with
    | some (.arr true n sz g), some (n2, g2) => some ([{ i := i, j := j, u := id, ob := .arr true n2 sz g2 }], n2 = n ∧ c = g a b ∧ g2 a b = c' ∧ isSeq c' = true ∧ SetOb n sz a b 1 g g2)
    | _, _ => none
  | _, _ => none
def mutXs (Hs : Nat → Option Ob) (us : Option (Nat × (Nat → Nat → C))) (i : Nat) : Nat → List X → List MC → Option (List Slot × Prop)
  | _, [], [] => some ([], True)
  | j, x :: xs, c :: cs => match mutX Hs us i j x c, mutXs Hs us i (j + 1) xs cs with
    | some (u, p), some (v, q) => some (u ++ v, p ∧ q)
    | _, _ => none
  | _, _, _ => none
def isScal : C → Bool
  | .int _ _ | .bool _ | .flt _ _ | .str _ => true
  | _ => false
def keepX (keep : Nat → Bool) (get' : Nat → C) : Nat → List X → List X
  | _, [] => []
  | k, x :: xs => (if keep k then x else .c (get' k)) :: keepX keep get' (k + 1) xs
def BC.ok : BC → Bool
  | .set _ c' => isScal c'
  | _ => true
def setB : List X → List BC → List X
  | x :: xs, c :: cs => (match c with
    | .set _ c' => .c c'
    | _ => x) :: setB xs cs
  | _, _ => []
def mutA (Hs : Nat → Option Ob) (us : Option (Nat × (Nat → Nat → C))) (i : Nat) : AV → MT → Option (List Slot × Prop)
  | .v (.one x), .one c => mutX Hs us i 0 x c
  | .v (.agg xs), .agg cs => mutXs Hs us i 0 xs cs
  | .v (.one (.ptr id 0)), .box k keep get get' => match Hs id with
    | some (.box xs) => if xs.length = k ∧ (List.range k).all (fun j => keep j || isScal (get' j)) = true then some ([{ i := i, j := 0, u := id, ob := .box (keepX keep get' 0 xs) }], isCs Hs xs ((List.range k).map get)) else none
    | _ => none
  | .v (.one (.ptr id 0)), .boxm cs => match Hs id with
    | some (.box xs) => match mutXs Hs none i 1 xs (cs.map BC.mc) with
      | some (L, p) => if cs.all BC.ok = true then some ({ i := i, j := 0, u := id, ob := .box (setB xs cs) } :: L, p) else none
      | none => none
    | _ => none
  | .v (.one (.ptr id 0)), .ext p p' => match Hs id with
    | some (.ext q) => some ([{ i := i, j := 0, u := id, ob := .ext p' }], q = p)
    | _ => none
  | _, _ => none
def mutAs (Hs : Nat → Option Ob) (us : Option (Nat × (Nat → Nat → C))) : Nat → List AV → List MT → Option (List Slot × Prop)
  | _, [], [] => some ([], True)
  | i, a :: as, t :: ts => match mutA Hs us i a t, mutAs Hs us (i + 1) as ts with
    | some (u, p), some (v, q) => some (u ++ v, p ∧ q)
    | _, _ => none
  | _, _, _ => none
def roIds (Hs : Nat → Option Ob) : X → List Nat
  | .ptr id _ => id :: (match Hs id with | some (.box xs) => xs.flatMap X.hard | _ => [])
  | .clo _ ids => ids ++ ids.flatMap fun id => match Hs id with | some (.box xs) => xs.flatMap X.hard | _ => []
  | x => x.hard
def roX (Hs : Nat → Option Ob) : X → MC → List Nat
  | x, .ro _ => roIds Hs x
  | _, .mu _ _ => []
  | _, .mv _ => []
def roXs (Hs : Nat → Option Ob) : List X → List MC → List Nat
  | x :: xs, c :: cs => roX Hs x c ++ roXs Hs xs cs
  | _, _ => []
def roA (Hs : Nat → Option Ob) : AV → MT → List Nat
  | .v (.one (.ptr id _)), .box _ _ _ _ => match Hs id with | some (.box xs) => xs.flatMap X.hard | _ => []
  | .v (.one (.ptr id _)), .boxm cs => match Hs id with | some (.box xs) => roXs Hs xs (cs.map BC.mc) | _ => []
  | .v (.one x), .one c => roX Hs x c
  | .v (.agg xs), .agg cs => roXs Hs xs cs
  | _, _ => []
def roAs (Hs : Nat → Option Ob) : List AV → List MT → List Nat
  | a :: as, t :: ts => roA Hs a t ++ roAs Hs as ts
  | _, _ => []
/-! ### Readings that avoid what is written -/
section
variable {Hs : Nat → Option Ob} {U : List Nat}
abbrev avU (H : List (Nat × Ob)) (m : Mem) (U : List Nat) : Av := fun b _ => FU H m U b
theorem crepU {c : C} {v : Value} (h : CRep w (avOf H m) c v) : CRep w (avU H m U) c v := CRep.avoid (fun _ _ _ h => h.av) h
theorem foot_notU (hok : HeapOK n0 H m w) {id b : Nat} (ha : (H.lookup id).isSome = true) (hi : id ∉ U) (hf : m.foot id b) : ¬ FU H m U b := by
  intro h
  obtain ⟨u, hu, hua, huf⟩ := h.foot hok
  exact hi ((hok.apart id u b ha hua hf huf) ▸ hu)
theorem isC_repU (hok : HeapOK n0 H m w) (hsub : Agree H Hs) {x : X} {c : C} {v : Value} (hc : isC Hs x c) (hx : ∀ i ∈ x.hard, i ∉ U) (hr : XRep H m w x v) : CRep w (avU H m U) c v := by
  cases x with
  | c d => have : c = d := hc; subst this; exact crepU hr
  | nils =>
    have hv : v = .slice none 0 0 := hr
    subst hv
    cases c <;> first | exact hc.elim | skip
    rename_i n sz g
    have : n = 0 := hc
    subst this
    exact ⟨none, 0, rfl, Nat.le_refl _, fun h => absurd h (by omega)⟩
  | arr id =>
    obtain ⟨ha, _, rfl⟩ := hr
    obtain ⟨ob, hl⟩ := Option.isSome_iff_exists.1 ha
    simp only [isC] at hc
    split at hc
    · rename_i d n sz g e
      cases hsub id ob _ hl e
      subst hc
      exact OwnC.crep (fun _ _ h => foot_notU hok (by rw [hl]; rfl) (hx id (by simp [X.hard])) h) (hok.ob id _ hl).1
    · exact hc.elim
  | sub id i j =>
    obtain ⟨n, sz, g, hl, hi, hj, hs, rfl⟩ := hr
    simp only [isC] at hc
    split at hc
    · rename_i d n' sz' g' e
      cases hsub id _ _ hl e
      subst hc
      obtain ⟨b, cap, cur, E, fr, G, h1, h2, h3, h4, h5, h6, hG, h8, ho⟩ := sub_own hok hl hi hj hs
      exact OwnC.crep (fun x _ h => foot_notU hok (by rw [hl]; rfl) (hx id (by simp [X.hard])) ((hG i j hi hj).1 x h).1) ho
    · exact hc.elim
  | lst id n sz g => have : c = .seq n sz g := hc; subst this; exact crepU hr.1
  | fx id j d => have : c = d := hc; subst this; exact crepU hr.2
  | ptr | elt | clo => exact hc.elim
theorem isCs_repU (hok : HeapOK n0 H m w) (hsub : Agree H Hs) : ∀ {xs : List X} {cs : List C}, isCs Hs xs cs → (∀ i ∈ xs.flatMap X.hard, i ∉ U) →
    xs.length = cs.length ∧ ∀ (j : Nat) (x : X) (c : C), xs[j]? = some x → cs[j]? = some c → ∀ v, XRep H m w x v → CRep w (avU H m U) c v := by
  intro xs
  induction xs with
  | nil => intro cs h _; cases cs with
    | nil => exact ⟨rfl, fun j x c h => by simp at h⟩
    | cons => exact h.elim
  | cons x xs ih => intro cs h hx; cases cs with
    | nil => exact h.elim
    | cons c cs =>
      obtain ⟨h1, h2⟩ := ih h.2 (fun i hi => hx i (List.mem_append_right _ hi))
      refine ⟨by simp [h1], fun j y d hy hd v hr => ?_⟩
      cases j with
      | zero => simp at hy hd; subst hy hd; exact isC_repU hok hsub h.1 (fun i hi => hx i (List.mem_append_left _ hi)) hr
      | succ j => exact h2 j y d (by simpa using hy) (by simpa using hd) v hr
theorem box_ptrU (hok : HeapOK n0 H m w) (hsub : Agree H Hs) {id mm : Nat} {xs : List X} {get : Nat → C} (ha : (H.lookup id).isSome = true) (e : Hs id = some (.box xs)) (hcs : isCs Hs xs ((List.range mm).map get)) (hid : id ∉ U) (hx : ∀ i ∈ xs.flatMap X.hard, i ∉ U) : CRep w (avU H m U) (.ptr mm get) (m.val id) := by
  obtain ⟨ob, hl⟩ := Option.isSome_iff_exists.1 ha
  cases hsub id ob _ hl e
  obtain ⟨b', cur, E, hv', hb, hsz, hf, hxr⟩ := hok.ob id _ hl
  obtain ⟨h1, h2⟩ := isCs_repU hok hsub hcs hx
  simp at h1
  refine ⟨b', 0, hv', fun j hj => ⟨foot_notU hok ha hid hf, ?_⟩⟩
  have hj' : j < xs.length := by omega
  obtain ⟨u, hu, hr⟩ := hxr j xs[j] (List.getElem?_eq_getElem hj')
  refine ⟨u, by rw [cell_of_row w b' _ cur E (0, 0) hb, Nat.zero_add]; exact hu, ?_⟩
  exact h2 j xs[j] (get j) (List.getElem?_eq_getElem hj') (by simp [hj]) u hr
theorem isClo_repU (hok : HeapOK n0 H m w) (hsub : Agree H Hs) : ∀ (ids : List Nat) (cap : Nat → C), isClo Hs ids cap → (∀ id, id ∈ ids → (H.lookup id).isSome = true) → (∀ i ∈ ids ++ ids.flatMap (fun id => match Hs id with | some (.box xs) => xs.flatMap X.hard | _ => []), i ∉ U) →
    ∀ j, j < ids.length → ∃ u, (ids.map m.val)[j]? = some u ∧ CRep w (avU H m U) (cap j) u := by
  intro ids
  induction ids with
  | nil => intro cap _ _ _ j hj; simp at hj
  | cons id r ih =>
    intro cap h ha hU j hj
    cases j with
    | zero =>
      have h1 := h.1
      split at h1
      · rename_i xs mm get e1 e2
        refine ⟨m.val id, rfl, ?_⟩
        rw [e2]
        refine box_ptrU hok hsub (ha id (by simp)) e1 h1 (hU id (by simp)) (fun i hi => hU i ?_)
        refine List.mem_append_right _ (List.mem_flatMap.2 ⟨id, by simp, ?_⟩)
        rw [e1]; exact hi
      · exact h1.elim
    | succ j =>
      obtain ⟨u, hu, hr⟩ := ih (fun j => cap (j + 1)) h.2 (fun i hi => ha i (by simp [hi])) (fun i hi => hU i (by
        rcases List.mem_append.1 hi with hi | hi
        · exact List.mem_append_left _ (by simp [hi])
        · exact List.mem_append_right _ (List.mem_append_right _ hi))) j (by simpa using hj)
      exact ⟨u, by simpa using hu, hr⟩
theorem isP_repU (hok : HeapOK n0 H m w) (hsub : Agree H Hs) {x : X} {c : C} {v : Value} (hc : isP Hs x c) (hU : ∀ i ∈ roIds Hs x, i ∉ U) (hr : XRep H m w x v) : CRep w (avU H m U) c v := by
  unfold isP at hc
  split at hc
  · rename_i id off mm get
    obtain ⟨ha, b, hv, rfl⟩ := hr
    split at hc
    · rename_i xs e
      obtain ⟨h0, hcs⟩ := hc
      subst h0
      have := box_ptrU (U := U) hok hsub ha e hcs (hU id (by simp [roIds])) (fun i hi => hU i (by simp only [roIds, e]; exact List.mem_cons_of_mem _ hi))
      rw [hv] at this; exact this
    · exact hc.elim
  · rename_i mm g mm' get
    obtain ⟨rfl, hg⟩ := hc
    obtain ⟨b, off, rfl, hx⟩ := crepU (U := U) hr
    refine ⟨b, off, rfl, fun j hj => ?_⟩
    obtain ⟨h1, u, hu, h2⟩ := hx j hj
    exact ⟨h1, u, hu, by rw [hg j hj]; exact h2⟩
  · rename_i f ids f' mm cap
    obtain ⟨rfl, rfl, hcl⟩ := hc
    obtain ⟨ha, rfl⟩ := hr
    refine ⟨(ids.map m.val).toArray, rfl, by simp, fun j hj => ?_⟩
    obtain ⟨u, hu, hx⟩ := isClo_repU hok hsub ids cap hcl (fun i hi => (ha i hi).1) hU j hj
    exact ⟨u, by simpa using hu, hx⟩
  · refine isC_repU hok hsub hc (fun i hi => hU i ?_) hr
    cases x <;> first | exact hi | (simp [X.hard] at hi; done) | (simp only [roIds]; exact List.mem_cons.2 (.inl (by simpa [X.hard] using hi))) | (simp only [roIds]; exact List.mem_append_left _ (by simpa [X.hard] using hi))
end
def SlotOK (H : List (Nat × Ob)) (m : Mem) (s : Slot) (F : Nat → Prop) : Prop :=
  ∃ ob, H.lookup s.u = some ob ∧ ob.like s.ob ∧ ob.notLst = true ∧ ∀ b, F b → reach m s.u ob b
def fuOf (m : Mem) (u : Nat) (F F' : Nat → Prop) (b : Nat) : Prop := (m.foot u b ∧ ¬ F b) ∨ F' b
def SlotPost (H : List (Nat × Ob)) (m : Mem) (w w' : World) (s : Slot) (F F' : Nat → Prop) : Prop :=
  s.dead = false → match s.ob with
  | .arr d n sz g => d = true ∧ OwnC w' (.seq n sz g) (fuOf m s.u F F') (m.val s.u) ∧ ∀ i j, i < n → j < sz → isSeq (g i j) = true → ∃ b, Value.blk (m.val s.u) = some b ∧ w'.cell? ⟨b, i * sz + j, none⟩ = some (m.sub s.u (i * sz + j))
  | .box ys => ∃ b cur cur' E E' xs, m.val s.u = .pointer (some ⟨b, 0, none⟩) ∧ w.heap[b]? = some (.cells cur E (0, 0)) ∧ w'.heap[b]? = some (.cells cur' E' (0, 0)) ∧ cur'.size = ys.length ∧ F' b ∧ H.lookup s.u = some (.box xs) ∧
      ∀ (j : Nat) (y : X), ys[j]? = some y → (xs[j]? = some y ∧ cur'[j]? = cur[j]?) ∨ ∃ c u, y = .c c ∧ isScal c = true ∧ cur'[j]? = some u ∧ OwnC w' c (fun _ => False) u
  | .lst _ _ _ => False
  | .ext p => ExtRep w' p (fuOf m s.u F F') (m.val s.u)
theorem keepX_get (keep : Nat → Bool) (get' : Nat → C) : ∀ (xs : List X) (k j : Nat) (y : X), (keepX keep get' k xs)[j]? = some y → (keep (k + j) = true ∧ xs[j]? = some y) ∨ (keep (k + j) = false ∧ y = .c (get' (k + j)))
  | [], k, j, y, h => by simp [keepX] at h
  | x :: xs, k, 0, y, h => by
    simp only [keepX, List.getElem?_cons_zero, Option.some.injEq] at h
    cases hk : keep k <;> simp only [hk, Bool.false_eq_true, ite_false, ite_true] at h
    · exact .inr ⟨by simp, by rw [← h]; rfl⟩
    · exact .inl ⟨by simp, by rw [← h]; rfl⟩
  | x :: xs, k, j + 1, y, h => by
    have := keepX_get keep get' xs (k + 1) j y (by simpa [keepX] using h)
    rw [show k + 1 + j = k + (j + 1) by omega] at this
    simpa using this
theorem keepX_length (keep : Nat → Bool) (get' : Nat → C) : ∀ (xs : List X) (k : Nat), (keepX keep get' k xs).length = xs.length
  | [], _ => rfl
  | x :: xs, k => by simp [keepX, keepX_length keep get' xs (k + 1)]
theorem setB_get : ∀ (xs : List X) (cs : List BC) (j : Nat) (y : X), (setB xs cs)[j]? = some y → ∃ x c, xs[j]? = some x ∧ cs[j]? = some c ∧ ((∃ a c', c = .set a c' ∧ y = .c c') ∨ ((∀ a c', c ≠ .set a c') ∧ y = x))
  | [], _, j, y, h => by simp [setB] at h
  | x :: xs, [], j, y, h => by simp [setB] at h
  | x :: xs, c :: cs, 0, y, h => by
    simp only [setB, List.getElem?_cons_zero, Option.some.injEq] at h
    refine ⟨x, c, rfl, rfl, ?_⟩
    cases c with
    | set a c' => exact .inl ⟨a, c', rfl, h.symm⟩
    | ro a => exact .inr ⟨by simp, h.symm⟩
    | mu a c' => exact .inr ⟨by simp, h.symm⟩
  | x :: xs, c :: cs, j + 1, y, h => by
    obtain ⟨x', c', h1, h2, h3⟩ := setB_get xs cs j y (by simpa [setB] using h)
    exact ⟨x', c', by simpa using h1, by simpa using h2, h3⟩
theorem setB_length : ∀ (xs : List X) (cs : List BC), xs.length = cs.length → (setB xs cs).length = xs.length
  | [], [], _ => rfl
  | [], _ :: _, h => by simp at h
  | _ :: _, [], h => by simp at h
  | x :: xs, c :: cs, h => by simp [setB, setB_length xs cs (by simpa using h)]
section
variable {Hs : Nat → Option Ob} {us : Option (Nat × (Nat → Nat → C))} {U : List Nat}
theorem mutX_spec (hok : HeapOK n0 H m w) (hsub : Agree H Hs) {i j : Nat} {x : X} {c : MC} {L : List Slot} {ob : Prop} {v : Value} (h : mutX Hs us i j x c = some (L, ob)) (hob : ob) (hU : ∀ a ∈ roX Hs x c, a ∉ U) (hr : XRep H m w x v) :
    ∃ F : Nat → Prop, MCRep w (avU H m U) F c v ∧ (∀ b, F b → ∃ s ∈ L, s.i = i ∧ s.j = j) ∧ (∀ s ∈ L, s.i = i ∧ s.j = j ∧ SlotOK H m s F) ∧ L.length ≤ 1 ∧
      ∀ (w' : World) (F' : Nat → Prop), MCPost w w' F' c v → (∀ s ∈ L, ∀ b, m.foot s.u b → ¬ F b → w'.heap[b]? = w.heap[b]?) → (∀ s ∈ L, ∀ b, F' b → m.foot s.u b → F b) → ∀ s ∈ L, SlotPost H m w w' s F F' := by
  cases c with
  | ro c =>
    simp only [mutX, Option.some.injEq, Prod.mk.injEq] at h
    obtain ⟨rfl, rfl⟩ := h
    exact ⟨fun _ => False, isP_repU hok hsub hob hU hr, fun b h => h.elim, by simp, by simp, by simp⟩
  | mv c =>
    cases x with
    | arr id =>
      simp only [mutX] at h
      split at h
      · rename_i n sz g e
        simp only [Option.some.injEq, Prod.mk.injEq] at h
        obtain ⟨rfl, rfl⟩ := h
        subst hob
        obtain ⟨ha, _, rfl⟩ := hr
        obtain ⟨ob0, hl⟩ := Option.isSome_iff_exists.1 ha
        cases hsub id ob0 _ hl e
        have hown := hok.ob id _ hl
        refine ⟨m.foot id, hown.1, fun b _ => ⟨_, List.mem_singleton.2 rfl, rfl, rfl⟩, fun s hs => ?_, by simp, fun w' F' hp _ _ s hs hd => ?_⟩
        · simp at hs; subst hs
          exact ⟨rfl, rfl, _, hl, Ob.like_refl _, rfl, fun b hb => hb⟩
        · simp at hs; subst hs
          cases hd
      · cases h
    | sub | c | nils | ptr | elt | lst | clo | fx => simp [mutX] at h
  | mu c c' =>
    cases x with
    | arr id =>
      cases c' <;> simp only [mutX, reduceCtorEq] at h
      rename_i n' sz' g'
      split at h
      · rename_i n sz g e
        simp only [Option.some.injEq, Prod.mk.injEq] at h
        obtain ⟨rfl, rfl⟩ := h
        obtain ⟨rfl, rfl, rfl, hq⟩ := hob
        obtain ⟨ha, _, rfl⟩ := hr
        obtain ⟨ob0, hl⟩ := Option.isSome_iff_exists.1 ha
        cases hsub id ob0 _ hl e
        have hown := hok.ob id _ hl
        refine ⟨m.foot id, hown.1, fun b _ => ⟨_, List.mem_singleton.2 rfl, rfl, rfl⟩, fun s hs => ?_, by simp, fun w' F' hp _ _ s hs => ?_⟩
        · simp at hs; subst hs
          exact ⟨rfl, rfl, _, hl, ⟨rfl, rfl, rfl, fun _ => hq⟩, rfl, fun b hb => hb⟩
        · simp at hs; subst hs
          have hp' : OwnC w' (.seq n' sz' g') F' (m.val id) := hp.1
          have e1 : fuOf m id (m.foot id) F' = F' := by
            funext b; apply propext; simp [fuOf]
          refine fun _ => ⟨rfl, by rw [e1]; exact hp', fun a b hi hj hs2 => ?_⟩
          obtain ⟨bb, h1, h2⟩ := hown.2 rfl a b hi hj (by rw [← hq a b hi hj]; exact hs2)
          exact ⟨bb, h1, by rw [hp.2 bb a b h1 hi hj hs2]; exact h2⟩
      · cases h
    | sub id a b =>
      simp only [mutX] at h
      split at h
      · rename_i n sz g n2 g2 e
        simp only [Option.some.injEq, Prod.mk.injEq] at h
        obtain ⟨rfl, rfl⟩ := h
        obtain ⟨rfl, rfl, rfl, hsq, hset⟩ := hob
        obtain ⟨n0', sz0, g0, hl, ha, hb, hs, rfl⟩ := hr
        cases hsub id _ _ hl e
        obtain ⟨bk, cap, cur, E, fr, G, hv, hn, hfr, hbk, hcs, hfb, hG, hGd, ho⟩ := sub_own hok hl ha hb hs
        have same : ∀ i' j', i' < n2 → j' < sz → ¬ (i' = a ∧ j' = b) → g2 i' j' = g i' j' := by
          intro i' j' hi' hj' hne
          rcases hset i' j' hi' hj' with ⟨h1, h2, h3⟩ | h
          · exact absurd ⟨h1, by omega⟩ hne
          · exact h
        have hq : ∀ i' j', i' < n2 → j' < sz → isSeq (g2 i' j') = isSeq (g i' j') := by
          intro i' j' hi' hj'
          by_cases hne : i' = a ∧ j' = b
          · obtain ⟨rfl, rfl⟩ := hne
            rw [hs]; exact hsq
          · rw [same i' j' hi' hj' hne]
        refine ⟨G a b, ho, fun x _ => ⟨_, List.mem_singleton.2 rfl, rfl, rfl⟩, fun s hs' => ?_, by simp, fun w' F' hp hkeep hF' s hs' => ?_⟩
        · simp at hs'; subst hs'
          exact ⟨rfl, rfl, _, hl, ⟨rfl, rfl, rfl, fun _ => hq⟩, rfl, fun x hx => ((hG a b ha hb).1 x hx).1⟩
        · simp at hs'; subst hs'
          have hp' : OwnC w' (g2 a b) F' (m.sub id (a * sz + b)) := hp.1
          have hkeep' : ∀ x, m.foot id x → ¬ G a b x → w'.heap[x]? = w.heap[x]? := hkeep _ (List.mem_singleton.2 rfl)
          have hF'' : ∀ x, F' x → m.foot id x → G a b x := hF' _ (List.mem_singleton.2 rfl)
          have hbkG : ¬ G a b bk := fun h => ((hG a b ha hb).1 bk h).2 rfl
          have hblk : w'.heap[bk]? = w.heap[bk]? := hkeep' bk hfb hbkG
          refine fun _ => ⟨rfl, ?_, fun i' j' hi' hj' hs2 => ?_⟩
          · rw [hv]
            refine .inr ⟨bk, cap, cur, E, fr, rfl, hn, hfr, by rw [hblk]; exact hbk, hcs, .inl ⟨hfb, hbkG⟩, fun i' j' x => if i' = a ∧ j' = b then F' x else G i' j' x, fun i' j' hi' hj' => ⟨fun x hx => ?_, ?_⟩, fun i1 j1 i2 j2 x hi1 hj1 hi2 hj2 hx1 hx2 => ?_⟩
            · dsimp only at hx
              split at hx
              · refine ⟨.inr hx, ?_⟩
                rintro rfl
                exact hbkG (hF'' _ hx hfb)
              · rename_i hne
                obtain ⟨h1, h2⟩ := (hG i' j' hi' hj').1 x hx
                exact ⟨.inl ⟨h1, fun h => hne (hGd i' j' a b x hi' hj' ha hb hx h)⟩, h2⟩
            · obtain ⟨_, u, hu, hou⟩ := hG i' j' hi' hj'
              by_cases hne : i' = a ∧ j' = b
              · obtain ⟨rfl, rfl⟩ := hne
                refine ⟨m.sub id (i' * sz + j'), ?_, by simpa using hp'⟩
                obtain ⟨b2, e1, e2⟩ := (hok.ob id _ hl).2 rfl i' j' hi' hj' hs
                rw [hv] at e1; simp [Value.blk] at e1; subst e1
                rw [cell_of_row w bk _ cur E fr hbk] at e2; exact e2
              · refine ⟨u, hu, ?_⟩
                simp only [if_neg hne]
                rw [same i' j' hi' hj' hne]
                refine OwnC.heap (fun x hx => hkeep' x ((hG i' j' hi' hj').1 x hx).1 fun h => hne (hGd i' j' a b x hi' hj' ha hb hx h)) hou
            · dsimp only at hx1 hx2
              split at hx1 <;> split at hx2
              · rename_i a1 a2
                exact ⟨by rw [a1.1, a2.1], by rw [a1.2, a2.2]⟩
              · rename_i a1 a2
                exact absurd (hGd i2 j2 a b x hi2 hj2 ha hb hx2 (hF'' x hx1 ((hG i2 j2 hi2 hj2).1 x hx2).1)) a2
              · rename_i a1 a2
                exact absurd (hGd i1 j1 a b x hi1 hj1 ha hb hx1 (hF'' x hx2 ((hG i1 j1 hi1 hj1).1 x hx1).1)) a1
              · exact hGd i1 j1 i2 j2 x hi1 hj1 hi2 hj2 hx1 hx2
          · obtain ⟨b2, e1, e2⟩ := (hok.ob id _ hl).2 rfl i' j' hi' hj' (by rw [← hq i' j' hi' hj']; exact hs2)
            have e1' := e1
            rw [hv] at e1'; simp [Value.blk] at e1'; subst e1'
            exact ⟨bk, e1, by rw [World.cell?_of_block (w := w) (a := ⟨bk, i' * sz + j', none⟩) hblk]; exact e2⟩
      · cases h
    | c | nils | ptr | elt | lst | clo | fx => simp [mutX] at h
end
end Go.Fw
