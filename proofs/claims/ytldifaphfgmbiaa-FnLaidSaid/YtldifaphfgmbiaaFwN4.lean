/- One operation, part 9: calls. -/
import Derived.Test.YtldifaphfgmbiaaFwN3
namespace Go.Fw
open Go Go.RowKit

variable {P : Program} {n0 : Nat → Prop} {H : List (Nat × Ob)} {m : Mem} {w : World}

/-- A list of the activation reads as its content, though its spare room may be written. -/
theorem lst_crep (hok : HeapOK n0 H m w) {id n sz : Nat} {g : Nat → Nat → C} (hl : H.lookup id = some (.lst n sz g)) : CRep w (avOf H m) (.seq n sz g) (m.val id) := by
  have hown : OwnC w (.seq n sz g) (m.foot id) (m.val id) := hok.ob id _ hl
  rcases hown with ⟨hv, hz⟩ | ⟨b, cap, cur, E, fr, hv, hn, _, hb, hs, hFb, G, hG, _⟩
  · subst hz; rw [hv]; exact ⟨none, 0, rfl, Nat.le_refl _, fun h => absurd h (by omega)⟩
  · rw [hv]
    refine ⟨_, cap, rfl, hn, fun _ => ⟨b, 0, rfl, fun i j hi hj => ?_⟩⟩
    obtain ⟨h1, u, hu, ho⟩ := hG i j hi hj
    have same : ∀ {b2 id2 ob2}, H.lookup id2 = some ob2 → reach m id2 ob2 b2 → m.foot id b2 → id2 = id := fun hl2 hbk hf =>
      hok.apart _ _ _ (by rw [hl2]; rfl) (by rw [hl]; rfl) ((hok.ob _ _ hl2).reach hbk) hf
    refine ⟨?_, u, by rw [cell_of_row w b _ cur E fr hb, Nat.zero_add]; exact hu, OwnC.crep (fun x o hx => ?_) ho⟩
    · rintro ⟨id2, ob2, hl2, hbk, hm⟩
      have := same hl2 hbk hFb
      subst this
      rw [hl] at hl2; cases hl2
      simp only at hm
      have : i * sz + j < n * sz := by
        have : (i + 1) * sz ≤ n * sz := Nat.mul_le_mul_right _ (by omega)
        rw [Nat.add_mul] at this; omega
      omega
    · rintro ⟨id2, ob2, hl2, hbk, hm⟩
      have := same hl2 hbk (h1 x hx).1
      subst this
      rw [hl] at hl2; cases hl2
      have hbk : Value.blk (m.val id2) = some x := hbk
      rw [hv] at hbk
      simp [Value.blk] at hbk
      exact (h1 x hx).2 hbk.symm

theorem crep_plain {c : C} {v : Value} {av : Av} (h : CRep w av c v) : CRep w (fun _ _ => False) c v := CRep.avoid (fun _ _ _ h => h.elim) h

theorem isC_rep {Hs : Nat → Option Ob} (hok : HeapOK n0 H m w) (hsub : Agree H Hs) {x : X} {c : C} {v : Value} (hc : isC Hs x c) (hr : XRep H m w x v) : CRep w (fun _ _ => False) c v := by
  cases x with
  | c d => have : c = d := hc; subst this; exact crep_plain hr
  | nils =>
    have hv : v = .slice none 0 0 := hr
    subst hv
    cases c <;> first | exact hc.elim | skip
    rename_i n sz g
    have : n = 0 := hc
    subst this
    exact ⟨none, 0, rfl, Nat.le_refl _, fun h => absurd h (by omega)⟩
  | arr id =>
    obtain ⟨ha, _, rfl⟩ := hr
    obtain ⟨ob, hl⟩ := Option.isSome_iff_exists.1 ha
    simp only [isC] at hc
    split at hc
    · rename_i d n sz g e
      cases hsub id ob _ hl e
      subst hc
      exact OwnC.crep (fun _ _ _ h => h) (hok.ob id _ hl).1
    · exact hc.elim
  | sub id i j =>
    obtain ⟨n, sz, g, hl, hi, hj, hs, rfl⟩ := hr
    simp only [isC] at hc
    split at hc
    · rename_i d n' sz' g' e
      cases hsub id _ _ hl e
      subst hc
      obtain ⟨_, _, _, _, _, _, _, _, _, _, _, _, _, _, ho⟩ := sub_own hok hl hi hj hs
      exact OwnC.crep (fun _ _ _ h => h) ho
    · exact hc.elim
  | lst id n sz g => have : c = .seq n sz g := hc; subst this; exact crep_plain hr.1
  | fx id j d => have : c = d := hc; subst this; exact crep_plain hr.2
  | ptr | elt | clo => exact hc.elim

theorem isCs_rep {Hs : Nat → Option Ob} (hok : HeapOK n0 H m w) (hsub : Agree H Hs) : ∀ {xs : List X} {cs : List C}, isCs Hs xs cs →
    xs.length = cs.length ∧ ∀ (j : Nat) (x : X) (c : C), xs[j]? = some x → cs[j]? = some c → ∀ v, XRep H m w x v → CRep w (fun _ _ => False) c v := by
  intro xs
  induction xs with
  | nil => intro cs h; cases cs with
    | nil => exact ⟨rfl, fun j x c h => by simp at h⟩
    | cons => exact h.elim
  | cons x xs ih => intro cs h; cases cs with
    | nil => exact h.elim
    | cons c cs =>
      obtain ⟨h1, h2⟩ := ih h.2
      refine ⟨by simp [h1], fun j y d hy hd v hr => ?_⟩
      cases j with
      | zero => simp at hy hd; subst hy hd; exact isC_rep hok hsub h.1 hr
      | succ j => exact h2 j y d (by simpa using hy) (by simpa using hd) v hr

theorem box_ptr {Hs : Nat → Option Ob} (hok : HeapOK n0 H m w) (hsub : Agree H Hs) {id mm : Nat} {xs : List X} {get : Nat → C} (ha : (H.lookup id).isSome = true) (e : Hs id = some (.box xs)) (hcs : isCs Hs xs ((List.range mm).map get)) : CRep w (fun _ _ => False) (.ptr mm get) (m.val id) := by
  obtain ⟨ob, hl⟩ := Option.isSome_iff_exists.1 ha
  cases hsub id ob _ hl e
  obtain ⟨b', cur, E, hv', hb, hsz, _, hx⟩ := hok.ob id _ hl
  obtain ⟨h1, h2⟩ := isCs_rep hok hsub hcs
  simp at h1
  refine ⟨b', 0, hv', fun j hj => ⟨fun h => h, ?_⟩⟩
  have hj' : j < xs.length := by omega
  obtain ⟨u, hu, hxr⟩ := hx j xs[j] (List.getElem?_eq_getElem hj')
  refine ⟨u, by rw [cell_of_row w b' _ cur E (0, 0) hb, Nat.zero_add]; exact hu, ?_⟩
  exact h2 j xs[j] (get j) (List.getElem?_eq_getElem hj') (by simp [hj]) u hxr
theorem isClo_rep {Hs : Nat → Option Ob} (hok : HeapOK n0 H m w) (hsub : Agree H Hs) : ∀ (ids : List Nat) (cap : Nat → C), isClo Hs ids cap → (∀ id, id ∈ ids → (H.lookup id).isSome = true) → ∀ j, j < ids.length → ∃ u, (ids.map m.val)[j]? = some u ∧ CRep w (fun _ _ => False) (cap j) u := by
  intro ids
  induction ids with
  | nil => intro cap _ _ j hj; simp at hj
  | cons id r ih =>
    intro cap h ha j hj
    cases j with
    | zero =>
      have h1 := h.1
      split at h1
      · rename_i xs mm get e1 e2
        exact ⟨m.val id, rfl, by rw [e2]; exact box_ptr hok hsub (ha id (by simp)) e1 h1⟩
      · exact h1.elim
    | succ j =>
      obtain ⟨u, hu, hr⟩ := ih (fun j => cap (j + 1)) h.2 (fun i hi => ha i (by simp [hi])) j (by simpa using hj)
      exact ⟨u, by simpa using hu, hr⟩

theorem isP_rep {Hs : Nat → Option Ob} (hok : HeapOK n0 H m w) (hsub : Agree H Hs) {x : X} {c : C} {v : Value} (hc : isP Hs x c) (hr : XRep H m w x v) : CRep w (fun _ _ => False) c v := by
  unfold isP at hc
  split at hc
  · rename_i id off mm get
    obtain ⟨ha, b, hv, rfl⟩ := hr
    obtain ⟨ob, hl⟩ := Option.isSome_iff_exists.1 ha
    split at hc
    · rename_i xs e
      cases hsub id ob _ hl e
      obtain ⟨h0, hcs⟩ := hc
      subst h0
      obtain ⟨b', cur, E, hv', hb, hsz, _, hx⟩ := hok.ob id _ hl
      rw [hv'] at hv; cases hv
      obtain ⟨h1, h2⟩ := isCs_rep hok hsub hcs
      simp at h1
      refine ⟨b, 0, rfl, fun j hj => ⟨fun h => h, ?_⟩⟩
      have hj' : j < xs.length := by omega
      obtain ⟨u, hu, hxr⟩ := hx j xs[j] (List.getElem?_eq_getElem hj')
      refine ⟨u, by rw [cell_of_row w b _ cur E (0, 0) hb, Nat.zero_add]; exact hu, ?_⟩
      exact h2 j xs[j] (get j) (List.getElem?_eq_getElem hj') (by simp [hj]) u hxr
    · exact hc.elim
  · rename_i mm g mm' get
    obtain ⟨rfl, hg⟩ := hc
    obtain ⟨b, off, rfl, hx⟩ := crep_plain hr
    refine ⟨b, off, rfl, fun j hj => ?_⟩
    obtain ⟨h1, u, hu, h2⟩ := hx j hj
    exact ⟨h1, u, hu, by rw [hg j hj]; exact h2⟩
  · rename_i f ids f' mm cap
    obtain ⟨rfl, rfl, hcl⟩ := hc
    obtain ⟨ha, rfl⟩ := hr
    refine ⟨(ids.map m.val).toArray, rfl, by simp, fun j hj => ?_⟩
    obtain ⟨u, hu, hx⟩ := isClo_rep hok hsub ids cap hcl (fun i hi => (ha i hi).1) j hj
    exact ⟨u, by simpa using hu, hx⟩
  · exact isC_rep hok hsub hc hr

theorem isCT_rep {Hs : Nat → Option Ob} (hok : HeapOK n0 H m w) (hsub : Agree H Hs) {x : AV} {t : CT} {v : Value} (hc : isCT Hs x t) (hr : AVRep H m w x v) : CTRep w t v := by
  unfold isCT at hc
  split at hc
  · exact isP_rep hok hsub hc hr
  · obtain ⟨vs, rfl, h1, h2⟩ := hr
    obtain ⟨h3, h4⟩ := isCs_rep hok hsub hc
    refine ⟨vs, rfl, by omega, fun j c hj => ?_⟩
    rename_i xs cs
    have hj' : j < xs.length := by have := (List.getElem?_eq_some_iff.1 hj).1; omega
    obtain ⟨u, hu, hxr⟩ := h2 j xs[j] (List.getElem?_eq_getElem hj')
    exact ⟨u, hu, h4 j xs[j] c (List.getElem?_eq_getElem hj') hj u hxr⟩
  · exact hc.elim

/-- Operands that read so, one by one. -/
def AVsRep (H : List (Nat × Ob)) (m : Mem) (w : World) (as : List AV) (vs : Array Value) : Prop :=
  vs.size = as.length ∧ ∀ (j : Nat) (x : AV), as[j]? = some x → ∃ u, vs[j]? = some u ∧ AVRep H m w x u

theorem isCTs_rep {Hs : Nat → Option Ob} (hok : HeapOK n0 H m w) (hsub : Agree H Hs) : ∀ {as : List AV} {ts : List CT}, isCTs Hs as ts →
    as.length = ts.length ∧ ∀ (j : Nat) (x : AV) (c : CT), as[j]? = some x → ts[j]? = some c → ∀ v, AVRep H m w x v → CTRep w c v := by
  intro xs
  induction xs with
  | nil => intro cs h; cases cs with
    | nil => exact ⟨rfl, fun j x c h => by simp at h⟩
    | cons => exact h.elim
  | cons x xs ih => intro cs h; cases cs with
    | nil => exact h.elim
    | cons c cs =>
      obtain ⟨h1, h2⟩ := ih h.2
      refine ⟨by simp [h1], fun j y d hy hd v hr => ?_⟩
      cases j with
      | zero => simp at hy hd; subst hy hd; exact isCT_rep hok hsub h.1 hr
      | succ j => exact h2 j y d (by simpa using hy) (by simpa using hd) v hr

theorem args_rep {Hs : Nat → Option Ob} (hok : HeapOK n0 H m w) (hsub : Agree H Hs) {as : List AV} {ts : List CT} {vs : Array Value} (hc : isCTs Hs as ts) (hr : AVsRep H m w as vs) : CTsRep w ts vs := by
  obtain ⟨h1, h2⟩ := isCTs_rep hok hsub hc
  refine ⟨by rw [hr.1, h1], fun j t hj => ?_⟩
  have hj' : j < as.length := by have := (List.getElem?_eq_some_iff.1 hj).1; omega
  obtain ⟨u, hu, hxr⟩ := hr.2 j as[j] (List.getElem?_eq_getElem hj')
  exact ⟨u, hu, h2 j as[j] t (List.getElem?_eq_getElem hj') hj u hxr⟩

theorem rhos_rep {ρ : Rho} {ev : Operand → Value} : ∀ {l : List Operand} {as : List AV}, rhos ρ l = some as → (∀ x ∈ l, ∀ av, ρ x = some av → AVRep H m w av (ev x)) → AVsRep H m w as (l.map ev).toArray := by
  intro l
  induction l with
  | nil => intro as h _; cases h; exact ⟨rfl, fun j x hj => by simp at hj⟩
  | cons q l ih =>
    intro as h hr
    unfold rhos at h
    split at h
    · rename_i a as' hx hps
      cases h
      obtain ⟨h1, h2⟩ := ih hps (fun p hp => hr p (List.mem_cons_of_mem _ hp))
      refine ⟨by simp at h1 ⊢; exact h1, fun j p hj => ?_⟩
      cases j with
      | zero => simp at hj; subst hj; exact ⟨ev q, by simp, hr q (by simp) _ hx⟩
      | succ j =>
        obtain ⟨v, hv, hxr⟩ := h2 j p (by simpa using hj)
        exact ⟨v, by simpa using hv, hxr⟩
    · cases h

/-! ### What becomes of results -/
/-- A cell of a result: its data, what becomes of it, its value, its blocks. -/
structure RCell where
  c : C
  d : Dst
  v : Value
  F : Nat → Prop

theorem mkX_cases (c : C) (d : Dst) : ((mkX c d).1 = .c c ∧ (mkX c d).2 = []) ∨ (∃ id n sz g, c = .seq n sz g ∧ (mkX c d) = (.lst id n sz g, [(id, .lst n sz g)])) ∨ (∃ id dd n sz g, c = .seq n sz g ∧ (mkX c d) = (.arr id, [(id, .arr dd n sz g)])) := by
  cases c <;> cases d <;> first | exact .inl ⟨rfl, rfl⟩ | exact .inr (.inl ⟨_, _, _, _, rfl, rfl⟩) | exact .inr (.inr ⟨_, _, _, _, _, rfl, rfl⟩)

def RCell.objs (r : RCell) : List (Nat × Ob) := (mkX r.c r.d).2

theorem assign (L : List RCell) : ((L.flatMap RCell.objs).map (·.1)).Nodup → ∃ (val : Nat → Value) (foot : Nat → Nat → Prop), ∀ r ∈ L, ∀ id ob, (id, ob) ∈ r.objs → val id = r.v ∧ foot id = r.F := by
  induction L with
  | nil => intro _; exact ⟨fun _ => undef, fun _ _ => False, fun r h => by cases h⟩
  | cons r L ih =>
    intro hnd
    simp only [List.flatMap_cons, List.map_append, List.nodup_append] at hnd
    obtain ⟨val, foot, h⟩ := ih hnd.2.1
    rcases mkX_cases r.c r.d with ⟨_, he⟩ | ⟨id, n, sz, g, _, he⟩ | ⟨id, dd, n, sz, g, _, he⟩
    · refine ⟨val, foot, fun r' hr' id ob ho => ?_⟩
      cases hr' with
      | head => rw [RCell.objs, he] at ho; cases ho
      | tail _ hr' => exact h r' hr' id ob ho
    all_goals
      have ⟨ob0, ho'⟩ : ∃ ob0, r.objs = [(id, ob0)] := ⟨_, by rw [RCell.objs, he]⟩
      refine ⟨fun i => if i = id then r.v else val i, fun i => if i = id then r.F else foot i, fun r' hr' i ob ho => ?_⟩
      cases hr' with
      | head => rw [ho'] at ho; simp at ho; simp [ho.1]
      | tail _ hr' =>
        have hne : i ≠ id := by
          have := hnd.2.2 id (by rw [ho']; simp) i (List.mem_map.2 ⟨(i, ob), List.mem_flatMap.2 ⟨r', hr', ho⟩, rfl⟩)
          exact fun e => this e.symm
        simp only [if_neg hne]
        exact h r' hr' i ob ho

theorem pairwise_mem {α : Type} {R : α → α → Prop} (hsym : ∀ a b, R a b → R b a) {l : List α} (hp : l.Pairwise R) {a b : α} (ha : a ∈ l) (hb : b ∈ l) : a = b ∨ R a b := by
  induction hp with
  | nil => cases ha
  | cons h _ ih =>
    cases ha with
    | head => cases hb with
      | head => exact .inl rfl
      | tail _ hb => exact .inr (h _ hb)
    | tail _ ha => cases hb with
      | head => exact .inr (hsym _ _ (h _ ha))
      | tail _ hb => exact ih ha hb

theorem lookup_mem {l : List (Nat × Ob)} {id : Nat} {ob : Ob} (h : l.lookup id = some ob) : (id, ob) ∈ l := by
  induction l with
  | nil => cases h
  | cons p l ih =>
    obtain ⟨k, o⟩ := p
    simp only [List.lookup_cons] at h
    split at h
    · rename_i e; simp at e; cases h; subst e; exact List.mem_cons_self
    · exact List.mem_cons_of_mem _ (ih h)

theorem lookup_nodup {l : List (Nat × Ob)} (hnd : (l.map (·.1)).Nodup) {id : Nat} {ob : Ob} (h : (id, ob) ∈ l) : l.lookup id = some ob := by
  induction l with
  | nil => cases h
  | cons p l ih =>
    obtain ⟨k, o⟩ := p
    simp only [List.map_cons, List.nodup_cons] at hnd
    simp only [List.lookup_cons]
    cases h with
    | head => simp
    | tail _ h =>
      have hne : id ≠ k := fun e => hnd.1 (e ▸ List.mem_map.2 ⟨(id, ob), h, rfl⟩)
      have : (id == k) = false := by simpa using hne
      rw [this]
      exact ih hnd.2 h

/-- Results as objects of the activation. -/
theorem results_objs {w' : World} (hb : Below w.heap.size w w') (hok : HeapOK n0 H m w) (hn0 : ∀ b, n0 b → b < w.heap.size) (L : List RCell)
    (hnd : ((L.flatMap RCell.objs).map (·.1)).Nodup) (hids : ∀ id ob, H.lookup id = some ob → ∀ i ∈ ob.ids, i ∉ (L.flatMap RCell.objs).map (·.1))
    (hown : ∀ r ∈ L, OwnC w' r.c r.F r.v) (hlo : ∀ r ∈ L, ∀ b, r.F b → w.heap.size ≤ b ∧ b < w'.heap.size) (hap : L.Pairwise fun r r' => ∀ b, r.F b → ¬ r'.F b) :
    ∃ m', HeapOK n0 (L.flatMap RCell.objs ++ H) m' w' ∧ Step n0 ((L.flatMap RCell.objs).map (·.1)) [] H m w (L.flatMap RCell.objs ++ H) m' w' ∧
      ∀ r ∈ L, XRep (L.flatMap RCell.objs ++ H) m' w' (mkX r.c r.d).1 r.v := by
  obtain ⟨val, foot, hvf⟩ := assign L hnd
  have hobj : ∀ id ob, (id, ob) ∈ L.flatMap RCell.objs → ∃ r ∈ L, (id, ob) ∈ r.objs ∧ val id = r.v ∧ foot id = r.F := by
    intro id ob h
    obtain ⟨r, hr, ho⟩ := List.mem_flatMap.1 h
    exact ⟨r, hr, ho, hvf r hr id ob ho⟩
  have hkey : ∀ id, id ∈ (L.flatMap RCell.objs).map (·.1) → ∃ ob, ∃ r ∈ L, (id, ob) ∈ r.objs ∧ val id = r.v ∧ foot id = r.F := by
    intro id h
    obtain ⟨⟨i, ob⟩, hm, rfl⟩ := List.mem_map.1 h
    exact ⟨ob, hobj i ob hm⟩
  have hobrep : ∀ r ∈ L, ∀ id ob, (id, ob) ∈ r.objs → (∃ n sz g, r.c = .seq n sz g ∧ (ob = .lst n sz g ∨ ∃ dd, ob = .arr dd n sz g)) := by
    intro r _ id ob ho
    rcases mkX_cases r.c r.d with ⟨_, he⟩ | ⟨id', n, sz, g, hc, he⟩ | ⟨id', dd, n, sz, g, hc, he⟩
    · rw [RCell.objs, he] at ho; cases ho
    · rw [RCell.objs, he] at ho; simp at ho; exact ⟨n, sz, g, hc, .inl ho.2⟩
    · rw [RCell.objs, he] at ho; simp at ho; exact ⟨n, sz, g, hc, .inr ⟨dd, ho.2⟩⟩
  have hsingle : ∀ r ∈ L, ∀ id ob id' ob', (id, ob) ∈ r.objs → (id', ob') ∈ r.objs → id = id' := by
    intro r _ id ob id' ob' ho ho'
    rcases mkX_cases r.c r.d with ⟨_, he⟩ | ⟨i, n, sz, g, hc, he⟩ | ⟨i, dd, n, sz, g, hc, he⟩ <;> rw [RCell.objs, he] at ho ho' <;> simp at ho ho'
    · rw [ho.1, ho'.1]
    · rw [ho.1, ho'.1]
  have hsym : ∀ (a b : RCell), (∀ x, a.F x → ¬ b.F x) → ∀ x, b.F x → ¬ a.F x := fun a b h x hb ha => h x ha hb
  have hkv : ∀ id, id ∈ (L.flatMap RCell.objs).map (·.1) → (m.add ((L.flatMap RCell.objs).map (·.1)) val foot fun i => subOf w' (val i)).val id = val id := fun id hi => by simp only [Mem.add, if_pos hi]
  have hkf : ∀ id, id ∈ (L.flatMap RCell.objs).map (·.1) → (m.add ((L.flatMap RCell.objs).map (·.1)) val foot fun i => subOf w' (val i)).foot id = foot id := fun id hi => by simp only [Mem.add, if_pos hi]
  have hks : ∀ id, id ∈ (L.flatMap RCell.objs).map (·.1) → (m.add ((L.flatMap RCell.objs).map (·.1)) val foot fun i => subOf w' (val i)).sub id = subOf w' (val id) := fun id hi => by simp only [Mem.add, if_pos hi]
  have hblk : ∀ id b, id ∈ (L.flatMap RCell.objs).map (·.1) → Value.blk (val id) = some b → foot id b := by
    intro id b hi hb
    obtain ⟨ob, r, hr, ho, hv, hf⟩ := hkey id hi
    obtain ⟨n, sz, g, hc, _⟩ := hobrep r hr id ob ho
    have := hown r hr
    rw [hc] at this
    rw [hv] at hb; rw [hf]
    rcases this with ⟨h1, _⟩ | ⟨b', cap, cur, E, fr, h1, _, _, _, _, hF, _⟩
    · rw [h1] at hb; cases hb
    · rw [h1] at hb; cases hb; exact hF
  have key := add_objs (w' := w') hb hok hn0 (L.flatMap RCell.objs) val foot (fun i => subOf w' (val i)) hids
    (by intro id b hi hf; obtain ⟨ob, r, hr, ho, hv, hf'⟩ := hkey id hi; rw [hf'] at hf; exact hlo r hr b hf)
    (by
      intro id id' b hi hi' hf hf'
      obtain ⟨ob, r, hr, ho, _, h1⟩ := hkey id hi
      obtain ⟨ob', r', hr', ho', _, h1'⟩ := hkey id' hi'
      rw [h1] at hf; rw [h1'] at hf'
      rcases pairwise_mem hsym hap hr hr' with e | e
      · subst e; exact hsingle r hr id ob id' ob' ho ho'
      · exact absurd hf' (e b hf))
    (by
      intro _ id ob hl
      have hm := lookup_mem hl
      have hi : id ∈ (L.flatMap RCell.objs).map (·.1) := List.mem_map.2 ⟨_, hm, rfl⟩
      obtain ⟨r, hr, ho, hv, hf⟩ := hobj id ob hm
      obtain ⟨n, sz, g, hc, e⟩ := hobrep r hr id ob ho
      have := hown r hr
      rw [hc] at this
      rcases e with rfl | ⟨dd, rfl⟩
      · show OwnC w' _ _ _
        rw [hkv id hi, hkf id hi, hv, hf]; exact this
      · show OwnC w' _ _ _ ∧ _
        rw [hkv id hi, hkf id hi, hks id hi, hv, hf]; exact ⟨this, fun _ i j hi hj _ => own_subs this i j hi hj⟩)
    (by
      intro id ob0 b hl0 hb'
      have hi : id ∈ (L.flatMap RCell.objs).map (·.1) := lookup_keys hl0
      have hfb : foot id b := by
        cases ob0 with
        | arr d n sz g =>
          cases d
          · refine hblk id b hi ?_
            have : Value.blk ((m.add ((L.flatMap RCell.objs).map (·.1)) val foot fun i => subOf w' (val i)).val id) = some b := hb'
            rwa [hkv id hi] at this
          · have : (m.add ((L.flatMap RCell.objs).map (·.1)) val foot fun i => subOf w' (val i)).foot id b := hb'
            rwa [hkf id hi] at this
        | box xs =>
          refine hblk id b hi ?_
          have : Value.blk ((m.add ((L.flatMap RCell.objs).map (·.1)) val foot fun i => subOf w' (val i)).val id) = some b := hb'
          rwa [hkv id hi] at this
        | lst n sz g =>
          refine hblk id b hi ?_
          have : Value.blk ((m.add ((L.flatMap RCell.objs).map (·.1)) val foot fun i => subOf w' (val i)).val id) = some b := hb'
          rwa [hkv id hi] at this
      obtain ⟨ob, r, hr, ho, hv, hf'⟩ := hkey id hi
      rw [hf'] at hfb
      exact (hlo r hr b hfb).1)
  refine ⟨_, key.1, key.2, fun r hr => ?_⟩
  rcases mkX_cases r.c r.d with ⟨h1, he⟩ | ⟨id, n, sz, g, hc, he⟩ | ⟨id, dd, n, sz, g, hc, he⟩
  · rw [h1]
    refine OwnC.crep (fun b o hF => ?_) (hown r hr)
    rintro ⟨id2, ob2, hl2, hbk, _⟩
    by_cases hi : id2 ∈ (L.flatMap RCell.objs).map (·.1)
    · have hf2 := (key.1.ob id2 ob2 hl2).reach hbk
      rw [hkf id2 hi] at hf2
      obtain ⟨ob', r', hr', ho', _, h1'⟩ := hkey id2 hi
      rw [h1'] at hf2
      rcases pairwise_mem hsym hap hr hr' with e | e
      · subst e; rw [RCell.objs, he] at ho'; cases ho'
      · exact e b hF hf2
    · rw [List.lookup_append, lookup_none hi] at hl2
      have hl2' : H.lookup id2 = some ob2 := by simpa using hl2
      rw [reach_same (m := m) (by simp only [Mem.add, if_neg hi]) (by simp only [Mem.add, if_neg hi])] at hbk
      have := (hok.lo id2 b (by rw [hl2']; rfl) ((hok.ob id2 ob2 hl2').reach hbk)).2
      have := (hlo r hr b hF).1
      omega
  · have ho : (id, Ob.lst n sz g) ∈ r.objs := by rw [RCell.objs, he]; simp
    have hm : (id, Ob.lst n sz g) ∈ L.flatMap RCell.objs := List.mem_flatMap.2 ⟨r, hr, ho⟩
    have hi : id ∈ (L.flatMap RCell.objs).map (·.1) := List.mem_map.2 ⟨_, hm, rfl⟩
    have hl : (L.flatMap RCell.objs ++ H).lookup id = some (.lst n sz g) := by rw [List.lookup_append, lookup_nodup hnd hm]; rfl
    have hv := lst_crep key.1 hl
    rw [hkv id hi, (hvf r hr id _ ho).1] at hv
    rw [he]
    exact ⟨hv, fun _ => by rw [hkv id hi, (hvf r hr id _ ho).1]⟩
  · have ho : (id, Ob.arr dd n sz g) ∈ r.objs := by rw [RCell.objs, he]; simp
    have hm : (id, Ob.arr dd n sz g) ∈ L.flatMap RCell.objs := List.mem_flatMap.2 ⟨r, hr, ho⟩
    have hi : id ∈ (L.flatMap RCell.objs).map (·.1) := List.mem_map.2 ⟨_, hm, rfl⟩
    have hl : (L.flatMap RCell.objs ++ H).lookup id = some (.arr dd n sz g) := by rw [List.lookup_append, lookup_nodup hnd hm]; rfl
    rw [he]
    exact ⟨by rw [hl]; rfl, by rw [hl]; trivial, by rw [hkv id hi, (hvf r hr id _ ho).1]⟩

end Go.Fw
