
import Derived.Test.YtblpjlaihgcilafFwN2
import Derived.Laws.CopyRow
import Derived.Laws.AppendOwn
import Derived.Laws.MakeOwn
namespace Go.Fw
open Go Go.RowKit
variable {P : Program} {n0 : Nat → Prop} {H : List (Nat × Ob)} {m : Mem} {w w' : World}
abbrev dropL (gone : List Nat) (H : List (Nat × Ob)) : List (Nat × Ob) := H.filter fun p => !gone.contains p.1
theorem drop_lookup {gone : List Nat} {id : Nat} (h : id ∉ gone) : ∀ {H : List (Nat × Ob)}, (dropL gone H).lookup id = H.lookup id := by
  intro H
  induction H with
  | nil => rfl
  | cons p H ih =>
    obtain ⟨k, o⟩ := p
    unfold dropL at ih ⊢
    rw [List.filter_cons]
    by_cases hk : k ∈ gone
    · have : id ≠ k := fun e => h (e ▸ hk)
      have hc : (!gone.contains k) = false := by simp [hk]
      rw [hc]
      simp only [Bool.false_eq_true, ite_false, List.lookup_cons]
      have : (id == k) = false := by simpa using this
      rw [this]; exact ih
    · have hc : (!gone.contains k) = true := by simp [hk]
      rw [hc]
      simp only [ite_true, List.lookup_cons]
      split
      · rfl
      · exact ih
theorem drop_gone {gone : List Nat} {id : Nat} (h : id ∈ gone) : ∀ {H : List (Nat × Ob)}, (dropL gone H).lookup id = none := by
  intro H
  refine lookup_none ?_
  intro hm
  obtain ⟨⟨k, o⟩, hk, rfl⟩ := List.mem_map.1 hm
  simp [dropL] at hk
  exact hk.2 h
theorem take_obj {gone : List Nat} (hb : BelowK n0 w w') (hok : HeapOK n0 H m w) (hn0 : ∀ b, n0 b → b < w.heap.size)
    (hblocks : ∀ b, b < w.heap.size → (∀ g ∈ gone, ¬ m.foot g b) → w'.heap[b]? = w.heap[b]?)
    (hcells : ∀ b o u, w.cell? ⟨b, o, none⟩ = some u → ¬ avOf H m b o → w'.cell? ⟨b, o, none⟩ = some u)
    (id n sz : Nat) (get : Nat → Nat → C) (islst : Kd) (val : Value) (foot : Nat → Prop)
    (hfoot : ∀ b, foot b → (w.heap.size ≤ b ∧ b < w'.heap.size) ∨ ∃ g ∈ gone, (H.lookup g).isSome = true ∧ m.foot g b)
    (hav : ∀ b o, b < w.heap.size → Value.blk val = some b → (islst = .kl → n * sz ≤ o) → avOf H m b o) (hdeep : islst = .kd → ∀ g ∈ gone, ∃ n sz gt, H.lookup g = some (.arr true n sz gt))
    (hids : ∀ i ob, H.lookup i = some ob → id ∉ ob.ids) (hhard : ∀ i ob, H.lookup i = some ob → ∀ j ∈ ob.hard, j ∉ gone)
    (hgone : ∀ g ∈ gone, (H.lookup g).isSome = true) (hrep : OwnC w' (.seq n sz get) foot val) :
    ∃ m', HeapOK n0 ((id, obO islst n sz get) :: dropL gone H) m' w' ∧ Step n0 [id] gone H m w ((id, obO islst n sz get) :: dropL gone H) m' w' ∧ m'.val id = val := by
  let ob : Ob := obO islst n sz get
  let m' : Mem := ⟨fun i => if i = id then val else m.val i, fun i => if i = id then foot else m.foot i, fun i => if i = id then subOf w' val else m.sub i⟩
  have hl0 : ((id, ob) :: dropL gone H).lookup id = some ob := by simp
  have hl : ∀ i, i ≠ id → ((id, ob) :: dropL gone H).lookup i = (dropL gone H).lookup i := by
    intro i hi
    have : (i == id) = false := by simpa using hi
    simp only [List.lookup_cons, this]
  have hl2 : ∀ i o, i ≠ id → ((id, ob) :: dropL gone H).lookup i = some o → i ∉ gone ∧ H.lookup i = some o := by
    intro i o hi h
    rw [hl i hi] at h
    by_cases hg : i ∈ gone
    · rw [drop_gone hg] at h; cases h
    · rw [drop_lookup hg] at h; exact ⟨hg, h⟩
  have hblkfoot : ∀ b, Value.blk val = some b → foot b := by
    intro b hbk
    rcases hrep with ⟨hv, _⟩ | ⟨b', cap, cur, E, fr, hv, _, _, _, _, hf, _⟩
    · rw [hv] at hbk; cases hbk
    · rw [hv] at hbk; cases hbk; exact hf
  have hS : Step n0 [id] gone H m w ((id, ob) :: dropL gone H) m' w' := by
    refine ⟨hb, fun b o u hu hn => ⟨hcells b o u hu hn, ?_⟩, fun i hi => ?_, fun i hi => (by simp at hi; simp [m', hi]), fun i o h hi hg => ⟨o, ?_, o.like_refl⟩, fun i h hi => ?_⟩
    · rintro ⟨i, o', hli, hbk, hm⟩
      have hlt : b < w.heap.size := World.block_lt_of_cell? w ⟨b, o, none⟩ hu
      by_cases hi : i = id
      · subst hi
        rw [hl0] at hli
        cases hli
        cases islst with
        | kd =>
          have hf : foot b := by
            have : m'.foot i b := hbk
            simpa [m'] using this
          rcases hfoot b hf with h | ⟨g, hg, _, hgf⟩
          · omega
          · obtain ⟨n2, sz2, gt, hl2⟩ := hdeep rfl g hg
            exact hn ⟨g, _, hl2, hgf, trivial⟩
        | kl =>
          have hbk' : Value.blk val = some b := by
            have : Value.blk (m'.val i) = some b := hbk
            simpa [m'] using this
          exact hn (hav b o hlt hbk' fun _ => hm)
        | ka =>
          have hbk' : Value.blk val = some b := by
            have : Value.blk (m'.val i) = some b := hbk
            simpa [m'] using this
          exact hn (hav b o hlt hbk' fun h => by cases h)
      · obtain ⟨_, h2⟩ := hl2 i o' hi hli
        rw [reach_same (m := m) (by simp [m', hi]) (by simp [m', hi])] at hbk
        exact hn ⟨i, o', h2, hbk, hm⟩
    · simp at hi; simp [m', hi]
    · simp at hi; rw [hl i hi, drop_lookup hg]; exact h
    · simp at hi
      obtain ⟨o, ho⟩ := Option.isSome_iff_exists.1 h
      rw [(hl2 i o hi ho).2]; rfl
  have hdis : ∀ i b, i ≠ id → i ∉ gone → (H.lookup i).isSome = true → m.foot i b → ¬ foot b := by
    intro i b hi hg ha hf hf'
    rcases hfoot b hf' with h | ⟨g, hgm, hga, hgf⟩
    · have := (hok.lo i b ha hf).2; omega
    · exact hg ((hok.apart i g b ha hga hf hgf) ▸ hgm)
  refine ⟨m', ⟨fun i o h => ?_, fun i b ha hf => ?_, fun i i' b ha ha' hf hf' => ?_⟩, hS, by simp [m']⟩
  · by_cases hi : i = id
    · subst hi
      rw [hl0] at h
      cases h
      have : OwnC w' (.seq n sz get) (m'.foot i) (m'.val i) := by simpa [m'] using hrep
      cases islst
      · exact this
      · exact ⟨this, fun hd => by cases hd⟩
      · refine ⟨this, fun _ a b ha hb _ => ?_⟩
        have := own_subs this a b ha hb
        have e1 : m'.sub i = subOf w' (m'.val i) := by simp [m']
        rw [e1]; exact this
    · obtain ⟨hg, h2⟩ := hl2 i o hi h
      refine ObRep.step hS (by simp [m', hi]) (fun b => by simp [m', hi]) (by simp [m', hi]) (fun j hj => by simp; rintro rfl; exact hids i o h2 hj) (hhard i o h2) (fun b hf => ?_) (hok.ob i o h2)
      refine hblocks b (hok.lo i b (by rw [h2]; rfl) hf).2 fun g hgm hgf => ?_
      exact hg ((hok.apart i g b (by rw [h2]; rfl) (hgone g hgm) hf hgf) ▸ hgm)
  · by_cases hi : i = id
    · subst hi
      have hf' : foot b := by simpa [m'] using hf
      rcases hfoot b hf' with h | ⟨g, hgm, hga, hgf⟩
      · exact ⟨fun hk => by have := hn0 b hk; omega, by omega⟩
      · have := hok.lo g b hga hgf
        have := hb.size
        exact ⟨(hok.lo g b hga hgf).1, by omega⟩
    · obtain ⟨o, ho⟩ := Option.isSome_iff_exists.1 ha
      obtain ⟨_, h2⟩ := hl2 i o hi ho
      have hf' : m.foot i b := by simpa [m', hi] using hf
      have := hok.lo i b (by rw [h2]; rfl) hf'
      have := hb.size
      exact ⟨(hok.lo i b (by rw [h2]; rfl) hf').1, by omega⟩
  · obtain ⟨o, ho⟩ := Option.isSome_iff_exists.1 ha
    obtain ⟨o', ho'⟩ := Option.isSome_iff_exists.1 ha'
    by_cases hi : i = id <;> by_cases hi' : i' = id
    · rw [hi, hi']
    · obtain ⟨hg', h2'⟩ := hl2 i' o' hi' ho'
      simp only [m', if_pos hi] at hf
      simp only [m', if_neg hi'] at hf'
      exact absurd hf (hdis i' b hi' hg' (by rw [h2']; rfl) hf')
    · obtain ⟨hg, h2⟩ := hl2 i o hi ho
      simp only [m', if_neg hi] at hf
      simp only [m', if_pos hi'] at hf'
      exact absurd hf' (hdis i b hi hg (by rw [h2]; rfl) hf)
    · obtain ⟨hg, h2⟩ := hl2 i o hi ho
      obtain ⟨hg', h2'⟩ := hl2 i' o' hi' ho'
      simp only [m', if_neg hi] at hf
      simp only [m', if_neg hi'] at hf'
      exact hok.apart i i' b (by rw [h2]; rfl) (by rw [h2']; rfl) hf hf'
/-! ### Cells that are written -/
theorem frozen_ok {g j : Nat} {cs : Array Value} {t : TypeId} {fr : Nat × Nat} (hg : w.heap[g]? = some (.cells cs t fr)) (hf : okFr fr cs.size) (hj : j < cs.size) : w.frozen? ⟨g, j, none⟩ = false := by
  unfold World.frozen?
  rw [hg]
  rcases hf with rfl | hf
  · simp
  · obtain ⟨lo, hi⟩ := fr
    simp only at hf ⊢
    simp; omega
theorem store_cells (P : Program) (g o : Nat) (t : TypeId) (fr : Nat × Nat) : ∀ (vs : List Value) (i : Nat) (cur : Array Value) (w : World), w.heap[g]? = some (.cells cur t fr) → okFr fr cur.size → o + i + vs.length ≤ cur.size → (∀ v ∈ vs, v.oneCell' = true) →
    ∃ cur', (storeCells ⟨g, o, none⟩ vs i).run P w = .ok () (w.setRow g cur') ∧ cur'.size = cur.size ∧ ∀ k, cur'[k]? = if o + i ≤ k ∧ k < o + i + vs.length then vs[k - o - i]? else cur[k]? := by
  intro vs
  induction vs with
  | nil =>
    intro i cur w hg _ _ _
    refine ⟨cur, by rw [setRow_self w g cur t fr hg]; rfl, rfl, fun k => ?_⟩
    rw [if_neg (by simp)]
  | cons v vs ih =>
    intro i cur w hg hf hl h1
    simp only [List.length_cons] at hl
    have hi : o + i < cur.size := by omega
    have hcell : w.cell? ⟨g, o + i, none⟩ = some cur[o + i] := by simp [World.cell?, hg, hi]
    have hst : (store ((⟨g, o, none⟩ : Addr).add i) v).run P w = .ok () (w.setRow g (cur.setIfInBounds (o + i) v)) := by
      rw [Addr.add_lit, run_store P w _ v _ (h1 v (by simp)), hcell]
      simp only [frozen_ok hg hf hi, Bool.false_eq_true, ite_false]
      rw [setCell_eq_setRow w g (o + i) cur t fr v hg]
    obtain ⟨cur', g1, g2, g3⟩ := ih (i + 1) (cur.setIfInBounds (o + i) v) (w.setRow g (cur.setIfInBounds (o + i) v)) (setRow_heap w g cur _ t fr hg) (by simpa using hf) (by simp; omega) (fun x hx => h1 x (by simp [hx]))
    refine ⟨cur', ?_, by simpa using g2, fun k => ?_⟩
    · simp only [storeCells, Sem.run_bind, hst, Result.andThen_ok, g1, setRow_setRow]
    · rw [g3 k]
      by_cases e : k = o + i
      · subst e
        rw [if_neg (by omega), if_pos (by simp), Array.getElem?_setIfInBounds_self]
        simp [hi]
      · by_cases h2 : o + (i + 1) ≤ k ∧ k < o + (i + 1) + vs.length
        · rw [if_pos h2, if_pos (by simp; omega)]
          have : k - o - i = (k - o - (i + 1)) + 1 := by omega
          rw [this, List.getElem?_cons_succ]
        · rw [if_neg h2, if_neg (by simp; omega), Array.getElem?_setIfInBounds_ne (fun h => e h.symm)]
theorem CRep.oneCell {av : Av} {c : C} {v : Value} (h : CRep w av c v) : v.oneCell' = true := by
  cases c with
  | int | bool | str | nilptr | nilfn | niliface => have : v = _ := h; subst this; rfl
  | err b => rcases rep_err h with rfl | ⟨t, x, rfl⟩ <;> rfl
  | flt => obtain ⟨b, rfl, _⟩ := h; rfl
  | seq => obtain ⟨a, cap, rfl, _⟩ := h; rfl
  | ptr => obtain ⟨b, off, rfl, _⟩ := h; rfl
  | fn => obtain ⟨cs, rfl, _⟩ := h; rfl
theorem XRep.oneCell {x : X} {v : Value} (hok : HeapOK n0 H m w) (h : XRep H m w x v) : v.oneCell' = true := by
  cases x with
  | c c => exact CRep.oneCell h
  | nils => have : v = _ := h; subst this; rfl
  | ptr => obtain ⟨_, b, _, rfl⟩ := h; rfl
  | elt => obtain ⟨_, _, _, _, _, _, _, _, _, rfl⟩ := h; rfl
  | fx => exact CRep.oneCell h.2
  | sub =>
    obtain ⟨_, _, _, hl, hi, hj, hs, rfl⟩ := h
    obtain ⟨_, _, _, _, _, _, _, _, _, _, _, _, _, _, ho⟩ := sub_own hok hl hi hj hs
    obtain ⟨a, k, cap, e⟩ := seq_slice hs ho
    rw [e]; rfl
  | lst => obtain ⟨⟨a, cap, rfl, _⟩, _⟩ := h; rfl
  | clo => obtain ⟨_, rfl⟩ := h; rfl
  | arr id =>
    obtain ⟨ha, hA, rfl⟩ := h
    obtain ⟨ob, hl⟩ := Option.isSome_iff_exists.1 ha
    have hr := hok.ob id ob hl
    rw [hl] at hA
    cases ob with
    | ext => exact hA.elim
    | box => exact hA.elim
    | lst => exact hA.elim
    | arr d n sz g =>
      have hown : OwnC w (.seq n sz g) (m.foot id) (m.val id) := hr.1
      rcases hown with ⟨hv, _⟩ | ⟨b, cap, cur, E, fr, hv, _⟩ <;> rw [hv] <;> rfl
theorem OwnC.oneCell {c : C} {F : Nat → Prop} {v : Value} (h : OwnC w c F v) : v.oneCell' = true :=
  CRep.oneCell (w := w) (av := fun _ _ => False) (OwnC.crep (fun _ _ _ h => h) h)
theorem XsRep.oneCell {xs : List X} {cs : Array Value} (hok : HeapOK n0 H m w) (h : XsRep H m w xs cs) : ∀ v ∈ cs.toList, v.oneCell' = true := by
  intro v hv
  obtain ⟨j, hj, rfl⟩ := List.mem_iff_getElem.1 hv
  have hj' : j < xs.length := by have := h.1; simp at hj; omega
  obtain ⟨u, hu, hr⟩ := h.2 j xs[j] (List.getElem?_eq_getElem hj')
  have : cs.toList[j] = u := by
    have : cs.toList[j]? = some u := by simpa using hu
    rw [List.getElem?_eq_getElem hj] at this
    exact Option.some.inj this
  rw [this]
  exact XRep.oneCell hok hr
theorem isRX_own {n0 : Nat → Prop} {H : List (Nat × Ob)} {m : Mem} {w : World} (hok : HeapOK n0 H m w) {x : X} {c : C} {v : Value} (hc : isRX (fun i => H.lookup i) x c) (hr : XRep H m w x v) :
    ∃ F : Nat → Prop, OwnC w c F v ∧ ∀ b, F b → ∃ id ∈ x.ids, (H.lookup id).isSome = true ∧ m.foot id b := by
  cases x with
  | c d =>
    obtain ⟨rfl, hs⟩ := hc
    refine ⟨fun _ => False, ?_, fun b h => h.elim⟩
    cases c <;> first | exact hr | exact fn_own hr hs | exact hs.elim
  | nils =>
    have hv : v = .slice none 0 0 := hr
    cases c <;> first | exact hc.elim | skip
    have hn : _ = 0 := hc
    exact ⟨fun _ => False, .inl ⟨hv, hn⟩, fun b h => h.elim⟩
  | arr id =>
    obtain ⟨ha, _, rfl⟩ := hr
    refine ⟨m.foot id, ?_, fun b h => ⟨id, by simp [X.ids], ha, h⟩⟩
    simp only [isRX] at hc
    split at hc
    · rename_i d n sz g hl; subst hc; exact (hok.ob id _ hl).1
    · exact hc.elim
  | lst id n sz g =>
    simp only [isRX] at hc
    split at hc
    · rename_i n' sz' g' hl
      subst hc
      have ha : (H.lookup id).isSome = true := by rw [hl]; rfl
      obtain ⟨_, hv⟩ := hr
      rw [hv ha]
      exact ⟨m.foot id, hok.ob id _ hl, fun b h => ⟨id, by simp [X.ids], ha, h⟩⟩
    · exact hc.elim
  | ptr => exact hc.elim
  | elt => exact hc.elim
  | clo => exact hc.elim
  | sub => exact hc.elim
  | fx => exact hc.elim
theorem isRXs_own {n0 : Nat → Prop} {H : List (Nat × Ob)} {m : Mem} {w : World} (hok : HeapOK n0 H m w) : ∀ (xs : List X) (cs : List C) (vs : List Value), isRXs (fun i => H.lookup i) xs cs → (xs.flatMap X.ids).Nodup → vs.length = xs.length →
    (∀ (j : Nat) (x : X), xs[j]? = some x → ∃ u, vs[j]? = some u ∧ XRep H m w x u) →
    cs.length = xs.length ∧ ∃ F : Nat → Nat → Prop, (∀ (j : Nat) (c : C), cs[j]? = some c → ∃ u, vs[j]? = some u ∧ OwnC w c (F j) u) ∧
      (∀ j b, F j b → ∃ id ∈ xs.flatMap X.ids, (H.lookup id).isSome = true ∧ m.foot id b) ∧ ∀ j j' b, F j b → F j' b → j = j' := by
  intro xs
  induction xs with
  | nil =>
    intro cs vs h _ _ _
    cases cs with
    | nil => exact ⟨rfl, fun _ _ => False, fun j c hj => by simp at hj, fun j b h => h.elim, fun j j' b h => h.elim⟩
    | cons => exact h.elim
  | cons x xs ih =>
    intro cs vs h hnd hl hv
    cases cs with
    | nil => exact h.elim
    | cons c cs =>
      cases vs with
      | nil => simp at hl
      | cons v vs =>
        simp only [List.flatMap_cons, List.nodup_append] at hnd
        obtain ⟨h1, F, h2, h3, h4⟩ := ih cs vs h.2 hnd.2.1 (by simpa using hl) (fun j x hj => by simpa using hv (j + 1) x (by simpa using hj))
        obtain ⟨u, hu, hx⟩ := hv 0 x rfl
        simp at hu
        subst hu
        obtain ⟨F0, g1, g2⟩ := isRX_own hok h.1 hx
        have dis : ∀ j b, F0 b → ¬ F j b := by
          intro j b hb hb'
          obtain ⟨id, hi, ha, hf⟩ := g2 b hb
          obtain ⟨id', hi', ha', hf'⟩ := h3 j b hb'
          exact hnd.2.2 id hi id' hi' (hok.apart id id' b ha ha' hf hf')
        refine ⟨by simp [h1], fun j => match j with | 0 => F0 | j + 1 => F j, fun j d hj => ?_, fun j b hb => ?_, fun j j' b hb hb' => ?_⟩
        · cases j with
          | zero => simp at hj; subst hj; exact ⟨v, rfl, g1⟩
          | succ j => obtain ⟨u, hu, ho⟩ := h2 j d (by simpa using hj); exact ⟨u, by simpa using hu, ho⟩
        · cases j with
          | zero => obtain ⟨id, hi, r⟩ := g2 b hb; exact ⟨id, List.mem_append_left _ hi, r⟩
          | succ j => obtain ⟨id, hi, r⟩ := h3 j b hb; exact ⟨id, List.mem_append_right _ hi, r⟩
        · cases j <;> cases j'
          · rfl
          · exact absurd hb' (dis _ b hb)
          · exact absurd hb (dis _ b hb')
          · exact congrArg _ (h4 _ _ b hb hb')
theorem set_box {id b : Nat} {xs ys : List X} {cur cur' : Array Value} {E : TypeId} (hok : HeapOK n0 H m w) (hl : H.lookup id = some (.box xs)) (hv : m.val id = .pointer (some ⟨b, 0, none⟩)) (hb : w.heap[b]? = some (.cells cur E (0, 0)))
    (hs : cur'.size = ys.length) (hr : ∀ (j : Nat) (y : X), ys[j]? = some y → ∃ u, cur'[j]? = some u ∧ XRep H m w y u) :
    HeapOK n0 ((id, .box ys) :: H) m (w.setRow b cur') ∧ Step n0 [] [] H m w ((id, .box ys) :: H) m (w.setRow b cur') := by
  have ⟨b0, cur0, E0, hv0, _, _, hf0, _⟩ := hok.ob id _ hl
  rw [hv] at hv0; cases hv0
  have hlo := hok.lo id b (by rw [hl]; rfl) hf0
  have hk : ∀ i, i ≠ id → ((id, Ob.box ys) :: H).lookup i = H.lookup i := by
    intro i hi
    have : (i == id) = false := by simpa using hi
    simp only [List.lookup_cons, this]
  have hk0 : ((id, Ob.box ys) :: H).lookup id = some (.box ys) := by simp
  have hother : ∀ k, k ≠ b → (w.setRow b cur').heap[k]? = w.heap[k]? := fun k hk => setRow_other w b k cur' hk
  have hsame := setRow_heap w b cur cur' E (0, 0) hb
  have hS : Step n0 [] [] H m w ((id, .box ys) :: H) m (w.setRow b cur') := by
    refine ⟨⟨rfl, rfl, rfl, by simp, fun k hk => hother k (by rintro rfl; exact hlo.1 hk)⟩, fun b2 o u hu hn => ?_, fun _ _ => rfl, fun _ _ => rfl, fun i o h _ _ => ?_, fun i h _ => ?_⟩
    · have hne : b2 ≠ b := by
        rintro rfl
        exact hn ⟨id, _, hl, by show Value.blk (m.val id) = _; rw [hv]; rfl, trivial⟩
      refine ⟨by rw [World.cell?_of_block (w := w) (a := ⟨b2, o, none⟩) (hother b2 hne)]; exact hu, ?_⟩
      rintro ⟨i, o', hli, hbk, hm⟩
      by_cases hi : i = id
      · subst hi
        rw [hk0] at hli; cases hli
        have hbk' : Value.blk (m.val i) = some b2 := hbk
        rw [hv] at hbk'; simp [Value.blk] at hbk'; exact hne hbk'.symm
      · rw [hk i hi] at hli; exact hn ⟨i, o', hli, hbk, hm⟩
    · by_cases hi : i = id
      · subst hi; rw [hl] at h; cases h; exact ⟨_, hk0, trivial⟩
      · exact ⟨o, by rw [hk i hi]; exact h, o.like_refl⟩
    · by_cases hi : i = id
      · subst hi; rw [hl]; rfl
      · rwa [hk i hi] at h
  refine ⟨⟨fun i o h => ?_, fun i b2 ha hf => ?_, fun i i' b2 ha ha' hf hf' => ?_⟩, hS⟩
  · by_cases hi : i = id
    · subst hi
      rw [hk0] at h
      cases h
      refine ⟨b, cur', E, hv, hsame, hs, hf0, fun j y hj => ?_⟩
      obtain ⟨u, hu, hx⟩ := hr j y hj
      exact ⟨u, hu, hS.xrep (by simp) (by simp) hx⟩
    · rw [hk i hi] at h
      refine ObRep.step hS rfl (fun _ => Iff.rfl) rfl (by simp) (by simp) (fun b2 hf => hother b2 ?_) (hok.ob i o h)
      rintro rfl
      exact hi (hok.apart i id b2 (by rw [h]; rfl) (by rw [hl]; rfl) hf hf0)
  · have ha' : (H.lookup i).isSome = true := by
      by_cases hi : i = id
      · subst hi; rw [hl]; rfl
      · rwa [hk i hi] at ha
    have := hok.lo i b2 ha' hf
    simpa using this
  · have al : ∀ i, ((((id, Ob.box ys) :: H).lookup i).isSome = true) → (H.lookup i).isSome = true := by
      intro i ha
      by_cases hi : i = id
      · subst hi; rw [hl]; rfl
      · rwa [hk i hi] at ha
    exact hok.apart i i' b2 (al i ha) (al i' ha') hf hf'
end Go.Fw
/-! append. -/
namespace Go.Fw
open Go Go.RowKit
variable {P : Program} {n0 : Nat → Prop} {H : List (Nat × Ob)} {m : Mem} {w w' : World}
def RowsOwn (w : World) (n sz : Nat) (get : Nat → Nat → C) (us : List Value) (G : Nat → Nat → Nat → Prop) : Prop :=
  us.length = n * sz ∧ (∀ i j, i < n → j < sz → ∃ u, us[i * sz + j]? = some u ∧ OwnC w (get i j) (G i j) u) ∧
    ∀ i j i' j' x, i < n → j < sz → i' < n → j' < sz → G i j x → G i' j' x → i = i' ∧ j = j'
theorem RowsOwn.heap {n sz : Nat} {get : Nat → Nat → C} {us : List Value} {G : Nat → Nat → Nat → Prop} (hh : ∀ i j x, i < n → j < sz → G i j x → w'.heap[x]? = w.heap[x]?) (h : RowsOwn w n sz get us G) : RowsOwn w' n sz get us G := by
  obtain ⟨h1, h2, h3⟩ := h
  refine ⟨h1, fun i j hi hj => ?_, h3⟩
  obtain ⟨u, hu, ho⟩ := h2 i j hi hj
  exact ⟨u, hu, OwnC.heap (hh i j · hi hj) ho⟩
theorem idx_lt {n sz i j : Nat} (hi : i < n) (hj : j < sz) : i * sz + j < n * sz := by
  have : (i + 1) * sz ≤ n * sz := Nat.mul_le_mul_right _ (by omega)
  rw [Nat.add_mul] at this; omega
theorem RowsOwn.seq {n sz b cap : Nat} {get : Nat → Nat → C} {us : List Value} {G : Nat → Nat → Nat → Prop} {cur : Array Value} {E : TypeId} {fr : Nat × Nat} {F : Nat → Prop} (h : RowsOwn w n sz get us G)
    (hb : w.heap[b]? = some (.cells cur E fr)) (hfr : okFr fr cur.size) (hn : n ≤ cap) (hs : cur.size = cap * sz) (hpre : ∀ k, k < n * sz → cur[k]? = us[k]?) (hFb : F b) (hG : ∀ i j x, i < n → j < sz → G i j x → F x ∧ x ≠ b) :
    OwnC w (.seq n sz get) F (.slice (some ⟨b, 0, none⟩) n cap) := by
  obtain ⟨h1, h2, h3⟩ := h
  refine .inr ⟨b, cap, cur, E, fr, rfl, hn, hfr, hb, hs, hFb, G, fun i j hi hj => ⟨fun x hx => hG i j x hi hj hx, ?_⟩, h3⟩
  obtain ⟨u, hu, ho⟩ := h2 i j hi hj
  exact ⟨u, by rw [hpre _ (idx_lt hi hj)]; exact hu, ho⟩
theorem RowsOwn.append {n k sz : Nat} {get get2 get' : Nat → Nat → C} {us vs : List Value} {G G2 : Nat → Nat → Nat → Prop} (h : RowsOwn w n sz get us G) (h2 : RowsOwn w k sz get2 vs G2) (hob : AppOb n k sz get get2 get')
    (hd : ∀ i j i' j' x, i < n → j < sz → i' < k → j' < sz → G i j x → ¬ G2 i' j' x) :
    RowsOwn w (n + k) sz get' (us ++ vs) fun i j x => if i < n then G i j x else G2 (i - n) j x := by
  obtain ⟨a1, a2, a3⟩ := h
  obtain ⟨b1, b2, b3⟩ := h2
  refine ⟨by rw [List.length_append, a1, b1, Nat.add_mul], fun i j hi hj => ?_, fun i j i' j' x hi hj hi' hj' hg hg' => ?_⟩
  · by_cases h : i < n
    · obtain ⟨u, hu, ho⟩ := a2 i j h hj
      refine ⟨u, by rw [List.getElem?_append, if_pos (by rw [a1]; exact idx_lt h hj)]; exact hu, ?_⟩
      rw [hob.1 i j h hj]
      simpa [h] using ho
    · have hk : i - n < k := by omega
      obtain ⟨u, hu, ho⟩ := b2 (i - n) j hk hj
      have hge : n * sz ≤ i * sz + j := by
        have : n * sz ≤ i * sz := Nat.mul_le_mul_right _ (by omega)
        omega
      refine ⟨u, ?_, ?_⟩
      · rw [List.getElem?_append, if_neg (by rw [a1]; omega), a1]
        have : i * sz + j - n * sz = (i - n) * sz + j := by
          have e : i * sz = (i - n) * sz + n * sz := by rw [← Nat.add_mul]; congr 1; omega
          omega
        rw [this]; exact hu
      · have := hob.2 (i - n) j hk hj
        rw [show n + (i - n) = i by omega] at this
        rw [this]
        simpa [h] using ho
  · dsimp only at hg hg'
    by_cases h : i < n <;> by_cases h' : i' < n
    · rw [if_pos h] at hg; rw [if_pos h'] at hg'
      exact a3 i j i' j' x h hj h' hj' hg hg'
    · rw [if_pos h] at hg; rw [if_neg h'] at hg'
      exact absurd hg' (hd i j _ j' x h hj (by omega) hj' hg)
    · rw [if_neg h] at hg; rw [if_pos h'] at hg'
      exact absurd hg (hd i' j' _ j x h' hj' (by omega) hj hg')
    · rw [if_neg h] at hg; rw [if_neg h'] at hg'
      have := b3 _ _ _ _ x (show i - n < k by omega) hj (show i' - n < k by omega) hj' hg hg'
      omega
theorem OwnC.rows {n sz : Nat} {get : Nat → Nat → C} {F : Nat → Prop} {b cap : Nat} {v : Value} (h : OwnC w (.seq n sz get) F v) (hv : v = .slice (some ⟨b, 0, none⟩) n cap) :
    ∃ cur E fr G, n ≤ cap ∧ okFr fr cur.size ∧ w.heap[b]? = some (.cells cur E fr) ∧ cur.size = cap * sz ∧ F b ∧ RowsOwn w n sz get (cur.toList.take (n * sz)) G ∧ ∀ i j x, i < n → j < sz → G i j x → F x ∧ x ≠ b := by
  rcases h with ⟨h1, _⟩ | ⟨b', cap', cur, E, fr, h1, hn, hfr, hb, hs, hFb, G, hG, hd⟩
  · rw [hv] at h1; cases h1
  · rw [hv] at h1; cases h1
    have hle : n * sz ≤ cur.size := by rw [hs]; exact Nat.mul_le_mul_right _ hn
    refine ⟨cur, E, fr, G, hn, hfr, hb, hs, hFb, ⟨by simp; omega, fun i j hi hj => ?_, hd⟩, fun i j x hi hj => (hG i j hi hj).1 x⟩
    obtain ⟨_, u, hu, ho⟩ := hG i j hi hj
    refine ⟨u, ?_, ho⟩
    rw [List.getElem?_take, if_pos (idx_lt hi hj)]
    simpa using hu
theorem elemT_spec {t e : TypeId} {sz bytes : Nat} (h : elemT P t = some (e, sz, bytes)) : ∃ i z, P.underlying t = some (.slice e) ∧ P.info? e = some i ∧ i.zero = some z ∧ i.size = sz ∧ i.bytes = bytes ∧ z.cells.size = sz ∧ 0 < sz ∧ 0 < bytes := by
  unfold elemT at h
  split at h
  · rename_i e' hu
    split at h
    · rename_i i hi
      split at h
      · rename_i z hz
        split at h
        · rename_i hc
          cases h
          exact ⟨i, z, hu, hi, hz, rfl, rfl, hc.1, hc.2.1, hc.2.2⟩
        · cases h
      · cases h
    · cases h
  · cases h
theorem srcView {av : Av} {sz k : Nat} {get : Nat → Nat → C} {v : Value} (hob : ∀ i j, i < k → j < sz → scalarC (get i j)) (hr : CRep w av (.seq k sz get) v) :
    ∃ a cap us G, v = .slice a k cap ∧ RowsOwn w k sz get us G ∧ (0 < k → ∃ b off, a = some ⟨b, off, none⟩ ∧ ∀ (j : Nat) (u : Value), us[j]? = some u → w.cell? ⟨b, off + j, none⟩ = some u) ∧ (∀ u ∈ us, u.oneCell' = true) ∧
      ∀ i j x, i < k → j < sz → G i j x → False := by
  obtain ⟨a, cap, hv, hn, hc⟩ := hr
  rcases Nat.eq_zero_or_pos k with h0 | h0
  · subst h0
    exact ⟨a, cap, [], fun _ _ _ => False, hv, ⟨by simp, fun i j hi => by omega, fun i j i' j' x hi => by omega⟩, fun h => by omega, by simp, fun i j x hi => by omega⟩
  · obtain ⟨b, off, ha, hcell⟩ := hc h0
    let us : List Value := (List.range (k * sz)).map fun q => (w.cell? ⟨b, off + q, none⟩).getD undef
    have hus : ∀ i j, i < k → j < sz → ∃ u, us[i * sz + j]? = some u ∧ w.cell? ⟨b, off + (i * sz + j), none⟩ = some u ∧ OwnC w (get i j) (fun _ => False) u := by
      intro i j hi hj
      obtain ⟨_, u, hu, hcr⟩ := hcell i j hi hj
      rw [Nat.add_assoc] at hu
      have hlt := idx_lt hi hj
      refine ⟨u, by simp [us, hlt, hu], hu, ?_⟩
      have hsc := hob i j hi hj
      cases hgc : get i j <;> rw [hgc] at hcr hsc <;> first | exact hcr | exact fn_own hcr hsc | exact hsc.elim
    have hq : ∀ q, q < k * sz → ∃ u, us[q]? = some u ∧ w.cell? ⟨b, off + q, none⟩ = some u ∧ u.oneCell' = true := by
      intro q hql
      have hsz : 0 < sz := by
        rcases Nat.eq_zero_or_pos sz with h0 | h0
        · rw [h0] at hql; simp at hql
        · exact h0
      have hi : q / sz < k := (Nat.div_lt_iff_lt_mul hsz).2 hql
      have hj : q % sz < sz := Nat.mod_lt _ hsz
      obtain ⟨u, h1, h2, h3⟩ := hus _ _ hi hj
      have e : q / sz * sz + q % sz = q := by rw [Nat.mul_comm]; exact Nat.div_add_mod q sz
      rw [e] at h1 h2
      exact ⟨u, h1, h2, h3.oneCell⟩
    have hlen : us.length = k * sz := by simp [us]
    refine ⟨a, cap, us, fun _ _ _ => False, hv, ⟨hlen, fun i j hi hj => ?_, fun i j i' j' x _ _ _ _ h => h.elim⟩, fun _ => ⟨b, off, ha, fun j u hu => ?_⟩, fun u hu => ?_, fun i j x _ _ h => h.elim⟩
    · obtain ⟨u, h1, _, h3⟩ := hus i j hi hj
      exact ⟨u, h1, h3⟩
    · have hj : j < us.length := (List.getElem?_eq_some_iff.1 hu).1
      obtain ⟨u', h1, h2, _⟩ := hq j (by omega)
      rw [hu] at h1; cases h1; exact h2
    · obtain ⟨q, hql, rfl⟩ := List.mem_iff_getElem.1 hu
      obtain ⟨u', h1, _, h3⟩ := hq q (by omega)
      rw [List.getElem?_eq_getElem hql] at h1; cases h1; exact h3
theorem srcOf_spec {Hs : Nat → Option Ob} {sz k : Nat} {av : AV} {get : Nat → Nat → C} {gone : List Nat} {ob : Prop} {v : Value} (h : srcOf Hs sz av = some (k, get, gone, ob)) (hob : ob) (hok : HeapOK n0 H m w)
    (hsub : Agree H Hs) (hgone : ∀ g ∈ gone, (H.lookup g).isSome = true) (hr : AVRep H m w av v) :
    ∃ a cap us G, v = .slice a k cap ∧ RowsOwn w k sz get us G ∧ (0 < k → ∃ b off, a = some ⟨b, off, none⟩ ∧ ∀ (j : Nat) (u : Value), us[j]? = some u → w.cell? ⟨b, off + j, none⟩ = some u) ∧ (∀ u ∈ us, u.oneCell' = true) ∧
      ∀ i j x, i < k → j < sz → G i j x → ∃ g ∈ gone, m.foot g x := by
  have owned : ∀ id, gone = [id] → (H.lookup id).isSome = true → v = m.val id → OwnC w (.seq k sz get) (m.foot id) (m.val id) → ∃ a cap us G, v = .slice a k cap ∧ RowsOwn w k sz get us G ∧ (0 < k → ∃ b off, a = some ⟨b, off, none⟩ ∧ ∀ (j : Nat) (u : Value), us[j]? = some u → w.cell? ⟨b, off + j, none⟩ = some u) ∧ (∀ u ∈ us, u.oneCell' = true) ∧
      ∀ i j x, i < k → j < sz → G i j x → ∃ g ∈ gone, m.foot g x := by
    intro id hg ha hv hown
    rcases hown with ⟨h1, hz⟩ | ⟨b, cap, cur, E, fr, h1, rest⟩
    · subst hz
      exact ⟨none, 0, [], fun _ _ _ => False, by rw [hv, h1], ⟨by simp, fun i j hi => by omega, fun i j i' j' x hi => by omega⟩, fun h => by omega, by simp, fun i j x hi => by omega⟩
    · obtain ⟨cur, E, fr, G, hn, hfr, hb, hs, hFb, hrows, hG⟩ := OwnC.rows (.inr ⟨b, cap, cur, E, fr, h1, rest⟩) h1
      refine ⟨_, cap, _, G, by rw [hv, h1], hrows, fun _ => ⟨b, 0, rfl, fun j u hu => ?_⟩, fun u hu => ?_, fun i j x hi hj hx => ⟨id, by rw [hg]; simp, (hG i j x hi hj hx).1⟩⟩
      · rw [cell_of_row w b _ cur E fr hb, Nat.zero_add]
        rw [List.getElem?_take] at hu
        split at hu
        · simpa using hu
        · cases hu
      · obtain ⟨q, hq, rfl⟩ := List.mem_iff_getElem.1 hu
        have hql : q < k * sz := by have := hrows.1; omega
        have hsz : 0 < sz := by
          rcases Nat.eq_zero_or_pos sz with h0 | h0
          · rw [h0] at hql; simp at hql
          · exact h0
        have hi : q / sz < k := (Nat.div_lt_iff_lt_mul hsz).2 hql
        have hj : q % sz < sz := Nat.mod_lt _ hsz
        obtain ⟨u', hu', ho⟩ := hrows.2.1 _ _ hi hj
        have e : q / sz * sz + q % sz = q := by rw [Nat.mul_comm]; exact Nat.div_add_mod q sz
        rw [e, List.getElem?_eq_getElem hq] at hu'
        cases hu'
        exact ho.oneCell
  unfold srcOf at h
  split at h
  · cases h
    have hv : v = .slice none 0 0 := hr
    exact ⟨none, 0, [], fun _ _ _ => False, hv, ⟨by simp, fun i j hi => by omega, fun i j i' j' x hi => by omega⟩, fun h => by omega, by simp, fun i j x hi => by omega⟩
  · rename_i m2 sz2 get2
    split at h
    · rename_i hsz
      cases h
      subst hsz
      obtain ⟨a, cap, us, G, h1, h2, h3, h4, h5⟩ := srcView hob hr
      exact ⟨a, cap, us, G, h1, h2, h3, h4, fun i j x hi hj hx => (h5 i j x hi hj hx).elim⟩
    · cases h
  · rename_i id _ _ _
    split at h
    · rename_i m2 sz2 get2 hobj
      split at h
      · rename_i hsz
        cases h
        subst hsz
        have ha := hgone id (by simp)
        obtain ⟨_, hv⟩ := hr
        obtain ⟨ob', hl⟩ := Option.isSome_iff_exists.1 ha
        cases hsub id ob' _ hl hobj
        exact owned id rfl ha (hv ha) (hok.ob id _ hl)
      · cases h
    · cases h
  · rename_i id
    split at h
    · rename_i d2 m2 sz2 get2 hobj
      split at h
      · rename_i hsz
        cases h
        subst hsz
        obtain ⟨ha, hA, hv⟩ := hr
        obtain ⟨ob', hl⟩ := Option.isSome_iff_exists.1 ha
        cases hsub id ob' _ hl hobj
        exact owned id rfl ha hv (hok.ob id _ hl).1
      · cases h
    · cases h
  · cases h
theorem srcH_spec {h : Hint} {Hs : Nat → Option Ob} {sz k : Nat} {av : AV} {get : Nat → Nat → C} {gone : List Nat} {ob : Prop} {v : Value} (hs : srcH h Hs sz av = some (k, get, gone, ob)) (hob : ob) (hok : HeapOK n0 H m w)
    (hsub : Agree H Hs) (hgone : ∀ g ∈ gone, (H.lookup g).isSome = true) (hr : AVRep H m w av v) :
    ∃ a cap us G, v = .slice a k cap ∧ RowsOwn w k sz get us G ∧ (0 < k → ∃ b off, a = some ⟨b, off, none⟩ ∧ ∀ (j : Nat) (u : Value), us[j]? = some u → w.cell? ⟨b, off + j, none⟩ = some u) ∧ (∀ u ∈ us, u.oneCell' = true) ∧
      ∀ i j x, i < k → j < sz → G i j x → ∃ g ∈ gone, m.foot g x := by
  unfold srcH at hs
  split at hs
  case isFalse => exact srcOf_spec hs hob hok hsub hgone hr
  unfold srcK at hs
  split at hs
  · split at hs
    · rename_i hsz
      cases hs
      subst hsz
      obtain ⟨a, cap, us, G, h1, h2, h3, h4, h5⟩ := srcView hob hr.1
      exact ⟨a, cap, us, G, h1, h2, h3, h4, fun i j x hi hj hx => (h5 i j x hi hj hx).elim⟩
    · cases hs
  · rename_i id
    split at hs
    · rename_i d2 m2 sz2 get2 hobj
      split at hs
      · rename_i hsz
        cases hs
        subst hsz
        obtain ⟨ha, hA, hv⟩ := hr
        obtain ⟨ob', hl⟩ := Option.isSome_iff_exists.1 ha
        cases hsub id ob' _ hl hobj
        have hown : OwnC w (.seq k sz2 get) (m.foot id) (m.val id) := (hok.ob id _ hl).1
        rw [← hv] at hown
        obtain ⟨a, cap, us, G, h1, h2, h3, h4, h5⟩ := srcView (av := fun _ _ => False) hob (OwnC.crep (fun _ _ _ h => h) hown)
        exact ⟨a, cap, us, G, h1, h2, h3, h4, fun i j x hi hj hx => (h5 i j x hi hj hx).elim⟩
      · cases hs
    · cases hs
  · cases hs
end Go.Fw
