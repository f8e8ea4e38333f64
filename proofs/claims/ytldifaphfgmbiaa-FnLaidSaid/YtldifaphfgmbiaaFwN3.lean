/- One operation, part 8: constants, structs that are built, variables that are made. -/
import Derived.Test.YtldifaphfgmbiaaFwN2
import Derived.Laws.Tables
namespace Go.Fw
open Go Go.RowKit

variable {P : Program} {n0 : Nat → Prop} {H : List (Nat × Ob)} {m : Mem} {w : World}

theorem constX_rep {v : Value} {x : X} (h : constX v = some x) : XRep H m w x v ∧ x.ids = [] ∧ v.cells = #[v] := by
  unfold constX at h
  split at h
  · cases h; exact ⟨rfl, rfl, rfl⟩
  · cases h; exact ⟨rfl, rfl, rfl⟩
  · split at h
    · rename_i hb; cases h; exact ⟨⟨_, rfl, hb, rfl⟩, rfl, rfl⟩
    · cases h
  · cases h; exact ⟨rfl, rfl, rfl⟩
  · cases h; exact ⟨rfl, rfl, rfl⟩
  · cases h; exact ⟨rfl, rfl, rfl⟩
  · cases h; exact ⟨rfl, rfl, rfl⟩
  · cases h; exact ⟨rfl, rfl, rfl⟩
  · cases h

/-- Cells that read so, one by one. -/
def XsRep (H : List (Nat × Ob)) (m : Mem) (w : World) (xs : List X) (cs : Array Value) : Prop :=
  cs.size = xs.length ∧ ∀ (j : Nat) (x : X), xs[j]? = some x → ∃ u, cs[j]? = some u ∧ XRep H m w x u

theorem constXs_rep {l : List Value} : ∀ {xs : List X}, constXs l = some xs → XsRep H m w xs l.toArray ∧ ∀ x ∈ xs, x.ids = [] := by
  induction l with
  | nil => intro xs h; cases h; exact ⟨⟨rfl, fun j x hj => by simp at hj⟩, by simp⟩
  | cons v l ih =>
    intro xs h
    unfold constXs at h
    split at h
    · rename_i x xs' hx hxs
      cases h
      obtain ⟨⟨h1, h2⟩, h3⟩ := ih hxs
      have hv := constX_rep (H := H) (m := m) (w := w) hx
      refine ⟨⟨by simp at h1 ⊢; exact h1, fun j y hj => ?_⟩, ?_⟩
      · cases j with
        | zero => simp at hj; subst hj; exact ⟨v, by simp, hv.1⟩
        | succ j =>
          simp at hj
          obtain ⟨u, hu, hr⟩ := h2 j y hj
          exact ⟨u, by simpa using hu, hr⟩
      · intro y hy
        simp at hy
        rcases hy with rfl | hy
        · exact hv.2.1
        · exact h3 y hy
    · cases h

theorem constAV_rep {v : Value} {av : AV} (h : constAV v = some av) : AVRep H m w av v ∧ av.ids = [] := by
  have one : (constX v).map (fun x => AV.v (.one x)) = some av → AVRep H m w av v ∧ av.ids = [] := by
    intro h
    simp only [Option.map_eq_some_iff] at h
    obtain ⟨x, hx, rfl⟩ := h
    have := constX_rep (H := H) (m := m) (w := w) hx
    exact ⟨this.1, this.2.1⟩
  cases v <;> first | exact one h | skip
  rename_i cs
  simp only [constAV, Option.map_eq_some_iff] at h
  obtain ⟨xs, hx, rfl⟩ := h
  obtain ⟨⟨h1, h2⟩, h3⟩ := constXs_rep (H := H) (m := m) (w := w) hx
  refine ⟨⟨cs, rfl, by simpa using h1, fun j x hj => by simpa using h2 j x hj⟩, ?_⟩
  simp only [AV.ids, TV.ids, List.flatMap_eq_nil_iff]
  exact h3

/-- A slice that lies in a deep array's cell owns what it leads to. -/
theorem sub_own (hok : HeapOK n0 H m w) {id i j n sz : Nat} {g : Nat → Nat → C} (hl : H.lookup id = some (.arr true n sz g)) (hi : i < n) (hj : j < sz) (hs : isSeq (g i j) = true) :
    ∃ (b cap : Nat) (cur : Array Value) (E : TypeId) (fr : Nat × Nat) (G : Nat → Nat → Nat → Prop), m.val id = .slice (some ⟨b, 0, none⟩) n cap ∧ n ≤ cap ∧ okFr fr cur.size ∧ w.heap[b]? = some (.cells cur E fr) ∧ cur.size = cap * sz ∧ m.foot id b ∧
      (∀ i j, i < n → j < sz → (∀ x, G i j x → m.foot id x ∧ x ≠ b) ∧ ∃ u, cur[i * sz + j]? = some u ∧ OwnC w (g i j) (G i j) u) ∧
      (∀ i j i' j' x, i < n → j < sz → i' < n → j' < sz → G i j x → G i' j' x → i = i' ∧ j = j') ∧ OwnC w (g i j) (G i j) (m.sub id (i * sz + j)) := by
  have hob := hok.ob id _ hl
  have hown : OwnC w (.seq n sz g) (m.foot id) (m.val id) := hob.1
  rcases hown with ⟨_, hz⟩ | ⟨b, cap, cur, E, fr, hv, hn, hfr, hb, hcs, hFb, G, hG, hd⟩
  · omega
  · refine ⟨b, cap, cur, E, fr, G, hv, hn, hfr, hb, hcs, hFb, hG, hd, ?_⟩
    obtain ⟨_, u, hu, ho⟩ := hG i j hi hj
    obtain ⟨b2, h1, h2⟩ := hob.2 rfl i j hi hj hs
    rw [hv] at h1
    simp [Value.blk] at h1
    subst h1
    rw [cell_of_row w b _ cur E fr hb, hu] at h2
    cases h2
    exact ho
/-- The slices in the cells, as they lie now. -/
def subOf (w : World) (v : Value) (o : Nat) : Value :=
  match Value.blk v with
  | some b => (w.cell? ⟨b, o, none⟩).getD undef
  | none => undef
theorem own_subs {n sz : Nat} {g : Nat → Nat → C} {F : Nat → Prop} {v : Value} (h : OwnC w (.seq n sz g) F v) : ∀ i j, i < n → j < sz → ∃ b, Value.blk v = some b ∧ w.cell? ⟨b, i * sz + j, none⟩ = some (subOf w v (i * sz + j)) := by
  intro i j hi hj
  rcases h with ⟨_, hz⟩ | ⟨b, cap, cur, E, fr, hv, hn, hfr, hb, hcs, hFb, G, hG, hd⟩
  · omega
  · obtain ⟨_, u, hu, _⟩ := hG i j hi hj
    have hc : w.cell? ⟨b, i * sz + j, none⟩ = some u := by rw [cell_of_row w b _ cur E fr hb]; exact hu
    refine ⟨b, by rw [hv]; rfl, ?_⟩
    rw [hc, hv]
    simp [subOf, Value.blk, hc]
theorem seq_slice {c : C} {F : Nat → Prop} {v : Value} (hs : isSeq c = true) (h : OwnC w c F v) : ∃ a n cap, v = .slice a n cap := by
  cases c <;> simp [isSeq] at hs
  rcases h with ⟨rfl, _⟩ | ⟨b, cap, _, _, _, rfl, _⟩ <;> exact ⟨_, _, _, rfl⟩

theorem XRep.cells {x : X} {v : Value} (hok : HeapOK n0 H m w) (h : XRep H m w x v) : v.cells = #[v] := by
  cases x with
  | c c =>
    cases c with
    | int | bool | str | nilptr | nilfn | niliface => have : v = _ := h; subst this; rfl
    | flt => obtain ⟨b, rfl, _⟩ := h; rfl
    | seq => obtain ⟨a, cap, rfl, _⟩ := h; rfl
    | ptr => obtain ⟨b, off, rfl, _⟩ := h; rfl
    | fn => obtain ⟨cs, rfl, _⟩ := h; rfl
  | nils => have : v = _ := h; subst this; rfl
  | ptr => obtain ⟨_, b, _, rfl⟩ := h; rfl
  | elt => obtain ⟨_, _, _, _, _, _, _, _, _, rfl⟩ := h; rfl
  | fx id j c =>
    obtain ⟨_, h⟩ := h
    cases c with
    | int | bool | str | nilptr | nilfn | niliface => have : v = _ := h; subst this; rfl
    | flt => obtain ⟨b, rfl, _⟩ := h; rfl
    | seq => obtain ⟨a, cap, rfl, _⟩ := h; rfl
    | ptr => obtain ⟨b, off, rfl, _⟩ := h; rfl
    | fn => obtain ⟨cs, rfl, _⟩ := h; rfl
  | sub =>
    obtain ⟨_, _, _, hl, hi, hj, hs, rfl⟩ := h
    obtain ⟨_, _, _, _, _, _, _, _, _, _, _, _, _, _, ho⟩ := sub_own hok hl hi hj hs
    obtain ⟨a, k, cap, e⟩ := seq_slice hs ho
    rw [e]; rfl
  | lst => obtain ⟨⟨a, cap, rfl, _⟩, _⟩ := h; rfl
  | clo => obtain ⟨_, rfl⟩ := h; rfl
  | arr id =>
    obtain ⟨ha, hA, rfl⟩ := h
    obtain ⟨ob, hl⟩ := Option.isSome_iff_exists.1 ha
    have hr := hok.ob id ob hl
    rw [hl] at hA
    cases ob with
    | box => exact hA.elim
    | lst => exact hA.elim
    | arr d n sz g =>
      have hown : OwnC w (.seq n sz g) (m.foot id) (m.val id) := hr.1
      rcases hown with ⟨hv, _⟩ | ⟨b, cap, cur, E, fr, hv, _⟩ <;> rw [hv] <;> rfl

theorem TVRep.cells {t : TV} {v : Value} (hok : HeapOK n0 H m w) (h : TVRep H m w t v) : XsRep H m w t.cells v.cells := by
  cases t with
  | one x =>
    rw [XRep.cells hok h]
    refine ⟨rfl, fun j y hj => ?_⟩
    cases j with
    | zero => simp [TV.cells] at hj; subst hj; exact ⟨v, rfl, h⟩
    | succ j => simp [TV.cells] at hj
  | agg xs =>
    obtain ⟨vs, rfl, h1, h2⟩ := h
    exact ⟨h1, h2⟩

theorem zeroXs_rep {t : TypeId} {xs : List X} (h : zeroXs P t = some xs) : ∃ i z, P.info? t = some i ∧ i.zero = some z ∧ XsRep H m w xs z.cells ∧ ∀ x ∈ xs, x.ids = [] := by
  unfold zeroXs at h
  split at h
  · rename_i i hi
    split at h
    · rename_i z hz
      have := constXs_rep (H := H) (m := m) (w := w) h
      exact ⟨i, z, hi, hz, by simpa using this.1, this.2⟩
    · cases h
  · cases h

/-! ### Structs that are built -/
theorem foldl_set (off : Nat) (l : List Value) : ∀ (k : Nat) (cs : Array Value), ((l.zipIdx k).foldl (fun cs (p : Value × Nat) => cs.setIfInBounds (off + p.2) p.1) cs).size = cs.size ∧
    ∀ i, off + k + l.length ≤ cs.size → ((l.zipIdx k).foldl (fun cs (p : Value × Nat) => cs.setIfInBounds (off + p.2) p.1) cs)[i]? = if off + k ≤ i ∧ i < off + k + l.length then l[i - off - k]? else cs[i]? := by
  induction l with
  | nil => intro k cs; exact ⟨rfl, fun i _ => by simp; intro h1 h2; omega⟩
  | cons v l ih =>
    intro k cs
    obtain ⟨h1, h2⟩ := ih (k + 1) (cs.setIfInBounds (off + k) v)
    simp only [List.zipIdx_cons, List.foldl_cons]
    refine ⟨by rw [h1]; simp, fun i hi => ?_⟩
    simp only [List.length_cons] at hi ⊢
    rw [h2 i (by simp; omega)]
    by_cases e : i = off + k
    · subst e
      rw [if_neg (by omega), if_pos (by omega), Array.getElem?_setIfInBounds_self]
      simp only [show off + k - off - k = 0 by omega, List.getElem?_cons_zero]
      rw [if_pos (by omega)]
    · by_cases h3 : off + (k + 1) ≤ i ∧ i < off + (k + 1) + l.length
      · rw [if_pos h3, if_pos (by omega)]
        have : i - off - k = (i - off - (k + 1)) + 1 := by omega
        rw [this, List.getElem?_cons_succ]
      · rw [if_neg h3, if_neg (by omega), Array.getElem?_setIfInBounds_ne (fun h => e h.symm)]

theorem fill_rep (place : Nat → Option (Nat × Nat)) : ∀ (ps : List (Nat × TV)) (vs : List (Nat × Value)) (xs ys : List X) (cs : Array Value), fillX place xs ps = some ys → XsRep H m w xs cs →
    (ps.length = vs.length ∧ ∀ (j : Nat) p, ps[j]? = some p → ∃ v, vs[j]? = some (p.1, v) ∧ XsRep H m w p.2.cells v.cells) →
    ∃ cs', Instr.fill place cs vs = some cs' ∧ XsRep H m w ys cs' := by
  intro ps
  induction ps with
  | nil =>
    intro vs xs ys cs h hx hp
    have : vs = [] := List.eq_nil_of_length_eq_zero hp.1.symm
    subst this
    cases h
    exact ⟨cs, rfl, hx⟩
  | cons p ps ih =>
    intro vs xs ys cs h hx hp
    obtain ⟨i, t⟩ := p
    cases vs with
    | nil => simp at hp
    | cons q vs =>
      obtain ⟨v, hv, hvx⟩ := hp.2 0 (i, t) rfl
      simp at hv
      subst hv
      unfold fillX at h
      split at h
      · cases h
      · rename_i off size hpl
        split at h
        · rename_i hle
          have hvs : v.cells.size = t.cells.length := hvx.1
          have hcs : cs.size = xs.length := hx.1
          have hf := foldl_set off v.cells.toList 0 cs
          refine ih vs _ ys (v.cells.zipIdx.foldl (fun cs (c, j) => cs.setIfInBounds (off + j) c) cs) h ⟨?_, fun j x hj => ?_⟩ ⟨by simpa using hp.1, fun j p hj => ?_⟩ |>.imp fun cs' hcs' => ⟨?_, hcs'.2⟩
          · rw [← Array.foldl_toList, Array.toList_zipIdx]
            have h1 := hf.1
            rw [h1]
            simp; omega
          · rw [← Array.foldl_toList, Array.toList_zipIdx]
            have h2 := hf.2 j (by simp; omega)
            simp only [Array.length_toList, Nat.add_zero, Nat.sub_zero] at h2
            rw [h2]
            rw [List.append_assoc, List.getElem?_append] at hj
            by_cases e1 : j < off
            · rw [if_neg (by omega)]
              rw [if_pos (by simp; omega), List.getElem?_take, if_pos e1] at hj
              exact hx.2 j x hj
            · rw [if_neg (by simp; omega)] at hj
              have e2 : (xs.take off).length = off := by simp; omega
              rw [e2, List.getElem?_append] at hj
              by_cases e3 : j - off < t.cells.length
              · rw [if_pos e3] at hj
                rw [if_pos (by omega)]
                obtain ⟨u, hu, hr⟩ := hvx.2 _ x hj
                exact ⟨u, by simpa using hu, hr⟩
              · rw [if_neg e3, List.getElem?_drop] at hj
                rw [if_neg (by omega)]
                have : off + t.cells.length + (j - off - t.cells.length) = j := by omega
                rw [this] at hj
                exact hx.2 j x hj
          · obtain ⟨v', hv', hr⟩ := hp.2 (j + 1) p (by simpa using hj)
            exact ⟨v', by simpa using hv', hr⟩
          · have hc : ¬ (v.cells.size ≠ size ∨ off + v.cells.size > cs.size) := by rw [hvs, hcs]; omega
            simp only [Instr.fill, hpl]
            rw [if_neg (by simpa using hc)]
            exact hcs'.1
        · cases h


theorem partsX_rep {ρ : Rho} {ev : Operand → Value} (hok : HeapOK n0 H m w) : ∀ {l : List (Nat × Operand)} {ps : List (Nat × TV)}, partsX ρ l = some ps → (∀ p ∈ l, ∀ av, ρ p.2 = some av → AVRep H m w av (ev p.2)) →
    ps.length = (l.map fun (i, x) => (i, ev x)).length ∧ ∀ (j : Nat) p, ps[j]? = some p → ∃ v, (l.map fun (i, x) => (i, ev x))[j]? = some (p.1, v) ∧ XsRep H m w p.2.cells v.cells := by
  intro l
  induction l with
  | nil => intro ps h _; cases h; exact ⟨rfl, fun j p hj => by simp at hj⟩
  | cons q l ih =>
    intro ps h hr
    obtain ⟨i, x⟩ := q
    unfold partsX at h
    split at h
    · rename_i t ps' hx hps
      cases h
      obtain ⟨h1, h2⟩ := ih hps (fun p hp => hr p (List.mem_cons_of_mem _ hp))
      refine ⟨by simpa using h1, fun j p hj => ?_⟩
      cases j with
      | zero =>
        simp at hj; subst hj
        exact ⟨ev x, by simp, TVRep.cells hok (hr (i, x) (by simp) _ hx)⟩
      | succ j =>
        obtain ⟨v, hv, hxr⟩ := h2 j p (by simpa using hj)
        exact ⟨v, by simpa using hv, hxr⟩
    · cases h

theorem evBuild_sound {ρ : Rho} {ev : Operand → Value} {t : TypeId} {parts : Array (Nat × Operand)} {E : Eff} (h : evBuild P ρ t parts.toList = some E) (hok : HeapOK n0 H m w)
    (hr : ∀ p ∈ parts.toList, ∀ av, ρ p.2 = some av → AVRep H m w av (ev p.2)) :
    Quiet P (Instr.build t (parts.map fun (i, x) => (i, ev x))) w H m E.av ∧ E.new = [] ∧ E.gone = [] := by
  unfold evBuild at h
  split at h
  · rename_i z pl ps hz hpl hps
    simp only [Option.map_eq_some_iff] at h
    obtain ⟨xs, hxs, rfl⟩ := h
    obtain ⟨it, zv, hi, hzv, hzr, _⟩ := zeroXs_rep (H := H) (m := m) (w := w) hz
    obtain ⟨cs', hf, hx⟩ := fill_rep _ ps _ z xs zv.cells hxs hzr (partsX_rep (ev := ev) hok hps hr)
    refine ⟨⟨.agg cs', w, ?_, Drew.refl w, cs', rfl, hx.1, hx.2⟩, rfl, rfl⟩
    refine run_build w t _ cs' ?_
    unfold placesT at hpl
    split at hpl
    · rename_i fs hu
      unfold Program.built
      simp only [hi, hu, hzv, hpl]
      rw [Array.toList_map]
      exact hf
    · cases hpl
  · cases h

/-! ### Variables that are made -/
theorem alloc_go {o : Oper} {a : Act} {E : Eff} {id : Nat} {xs : List X} {cs : Array Value} {t : TypeId} (hE : E = { av := .v (.one (.ptr id 0)), new := [(id, .box xs)] })
    (hrun : (execOp a.eval o).run P w = .ok (.value (.pointer (some ⟨w.heap.size, 0, none⟩))) (w.alloc (.cells cs t))) (hok : HeapOK n0 H m w) (hn0 : ∀ b, n0 b → b < w.heap.size)
    (hids : ∀ i ob, H.lookup i = some ob → id ∉ ob.ids) (hx : ∀ x ∈ xs, id ∉ x.ids) (hr : XsRep H m w xs cs) : OpGo P n0 o a w H m E := by
  subst hE
  obtain ⟨m', h1, h2, h3⟩ := add_box (n0 := n0) hok hn0 id xs cs t hids hx hr.1 hr.2
  unfold OpGo
  rw [hrun]
  have hh : Eff.heap { av := .v (.one (.ptr id 0)), new := [(id, .box xs)] } H = (id, .box xs) :: H := by simp [Eff.heap]
  simp only []
  rw [hh]
  refine ⟨m', h1, h2, ?_, w.heap.size, h3, rfl⟩
  simp

theorem run_zero {t : TypeId} {i : TypeInfo} {z : Value} (hi : P.info? t = some i) (hz : i.zero = some z) : (zeroValue t).run P w = .ok z w := by
  simp [zeroValue, typeInfo, hi, hz]

end Go.Fw
