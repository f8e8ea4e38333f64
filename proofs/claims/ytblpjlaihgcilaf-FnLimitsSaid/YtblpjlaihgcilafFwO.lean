
import Derived.Test.YtblpjlaihgcilafFwD
namespace Go.Fw
open Go Go.RowKit
def X.ids : X → List Nat
  | .ptr id _ => [id]
  | .arr id => [id]
  | .elt id _ _ => [id]
  | .lst id _ _ _ => [id]
  | .clo _ ids => ids
  | .sub id _ _ => [id]
  | .fx id _ _ => [id]
  | _ => []
def TV.ids : TV → List Nat
  | .one x => x.ids
  | .agg xs => xs.flatMap X.ids
def AV.ids : AV → List Nat
  | .v t => t.ids
  | .tup ts => ts.flatMap TV.ids
  | .undef => []
  | .prt id _ _ => [id]
def Ob.ids : Ob → List Nat
  | .box xs => xs.flatMap X.ids
  | _ => []
def X.hard : X → List Nat
  | .ptr id _ => [id]
  | .arr id => [id]
  | .elt id _ _ => [id]
  | .clo _ ids => ids
  | .sub id _ _ => [id]
  | _ => []
def TV.hard : TV → List Nat
  | .one x => x.hard
  | .agg xs => xs.flatMap X.hard
def AV.hard : AV → List Nat
  | .v t => t.hard
  | .tup ts => ts.flatMap TV.hard
  | .undef => []
  | .prt id _ _ => [id]
def Ob.hard : Ob → List Nat
  | .box xs => xs.flatMap X.hard
  | _ => []
def Agree (H : List (Nat × Ob)) (Hs : Nat → Option Ob) : Prop := ∀ id ob ob', H.lookup id = some ob → Hs id = some ob' → ob' = ob
def Ob.like : Ob → Ob → Prop
  | .ext _, .ext _ => True
  | .box _, .box _ => True
  | .arr d n sz g, .arr d' n' sz' g' => d = d' ∧ n = n' ∧ sz = sz' ∧ (d = true → ∀ i j, i < n → j < sz → isSeq (g' i j) = isSeq (g i j))
  | .lst n sz g, ob => ob = .lst n sz g
  | _, _ => False
theorem Ob.like_refl (ob : Ob) : ob.like ob := by cases ob <;> first | trivial | rfl | exact ⟨rfl, rfl, rfl, fun _ _ _ _ _ => rfl⟩
structure Step (n0 : Nat → Prop) (news gone : List Nat) (H : List (Nat × Ob)) (m : Mem) (w : World) (H' : List (Nat × Ob)) (m' : Mem) (w' : World) : Prop where
  below : BelowK n0 w w'
  cells : ∀ b o u, w.cell? ⟨b, o, none⟩ = some u → ¬ avOf H m b o → w'.cell? ⟨b, o, none⟩ = some u ∧ ¬ avOf H' m' b o
  vals : ∀ id, id ∉ news → m'.val id = m.val id
  subs : ∀ id, id ∉ news → m'.sub id = m.sub id
  keep : ∀ id ob, H.lookup id = some ob → id ∉ news → id ∉ gone → ∃ ob', H'.lookup id = some ob' ∧ ob.like ob'
  back : ∀ id, (H'.lookup id).isSome = true → id ∉ news → (H.lookup id).isSome = true
theorem Step.crep {n0 news gone H m w H' m' w'} (h : Step n0 news gone H m w H' m' w') {c : C} {v : Value} (hr : CRep w (avOf H m) c v) : CRep w' (avOf H' m') c v :=
  CRep.step h.cells hr
theorem Step.stays {n0 news gone H m w H' m' w'} (h : Step n0 news gone H m w H' m' w') {id : Nat} (hn : id ∉ news) (hg : id ∉ gone) (ha : (H.lookup id).isSome = true) : (H'.lookup id).isSome = true := by
  obtain ⟨ob, hob⟩ := Option.isSome_iff_exists.1 ha
  obtain ⟨ob', h1, _⟩ := h.keep id ob hob hn hg
  rw [h1]; rfl
theorem Step.xrep {n0 news gone H m w H' m' w'} (h : Step n0 news gone H m w H' m' w') {x : X} {v : Value} (hn : ∀ id ∈ x.ids, id ∉ news) (hg : ∀ id ∈ x.hard, id ∉ gone) (hr : XRep H m w x v) : XRep H' m' w' x v := by
  cases x with
  | c c => exact h.crep hr
  | nils => exact hr
  | ptr id off =>
    obtain ⟨ha, b, hv, rfl⟩ := hr
    have hid := hn id (by simp [X.ids])
    exact ⟨h.stays hid (hg id (by simp [X.hard])) ha, b, by rw [h.vals id hid, hv], rfl⟩
  | arr id =>
    obtain ⟨ha, hA, rfl⟩ := hr
    have hid := hn id (by simp [X.ids])
    have hgd := hg id (by simp [X.hard])
    refine ⟨h.stays hid hgd ha, ?_, (h.vals id hid).symm⟩
    obtain ⟨ob, hob⟩ := Option.isSome_iff_exists.1 ha
    rw [hob] at hA
    obtain ⟨ob', h1, h2⟩ := h.keep id ob hob hid hgd
    rw [h1]
    cases ob <;> first | exact hA.elim | skip
    cases ob' <;> first | exact h2.elim | trivial
  | elt id i off =>
    obtain ⟨d, n, sz, g, b, cap, hl, hi, hv, rfl⟩ := hr
    have hid := hn id (by simp [X.ids])
    have ha : (H.lookup id).isSome = true := by rw [hl]; rfl
    obtain ⟨ob', h1, h2⟩ := h.keep id _ hl hid (hg id (by simp [X.hard]))
    cases ob' <;> first | exact h2.elim | skip
    rename_i d' n' sz' g'
    obtain ⟨rfl, rfl, rfl, _⟩ := h2
    exact ⟨_, _, _, g', b, cap, h1, hi, by rw [h.vals id hid, hv], rfl⟩
  | fx id j c =>
    obtain ⟨h1, h2⟩ := hr
    exact ⟨by rw [h.subs id (hn id (by simp [X.ids]))]; exact h1, h.crep h2⟩
  | sub id i j =>
    obtain ⟨n, sz, g, hl, hi, hj, hs, rfl⟩ := hr
    have hid := hn id (by simp [X.ids])
    have ha : (H.lookup id).isSome = true := by rw [hl]; rfl
    obtain ⟨ob', h1, h2⟩ := h.keep id _ hl hid (hg id (by simp [X.hard]))
    cases ob' <;> first | exact h2.elim | skip
    rename_i d' n' sz' g'
    obtain ⟨rfl, rfl, rfl, h3⟩ := h2
    exact ⟨_, _, g', h1, hi, hj, by rw [h3 rfl i j hi hj]; exact hs, by rw [h.subs id hid]⟩
  | lst id n sz get =>
    obtain ⟨hc, hv⟩ := hr
    have hid := hn id (by simp [X.ids])
    exact ⟨h.crep hc, fun ha => by have hb := h.back id ha hid; rw [h.vals id hid]; exact hv hb⟩
  | clo f ids =>
    obtain ⟨ha, rfl⟩ := hr
    have hid : ∀ id ∈ ids, id ∉ news := fun id hi => hn id (by simpa [X.ids] using hi)
    refine ⟨fun id hi => ⟨h.stays (hid id hi) (hg id (by simpa [X.hard] using hi)) (ha id hi).1, ?_⟩, ?_⟩
    · obtain ⟨h1, b, hb⟩ := ha id hi
      exact ⟨b, by rw [h.vals id (hid id hi), hb]⟩
    · congr 2
      exact List.map_congr_left fun id hi => (h.vals id (hid id hi)).symm
theorem Step.tvrep {n0 news gone H m w H' m' w'} (h : Step n0 news gone H m w H' m' w') {t : TV} {v : Value} (hn : ∀ id ∈ t.ids, id ∉ news) (hg : ∀ id ∈ t.hard, id ∉ gone) (hr : TVRep H m w t v) : TVRep H' m' w' t v := by
  cases t with
  | one x => exact h.xrep hn hg hr
  | agg xs =>
    obtain ⟨vs, rfl, hs, hx⟩ := hr
    refine ⟨vs, rfl, hs, fun j x hj => ?_⟩
    obtain ⟨u, hu, hr⟩ := hx j x hj
    exact ⟨u, hu, h.xrep (fun id hi => hn id (List.mem_flatMap.2 ⟨x, List.mem_of_getElem? hj, hi⟩)) (fun id hi => hg id (List.mem_flatMap.2 ⟨x, List.mem_of_getElem? hj, hi⟩)) hr⟩
theorem Step.avrep {n0 news gone H m w H' m' w'} (h : Step n0 news gone H m w H' m' w') {t : AV} {v : Value} (hn : ∀ id ∈ t.ids, id ∉ news) (hg : ∀ id ∈ t.hard, id ∉ gone) (hr : AVRep H m w t v) : AVRep H' m' w' t v := by
  cases t with
  | v t => exact h.tvrep hn hg hr
  | tup ts =>
    obtain ⟨vs, rfl, hs, hx⟩ := hr
    refine ⟨vs, rfl, hs, fun j x hj => ?_⟩
    obtain ⟨u, hu, hr⟩ := hx j x hj
    exact ⟨u, hu, h.tvrep (fun id hi => hn id (List.mem_flatMap.2 ⟨x, List.mem_of_getElem? hj, hi⟩)) (fun id hi => hg id (List.mem_flatMap.2 ⟨x, List.mem_of_getElem? hj, hi⟩)) hr⟩
  | undef => exact hr
  | prt id lo len =>
    obtain ⟨d, n, sz, g, b, cap, hl, hi, hv, rfl⟩ := hr
    have hid := hn id (by simp [AV.ids])
    obtain ⟨ob', h1, h2⟩ := h.keep id _ hl hid (hg id (by simp [AV.hard]))
    cases ob' <;> first | exact h2.elim | skip
    rename_i d' n' sz' g'
    obtain ⟨rfl, rfl, rfl, _⟩ := h2
    exact ⟨_, _, _, g', b, cap, h1, hi, by rw [h.vals id hid, hv], rfl⟩
def Drew (w w' : World) : Prop := w'.heap = w.heap ∧ w'.os = w.os ∧ w'.tape = w.tape ∧ w'.output = w.output
theorem Drew.refl (w : World) : Drew w w := ⟨rfl, rfl, rfl, rfl⟩
theorem Drew.drew (w : World) : Drew w w.drew := ⟨rfl, rfl, rfl, rfl⟩
theorem Drew.cell {w w' : World} (h : Drew w w') (a : Addr) : w'.cell? a = w.cell? a := by unfold World.cell?; rw [h.1]
theorem Drew.below {w w' : World} (h : Drew w w') (n : Nat → Prop) : BelowK n w w' := ⟨h.2.1, h.2.2.1, h.2.2.2, by rw [h.1]; exact Nat.le_refl _, fun k _ => by rw [h.1]⟩
theorem OwnC.heap {w w' : World} : ∀ {c : C} {F : Nat → Prop} {v : Value}, (∀ b, F b → w'.heap[b]? = w.heap[b]?) → OwnC w c F v → OwnC w' c F v := by
  intro c
  induction c with
  | seq n sz get ih =>
    intro F v hF h
    rcases h with h | ⟨b, cap, cur, E, fr, hv, hn, hm, hb, hs, hFb, G, hG, hd⟩
    · exact .inl h
    · refine   .inr ⟨b, cap, cur, E, fr, hv, hn, hm, by rw [hF b hFb]; exact hb, hs, hFb, G, fun i j hi hj => ?_, hd⟩
      obtain ⟨h1, u, hu, ho⟩ := hG i j hi hj
      exact ⟨h1, u, hu, ih i j (fun x hx => hF x (h1 x hx).1) ho⟩
  | int | bool | flt | str | niliface | err => intro F v _ h; exact h
  | fn => intro F v _ h; exact h
  | ptr | nilptr | nilfn => intro F v _ h; exact h.elim
theorem Step.drew {n0 : Nat → Prop} {H : List (Nat × Ob)} {m : Mem} {w w' : World} (h : Drew w w') : Step n0 [] [] H m w H m w' where
  below := h.below n0
  cells b o u hu hn := ⟨by rw [h.cell]; exact hu, hn⟩
  vals _ _ := rfl
  subs _ _ := rfl
  keep _ ob h _ _ := ⟨ob, h, ob.like_refl⟩
  back _ h _ := h
theorem HeapOK.drew {n0 : Nat → Prop} {H : List (Nat × Ob)} {m : Mem} {w w' : World} (h : Drew w w') (hok : HeapOK n0 H m w) : HeapOK n0 H m w' where
  ob id ob hl := by
    have := hok.ob id ob hl
    cases ob with
    | box xs =>
      obtain ⟨b, cur, E, hv, hb, hs, hf, hx⟩ := this
      refine ⟨b, cur, E, hv, by rw [h.1]; exact hb, hs, hf, fun j x hj => ?_⟩
      obtain ⟨u, hu, hr⟩ := hx j x hj
      exact ⟨u, hu, (Step.drew (n0 := n0) h).xrep (by simp) (by simp) hr⟩
    | arr d n sz g => exact ⟨OwnC.heap (fun b _ => by rw [h.1]) this.1, fun hd i j hi hj hs => by
        obtain ⟨b, h1, h2⟩ := this.2 hd i j hi hj hs
        exact ⟨b, h1, by rw [h.cell]; exact h2⟩⟩
    | lst n sz g => exact OwnC.heap (fun b _ => by rw [h.1]) this
    | ext p => exact ExtRep.heap (fun b _ => by rw [h.1]) this
  lo id b ha hf := by rw [h.1]; exact hok.lo id b ha hf
  apart := hok.apart
end Go.Fw
