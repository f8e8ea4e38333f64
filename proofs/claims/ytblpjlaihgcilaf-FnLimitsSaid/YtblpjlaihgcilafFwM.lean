
import Derived.Test.YtblpjlaihgcilafFwG
namespace Go.Fw
open Go Go.RowKit
variable {P : Program} {n0 : Nat → Prop} {H : List (Nat × Ob)} {m : Mem} {w w' : World}
theorem cell_below {w w' : World} {n : Nat} (h : Below n w w') {b o : Nat} (hb : b < n) : w'.cell? ⟨b, o, none⟩ = w.cell? ⟨b, o, none⟩ :=
  World.cell?_of_block (a := ⟨b, o, none⟩) (h.block b hb)
theorem fn_own {w w2 : World} {av : Av} {f m : Nat} {cap : Nat → C} {F : Nat → Prop} {v : Value} (hr : CRep w av (.fn f m cap) v) (hm : m = 0) : OwnC w2 (.fn f m cap) F v := by
  obtain ⟨cs, rfl, hs, _⟩ := hr
  subst hm
  have : cs = #[] := Array.eq_empty_of_size_eq_zero hs
  subst this
  exact ⟨rfl, rfl⟩
theorem OwnC.crep {w : World} {av : Av} : ∀ {c : C} {F : Nat → Prop} {v : Value}, (∀ b o, F b → ¬ av b o) → OwnC w c F v → CRep w av c v := by
  intro c
  induction c with
  | seq n sz get ih =>
    intro F v hF h
    rcases h with ⟨rfl, rfl⟩ | ⟨b, cap, cur, E, fr, hv, hn, _, hb, hs, hFb, G, hG, _⟩
    · exact ⟨none, 0, rfl, Nat.le_refl _, fun h => absurd h (by omega)⟩
    · refine ⟨_, cap, hv, hn, fun _ => ⟨b, 0, rfl, fun i j hi hj => ?_⟩⟩
      obtain ⟨h1, u, hu, ho⟩ := hG i j hi hj
      refine ⟨hF b _ hFb, u, ?_, ih i j (fun x o hx => hF x o (h1 x hx).1) ho⟩
      rw [cell_of_row w b _ cur E fr hb, Nat.zero_add]; exact hu
  | int | bool | flt | str | niliface | err => intro F v _ h; exact h
  | fn => intro F v _ h; obtain ⟨rfl, rfl⟩ := h; exact ⟨#[], rfl, rfl, fun j hj => absurd hj (Nat.not_lt_zero _)⟩
  | ptr | nilptr | nilfn => intro F v _ h; exact h.elim
theorem ObRep.blk {id : Nat} {ob : Ob} {b : Nat} (h : ObRep H m w id ob) (hb : Value.blk (m.val id) = some b) : m.foot id b := by
  cases ob with
  | ext p =>
    obtain ⟨⟨b', hv, hf⟩, _⟩ := h
    rw [hv] at hb; cases hb; exact hf
  | box xs =>
    obtain ⟨b', cur, E, hv, _, _, hf, _⟩ := h
    rw [hv] at hb; cases hb; exact hf
  | arr d n sz g =>
    rcases h.1 with ⟨hv, _⟩ | ⟨b', cap, cur, E, fr, hv, _, _, _, _, hf, _⟩
    · rw [hv] at hb; cases hb
    · rw [hv] at hb; cases hb; exact hf
  | lst n sz g =>
    rcases h with ⟨hv, _⟩ | ⟨b', cap, cur, E, fr, hv, _, _, _, _, hf, _⟩
    · rw [hv] at hb; cases hb
    · rw [hv] at hb; cases hb; exact hf
theorem ObRep.reach {id : Nat} {ob : Ob} {b : Nat} (h : ObRep H m w id ob) (hb : Fw.reach m id ob b) : m.foot id b := by
  cases ob with
  | ext p => exact hb
  | arr d n sz g =>
    cases d
    · exact h.blk hb
    · exact hb
  | box xs => exact h.blk hb
  | lst n sz g => exact h.blk hb
theorem ObRep.reach_blk {id : Nat} {ob : Ob} {b : Nat} (h : ObRep H m w id ob) (hb : Value.blk (m.val id) = some b) : Fw.reach m id ob b := by
  cases ob with
  | ext p => exact h.blk hb
  | arr d n sz g =>
    cases d
    · exact hb
    · exact h.blk hb
  | box xs => exact hb
  | lst n sz g => exact hb
theorem ObRep.step {H' : List (Nat × Ob)} {m' : Mem} {news : List Nat} {gone : List Nat} (hS : Step n0 news gone H m w H' m' w') {id : Nat} {ob : Ob} (hv : m'.val id = m.val id) (hf : ∀ b, m'.foot id b ↔ m.foot id b) (hsub : m'.sub id = m.sub id)
    (hids : ∀ i ∈ ob.ids, i ∉ news) (hgs : ∀ i ∈ ob.hard, i ∉ gone) (hblk : ∀ b, m.foot id b → w'.heap[b]? = w.heap[b]?) (h : ObRep H m w id ob) : ObRep H' m' w' id ob := by
  cases ob with
  | ext p =>
    show ExtRep w' p (m'.foot id) (m'.val id)
    rw [hv, show m'.foot id = m.foot id from funext fun b => propext (hf b)]
    exact ExtRep.heap hblk h
  | box xs =>
    obtain ⟨b, cur, E, h1, h2, h3, h4, h5⟩ := h
    refine ⟨b, cur, E, by rw [hv, h1], by rw [hblk b h4]; exact h2, h3, (hf b).2 h4, fun j x hj => ?_⟩
    obtain ⟨u, hu, hr⟩ := h5 j x hj
    exact ⟨u, hu, hS.xrep (fun i hi => hids i (List.mem_flatMap.2 ⟨x, List.mem_of_getElem? hj, hi⟩)) (fun i hi => hgs i (List.mem_flatMap.2 ⟨x, List.mem_of_getElem? hj, hi⟩)) hr⟩
  | arr d n sz g =>
    have h' : OwnC w' (.seq n sz g) (m.foot id) (m.val id) := OwnC.heap hblk h.1
    show OwnC w' _ (m'.foot id) (m'.val id) ∧ _
    rw [hv, hsub, show m'.foot id = m.foot id from funext fun b => propext (hf b)]
    refine ⟨h', fun hd i j hi hj hs => ?_⟩
    obtain ⟨b, h1, h2⟩ := h.2 hd i j hi hj hs
    exact ⟨b, h1, by rw [World.cell?_of_block (w := w) (a := ⟨b, i * sz + j, none⟩) (hblk b (h.blk h1))]; exact h2⟩
  | lst n sz g =>
    have h' : OwnC w' (.seq n sz g) (m.foot id) (m.val id) := OwnC.heap hblk h
    show OwnC w' _ (m'.foot id) (m'.val id)
    rw [hv, show m'.foot id = m.foot id from funext fun b => propext (hf b)]
    exact h'
theorem reach_same {m m' : Mem} {id : Nat} {ob : Ob} {b : Nat} (hv : m'.val id = m.val id) (hf : m'.foot id = m.foot id) : reach m' id ob b = reach m id ob b := by
  cases ob with
  | ext p => simp [reach, hf]
  | arr d n sz g => cases d <;> simp [reach, hv, hf]
  | box xs => simp [reach, hv]
  | lst n sz g => simp [reach, hv]
def Mem.add (m : Mem) (keys : List Nat) (val : Nat → Value) (foot : Nat → Nat → Prop) (sub : Nat → Nat → Value) : Mem where
  val id := if id ∈ keys then val id else m.val id
  foot id := if id ∈ keys then foot id else m.foot id
  sub id := if id ∈ keys then sub id else m.sub id
theorem lookup_keys {l : List (Nat × Ob)} {id : Nat} {ob : Ob} (h : l.lookup id = some ob) : id ∈ l.map (·.1) := by
  induction l with
  | nil => cases h
  | cons p l ih =>
    obtain ⟨k, o⟩ := p
    simp only [List.lookup_cons] at h
    split at h
    · rename_i e; simp at e; subst e; simp
    · exact List.mem_cons_of_mem _ (ih h)
theorem lookup_none {l : List (Nat × Ob)} {id : Nat} (h : id ∉ l.map (·.1)) : l.lookup id = none := by
  cases e : l.lookup id with
  | none => rfl
  | some ob => exact absurd (lookup_keys e) h
theorem lookup_some_of_key {l : List (Nat × Ob)} {id : Nat} (h : id ∈ l.map (·.1)) : ∃ ob, l.lookup id = some ob := by
  induction l with
  | nil => cases h
  | cons p l ih =>
    obtain ⟨k, o⟩ := p
    simp only [List.lookup_cons]
    split
    · exact ⟨o, rfl⟩
    · rename_i e
      simp only [List.map_cons, List.mem_cons] at h
      rcases h with rfl | h
      · simp at e
      · exact ih h
theorem add_objs (hb : Below w.heap.size w w') (hok : HeapOK n0 H m w) (hn0 : ∀ b, n0 b → b < w.heap.size) (new : List (Nat × Ob)) (val : Nat → Value) (foot : Nat → Nat → Prop) (sub : Nat → Nat → Value)
    (hids : ∀ id ob, H.lookup id = some ob → ∀ i ∈ ob.ids, i ∉ new.map (·.1))
    (hlo : ∀ id b, id ∈ new.map (·.1) → foot id b → w.heap.size ≤ b ∧ b < w'.heap.size)
    (hap : ∀ id id' b, id ∈ new.map (·.1) → id' ∈ new.map (·.1) → foot id b → foot id' b → id = id')
    (hrep : Step n0 (new.map (·.1)) [] H m w (new ++ H) (m.add (new.map (·.1)) val foot sub) w' → ∀ id ob, new.lookup id = some ob → ObRep (new ++ H) (m.add (new.map (·.1)) val foot sub) w' id ob)
    (hblk : ∀ id ob b, new.lookup id = some ob → reach (m.add (new.map (·.1)) val foot sub) id ob b → w.heap.size ≤ b) :
    HeapOK n0 (new ++ H) (m.add (new.map (·.1)) val foot sub) w' ∧ Step n0 (new.map (·.1)) [] H m w (new ++ H) (m.add (new.map (·.1)) val foot sub) w' := by
  have hval : ∀ id, id ∉ new.map (·.1) → (m.add (new.map (·.1)) val foot sub).val id = m.val id := fun id hi => by simp only [Mem.add, if_neg hi]
  have hsubs : ∀ id, id ∉ new.map (·.1) → (m.add (new.map (·.1)) val foot sub).sub id = m.sub id := fun id hi => by simp only [Mem.add, if_neg hi]
  have hfoot : ∀ id, id ∉ new.map (·.1) → (m.add (new.map (·.1)) val foot sub).foot id = m.foot id := fun id hi => by simp only [Mem.add, if_neg hi]
  have hval' : ∀ id, id ∈ new.map (·.1) → (m.add (new.map (·.1)) val foot sub).val id = val id := fun id hi => by simp only [Mem.add, if_pos hi]
  have hfoot' : ∀ id, id ∈ new.map (·.1) → (m.add (new.map (·.1)) val foot sub).foot id = foot id := fun id hi => by simp only [Mem.add, if_pos hi]
  have hlk : ∀ id, id ∉ new.map (·.1) → (new ++ H).lookup id = H.lookup id := fun id hi => by rw [List.lookup_append, lookup_none hi]; rfl
  have hlk' : ∀ id ob, new.lookup id = some ob → (new ++ H).lookup id = some ob := fun id ob h => by rw [List.lookup_append, h]; rfl
  have hS : Step n0 (new.map (·.1)) [] H m w (new ++ H) (m.add (new.map (·.1)) val foot sub) w' := by
    refine ⟨below_toK hb hn0, ?_, fun id hi => hval id hi, fun id hi => hsubs id hi, fun id ob h hi _ => ⟨ob, by rw [hlk id hi]; exact h, ob.like_refl⟩, fun id h hi => by rwa [hlk id hi] at h⟩
    intro b o u hu hav
    have hlt : b < w.heap.size := World.block_lt_of_cell? w ⟨b, o, none⟩ hu
    refine ⟨by rw [cell_below hb hlt]; exact hu, ?_⟩
    rintro ⟨id, ob, hl, hbk, hm⟩
    by_cases hi : id ∈ new.map (·.1)
    · obtain ⟨ob', ho'⟩ := lookup_some_of_key hi
      have e := hlk' id ob' ho'
      rw [e] at hl
      cases hl
      have := hblk id _ b ho' hbk
      omega
    · rw [hlk id hi] at hl
      rw [reach_same (hval id hi) (hfoot id hi)] at hbk
      exact hav ⟨id, ob, hl, hbk, hm⟩
  refine ⟨⟨fun id ob hl => ?_, fun id b ha hf => ?_, fun id id' b ha ha' hf hf' => ?_⟩, hS⟩
  · by_cases hi : id ∈ new.map (·.1)
    · obtain ⟨ob', ho'⟩ := lookup_some_of_key hi
      have := hlk' id ob' ho'
      rw [this] at hl
      cases hl
      exact hrep hS id _ ho'
    · rw [hlk id hi] at hl
      refine ObRep.step hS (hval id hi) (fun b => by rw [hfoot id hi]) (hsubs id hi) (hids id ob hl) (by simp) (fun b hf => ?_) (hok.ob id ob hl)
      exact hb.block b (hok.lo id b (by rw [hl]; rfl) hf).2
  · by_cases hi : id ∈ new.map (·.1)
    · rw [hfoot' id hi] at hf
      have := hlo id b hi hf
      exact ⟨fun hk => by have := hn0 b hk; omega, by omega⟩
    · rw [hlk id hi] at ha
      rw [hfoot id hi] at hf
      have := hok.lo id b ha hf
      have := hb.size
      exact ⟨(hok.lo id b ha hf).1, by omega⟩
  · by_cases hi : id ∈ new.map (·.1) <;> by_cases hi' : id' ∈ new.map (·.1)
    · rw [hfoot' id hi] at hf; rw [hfoot' id' hi'] at hf'
      exact hap id id' b hi hi' hf hf'
    · rw [hfoot' id hi] at hf; rw [hfoot id' hi'] at hf'
      rw [hlk id' hi'] at ha'
      have h1 := hlo id b hi hf
      have h2 := hok.lo id' b ha' hf'
      omega
    · rw [hfoot id hi] at hf; rw [hfoot' id' hi'] at hf'
      rw [hlk id hi] at ha
      have h1 := hlo id' b hi' hf'
      have h2 := hok.lo id b ha hf
      omega
    · rw [hfoot id hi] at hf; rw [hfoot id' hi'] at hf'
      rw [hlk id hi] at ha; rw [hlk id' hi'] at ha'
      exact hok.apart id id' b ha ha' hf hf'
theorem add_box (hok : HeapOK n0 H m w) (hn0 : ∀ b, n0 b → b < w.heap.size) (id : Nat) (xs : List X) (cur : Array Value) (E : TypeId)
    (hids : ∀ i ob, H.lookup i = some ob → id ∉ ob.ids) (hx : ∀ x ∈ xs, id ∉ x.ids)
    (hs : cur.size = xs.length) (hr : ∀ (j : Nat) (x : X), xs[j]? = some x → ∃ u, cur[j]? = some u ∧ XRep H m w x u) :
    ∃ m', HeapOK n0 ((id, .box xs) :: H) m' (w.alloc (.cells cur E)) ∧ Step n0 [id] [] H m w ((id, .box xs) :: H) m' (w.alloc (.cells cur E)) ∧ m'.val id = .pointer (some ⟨w.heap.size, 0, none⟩) := by
  have hb : Below w.heap.size w (w.alloc (.cells cur E)) := (Below.refl _ _).alloc (Nat.le_refl _) _
  have key := add_objs (w' := w.alloc (.cells cur E)) hb hok hn0 [(id, .box xs)] (fun _ => .pointer (some ⟨w.heap.size, 0, none⟩)) (fun _ b => b = w.heap.size) (fun _ _ => undef)
    (by intro i ob hl j hj; have := hids i ob hl; simp; rintro rfl; exact this hj)
    (by intro i b _ hf; subst hf; simp) (by intro i i' b h h' _ _; simp at h h'; rw [h, h'])
    (by
      intro hS i ob hl
      simp only [List.lookup_cons, List.lookup_nil] at hl
      split at hl
      · rename_i e
        simp at e
        cases hl
        subst e
        refine ⟨w.heap.size, cur, E, by simp [Mem.add], by rw [heap_alloc_new], hs, by simp [Mem.add], fun j x hj => ?_⟩
        obtain ⟨u, hu, hxr⟩ := hr j x hj
        exact ⟨u, hu, hS.xrep (by intro k hk; simp; rintro rfl; exact hx x (List.mem_of_getElem? hj) hk) (by simp) hxr⟩
      · cases hl)
    (by
      intro i ob b hl h
      simp only [List.lookup_cons, List.lookup_nil] at hl
      split at hl
      · rename_i e
        simp at e
        cases hl
        subst e
        simp [reach, Mem.add, Value.blk] at h
        omega
      · cases hl)
  exact ⟨_, key.1, key.2, by simp [Mem.add]⟩
end Go.Fw
