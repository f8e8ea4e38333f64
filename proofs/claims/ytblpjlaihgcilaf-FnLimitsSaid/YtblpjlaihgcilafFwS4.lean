
import Derived.Test.YtblpjlaihgcilafFwS3
namespace Go.Fw
open Go Go.RowKit
variable {P : Program} {n0 : Nat → Prop} {H : List (Nat × Ob)} {m : Mem} {w w' : World}
section
variable {Hs : Nat → Option Ob} {us : Option (Nat × (Nat → Nat → C))} {U : List Nat}
structure SlotsOK (H : List (Nat × Ob)) (m : Mem) (L : List Slot) (F : Nat → Nat → Nat → Prop) : Prop where
  cover : ∀ i j b, F i j b → ∃ s ∈ L, s.i = i ∧ s.j = j
  ok : ∀ s ∈ L, SlotOK H m s (F s.i s.j)
  uniq : ∀ s ∈ L, ∀ s' ∈ L, s.i = s'.i → s.j = s'.j → s = s'
theorem mutXs_spec (hok : HeapOK n0 H m w) (hsub : Agree H Hs) {i : Nat} : ∀ {xs : List X} {cs : List MC} {j : Nat} {L : List Slot} {ob : Prop} {vs : List Value}, mutXs Hs us i j xs cs = some (L, ob) → ob → (∀ a ∈ roXs Hs xs cs, a ∉ U) →
    vs.length = xs.length → (∀ (k : Nat) (x : X), xs[k]? = some x → ∃ u, vs[k]? = some u ∧ XRep H m w x u) →
    ∃ F : Nat → Nat → Prop, xs.length = cs.length ∧ (∀ (k : Nat) (c : MC), cs[k]? = some c → ∃ u, vs[k]? = some u ∧ MCRep w (avU H m U) (F (j + k)) c u) ∧
      (∀ k b, F k b → ∃ s ∈ L, s.i = i ∧ s.j = k) ∧ (∀ s ∈ L, s.i = i ∧ j ≤ s.j ∧ SlotOK H m s (F s.j)) ∧ (∀ s ∈ L, ∀ s' ∈ L, s.j = s'.j → s = s') ∧
      ∀ (w' : World) (F' : Nat → Nat → Prop), (∀ (k : Nat) (c : MC), cs[k]? = some c → ∀ u, vs[k]? = some u → MCPost w w' (F' (j + k)) c u) → (∀ s ∈ L, ∀ b, m.foot s.u b → ¬ F s.j b → w'.heap[b]? = w.heap[b]?) → (∀ s ∈ L, ∀ b, F' s.j b → m.foot s.u b → F s.j b) →
        ∀ s ∈ L, SlotPost H m w w' s (F s.j) (F' s.j) := by
  intro xs
  induction xs with
  | nil =>
    intro cs j L ob vs h _ _ _ _
    cases cs with
    | nil =>
      simp only [mutXs, Option.some.injEq, Prod.mk.injEq] at h
      obtain ⟨rfl, rfl⟩ := h
      exact ⟨fun _ _ => False, rfl, fun k c hk => by simp at hk, fun k b h => h.elim, by simp, by simp, by simp⟩
    | cons => simp [mutXs] at h
  | cons x xs ih =>
    intro cs j L ob vs h hob hU hl hv
    cases cs with
    | nil => simp [mutXs] at h
    | cons c cs =>
      cases vs with
      | nil => simp at hl
      | cons v vs =>
        simp only [mutXs] at h
        split at h
        · rename_i L1 p1 L2 p2 h1 h2
          simp only [Option.some.injEq, Prod.mk.injEq] at h
          obtain ⟨rfl, rfl⟩ := h
          obtain ⟨u, hu, hx⟩ := hv 0 x rfl
          simp at hu; subst hu
          obtain ⟨F0, a1, a2, a3, a4, a5⟩ := mutX_spec hok hsub (U := U) h1 hob.1 (fun a ha => hU a (List.mem_append_left _ ha)) hx
          obtain ⟨F, b0, b1, b2, b3, b4, b5⟩ := ih h2 hob.2 (fun a ha => hU a (List.mem_append_right _ ha)) (by simpa using hl) (fun k x hk => by simpa using hv (k + 1) x (by simpa using hk))
          have fj : ∀ s ∈ L1, s.j = j := fun s hs => (a3 s hs).2.1
          have fk : ∀ s ∈ L2, j + 1 ≤ s.j := fun s hs => (b3 s hs).2.1
          refine ⟨fun k => if k = j then F0 else F k, by simp [b0], fun k c' hk => ?_, fun k b hb => ?_, fun s hs => ?_, fun s hs s' hs' e => ?_, fun w' F' hp hkeep hF' s hs => ?_⟩
          · cases k with
            | zero => simp at hk; subst hk; exact ⟨v, rfl, by simpa using a1⟩
            | succ k =>
              obtain ⟨u, hu, hr⟩ := b1 k c' (by simpa using hk)
              refine ⟨u, by simpa using hu, ?_⟩
              have : ¬ j + (k + 1) = j := by omega
              simp only [if_neg this]
              rw [show j + (k + 1) = j + 1 + k by omega]; exact hr
          · dsimp only at hb
            split at hb
            · rename_i e
              obtain ⟨s, hs, e1, e2⟩ := a2 b hb
              exact ⟨s, List.mem_append_left _ hs, e1, by rw [e2, e]⟩
            · obtain ⟨s, hs, e1, e2⟩ := b2 k b hb
              exact ⟨s, List.mem_append_right _ hs, e1, e2⟩
          · rcases List.mem_append.1 hs with hs | hs
            · obtain ⟨e1, e2, e3⟩ := a3 s hs
              exact ⟨e1, by omega, by simp only [e2, ite_true]; exact e3⟩
            · obtain ⟨e1, e2, e3⟩ := b3 s hs
              have : ¬ s.j = j := by omega
              exact ⟨e1, by omega, by simp only [if_neg this]; exact e3⟩
          · rcases List.mem_append.1 hs with hs | hs <;> rcases List.mem_append.1 hs' with hs' | hs'
            · match L1, a4, hs, hs' with
              | [q], _, hs, hs' => simp at hs hs'; rw [hs, hs']
            · have := fj s hs; have := fk s' hs'; omega
            · have := fj s' hs'; have := fk s hs; omega
            · exact b4 s hs s' hs' e
          · rcases List.mem_append.1 hs with hs | hs
            · have e := fj s hs
              have := a5 w' (F' j) (by simpa using hp 0 c rfl v rfl) (fun s hs b hf hn => hkeep s (List.mem_append_left _ hs) b hf (by rw [fj s hs]; simpa using hn)) (fun s hs b hb hf => by
                have := hF' s (List.mem_append_left _ hs) b (by rw [fj s hs]; exact hb) hf
                rw [fj s hs] at this; simpa using this) s hs
              rw [e]; simpa using this
            · have hne : ∀ s ∈ L2, ¬ s.j = j := fun s hs => by have := fk s hs; omega
              have := b5 w' F' (fun k c' hk u hu => by
                have := hp (k + 1) c' (by simpa using hk) u (by simpa using hu)
                rw [show j + (k + 1) = j + 1 + k by omega] at this; exact this) (fun s hs b hf hn => hkeep s (List.mem_append_right _ hs) b hf (by simp only [if_neg (hne s hs)]; exact hn)) (fun s hs b hb hf => by
                have := hF' s (List.mem_append_right _ hs) b hb hf
                simp only [if_neg (hne s hs)] at this; exact this) s hs
              simp only [if_neg (hne s hs)]; exact this
        · cases h
theorem isScal_own {c : C} {v : Value} (h : isScal c = true) (ho : OwnC w c (fun _ => False) v) : CRep w' (avOf H m) c v := by
  cases c <;> simp [isScal] at h <;> exact ho
theorem mutA_spec (hok : HeapOK n0 H m w) (hsub : Agree H Hs) {i : Nat} {a : AV} {t : MT} {L : List Slot} {ob : Prop} {v : Value} (h : mutA Hs us i a t = some (L, ob)) (hob : ob) (hU : ∀ x ∈ roA Hs a t, x ∉ U) (hr : AVRep H m w a v) :
    ∃ F : Nat → Nat → Prop, MTRep w (avU H m U) F t v ∧ (∀ k b, F k b → ∃ s ∈ L, s.i = i ∧ s.j = k) ∧ (∀ s ∈ L, s.i = i ∧ SlotOK H m s (F s.j)) ∧ (∀ s ∈ L, ∀ s' ∈ L, s.j = s'.j → s = s') ∧
      ∀ (w' : World) (F' : Nat → Nat → Prop), MTPost w w' F' t v → (∀ s ∈ L, ∀ b, m.foot s.u b → ¬ F s.j b → w'.heap[b]? = w.heap[b]?) → (∀ s ∈ L, ∀ b, F' s.j b → m.foot s.u b → F s.j b) →
        ∀ s ∈ L, SlotPost H m w w' s (F s.j) (F' s.j) := by
  unfold mutA at h
  split at h
  · rename_i x c
    obtain ⟨F0, a1, a2, a3, a4, a5⟩ := mutX_spec hok hsub (U := U) h hob (fun q hq => hU q (by
      cases x <;> first | exact hq | skip)) hr
    have fj : ∀ s ∈ L, s.j = 0 := fun s hs => (a3 s hs).2.1
    refine ⟨fun k b => k = 0 ∧ F0 b, ?_, fun k b hb => ?_, fun s hs => ?_, fun s hs s' hs' _ => ?_, fun w' F' hp hkeep hF' s hs => ?_⟩
    · show MCRep w _ (fun b => 0 = 0 ∧ F0 b) c v
      simpa using a1
    · obtain ⟨rfl, hb⟩ := hb
      obtain ⟨s, hs, e1, e2⟩ := a2 b hb
      exact ⟨s, hs, e1, e2⟩
    · obtain ⟨e1, e2, e3⟩ := a3 s hs
      refine ⟨e1, ?_⟩
      simp only [e2, true_and]; exact e3
    · match L, a4, hs, hs' with
      | [q], _, hs, hs' => simp at hs hs'; rw [hs, hs']
    · have := a5 w' (F' 0) hp (fun s hs b hf hn => hkeep s hs b hf (fun h => hn h.2)) (fun s hs b hb hf => (hF' s hs b (by rw [fj s hs]; exact hb) hf).2) s hs
      rw [fj s hs]; simpa using this
  · rename_i xs cs
    obtain ⟨vs, rfl, h1, h2⟩ := hr
    obtain ⟨F, b0, b1, b2, b3, b4, b5⟩ := mutXs_spec hok hsub (U := U) (vs := vs.toList) h hob hU (by simpa using h1) (fun k x hk => by simpa using h2 k x hk)
    refine ⟨F, ⟨vs, rfl, by omega, fun k c hk => by simpa using b1 k c hk⟩, b2, fun s hs => ⟨(b3 s hs).1, (b3 s hs).2.2⟩, b4, fun w' F' hp hkeep hF' => ?_⟩
    exact b5 w' F' (fun k c hk u hu => by simpa using hp vs rfl k c hk u (by simpa using hu)) hkeep hF'
  · rename_i id k keep get get'
    split at h
    · rename_i xs e
      split at h
      · rename_i hc
        simp only [Option.some.injEq, Prod.mk.injEq] at h
        obtain ⟨rfl, rfl⟩ := h
        obtain ⟨hlen, hsc⟩ := hc
        obtain ⟨ha, b, hv, rfl⟩ := hr
        obtain ⟨ob0, hl⟩ := Option.isSome_iff_exists.1 ha
        cases hsub id ob0 _ hl e
        obtain ⟨b', cur, E, hv', hb, hcs, hf, hx⟩ := hok.ob id _ hl
        rw [hv'] at hv; cases hv
        obtain ⟨g1, g2⟩ := isCs_repU (U := U) hok hsub hob (fun x hx => hU x (by simp only [roA, e]; exact hx))
        simp only [List.all_eq_true, List.mem_range, Bool.or_eq_true] at hsc
        refine ⟨fun q x => q = 0 ∧ x = b, ⟨b, cur, E, rfl, hb, by omega, ⟨rfl, rfl⟩, fun j hj => ?_⟩, fun q x hq => ⟨_, List.mem_singleton.2 rfl, rfl, hq.1.symm⟩, fun s hs => ?_, fun s hs s' hs' _ => ?_, fun w' F' hp _ _ s hs => ?_⟩
        · have hj' : j < xs.length := by omega
          obtain ⟨u, hu, hxr⟩ := hx j xs[j] (List.getElem?_eq_getElem hj')
          exact ⟨u, hu, g2 j xs[j] (get j) (List.getElem?_eq_getElem hj') (by simp [hj]) u hxr⟩
        · simp at hs; subst hs
          refine ⟨rfl, _, hl, trivial, rfl, fun x hx => ?_⟩
          show Value.blk (m.val id) = some x
          rw [hv', hx.2]; rfl
        · simp at hs hs'; rw [hs, hs']
        · simp at hs; subst hs
          obtain ⟨p1, cur0, cur', E0, E', p2, p3, p4, p5⟩ := hp b rfl
          rw [hb] at p2
          cases p2
          refine fun _ => ⟨b, cur, cur', E, E', xs, hv', hb, p3, by rw [keepX_length]; omega, p1, hl, fun j y hj => ?_⟩
          have hjk : j < k := by have := (List.getElem?_eq_some_iff.1 hj).1; rw [keepX_length] at this; omega
          rcases keepX_get keep get' xs 0 j y hj with ⟨q1, q2⟩ | ⟨q1, q2⟩
          · rw [Nat.zero_add] at q1
            exact .inl ⟨q2, (p5 j hjk).1 q1⟩
          · rw [Nat.zero_add] at q1 q2
            obtain ⟨u, r1, r2⟩ := (p5 j hjk).2 q1
            refine .inr ⟨_, u, q2, ?_, r1, r2⟩
            have := hsc j hjk
            rw [q1] at this; simpa using this
      · cases h
    · cases h
  · rename_i id cs
    split at h
    · rename_i xs e
      split at h
      · rename_i L1 p1 h1
        split at h
        · rename_i hc
          simp only [Option.some.injEq, Prod.mk.injEq] at h
          obtain ⟨rfl, rfl⟩ := h
          obtain ⟨ha, b, hv, rfl⟩ := hr
          obtain ⟨ob0, hl⟩ := Option.isSome_iff_exists.1 ha
          cases hsub id ob0 _ hl e
          obtain ⟨b', cur, E, hv', hb, hcs, hf, hx⟩ := hok.ob id _ hl
          rw [hv'] at hv; cases hv
          obtain ⟨F, b0, b1, b2, b3, b4, b5⟩ := mutXs_spec hok hsub (U := U) (us := none) (i := i) (vs := cur.toList) h1 hob (fun x hx => hU x (by simp only [roA, e]; exact hx)) (by simpa using hcs) (fun k x hk => by simpa using hx k x hk)
          have hlen : xs.length = cs.length := by simpa using b0
          have hge : ∀ s ∈ L1, 1 ≤ s.j := fun s hs => (b3 s hs).2.1
          refine ⟨fun q x => if q = 0 then x = b else F q x, ⟨b, cur, E, rfl, hb, by omega, by simp, fun j c hj => ?_⟩, fun q x hq => ?_, fun s hs => ?_, fun s hs s' hs' e' => ?_, fun w' F' hp hkeep hF' s hs => ?_⟩
          · obtain ⟨u, hu, hm⟩ := b1 j c.mc (by simp [hj])
            refine ⟨u, by simpa using hu, ?_⟩
            rw [Nat.add_comm 1 j] at hm
            simp only [Nat.succ_ne_zero, if_false]
            exact hm
          · by_cases hq0 : q = 0
            · subst hq0; exact ⟨_, List.mem_cons_self, rfl, rfl⟩
            · obtain ⟨s, hs, e1, e2⟩ := b2 q x (by simpa [hq0] using hq)
              exact ⟨s, List.mem_cons_of_mem _ hs, e1, e2⟩
          · rcases List.mem_cons.1 hs with rfl | hs
            · refine ⟨rfl, _, hl, trivial, rfl, fun x hx => ?_⟩
              have hx : x = b := by simpa using hx
              show Value.blk (m.val id) = some x
              rw [hv', hx]; rfl
            · obtain ⟨e1, e2, e3⟩ := b3 s hs
              have : ¬ s.j = 0 := by omega
              exact ⟨e1, by simp only [if_neg this]; exact e3⟩
          · rcases List.mem_cons.1 hs with rfl | hs <;> rcases List.mem_cons.1 hs' with rfl | hs'
            · rfl
            · have := hge s' hs'; simp only at e'; omega
            · have := hge s hs; simp only at e'; omega
            · exact b4 s hs s' hs' e'
          · obtain ⟨q1, cur0, cur', E0, E', q2, q3, q4, q5⟩ := hp b rfl
            rw [hb] at q2
            cases q2
            rcases List.mem_cons.1 hs with rfl | hs
            · refine fun _ => ⟨b, cur, cur', E, E', xs, hv', hb, q3, by rw [setB_length xs cs hlen]; omega, q1, hl, fun j y hj => ?_⟩
              obtain ⟨x, c, k1, k2, k3⟩ := setB_get xs cs j y hj
              have hq := (q5 j c k2).1
              rcases k3 with ⟨a, c', rfl, rfl⟩ | ⟨k3, rfl⟩
              · obtain ⟨u, r1, r2⟩ := hq
                have : BC.ok (.set a c') = true := List.all_eq_true.1 hc _ (List.mem_of_getElem? k2)
                exact .inr ⟨c', u, rfl, this, r1, r2⟩
              · refine .inl ⟨k1, ?_⟩
                cases c with
                | set a c' => exact absurd rfl (k3 a c')
                | ro a => exact hq
                | mu a c' => exact hq
            · have hj : ¬ s.j = 0 := by have := hge s hs; omega
              have hne : ∀ s ∈ L1, ¬ s.j = 0 := fun s hs => by have := hge s hs; omega
              have := b5 w' F' (fun k c hk u hu => by
                rw [List.getElem?_map] at hk
                simp only [Option.map_eq_some_iff] at hk
                obtain ⟨c0, hk, rfl⟩ := hk
                have := (q5 k c0 hk).2 u (by simpa using hu)
                rw [Nat.add_comm k 1] at this
                exact this) (fun s hs b' hf' hn => hkeep s (List.mem_cons_of_mem _ hs) b' hf' (by simp only [if_neg (hne s hs)]; exact hn)) (fun s hs b' hb' hf' => by
                have := hF' s (List.mem_cons_of_mem _ hs) b' hb' hf'
                simp only [if_neg (hne s hs)] at this; exact this) s hs
              simp only [if_neg hj]; exact this
        · cases h
      · cases h
    · cases h
  · rename_i id p p'
    split at h
    · rename_i q e
      simp only [Option.some.injEq, Prod.mk.injEq] at h
      obtain ⟨rfl, rfl⟩ := h
      subst hob
      obtain ⟨ha, b, hv, rfl⟩ := hr
      obtain ⟨ob0, hl⟩ := Option.isSome_iff_exists.1 ha
      cases hsub id ob0 _ hl e
      have hx : ExtRep w q (m.foot id) (m.val id) := hok.ob id _ hl
      rw [hv] at hx
      refine ⟨fun k x => k = 0 ∧ m.foot id x, ?_, fun k x hk => ⟨_, List.mem_singleton.2 rfl, rfl, hk.1.symm⟩, fun s hs => ?_, fun s hs s' hs' _ => ?_, fun w' F' hp _ _ s hs => ?_⟩
      · show ExtRep w q (fun x => 0 = 0 ∧ m.foot id x) _
        simpa using hx
      · simp at hs; subst hs
        exact ⟨rfl, _, hl, trivial, rfl, fun x hx => hx.2⟩
      · simp at hs hs'; rw [hs, hs']
      · simp at hs; subst hs
        intro _
        show ExtRep w' p' (fuOf m id (fun x => 0 = 0 ∧ m.foot id x) (F' 0)) (m.val id)
        have e : fuOf m id (fun x => 0 = 0 ∧ m.foot id x) (F' 0) = F' 0 := by
          funext x; apply propext
          constructor
          · rintro (⟨h1, h2⟩ | h)
            · exact absurd ⟨rfl, h1⟩ h2
            · exact h
          · exact .inr
        rw [e, hv]
        exact hp
    · cases h
  · cases h
theorem mutAs_spec (hok : HeapOK n0 H m w) (hsub : Agree H Hs) : ∀ {as : List AV} {ts : List MT} {i : Nat} {L : List Slot} {ob : Prop} {vs : List Value}, mutAs Hs us i as ts = some (L, ob) → ob → (∀ a ∈ roAs Hs as ts, a ∉ U) →
    vs.length = as.length → (∀ (k : Nat) (x : AV), as[k]? = some x → ∃ u, vs[k]? = some u ∧ AVRep H m w x u) →
    ∃ F : Nat → Nat → Nat → Prop, as.length = ts.length ∧ (∀ (k : Nat) (t : MT), ts[k]? = some t → ∃ u, vs[k]? = some u ∧ MTRep w (avU H m U) (F (i + k)) t u) ∧
      SlotsOK H m L F ∧ (∀ s ∈ L, i ≤ s.i) ∧
      ∀ (w' : World) (F' : Nat → Nat → Nat → Prop), (∀ (k : Nat) (t : MT), ts[k]? = some t → ∀ u, vs[k]? = some u → MTPost w w' (F' (i + k)) t u) → (∀ s ∈ L, ∀ b, m.foot s.u b → ¬ F s.i s.j b → w'.heap[b]? = w.heap[b]?) → (∀ s ∈ L, ∀ b, F' s.i s.j b → m.foot s.u b → F s.i s.j b) →
        ∀ s ∈ L, SlotPost H m w w' s (F s.i s.j) (F' s.i s.j) := by
  intro as
  induction as with
  | nil =>
    intro ts i L ob vs h _ _ _ _
    cases ts with
    | nil =>
      simp only [mutAs, Option.some.injEq, Prod.mk.injEq] at h
      obtain ⟨rfl, rfl⟩ := h
      exact ⟨fun _ _ _ => False, rfl, fun k c hk => by simp at hk, ⟨fun i j b h => h.elim, by simp, by simp⟩, by simp, by simp⟩
    | cons => simp [mutAs] at h
  | cons a as ih =>
    intro ts i L ob vs h hob hU hl hv
    cases ts with
    | nil => simp [mutAs] at h
    | cons t ts =>
      cases vs with
      | nil => simp at hl
      | cons v vs =>
        simp only [mutAs] at h
        split at h
        · rename_i L1 p1 L2 p2 h1 h2
          simp only [Option.some.injEq, Prod.mk.injEq] at h
          obtain ⟨rfl, rfl⟩ := h
          obtain ⟨u, hu, hx⟩ := hv 0 a rfl
          simp at hu; subst hu
          obtain ⟨F0, a1, a2, a3, a4, a5⟩ := mutA_spec hok hsub (U := U) h1 hob.1 (fun q hq => hU q (List.mem_append_left _ hq)) hx
          obtain ⟨F, b0, b1, b2, b3, b5⟩ := ih h2 hob.2 (fun q hq => hU q (List.mem_append_right _ hq)) (by simpa using hl) (fun k x hk => by simpa using hv (k + 1) x (by simpa using hk))
          have fi : ∀ s ∈ L1, s.i = i := fun s hs => (a3 s hs).1
          have hne : ∀ s ∈ L2, ¬ s.i = i := fun s hs => by have := b3 s hs; omega
          refine ⟨fun k => if k = i then F0 else F k, by simp [b0], fun k t' hk => ?_, ⟨fun k j b hb => ?_, fun s hs => ?_, fun s hs s' hs' e e' => ?_⟩, fun s hs => ?_, fun w' F' hp hkeep hF' s hs => ?_⟩
          · cases k with
            | zero => simp at hk; subst hk; exact ⟨v, rfl, by simpa using a1⟩
            | succ k =>
              obtain ⟨u, hu, hr⟩ := b1 k t' (by simpa using hk)
              refine ⟨u, by simpa using hu, ?_⟩
              have : ¬ i + (k + 1) = i := by omega
              simp only [if_neg this]
              rw [show i + (k + 1) = i + 1 + k by omega]; exact hr
          · split at hb
            · rename_i e
              obtain ⟨s, hs, e1, e2⟩ := a2 j b hb
              exact ⟨s, List.mem_append_left _ hs, by rw [e1, e], e2⟩
            · obtain ⟨s, hs, e1, e2⟩ := b2.cover k j b hb
              exact ⟨s, List.mem_append_right _ hs, e1, e2⟩
          · rcases List.mem_append.1 hs with hs | hs
            · have := (a3 s hs).2
              simp only [fi s hs, ite_true]; exact this
            · simp only [if_neg (hne s hs)]; exact b2.ok s hs
          · rcases List.mem_append.1 hs with hs | hs <;> rcases List.mem_append.1 hs' with hs' | hs'
            · exact a4 s hs s' hs' e'
            · exact absurd (by rw [← e]; exact fi s hs) (hne s' hs')
            · exact absurd (by rw [e]; exact fi s' hs') (hne s hs)
            · exact b2.uniq s hs s' hs' e e'
          · rcases List.mem_append.1 hs with hs | hs
            · have := fi s hs; omega
            · have := b3 s hs; omega
          · rcases List.mem_append.1 hs with hs | hs
            · have := a5 w' (F' i) (by simpa using hp 0 t rfl v rfl) (fun s hs b hf hn => hkeep s (List.mem_append_left _ hs) b hf (by rw [fi s hs]; simpa using hn)) (fun s hs b hb hf => by
                have := hF' s (List.mem_append_left _ hs) b (by rw [fi s hs]; exact hb) hf
                rw [fi s hs] at this; simpa using this) s hs
              rw [fi s hs]; simpa using this
            · have := b5 w' F' (fun k t' hk u hu => by
                have := hp (k + 1) t' (by simpa using hk) u (by simpa using hu)
                rw [show i + (k + 1) = i + 1 + k by omega] at this; exact this) (fun s hs b hf hn => hkeep s (List.mem_append_right _ hs) b hf (by simp only [if_neg (hne s hs)]; exact hn)) (fun s hs b hb hf => by
                have := hF' s (List.mem_append_right _ hs) b hb hf
                simp only [if_neg (hne s hs)] at this; exact this) s hs
              simp only [if_neg (hne s hs)]; exact this
        · cases h
end
end Go.Fw
