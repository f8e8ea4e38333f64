/- A region whose order is drawn: the whole. -/
import Derived.Test.YtgejobicepefkaaFwR3
namespace Go.Fw
open Go Go.RowKit

/-- The edges go back; behind the first part each operation waits for all in front. -/
def orderOK (l : List Oper) (k : Nat) : Bool :=
  decide (k ≤ l.length) && l.zipIdx.all fun p => (onOf p.1).all (fun j => decide (j < p.2)) && (decide (p.2 < k) || (List.range p.2).all fun j => (onOf p.1).contains j)
theorem orderOK_spec {l : List Oper} {k : Nat} (h : orderOK l k = true) : k ≤ l.length ∧ ∀ (q : Nat) o, l[q]? = some o → (∀ j ∈ onOf o, j < q) ∧ (k ≤ q → ∀ j, j < q → j ∈ onOf o) := by
  unfold orderOK at h
  simp only [Bool.and_eq_true, decide_eq_true_eq, List.all_eq_true, Bool.or_eq_true, List.contains_eq_mem, List.mem_range] at h
  refine ⟨h.1, fun q o ho => ?_⟩
  obtain ⟨h1, h2⟩ := h.2 (o, q) (List.mem_zipIdx_iff_getElem?.2 ho)
  exact ⟨h1, fun hk j hj => h2.resolve_left (by simp only; omega) j hj⟩

def preSt (L : List PR) (s : St) : St := ⟨envAt L L.length s, lose (preGones L) (heapAt L L.length s)⟩

def runDrawn (P : Program) (N : Nat) (l : List Oper) (k : Nat) (hs : List Hint) (s : St) : Option (St × Prop) :=
  match runPre P N l.toArray (l.take k) hs s with
  | some L => if preOK l.toArray s L && orderOK l k then
      match runOps P N l.toArray (l.drop k) (hs.drop k) (preSt L s) with
      | some (s', p) => some (s', preOwe L ∧ p)
      | none => none
    else none
  | none => none

theorem ready_mem {ops : Array Oper} {listed : Array Bool} {i : Nat} : i ∈ Region.ready .any ops listed ↔ i < ops.size ∧ listed.getD i true = false ∧ ∃ o, ops[i]? = some o ∧ ∀ j ∈ onOf o, listed.getD j false = true := by
  unfold Region.ready
  simp only [List.mem_filter, List.mem_range, Bool.and_eq_true, Bool.not_eq_true']
  constructor
  · rintro ⟨h1, h2, h3⟩
    refine ⟨h1, h2, ?_⟩
    cases ho : ops[i]? with
    | none => rw [ho] at h3; simp at h3
    | some o =>
      rw [ho] at h3
      simp only [Option.map_some, Option.getD_some] at h3
      refine ⟨o, rfl, fun j hj => ?_⟩
      obtain ⟨e, he, rfl⟩ := List.mem_map.1 hj
      obtain ⟨he1, he2⟩ := List.mem_filter.1 he
      have := Array.all_eq_true'.1 h3 e (by simpa using he1)
      rw [he2] at this
      simpa using this
  · rintro ⟨h1, h2, o, ho, h3⟩
    refine ⟨h1, h2, ?_⟩
    rw [ho]
    simp only [Option.map_some, Option.getD_some]
    refine Array.all_eq_true'.2 fun e he => ?_
    cases hb : Region.binds .any e with
    | false => rfl
    | true => simpa using h3 e.on (List.mem_map.2 ⟨e, List.mem_filter.2 ⟨by simpa using he, hb⟩, rfl⟩)

theorem getD_set {listed : Array Bool} {i j : Nat} {d : Bool} (hi : i < listed.size) : (listed.setIfInBounds i true).getD j d = if j = i then true else listed.getD j d := by
  simp only [Array.getD_eq_getD_getElem?, Array.getElem?_setIfInBounds]
  by_cases h : j = i
  · subst h; simp [hi]
  · have : ¬ i = j := fun e => h e.symm
    simp [h, this]

variable {cx : Cx} {Q : Exit → Act → World → Prop}

theorem any_seq {l : List Oper} {k : Nat} (hord : orderOK l k = true) {s' : St} (hQ : ∀ a w, R cx s' a w → Q .normal a w) : ∀ (l2 : List Oper) (q : Nat) (hs : List Hint) (s : St) (ob : Prop) (listed : Array Bool) (fuel : Nat) (a : Act) (w : World),
    l.drop q = l2 → k ≤ q → listed.size = l.length → (∀ i, i < l.length → (listed.getD i true = true ↔ i < q)) → l.length - q ≤ fuel → runOps cx.P cx.N l.toArray l2 hs s = some (s', ob) → ob → R cx s a w →
    wpAny cx.P .any l.toArray Q fuel listed a w := by
  obtain ⟨hk, hedge⟩ := orderOK_spec hord
  intro l2
  induction l2 with
  | nil =>
    intro q hs s ob listed fuel a w hl hkq hsz hlist hfuel hrun hob hR
    cases hrun
    have hq : l.length ≤ q := List.drop_eq_nil_iff.1 hl
    have hnil : Region.ready .any l.toArray listed = [] := by
      rw [List.eq_nil_iff_forall_not_mem]
      intro i hi
      obtain ⟨h1, h2, _⟩ := ready_mem.1 hi
      simp at h1
      have := (hlist i h1).2 (by omega)
      rw [this] at h2; cases h2
    cases fuel with
    | zero => exact ⟨hnil, hQ a w hR⟩
    | succ f => exact ⟨fun _ => hQ a w hR, by rw [hnil]; simp⟩
  | cons o l2 ih =>
    intro q hs s ob listed fuel a w hl hkq hsz hlist hfuel hrun hob hR
    have hq : q < l.length := by
      rcases Nat.lt_or_ge q l.length with h | h
      · exact h
      · rw [List.drop_eq_nil_of_le h] at hl; cases hl
    have hoq : l[q]? = some o := by
      have : (l.drop q)[0]? = some o := by rw [hl]; rfl
      simpa [List.getElem?_drop] using this
    have hl' : l.drop (q + 1) = l2 := by
      have : (l.drop q).drop 1 = l2 := by rw [hl]; rfl
      rw [List.drop_drop] at this
      exact this
    have getf : ∀ i, i < l.length → listed.getD i false = listed.getD i true := fun i hi => by
      simp only [Array.getD_eq_getD_getElem?]
      rw [Array.getElem?_eq_getElem (by rw [hsz]; exact hi)]; rfl
    have hnq : listed.getD q true = false := by
      cases e : listed.getD q true with
      | false => rfl
      | true => have := (hlist q hq).1 e; omega
    have hready : q ∈ Region.ready .any l.toArray listed := ready_mem.2 ⟨by simpa using hq, hnq, o, by simpa using hoq, fun j hj => by
      have hjq := (hedge q o hoq).1 j hj
      rw [getf j (by omega)]
      exact (hlist j (by omega)).2 hjq⟩
    have only : ∀ i ∈ Region.ready .any l.toArray listed, i = q := by
      intro i hi
      obtain ⟨h1, h2, o', ho', h3⟩ := ready_mem.1 hi
      have h1' : i < l.length := by simpa using h1
      have hge : q ≤ i := by
        rcases Nat.lt_or_ge i q with h | h
        · have := (hlist i h1').2 h; rw [this] at h2; cases h2
        · exact h
      rcases Nat.eq_or_lt_of_le hge with h | h
      · exact h.symm
      · exfalso
        have := h3 q ((hedge i o' (by simpa using ho')).2 (by omega) q h)
        rw [getf q hq, hnq] at this
        cases this
    unfold runOps at hrun
    split at hrun
    · rename_i s1 p h1
      split at hrun
      · rename_i s2 p2 h2
        cases hrun
        cases fuel with
        | zero => omega
        | succ f =>
          refine ⟨fun h => absurd hready (by rw [h]; simp), fun i hi => ?_⟩
          have := only i hi
          subst this
          unfold wpOp
          have hoi : l.toArray[i]? = some o := by simpa using hoq
          rw [hoi]
          simp only
          have next : ∀ a' w', R cx s1 a' w' → wpAny cx.P .any l.toArray Q f (listed.setIfInBounds i true) a' w' := fun a' w' hR' =>
            ih (i + 1) hs.tail s1 p2 (listed.setIfInBounds i true) f a' w' hl' (by omega) (by simpa using hsz) (fun j hj => by
              rw [getD_set (by omega)]
              by_cases e : j = i
              · subst e; simp
              · rw [if_neg e, hlist j hj]; omega) (by omega) h2 hob.2 hR'
          rcases run1_sound (Q := Q) h1 hob.1 hR next with ⟨hw, hk⟩ | ⟨hw, hk⟩
          · rw [hw]; exact .inl hk
          · rw [hw]; exact hk
      · cases hrun
    · cases hrun

/-- The first part done, in whatever order: the state that the text's order gives. -/
theorem pre_done {ops : Array Oper} {s : St} {L : List PR} {S : Nat → Prop} {a : Act} {w : World} (hP : PreOK ops s L) (hI : Inv cx s L S a w) (hall : ∀ j, j < L.length → S j) : R cx (preSt L s) a w := by
  obtain ⟨H, m, hok, hH, henv0, hL⟩ := hI.mem
  have hlt : ∀ {j : Nat} {r : PR}, L[j]? = some r → j < L.length := fun h => (List.getElem?_eq_some_iff.1 h).1
  have hlook : ∀ id ob, (preSt L s).heap.lookup id = some ob ↔ H.lookup id = some ob := by
    intro id ob
    show (lose (preGones L) (heapAt L L.length s)).lookup id = some ob ↔ _
    rw [lose_eq, hH id ob]
    have hnews : ∀ (M : List PR), (M.map fun r => r.E.new).flatten.lookup id = none ∨ ∃ r ∈ M, ∃ ob', r.E.new.lookup id = some ob' ∧ (M.map fun r => r.E.new).flatten.lookup id = some ob' := by
      intro M
      induction M with
      | nil => exact .inl rfl
      | cons q M ih =>
        simp only [List.map_cons, List.flatten_cons, List.lookup_append]
        cases e : q.E.new.lookup id with
        | some ob' => exact .inr ⟨q, by simp, ob', e, rfl⟩
        | none =>
          rcases ih with h | ⟨r, hr, ob', h1, h2⟩
          · exact .inl (by simpa using h)
          · exact .inr ⟨r, by simp [hr], ob', h1, by simpa using h2⟩
    by_cases hg : id ∈ preGones L
    · rw [drop_gone hg]
      constructor
      · intro h; cases h
      · rintro ⟨h1, _⟩
        obtain ⟨r, hr, hi⟩ := List.mem_flatMap.1 hg
        obtain ⟨j, hj⟩ := List.mem_iff_getElem?.1 hr
        exact absurd hi (h1 j r hj (hall j (hlt hj)))
    · rw [drop_lookup hg]
      have free : ∀ (j : Nat) r, L[j]? = some r → S j → id ∉ r.E.gone := fun j r hr _ h => hg (gone_gones hr h)
      constructor
      · intro h
        refine ⟨free, ?_⟩
        rcases heapAt_made h with h | ⟨j, r, hr, h⟩
        · exact .inl h
        · exact .inr ⟨j, r, hr, hall j (hlt hr), h⟩
      · rintro ⟨_, h⟩
        unfold heapAt
        rw [List.take_length, ← List.map_reverse, List.lookup_append]
        rcases hnews L.reverse with hn | ⟨r, hr, ob', h1, h2⟩
        · rw [hn]
          rcases h with h | ⟨j, q, hq, _, h⟩
          · simpa using h
          · exfalso
            have hqm : q ∈ L.reverse := List.mem_reverse.2 (List.mem_of_getElem? hq)
            have key : id ∈ (L.reverse.map fun r => r.E.new).flatten.map (·.1) := by
              simp only [List.mem_map, List.mem_flatten]
              exact ⟨(id, ob), ⟨q.E.new, ⟨q, hqm, rfl⟩, lookup_mem h⟩, rfl⟩
            obtain ⟨o, ho⟩ := lookup_some_of_key key
            rw [hn] at ho; cases ho
        · rw [h2]
          obtain ⟨j, hj⟩ := List.mem_iff_getElem?.1 (List.mem_reverse.1 hr)
          rcases h with h | ⟨j', q, hq, _, h⟩
          · exact absurd (ids_news hj (new_key h1)) (hP.heap id ob (lookup_mem h)).1
          · have : j = j' := flat_unique hP.news hj hq (new_key h1) (new_key h)
            subst this
            rw [hj] at hq; cases hq
            rw [h1] at h; cases h; rfl
  have hfun : ∀ id, (preSt L s).heap.lookup id = H.lookup id := by
    intro id
    cases e : H.lookup id with
    | some ob => exact (hlook id ob).2 e
    | none =>
      cases e' : (preSt L s).heap.lookup id with
      | none => rfl
      | some ob => rw [(hlook id ob).1 e'] at e; cases e
  have hS : Step cx.w0.heap.size [] [] H m w (preSt L s).heap m w := by
    refine ⟨Below.refl _ _, fun b o u hu hn => ⟨hu, ?_⟩, fun _ _ _ => rfl, fun id ob h _ _ => ⟨ob, by rw [hfun]; exact h, ob.like_refl⟩, fun id h _ => by rw [hfun] at h; exact h⟩
    rintro ⟨id, ob, hl, h⟩
    rw [hfun] at hl
    exact hn ⟨id, ob, hl, h⟩
  refine ⟨hI.defers, hI.size, hI.below, m, ⟨fun id ob hl => ?_, fun id b ha hf => ?_, fun id id' b ha ha' hf hf' => ?_⟩, fun t v hl => ?_⟩
  · rw [hfun] at hl
    exact ObRep.step hS rfl (fun _ => Iff.rfl) (by simp) (by simp) (fun _ _ => rfl) (hok.ob id ob hl)
  · rw [hfun] at ha; exact hok.lo id b ha hf
  · rw [hfun] at ha ha'; exact hok.apart id id' b ha ha' hf hf'
  · rcases envAt_made hl with ⟨j, r, hj, hr, rfl, rfl⟩ | ⟨hno, h0⟩
    · obtain ⟨u, hu, hx⟩ := hL j r hr (hall j hj)
      exact ⟨u, hu, hS.avrep (by simp) (by simp) hx⟩
    · obtain ⟨u, hu, hx⟩ := henv0 t v (fun hm => by
        obtain ⟨r, hr, e⟩ := List.mem_map.1 hm
        obtain ⟨j, hj⟩ := List.mem_iff_getElem?.1 hr
        exact hno j r (hlt hj) hj e) h0
      exact ⟨u, hu, hS.avrep (by simp) (by simp) hx⟩

theorem any_pre {l : List Oper} {k : Nat} (hord : orderOK l k = true) {s s' : St} {L : List PR} {hs : List Hint} {ob : Prop} (hQ : ∀ a w, R cx s' a w → Q .normal a w) (hpre : runPre cx.P cx.N l.toArray (l.take k) hs s = some L) (hP : PreOK l.toArray s L) (howe : preOwe L)
    (hrun : runOps cx.P cx.N l.toArray (l.drop k) (hs.drop k) (preSt L s) = some (s', ob)) (hob : ob) : ∀ (fuel : Nat) (listed : Array Bool) (a : Act) (w : World),
    listed.size = l.length → (∀ i, k ≤ i → i < l.length → listed.getD i true = false) → ((List.range k).filter fun i => !listed.getD i true).length + (l.length - k) ≤ fuel →
    Inv cx s L (fun j => j < k ∧ listed.getD j false = true) a w → wpAny cx.P .any l.toArray Q fuel listed a w := by
  obtain ⟨hk, hedge⟩ := orderOK_spec hord
  obtain ⟨hlen, hspec⟩ := runPre_spec hpre
  have hLk : L.length = k := by rw [hlen, List.length_take]; omega
  intro fuel
  have go : ∀ (n : Nat) (fuel : Nat) (listed : Array Bool) (a : Act) (w : World), ((List.range k).filter fun i => !listed.getD i true).length = n → listed.size = l.length → (∀ i, k ≤ i → i < l.length → listed.getD i true = false) → n + (l.length - k) ≤ fuel →
      Inv cx s L (fun j => j < k ∧ listed.getD j false = true) a w → wpAny cx.P .any l.toArray Q fuel listed a w := by
    intro n
    induction n using Nat.strongRecOn with
    | _ n ih =>
      intro fuel listed a w hn hsz hout hfuel hI
      have getf : ∀ i, i < l.length → listed.getD i false = listed.getD i true := fun i hi => by
        simp only [Array.getD_eq_getD_getElem?]
        rw [Array.getElem?_eq_getElem (by rw [hsz]; exact hi)]; rfl
      by_cases hall : ∀ i, i < k → listed.getD i true = true
      · refine any_seq hord hQ (l.drop k) k (hs.drop k) (preSt L s) ob listed fuel a w rfl (Nat.le_refl _) hsz (fun i hi => ⟨fun h => ?_, fun h => hall i h⟩) (by omega) hrun hob (pre_done hP hI (fun j hj => ⟨by omega, ?_⟩))
        · rcases Nat.lt_or_ge i k with h' | h'
          · exact h'
          · rw [hout i h' hi] at h; cases h
        · rw [getf j (by omega)]; exact hall j (by omega)
      · -- one that is ready
        have hex : ∃ i, i < k ∧ listed.getD i true = false := by
          by_cases h : ∃ i, i < k ∧ listed.getD i true = false
          · exact h
          · exact absurd (fun i hi => by
              cases e : listed.getD i true with
              | true => rfl
              | false => exact absurd ⟨i, hi, e⟩ h) hall
        have least : ∃ i, i < k ∧ listed.getD i true = false ∧ ∀ j, j < i → listed.getD j true = true := by
          obtain ⟨i, hi⟩ := hex
          induction i using Nat.strongRecOn with
          | _ i ihi =>
            by_cases h : ∃ j, j < i ∧ listed.getD j true = false
            · obtain ⟨j, hj, hjl⟩ := h
              exact ihi j hj ⟨by omega, hjl⟩
            · refine ⟨i, hi.1, hi.2, fun j hj => ?_⟩
              cases e : listed.getD j true with
              | true => rfl
              | false => exact absurd ⟨j, hj, e⟩ h
        obtain ⟨i0, hi0k, hi0, hi0l⟩ := least
        have hi0len : i0 < l.length := by omega
        have hready : i0 ∈ Region.ready .any l.toArray listed := ready_mem.2 ⟨by simpa using hi0len, hi0, l[i0], by simp [hi0len], fun j hj => by
          have hji := (hedge i0 l[i0] (List.getElem?_eq_getElem hi0len)).1 j hj
          rw [getf j (by omega)]; exact hi0l j hji⟩
        have hpos : 0 < n := by
          rw [← hn]
          exact List.length_pos_of_mem (List.mem_filter.2 ⟨List.mem_range.2 hi0k, by rw [hi0]; rfl⟩)
        cases fuel with
        | zero => omega
        | succ f =>
          refine ⟨fun h => absurd hready (by rw [h]; simp), fun i hi => ?_⟩
          obtain ⟨h1, h2, o, ho, h3⟩ := ready_mem.1 hi
          have hilen : i < l.length := by simpa using h1
          have hol : l[i]? = some o := by simpa using ho
          have hik : i < k := by
            rcases Nat.lt_or_ge i k with h | h
            · exact h
            · exfalso
              have := h3 i0 ((hedge i o hol).2 h i0 (by omega))
              rw [getf i0 hi0len, hi0] at this; cases this
          have hiL : i < L.length := by omega
          obtain ⟨g1, g2, g3, g4, g5, g6⟩ := hspec i L[i] (List.getElem?_eq_getElem hiL)
          have hro : L[i].o = o := by
            rw [List.getElem?_take, if_pos hik, hol] at g1
            cases g1; rfl
          unfold wpOp
          rw [ho]
          simp only
          have := pre_step (cx := cx) (ops := l.toArray) (Q := Q) (K := wpAny cx.P .any l.toArray Q f (listed.setIfInBounds i true)) hP (List.getElem?_eq_getElem hiL) g2 g3 g4 g5 g6 (preOwe_get howe (List.getElem?_eq_getElem hiL)) hI (by
              rintro ⟨_, h⟩
              rw [getf i hilen, h2] at h; cases h) (fun j hj => by
              rw [hro] at hj
              have hji := (hedge i o hol).1 j hj
              exact ⟨by omega, h3 j hj⟩) (fun a' w' hI' => by
              refine ih ((List.range k).filter fun i' => !(listed.setIfInBounds i true).getD i' true).length ?_ f (listed.setIfInBounds i true) a' w' rfl (by simpa using hsz) (fun i' hi' hl' => ?_) ?_ ?_
              · rw [← hn]
                have hsub : ((List.range k).filter fun i' => !(listed.setIfInBounds i true).getD i' true) = ((List.range k).filter fun i' => !listed.getD i' true).filter fun i' => !(i' == i) := by
                  rw [List.filter_filter]
                  apply List.filter_congr
                  intro x _
                  rw [getD_set (by omega)]
                  by_cases e : x = i <;> simp [e]
                rw [hsub]
                exact List.length_filter_lt_length_iff_exists.2 ⟨i, List.mem_filter.2 ⟨List.mem_range.2 hik, by rw [h2]; rfl⟩, by simp⟩
              · rw [getD_set (by omega), if_neg (by omega)]; exact hout i' hi' hl'
              · have hlt : ((List.range k).filter fun i' => !(listed.setIfInBounds i true).getD i' true).length < n := by
                  rw [← hn]
                  have hsub : ((List.range k).filter fun i' => !(listed.setIfInBounds i true).getD i' true) = ((List.range k).filter fun i' => !listed.getD i' true).filter fun i' => !(i' == i) := by
                    rw [List.filter_filter]
                    apply List.filter_congr
                    intro x _
                    rw [getD_set (by omega)]
                    by_cases e : x = i <;> simp [e]
                  rw [hsub]
                  exact List.length_filter_lt_length_iff_exists.2 ⟨i, List.mem_filter.2 ⟨List.mem_range.2 hik, by rw [h2]; rfl⟩, by simp⟩
                omega
              · have hSS : (fun j => j < k ∧ (listed.setIfInBounds i true).getD j false = true) = fun j => (j < k ∧ listed.getD j false = true) ∨ j = i := by
                  funext j
                  apply propext
                  rw [getD_set (by omega)]
                  by_cases e : j = i
                  · subst e; simp [hik]
                  · simp [e]
                rw [hSS]; exact hI')
          rw [hro] at this
          rcases this with ⟨hw, hk'⟩ | ⟨hw, hk'⟩
          · rw [hw]; exact .inl hk'
          · rw [hw]; exact hk'
  intro listed a w hsz hout hfuel hI
  exact go _ fuel listed a w rfl hsz hout hfuel hI

/-- A REGION WHOSE ORDER IS DRAWN. -/
theorem AW.drawn {s s' : St} {ob : Prop} {Q : Exit → St → Prop} {id : Nat} {l : List Oper} (hm : cx.P.follows .mixedOrders = true) (k : Nat) (hs : List Hint) (h : runDrawn cx.P cx.N l k hs s = some (s', ob)) (hob : ob) (hq : Q .normal s') : AW cx (.region id l.toArray true) s Q := by
  intro a w hR
  unfold runDrawn at h
  split at h
  · rename_i L hL
    split at h
    · rename_i hc
      simp only [Bool.and_eq_true] at hc
      split at h
      · rename_i s2 p hrun
        cases h
        obtain ⟨h1, h2⟩ := hob
        have hP := preOK_spec hc.1
        refine wp_region_any hm (any_pre hc.2 (fun a w hr => ⟨_, hq, hr⟩) hL hP h1 hrun h2 _ _ _ _ ?_ ?_ ?_ ?_)
        · simp
        · intro i _ hi
          have hi' : i < l.length := hi
          simp [Array.getD_eq_getD_getElem?, hi']
        · have hk := (orderOK_spec hc.2).1
          have : ((List.range k).filter fun i => !(Array.replicate l.toArray.size false).getD i true).length ≤ k := by
            have := List.length_filter_le (fun i => !(Array.replicate l.toArray.size false).getD i true) (List.range k)
            simpa using this
          simp only [List.size_toArray] at this ⊢
          omega
        · obtain ⟨m, hok, henv⟩ := hR.mem
          have hdr : Drew w { w with drawn := w.drawn + 1 } := ⟨rfl, rfl, rfl, rfl⟩
          have no : ∀ j, ¬ (j < k ∧ (Array.replicate l.toArray.size false).getD j false = true) := by
            rintro j ⟨_, h⟩
            simp only [Array.getD_eq_getD_getElem?, Array.getElem?_replicate] at h
            split at h <;> cases h
          refine ⟨hR.defers, hR.size, hR.below.trans (hdr.below _), fun j r _ hj => absurd hj (no j), s.heap, m, hok.drew hdr, fun id ob => ⟨fun h => ⟨fun j r _ hj => absurd hj (no j), .inl h⟩, ?_⟩, fun t v _ hl => ?_, fun j r _ hj => absurd hj (no j)⟩
          · rintro ⟨_, h | ⟨j, r, _, hj, _⟩⟩
            · exact h
            · exact absurd hj (no j)
          · obtain ⟨u, hu, hx⟩ := henv t v hl
            exact ⟨u, hu, (Step.drew (n0 := cx.w0.heap.size) hdr).avrep (by simp) (by simp) hx⟩
      · cases h
    · cases h
  · cases h

def runDrawnRegion (P : Program) (N : Nat) (l : List Oper) (k : Nat) (hs : List Hint) (ts ids : List Nat) (s : St) : Option (St × Prop) :=
  match runDrawn P N l k hs s with
  | some r => let s' := restr ts ids r.1; if okRestr ids s' then some (s', r.2) else none
  | none => none
theorem AW.dregion {s s' : St} {ob : Prop} {Q : Exit → St → Prop} {id : Nat} {l : List Oper} (hm : cx.P.follows .mixedOrders = true) (k : Nat) (hs : List Hint) (ts ids : List Nat) (h : runDrawnRegion cx.P cx.N l k hs ts ids s = some (s', ob)) (hob : ob) (hq : Q .normal s') :
    AW cx (.region id l.toArray true) s Q := by
  unfold runDrawnRegion at h
  split at h
  · rename_i r hr
    simp only at h
    split at h
    · rename_i hc
      cases h
      exact AW.post (AW.drawn (Q := fun e s1 => ∃ s2, Sub cx s1 s2 ∧ Q e s2) hm k hs (ob := r.2) (s' := r.1) (by rw [hr]) hob ⟨_, Sub.restr ts ids hc, hq⟩)
    · cases h
  · cases h

end Go.Fw
