
import Derived.Test.YtblpjlaihgcilafFwR3
namespace Go.Fw
open Go Go.RowKit
def waitGo : List Oper → List (List Nat) → List (List Nat)
  | [], tab => tab
  | o :: r, tab => waitGo r (tab ++ [((onOf o).flatMap fun j => j :: tab.getD j []).eraseDups])
def waitTab (l : List Oper) : List (List Nat) := waitGo l []
theorem waitGo_get : ∀ (r : List Oper) (tab : List (List Nat)) (q x : Nat), x ∈ (waitGo r tab).getD q [] →
    (q < tab.length ∧ x ∈ tab.getD q []) ∨ ∃ o, r[q - tab.length]? = some o ∧ tab.length ≤ q ∧ ∃ j ∈ onOf o, x = j ∨ (j < q ∧ x ∈ (waitGo r tab).getD j [])
  | [], tab, q, x, h => by
    left
    refine ⟨?_, h⟩
    rcases Nat.lt_or_ge q tab.length with h1 | h1
    · exact h1
    · simp only [waitGo] at h
      rw [List.getD_eq_getElem?_getD, List.getElem?_eq_none h1] at h
      cases h
  | o :: r, tab, q, x, h => by
    have pre : ∀ (r : List Oper) (tab : List (List Nat)) (j : Nat), j < tab.length → (waitGo r tab).getD j [] = tab.getD j [] := by
      intro r
      induction r with
      | nil => intro tab j _; rfl
      | cons o r ih =>
        intro tab j hj
        simp only [waitGo]
        rw [ih _ j (by simp; omega)]
        rw [List.getD_eq_getElem?_getD, List.getD_eq_getElem?_getD, List.getElem?_append_left hj]
    simp only [waitGo] at h ⊢
    rcases waitGo_get r _ q x h with ⟨h1, h2⟩ | ⟨o', h1, h2, j, hj, h3⟩
    · simp only [List.length_append, List.length_singleton] at h1
      rw [List.getD_eq_getElem?_getD, List.getElem?_append] at h2
      split at h2
      · rename_i hq
        exact .inl ⟨hq, by rw [List.getD_eq_getElem?_getD]; exact h2⟩
      · rename_i hq
        have e : q - tab.length = 0 := by omega
        rw [e] at h2
        simp only [List.getElem?_cons_zero, Option.getD_some, List.mem_eraseDups, List.mem_flatMap, List.mem_cons] at h2
        obtain ⟨j, hj, hx⟩ := h2
        refine .inr ⟨o, by rw [e]; rfl, by omega, j, hj, hx.imp (fun h => h) fun hx => ?_⟩
        have hjl : j < tab.length := by
          rcases Nat.lt_or_ge j tab.length with h1 | h1
          · exact h1
          · rw [List.getD_eq_getElem?_getD, List.getElem?_eq_none h1] at hx; cases hx
        refine ⟨by omega, ?_⟩
        rw [pre r _ j (by simp; omega)]
        rw [List.getD_eq_getElem?_getD, List.getElem?_append_left hjl, ← List.getD_eq_getElem?_getD]
        exact hx
    · simp only [List.length_append, List.length_singleton] at h1 h2
      refine .inr ⟨o', ?_, by omega, j, hj, h3⟩
      have e : q - tab.length = (q - (tab.length + 1)) + 1 := by omega
      rw [e, List.getElem?_cons_succ]; exact h1
theorem wait_listed {l : List Oper} {listed : Array Bool} (hcl : ∀ (i : Nat) o, l[i]? = some o → listed.getD i false = true → ∀ j ∈ onOf o, listed.getD j false = true) :
    ∀ (q : Nat) o, l[q]? = some o → (∀ j ∈ onOf o, listed.getD j false = true) → ∀ x ∈ (waitTab l).getD q [], listed.getD x false = true := by
  intro q
  induction q using Nat.strongRecOn with
  | _ q ih =>
    intro o ho hd x hx
    rcases waitGo_get l [] q x hx with ⟨h, _⟩ | ⟨o', h1, _, j, hj, h3⟩
    · simp at h
    · simp only [List.length_nil, Nat.sub_zero] at h1
      rw [ho] at h1; cases h1
      rcases h3 with rfl | ⟨hjq, hx'⟩
      · exact hd _ hj
      · have hjl := hd j hj
        cases hoj : l[j]? with
        | none =>
          rcases waitGo_get l [] j x hx' with ⟨h, _⟩ | ⟨o2, h1, _⟩
          · simp at h
          · simp only [List.length_nil, Nat.sub_zero] at h1
            rw [hoj] at h1; cases h1
        | some oj => exact ih j hjq oj hoj (hcl j oj hoj hjl) x hx'
def orderOK (l : List Oper) (k : Nat) : Bool :=
  decide (k ≤ l.length) && l.zipIdx.all fun p => (onOf p.1).all (fun j => decide (j < p.2)) && (decide (p.2 < k) || (List.range p.2).all fun j => ((waitTab l).getD p.2 []).contains j)
theorem orderOK_spec {l : List Oper} {k : Nat} (h : orderOK l k = true) : k ≤ l.length ∧ ∀ (q : Nat) o, l[q]? = some o → (∀ j ∈ onOf o, j < q) ∧ (k ≤ q → ∀ j, j < q → j ∈ (waitTab l).getD q []) := by
  unfold orderOK at h
  simp only [Bool.and_eq_true, decide_eq_true_eq, List.all_eq_true, Bool.or_eq_true, List.contains_eq_mem, List.mem_range] at h
  refine ⟨h.1, fun q o ho => ?_⟩
  obtain ⟨h1, h2⟩ := h.2 (o, q) (List.mem_zipIdx_iff_getElem?.2 ho)
  exact ⟨h1, fun hk j hj => h2.resolve_left (by simp only; omega) j hj⟩
def preSt (L : List PR) (s : St) : St := ⟨forget (preGones L) (envAt L L.length s), lose (preGones L) (heapAt L L.length s)⟩
def runDrawn (P : Program) (N : Lim) (l : List Oper) (k : Nat) (hs : List Hint) (s : St) : Option (St × Prop) :=
  match runPre P N l.toArray (l.take k) hs s with
  | some L => if preOK N l.toArray s L && orderOK l k then
      match runOps P N l.toArray (l.drop k) (hs.drop k) (preSt L s) with
      | some (s', p) => some (s', preOwe L ∧ p)
      | none => none
    else none
  | none => none
theorem ready_mem {ops : Array Oper} {listed : Array Bool} {i : Nat} : i ∈ Region.ready .any ops listed ↔ i < ops.size ∧ listed.getD i true = false ∧ ∃ o, ops[i]? = some o ∧ ∀ j ∈ onOf o, listed.getD j false = true := by
  unfold Region.ready
  simp only [List.mem_filter, List.mem_range, Bool.and_eq_true, Bool.not_eq_true']
  constructor
  · rintro ⟨h1, h2, h3⟩
    refine ⟨h1, h2, ?_⟩
    cases ho : ops[i]? with
    | none => rw [ho] at h3; simp at h3
    | some o =>
      rw [ho] at h3
      simp only [Option.map_some, Option.getD_some] at h3
      refine ⟨o, rfl, fun j hj => ?_⟩
      obtain ⟨e, he, rfl⟩ := List.mem_map.1 hj
      obtain ⟨he1, he2⟩ := List.mem_filter.1 he
      have := Array.all_eq_true'.1 h3 e (by simpa using he1)
      rw [he2] at this
      simpa using this
  · rintro ⟨h1, h2, o, ho, h3⟩
    refine ⟨h1, h2, ?_⟩
    rw [ho]
    simp only [Option.map_some, Option.getD_some]
    refine Array.all_eq_true'.2 fun e he => ?_
    cases hb : Region.binds .any e with
    | false => rfl
    | true => simpa using h3 e.on (List.mem_map.2 ⟨e, List.mem_filter.2 ⟨by simpa using he, hb⟩, rfl⟩)
theorem getD_set {listed : Array Bool} {i j : Nat} {d : Bool} (hi : i < listed.size) : (listed.setIfInBounds i true).getD j d = if j = i then true else listed.getD j d := by
  simp only [Array.getD_eq_getD_getElem?, Array.getElem?_setIfInBounds]
  by_cases h : j = i
  · subst h; simp [hi]
  · have : ¬ i = j := fun e => h e.symm
    simp [h, this]
variable {cx : Cx} {Q : Exit → Act → World → Prop}
theorem any_seq {l : List Oper} {k : Nat} (hord : orderOK l k = true) {s' : St} (hQ : ∀ a w, R cx s' a w → Q .normal a w) : ∀ (l2 : List Oper) (q : Nat) (hs : List Hint) (s : St) (ob : Prop) (listed : Array Bool) (fuel : Nat) (a : Act) (w : World),
    l.drop q = l2 → k ≤ q → listed.size = l.length → (∀ i, i < l.length → (listed.getD i true = true ↔ i < q)) → l.length - q ≤ fuel → runOps cx.P cx.N l.toArray l2 hs s = some (s', ob) → ob → R cx s a w →
    wpAny cx.P .any l.toArray Q fuel listed a w := by
  obtain ⟨hk, hedge⟩ := orderOK_spec hord
  intro l2
  induction l2 with
  | nil =>
    intro q hs s ob listed fuel a w hl hkq hsz hlist hfuel hrun hob hR
    cases hrun
    have hq : l.length ≤ q := List.drop_eq_nil_iff.1 hl
    have hnil : Region.ready .any l.toArray listed = [] := by
      rw [List.eq_nil_iff_forall_not_mem]
      intro i hi
      obtain ⟨h1, h2, _⟩ := ready_mem.1 hi
      simp at h1
      have := (hlist i h1).2 (by omega)
      rw [this] at h2; cases h2
    cases fuel with
    | zero => exact ⟨hnil, hQ a w hR⟩
    | succ f => exact ⟨fun _ => hQ a w hR, by rw [hnil]; simp⟩
  | cons o l2 ih =>
    intro q hs s ob listed fuel a w hl hkq hsz hlist hfuel hrun hob hR
    have hq : q < l.length := by
      rcases Nat.lt_or_ge q l.length with h | h
      · exact h
      · rw [List.drop_eq_nil_of_le h] at hl; cases hl
    have hoq : l[q]? = some o := by
      have : (l.drop q)[0]? = some o := by rw [hl]; rfl
      simpa [List.getElem?_drop] using this
    have hl' : l.drop (q + 1) = l2 := by
      have : (l.drop q).drop 1 = l2 := by rw [hl]; rfl
      rw [List.drop_drop] at this
      exact this
    have getf : ∀ i, i < l.length → listed.getD i false = listed.getD i true := fun i hi => by
      simp only [Array.getD_eq_getD_getElem?]
      rw [Array.getElem?_eq_getElem (by rw [hsz]; exact hi)]; rfl
    have hnq : listed.getD q true = false := by
      cases e : listed.getD q true with
      | false => rfl
      | true => have := (hlist q hq).1 e; omega
    have hready : q ∈ Region.ready .any l.toArray listed := ready_mem.2 ⟨by simpa using hq, hnq, o, by simpa using hoq, fun j hj => by
      have hjq := (hedge q o hoq).1 j hj
      rw [getf j (by omega)]
      exact (hlist j (by omega)).2 hjq⟩
    have only : ∀ i ∈ Region.ready .any l.toArray listed, i = q := by
      intro i hi
      obtain ⟨h1, h2, o', ho', h3⟩ := ready_mem.1 hi
      have h1' : i < l.length := by simpa using h1
      have hge : q ≤ i := by
        rcases Nat.lt_or_ge i q with h | h
        · have := (hlist i h1').2 h; rw [this] at h2; cases h2
        · exact h
      rcases Nat.eq_or_lt_of_le hge with h | h
      · exact h.symm
      · exfalso
        have hol' : l[i]? = some o' := by simpa using ho'
        have hcl : ∀ (i : Nat) o, l[i]? = some o → listed.getD i false = true → ∀ j ∈ onOf o, listed.getD j false = true := by
          intro i2 o2 ho2 hl2 j2 hj2
          have hi2 : i2 < l.length := (List.getElem?_eq_some_iff.1 ho2).1
          have hji := (hedge i2 o2 ho2).1 j2 hj2
          rw [getf i2 hi2] at hl2
          have := (hlist i2 hi2).1 hl2
          rw [getf j2 (by omega)]
          exact (hlist j2 (by omega)).2 (by omega)
        have := wait_listed hcl i o' hol' h3 q ((hedge i o' hol').2 (by omega) q h)
        rw [getf q hq, hnq] at this
        cases this
    unfold runOps at hrun
    split at hrun
    · rename_i s1 p h1
      split at hrun
      · rename_i s2 p2 h2
        cases hrun
        cases fuel with
        | zero => omega
        | succ f =>
          refine ⟨fun h => absurd hready (by rw [h]; simp), fun i hi => ?_⟩
          have := only i hi
          subst this
          unfold wpOp
          have hoi : l.toArray[i]? = some o := by simpa using hoq
          rw [hoi]
          simp only
          have next : ∀ a' w', R cx s1 a' w' → wpAny cx.P .any l.toArray Q f (listed.setIfInBounds i true) a' w' := fun a' w' hR' =>
            ih (i + 1) hs.tail s1 p2 (listed.setIfInBounds i true) f a' w' hl' (by omega) (by simpa using hsz) (fun j hj => by
              rw [getD_set (by omega)]
              by_cases e : j = i
              · subst e; simp
              · rw [if_neg e, hlist j hj]; omega) (by omega) h2 hob.2 hR'
          rcases run1_sound (Q := Q) h1 hob.1 hR next with ⟨hw, hk⟩ | ⟨hw, hk⟩
          · rw [hw]; exact .inl hk
          · rw [hw]; exact hk
      · cases hrun
    · cases hrun
def without (D : List Nat) (s : St) : St := ⟨s.env.filter fun p => !D.contains p.1, s.heap⟩
theorem without_lookup {D : List Nat} {s : St} {t : Nat} {v : AV} (h : (without D s).env.lookup t = some v) : s.env.lookup t = some v ∧ t ∉ D := by
  have key : ∀ (l : List (Nat × AV)), (l.filter fun p => !D.contains p.1).lookup t = some v → l.lookup t = some v ∧ t ∉ D := by
    intro l
    induction l with
    | nil => intro h; cases h
    | cons p l ih =>
      obtain ⟨k, x⟩ := p
      intro h
      simp only [List.filter_cons] at h
      by_cases hk : k ∈ D
      · simp [hk] at h
        obtain ⟨h1, h2⟩ := ih (by simpa using h)
        refine ⟨?_, h2⟩
        have : (t == k) = false := by
          rw [beq_eq_false_iff_ne]
          rintro rfl
          exact h2 hk
        rw [List.lookup_cons, this]; exact h1
      · simp [hk] at h
        simp only [List.lookup_cons] at h ⊢
        split at h
        · rename_i e
          simp at e
          subst e
          exact ⟨h, hk⟩
        · exact ih (by simpa using h)
  exact key _ h
theorem pre_doneL {ops : Array Oper} {s : St} {L : List PR} {S : Nat → Prop} {a : Act} {w : World} (D : List Nat) (hP : PreOK cx.N ops s L) (hI : Inv cx s L S a w) (hall : ∀ (j : Nat) (r : PR), L[j]? = some r → S j ∨ (r.E.new = [] ∧ r.E.gone = [] ∧ r.d ∈ D)) : R cx (without D (preSt L s)) a w := by
  obtain ⟨H, m, ⟨hok, hfix⟩, hH, henv0, hL⟩ := hI.mem
  have hlt : ∀ {j : Nat} {r : PR}, L[j]? = some r → j < L.length := fun h => (List.getElem?_eq_some_iff.1 h).1
  have hlook : ∀ id ob, (preSt L s).heap.lookup id = some ob ↔ H.lookup id = some ob := by
    intro id ob
    show (lose (preGones L) (heapAt L L.length s)).lookup id = some ob ↔ _
    rw [lose_eq, hH id ob]
    have hnews : ∀ (M : List PR), (M.map fun r => r.E.new).flatten.lookup id = none ∨ ∃ r ∈ M, ∃ ob', r.E.new.lookup id = some ob' ∧ (M.map fun r => r.E.new).flatten.lookup id = some ob' := by
      intro M
      induction M with
      | nil => exact .inl rfl
      | cons q M ih =>
        simp only [List.map_cons, List.flatten_cons, List.lookup_append]
        cases e : q.E.new.lookup id with
        | some ob' => exact .inr ⟨q, by simp, ob', e, rfl⟩
        | none =>
          rcases ih with h | ⟨r, hr, ob', h1, h2⟩
          · exact .inl (by simpa using h)
          · exact .inr ⟨r, by simp [hr], ob', h1, by simpa using h2⟩
    by_cases hg : id ∈ preGones L
    · rw [drop_gone hg]
      constructor
      · intro h; cases h
      · rintro ⟨h1, _⟩
        obtain ⟨r, hr, hi⟩ := List.mem_flatMap.1 hg
        obtain ⟨j, hj⟩ := List.mem_iff_getElem?.1 hr
        rcases hall j r hj with hs | ⟨_, hg0, _⟩
        · exact absurd hi (h1 j r hj hs)
        · rw [hg0] at hi; cases hi
    · rw [drop_lookup hg]
      have free : ∀ (j : Nat) r, L[j]? = some r → S j → id ∉ r.E.gone := fun j r hr _ h => hg (gone_gones hr h)
      constructor
      · intro h
        refine ⟨free, ?_⟩
        rcases heapAt_made h with h | ⟨j, r, hr, h⟩
        · exact .inl h
        · rcases hall j r hr with hs | ⟨hn0, _, _⟩
          · exact .inr ⟨j, r, hr, hs, h⟩
          · rw [hn0] at h; cases h
      · rintro ⟨_, h⟩
        unfold heapAt
        rw [List.take_length, ← List.map_reverse, List.lookup_append]
        rcases hnews L.reverse with hn | ⟨r, hr, ob', h1, h2⟩
        · rw [hn]
          rcases h with h | ⟨j, q, hq, _, h⟩
          · simpa using h
          · exfalso
            have hqm : q ∈ L.reverse := List.mem_reverse.2 (List.mem_of_getElem? hq)
            have key : id ∈ (L.reverse.map fun r => r.E.new).flatten.map (·.1) := by
              simp only [List.mem_map, List.mem_flatten]
              exact ⟨(id, ob), ⟨q.E.new, ⟨q, hqm, rfl⟩, lookup_mem h⟩, rfl⟩
            obtain ⟨o, ho⟩ := lookup_some_of_key key
            rw [hn] at ho; cases ho
        · rw [h2]
          obtain ⟨j, hj⟩ := List.mem_iff_getElem?.1 (List.mem_reverse.1 hr)
          rcases h with h | ⟨j', q, hq, _, h⟩
          · exact absurd (ids_news hj (new_key h1)) (hP.heap id ob (lookup_mem h)).1
          · have : j = j' := flat_unique hP.news hj hq (new_key h1) (new_key h)
            subst this
            rw [hj] at hq; cases hq
            rw [h1] at h; cases h; rfl
  have hfun : ∀ id, (preSt L s).heap.lookup id = H.lookup id := by
    intro id
    cases e : H.lookup id with
    | some ob => exact (hlook id ob).2 e
    | none =>
      cases e' : (preSt L s).heap.lookup id with
      | none => rfl
      | some ob => rw [(hlook id ob).1 e'] at e; cases e
  have hS : Step cx.K [] [] H m w (preSt L s).heap m w := by
    refine ⟨BelowK.refl _ _, fun b o u hu hn => ⟨hu, ?_⟩, fun _ _ => rfl, fun _ _ => rfl, fun id ob h _ _ => ⟨ob, by rw [hfun]; exact h, ob.like_refl⟩, fun id h _ => by rw [hfun] at h; exact h⟩
    rintro ⟨id, ob, hl, h⟩
    rw [hfun] at hl
    exact hn ⟨id, ob, hl, h⟩
  refine ⟨hI.defers, hI.size, hI.below, hI.lowK, m, ⟨⟨fun id ob hl => ?_, fun id b ha hf => ?_, fun id id' b ha ha' hf hf' => ?_⟩, hfix⟩, fun t v hl => ?_⟩
  · have hl : (preSt L s).heap.lookup id = some ob := hl
    rw [hfun] at hl
    exact ObRep.step hS rfl (fun _ => Iff.rfl) rfl (by simp) (by simp) (fun _ _ => rfl) (hok.ob id ob hl)
  · have ha : ((preSt L s).heap.lookup id).isSome = true := ha
    rw [hfun] at ha; exact hok.lo id b ha hf
  · have ha : ((preSt L s).heap.lookup id).isSome = true := ha
    have ha' : ((preSt L s).heap.lookup id').isSome = true := ha'
    rw [hfun] at ha ha'; exact hok.apart id id' b ha ha' hf hf'
  · obtain ⟨hl, htD⟩ := without_lookup hl
    obtain ⟨hl, hgn⟩ := forget_lookup hl
    have hfr : Fresh L S v := fun id hid j r hr _ hg => hgn id hid (gone_gones hr hg)
    rcases envAt_made hl with ⟨j, r, hj, hr, rfl, rfl⟩ | ⟨hno, h0⟩
    · rcases hall j r hr with hs | ⟨_, _, hd⟩
      · obtain ⟨u, hu, hx⟩ := hL j r hr hs hfr
        exact ⟨u, hu, hS.avrep (by simp) (by simp) hx⟩
      · exact absurd hd htD
    · obtain ⟨u, hu, hx⟩ := henv0 t v (fun hm => by
        obtain ⟨r, hr, e⟩ := List.mem_map.1 hm
        obtain ⟨j, hj⟩ := List.mem_iff_getElem?.1 hr
        exact hno j r (hlt hj) hj e) h0 hfr
      exact ⟨u, hu, hS.avrep (by simp) (by simp) hx⟩
theorem without_nil (s : St) : without [] s = s := by
  unfold without
  rw [List.filter_eq_self.2 (by simp)]
theorem pre_done {ops : Array Oper} {s : St} {L : List PR} {S : Nat → Prop} {a : Act} {w : World} (hP : PreOK cx.N ops s L) (hI : Inv cx s L S a w) (hall : ∀ j, j < L.length → S j) : R cx (preSt L s) a w := by
  have := pre_doneL [] hP hI fun j r hr => .inl (hall j (List.getElem?_eq_some_iff.1 hr).1)
  rwa [without_nil] at this
theorem any_pre {l : List Oper} {k : Nat} (hord : orderOK l k = true) {s s' : St} {L : List PR} {hs : List Hint} {ob : Prop} (hQ : ∀ a w, R cx s' a w → Q .normal a w) (hpre : runPre cx.P cx.N l.toArray (l.take k) hs s = some L) (hP : PreOK cx.N l.toArray s L) (howe : preOwe L)
    (hrun : runOps cx.P cx.N l.toArray (l.drop k) (hs.drop k) (preSt L s) = some (s', ob)) (hob : ob) : ∀ (fuel : Nat) (listed : Array Bool) (a : Act) (w : World),
    listed.size = l.length → (∀ (i : Nat) o, l[i]? = some o → listed.getD i false = true → ∀ j ∈ onOf o, listed.getD j false = true) → (∀ i, k ≤ i → i < l.length → listed.getD i true = false) → ((List.range k).filter fun i => !listed.getD i true).length + (l.length - k) ≤ fuel →
    Inv cx s L (fun j => j < k ∧ listed.getD j false = true) a w → wpAny cx.P .any l.toArray Q fuel listed a w := by
  obtain ⟨hk, hedge⟩ := orderOK_spec hord
  obtain ⟨hlen, hspec⟩ := runPre_spec hpre
  have hLk : L.length = k := by rw [hlen, List.length_take]; omega
  intro fuel
  have go : ∀ (n : Nat) (fuel : Nat) (listed : Array Bool) (a : Act) (w : World), ((List.range k).filter fun i => !listed.getD i true).length = n → listed.size = l.length → (∀ (i : Nat) o, l[i]? = some o → listed.getD i false = true → ∀ j ∈ onOf o, listed.getD j false = true) → (∀ i, k ≤ i → i < l.length → listed.getD i true = false) → n + (l.length - k) ≤ fuel →
      Inv cx s L (fun j => j < k ∧ listed.getD j false = true) a w → wpAny cx.P .any l.toArray Q fuel listed a w := by
    intro n
    induction n using Nat.strongRecOn with
    | _ n ih =>
      intro fuel listed a w hn hsz hcl hout hfuel hI
      have getf : ∀ i, i < l.length → listed.getD i false = listed.getD i true := fun i hi => by
        simp only [Array.getD_eq_getD_getElem?]
        rw [Array.getElem?_eq_getElem (by rw [hsz]; exact hi)]; rfl
      by_cases hall : ∀ i, i < k → listed.getD i true = true
      · refine any_seq hord hQ (l.drop k) k (hs.drop k) (preSt L s) ob listed fuel a w rfl (Nat.le_refl _) hsz (fun i hi => ⟨fun h => ?_, fun h => hall i h⟩) (by omega) hrun hob (pre_done hP hI (fun j hj => ⟨by omega, ?_⟩))
        · rcases Nat.lt_or_ge i k with h' | h'
          · exact h'
          · rw [hout i h' hi] at h; cases h
        · rw [getf j (by omega)]; exact hall j (by omega)
      ·
        have hex : ∃ i, i < k ∧ listed.getD i true = false := by
          by_cases h : ∃ i, i < k ∧ listed.getD i true = false
          · exact h
          · exact absurd (fun i hi => by
              cases e : listed.getD i true with
              | true => rfl
              | false => exact absurd ⟨i, hi, e⟩ h) hall
        have least : ∃ i, i < k ∧ listed.getD i true = false ∧ ∀ j, j < i → listed.getD j true = true := by
          obtain ⟨i, hi⟩ := hex
          induction i using Nat.strongRecOn with
          | _ i ihi =>
            by_cases h : ∃ j, j < i ∧ listed.getD j true = false
            · obtain ⟨j, hj, hjl⟩ := h
              exact ihi j hj ⟨by omega, hjl⟩
            · refine ⟨i, hi.1, hi.2, fun j hj => ?_⟩
              cases e : listed.getD j true with
              | true => rfl
              | false => exact absurd ⟨j, hj, e⟩ h
        obtain ⟨i0, hi0k, hi0, hi0l⟩ := least
        have hi0len : i0 < l.length := by omega
        have hready : i0 ∈ Region.ready .any l.toArray listed := ready_mem.2 ⟨by simpa using hi0len, hi0, l[i0], by simp [hi0len], fun j hj => by
          have hji := (hedge i0 l[i0] (List.getElem?_eq_getElem hi0len)).1 j hj
          rw [getf j (by omega)]; exact hi0l j hji⟩
        have hpos : 0 < n := by
          rw [← hn]
          exact List.length_pos_of_mem (List.mem_filter.2 ⟨List.mem_range.2 hi0k, by rw [hi0]; rfl⟩)
        cases fuel with
        | zero => omega
        | succ f =>
          refine ⟨fun h => absurd hready (by rw [h]; simp), fun i hi => ?_⟩
          obtain ⟨h1, h2, o, ho, h3⟩ := ready_mem.1 hi
          have hilen : i < l.length := by simpa using h1
          have hol : l[i]? = some o := by simpa using ho
          have hik : i < k := by
            rcases Nat.lt_or_ge i k with h | h
            · exact h
            · exfalso
              have := wait_listed hcl i o hol h3 i0 ((hedge i o hol).2 h i0 (by omega))
              rw [getf i0 hi0len, hi0] at this; cases this
          have hiL : i < L.length := by omega
          obtain ⟨g1, g2, g3, g4, g5, g6⟩ := hspec i L[i] (List.getElem?_eq_getElem hiL)
          have hro : L[i].o = o := by
            rw [List.getElem?_take, if_pos hik, hol] at g1
            cases g1; rfl
          unfold wpOp
          rw [ho]
          simp only
          have := pre_step (cx := cx) (ops := l.toArray) (Q := Q) (K := wpAny cx.P .any l.toArray Q f (listed.setIfInBounds i true)) hP (List.getElem?_eq_getElem hiL) g2 g3 g4 g5 g6 (preOwe_get howe (List.getElem?_eq_getElem hiL)) hI (by
              rintro ⟨_, h⟩
              rw [getf i hilen, h2] at h; cases h) (fun j hj => by
              rw [hro] at hj
              have hji := (hedge i o hol).1 j hj
              exact ⟨by omega, h3 j hj⟩) (fun a' w' hI' => by
              refine ih ((List.range k).filter fun i' => !(listed.setIfInBounds i true).getD i' true).length ?_ f (listed.setIfInBounds i true) a' w' rfl (by simpa using hsz) (fun i2 o2 ho2 hl2 j2 hj2 => by
                rw [getD_set (by omega)] at hl2 ⊢
                by_cases e2 : j2 = i
                · rw [if_pos e2]
                · rw [if_neg e2]
                  by_cases e3 : i2 = i
                  · subst e3
                    rw [hol] at ho2; cases ho2
                    exact h3 j2 hj2
                  · rw [if_neg e3] at hl2
                    exact hcl i2 o2 ho2 hl2 j2 hj2) (fun i' hi' hl' => ?_) ?_ ?_
              · rw [← hn]
                have hsub : ((List.range k).filter fun i' => !(listed.setIfInBounds i true).getD i' true) = ((List.range k).filter fun i' => !listed.getD i' true).filter fun i' => !(i' == i) := by
                  rw [List.filter_filter]
                  apply List.filter_congr
                  intro x _
                  rw [getD_set (by omega)]
                  by_cases e : x = i <;> simp [e]
                rw [hsub]
                exact List.length_filter_lt_length_iff_exists.2 ⟨i, List.mem_filter.2 ⟨List.mem_range.2 hik, by rw [h2]; rfl⟩, by simp⟩
              · rw [getD_set (by omega), if_neg (by omega)]; exact hout i' hi' hl'
              · have hlt : ((List.range k).filter fun i' => !(listed.setIfInBounds i true).getD i' true).length < n := by
                  rw [← hn]
                  have hsub : ((List.range k).filter fun i' => !(listed.setIfInBounds i true).getD i' true) = ((List.range k).filter fun i' => !listed.getD i' true).filter fun i' => !(i' == i) := by
                    rw [List.filter_filter]
                    apply List.filter_congr
                    intro x _
                    rw [getD_set (by omega)]
                    by_cases e : x = i <;> simp [e]
                  rw [hsub]
                  exact List.length_filter_lt_length_iff_exists.2 ⟨i, List.mem_filter.2 ⟨List.mem_range.2 hik, by rw [h2]; rfl⟩, by simp⟩
                omega
              · have hSS : (fun j => j < k ∧ (listed.setIfInBounds i true).getD j false = true) = fun j => (j < k ∧ listed.getD j false = true) ∨ j = i := by
                  funext j
                  apply propext
                  rw [getD_set (by omega)]
                  by_cases e : j = i
                  · subst e; simp [hik]
                  · simp [e]
                rw [hSS]; exact hI')
          rw [hro] at this
          rcases this with ⟨hw, hk'⟩ | ⟨hw, hk'⟩
          · rw [hw]; exact .inl hk'
          · rw [hw]; exact hk'
  intro listed a w hsz hcl hout hfuel hI
  exact go _ fuel listed a w rfl hsz hcl hout hfuel hI
def readyIn (l : List Oper) (rem : List Nat) (i : Nat) : Bool :=
  match l[i]? with
  | some o => (onOf o).all fun d => !rem.contains d && decide (d < l.length)
  | none => false
def joinAll : List (Option (St × Prop)) → Option (St × Prop)
  | [] => none
  | none :: _ => none
  | some x :: r => match r with
    | [] => some x
    | _ => match joinAll r with
      | some y => some (x.1, x.2 ∧ y.2 ∧ y.1 = x.1)
      | none => none
theorem joinAll_spec : ∀ (L : List (Option (St × Prop))) (s : St) (p : Prop), joinAll L = some (s, p) → p → (∀ x ∈ L, ∃ q, x = some (s, q) ∧ q) ∧ L ≠ [] := by
  intro L
  induction L with
  | nil => intro s p h; cases h
  | cons x L ih =>
    intro s p h hp
    cases x with
    | none => cases h
    | some x =>
      cases L with
      | nil =>
        cases h
        refine ⟨fun w hw => ?_, by simp⟩
        cases hw with
        | head => exact ⟨p, rfl, hp⟩
        | tail _ hw => cases hw
      | cons y L =>
        simp only [joinAll] at h
        split at h
        · rename_i z hz
          cases h
          obtain ⟨h1, h2, h3⟩ := hp
          obtain ⟨z1, z2⟩ := z
          simp only at h3 h2
          subst h3
          obtain ⟨g1, _⟩ := ih _ _ hz h2
          refine ⟨fun w hw => ?_, by simp⟩
          cases hw with
          | head => exact ⟨x.2, rfl, h1⟩
          | tail _ hw => exact g1 w hw
        · cases h
def runTree (P : Program) (N : Lim) (l : List Oper) (hs : List Hint) (ts ids : List Nat) : Nat → List Nat → St → Option (St × Prop)
  | 0, rem, s => if rem.isEmpty && okRestr ids (restr ts ids s) then some (restr ts ids s, True) else none
  | f + 1, rem, s => if rem.isEmpty then (if okRestr ids (restr ts ids s) then some (restr ts ids s, True) else none) else
      joinAll ((rem.filter (readyIn l rem)).map fun i => match l[i]? with
      | some o => match run1 P N l.toArray o (hs.getD i .no) s with
        | some (s1, p) => match runTree P N l hs ts ids f (rem.erase i) s1 with
          | some (s2, q) => some (s2, p ∧ q)
          | none => none
        | none => none
      | none => none)
theorem any_tree {l : List Oper} {hs : List Hint} {ts ids : List Nat} {s' : St} (hQ : ∀ a w, R cx s' a w → Q .normal a w) : ∀ (f : Nat) (rem : List Nat) (s : St) (ob : Prop) (listed : Array Bool) (fuel : Nat) (a : Act) (w : World),
    runTree cx.P cx.N l hs ts ids f rem s = some (s', ob) → ob → listed.size = l.length → (∀ i, i < l.length → (listed.getD i true = false ↔ i ∈ rem)) → (∀ i ∈ rem, i < l.length) → rem.Nodup → rem.length ≤ fuel → R cx s a w →
    wpAny cx.P .any l.toArray Q fuel listed a w := by
  have fin : ∀ (rem : List Nat) (s : St) (listed : Array Bool) (fuel : Nat) (a : Act) (w : World), rem = [] → okRestr ids (restr ts ids s) = true → s' = restr ts ids s → (∀ i, i < l.length → (listed.getD i true = false ↔ i ∈ rem)) → R cx s a w → wpAny cx.P .any l.toArray Q fuel listed a w := by
    intro rem s listed fuel a w hrem hr hs' hlist hR
    subst hrem
    have hnil : Region.ready .any l.toArray listed = [] := by
      rw [List.eq_nil_iff_forall_not_mem]
      intro i hi
      obtain ⟨h1, h2, _⟩ := ready_mem.1 hi
      simp at h1
      have := (hlist i h1).1 h2
      cases this
    have hRr := Sub.restr ts ids hr a w hR
    rw [← hs'] at hRr
    cases fuel with
    | zero => exact ⟨hnil, hQ a w hRr⟩
    | succ f => exact ⟨fun _ => hQ a w hRr, by rw [hnil]; simp⟩
  intro f
  induction f with
  | zero =>
    intro rem s ob listed fuel a w h hob hsz hlist hlt hnd hfuel hR
    simp only [runTree] at h
    split at h
    · rename_i hr
      simp only [Bool.and_eq_true, List.isEmpty_iff] at hr
      cases h
      exact fin rem s listed fuel a w hr.1 hr.2 rfl hlist hR
    · cases h
  | succ f ih =>
    intro rem s ob listed fuel a w h hob hsz hlist hlt hnd hfuel hR
    have getf : ∀ i, i < l.length → listed.getD i false = listed.getD i true := fun i hi => by
      simp only [Array.getD_eq_getD_getElem?]
      rw [Array.getElem?_eq_getElem (by rw [hsz]; exact hi)]; rfl
    simp only [runTree] at h
    split at h
    · rename_i hr0
      split at h
      · rename_i hr
        cases h
        exact fin rem s listed fuel a w (List.isEmpty_iff.1 hr0) hr rfl hlist hR
      · cases h
    · rename_i hr0
      have hrem : rem ≠ [] := fun e => hr0 (by rw [e]; rfl)
      obtain ⟨hall, hne⟩ := joinAll_spec _ _ _ h hob
      cases fuel with
      | zero => exact absurd (List.eq_nil_of_length_eq_zero (by omega)) hrem
      | succ fu =>
        have hready : ∀ i, i ∈ Region.ready .any l.toArray listed ↔ i ∈ rem ∧ (∀ o, l[i]? = some o → ∀ d ∈ onOf o, listed.getD d false = true) := by
          intro i
          rw [ready_mem]
          constructor
          · rintro ⟨h1, h2, o, ho, h3⟩
            have h1' : i < l.length := by simpa using h1
            refine ⟨(hlist i h1').1 h2, fun o' ho' => ?_⟩
            have : l[i]? = some o := by simpa using ho
            rw [this] at ho'; cases ho'; exact h3
          · rintro ⟨h1, h2⟩
            have hil := hlt i h1
            exact ⟨by simpa using hil, (hlist i hil).2 h1, l[i], by simp [hil], h2 l[i] (List.getElem?_eq_getElem hil)⟩
        have inrem : ∀ i, i ∈ Region.ready .any l.toArray listed → readyIn l rem i = true := by
          intro i hi
          obtain ⟨h1, h2⟩ := (hready i).1 hi
          have hil := hlt i h1
          unfold readyIn
          rw [List.getElem?_eq_getElem hil]
          simp only [List.all_eq_true, Bool.and_eq_true, Bool.not_eq_true', List.contains_eq_mem, decide_eq_false_iff_not, decide_eq_true_eq]
          intro d hd
          have := h2 l[i] (List.getElem?_eq_getElem hil) d hd
          have hdl : d < l.length := by
            rcases Nat.lt_or_ge d l.length with h | h
            · exact h
            · rw [Array.getD_eq_getD_getElem?, Array.getElem?_eq_none (by omega)] at this; cases this
          refine ⟨fun hdr => ?_, hdl⟩
          rw [getf d hdl, (hlist d hdl).2 hdr] at this
          cases this
        have step : ∀ i, i ∈ rem → readyIn l rem i = true → ∃ o s1 p q, l[i]? = some o ∧ run1 cx.P cx.N l.toArray o (hs.getD i .no) s = some (s1, p) ∧ runTree cx.P cx.N l hs ts ids f (rem.erase i) s1 = some (s', q) ∧ p ∧ q := by
          intro i hi hri
          obtain ⟨x, hx1, hx2⟩ := hall _ (List.mem_map.2 ⟨i, List.mem_filter.2 ⟨hi, hri⟩, rfl⟩)
          split at hx1
          · rename_i o ho
            split at hx1
            · rename_i s1 p h1
              split at hx1
              · rename_i s2 q h2
                cases hx1
                exact ⟨o, s1, p, q, ho, h1, h2, hx2.1, hx2.2⟩
              · cases hx1
            · cases hx1
          · cases hx1
        refine ⟨fun hnil => ?_, fun i hi => ?_⟩
        · exfalso
          have : ∃ i ∈ rem, readyIn l rem i = true := by
            cases hf : rem.filter (readyIn l rem) with
            | nil => rw [hf] at hne; simp at hne
            | cons i r =>
              have : i ∈ rem.filter (readyIn l rem) := by rw [hf]; simp
              exact ⟨i, (List.mem_filter.1 this).1, (List.mem_filter.1 this).2⟩
          obtain ⟨i, hi, hri⟩ := this
          have hil := hlt i hi
          have : i ∈ Region.ready .any l.toArray listed := by
            rw [hready]
            refine ⟨hi, fun o ho d hd => ?_⟩
            unfold readyIn at hri
            rw [ho] at hri
            simp only [List.all_eq_true, Bool.and_eq_true, Bool.not_eq_true', List.contains_eq_mem, decide_eq_false_iff_not, decide_eq_true_eq] at hri
            obtain ⟨hdr, hdl⟩ := hri d hd
            rw [getf d hdl]
            cases e : listed.getD d true with
            | true => rfl
            | false => exact absurd ((hlist d hdl).1 e) hdr
          rw [hnil] at this; cases this
        · obtain ⟨h1, _⟩ := (hready i).1 hi
          obtain ⟨o, s1, p, q, ho, hr1, hr2, hp, hq⟩ := step i h1 (inrem i hi)
          have hil := hlt i h1
          unfold wpOp
          have hoi : l.toArray[i]? = some o := by simpa using ho
          rw [hoi]
          simp only
          have next : ∀ a' w', R cx s1 a' w' → wpAny cx.P .any l.toArray Q fu (listed.setIfInBounds i true) a' w' := fun a' w' hR' =>
            ih (rem.erase i) s1 q (listed.setIfInBounds i true) fu a' w' hr2 hq (by simpa using hsz) (fun j hj => by
              rw [getD_set (by omega)]
              by_cases e : j = i
              · subst e
                simp
                exact fun h => (List.Nodup.mem_erase_iff hnd).1 h |>.1 rfl
              · rw [if_neg e, hlist j hj, List.mem_erase_of_ne e]) (fun j hj => hlt j (List.mem_of_mem_erase hj)) (hnd.erase i) (by rw [List.length_erase_of_mem h1]; omega) hR'
          rcases run1_sound (Q := Q) hr1 hp hR next with ⟨hw, hk⟩ | ⟨hw, hk⟩
          · rw [hw]; exact .inl hk
          · rw [hw]; exact hk
theorem AW.drawn {s s' : St} {ob : Prop} {Q : Exit → St → Prop} {id : Nat} {l : List Oper} (hm : cx.P.follows .mixedOrders = true) (k : Nat) (hs : List Hint) (h : runDrawn cx.P cx.N l k hs s = some (s', ob)) (hob : ob) (hq : Q .normal s') : AW cx (.region id l.toArray true) s Q := by
  intro a w hR
  unfold runDrawn at h
  split at h
  · rename_i L hL
    split at h
    · rename_i hc
      simp only [Bool.and_eq_true] at hc
      split at h
      · rename_i s2 p hrun
        cases h
        obtain ⟨h1, h2⟩ := hob
        have hP := preOK_spec hc.1
        refine wp_region_any hm (any_pre hc.2 (fun a w hr => ⟨_, hq, hr⟩) hL hP h1 hrun h2 _ _ _ _ ?_ ?_ ?_ ?_ ?_)
        · simp
        · intro i o _ hl
          simp only [Array.getD_eq_getD_getElem?, Array.getElem?_replicate] at hl
          split at hl <;> cases hl
        · intro i _ hi
          have hi' : i < l.length := hi
          simp [Array.getD_eq_getD_getElem?, hi']
        · have hk := (orderOK_spec hc.2).1
          have : ((List.range k).filter fun i => !(Array.replicate l.toArray.size false).getD i true).length ≤ k := by
            have := List.length_filter_le (fun i => !(Array.replicate l.toArray.size false).getD i true) (List.range k)
            simpa using this
          simp only [List.size_toArray] at this ⊢
          omega
        · obtain ⟨m, ⟨hok, hfix⟩, henv⟩ := hR.mem
          have hdr : Drew w { w with drawn := w.drawn + 1 } := ⟨rfl, rfl, rfl, rfl⟩
          have no : ∀ j, ¬ (j < k ∧ (Array.replicate l.toArray.size false).getD j false = true) := by
            rintro j ⟨_, h⟩
            simp only [Array.getD_eq_getD_getElem?, Array.getElem?_replicate] at h
            split at h <;> cases h
          refine ⟨hR.defers, hR.size, hR.below.trans (hdr.below _), hR.lowK, fun j r _ hj => absurd hj (no j), fun j r _ hj => absurd hj (no j), s.heap, m, ⟨hok.drew hdr, hfix⟩, fun id ob => ⟨fun h => ⟨fun j r _ hj => absurd hj (no j), .inl h⟩, ?_⟩, fun t v _ hl _ => ?_, fun j r _ hj => absurd hj (no j)⟩
          · rintro ⟨_, h | ⟨j, r, _, hj, _⟩⟩
            · exact h
            · exact absurd hj (no j)
          · obtain ⟨u, hu, hx⟩ := henv t v hl
            exact ⟨u, hu, (Step.drew (n0 := cx.K) hdr).avrep (by simp) (by simp) hx⟩
      · cases h
    · cases h
  · cases h
def runDrawnRegion (P : Program) (N : Lim) (l : List Oper) (k : Nat) (hs : List Hint) (ts ids : List Nat) (s : St) : Option (St × Prop) :=
  match runDrawn P N l k hs s with
  | some r => let s' := restr ts ids r.1; if okRestr ids s' then some (s', r.2) else none
  | none => none
theorem AW.dregion {s s' : St} {ob : Prop} {Q : Exit → St → Prop} {id : Nat} {l : List Oper} (hm : cx.P.follows .mixedOrders = true) (k : Nat) (hs : List Hint) (ts ids : List Nat) (h : runDrawnRegion cx.P cx.N l k hs ts ids s = some (s', ob)) (hob : ob) (hq : Q .normal s') :
    AW cx (.region id l.toArray true) s Q := by
  unfold runDrawnRegion at h
  split at h
  · rename_i r hr
    simp only at h
    split at h
    · rename_i hc
      cases h
      exact AW.post (AW.drawn (Q := fun e s1 => ∃ s2, Sub cx s1 s2 ∧ Q e s2) hm k hs (ob := r.2) (s' := r.1) (by rw [hr]) hob ⟨_, Sub.restr ts ids hc, hq⟩)
    · cases h
  · cases h
end Go.Fw
