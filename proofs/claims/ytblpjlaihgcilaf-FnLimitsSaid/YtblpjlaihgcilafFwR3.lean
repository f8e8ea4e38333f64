
import Derived.Test.YtblpjlaihgcilafFwR2
import Derived.Orders
namespace Go.Fw
open Go Go.RowKit
structure PR where
  o : Oper
  d : Nat
  E : Eff
  on : Bool
  h : Hint
def PR.mention (r : PR) : List Nat := r.E.av.ids ++ r.E.new.flatMap (·.2.ids)
def onOf (o : Oper) : List Nat := (o.after.toList.filter (Region.binds .any)).map (·.on)
def runPre (P : Program) (N : Lim) (ops : Array Oper) : List Oper → List Hint → St → Option (List PR)
  | [], _, _ => some []
  | o :: rest, hs, s =>
    match guardOf ops s.env o, o.dst with
    | some false, some d => if d < N.n then match runPre P N ops rest hs.tail ⟨(d, .undef) :: s.env, s.heap⟩ with
        | some L => some ({ o := o, d := d, E := { av := .undef }, on := false, h := .no } :: L)
        | none => none
      else none
    | some true, some d => if d < N.n then match evOp P (rho s.env) (fun i => s.heap.lookup i) o (hs.headD .no) with
        | some E => match runPre P N ops rest hs.tail ⟨(d, E.av) :: s.env, E.new ++ s.heap⟩ with
          | some L => some ({ o := o, d := d, E := E, on := true, h := hs.headD .no } :: L)
          | none => none
        | none => none
      else none
    | _, _ => none
def envAt (L : List PR) (i : Nat) (s : St) : List (Nat × AV) := ((L.take i).map fun r => (r.d, r.E.av)).reverse ++ s.env
def heapAt (L : List PR) (i : Nat) (s : St) : List (Nat × Ob) := ((L.take i).map fun r => r.E.new).reverse.flatten ++ s.heap
theorem runPre_spec {P : Program} {N : Lim} {ops : Array Oper} : ∀ {l : List Oper} {hs : List Hint} {s : St} {L : List PR}, runPre P N ops l hs s = some L →
    L.length = l.length ∧ ∀ (i : Nat) (r : PR), L[i]? = some r → l[i]? = some r.o ∧ r.o.dst = some r.d ∧ r.d < N.n ∧ guardOf ops (envAt L i s) r.o = some r.on ∧
      (r.on = true → evOp P (rho (envAt L i s)) (fun i' => (heapAt L i s).lookup i') r.o r.h = some r.E) ∧ (r.on = false → r.E = { av := .undef }) := by
  intro l
  induction l with
  | nil =>
    intro hs s L h
    cases h
    exact ⟨rfl, fun i r hr => by simp at hr⟩
  | cons o l ih =>
    intro hs s L h
    unfold runPre at h
    split at h
    · rename_i d hg hd
      split at h
      · rename_i hdN
        split at h
        · rename_i L' hL
          cases h
          obtain ⟨h1, h2⟩ := ih hL
          refine ⟨by simp [h1], fun i r hr => ?_⟩
          cases i with
          | zero =>
            simp at hr
            subst hr
            exact ⟨rfl, hd, hdN, by simpa [envAt] using hg, by simp, fun _ => rfl⟩
          | succ i =>
            have := h2 i r (by simpa using hr)
            simpa [envAt, heapAt] using this
        · cases h
      · cases h
    · rename_i d hg hd
      split at h
      · rename_i hdN
        split at h
        · rename_i E hE
          split at h
          · rename_i L' hL
            cases h
            obtain ⟨h1, h2⟩ := ih hL
            refine ⟨by simp [h1], fun i r hr => ?_⟩
            cases i with
            | zero =>
              simp at hr
              subst hr
              exact ⟨rfl, hd, hdN, by simpa [envAt] using hg, fun _ => by simpa [envAt, heapAt] using hE, by simp⟩
            | succ i =>
              have := h2 i r (by simpa using hr)
              simpa [envAt, heapAt] using this
          · cases h
        · cases h
      · cases h
    · cases h
def preOwe : List PR → Prop
  | [] => True
  | r :: L => r.E.ob ∧ preOwe L
theorem preOwe_get : ∀ {L : List PR}, preOwe L → ∀ {i : Nat} {r : PR}, L[i]? = some r → r.E.ob := by
  intro L
  induction L with
  | nil => intro _ i r h; simp at h
  | cons q L ih =>
    intro h i r hr
    cases i with
    | zero => simp at hr; subst hr; exact h.1
    | succ i => exact ih h.2 (by simpa using hr)
def preNews (L : List PR) : List Nat := L.flatMap (·.E.ids)
def preGones (L : List PR) : List Nat := L.flatMap (·.E.gone)
def told (L : List PR) (o : Oper) (id : Nat) : Bool :=
  (onOf o).any fun j => match L[j]? with
    | some q => q.mention.contains id || q.E.ids.contains id
    | none => false
def preAt (ops : Array Oper) (s : St) (L : List PR) (ds news : List Nat) (i : Nat) (r : PR) : Bool :=
  ((r.o.looksAt ops).all fun t => !ds.contains t || (onOf r.o).any fun j => decide (j < i) && (match L[j]? with
    | some q => q.d == t
    | none => false)) &&
  (r.mention.all fun id => r.E.ids.contains id || !news.contains id || told L r.o id) &&
  (r.E.gone.all fun g => (s.heap.any fun p => p.1 == g) || (news.contains g && told L r.o g))
def behind (L : List PR) : Nat → Oper → List Nat
  | 0, o => onOf o
  | n + 1, o => (onOf o).flatMap fun j => j :: match L[j]? with
    | some q => behind L n q.o
    | none => []
theorem behind_closed {L : List PR} {S : Nat → Prop} (h : ∀ (j : Nat) r, L[j]? = some r → S j → ∀ k ∈ onOf r.o, S k) : ∀ (n : Nat) {j : Nat} {r : PR}, L[j]? = some r → S j → ∀ k ∈ behind L n r.o, S k
  | 0, j, r, hr, hj, k, hk => h j r hr hj k hk
  | n + 1, j, r, hr, hj, k, hk => by
    obtain ⟨i, hi, hk⟩ := List.mem_flatMap.1 hk
    have hSi := h j r hr hj i hi
    rcases List.mem_cons.1 hk with rfl | hk
    · exact hSi
    · split at hk
      · rename_i q hq
        exact behind_closed h n hq hSi k hk
      · cases hk
def preUse (ops : Array Oper) (s : St) (L : List PR) (i : Nat) (r : PR) : Bool :=
  (r.o.looksAt ops).all fun t => match (envAt L i s).lookup t with
    | some v => v.hard.all fun id => L.zipIdx.all fun q => !q.1.E.gone.contains id || q.2 == i || (behind L 3 q.1.o).contains i
    | none => true
def preOK (N : Lim) (ops : Array Oper) (s : St) (L : List PR) : Bool :=
  let ds := L.map (·.d)
  let news := preNews L
  let gones := preGones L
  decide ds.Nodup && decide news.Nodup && decide gones.Nodup &&
  (s.env.all fun p => p.2.ids.all fun i => !news.contains i) &&
  (s.heap.all fun p => !news.contains p.1 && (p.2.ids.all fun i => !news.contains i) && p.2.hard.all fun i => !gones.contains i) &&
  (L.all fun r => r.E.new.all fun p => p.2.hard.all fun i => !gones.contains i) &&
  (L.zipIdx.all fun p => preAt ops s L ds news p.2 p.1) && (news.all fun i => Nat.ble N.nf i) &&
  (gones.isEmpty || L.zipIdx.all fun p => preUse ops s L p.2 p.1)
structure PreOK (N : Lim) (ops : Array Oper) (s : St) (L : List PR) : Prop where
  nf : ∀ i ∈ preNews L, N.nf ≤ i
  ds : (L.map (·.d)).Nodup
  news : (preNews L).Nodup
  gones : (preGones L).Nodup
  env : ∀ t v, (t, v) ∈ s.env → ∀ i ∈ v.ids, i ∉ preNews L
  heap : ∀ i ob, (i, ob) ∈ s.heap → i ∉ preNews L ∧ (∀ j ∈ ob.ids, j ∉ preNews L) ∧ ∀ j ∈ ob.hard, j ∉ preGones L
  avs : ∀ r ∈ L, ∀ i ob, (i, ob) ∈ r.E.new → ∀ j ∈ ob.hard, j ∉ preGones L
  looks : ∀ (i : Nat) r, L[i]? = some r → ∀ t ∈ r.o.looksAt ops, t ∉ L.map (·.d) ∨ ∃ j q, j < i ∧ j ∈ onOf r.o ∧ L[j]? = some q ∧ q.d = t
  mention : ∀ (i : Nat) r, L[i]? = some r → ∀ id ∈ r.mention, id ∈ r.E.ids ∨ id ∉ preNews L ∨ ∃ j q, j ∈ onOf r.o ∧ L[j]? = some q ∧ (id ∈ q.mention ∨ id ∈ q.E.ids)
  gone : ∀ (i : Nat) r, L[i]? = some r → ∀ g ∈ r.E.gone, (∃ ob, (g, ob) ∈ s.heap) ∨ (g ∈ preNews L ∧ ∃ j q, j ∈ onOf r.o ∧ L[j]? = some q ∧ (g ∈ q.mention ∨ g ∈ q.E.ids))
  use : ∀ (i : Nat) r, L[i]? = some r → ∀ t ∈ r.o.looksAt ops, ∀ v, (envAt L i s).lookup t = some v → ∀ id ∈ v.hard, ∀ (j : Nat) q, L[j]? = some q → id ∈ q.E.gone → j = i ∨ i ∈ behind L 3 q.o
theorem told_spec {L : List PR} {o : Oper} {id : Nat} (h : told L o id = true) : ∃ j q, j ∈ onOf o ∧ L[j]? = some q ∧ (id ∈ q.mention ∨ id ∈ q.E.ids) := by
  unfold told at h
  simp only [List.any_eq_true] at h
  obtain ⟨j, hj, h⟩ := h
  split at h
  · rename_i q hq
    simp only [Bool.or_eq_true, List.contains_eq_mem, decide_eq_true_eq] at h
    exact ⟨j, q, hj, hq, h⟩
  · cases h
theorem preOK_spec {N : Lim} {ops : Array Oper} {s : St} {L : List PR} (h : preOK N ops s L = true) : PreOK N ops s L := by
  unfold preOK at h
  rw [Bool.and_eq_true] at h
  obtain ⟨h, h9⟩ := h
  simp only [Bool.and_eq_true, decide_eq_true_eq, List.all_eq_true, Bool.not_eq_true', List.contains_eq_mem, decide_eq_false_iff_not] at h
  obtain ⟨⟨⟨⟨⟨⟨⟨h1, h2⟩, h3⟩, h4⟩, h5⟩, h6⟩, h7⟩, h8⟩ := h
  have at_ : ∀ (i : Nat) r, L[i]? = some r → preAt ops s L (L.map (·.d)) (preNews L) i r = true := fun i r hr => h7 (r, i) (List.mem_zipIdx_iff_getElem?.2 hr)
  refine ⟨fun i hi => Nat.le_of_ble_eq_true (h8 i hi), h1, h2, h3, fun t v hm => h4 (t, v) hm, fun i ob hm => ?_, fun r hr i ob hm => h6 r hr (i, ob) hm, fun i r hr t ht => ?_, fun i r hr id hid => ?_, fun i r hr g hg => ?_, fun i r hr t ht v hv id hid j q hq hg => ?_⟩
  · obtain ⟨⟨a, b⟩, c⟩ := h5 (i, ob) hm
    exact ⟨a, b, c⟩
  · have := at_ i r hr
    unfold preAt at this
    simp only [Bool.and_eq_true, List.all_eq_true] at this
    have := this.1.1 t ht
    simp only [Bool.or_eq_true, Bool.not_eq_true', List.contains_eq_mem, decide_eq_false_iff_not, List.any_eq_true, Bool.and_eq_true, decide_eq_true_eq] at this
    rcases this with h | ⟨j, hj, hji, hq⟩
    · exact .inl h
    · split at hq
      · rename_i q hqq
        exact .inr ⟨j, q, hji, hj, hqq, by simpa using hq⟩
      · cases hq
  · have := at_ i r hr
    unfold preAt at this
    simp only [Bool.and_eq_true, List.all_eq_true] at this
    have := this.1.2 id hid
    simp only [Bool.or_eq_true, Bool.not_eq_true', List.contains_eq_mem, decide_eq_false_iff_not, decide_eq_true_eq] at this
    rcases this with (h | h) | h
    · exact .inl h
    · exact .inr (.inl h)
    · exact .inr (.inr (told_spec h))
  · have := at_ i r hr
    unfold preAt at this
    simp only [Bool.and_eq_true, List.all_eq_true] at this
    have := this.2 g hg
    simp only [Bool.or_eq_true, List.any_eq_true, Bool.and_eq_true, List.contains_eq_mem, decide_eq_true_eq] at this
    rcases this with ⟨p, hp, e⟩ | ⟨h1, h2⟩
    · obtain ⟨k, ob⟩ := p
      simp at e
      subst e
      exact .inl ⟨ob, hp⟩
    · exact .inr ⟨h1, told_spec h2⟩
  · rcases Bool.or_eq_true _ _ ▸ h9 with h | h
    · exact absurd (List.mem_flatMap.2 ⟨q, List.mem_of_getElem? hq, hg⟩) (by rw [show L.flatMap (·.E.gone) = [] from List.isEmpty_iff.1 h]; simp)
    · have h := List.all_eq_true.1 h (r, i) (List.mem_zipIdx_iff_getElem?.2 hr)
      unfold preUse at h
      have h := List.all_eq_true.1 h t ht
      simp only [hv] at h
      have h := List.all_eq_true.1 (List.all_eq_true.1 h id hid) (q, j) (List.mem_zipIdx_iff_getElem?.2 hq)
      simp only [Bool.or_eq_true, Bool.not_eq_true', List.contains_eq_mem, decide_eq_false_iff_not, decide_eq_true_eq, beq_iff_eq] at h
      rcases h with (h | h) | h
      · exact absurd hg h
      · exact .inl h
      · exact .inr h
def Fresh (L : List PR) (S : Nat → Prop) (v : AV) : Prop := ∀ id ∈ v.hard, ∀ (j : Nat) r, L[j]? = some r → S j → id ∉ r.E.gone
def Holds (s : St) (L : List PR) (S : Nat → Prop) (id : Nat) (ob : Ob) : Prop :=
  (∀ (j : Nat) r, L[j]? = some r → S j → id ∉ r.E.gone) ∧ (s.heap.lookup id = some ob ∨ ∃ (j : Nat) (r : PR), L[j]? = some r ∧ S j ∧ r.E.new.lookup id = some ob)
structure Inv (cx : Cx) (s : St) (L : List PR) (S : Nat → Prop) (a : Act) (w : World) : Prop where
  defers : a.defers = []
  size : a.tmps.size = cx.N.n
  below : BelowK cx.K cx.w0 w
  lowK : (∀ b, cx.K b → b < cx.w0.heap.size) ∧ GK cx.K cx.w0
  known : ∀ (j : Nat) r, L[j]? = some r → S j → ∀ id, id ∈ r.mention ∨ id ∈ r.E.ids ∨ id ∈ r.E.gone → ∀ (i : Nat) q, L[i]? = some q → id ∈ q.E.ids → S i
  closed : ∀ (j : Nat) r, L[j]? = some r → S j → ∀ k ∈ onOf r.o, S k
  mem : ∃ H m, (HeapOK cx.K H m w ∧ FixOK cx m) ∧ (∀ id ob, H.lookup id = some ob ↔ Holds s L S id ob) ∧
    (∀ t v, t ∉ L.map (·.d) → s.env.lookup t = some v → Fresh L S v → ∃ u, a.tmps[t]? = some u ∧ AVRep H m w v u) ∧
    ∀ (j : Nat) r, L[j]? = some r → S j → Fresh L S r.E.av → ∃ u, a.tmps[r.d]? = some u ∧ AVRep H m w r.E.av u
theorem flat_unique {α : Type} {f : α → List Nat} : ∀ {L : List α}, (L.flatMap f).Nodup → ∀ {i j : Nat} {r q : α} {x : Nat}, L[i]? = some r → L[j]? = some q → x ∈ f r → x ∈ f q → i = j := by
  intro L
  induction L with
  | nil => intro _ i j r q x h; simp at h
  | cons p L ih =>
    intro hn i j r q x hi hj hr hq
    simp only [List.flatMap_cons, List.nodup_append] at hn
    cases i <;> cases j
    · rfl
    · simp at hi; subst hi
      exact absurd rfl (hn.2.2 x hr x (List.mem_flatMap.2 ⟨q, List.mem_of_getElem? (by simpa using hj), hq⟩))
    · simp at hj; subst hj
      exact absurd rfl (hn.2.2 x hq x (List.mem_flatMap.2 ⟨r, List.mem_of_getElem? (by simpa using hi), hr⟩))
    · exact congrArg _ (ih hn.2.1 (by simpa using hi) (by simpa using hj) hr hq)
theorem map_unique {L : List PR} (h : (L.map (·.d)).Nodup) {i j : Nat} {r q : PR} (hi : L[i]? = some r) (hj : L[j]? = some q) (e : r.d = q.d) : i = j := by
  have h' : (L.flatMap fun r => [r.d]).Nodup := by
    have : (L.flatMap fun r => [r.d]) = L.map (·.d) := by
      clear h hi hj
      induction L with
      | nil => rfl
      | cons x L ih => simp [ih]
    rw [this]; exact h
  exact flat_unique h' (x := r.d) hi hj (by simp) (by simp [e])
theorem lookup_append {A B : List (Nat × Ob)} {id : Nat} {ob : Ob} (h : (A ++ B).lookup id = some ob) : A.lookup id = some ob ∨ (id ∉ A.map (·.1) ∧ B.lookup id = some ob) := by
  rw [List.lookup_append] at h
  cases e : A.lookup id with
  | some ob' => rw [e] at h; exact .inl h
  | none =>
    rw [e] at h
    refine .inr ⟨fun hm => ?_, h⟩
    obtain ⟨o, ho⟩ := lookup_some_of_key hm
    rw [ho] at e; cases e
theorem heapAt_made {L : List PR} {s : St} {i id : Nat} {ob : Ob} (h : (heapAt L i s).lookup id = some ob) : s.heap.lookup id = some ob ∨ ∃ (j : Nat) (r : PR), L[j]? = some r ∧ r.E.new.lookup id = some ob := by
  have key : ∀ (M : List PR), (∀ r ∈ M, r ∈ L) → ((M.map fun r => r.E.new).flatten ++ s.heap).lookup id = some ob → s.heap.lookup id = some ob ∨ ∃ (j : Nat) (r : PR), L[j]? = some r ∧ r.E.new.lookup id = some ob := by
    intro M
    induction M with
    | nil => intro _ h; exact .inl h
    | cons q M ih =>
      intro hM h
      simp only [List.map_cons, List.flatten_cons, List.append_assoc] at h
      rcases lookup_append h with h | ⟨_, h⟩
      · obtain ⟨j, hj⟩ := List.mem_iff_getElem?.1 (hM q (by simp))
        exact .inr ⟨j, q, hj, h⟩
      · exact ih (fun r hr => hM r (by simp [hr])) h
  unfold heapAt at h
  rw [← List.map_reverse] at h
  exact key _ (fun r hr => List.mem_of_mem_take (List.mem_reverse.1 hr)) h
theorem envAt_made {L : List PR} {s : St} {i t : Nat} {v : AV} (h : (envAt L i s).lookup t = some v) : (∃ (j : Nat) (r : PR), j < i ∧ L[j]? = some r ∧ r.d = t ∧ v = r.E.av) ∨ ((∀ (j : Nat) r, j < i → L[j]? = some r → r.d ≠ t) ∧ s.env.lookup t = some v) := by
  have key : ∀ (M : List (Nat × AV)), (M ++ s.env).lookup t = some v → (t, v) ∈ M ∨ ((∀ p ∈ M, p.1 ≠ t) ∧ s.env.lookup t = some v) := by
    intro M
    induction M with
    | nil => intro h; exact .inr ⟨by simp, h⟩
    | cons p M ih =>
      obtain ⟨k, x⟩ := p
      intro h
      simp only [List.cons_append, List.lookup_cons] at h
      split at h
      · rename_i e; simp at e; cases h; subst e; exact .inl (by simp)
      · rename_i e
        rcases ih h with h | ⟨h1, h2⟩
        · exact .inl (by simp [h])
        · refine .inr ⟨fun p hp => ?_, h2⟩
          cases hp with
          | head => intro h; simp at h; subst h; simp at e
          | tail _ hp => exact h1 p hp
  unfold envAt at h
  rcases key _ h with h | ⟨h1, h2⟩
  · simp only [List.mem_reverse, List.mem_map] at h
    obtain ⟨r, hr, e⟩ := h
    obtain ⟨j, hj, e2⟩ := List.mem_take_iff_getElem.1 hr
    refine .inl ⟨j, r, by omega, ?_, by cases e; rfl, by cases e; rfl⟩
    rw [← e2]; exact List.getElem?_eq_getElem _
  · refine .inr ⟨fun j r hj hr e => h1 (r.d, r.E.av) ?_ e, h2⟩
    simp only [List.mem_reverse, List.mem_map]
    refine ⟨r, ?_, rfl⟩
    obtain ⟨hl, e2⟩ := List.getElem?_eq_some_iff.1 hr
    exact List.mem_take_iff_getElem.2 ⟨j, by omega, e2⟩
theorem new_key {r : PR} {id : Nat} {ob : Ob} (h : r.E.new.lookup id = some ob) : id ∈ r.E.ids := lookup_keys h
theorem ids_news {L : List PR} {i : Nat} {r : PR} {id : Nat} (h : L[i]? = some r) (hi : id ∈ r.E.ids) : id ∈ preNews L := List.mem_flatMap.2 ⟨r, List.mem_of_getElem? h, hi⟩
theorem gone_gones {L : List PR} {i : Nat} {r : PR} {id : Nat} (h : L[i]? = some r) (hi : id ∈ r.E.gone) : id ∈ preGones L := List.mem_flatMap.2 ⟨r, List.mem_of_getElem? h, hi⟩
theorem news_ids {L : List PR} {id : Nat} (h : id ∈ preNews L) : ∃ (i : Nat) (r : PR), L[i]? = some r ∧ id ∈ r.E.ids := by
  obtain ⟨r, hr, hi⟩ := List.mem_flatMap.1 h
  obtain ⟨i, hi'⟩ := List.mem_iff_getElem?.1 hr
  exact ⟨i, r, hi', hi⟩
variable {cx : Cx} {ops : Array Oper} {s : St} {L : List PR} {S : Nat → Prop} {a : Act} {w : World}
theorem pre_step (hP : PreOK cx.N ops s L) {i : Nat} {r : PR} (hr : L[i]? = some r) (hd : r.o.dst = some r.d) (hdN : r.d < cx.N.n) (hg : guardOf ops (envAt L i s) r.o = some r.on)
    (hev : r.on = true → evOp cx.P (rho (envAt L i s)) (fun i' => (heapAt L i s).lookup i') r.o r.h = some r.E) (hno : r.on = false → r.E = { av := .undef }) (hob : r.E.ob)
    (hI : Inv cx s L S a w) (hS : ¬ S i) (hon : ∀ j, j ∈ onOf r.o → S j) {K : Act → World → Prop} {Q : Exit → Act → World → Prop} (hK : ∀ a' w', Inv cx s L (fun j => S j ∨ j = i) a' w' → K a' w') :
    (Region.wanted r.o (yielded ops a.tmps) = true ∧ r.o.wp cx.P a w K Q) ∨ (Region.wanted r.o (yielded ops a.tmps) = false ∧ K (a.put r.o.dst undef) w) := by
  obtain ⟨H, m, ⟨hok, hfix⟩, hH, henv0, hL⟩ := hI.mem
  have look : ∀ t, t ∈ r.o.looksAt ops → ∀ v, (envAt L i s).lookup t = some v → ∃ u, a.tmps[t]? = some u ∧ AVRep H m w v u := by
    intro t ht v hv
    have hfr : Fresh L S v := fun id hid j q hq hSj hg => by
      rcases hP.use i r hr t ht v hv id hid j q hq hg with h | h
      · subst h; exact hS hSj
      · exact hS (behind_closed hI.closed 3 hq hSj i h)
    rcases envAt_made hv with ⟨j, q, hji, hq, hqd, rfl⟩ | ⟨hno', hv0⟩
    · rcases hP.looks i r hr t ht with h | ⟨j', q', _, hj', hq', hqd'⟩
      · exact absurd (List.mem_map.2 ⟨q, List.mem_of_getElem? hq, hqd⟩) h
      · have : j = j' := map_unique hP.ds hq hq' (by rw [hqd, hqd'])
        subst this
        rw [hq] at hq'; cases hq'
        obtain ⟨u, hu, hx⟩ := hL j q hq (hon j hj') hfr
        exact ⟨u, by rw [← hqd]; exact hu, hx⟩
    · rcases hP.looks i r hr t ht with h | ⟨j', q', hji, hj', hq', hqd'⟩
      · exact henv0 t v h hv0 hfr
      · exact absurd hqd' (hno' j' q' hji hq')
  have opmem : ∀ t, Operand.tmp t ∈ r.o.op.operands.toList → t ∈ r.o.looksAt ops := fun t ht => List.mem_append_left _ (List.mem_filterMap.2 ⟨.tmp t, ht, rfl⟩)
  have hw : Region.wanted r.o (yielded ops a.tmps) = r.on := by
    unfold guardOf at hg
    unfold Region.wanted
    split at hg
    · rename_i hgd; rw [hgd]; exact Option.some.inj hg
    · rename_i j want hgd
      rw [hgd]
      simp only
      split at hg
      · rename_i d hdj
        have hlk : d ∈ r.o.looksAt ops := by
          unfold Oper.looksAt
          refine List.mem_append_right _ ?_
          rw [hgd]
          simp only [hdj, Option.toList_some, List.mem_singleton]
        split at hg
        · rename_i c hl
          obtain ⟨u, hu, hx⟩ := look d hlk _ hl
          have hub : u = .bool c := hx
          subst hub
          have : yielded ops a.tmps j = some c := by unfold yielded; rw [hdj]; simp [hu]
          rw [this]; exact Option.some.inj hg
        · rename_i hl
          obtain ⟨u, hu, hx⟩ := look d hlk _ hl
          have hub : u = undef := hx
          subst hub
          have : yielded ops a.tmps j = none := by unfold yielded; rw [hdj]; simp [hu, undef]
          rw [this]; exact Option.some.inj hg
        · cases hg
      · cases hg
  have fresh : ∀ id, id ∈ r.E.ids → ∀ (j : Nat) q, L[j]? = some q → S j → id ∉ q.mention ∧ id ∉ q.E.ids ∧ id ∉ q.E.gone := by
    intro id hid j q hq hSj
    refine ⟨fun h => hS (hI.known j q hq hSj id (.inl h) i r hr hid), fun h => hS (hI.known j q hq hSj id (.inr (.inl h)) i r hr hid), fun h => hS (hI.known j q hq hSj id (.inr (.inr h)) i r hr hid)⟩
  have known' : ∀ (j : Nat) q, L[j]? = some q → (S j ∨ j = i) → ∀ id, id ∈ q.mention ∨ id ∈ q.E.ids ∨ id ∈ q.E.gone → ∀ (c : Nat) p, L[c]? = some p → id ∈ p.E.ids → S c ∨ c = i := by
    intro j q hq hj id hid c p hp hc
    rcases hj with hj | rfl
    · exact .inl (hI.known j q hq hj id hid c p hp hc)
    · rw [hr] at hq; cases hq
      have via : ∀ j' q', j' ∈ onOf r.o → L[j']? = some q' → (id ∈ q'.mention ∨ id ∈ q'.E.ids) → S c := fun j' q' hj' hq' h =>
        hI.known j' q' hq' (hon j' hj') id (by rcases h with h | h; exact .inl h; exact .inr (.inl h)) c p hp hc
      rcases hid with hid | hid | hid
      · rcases hP.mention j r hr id hid with h | h | ⟨j', q', hj', hq', h⟩
        · exact .inr (flat_unique hP.news hp hr hc h)
        · exact absurd (ids_news hp hc) h
        · exact .inl (via j' q' hj' hq' h)
      · exact .inr (flat_unique hP.news hp hr hc hid)
      · rcases hP.gone j r hr id hid with ⟨ob, h⟩ | ⟨_, j', q', hj', hq', h⟩
        · exact absurd (ids_news hp hc) (hP.heap id ob h).1
        · exact .inl (via j' q' hj' hq' h)
  have closed' : ∀ (j : Nat) q, L[j]? = some q → (S j ∨ j = i) → ∀ k ∈ onOf q.o, S k ∨ k = i := by
    intro j q hq hj k hk
    rcases hj with hj | rfl
    · exact .inl (hI.closed j q hq hj k hk)
    · rw [hr] at hq; cases hq
      exact .inl (hon k hk)
  have less : ∀ v, Fresh L (fun j => S j ∨ j = i) v → Fresh L S v := fun v h id hid j q hq hj => h id hid j q hq (.inl hj)
  have hn0 : ∀ b, cx.K b → b < w.heap.size := fun b hb => Nat.lt_of_lt_of_le (hI.lowK.1 b hb) hI.below.size
  cases hone : r.on with
  | false =>
    refine .inr ⟨by rw [hw, hone], hK _ _ ?_⟩
    have hE := hno hone
    have hids : r.E.ids = [] := by rw [hE]; rfl
    have hgn : r.E.gone = [] := by rw [hE]
    have hnw : r.E.new = [] := by rw [hE]
    refine ⟨by rw [hd]; exact hI.defers, by rw [hd]; simp [Act.put, hI.size], hI.below, hI.lowK, known', closed', H, m, ⟨hok, hfix⟩, fun id ob => ?_, fun t v ht hv hfr => ?_, fun j q hq hj hfr => ?_⟩
    · rw [hH id ob]
      constructor
      · rintro ⟨h1, h2⟩
        refine ⟨fun j q hq hj => ?_, ?_⟩
        · rcases hj with hj | rfl
          · exact h1 j q hq hj
          · rw [hr] at hq; cases hq; rw [hgn]; simp
        · rcases h2 with h2 | ⟨j, q, hq, hj, h2⟩
          · exact .inl h2
          · exact .inr ⟨j, q, hq, .inl hj, h2⟩
      · rintro ⟨h1, h2⟩
        refine ⟨fun j q hq hj => h1 j q hq (.inl hj), ?_⟩
        rcases h2 with h2 | ⟨j, q, hq, hj, h2⟩
        · exact .inl h2
        · rcases hj with hj | rfl
          · exact .inr ⟨j, q, hq, hj, h2⟩
          · rw [hr] at hq; cases hq; rw [hnw] at h2; cases h2
    · obtain ⟨u, hu, hx⟩ := henv0 t v ht hv (less v hfr)
      refine ⟨u, ?_, hx⟩
      have hne : r.d ≠ t := fun e => ht (List.mem_map.2 ⟨r, List.mem_of_getElem? hr, e⟩)
      rw [hd]
      simp only [Act.put]
      rw [Array.getElem?_setIfInBounds_ne hne]; exact hu
    · by_cases hji : j = i
      · subst hji
        rw [hr] at hq; cases hq
        refine ⟨undef, ?_, by rw [hE]; rfl⟩
        rw [hd]
        simp [Act.put, hI.size, hdN]
      · obtain ⟨u, hu, hx⟩ := hL j q hq (hj.resolve_right hji) (less _ hfr)
        refine ⟨u, ?_, hx⟩
        have hne : r.d ≠ q.d := fun e => hji (map_unique hP.ds hq hr e.symm)
        rw [hd]
        simp only [Act.put]
        rw [Array.getElem?_setIfInBounds_ne hne]; exact hu
  | true =>
    refine .inl ⟨by rw [hw, hone], ?_⟩
    have hE := hev hone
    have alive : ∀ g ∈ r.E.gone, (H.lookup g).isSome = true := by
      intro g hgm
      have free : ∀ (j : Nat) q, L[j]? = some q → S j → g ∉ q.E.gone := by
        intro j q hq hj h
        have : j = i := flat_unique hP.gones hq hr h hgm
        subst this
        exact hS hj
      rcases hP.gone i r hr g hgm with ⟨ob, h⟩ | ⟨hn, j', q', hj', hq', h⟩
      · obtain ⟨ob', hl⟩ := lookup_some_of_key (List.mem_map.2 ⟨(g, ob), h, rfl⟩)
        rw [(hH g ob').2 ⟨free, .inl hl⟩]; rfl
      · obtain ⟨c, p, hp, hc⟩ := news_ids hn
        have hSc := hI.known j' q' hq' (hon j' hj') g (by rcases h with h | h; exact .inl h; exact .inr (.inl h)) c p hp hc
        obtain ⟨ob', hl⟩ := lookup_some_of_key hc
        rw [(hH g ob').2 ⟨free, .inr ⟨c, p, hp, hSc, hl⟩⟩]; rfl
    have agree : Agree H (fun i' => (heapAt L i s).lookup i') := by
      intro id ob ob' h1 h2
      obtain ⟨_, h1⟩ := (hH id ob).1 h1
      rcases heapAt_made h2 with h2 | ⟨j, q, hq, h2⟩
      · rcases h1 with h1 | ⟨j, q, hq, _, h1⟩
        · rw [h1] at h2; cases h2; rfl
        · exact absurd (ids_news hq (new_key h1)) (hP.heap id ob' (lookup_mem h2)).1
      · rcases h1 with h1 | ⟨j', q', hq', _, h1⟩
        · exact absurd (ids_news hq (new_key h2)) (hP.heap id ob (lookup_mem h1)).1
        · have : j = j' := flat_unique hP.news hq hq' (new_key h2) (new_key h1)
          subst this
          rw [hq] at hq'; cases hq'
          rw [h1] at h2; cases h2; rfl
    have envids : ∀ t, t ∈ r.o.looksAt ops → ∀ v, (envAt L i s).lookup t = some v → ∀ id ∈ v.ids, id ∉ r.E.ids := by
      intro t ht v hv id hid hin
      rcases envAt_made hv with ⟨j, q, hji, hq, hqd, rfl⟩ | ⟨hno', hv0⟩
      · rcases hP.looks i r hr t ht with h | ⟨j', q', _, hj', hq', hqd'⟩
        · exact absurd (List.mem_map.2 ⟨q, List.mem_of_getElem? hq, hqd⟩) h
        · have : j = j' := map_unique hP.ds hq hq' (by rw [hqd, hqd'])
          subst this
          exact (fresh id hin j q hq (hon j hj')).1 (List.mem_append_left _ hid)
      · exact hP.env t v (mem_lookup hv0) id hid (ids_news hr hin)
    have obids : ∀ id ob, H.lookup id = some ob → (∀ j ∈ ob.ids, j ∉ r.E.ids) ∧ ∀ j ∈ ob.hard, j ∉ r.E.gone := by
      intro id ob hl
      rcases ((hH id ob).1 hl).2 with h | ⟨j, q, hq, hj, h⟩
      · obtain ⟨_, h2, h3⟩ := hP.heap id ob (lookup_mem h)
        exact ⟨fun j hj hin => h2 j hj (ids_news hr hin), fun j hj hin => h3 j hj (gone_gones hr hin)⟩
      · refine ⟨fun k hk hin => (fresh k hin j q hq hj).1 (List.mem_append_right _ (List.mem_flatMap.2 ⟨(id, ob), lookup_mem h, hk⟩)), fun k hk hin => ?_⟩
        exact hP.avs q (List.mem_of_getElem? hq) id ob (lookup_mem h) k hk (gone_gones hr hin)
    have hnd : r.E.ids.Nodup := by
      obtain ⟨l1, l2, e⟩ := List.append_of_mem (List.mem_of_getElem? hr)
      have := hP.news
      rw [preNews, e, List.flatMap_append, List.flatMap_cons] at this
      exact (List.nodup_append.1 (List.nodup_append.1 this).2.1).1
    have hgnd : r.E.gone.Nodup := by
      obtain ⟨l1, l2, e⟩ := List.append_of_mem (List.mem_of_getElem? hr)
      have := hP.gones
      rw [preGones, e, List.flatMap_append, List.flatMap_cons] at this
      exact (List.nodup_append.1 (List.nodup_append.1 this).2.1).1
    refine go_wp (H := H) (m := m) (n0 := cx.K) (decE_go hE hob fun E0 hE0 hob0 hi0 hgo0 => ?_) ?_
    · refine evOpA_go hE0 hob0 hok hn0 (hI.lowK.2.step hI.below) agree (by rw [hi0]; exact hnd) (fun id ob hl => by rw [hi0]; exact (obids id ob hl).1) (fun id ob hl => by rw [hgo0]; exact (obids id ob hl).2) (by rw [hgo0]; exact alive) (by rw [hgo0]; exact hgnd) ?_ ?_
      · intro x hxm av hx
        rw [hi0]
        cases x with
        | tmp t => exact envids t (opmem t hxm) av hx
        | const c => exact rho_ids (env := []) (by simp) (.const c) av hx
        | global g => exact rho_ids (env := []) (by simp) (.global g) av hx
        | func f => exact rho_ids (env := []) (by simp) (.func f) av hx
      · intro x hxm av hx
        cases x with
        | tmp t =>
          obtain ⟨u, hu, hrep⟩ := look t (opmem t hxm) av hx
          have : a.eval (.tmp t) = u := by simp [Act.eval, Array.getD_eq_getD_getElem?, hu]
          rw [this]; exact hrep
        | const c => exact rho_rep (env := []) (by intro t x h; cases h) (.const c) av hx
        | global g => exact rho_rep (env := []) (by intro t x h; cases h) (.global g) av hx
        | func f => exact rho_rep (env := []) (by intro t x h; cases h) (.func f) av hx
    · intro v w' m' r1 r2 r3
      refine hK _ _ ⟨by rw [hd]; exact hI.defers, by rw [hd]; simp [Act.put, hI.size], hI.below.trans r2.below, hI.lowK, known', closed', r.E.heap H, m', ⟨r1, hfix.step r2 (fun id hi => hP.nf id (ids_news hr hi))⟩, fun id ob => ?_, fun t v' ht hv hfr => ?_, fun j q hq hj hfr => ?_⟩
      · show (r.E.new ++ dropL r.E.gone H).lookup id = some ob ↔ _
        by_cases hid : id ∈ r.E.ids
        · constructor
          · intro h
            have h' : r.E.new.lookup id = some ob := by
              rcases lookup_append h with h | ⟨h, _⟩
              · exact h
              · exact absurd hid h
            refine ⟨fun j q hq hj hgq => ?_, .inr ⟨i, r, hr, .inr rfl, h'⟩⟩
            rcases hj with hj | rfl
            · exact (fresh id hid j q hq hj).2.2 hgq
            · rw [hr] at hq; cases hq
              have ha := alive id hgq
              obtain ⟨ob', hl⟩ := Option.isSome_iff_exists.1 ha
              rcases ((hH id ob').1 hl).2 with h | ⟨c, p, hp, hc, h⟩
              · exact (hP.heap id ob' (lookup_mem h)).1 (ids_news hr hid)
              · exact (fresh id hid c p hp hc).2.1 (new_key h)
          · rintro ⟨h1, h2⟩
            rcases h2 with h | ⟨c, p, hp, hc, h⟩
            · exact absurd (ids_news hr hid) (hP.heap id ob (lookup_mem h)).1
            · have : c = i := flat_unique hP.news hp hr (new_key h) hid
              subst this
              rw [hr] at hp; cases hp
              rw [List.lookup_append, h]; rfl
        · have hnl : r.E.new.lookup id = none := lookup_none hid
          have e1 : (r.E.new ++ dropL r.E.gone H).lookup id = (dropL r.E.gone H).lookup id := by rw [List.lookup_append, hnl]; rfl
          rw [e1]
          by_cases hgi : id ∈ r.E.gone
          · rw [drop_gone hgi]
            constructor
            · intro h; cases h
            · rintro ⟨h1, _⟩
              exact absurd hgi (h1 i r hr (.inr rfl))
          · rw [drop_lookup hgi, hH id ob]
            constructor
            · rintro ⟨h1, h2⟩
              refine ⟨fun j q hq hj => ?_, ?_⟩
              · rcases hj with hj | rfl
                · exact h1 j q hq hj
                · rw [hr] at hq; cases hq; exact hgi
              · rcases h2 with h2 | ⟨j, q, hq, hj, h2⟩
                · exact .inl h2
                · exact .inr ⟨j, q, hq, .inl hj, h2⟩
            · rintro ⟨h1, h2⟩
              refine ⟨fun j q hq hj => h1 j q hq (.inl hj), ?_⟩
              rcases h2 with h2 | ⟨j, q, hq, hj, h2⟩
              · exact .inl h2
              · rcases hj with hj | rfl
                · exact .inr ⟨j, q, hq, hj, h2⟩
                · rw [hr] at hq; cases hq; exact absurd (new_key h2) hid
      · obtain ⟨u, hu, hx⟩ := henv0 t v' ht hv (less v' hfr)
        refine ⟨u, ?_, r2.avrep (fun id hid hin => hP.env t v' (mem_lookup hv) id hid (ids_news hr hin)) (fun id hid hin => hfr id hid i r hr (.inr rfl) hin) hx⟩
        have hne : r.d ≠ t := fun e => ht (List.mem_map.2 ⟨r, List.mem_of_getElem? hr, e⟩)
        rw [hd]
        simp only [Act.put]
        rw [Array.getElem?_setIfInBounds_ne hne]; exact hu
      · by_cases hji : j = i
        · subst hji
          rw [hr] at hq; cases hq
          refine ⟨v, ?_, r3⟩
          rw [hd]
          simp [Act.put, hI.size, hdN]
        · have hSj := hj.resolve_right hji
          obtain ⟨u, hu, hx⟩ := hL j q hq hSj (less _ hfr)
          refine ⟨u, ?_, r2.avrep (fun id hid hin => (fresh id hin j q hq hSj).1 (List.mem_append_left _ hid)) (fun id hid hin => hfr id hid i r hr (.inr rfl) hin) hx⟩
          have hne : r.d ≠ q.d := fun e => hji (map_unique hP.ds hq hr e.symm)
          rw [hd]
          simp only [Act.put]
          rw [Array.getElem?_setIfInBounds_ne hne]; exact hu
end Go.Fw
