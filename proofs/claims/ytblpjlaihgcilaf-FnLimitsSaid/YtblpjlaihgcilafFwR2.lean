
import Derived.Test.YtblpjlaihgcilafFwR1
namespace Go.Fw
open Go Go.RowKit
def pickL {β : Type} (l : List (Nat × β)) : List Nat → List (Nat × β)
  | [] => []
  | t :: ts => match l.lookup t with
    | some v => (t, v) :: pickL l ts
    | none => pickL l ts
def restr (ts ids : List Nat) (s : St) : St := ⟨pickL s.env ts, pickL s.heap ids⟩
def okRestr (ids : List Nat) (s : St) : Bool :=
  (s.env.all fun p => p.2.hard.all fun i => ids.contains i) && s.heap.all fun p => p.2.hard.all fun i => ids.contains i
theorem pickL_lookup {β : Type} {l : List (Nat × β)} {ts : List Nat} {t : Nat} {v : β} (h : (pickL l ts).lookup t = some v) : l.lookup t = some v ∧ t ∈ ts := by
  induction ts with
  | nil => cases h
  | cons k ts ih =>
    unfold pickL at h
    split at h
    · rename_i u hu
      simp only [List.lookup_cons] at h
      split at h
      · rename_i e; simp at e; subst e; cases h; exact ⟨hu, List.mem_cons_self⟩
      · exact ⟨(ih h).1, List.mem_cons_of_mem _ (ih h).2⟩
    · exact ⟨(ih h).1, List.mem_cons_of_mem _ (ih h).2⟩
theorem pickL_some {β : Type} {l : List (Nat × β)} {ts : List Nat} {t : Nat} {v : β} (h : l.lookup t = some v) (ht : t ∈ ts) : (pickL l ts).lookup t = some v := by
  induction ts with
  | nil => cases ht
  | cons k ts ih =>
    unfold pickL
    by_cases e : t = k
    · subst e; rw [h]; simp
    · have ht' : t ∈ ts := by cases ht with
        | head => exact absurd rfl e
        | tail _ h => exact h
      have e' : (t == k) = false := by simpa using e
      split
      · simp only [List.lookup_cons, e']; exact ih ht'
      · exact ih ht'
variable {cx : Cx}
theorem restr_xrep {H : List (Nat × Ob)} {m : Mem} {w : World} {ids : List Nat} {x : X} {v : Value} (hh : ∀ i ∈ x.hard, i ∈ ids) (hr : XRep H m w x v) : XRep (pickL H ids) m w x v := by
  have av : ∀ b o, avOf (pickL H ids) m b o → avOf H m b o := by
    rintro b o ⟨id, ob, hl, hb, hm⟩
    exact ⟨id, ob, (pickL_lookup hl).1, hb, hm⟩
  have cr : ∀ {c : C} {v : Value}, CRep w (avOf H m) c v → CRep w (avOf (pickL H ids) m) c v := fun h => CRep.avoid (fun b o _ h' => av b o h') h
  have al : ∀ i, i ∈ ids → (H.lookup i).isSome = true → ((pickL H ids).lookup i).isSome = true := by
    intro i hi h
    obtain ⟨ob, ho⟩ := Option.isSome_iff_exists.1 h
    rw [pickL_some ho hi]; rfl
  cases x with
  | c c => exact cr hr
  | nils => exact hr
  | ptr id off =>
    obtain ⟨h1, h2⟩ := hr
    exact ⟨al id (hh id (by simp [X.hard])) h1, h2⟩
  | arr id =>
    obtain ⟨h1, h2, h3⟩ := hr
    have hi := hh id (by simp [X.hard])
    refine ⟨al id hi h1, ?_, h3⟩
    obtain ⟨ob, ho⟩ := Option.isSome_iff_exists.1 h1
    rw [pickL_some ho hi]; rw [ho] at h2; exact h2
  | elt id i off =>
    obtain ⟨d, n, sz, g, b, cap, h1, h2⟩ := hr
    exact ⟨d, n, sz, g, b, cap, pickL_some h1 (hh id (by simp [X.hard])), h2⟩
  | sub id i j =>
    obtain ⟨n, sz, g, h1, h2⟩ := hr
    exact ⟨n, sz, g, pickL_some h1 (hh id (by simp [X.hard])), h2⟩
  | fx id j c => exact ⟨hr.1, cr hr.2⟩
  | lst id n sz g =>
    obtain ⟨h1, h2⟩ := hr
    refine ⟨cr h1, fun h => h2 ?_⟩
    obtain ⟨ob, ho⟩ := Option.isSome_iff_exists.1 h
    rw [(pickL_lookup ho).1]; rfl
  | clo f is =>
    obtain ⟨h1, h2⟩ := hr
    exact ⟨fun id hi => ⟨al id (hh id (by simpa [X.hard] using hi)) (h1 id hi).1, (h1 id hi).2⟩, h2⟩
theorem restr_tvrep {H : List (Nat × Ob)} {m : Mem} {w : World} {ids : List Nat} {t : TV} {v : Value} (hh : ∀ i ∈ t.hard, i ∈ ids) (hr : TVRep H m w t v) : TVRep (pickL H ids) m w t v := by
  cases t with
  | one x => exact restr_xrep hh hr
  | agg xs =>
    obtain ⟨vs, rfl, h1, h2⟩ := hr
    refine ⟨vs, rfl, h1, fun j x hj => ?_⟩
    obtain ⟨u, hu, hx⟩ := h2 j x hj
    exact ⟨u, hu, restr_xrep (fun i hi => hh i (List.mem_flatMap.2 ⟨x, List.mem_of_getElem? hj, hi⟩)) hx⟩
theorem restr_avrep {H : List (Nat × Ob)} {m : Mem} {w : World} {ids : List Nat} {t : AV} {v : Value} (hh : ∀ i ∈ t.hard, i ∈ ids) (hr : AVRep H m w t v) : AVRep (pickL H ids) m w t v := by
  cases t with
  | v t => exact restr_tvrep hh hr
  | undef => exact hr
  | prt id lo len =>
    obtain ⟨d, n, sz, g, b, cap, h1, h2⟩ := hr
    exact ⟨d, n, sz, g, b, cap, pickL_some h1 (hh id (by simp [AV.hard])), h2⟩
  | tup ts =>
    obtain ⟨vs, rfl, h1, h2⟩ := hr
    refine ⟨vs, rfl, h1, fun j x hj => ?_⟩
    obtain ⟨u, hu, hx⟩ := h2 j x hj
    exact ⟨u, hu, restr_tvrep (fun i hi => hh i (List.mem_flatMap.2 ⟨x, List.mem_of_getElem? hj, hi⟩)) hx⟩
theorem Sub.restr {s : St} (ts ids : List Nat) (h : okRestr ids (restr ts ids s) = true) : Sub cx s (restr ts ids s) := by
  intro a w hR
  obtain ⟨m, ⟨hok, hfix⟩, henv⟩ := hR.mem
  unfold okRestr at h
  simp only [Bool.and_eq_true, List.all_eq_true, List.contains_eq_mem, decide_eq_true_eq] at h
  refine ⟨hR.defers, hR.size, hR.below, hR.lowK, m, ⟨⟨fun id ob hl => ?_, fun id b ha hf => ?_, fun id id' b ha ha' hf hf' => ?_⟩, hfix⟩, fun t v hl => ?_⟩
  · have hl' := (pickL_lookup hl).1
    have := hok.ob id ob hl'
    cases ob with
    | box xs =>
      obtain ⟨b, cur, E, h1, h2, h3, h4, h5⟩ := this
      refine ⟨b, cur, E, h1, h2, h3, h4, fun j x hj => ?_⟩
      obtain ⟨u, hu, hx⟩ := h5 j x hj
      exact ⟨u, hu, restr_xrep (fun i hi => h.2 (id, .box xs) (lookup_mem hl) i (List.mem_flatMap.2 ⟨x, List.mem_of_getElem? hj, hi⟩)) hx⟩
    | ext p => exact this
    | arr d n sz g => exact this
    | lst n sz g => exact this
  · obtain ⟨ob, ho⟩ := Option.isSome_iff_exists.1 ha
    exact hok.lo id b (by rw [(pickL_lookup ho).1]; rfl) hf
  · obtain ⟨ob, ho⟩ := Option.isSome_iff_exists.1 ha
    obtain ⟨ob', ho'⟩ := Option.isSome_iff_exists.1 ha'
    exact hok.apart id id' b (by rw [(pickL_lookup ho).1]; rfl) (by rw [(pickL_lookup ho').1]; rfl) hf hf'
  · obtain ⟨u, hu, hx⟩ := henv t v (pickL_lookup hl).1
    exact ⟨u, hu, restr_avrep (fun i hi => h.1 (t, v) (mem_lookup hl) i hi) hx⟩
def runRegion (P : Program) (N : Lim) (l : List Oper) (hs : List Hint) (ts ids : List Nat) (s : St) : Option (St × Prop) :=
  match runOps P N l.toArray l hs s with
  | some r => let s' := restr ts ids r.1; if okRestr ids s' then some (s', r.2) else none
  | none => none
theorem AW.region {s s' : St} {ob : Prop} {Q : Exit → St → Prop} {id : Nat} {l : List Oper} (hs : List Hint) (ts ids : List Nat) (h : runRegion cx.P cx.N l hs ts ids s = some (s', ob)) (hob : ob) (hq : Q .normal s') :
    AW cx (.region id l.toArray false) s Q := by
  unfold runRegion at h
  split at h
  · rename_i r hr
    simp only at h
    split at h
    · rename_i hc
      cases h
      exact AW.post (AW.run (Q := fun e s1 => ∃ s2, Sub cx s1 s2 ∧ Q e s2) hs (ob := r.2) (s' := r.1) (by rw [hr]) hob ⟨_, Sub.restr ts ids hc, hq⟩)
    · cases h
  · cases h
/-! ### Results -/
def resTV (P : Program) (s : St) : ResultVar → Option TV
  | .tmp t => match s.env.lookup t with
    | some (.v tv) => some tv
    | _ => none
  | .cell t ty => match s.env.lookup t with
    | some (.v (.one (.ptr id 0))) => match s.heap.lookup id with
      | some (.box xs) => if sizeT P ty = some xs.length then asTV P ty xs else none
      | _ => none
    | _ => none
def resTVs (P : Program) (s : St) : List ResultVar → Option (List TV)
  | [] => some []
  | r :: rs => match resTV P s r, resTVs P s rs with
    | some t, some ts => some (t :: ts)
    | _, _ => none
def RetOK (P : Program) (rs : List ResultVar) (s : St) (res : List CT) : Prop :=
  match resTVs P s rs with
  | some ts => isRTs (fun i => s.heap.lookup i) ts res ∧ (ts.flatMap TV.ids).Nodup
  | none => False
theorem isRT_own {n0 : Nat → Prop} {H : List (Nat × Ob)} {m : Mem} {w : World} (hok : HeapOK n0 H m w) {t : TV} {c : CT} {v : Value} (hc : isRT (fun i => H.lookup i) t c) (hnd : t.ids.Nodup) (hr : TVRep H m w t v) :
    ∃ F : Nat → Nat → Prop, RTRep w F c v ∧ (∀ j b, F j b → ∃ id ∈ t.ids, (H.lookup id).isSome = true ∧ m.foot id b) ∧ ∀ j j' b, F j b → F j' b → j = j' := by
  unfold isRT at hc
  split at hc
  · obtain ⟨F, h1, h2⟩ := isRX_own hok hc hr
    refine ⟨fun j b => j = 0 ∧ F b, ?_, fun j b hb => h2 b hb.2, fun j j' b hb hb' => by rw [hb.1, hb'.1]⟩
    show OwnC w _ (fun b => 0 = 0 ∧ F b) v
    simpa using h1
  · obtain ⟨vs, rfl, h1, h2⟩ := hr
    obtain ⟨h3, F, h4, h5, h6⟩ := isRXs_own hok _ _ vs.toList hc hnd (by simpa using h1) (fun j x hj => by simpa using h2 j x hj)
    exact ⟨F, ⟨vs, rfl, by omega, fun j c hj => by simpa using h4 j c hj⟩, h5, h6⟩
  · exact hc.elim
theorem isRTs_own {n0 : Nat → Prop} {H : List (Nat × Ob)} {m : Mem} {w : World} (hok : HeapOK n0 H m w) : ∀ (ts : List TV) (cs : List CT) (vs : List Value), isRTs (fun i => H.lookup i) ts cs → (ts.flatMap TV.ids).Nodup → vs.length = ts.length →
    (∀ (j : Nat) (t : TV), ts[j]? = some t → ∃ u, vs[j]? = some u ∧ TVRep H m w t u) →
    cs.length = ts.length ∧ ∃ F : Nat → Nat → Nat → Prop, (∀ (j : Nat) (c : CT), cs[j]? = some c → ∃ u, vs[j]? = some u ∧ RTRep w (F j) c u) ∧
      (∀ i j b, F i j b → ∃ id ∈ ts.flatMap TV.ids, (H.lookup id).isSome = true ∧ m.foot id b) ∧ ∀ i j i' j' b, F i j b → F i' j' b → i = i' ∧ j = j' := by
  intro ts
  induction ts with
  | nil =>
    intro cs vs h _ _ _
    cases cs with
    | nil => exact ⟨rfl, fun _ _ _ => False, fun j c hj => by simp at hj, fun i j b h => h.elim, fun i j i' j' b h => h.elim⟩
    | cons => exact h.elim
  | cons x xs ih =>
    intro cs vs h hnd hl hv
    cases cs with
    | nil => exact h.elim
    | cons c cs =>
      cases vs with
      | nil => simp at hl
      | cons v vs =>
        simp only [List.flatMap_cons, List.nodup_append] at hnd
        obtain ⟨h1, F, h2, h3, h4⟩ := ih cs vs h.2 hnd.2.1 (by simpa using hl) (fun j x hj => by simpa using hv (j + 1) x (by simpa using hj))
        obtain ⟨u, hu, hx⟩ := hv 0 x rfl
        simp at hu
        subst hu
        obtain ⟨F0, g1, g2, g3⟩ := isRT_own hok h.1 hnd.1 hx
        have dis : ∀ i j j' b, F0 j b → ¬ F i j' b := by
          intro i j j' b hb hb'
          obtain ⟨id, hi, ha, hf⟩ := g2 j b hb
          obtain ⟨id', hi', ha', hf'⟩ := h3 i j' b hb'
          exact hnd.2.2 id hi id' hi' (hok.apart id id' b ha ha' hf hf')
        refine ⟨by simp [h1], fun i => match i with | 0 => F0 | i + 1 => F i, fun j d hj => ?_, fun i j b hb => ?_, fun i j i' j' b hb hb' => ?_⟩
        · cases j with
          | zero => simp at hj; subst hj; exact ⟨v, rfl, g1⟩
          | succ j => obtain ⟨u, hu, ho⟩ := h2 j d (by simpa using hj); exact ⟨u, by simpa using hu, ho⟩
        · cases i with
          | zero => obtain ⟨id, hi, r⟩ := g2 j b hb; exact ⟨id, List.mem_append_left _ hi, r⟩
          | succ i => obtain ⟨id, hi, r⟩ := h3 i j b hb; exact ⟨id, List.mem_append_right _ hi, r⟩
        · cases i <;> cases i'
          · exact ⟨rfl, g3 j j' b hb hb'⟩
          · exact absurd hb' (dis _ _ _ b hb)
          · exact absurd hb (dis _ _ _ b hb')
          · obtain ⟨e1, e2⟩ := h4 _ _ _ _ b hb hb'; exact ⟨congrArg _ e1, e2⟩
theorem resTV_run {s : St} {a : Act} {w : World} {m : Mem} {n0 : Nat → Prop} {P : Program} (hok : HeapOK n0 s.heap m w) (henv : ∀ t v, s.env.lookup t = some v → ∃ u, a.tmps[t]? = some u ∧ AVRep s.heap m w v u) {r : ResultVar} {tv : TV} (h : resTV P s r = some tv) :
    ∃ v, ((fun (r : ResultVar) => match r with | .tmp t => (Pure.pure (a.tmps.getD t undef) : Sem Value) | .cell ad t => do loadVar t (← asAddr (a.tmps.getD ad undef))) r).run P w = .ok v w ∧ TVRep s.heap m w tv v := by
  cases r with
  | tmp t =>
    simp only [resTV] at h
    split at h
    · rename_i tv' hl
      cases h
      obtain ⟨u, hu, hr⟩ := henv t _ hl
      refine ⟨u, ?_, hr⟩
      simp [Array.getD_eq_getD_getElem?, hu]
    · cases h
  | cell t ty =>
    simp only [resTV] at h
    split at h
    · rename_i id hl
      split at h
      · rename_i xs hb
        split at h
        · rename_i hs
          obtain ⟨u, hu, ha, b, hv, rfl⟩ := henv t _ hl
          obtain ⟨b', cur, E, hv', hbk, hcs, _, hx⟩ := hok.ob id _ hb
          rw [hv'] at hv; cases hv
          obtain ⟨v, h1, h2⟩ := run_loadVar_tv (H := s.heap) (m := m) (w := w) (b := b) (off := 0) hs h rfl (fun j x hj => by
            obtain ⟨u', hu', hxr⟩ := hx j x hj
            exact ⟨u', by rw [cell_of_row w b _ cur E (0, 0) hbk, Nat.zero_add]; exact hu', hxr⟩)
          refine ⟨v, ?_, h2⟩
          simp only [Array.getD_eq_getD_getElem?, hu, Option.getD_some, asAddr, Sem.run_bind, Sem.run_pure, Result.andThen_ok, h1]
        · cases h
      · cases h
    · cases h
theorem resTVs_run {s : St} {a : Act} {w : World} {m : Mem} {n0 : Nat → Prop} {P : Program} (hok : HeapOK n0 s.heap m w) (henv : ∀ t v, s.env.lookup t = some v → ∃ u, a.tmps[t]? = some u ∧ AVRep s.heap m w v u) : ∀ {rs : List ResultVar} {ts : List TV}, resTVs P s rs = some ts →
    ∃ vs : List Value, (rs.mapM (fun (r : ResultVar) => match r with | .tmp t => (Pure.pure (a.tmps.getD t undef) : Sem Value) | .cell ad t => do loadVar t (← asAddr (a.tmps.getD ad undef)))).run P w = .ok vs w ∧ vs.length = ts.length ∧
      ∀ (j : Nat) (t : TV), ts[j]? = some t → ∃ u, vs[j]? = some u ∧ TVRep s.heap m w t u := by
  intro rs
  induction rs with
  | nil => intro ts h; cases h; exact ⟨[], by simp, rfl, fun j t hj => by simp at hj⟩
  | cons r rs ih =>
    intro ts h
    unfold resTVs at h
    split at h
    · rename_i t ts' h1 h2
      cases h
      obtain ⟨vs, g1, g2, g3⟩ := ih h2
      obtain ⟨v, g4, g5⟩ := resTV_run hok henv h1
      refine ⟨v :: vs, ?_, by simp [g2], fun j t' hj => ?_⟩
      · rw [List.mapM_cons, Sem.run_bind, g4, Result.andThen_ok, Sem.run_bind, g1]
        rfl
      · cases j with
        | zero => simp at hj; subst hj; exact ⟨v, rfl, g5⟩
        | succ j => obtain ⟨u, hu, hr⟩ := g3 j t' (by simpa using hj); exact ⟨u, by simpa using hu, hr⟩
    · cases h
theorem RetOK.runM {s : St} {a : Act} {w : World} {m : Mem} {fn : Func} {res : List CT} (hok : HeapOK cx.K s.heap m w) (henv : ∀ t v, s.env.lookup t = some v → ∃ u, a.tmps[t]? = some u ∧ AVRep s.heap m w v u) (h : RetOK cx.P fn.results.toList s res) :
    ∃ v F, (results fn a.tmps).run cx.P w = .ok v w ∧ (∀ i j b, F i j b → ∃ ts id, resTVs cx.P s fn.results.toList = some ts ∧ id ∈ ts.flatMap TV.ids ∧ (s.heap.lookup id).isSome = true ∧ m.foot id b) ∧ (∀ i j i' j' b, F i j b → F i' j' b → i = i' ∧ j = j') ∧ RTsRep w F res v := by
  unfold RetOK at h
  split at h
  · rename_i ts hts
    obtain ⟨hrt, hnd⟩ := h
    obtain ⟨vs, h1, h2, h3⟩ := resTVs_run hok henv hts
    obtain ⟨h4, F, h5, h6, h7⟩ := isRTs_own hok ts res vs hrt hnd h2 h3
    refine ⟨if h : vs.toArray.size = 1 then vs.toArray[0] else .tuple vs.toArray, F, ?_, fun i j b hb => ?_, h7, ?_⟩
    · unfold results
      rw [Array.mapM_eq_mapM_toList]
      simp only [Sem.run_bind, Sem.run_map]
      have : ∀ (g : ResultVar → Sem Value), (List.mapM g fn.results.toList).run cx.P w = .ok vs w → (((List.mapM g fn.results.toList).run cx.P w).andThen fun x w' => Result.ok x.toArray w').andThen (fun a w' => (Pure.pure (if h : a.size = 1 then a[0] else Value.tuple a) : Sem Value).run cx.P w') = .ok (if h : vs.toArray.size = 1 then vs.toArray[0] else .tuple vs.toArray) w := by
        intro g hg; rw [hg]; rfl
      exact this _ h1
    · obtain ⟨id, hi, ha, hf⟩ := h6 i j b hb
      exact ⟨ts, id, hts, hi, ha, hf⟩
    · have hlen : vs.length = res.length := by omega
      have many : res.length ≠ 1 → (∃ ws : Array Value, (if h : vs.toArray.size = 1 then vs.toArray[0] else .tuple vs.toArray) = .tuple ws ∧ ws.size = res.length ∧ ∀ (i : Nat) (t : CT), res[i]? = some t → ∃ u, ws[i]? = some u ∧ RTRep w (F i) t u) := by
        intro hne
        have : ¬ vs.toArray.size = 1 := by simp; omega
        rw [dif_neg this]
        exact ⟨vs.toArray, rfl, by simpa using hlen, fun i t hi => by simpa using h5 i t hi⟩
      cases res with
      | nil => exact many (by simp)
      | cons t ts' =>
        cases ts' with
        | cons t' ts' => exact many (by simp)
        | nil =>
          have : vs.length = 1 := by simpa using hlen
          match vs, this, h5 with
          | [v], _, h5 =>
            obtain ⟨u, hu, ho⟩ := h5 0 t rfl
            simp at hu
            subst hu
            exact ho
  · exact h.elim
theorem RetOK.run {s : St} {a : Act} {w : World} {fn : Func} {res : List CT} (hR : R cx s a w) (hK : cx.K = fun b => b < cx.w0.heap.size) (h : RetOK cx.P fn.results.toList s res) :
    ∃ v, (results fn a.tmps).run cx.P w = .ok v w ∧ Res cx.w0.heap.size w res v := by
  obtain ⟨m, ⟨hok, _⟩, henv⟩ := hR.mem
  obtain ⟨v, F, h1, h2, h3, h4⟩ := RetOK.runM (fn := fn) hok henv h
  refine ⟨v, h1, F, fun i j b hb => ?_, h3, h4⟩
  obtain ⟨_, id, _, _, ha, hf⟩ := h2 i j b hb
  obtain ⟨g1, g2⟩ := hok.lo id b ha hf
  rw [hK] at g1
  exact ⟨Nat.le_of_not_lt g1, g2⟩
@[reducible] def cx0 (P : Program) (w0 : World) (n : Nat) : Cx := ⟨P, w0, ⟨0, n⟩, fun b => b < w0.heap.size, fun _ => undef, fun _ _ => undef⟩
/-! ### A function's entry -/
def argAV : CT → AV
  | .one c => .v (.one (.c c))
  | .agg cs => .v (.agg (cs.map .c))
def argEnv : Nat → List CT → List (Nat × AV)
  | _, [] => []
  | k, t :: ts => (k, argAV t) :: argEnv (k + 1) ts
theorem argEnv_lookup : ∀ (ts : List CT) (k t : Nat) (v : AV), (argEnv k ts).lookup t = some v → k ≤ t ∧ ∃ c, ts[t - k]? = some c ∧ v = argAV c := by
  intro ts
  induction ts with
  | nil => intro k t v h; cases h
  | cons c ts ih =>
    intro k t v h
    simp only [argEnv, List.lookup_cons] at h
    split at h
    · rename_i e; simp at e; subst e; cases h; exact ⟨Nat.le_refl _, c, by simp, rfl⟩
    · obtain ⟨h1, c', h2, h3⟩ := ih (k + 1) t v h
      refine ⟨by omega, c', ?_, h3⟩
      have : t - k = (t - (k + 1)) + 1 := by omega
      rw [this, List.getElem?_cons_succ]; exact h2
theorem CTRep.av {w : World} {m : Mem} {t : CT} {v : Value} (h : CTRep w t v) : AVRep [] m w (argAV t) v := by
  have cr : ∀ {c : C} {v : Value}, CRep w (fun _ _ => False) c v → CRep w (avOf [] m) c v := fun h => CRep.avoid (by rintro b o _ ⟨id, ob, hl, _⟩; cases hl) h
  cases t with
  | one c => exact cr h
  | agg cs =>
    obtain ⟨vs, rfl, h1, h2⟩ := h
    refine ⟨vs, rfl, by simpa using h1, fun j x hj => ?_⟩
    rw [List.getElem?_map] at hj
    simp only [Option.map_eq_some_iff] at hj
    obtain ⟨c, hc, rfl⟩ := hj
    obtain ⟨u, hu, hr⟩ := h2 j c hc
    exact ⟨u, hu, cr hr⟩
theorem callOK_of_AW {P : Program} {f : FuncId} {fn : Func} {c : Code} {args res : List CT} (hf : P.funcs[f]? = some fn) (hb : fn.body = some c) (hname : (fn.name == "runtime.NumGoroutine") = false)
    (hN : args.length ≤ fn.ntmps) (h : ∀ w0, AW (cx0 P w0 fn.ntmps) c ⟨argEnv 0 args, []⟩ fun e s => (e = .normal ∨ e = .ret) ∧ RetOK P fn.results.toList s res) : CallOK P f args res := by
  intro w vs hgd hargs
  unfold Invk
  have hrun : (callFunc f vs).run P w = .ok (.enter f vs) w := by
    simp only [callFunc, Sem.run_bind, run_program, Result.andThen_ok, hf, hname, hb, Bool.false_eq_true, ite_false, Option.isNone_some, Sem.run_pure]
  rw [hrun]
  refine ⟨rfl, calls_of_wp hf hb ?_⟩
  refine wp_mono (h w { tmps := vs ++ Array.replicate (fn.ntmps - vs.size) undef, defers := [] } w ?_) ?_
  · refine ⟨rfl, ?_, BelowK.refl _ _, ⟨fun _ h => h, hgd, fun b hb => hgd.lt hb⟩, ⟨fun _ => undef, fun _ _ => False, fun _ _ => undef⟩, ⟨{ ob := fun id ob h => (by cases h), lo := fun id b h => (by cases h), apart := fun id id' b h => (by cases h) }, fun id h => absurd h (Nat.not_lt_zero _)⟩, fun t v hl => ?_⟩
    · have := hargs.1
      show (vs ++ Array.replicate (fn.ntmps - vs.size) undef).size = fn.ntmps
      simp; omega
    · obtain ⟨_, ct, hct, rfl⟩ := argEnv_lookup args 0 t v hl
      obtain ⟨u, hu, hr⟩ := hargs.2 t ct (by simpa using hct)
      refine ⟨u, ?_, CTRep.av hr⟩
      have ht : t < vs.size := (Array.getElem?_eq_some_iff.1 hu).1
      show (vs ++ _)[t]? = some u
      rw [Array.getElem?_append, if_pos ht]; exact hu
  · rintro e a' w' ⟨s', ⟨he, hret⟩, hR⟩
    obtain ⟨v, h1, h2⟩ := RetOK.run (fn := fn) hR rfl hret
    have : a'.defers = [] ∧ ∃ v, (results fn a'.tmps).run P w' = .ok v w' ∧ ∃ v_1, Ending.returned v = .returned v_1 ∧ Below w.heap.size w w' ∧ Res w.heap.size w' res v_1 := ⟨hR.defers, v, h1, v, rfl, BelowK.below hR.below, h2⟩
    rcases he with rfl | rfl
    · exact this
    · exact this
end Go.Fw
