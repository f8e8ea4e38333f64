
import Derived.Test.YtblpjlaihgcilafFwR4
namespace Go.Fw
open Go Go.RowKit
variable {P : Program}
def Still (P : Program) (s : Sem Value) (v : Value) : Prop := ∀ w, s.run P w = .ok v w
theorem still_add (t : TypeId) (k : IntKind) (a b : Int) : Still P (binOp .add t (.int k a) (.int k b)) (.int k (k.wrap (a + b))) := fun w => by
  simp [binOp, Op.intArith]
theorem still_sub (t : TypeId) (k : IntKind) (a b : Int) : Still P (binOp .sub t (.int k a) (.int k b)) (.int k (k.wrap (a - b))) := fun w => by
  simp [binOp, Op.intArith]
theorem still_mul (t : TypeId) (k : IntKind) (a b : Int) : Still P (binOp .mul t (.int k a) (.int k b)) (.int k (k.wrap (a * b))) := fun w => by
  simp [binOp, Op.intArith]
def evStill (P : Program) (ρ : Rho) (o : Oper) : Option AV :=
  match o.op with
  | .move x => ρ x
  | .assign x => ρ x
  | .binOp op _ x y _ => match ρ x, ρ y with
    | some (.v (.one (.c (.int k a)))), some (.v (.one (.c (.int k' b)))) => if k = k' then match op with
        | .add => some (.v (.one (.c (.int k (k.wrap (a + b))))))
        | .sub => some (.v (.one (.c (.int k (k.wrap (a - b))))))
        | .mul => some (.v (.one (.c (.int k (k.wrap (a * b))))))
        | _ => none
      else none
    | _, _ => none
  | .nilCheck x => match ρ x with
    | some (.v (.one (.ptr id off))) => some (.v (.one (.ptr id off)))
    | some (.v (.one (.elt id i off))) => some (.v (.one (.elt id i off)))
    | some (.v (.one (.c (.ptr m get)))) => some (cv (.ptr m get))
    | _ => none
  | .fieldAddr t x k => match ρ x with
    | some u => (evFieldAddr P t u k).map (·.av)
    | none => none
  | _ => none
theorem run_fieldAny {H : List (Nat × Ob)} {m : Mem} {w : World} {t : TypeId} {k : Nat} {av : AV} {v : Value} {E : Eff} (h : evFieldAddr P t av k = some E) (hr : AVRep H m w av v) : ∃ r, (∀ w', (Instr.fieldAt t v k).run P w' = .ok r w') ∧ AVRep H m w E.av r := by
  unfold evFieldAddr at h
  split at h
  · rename_i ft o n id off hft
    split at h
    · rename_i hn
      cases h
      obtain ⟨ha, b, hv, rfl⟩ := hr
      exact ⟨_, fun w' => run_fieldAt hft hn, ha, b, hv, rfl⟩
    · cases h
  · rename_i ft o n mm get hft
    split at h
    · rename_i hn
      cases h
      obtain ⟨b, off, rfl, hc⟩ := hr
      refine ⟨_, fun w' => run_fieldAt hft hn.1, b, off + o, rfl, fun j hj => ?_⟩
      have := hc (o + j) (by omega)
      rwa [← Nat.add_assoc] at this
    · cases h
  · rename_i ft o n id i off hft
    split at h
    · rename_i hn
      cases h
      obtain ⟨d', n', sz', g', b, cap, hl, hi, hv, rfl⟩ := hr
      refine ⟨_, fun w' => run_fieldAt hft hn, d', n', sz', g', b, cap, hl, hi, hv, ?_⟩
      rw [Nat.add_assoc]
    · cases h
  · cases h
theorem evStill_go {ρ : Rho} {o : Oper} {a : Act} {av : AV} {H : List (Nat × Ob)} {m : Mem} {w : World} (h : evStill P ρ o = some av) (hr : ∀ x ∈ o.op.operands.toList, ∀ av, ρ x = some av → AVRep H m w av (a.eval x)) :
    ∃ v, (∀ w', (execOp a.eval o).run P w' = .ok (.value v) w') ∧ AVRep H m w av v := by
  unfold evStill at h
  split at h
  · rename_i x ho
    exact ⟨a.eval x, fun w' => by simp [execOp, ho], hr x (by simp [ho, Op.operands]) av h⟩
  · rename_i x ho
    exact ⟨a.eval x, fun w' => by simp [execOp, ho], hr x (by simp [ho, Op.operands]) av h⟩
  · rename_i op t x y yt ho
    split at h
    · rename_i k p k' q hx hy
      have e1 : a.eval x = .int k p := hr x (by simp [ho, Op.operands]) _ hx
      have e2 : a.eval y = .int k' q := hr y (by simp [ho, Op.operands]) _ hy
      split at h
      · rename_i hk
        subst hk
        split at h
        · cases h
          exact ⟨.int k (k.wrap (p + q)), fun w' => by simp [execOp, ho, e1, e2, eqGuard, still_add t k p q w'], rfl⟩
        · cases h
          exact ⟨.int k (k.wrap (p - q)), fun w' => by simp [execOp, ho, e1, e2, eqGuard, still_sub t k p q w'], rfl⟩
        · cases h
          exact ⟨.int k (k.wrap (p * q)), fun w' => by simp [execOp, ho, e1, e2, eqGuard, still_mul t k p q w'], rfl⟩
        · cases h
      · cases h
    · cases h
  · rename_i x ho
    have go : ∀ (t : AV), ρ x = some t → av = t → (∀ v, AVRep H m w t v → ∃ p, v = .pointer (some p)) → ∃ v, (∀ w', (execOp a.eval o).run P w' = .ok (.value v) w') ∧ AVRep H m w av v := by
      intro t ht he hv
      subst he
      have hx := hr x (by simp [ho, Op.operands]) _ ht
      obtain ⟨p, hp⟩ := hv _ hx
      exact ⟨a.eval x, fun w' => by simp [execOp, ho, hp], hx⟩
    split at h
    · rename_i id off hx; cases h; exact go _ hx rfl (by rintro v ⟨_, b, _, rfl⟩; exact ⟨_, rfl⟩)
    · rename_i id i off hx; cases h; exact go _ hx rfl (by rintro v ⟨_, _, _, _, _, _, _, _, _, rfl⟩; exact ⟨_, rfl⟩)
    · rename_i mm get hx; cases h; exact go _ hx rfl (by rintro v ⟨b, off, rfl, _⟩; exact ⟨_, rfl⟩)
    · cases h
  · rename_i t x k ho
    split at h
    · rename_i u hu
      simp only [Option.map_eq_some_iff] at h
      obtain ⟨E, hE, rfl⟩ := h
      obtain ⟨r, h1, h2⟩ := run_fieldAny (P := P) hE (hr x (by simp [ho, Op.operands]) u hu)
      exact ⟨r, fun w' => by simp only [execOp, ho]; rw [run_value, h1 w']; rfl, h2⟩
    · cases h
  · cases h
def runFirst (P : Program) (N : Lim) (l : List Oper) : List Nat → List Nat → St → Option St
  | [], _, s => some s
  | i :: F, done, s => match l[i]? with
    | some o => match o.guard, o.dst, evStill P (rho s.env) o with
      | none, some d, some av =>
        if decide (d < N.n) && !done.contains i && (onOf o).all (fun j => done.contains j && decide (j < l.length)) && (l.zipIdx.all fun p => p.2 == i || done.contains p.2 || (onOf p.1).contains i || o.apart l.toArray p.1) then
          runFirst P N l F (i :: done) ⟨(d, av) :: s.env, s.heap⟩
        else none
      | _, _, _ => none
    | none => none
variable {cx : Cx} {Q : Exit → Act → World → Prop}
theorem R.putv {s : St} {a : Act} {w : World} {d : Nat} {av : AV} {v : Value} (h : R cx s a w) (hd : d < cx.N.n) (hv : ∀ m, HeapOK cx.K s.heap m w → (∀ t x, s.env.lookup t = some x → ∃ u, a.tmps[t]? = some u ∧ AVRep s.heap m w x u) → AVRep s.heap m w av v) :
    R cx ⟨(d, av) :: s.env, s.heap⟩ (a.put (some d) v) w := by
  obtain ⟨m, hok, henv⟩ := h.mem
  refine ⟨h.defers, by simp [Act.put, h.size], h.below, h.lowK, m, hok, fun t x hl => ?_⟩
  simp only [List.lookup_cons] at hl
  split at hl
  · rename_i e
    simp at e
    subst e
    cases hl
    exact ⟨v, by simp [Act.put, h.size, hd], hv m hok.1 henv⟩
  · rename_i e
    obtain ⟨u, hu, hx⟩ := henv t x hl
    have hne : d ≠ t := fun h => by subst h; simp at e
    exact ⟨u, by simp only [Act.put]; rw [Array.getElem?_setIfInBounds_ne hne]; exact hu, hx⟩
theorem any_first {l : List Oper} (hsel : Region.noSelect l.toArray = true) (hQ : ∀ c a d v w, Q (.panic c) (a.put d v) w → Q (.panic c) a w) : ∀ (F done : List Nat) (s s1 : St) (listed : Array Bool) (fuel : Nat) (a : Act) (w : World),
    runFirst cx.P cx.N l F done s = some s1 → listed.size = l.length → (∀ i, i < l.length → (listed.getD i true = true ↔ i ∈ done)) → R cx s a w →
    (∀ (listed' : Array Bool) a', listed'.size = l.length → (∀ i, i < l.length → (listed'.getD i true = true ↔ i ∈ F ∨ i ∈ done)) → R cx s1 a' w → wpAny cx.P .any l.toArray Q fuel listed' a' w) →
    wpAny cx.P .any l.toArray Q (fuel + F.length) listed a w := by
  intro F
  induction F with
  | nil =>
    intro done s s1 listed fuel a w h hsz hl hR hk
    cases h
    exact hk listed a hsz (fun i hi => by simpa using hl i hi) hR
  | cons i F ih =>
    intro done s s1 listed fuel a w h hsz hl hR hk
    unfold runFirst at h
    split at h
    case h_2 => cases h
    rename_i o ho
    split at h
    case h_2 => cases h
    rename_i d av hg hd hev
    split at h
    case isFalse => cases h
    rename_i hc
    simp only [Bool.and_eq_true, decide_eq_true_eq, Bool.not_eq_true', List.contains_eq_mem, decide_eq_false_iff_not, List.all_eq_true, Bool.or_eq_true, beq_iff_eq] at hc
    obtain ⟨⟨⟨hdN, hnd⟩, hon⟩, hap⟩ := hc
    have hil : i < l.length := (List.getElem?_eq_some_iff.1 ho).1
    have hoa : l.toArray[i]? = some o := by simpa using ho
    have getf : ∀ j, j < l.length → listed.getD j false = listed.getD j true := fun j hj => by
      simp only [Array.getD_eq_getD_getElem?]
      rw [Array.getElem?_eq_getElem (by rw [hsz]; exact hj)]; rfl
    have hlen : ∀ j ∈ done, j < l.length → listed.getD j false = true := fun j hj hjl => by rw [getf j hjl]; exact (hl j hjl).2 hj
    obtain ⟨m, hok, henv⟩ := hR.mem
    obtain ⟨v, hv, _⟩ := evStill_go (P := cx.P) hev (fun x _ av hx => rho_rep henv x av hx)
    have hR' : R cx ⟨(d, av) :: s.env, s.heap⟩ (a.put (some d) v) w := hR.putv hdN fun m' hok' henv' => by
      obtain ⟨v', hv', hx⟩ := evStill_go (P := cx.P) hev (fun x _ av hx => rho_rep (w := w) henv' x av hx)
      have := (hv w).symm.trans (hv' w)
      cases this
      exact hx
    have hready : i ∈ Region.ready .any l.toArray listed := ready_mem.2 ⟨by simpa using hil, by
      cases hg' : listed.getD i true with
      | false => rfl
      | true => exact absurd ((hl i hil).1 hg') hnd, o, hoa, fun j hj => by
      exact hlen j (hon j hj).1 (hon j hj).2⟩
    have hfuel : fuel + (i :: F).length = (fuel + F.length) + 1 := by simp; omega
    rw [hfuel]
    refine wpAny_first (i := i) (v := v) hoa (fun j o' cs b hj => Region.noSelect_spec hsel j o' cs b hj) (fun c a' w' => by rw [hd]; exact hQ c a' (some d) v w') (fuel + F.length) listed a w ?_ hready (.inl ⟨by unfold Region.wanted; rw [hg], hv⟩) ?_
    · intro j oj hj hji hun hno
      have hjl : j < l.length := by
        have := (Array.getElem?_eq_some_iff.1 hj).1
        simpa using this
      rcases hap (oj, j) (List.mem_zipIdx_iff_getElem?.2 (by simpa using hj)) with ((h | h) | h) | h
      · exact absurd h hji
      · rw [(hl j hjl).2 h] at hun; cases hun
      · obtain ⟨e, he, heq⟩ := List.mem_map.1 h
        obtain ⟨he1, he2⟩ := List.mem_filter.1 he
        exact absurd heq (hno e (by simpa using he1) he2)
      · exact h
    · rw [hd]
      refine ih (i :: done) _ s1 _ fuel _ w h (by simpa using hsz) (fun j hj => ?_) hR' (fun listed' a' h1 h2 h3 => hk listed' a' h1 (fun j hj => ?_) h3)
      · rw [getD_set (by omega)]
        by_cases e : j = i
        · simp [e]
        · rw [if_neg e, hl j hj]; simp [e]
      · rw [h2 j hj]
        simp only [List.mem_cons]
        constructor
        · rintro (h | h | h)
          · exact .inl (.inr h)
          · exact .inl (.inl h)
          · exact .inr h
        · rintro ((h | h) | h)
          · exact .inr (.inl h)
          · exact .inl h
          · exact .inr (.inr h)
def restOf (l : List Oper) (F : List Nat) : List Nat := (List.range l.length).filter fun i => !F.contains i
def runFT (P : Program) (N : Lim) (l : List Oper) (F : List Nat) (hs : List Hint) (ts ids : List Nat) (s : St) : Option (St × Prop) :=
  if Region.noSelect l.toArray && decide ((restOf l F).length + F.length = l.length) then
    match runFirst P N l F [] s with
    | some s1 => runTree P N l hs ts ids (restOf l F).length (restOf l F) s1
    | none => none
  else none
theorem AW.first {s s' : St} {ob : Prop} {Q : Exit → St → Prop} {id : Nat} {l : List Oper} (hm : cx.P.follows .mixedOrders = true) (F : List Nat) (hs : List Hint) (ts ids : List Nat) (h : runFT cx.P cx.N l F hs ts ids s = some (s', ob)) (hob : ob) (hq : Q .normal s') :
    AW cx (.region id l.toArray true) s Q := by
  intro a w hR
  unfold runFT at h
  split at h
  case isFalse => cases h
  rename_i hc
  simp only [Bool.and_eq_true, decide_eq_true_eq] at hc
  split at h
  case h_2 => cases h
  rename_i s1 hF
  have hR0 : R cx s a { w with drawn := w.drawn + 1 } := by
    obtain ⟨m, ⟨hok, hfix⟩, henv⟩ := hR.mem
    have hdr : Drew w { w with drawn := w.drawn + 1 } := ⟨rfl, rfl, rfl, rfl⟩
    refine ⟨hR.defers, hR.size, hR.below.trans (hdr.below _), hR.lowK, m, ⟨hok.drew hdr, hfix⟩, fun t v hl => ?_⟩
    obtain ⟨u, hu, hx⟩ := henv t v hl
    exact ⟨u, hu, (Step.drew (n0 := cx.K) hdr).avrep (by simp) (by simp) hx⟩
  have hsz : l.toArray.size = (restOf l F).length + F.length := by simp [hc.2]
  refine wp_mono (Q := fun e a' w' => e = .normal ∧ R cx s' a' w') (wp_region_any hm ?_) (fun e a' w' ⟨he, hr⟩ => ⟨s', he ▸ hq, hr⟩)
  rw [hsz]
  refine any_first hc.1 (fun c a d v w h => by cases h.1) F [] s s1 _ _ a _ hF (by simp [hc.2]) (fun i hi => ?_) hR0 (fun listed' a' h1 h2 h3 => ?_)
  · have : i < (restOf l F).length + F.length := by omega
    simp [this]
  · refine any_tree (fun a w hr => ⟨rfl, hr⟩) _ (restOf l F) s1 ob listed' _ a' _ h hob h1 (fun i hi => ?_) (fun i hi => ?_) (List.nodup_range.sublist List.filter_sublist) (Nat.le_refl _) h3
    · have := h2 i hi
      simp only [restOf, List.mem_filter, List.mem_range, List.contains_eq_mem, Bool.not_eq_true', decide_eq_false_iff_not]
      simp only [List.not_mem_nil, or_false] at this
      constructor
      · intro h
        refine ⟨hi, fun hf => ?_⟩
        rw [this.2 hf] at h; cases h
      · rintro ⟨_, h⟩
        cases hg : listed'.getD i true with
        | false => rfl
        | true => exact absurd (this.1 hg) h
    · simp only [restOf, List.mem_filter, List.mem_range] at hi
      exact hi.1
abbrev vc (c : C) : AV := .v (.one (.c c))
abbrev vp (i o : Nat) : AV := .v (.one (.ptr i o))
abbrev Tt : Prop := True
theorem tr : True := trivial
abbrev Eqc (c : C) : Prop := c = c
abbrev T2 (p : Prop) : Prop := True ∧ True ∧ p
abbrev T4 (p : Prop) : Prop := True ∧ True ∧ True ∧ True ∧ p
end Go.Fw
