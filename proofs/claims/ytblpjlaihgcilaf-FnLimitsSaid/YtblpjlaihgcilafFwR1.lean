
import Derived.Test.YtblpjlaihgcilafFwS5
import Derived.Test.YtblpjlaihgcilafFwW
namespace Go.Fw
open Go Go.RowKit
def guardOf (ops : Array Oper) (env : List (Nat × AV)) (o : Oper) : Option Bool :=
  match o.guard with
  | none => some true
  | some (j, want) => match (ops[j]?).bind (·.dst) with
    | some d => match env.lookup d with
      | some (.v (.one (.c (.bool b)))) => some (b == want)
      | some .undef => some false
      | _ => none
    | none => none
def okNew (N : Lim) (E : Eff) (s : St) : Bool :=
  decide E.ids.Nodup && E.ids.all (fun i => Nat.ble N.nf i) && (E.ids.isEmpty || (s.env.all fun p => p.2.ids.all fun i => !E.ids.contains i) && s.heap.all fun p => p.2.ids.all fun i => !E.ids.contains i)
def okGone (gone : List Nat) (s : St) : Bool :=
  gone.isEmpty || (decide gone.Nodup && (gone.all fun g => (s.heap.lookup g).isSome) && s.heap.all fun p => p.2.hard.all fun i => !gone.contains i)
def forget (gone : List Nat) (env : List (Nat × AV)) : List (Nat × AV) :=
  if gone.isEmpty then env else
    let bad := (env.filter fun p => p.2.hard.any fun i => gone.contains i).map (·.1)
    env.filter fun p => !bad.contains p.1
def lose (gone : List Nat) (H : List (Nat × Ob)) : List (Nat × Ob) := if gone.isEmpty then H else dropL gone H
def okNewM (N : Lim) (E : EffM) (s : St) : Bool :=
  decide (E.new.map (·.1)).Nodup && (E.new.map (·.1)).all (fun i => Nat.ble N.nf i) && ((E.new.map (·.1)).isEmpty || (s.env.all fun p => p.2.ids.all fun i => !(E.new.map (·.1)).contains i) && s.heap.all fun p => !(E.new.map (·.1)).contains p.1 && p.2.ids.all fun i => !(E.new.map (·.1)).contains i) && (E.gone.isEmpty || s.heap.all fun p => p.2.hard.all fun i => !E.gone.contains i)
def run1M (N : Lim) (o : Oper) (E : EffM) (s : St) : Option (St × Prop) :=
  if okNewM N E s then match o.dst with
    | some d => if d < N.n then some (⟨(d, E.av) :: forget E.gone s.env, E.upd ++ (E.new ++ lose E.gone s.heap)⟩, E.ob) else none
    | none => some (⟨forget E.gone s.env, E.upd ++ (E.new ++ lose E.gone s.heap)⟩, E.ob)
  else none
def run1 (P : Program) (N : Lim) (ops : Array Oper) (o : Oper) (h : Hint) (s : St) : Option (St × Prop) :=
  match guardOf ops s.env o with
  | none => none
  | some false => match o.dst with
    | some d => if d < N.n then some (⟨(d, .undef) :: s.env, s.heap⟩, True) else none
    | none => some (s, True)
  | some true => match evM P (rho s.env) (fun i => s.heap.lookup i) o h with
    | some E => run1M N o E s
    | none => match o.op with
    | .store t x v => match evStore P (rho s.env) (fun i => s.heap.lookup i) t x v h, o.dst with
      | some W, none => if !W.gone.contains W.id && okGone W.gone s then some (⟨forget W.gone s.env, (W.id, W.ob) :: lose W.gone s.heap⟩, W.owe) else none
      | _, _ => none
    | _ => match evOp P (rho s.env) (fun i => s.heap.lookup i) o h, o.dst with
      | some E, some d => if d < N.n && okNew N E s && okGone E.gone s then some (⟨(d, E.av) :: forget E.gone s.env, E.new ++ lose E.gone s.heap⟩, E.ob) else none
      | _, _ => none
def runOps (P : Program) (N : Lim) (ops : Array Oper) : List Oper → List Hint → St → Option (St × Prop)
  | [], _, s => some (s, True)
  | o :: rest, hs, s =>
    match run1 P N ops o (hs.headD .no) s with
    | some (s1, p) => match runOps P N ops rest hs.tail s1 with
      | some (s2, q) => some (s2, p ∧ q)
      | none => none
    | none => none
variable {cx : Cx}
theorem go_wp {P : Program} {n0 : Nat → Prop} {o : Oper} {a : Act} {w : World} {H : List (Nat × Ob)} {m : Mem} {E : Eff} {K : Act → World → Prop} {Q : Exit → Act → World → Prop} (h : OpGo P n0 o a w H m E)
    (hK : ∀ v w' m', HeapOK n0 (E.heap H) m' w' → Step n0 E.ids E.gone H m w (E.heap H) m' w' → AVRep (E.heap H) m' w' E.av v → K (a.put o.dst v) w') : o.wp P a w K Q := by
  unfold OpGo at h
  unfold Oper.wp
  split at h
  · rename_i v w' he
    rw [he]
    obtain ⟨m', h1, h2, h3⟩ := h
    exact hK v w' m' h1 h2 h3
  · rename_i f as w1 he
    rw [he]
    obtain ⟨rfl, hc⟩ := h
    refine hc.mono ?_
    rintro e w' ⟨v, rfl, m', h1, h2, h3⟩
    exact hK v w' m' h1 h2 h3
  · exact h.elim
theorem decE_go {P : Program} {n0 : Nat → Prop} {ρ : Rho} {Hs : Nat → Option Ob} {o : Oper} {h : Hint} {E : Eff} {a : Act} {w : World} {H : List (Nat × Ob)} {m : Mem} (hE : evOp P ρ Hs o h = some E) (hob : E.ob)
    (hgo : ∀ E0, evOpA P ρ Hs o h = some E0 → E0.ob → E0.ids = E.ids → E0.gone = E.gone → OpGo P n0 o a w H m E0) : OpGo P n0 o a w H m E := by
  unfold evOp at hE
  cases he : evOpA P ρ Hs o h with
  | none => rw [he] at hE; simp [decE] at hE
  | some E0 =>
    rw [he] at hE
    cases h with
    | dec b =>
      simp only [decE] at hE
      split at hE
      · rename_i c hc
        cases hE
        obtain ⟨h1, h2⟩ := hob
        have := hgo E0 he h1 rfl rfl
        subst h2
        unfold OpGo at this ⊢
        rw [hc] at this
        exact this
      · cases hE
    | _ => cases hE; exact hgo _ he hob rfl rfl
theorem put_rep {H : List (Nat × Ob)} {m : Mem} {w : World} {env : List (Nat × AV)} {a : Act} {d : Nat} {av : AV} {v : Value} (hd : d < a.tmps.size) (hv : AVRep H m w av v)
    (henv : ∀ t x, env.lookup t = some x → ∃ u, a.tmps[t]? = some u ∧ AVRep H m w x u) :
    ∀ t x, ((d, av) :: env).lookup t = some x → ∃ u, (a.put (some d) v).tmps[t]? = some u ∧ AVRep H m w x u := by
  intro t x ht
  simp only [List.lookup_cons] at ht
  simp only [Act.put]
  split at ht
  · rename_i e
    simp at e
    cases ht
    subst e
    exact ⟨v, by simp [hd], hv⟩
  · rename_i e
    have hne : d ≠ t := by intro h; subst h; simp at e
    obtain ⟨u, hu, hr⟩ := henv t x ht
    exact ⟨u, by rw [Array.getElem?_setIfInBounds_ne hne]; exact hu, hr⟩
theorem rho_rep {H : List (Nat × Ob)} {m : Mem} {w : World} {env : List (Nat × AV)} {a : Act} (henv : ∀ t x, env.lookup t = some x → ∃ u, a.tmps[t]? = some u ∧ AVRep H m w x u) (x : Operand) (av : AV) (h : rho env x = some av) :
    AVRep H m w av (a.eval x) := by
  cases x with
  | tmp t =>
    obtain ⟨u, hu, hr⟩ := henv t av h
    have : a.eval (.tmp t) = u := by simp [Act.eval, Array.getD_eq_getD_getElem?, hu]
    rw [this]; exact hr
  | const v => exact (constAV_rep h).1
  | global g => cases h
  | func f =>
    simp only [rho, Option.some.injEq] at h
    subst h
    exact ⟨#[], rfl, rfl, fun j hj => absurd hj (by omega)⟩
theorem mem_lookup {env : List (Nat × AV)} {t : Nat} {av : AV} (h : env.lookup t = some av) : (t, av) ∈ env := by
  induction env with
  | nil => cases h
  | cons p l ih =>
    obtain ⟨k, o⟩ := p
    simp only [List.lookup_cons] at h
    split at h
    · rename_i e; simp at e; cases h; subst e; exact List.mem_cons_self
    · exact List.mem_cons_of_mem _ (ih h)
theorem rho_ids {env : List (Nat × AV)} {news : List Nat} (h : ∀ t av, (t, av) ∈ env → ∀ i ∈ av.ids, i ∉ news) (x : Operand) (av : AV) (hx : rho env x = some av) : ∀ i ∈ av.ids, i ∉ news := by
  cases x with
  | tmp t => exact h t av (mem_lookup hx)
  | const v =>
    have : av.ids = [] := (constAV_rep (H := []) (m := ⟨fun _ => undef, fun _ _ => False, fun _ _ => undef⟩) (w := default) hx).2
    rw [this]; simp
  | global g => cases hx
  | func f =>
    simp only [rho, Option.some.injEq] at hx
    subst hx
    simp [AV.ids, TV.ids, X.ids]
theorem okNew_spec {N : Lim} {E : Eff} {s : St} (h : okNew N E s = true) : E.ids.Nodup ∧ (∀ i ∈ E.ids, N.nf ≤ i) ∧ (∀ t av, (t, av) ∈ s.env → ∀ i ∈ av.ids, i ∉ E.ids) ∧ ∀ id ob, s.heap.lookup id = some ob → ∀ i ∈ ob.ids, i ∉ E.ids := by
  unfold okNew at h
  simp only [Bool.and_eq_true, decide_eq_true_eq, Bool.or_eq_true, List.isEmpty_iff, List.all_eq_true, Bool.not_eq_true', List.contains_eq_mem, decide_eq_false_iff_not] at h
  obtain ⟨⟨h1, h3⟩, h2⟩ := h
  refine ⟨h1, fun i hi => Nat.le_of_ble_eq_true (h3 i hi), ?_, ?_⟩
  · intro t av hm i hi
    rcases h2 with h2 | h2
    · rw [h2]; simp
    · exact h2.1 (t, av) hm i hi
  · intro id ob hl i hi
    rcases h2 with h2 | h2
    · rw [h2]; simp
    · exact h2.2 (id, ob) (lookup_mem hl) i hi
theorem okNewM_spec {N : Lim} {E : EffM} {s : St} (h : okNewM N E s = true) : (E.new.map (·.1)).Nodup ∧ (∀ i ∈ E.new.map (·.1), N.nf ≤ i) ∧ (∀ t av, (t, av) ∈ s.env → ∀ i ∈ av.ids, i ∉ E.new.map (·.1)) ∧ (∀ id ob, s.heap.lookup id = some ob → ∀ i ∈ ob.ids, i ∉ E.new.map (·.1)) ∧ (∀ id, (s.heap.lookup id).isSome = true → id ∉ E.new.map (·.1)) ∧ ∀ id ob, s.heap.lookup id = some ob → ∀ i ∈ ob.hard, i ∉ E.gone := by
  unfold okNewM at h
  simp only [Bool.and_eq_true, decide_eq_true_eq, Bool.or_eq_true, List.isEmpty_iff, List.all_eq_true, Bool.not_eq_true', List.contains_eq_mem, decide_eq_false_iff_not] at h
  obtain ⟨⟨⟨h1, h3⟩, h2⟩, h4⟩ := h
  refine ⟨h1, fun i hi => Nat.le_of_ble_eq_true (h3 i hi), ?_, ?_, ?_, ?_⟩
  · intro t av hm i hi
    rcases h2 with h2 | h2
    · rw [h2]; simp
    · exact h2.1 (t, av) hm i hi
  · intro id ob hl i hi
    rcases h2 with h2 | h2
    · rw [h2]; simp
    · exact (h2.2 (id, ob) (lookup_mem hl)).2 i hi
  · intro id ha
    obtain ⟨ob, hl⟩ := Option.isSome_iff_exists.1 ha
    rcases h2 with h2 | h2
    · rw [h2]; simp
    · exact (h2.2 (id, ob) (lookup_mem hl)).1
  · intro id ob hl i hi
    rcases h4 with h4 | h4
    · rw [h4]; simp
    · exact h4 (id, ob) (lookup_mem hl) i hi
theorem go_wpM {P : Program} {n0 : Nat → Prop} {o : Oper} {a : Act} {w : World} {H : List (Nat × Ob)} {m : Mem} {E : EffM} {K : Act → World → Prop} {Q : Exit → Act → World → Prop} (h : OpGoM P n0 o a w H m E)
    (hK : ∀ v w' m', HeapOK n0 (E.upd ++ (E.new ++ dropL E.gone H)) m' w' → Step n0 (E.new.map (·.1)) E.gone H m w (E.upd ++ (E.new ++ dropL E.gone H)) m' w' → AVRep (E.upd ++ (E.new ++ dropL E.gone H)) m' w' E.av v → K (a.put o.dst v) w') : o.wp P a w K Q := by
  unfold OpGoM at h
  unfold Oper.wp
  split at h
  · rename_i v w' he
    rw [he]
    obtain ⟨m', h1, h2, h3⟩ := h
    exact hK v w' m' h1 h2 h3
  · rename_i f as w1 he
    rw [he]
    obtain ⟨rfl, hc⟩ := h
    refine hc.mono ?_
    rintro e w' ⟨v, rfl, m', h1, h2, h3⟩
    exact hK v w' m' h1 h2 h3
  · exact h.elim
theorem FixOK.step {cx : Cx} {H H' : List (Nat × Ob)} {m m' : Mem} {w w' : World} {news gone : List Nat} (h : FixOK cx m) (hS : Step cx.K news gone H m w H' m' w') (hn : ∀ i ∈ news, cx.N.nf ≤ i) : FixOK cx m' := by
  intro id hid
  have : id ∉ news := fun hm => by have := hn id hm; omega
  rw [hS.vals id this, hS.subs id this]
  exact h id hid
theorem guard_wanted {ops : Array Oper} {s : St} {a : Act} {w : World} (hR : R cx s a w) {o : Oper} {b : Bool} (h : guardOf ops s.env o = some b) : Region.wanted o (yielded ops a.tmps) = b := by
  obtain ⟨m, _, hm⟩ := hR.mem
  unfold guardOf at h
  unfold Region.wanted
  split at h
  · rename_i hg; cases h; rw [hg]
  · rename_i j want hg
    rw [hg]
    simp only
    split at h
    · rename_i d hd
      split at h
      · rename_i c hl
        cases h
        obtain ⟨u, hu, hr⟩ := hm d _ hl
        have hub : u = .bool c := hr
        subst hub
        have : yielded ops a.tmps j = some c := by unfold yielded; rw [hd]; simp [hu]
        rw [this]
        rfl
      · rename_i hl
        cases h
        obtain ⟨u, hu, hr⟩ := hm d _ hl
        have hub : u = undef := hr
        subst hub
        have : yielded ops a.tmps j = none := by unfold yielded; rw [hd]; simp [hu, undef]
        rw [this]
        rfl
      · cases h
    · cases h
theorem forget_lookup {gone : List Nat} {env : List (Nat × AV)} {t : Nat} {v : AV} (h : (forget gone env).lookup t = some v) : env.lookup t = some v ∧ ∀ i ∈ v.hard, i ∉ gone := by
  unfold forget at h
  split at h
  · rename_i he
    have : gone = [] := by simpa using he
    subst this
    exact ⟨h, by simp⟩
  · have key : ∀ (bad : List Nat) (l : List (Nat × AV)), (l.filter fun p => !bad.contains p.1).lookup t = some v → l.lookup t = some v ∧ t ∉ bad := by
      intro bad l
      induction l with
      | nil => intro h; cases h
      | cons p l ih =>
        obtain ⟨k, x⟩ := p
        intro h
        simp only [List.filter_cons] at h
        by_cases hk : k ∈ bad
        · simp [hk] at h
          obtain ⟨h1, h2⟩ := ih (by simpa using h)
          refine ⟨?_, h2⟩
          have : (t == k) = false := by
            rw [beq_eq_false_iff_ne]
            rintro rfl
            exact h2 hk
          rw [List.lookup_cons, this]; exact h1
        · simp [hk] at h
          simp only [List.lookup_cons] at h ⊢
          split at h
          · rename_i e
            simp at e
            subst e
            exact ⟨h, hk⟩
          · exact ih (by simpa using h)
    obtain ⟨h1, h2⟩ := key _ env h
    refine ⟨h1, fun i hi hg => h2 ?_⟩
    refine List.mem_map.2 ⟨(t, v), List.mem_filter.2 ⟨mem_lookup h1, ?_⟩, rfl⟩
    simp only [List.any_eq_true]
    exact ⟨i, hi, by simpa using hg⟩
theorem okGone_spec {gone : List Nat} {s : St} (h : okGone gone s = true) : gone.Nodup ∧ (∀ g ∈ gone, (s.heap.lookup g).isSome = true) ∧ ∀ i ob, s.heap.lookup i = some ob → ∀ j ∈ ob.hard, j ∉ gone := by
  unfold okGone at h
  simp only [Bool.or_eq_true, List.isEmpty_iff, Bool.and_eq_true, decide_eq_true_eq, List.all_eq_true, Bool.not_eq_true', List.contains_eq_mem, decide_eq_false_iff_not] at h
  rcases h with rfl | ⟨⟨h1, h2⟩, h3⟩
  · exact ⟨by simp, by simp, by simp⟩
  · exact ⟨h1, h2, fun i ob hl j hj => h3 (i, ob) (lookup_mem hl) j hj⟩
theorem lose_eq (gone : List Nat) (H : List (Nat × Ob)) : lose gone H = dropL gone H := by
  unfold lose
  split
  · rename_i h
    have : gone = [] := by simpa using h
    subst this
    exact (List.filter_eq_self.2 (by simp)).symm
  · rfl
theorem run1_sound {ops : Array Oper} {o : Oper} {h : Hint} {s s1 : St} {p : Prop} (h1 : run1 cx.P cx.N ops o h s = some (s1, p)) (hp : p) {a : Act} {w : World} (hR : R cx s a w) {K : Act → World → Prop} {Q : Exit → Act → World → Prop}
    (hK : ∀ a' w', R cx s1 a' w' → K a' w') :
    (Region.wanted o (yielded ops a.tmps) = true ∧ o.wp cx.P a w K Q) ∨ (Region.wanted o (yielded ops a.tmps) = false ∧ K (a.put o.dst undef) w) := by
  unfold run1 at h1
  split at h1
  · cases h1
  · rename_i hg
    refine .inr ⟨guard_wanted hR hg, ?_⟩
    split at h1
    · rename_i d hd
      split at h1
      · rename_i hdN
        cases h1
        refine hK _ _ ?_
        obtain ⟨m, hok, henv⟩ := hR.mem
        refine ⟨by rw [hd]; exact hR.defers, by rw [hd]; simp [Act.put, hR.size], hR.below, hR.lowK, m, hok, ?_⟩
        rw [hd]
        exact put_rep (by rw [hR.size]; exact hdN) rfl henv
      · cases h1
    · rename_i hd
      cases h1
      rw [hd]
      exact hK _ _ hR
  · rename_i hg
    refine .inl ⟨guard_wanted hR hg, ?_⟩
    obtain ⟨m, ⟨hok, hfix⟩, henv⟩ := hR.mem
    have hn0 : ∀ b, cx.K b → b < w.heap.size := fun b hb => Nat.lt_of_lt_of_le (hR.lowK.1 b hb) hR.below.size
    split at h1
    · rename_i E hE
      unfold run1M at h1
      split at h1
      case isFalse => cases h1
      rename_i hc
      obtain ⟨hnd, hnf, hfr, hids, hkeys, hhard⟩ := okNewM_spec hc
      have go : E.ob → (∀ v w' m', HeapOK cx.K (E.upd ++ (E.new ++ dropL E.gone s.heap)) m' w' → Step cx.K (E.new.map (·.1)) E.gone s.heap m w (E.upd ++ (E.new ++ dropL E.gone s.heap)) m' w' → AVRep (E.upd ++ (E.new ++ dropL E.gone s.heap)) m' w' E.av v → K (a.put o.dst v) w') → o.wp cx.P a w K Q := fun hob hk =>
        go_wpM (H := s.heap) (m := m) (n0 := cx.K) (evM_go hE hob hok hn0 hR.gk (fun id ob ob' h1 h2 => by rw [h1] at h2; cases h2; rfl) hnd hids hkeys hhard (fun x _ av hx => rho_rep henv x av hx)) hk
      split at h1
      · rename_i d hd
        split at h1
        · rename_i hdN
          cases h1
          refine go hp fun v w' m' r1 r2 r3 => hK _ _ ?_
          refine ⟨by rw [hd]; exact hR.defers, by rw [hd]; simp [Act.put, hR.size], hR.below.trans r2.below, hR.lowK, m', ⟨by rw [lose_eq]; exact r1, hfix.step r2 hnf⟩, ?_⟩
          rw [hd]
          refine put_rep (by rw [hR.size]; exact hdN) (by rw [lose_eq]; exact r3) fun t x ht => ?_
          obtain ⟨ht1, ht2⟩ := forget_lookup ht
          obtain ⟨u, hu, hx⟩ := henv t x ht1
          exact ⟨u, hu, by rw [lose_eq]; exact r2.avrep (hfr t x (mem_lookup ht1)) ht2 hx⟩
        · cases h1
      · rename_i hd
        cases h1
        refine go hp fun v w' m' r1 r2 r3 => hK _ _ ?_
        refine ⟨by rw [hd]; exact hR.defers, by rw [hd]; exact hR.size, hR.below.trans r2.below, hR.lowK, m', ⟨by rw [lose_eq]; exact r1, hfix.step r2 hnf⟩, fun t x ht => ?_⟩
        obtain ⟨ht1, ht2⟩ := forget_lookup ht
        obtain ⟨u, hu, hx⟩ := henv t x ht1
        exact ⟨u, by rw [hd]; exact hu, by rw [lose_eq]; exact r2.avrep (hfr t x (mem_lookup ht1)) ht2 hx⟩
    split at h1
    · rename_i t x v ho
      split at h1
      · rename_i W hW hd
        split at h1
        · rename_i hc
          cases h1
          simp only [Bool.and_eq_true, Bool.not_eq_true', List.contains_eq_mem, decide_eq_false_iff_not] at hc
          obtain ⟨hg1, hg2, hg3⟩ := okGone_spec hc.2
          obtain ⟨w', m', r1, r2, r3⟩ := evStore_go (ev := a.eval) hW hp hok (fun id ob ob' h1 h2 => by rw [h1] at h2; cases h2; rfl) hc.1 hg3 hg2 hg1 (fun av hx => rho_rep henv x av hx) (fun av hx => rho_rep henv v av hx)
          unfold Oper.wp
          have : (execOp a.eval o).run cx.P w = .ok .skip w' := by
            simp only [execOp, ho, Sem.run_bind, r1, Result.andThen_ok, Sem.run_pure]
          rw [this]
          simp only [Oper.upon, hd]
          refine hK _ _ ⟨hR.defers, hR.size, hR.below.trans r3.below, hR.lowK, m', ⟨by rw [lose_eq]; exact r2, hfix.step r3 (by simp)⟩, fun t v hl => ?_⟩
          obtain ⟨hl1, hl2⟩ := forget_lookup hl
          obtain ⟨u, hu, hx⟩ := henv t v hl1
          exact ⟨u, hu, by rw [lose_eq]; exact r3.avrep (by simp) hl2 hx⟩
        · cases h1
      · cases h1
    · split at h1
      · rename_i E d hE hd
        split at h1
        · rename_i hc
          cases h1
          simp only [Bool.and_eq_true, decide_eq_true_eq] at hc
          obtain ⟨⟨hdN, hnew⟩, hgn⟩ := hc
          obtain ⟨hg1, hg2, hg3⟩ := okGone_spec hgn
          obtain ⟨hnd, hnf, hfr, hids⟩ := okNew_spec hnew
          have hh : E.heap s.heap = E.new ++ lose E.gone s.heap := by rw [lose_eq]; rfl
          refine go_wp (H := s.heap) (m := m) (n0 := cx.K) (decE_go hE hp fun E0 hE0 hob0 hi0 hgo0 => ?_) ?_
          · refine evOpA_go hE0 hob0 hok hn0 hR.gk (fun id ob ob' h1 h2 => by rw [h1] at h2; cases h2; rfl) (by rw [hi0]; exact hnd) (fun id ob hl i hi => by rw [hi0]; exact hids id ob hl i hi) (by rw [hgo0]; exact hg3) (by rw [hgo0]; exact hg2) (by rw [hgo0]; exact hg1) ?_ ?_
            · intro x _ av hx; rw [hi0]; exact rho_ids hfr x av hx
            · intro x _ av hx; exact rho_rep henv x av hx
          · intro v w' m' r1 r2 r3
            refine hK _ _ ?_
            have hfix' := hfix.step r2 hnf
            rw [hh] at r1 r2 r3
            refine ⟨by rw [hd]; exact hR.defers, by rw [hd]; simp [Act.put, hR.size], hR.below.trans r2.below, hR.lowK, m', ⟨r1, hfix'⟩, ?_⟩
            rw [hd]
            refine put_rep (by rw [hR.size]; exact hdN) r3 fun t x ht => ?_
            obtain ⟨ht1, ht2⟩ := forget_lookup ht
            obtain ⟨u, hu, hx⟩ := henv t x ht1
            exact ⟨u, hu, r2.avrep (hfr t x (mem_lookup ht1)) ht2 hx⟩
        · cases h1
      · cases h1
theorem runOps_sound {ops : Array Oper} : ∀ (l : List Oper) (hs : List Hint) (s s' : St) (ob : Prop) (Q : Exit → St → Prop), runOps cx.P cx.N ops l hs s = some (s', ob) → ob → Q .normal s' →
    ∀ a w, R cx s a w → wpList cx.P ops (fun e a' w' => ∃ s1, Q e s1 ∧ R cx s1 a' w') l a w := by
  intro l
  induction l with
  | nil =>
    intro hs s s' ob Q h _ hq a w hR
    cases h
    exact wpList_nil ⟨s, hq, hR⟩
  | cons o l ih =>
    intro hs s s' ob Q h hob hq a w hR
    unfold runOps at h
    split at h
    · rename_i s1 p h1
      split at h
      · rename_i s2 q h2
        cases h
        refine wpList_step fun K hK => ?_
        rcases run1_sound (Q := fun e a' w' => ∃ s1, Q e s1 ∧ R cx s1 a' w') h1 hob.1 hR (fun a' w' hr => hK a' w' (ih hs.tail s1 _ q Q h2 hob.2 hq a' w' hr)) with ⟨hw, hk⟩ | ⟨hw, hk⟩
        · rw [hw]; exact hk
        · rw [hw]; exact hk
      · cases h
    · cases h
theorem AW.run {s s' : St} {ob : Prop} {Q : Exit → St → Prop} {id : Nat} {l : List Oper} (hs : List Hint) (h : runOps cx.P cx.N l.toArray l hs s = some (s', ob)) (hob : ob) (hq : Q .normal s') : AW cx (.region id l.toArray false) s Q :=
  fun a w hR => wp_region_lit (runOps_sound l hs s s' ob Q h hob hq a w hR)
end Go.Fw
