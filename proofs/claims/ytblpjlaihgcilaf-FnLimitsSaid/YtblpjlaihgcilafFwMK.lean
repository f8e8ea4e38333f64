
import Derived.Test.YtblpjlaihgcilafFwUB
namespace Go.Fw
open Go Go.RowKit
variable {cx : Cx}
def runX (P : Program) (N : Lim) (ops : Array Oper) (j : Nat) (E : St → Option Eff) (hs1 hs2 : List Hint) (ts ids : List Nat) (s : St) : Option (St × St × Oper × Eff × Prop) :=
  match ops.toList.drop j with
  | o :: rest => match o.guard, o.dst, runOps P N ops (ops.toList.take j) hs1 s with
    | none, some d, some (s1, ob1) => match E s1 with
      | some e => if Nat.blt d N.n && okNew N e s1 && okGone e.gone s1 then match runOps P N ops rest hs2 ⟨(d, e.av) :: forget e.gone s1.env, e.new ++ lose e.gone s1.heap⟩ with
        | some (s2, ob2) => if okRestr ids (restr ts ids s2) then some (restr ts ids s2, s1, o, e, ob1 ∧ e.ob ∧ ob2) else none
        | none => none
        else none
      | none => none
    | _, _, _ => none
  | [] => none
theorem AW.opX {s s' s1 : St} {o : Oper} {e : Eff} {ob : Prop} {Q : Exit → St → Prop} {id : Nat} {ops : Array Oper} (j : Nat) (E : St → Option Eff) (hs1 hs2 : List Hint) (ts ids : List Nat)
    (h : runX cx.P cx.N ops j E hs1 hs2 ts ids s = some (s', s1, o, e, ob)) (hob : ob)
    (hgo : e.ob → ∀ a w m, R cx s1 a w → (∀ b, cx.K b → b < w.heap.size) → HeapOK cx.K s1.heap m w → (∀ t v, s1.env.lookup t = some v → ∃ u, a.tmps[t]? = some u ∧ AVRep s1.heap m w v u) →
      (∀ i ob, s1.heap.lookup i = some ob → ∀ k ∈ ob.ids, k ∉ e.ids) → (∀ t av, (t, av) ∈ s1.env → ∀ i ∈ av.ids, i ∉ e.ids) → OpGo cx.P cx.K o a w s1.heap m e)
    (hq : Q .normal s') : AW cx (.region id ops false) s Q := by
  unfold runX at h
  split at h
  case h_2 => cases h
  rename_i o' rest hdrop
  split at h
  case h_2 => cases h
  rename_i d s1' ob1 hg hd h1
  split at h
  case h_2 => cases h
  rename_i e' hE
  split at h
  case isFalse => cases h
  rename_i hc
  split at h
  case h_2 => cases h
  rename_i s2 ob2 h2
  split at h
  case isFalse => cases h
  rename_i hc2
  cases h
  simp only [Bool.and_eq_true] at hc
  obtain ⟨⟨hdN, hnew⟩, hgone⟩ := hc
  refine AW.post (Q := Q) ?_
  intro a w hR
  have key : wpList cx.P ops (fun e a' w' => ∃ s', (∃ s2, Sub cx s' s2 ∧ Q e s2) ∧ R cx s' a' w') (ops.toList.take j ++ o :: rest) a w := by
    refine runOps_then _ hs1 s s1 ob1 h1 hob.1 (fun a w hR => ?_) a w hR
    refine wpList_step fun K hK => ?_
    obtain ⟨m, hok, henv⟩ := hR.mem
    have hw : Region.wanted o (yielded ops a.tmps) = true := by unfold Region.wanted; rw [hg]
    rw [hw]
    show o.wp cx.P a w K _
    have hn0 : ∀ b, cx.K b → b < w.heap.size := fun b hb => Nat.lt_of_lt_of_le (hR.lowK.1 b hb) hR.below.size
    have hsp := okNew_spec hnew
    have hgs := okGone_spec hgone
    refine go_wp (hgo hob.2.1 a w m hR hn0 hok.1 henv hsp.2.2.2 hsp.2.2.1) fun v w' m' k1 k2 k3 => ?_
    refine hK _ _ ?_
    have hR2 : R cx ⟨(d, e.av) :: forget e.gone s1.env, e.new ++ lose e.gone s1.heap⟩ (a.put o.dst v) w' := by
      have hh : e.new ++ lose e.gone s1.heap = e.heap s1.heap := by rw [lose_eq]; rfl
      refine ⟨by rw [hd]; exact hR.defers, by rw [hd]; simp [Act.put, hR.size], hR.below.trans k2.below, hR.lowK, m', ⟨by rw [hh]; exact k1, hok.2.step k2 hsp.2.1⟩, ?_⟩
      rw [hd]
      show ∀ t x, ((d, e.av) :: forget e.gone s1.env).lookup t = some x → _
      rw [show (St.mk ((d, e.av) :: forget e.gone s1.env) (e.new ++ lose e.gone s1.heap)).heap = e.heap s1.heap from hh]
      refine put_rep (by rw [hR.size]; exact Nat.le_of_ble_eq_true hdN) k3 fun t x ht => ?_
      obtain ⟨h1, h2⟩ := forget_lookup ht
      obtain ⟨u, hu, hr⟩ := henv t x h1
      exact ⟨u, hu, k2.avrep (hsp.2.2.1 t x (mem_lookup h1)) h2 hr⟩
    have := runOps_then (rest := []) (K := fun e a' w' => ∃ s', (∃ s2, Sub cx s' s2 ∧ Q e s2) ∧ R cx s' a' w') rest hs2 _ s2 ob2 h2 hob.2.2 (fun a w hR => wpList_nil ⟨s2, ⟨_, Sub.restr ts ids hc2, hq⟩, hR⟩) _ _ hR2
    simpa using this
  rw [← hdrop, List.take_append_drop] at key
  have e : ops = ops.toList.toArray := by simp
  rw [e] at key ⊢
  exact wp_region_lit key
def MkOK (P : Program) (f : FuncId) (T : TypeId) (ks : List (IntKind × Int)) : Prop :=
  ∀ w ad n cap, Invk P f #[.slice ad n cap] w fun r w' => r = .pointer (some ⟨w.heap.size, 0, none⟩) ∧ w' = w.alloc (.cells (.slice ad n cap :: ks.map fun k => Value.int k.1 k.2).toArray T)
def mkXsOf (x : X) (ks : List (IntKind × Int)) : List X := x :: ks.map fun k => .c (.int k.1 k.2)
def mkE (id : Nat) (x : Operand) (ks : List (IntKind × Int)) (s : St) : Option Eff :=
  match rho s.env x with
  | some (.v (.one (.c (.seq n sz g)))) => some { av := .v (.one (.ptr id 0)), new := [(id, .box (mkXsOf (.c (.seq n sz g)) ks))] }
  | _ => none
theorem mk_go {P : Program} {n0 : Nat → Prop} {s : St} {m : Mem} {w : World} {a : Act} {o : Oper} {cl : Call} {f : FuncId} {T : TypeId} {ks : List (IntKind × Int)} {id : Nat} {x : Operand} {e : Eff} (hm : MkOK P f T ks) (he : mkE id x ks s = some e)
    (ho : o.op = .call cl) (hcal : cl.callee = .value (.func f)) (hargs : cl.args.toList = [x]) (hn0 : ∀ b, n0 b → b < w.heap.size) (hok : HeapOK n0 s.heap m w)
    (henv : ∀ t v, s.env.lookup t = some v → ∃ u, a.tmps[t]? = some u ∧ AVRep s.heap m w v u) (hids : ∀ i ob, s.heap.lookup i = some ob → ∀ k ∈ ob.ids, k ∉ e.ids) (hfr : ∀ t av, (t, av) ∈ s.env → ∀ i ∈ av.ids, i ∉ e.ids) : OpGo P n0 o a w s.heap m e := by
  unfold mkE at he
  split at he
  case h_2 => cases he
  rename_i n sz g hx
  cases he
  obtain ⟨x0, hx0e⟩ : ∃ x0 : X, x0 = .c (.seq n sz g) := ⟨_, rfl⟩
  rw [← hx0e] at hx hids hfr ⊢
  have hid : Eff.ids { av := .v (.one (.ptr id 0)), new := [(id, .box (mkXsOf x0 ks))] } = [id] := rfl
  rw [hid] at hids hfr
  have hx0 : id ∉ x0.ids := by
    have := rho_ids hfr x _ hx
    intro h
    exact this id (by simpa [AV.ids, TV.ids] using h) (by simp)
  have hxr : XRep s.heap m w x0 (a.eval x) := rho_rep henv x _ hx
  have hrun : (execOp a.eval o).run P w = (callFunc f #[a.eval x]).run P w := by
    have ha : cl.args = #[x] := by
      rw [← Array.toArray_toList (xs := cl.args), hargs]
    have hfv : a.eval (.func f) = .func (.func f) #[] #[] := rfl
    simp only [execOp, ho, resolve, hcal, Sem.run_bind, hfv, Deferred.ofValue, Sem.run_pure, Result.andThen_ok, invoke, Array.empty_append, Array.append_empty, ha]
    simp only [List.map_toArray, List.map_cons, List.map_nil]
  have hsl : ∃ ad cap, a.eval x = .slice ad n cap := by
    have := hxr
    rw [hx0e] at this
    obtain ⟨ad, cap, h, _⟩ := this
    exact ⟨ad, cap, h⟩
  obtain ⟨ad, cap, hsl⟩ := hsl
  have hcall := hm w ad n cap
  rw [← hsl] at hcall
  unfold Invk at hcall
  have hadd := add_box (n0 := n0) hok hn0 id (mkXsOf x0 ks) (a.eval x :: ks.map fun k => Value.int k.1 k.2).toArray T (fun i ob hl hk => hids i ob hl id hk (by simp))
    (by
      intro y hy
      simp only [mkXsOf, List.mem_cons, List.mem_map] at hy
      rcases hy with rfl | ⟨k, _, rfl⟩
      · exact hx0
      · simp [X.ids]) (by simp [mkXsOf])
    (by
      intro j y hj
      cases j with
      | zero => simp [mkXsOf] at hj; subst hj; exact ⟨_, rfl, hxr⟩
      | succ j =>
        simp only [mkXsOf, List.getElem?_cons_succ, List.getElem?_map, Option.map_eq_some_iff] at hj
        obtain ⟨k, hk, rfl⟩ := hj
        exact ⟨.int k.1 k.2, by simp [hk], rfl⟩)
  obtain ⟨m', h1, h2, h3⟩ := hadd
  have hh : Eff.heap { av := .v (.one (.ptr id 0)), new := [(id, .box (mkXsOf x0 ks))] } s.heap = (id, .box (mkXsOf x0 ks)) :: s.heap := by simp [Eff.heap]
  have fin : ∀ r w', r = .pointer (some ⟨w.heap.size, 0, none⟩) ∧ w' = w.alloc (.cells (a.eval x :: ks.map fun k => Value.int k.1 k.2).toArray T) → ∃ m', HeapOK n0 ((id, .box (mkXsOf x0 ks)) :: s.heap) m' w' ∧ Step n0 [id] [] s.heap m w ((id, .box (mkXsOf x0 ks)) :: s.heap) m' w' ∧ AVRep ((id, .box (mkXsOf x0 ks)) :: s.heap) m' w' (.v (.one (.ptr id 0))) r := by
    rintro r w' ⟨rfl, rfl⟩
    exact ⟨m', h1, h2, by simp, w.heap.size, h3, rfl⟩
  unfold OpGo
  rw [hrun]
  split at hcall
  · rename_i g as w1 hc
    rw [hc]
    simp only []
    obtain ⟨rfl, hcc⟩ := hcall
    refine ⟨rfl, hcc.mono ?_⟩
    rintro e w' ⟨v, rfl, hv⟩
    rw [hh]
    exact ⟨v, rfl, fin v w' hv⟩
  · rename_i v w1 hc
    rw [hc]
    simp only []
    rw [hh]
    exact fin v w1 hcall
  · exact hcall.elim
def runMk (P : Program) (N : Lim) (ops : Array Oper) (j id : Nat) (ks : List (IntKind × Int)) (hs1 hs2 : List Hint) (ts ids : List Nat) (s : St) : Option (St × Prop × FuncId) :=
  match ops.toList.drop j with
  | o :: _ => match o.op with
    | .call cl => match cl.callee, cl.args.toList with
      | .value (.func f), [x] => match runX P N ops j (mkE id x ks) hs1 hs2 ts ids s with
        | some (s', _, _, _, ob) => some (s', ob, f)
        | none => none
      | _, _ => none
    | _ => none
  | [] => none
theorem runX_spec {P : Program} {N : Lim} {ops : Array Oper} {j : Nat} {E : St → Option Eff} {hs1 hs2 : List Hint} {ts ids : List Nat} {s s' s1 : St} {o : Oper} {e : Eff} {ob : Prop} (h : runX P N ops j E hs1 hs2 ts ids s = some (s', s1, o, e, ob)) :
    E s1 = some e ∧ ∃ rest, ops.toList.drop j = o :: rest := by
  unfold runX at h
  split at h
  case h_2 => cases h
  rename_i o' rest hdrop
  split at h
  case h_2 => cases h
  split at h
  case h_2 => cases h
  rename_i e' hE
  split at h
  case isFalse => cases h
  split at h
  case h_2 => cases h
  split at h
  case isFalse => cases h
  cases h
  exact ⟨hE, rest, hdrop⟩
theorem AW.mkA {s s' : St} {ob : Prop} {f : FuncId} {T : TypeId} {Q : Exit → St → Prop} {rid : Nat} {ops : Array Oper} (j id : Nat) (ks : List (IntKind × Int)) (hs1 hs2 : List Hint) (ts ids : List Nat)
    (h : runMk cx.P cx.N ops j id ks hs1 hs2 ts ids s = some (s', ob, f)) (hob : ob) (hm : MkOK cx.P f T ks) (hq : Q .normal s') : AW cx (.region rid ops false) s Q := by
  unfold runMk at h
  split at h
  case h_2 => cases h
  rename_i o rest hdrop
  split at h
  case h_2 => cases h
  rename_i cl ho
  split at h
  case h_2 => cases h
  rename_i f' x hcal hargs
  split at h
  case h_2 => cases h
  rename_i s2 s1 o' e ob' hX
  cases h
  have hs := runX_spec hX
  obtain ⟨rest', hd'⟩ := hs.2
  rw [hdrop] at hd'
  cases hd'
  exact AW.opX j _ hs1 hs2 ts ids hX hob (fun _ a w m _ hn0 hok henv hids hfr => mk_go hm hs.1 ho hcal hargs hn0 hok henv hids hfr) hq
theorem wpList_val {P : Program} {ops : Array Oper} {Q : Exit → Act → World → Prop} {o : Oper} {rest : List Oper} {a : Act} {w w' : World} {x : Value} (hg : o.guard = none) (h : (execOp a.eval o).run P w = .ok (.value x) w')
    (hk : wpList P ops Q rest (a.put o.dst x) w') : wpList P ops Q (o :: rest) a w := by
  refine wpList_step fun K hK => ?_
  have hw : Region.wanted o (yielded ops a.tmps) = true := by unfold Region.wanted; rw [hg]
  rw [hw]
  show o.wp P a w K _
  unfold Oper.wp
  rw [h]
  exact hK _ _ hk
theorem mkOK_of {P : Program} {f : FuncId} {fn : Func} {c : Code} {T : TypeId} {ks : List (IntKind × Int)} (hf : P.funcs[f]? = some fn) (hb : fn.body = some c) (hname : (fn.name == "runtime.NumGoroutine") = false)
    (h : ∀ w ad n cap, c.wp P (bodyPost P fn fun e w' => ∃ r, e = .returned r ∧ r = .pointer (some ⟨w.heap.size, 0, none⟩) ∧ w' = w.alloc (.cells (.slice ad n cap :: ks.map fun k => Value.int k.1 k.2).toArray T)) { tmps := #[.slice ad n cap] ++ Array.replicate (fn.ntmps - 1) undef, defers := [] } w) : MkOK P f T ks := by
  intro w ad n cap
  have hrun : (callFunc f #[.slice ad n cap]).run P w = .ok (.enter f #[.slice ad n cap]) w := by
    simp only [callFunc, Sem.run_bind, run_program, Result.andThen_ok, hf, hname, hb, Bool.false_eq_true, ite_false, Option.isNone_some, Sem.run_pure]
  unfold Invk
  rw [hrun]
  exact ⟨rfl, calls_of_wp hf hb (h w ad n cap)⟩
/-! ### A given variable's cells, as what they hold -/
def unfxB (js : List Nat) : Nat → List X → List X
  | _, [] => []
  | k, x :: xs => (if js.contains k then unfx x else x) :: unfxB js (k + 1) xs
def unfxO (js : List Nat) : Ob → Ob
  | .box xs => .box (unfxB js 0 xs)
  | o => o
def unfxS (id : Nat) (js : List Nat) (s : St) : St := ⟨s.env, s.heap.map fun p => (p.1, if p.1 = id then unfxO js p.2 else p.2)⟩
theorem unfx_lookup (id : Nat) (js : List Nat) : ∀ (H : List (Nat × Ob)) (i : Nat), (H.map fun p => (p.1, if p.1 = id then unfxO js p.2 else p.2)).lookup i = (H.lookup i).map fun o => if i = id then unfxO js o else o
  | [], _ => rfl
  | (k, o) :: H, i => by
    simp only [List.map_cons, List.lookup_cons, unfx_lookup id js H i]
    by_cases e : i = k
    · subst e; simp
    · have : (i == k) = false := by simpa using e
      rw [this]
theorem unfxB_get (js : List Nat) : ∀ (xs : List X) (k j : Nat) (y : X), (unfxB js k xs)[j]? = some y → ∃ x, xs[j]? = some x ∧ (y = x ∨ y = unfx x)
  | [], k, j, y, h => by simp [unfxB] at h
  | x :: xs, k, 0, y, h => by
    simp only [unfxB, List.getElem?_cons_zero, Option.some.injEq] at h
    refine ⟨x, rfl, ?_⟩
    split at h
    · exact .inr h.symm
    · exact .inl h.symm
  | x :: xs, k, j + 1, y, h => by
    obtain ⟨x', h1, h2⟩ := unfxB_get js xs (k + 1) j y (by simpa [unfxB] using h)
    exact ⟨x', by simpa using h1, h2⟩
theorem unfxB_length (js : List Nat) : ∀ (xs : List X) (k : Nat), (unfxB js k xs).length = xs.length
  | [], _ => rfl
  | x :: xs, k => by simp [unfxB, unfxB_length js xs (k + 1)]
theorem subUnfx {s s' : St} (id : Nat) (js : List Nat) (he : unfxS id js s = s') : Sub cx s s' := by
  subst he
  intro a w hR
  obtain ⟨m, ⟨hok, hfix⟩, henv⟩ := hR.mem
  have hlk := unfx_lookup id js s.heap
  have hH : (unfxS id js s).heap = s.heap.map fun p => (p.1, if p.1 = id then unfxO js p.2 else p.2) := rfl
  rw [← hH] at hlk
  have hsome : ∀ i, ((unfxS id js s).heap.lookup i).isSome = (s.heap.lookup i).isSome := fun i => by rw [hlk i]; simp
  have hreach : ∀ (o : Ob) (i b : Nat), reach m i (unfxO js o) b = reach m i o b := fun o i b => by cases o <;> rfl
  have hav : ∀ b o, avOf (unfxS id js s).heap m b o → avOf s.heap m b o := by
    rintro b o ⟨i, ob, hl, hr, hm⟩
    rw [hlk i] at hl
    simp only [Option.map_eq_some_iff] at hl
    obtain ⟨ob0, h0, rfl⟩ := hl
    refine ⟨i, ob0, h0, ?_, ?_⟩
    · split at hr
      · rw [hreach] at hr; exact hr
      · exact hr
    · cases ob0 with
      | ext p => trivial
      | lst n sz g =>
        have e : (if i = id then unfxO js (.lst n sz g) else .lst n sz g) = .lst n sz g := by split <;> rfl
        rw [e] at hm; exact hm
      | box xs => trivial
      | arr d n sz g => trivial
  have harr : ∀ {i : Nat} {d : Bool} {n sz : Nat} {g : Nat → Nat → C}, s.heap.lookup i = some (.arr d n sz g) → (unfxS id js s).heap.lookup i = some (.arr d n sz g) := by
    intro i d n sz g h
    rw [hlk i, h]
    simp [unfxO]
  have hX : ∀ {x : X} {v : Value}, XRep s.heap m w x v → XRep (unfxS id js s).heap m w x v := by
    intro x v h
    cases x with
    | c c => exact CRep.avoid (fun b o _ h' => hav b o h') h
    | nils => exact h
    | ptr i off => exact ⟨by rw [hsome]; exact h.1, h.2⟩
    | arr i =>
      obtain ⟨h1, h2, h3⟩ := h
      refine ⟨by rw [hsome]; exact h1, ?_, h3⟩
      cases hq : s.heap.lookup i with
      | none => rw [hq] at h1; cases h1
      | some o =>
        rw [hq] at h2
        cases o with
        | ext p => exact h2.elim
        | arr d n sz g => rw [harr hq]; trivial
        | box xs => exact h2.elim
        | lst n sz g => exact h2.elim
    | elt i k off =>
      obtain ⟨d, n, sz, g, b, cap, h1, h2⟩ := h
      exact ⟨d, n, sz, g, b, cap, harr h1, h2⟩
    | sub i k j =>
      obtain ⟨n, sz, g, h1, h2⟩ := h
      exact ⟨n, sz, g, harr h1, h2⟩
    | fx i j c => exact ⟨h.1, CRep.avoid (fun b o _ h' => hav b o h') h.2⟩
    | lst i n sz g => exact ⟨CRep.avoid (fun b o _ h' => hav b o h') h.1, fun h' => h.2 (by rw [← hsome]; exact h')⟩
    | clo f is => exact ⟨fun i hi => ⟨by rw [hsome]; exact (h.1 i hi).1, (h.1 i hi).2⟩, h.2⟩
  have hT : ∀ {t : TV} {v : Value}, TVRep s.heap m w t v → TVRep (unfxS id js s).heap m w t v := by
    intro t v h
    cases t with
    | one x => exact hX h
    | agg xs =>
      obtain ⟨vs, h1, h2, h3⟩ := h
      exact ⟨vs, h1, h2, fun j x hj => by obtain ⟨u, hu, hr⟩ := h3 j x hj; exact ⟨u, hu, hX hr⟩⟩
  refine ⟨hR.defers, hR.size, hR.below, hR.lowK, m, ⟨⟨fun i ob hl => ?_, fun i b ha hf => hok.lo i b (by rw [← hsome]; exact ha) hf, fun i i' b ha ha' hf hf' => hok.apart i i' b (by rw [← hsome]; exact ha) (by rw [← hsome]; exact ha') hf hf'⟩, hfix⟩, fun t v hl => ?_⟩
  · rw [hlk i] at hl
    simp only [Option.map_eq_some_iff] at hl
    obtain ⟨ob0, h0, rfl⟩ := hl
    have hob := hok.ob i ob0 h0
    cases ob0 with
    | ext p => split <;> exact hob
    | arr d n sz g => split <;> exact hob
    | lst n sz g => split <;> exact hob
    | box xs =>
      obtain ⟨b, cur, E, h1, h2, h3, h4, h5⟩ := hob
      split
      · refine ⟨b, cur, E, h1, h2, by rw [unfxB_length]; exact h3, h4, fun j y hj => ?_⟩
        obtain ⟨x, k1, k2⟩ := unfxB_get js xs 0 j y hj
        obtain ⟨u, hu, hr⟩ := h5 j x k1
        refine ⟨u, hu, hX ?_⟩
        rcases k2 with rfl | rfl
        · exact hr
        · cases x <;> first | exact hr | exact hr.2
      · exact ⟨b, cur, E, h1, h2, h3, h4, fun j x hj => by obtain ⟨u, hu, hr⟩ := h5 j x hj; exact ⟨u, hu, hX hr⟩⟩
  · obtain ⟨u, hu, hr⟩ := henv t v hl
    refine ⟨u, hu, ?_⟩
    cases v with
    | v t => exact hT hr
    | tup ts =>
      obtain ⟨vs, h1, h2, h3⟩ := hr
      exact ⟨vs, h1, h2, fun j x hj => by obtain ⟨u, hu, hr⟩ := h3 j x hj; exact ⟨u, hu, hT hr⟩⟩
    | undef => exact hr
    | prt i lo len =>
      obtain ⟨d, n, sz, g, b, cap, h1, h2⟩ := hr
      exact ⟨d, n, sz, g, b, cap, harr h1, h2⟩
end Go.Fw
