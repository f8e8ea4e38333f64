
import Derived.Test.YtblpjlaihgcilafFwR6
import Derived.ProofKit
namespace Go.Fw
open Go Go.RowKit Go.WideShapes
variable {P : Program} {w : World}
def CellsRep (w : World) (cs : List C) (vs : List Value) : Prop := vs.length = cs.length ∧ ∀ (j : Nat) (c : C), cs[j]? = some c → ∃ u, vs[j]? = some u ∧ CRep w (fun _ _ => False) c u
theorem CellsRep.append {l1 l2 : List C} {vs : List Value} (h1 : CellsRep w l1 (vs.take l1.length)) (h2 : CellsRep w l2 (vs.drop l1.length)) : CellsRep w (l1 ++ l2) vs := by
  have hl1 := h1.1
  have hl2 := h2.1
  simp only [List.length_take, List.length_drop] at hl1 hl2
  refine ⟨by rw [List.length_append]; omega, fun j c hj => ?_⟩
  rw [List.getElem?_append] at hj
  split at hj
  · rename_i h
    obtain ⟨u, hu, hr⟩ := h1.2 j c hj
    rw [List.getElem?_take, if_pos h] at hu
    exact ⟨u, hu, hr⟩
  · rename_i h
    obtain ⟨u, hu, hr⟩ := h2.2 _ c hj
    rw [List.getElem?_drop] at hu
    have : l1.length + (j - l1.length) = j := by omega
    rw [this] at hu
    exact ⟨u, hu, hr⟩
theorem CellsRep.one {c : C} {u : Value} (h : CRep w (fun _ _ => False) c u) : CellsRep w [c] [u] := by
  refine ⟨rfl, fun j d hj => ?_⟩
  cases j with
  | zero => simp at hj; subst hj; exact ⟨u, rfl, h⟩
  | succ j => simp at hj
def Rd (P : Program) (w : World) (t : TypeId) {α : Type} (cs : α → List C) (ok : α → Prop) : Prop :=
  ∀ {H : Type} (enc : TypeId × Value → H) (base : Nat) (sp : Nat → Bool) (held : Bool) (fuel : Nat) (vs : List Value) (x : DataW H × List MemPlace), DataW.trod enc P w base sp held fuel t vs = some x → ∃ a : α, ok a ∧ CellsRep w (cs a) vs
theorem rd_int {t : TypeId} {k : IntKind} (ht : P.underlying t = some (.int k)) : Rd P w t (csI k) (fun n => (Lit.int k n).wf = true) := by
  intro H enc base sp held fuel vs x h
  obtain ⟨n, rfl, _, hw⟩ := DataW.trod_int ht h
  exact ⟨n, hw, CellsRep.one rfl⟩
theorem rd_slice {α : Type} [Inhabited α] {t e : TypeId} {cs : α → List C} {ok : α → Prop} {sz : Nat} (he : Rd P w e cs ok) (ht : P.underlying t = some (.slice e)) (hc : P.cellsOf e = sz) (hpos : 0 < sz) (hsz : ∀ a, (cs a).length = sz) :
    Rd P w t (csL sz cs) (fun xs => xs.length ≤ maxLen ∧ ∀ x ∈ xs, ok x) := by
  intro H enc base sp held fuel vs x h
  rcases DataW.trod_slice ht h with ⟨rfl, _⟩ | ⟨a, len, cap, elems, rest, n, _, rfl, _, hb, hl, hm, hlen, hel, _, _⟩
  · exact ⟨[], ⟨by simp, by simp⟩, CellsRep.one ⟨none, 0, rfl, Nat.le_refl _, fun h => absurd h (by simp)⟩⟩
  · have each : ∀ i, ∃ x : α, i < len → ok x ∧ ∃ us : List Value, CellsRep w (cs x) us ∧ ∀ j, j < sz → w.cell? (a.add (i * sz + j)) = us[j]? := by
      intro i
      by_cases hi : i < len
      · have h1 := hel i hi
        have : ∃ y, elems[i]? = some y := ⟨elems[i]'(by omega), List.getElem?_eq_getElem (by omega)⟩
        obtain ⟨y, hy⟩ := this
        rw [hy, Option.bind_eq_some_iff] at h1
        obtain ⟨us, hus, htr⟩ := h1
        obtain ⟨x, hx, hr⟩ := he enc base sp held n us y htr
        obtain ⟨_, hul, hcell⟩ := World.cells?_some hus
        refine ⟨x, fun _ => ⟨hx, us, hr, fun j hj => ?_⟩⟩
        rw [hc] at hcell
        have := hcell j hj
        rw [← this]
        congr 1
        by_cases h1 : i * sz = 0 <;> by_cases h2 : j = 0 <;> simp [Addr.add, h1, h2, Nat.add_assoc]
      · exact ⟨default, fun h => absurd h hi⟩
    let f : Nat → α := fun i => Classical.choose (each i)
    have hf : ∀ i, i < len → ok (f i) ∧ ∃ us : List Value, CellsRep w (cs (f i)) us ∧ ∀ j, j < sz → w.cell? (a.add (i * sz + j)) = us[j]? := fun i hi => Classical.choose_spec (each i) hi
    have hg : ∀ i, i < len → ((List.range len).map f).getD i default = f i := by
      intro i hi
      rw [List.getD_eq_getElem?_getD, List.getElem?_map, List.getElem?_range hi]
      rfl
    refine ⟨(List.range len).map f, ⟨by simp; omega, fun x hx => ?_⟩, CellsRep.one ?_⟩
    · obtain ⟨i, hi, rfl⟩ := List.mem_map.1 hx
      exact (hf i (by simpa using hi)).1
    · refine ⟨some a, cap, by simp, by simpa using hl, fun hp => ?_⟩
      have hp' : 0 < len := by simpa using hp
      obtain ⟨b, off, spot⟩ := a
      have hspot : spot = none := by
        obtain ⟨_, us, hr, hcell⟩ := hf 0 hp'
        have h0 := hcell 0 hpos
        have hul : us.length = sz := by rw [hr.1, hsz]
        obtain ⟨c0, hc0⟩ : ∃ c0, us[0]? = some c0 := ⟨us[0]'(by omega), List.getElem?_eq_getElem (by omega)⟩
        rw [hc0] at h0
        simpa [Addr.add] using World.cell?_spot h0
      subst hspot
      refine ⟨b, off, rfl, fun i j hi hj => ⟨fun h => h, ?_⟩⟩
      have hi' : i < len := by simpa using hi
      obtain ⟨_, us, hr, hcell⟩ := hf i hi'
      have hul : us.length = sz := by rw [hr.1, hsz]
      have hj' : j < (cs (f i)).length := by rw [hsz]; exact hj
      obtain ⟨u, hu, hcr⟩ := hr.2 j (cs (f i))[j] (List.getElem?_eq_getElem hj')
      refine ⟨u, ?_, ?_⟩
      · have := hcell j hj
        rw [Addr.add_lit] at this
        rw [Nat.add_assoc, this]; exact hu
      · show CRep w _ ((cs (((List.range len).map f).getD i default)).getD j .nilptr) u
        rw [hg i hi', List.getD_eq_getElem?_getD, List.getElem?_eq_getElem hj']
        exact hcr
theorem CellsRep.last {l : List C} {vs : List Value} {o n : Nat} (h : CellsRep w l ((vs.drop o).take n)) (hl : vs.length = o + n) : CellsRep w l (vs.drop o) := by
  rw [List.take_of_length_le (by simp; omega)] at h
  exact h
theorem rd_arg_one {t : TypeId} {α : Type} {c : α → C} {ok : α → Prop} {H : Type} {enc : TypeId × Value → H} {base : Nat} {sp : Nat → Bool} {held : Bool} {v : Value} {d : DataW H} {p : List MemPlace}
    (hr : Rd P w t (fun a => [c a]) ok) (hv : v.cells = #[v]) (h : DataW.Trod enc P w base sp held t v d p) : ∃ a : α, ok a ∧ CTRep w (.one (c a)) v := by
  obtain ⟨fuel, h⟩ := h
  rw [hv] at h
  obtain ⟨a, ha, hl, hx⟩ := hr enc base sp held fuel _ _ h
  obtain ⟨u, hu, hr⟩ := hx 0 (c a) rfl
  simp at hu
  subst hu
  exact ⟨a, ha, hr⟩
theorem rd_arg_ones {t : TypeId} {e : TypeId} (ht : P.underlying t = some (.slice e)) {α : Type} {c : α → C} {ok : α → Prop} {H : Type} {enc : TypeId × Value → H} {base : Nat} {sp : Nat → Bool} {held : Bool} {v : Value} {d : DataW H} {p : List MemPlace} {r : Reach} {b0 : Nat}
    (hr : Rd P w t (fun a => [c a]) ok) (hv : Value.okWide P w r b0 t v) (h : DataW.Trod enc P w base sp held t v d p) : ∃ a : α, ok a ∧ CTRep w (.one (c a)) v := by
  refine rd_arg_one hr ?_ h
  unfold Value.okWide at hv
  simp only [ht] at hv
  unfold Cell.okWide at hv
  simp only [ht] at hv
  unfold Cell.ok at hv
  simp only [ht] at hv
  cases v <;> first | rfl | exact hv.elim
theorem CallOK.calls {f : FuncId} {fn : Func} {args res : List CT} (h : CallOK P f args res) (hf : P.funcs[f]? = some fn) (hb : fn.body.isSome = true) (hname : (fn.name == "runtime.NumGoroutine") = false) {vs : Array Value} (hgd : Gd w) (ha : CTsRep w args vs) :
    Calls P f vs w fun e w' => ∃ v, e = .returned v ∧ Below w.heap.size w w' ∧ Res w.heap.size w' res v := by
  have h1 := h w vs hgd ha
  unfold Invk at h1
  have hrun : (callFunc f vs).run P w = .ok (.enter f vs) w := by
    simp only [callFunc, Sem.run_bind, run_program, Result.andThen_ok, hf, hname, Bool.false_eq_true, ite_false]
    cases hb' : fn.body with
    | none => rw [hb'] at hb; cases hb
    | some c => simp
  rw [hrun] at h1
  exact h1.2
end Go.Fw
/-! A law: it answers true, its arguments read as before. -/
namespace Go.Fw
open Go Go.RowKit Go.WideShapes Go.ChangeShapes
theorem trodAll_stays {P : Program} {H : Type} {enc : TypeId × Value → H} (hl : laidOutB P = true) {W W' : World} {sp' : Nat → Bool} (hb : Below W.heap.size W W') : ∀ {ts : List TypeId} {vs : List Value} {ds : List (DataW H)} {ps : List MemPlace},
    (∀ t ∈ ts, P.readableRec t = true ∧ t < P.types.size) → (∀ x ∈ ps, x.block < W.heap.size) → (∀ x ∈ ps, sp' x.block = true) → DataW.TrodAll enc P W 0 (fun _ => true) true ts vs ds ps → DataW.TrodAll enc P W' 0 sp' true ts vs ds ps
  | [], [], [], _, _, _, _, h => h
  | [], [], _ :: _, _, _, _, _, h => h.elim
  | [], _ :: _, _, _, _, _, _, h => h.elim
  | _ :: _, [], _, _, _, _, _, h => h.elim
  | _ :: _, _ :: _, [], _, _, _, _, h => h.elim
  | t :: ts, v :: vs, d :: ds, ps, hr, hlt, hs, h => by
    obtain ⟨p, q, h1, h2, rfl⟩ := h
    refine ⟨p, q, ?_, trodAll_stays hl hb (fun t' ht => hr t' (by simp [ht])) (fun x hx => hlt x (by simp [hx])) (fun x hx => hs x (by simp [hx])) h2, rfl⟩
    exact WideElems.Trod_stays hl (hr t (by simp)).1 (hr t (by simp)).2 h1 (fun x hx => hb.same (hlt x (by simp [hx]))) (fun x hx => hs x (by simp [hx]))
theorem post_true {P : Program} {H : Type} {enc : TypeId × Value → H} {f : Func} {s : ChangeSpec} {apart fresh handsOn again : Bool} {W W' : World} {args : Array Value} {ds gs : List (DataW H)} {before : List MemPlace} {tb : TypeId}
    (hl : laidOutB P = true) (hW : DataW.Whole enc P f.params.toList s.vars apart W args.toList ds gs before) (hv : s.vars = []) (hb : Below W.heap.size W W') (hps : ∀ t ∈ f.params.toList, P.readableRec t = true ∧ t < P.types.size)
    (hres : f.resultTypes = #[tb]) (ht : P.underlying tb = some .bool) (hfn : (s.fn H ds).results = [.lit (.bool true)]) (hfa : (s.fn H ds).args = ds) (hfv : (s.fn H ds).vars = []) :
    s.post enc P f apart fresh handsOn again W args (.bool true) W' := by
  have hlt := hW.lt
  have hW' := hW
  obtain ⟨p, q, hA, hV, hpq, hfz, hnd⟩ := hW
  rw [hv] at hV
  have hgs : gs = [] ∧ q = [] := by
    cases gs with
    | nil => exact ⟨rfl, hV⟩
    | cons => exact hV.elim
  obtain ⟨rfl, rfl⟩ := hgs
  rw [List.append_nil] at hpq
  subst hpq
  have hds : ds ++ ([] : List (DataW H)) = ds := List.append_nil _
  have hrl : (Value.bool true).resultList f.resultTypes.size = [.bool true] := by rw [hres]; rfl
  have hr : ∀ (b : Nat) (sp : Nat → Bool) (hd : Bool), DataW.TrodAll enc P W' b sp hd f.resultTypes.toList ((Value.bool true).resultList f.resultTypes.size) (s.fn H ds).results [] := by
    intro b sp hd
    rw [hrl, hfn, hres]
    exact ⟨[], [], shut_bool ht true, rfl, rfl⟩
  have ha : ∀ sp : Nat → Bool, (∀ x ∈ before, sp x.block = true) → DataW.TrodAll enc P W' 0 sp true f.params.toList args.toList (s.fn H ds).args before := fun sp hs => by
    rw [hfa]; exact trodAll_stays hl hb hps hlt hs hA
  have hvars : ∀ sp : Nat → Bool, DataW.TrodVars enc P W' sp s.vars (s.fn H ds).vars [] := fun sp => by rw [hv, hfv]; rfl
  refine ⟨ds, [], before, [], before, [], hW', ?_, ?_, ?_, hb.frame _, fun _ => ⟨?_, ?_⟩⟩
  · rw [hds]; exact hr _ _ _
  · rw [hds]; exact ha _ (fun x hx => by simpa using hlt x hx)
  · rw [hds]; exact hvars _
  · intro j t r hj hrj
    rw [hrl] at hrj
    rw [hres] at hj
    cases j with
    | zero =>
      simp at hj hrj
      subst hj; subst hrj
      simp [Value.okWide, ht, Cell.okWide, Cell.ok]
    | succ j => simp at hrj
  · refine ⟨(s.fn H ds).results ++ (s.fn H ds).args, (s.fn H ds).vars, before, ⟨before, [], ?_, hvars _, by simp, ?_, hnd⟩, fun p hp _ => hp⟩
    · have := trodAll_append (ha (fun _ => true) (fun _ _ => rfl)) (hr 0 (fun _ => true) true)
      simpa using this
    · intro b off hp
      rw [hb.frozen (hlt _ hp)]
      exact hfz b off hp
theorem ctsRep2 {w : World} {t t' : CT} {v v' : Value} (h : CTRep w t v) (h' : CTRep w t' v') : CTsRep w [t, t'] #[v, v'] := by
  refine ⟨rfl, fun j u hj => ?_⟩
  match j, hj with
  | 0, hj => simp at hj; subst hj; exact ⟨v, rfl, h⟩
  | 1, hj => simp at hj; subst hj; exact ⟨v', rfl, h'⟩
  | j + 2, hj => simp at hj
end Go.Fw
