/- A law: it answers true, its arguments read as before. -/
import Derived.Test.YtldifaphfgmbiaaFwR7
namespace Go.Fw
open Go Go.RowKit Go.WideShapes Go.ChangeShapes

theorem trodAll_stays {P : Program} {H : Type} {enc : TypeId × Value → H} (hl : laidOutB P = true) {W W' : World} {sp' : Nat → Bool} (hb : Below W.heap.size W W') : ∀ {ts : List TypeId} {vs : List Value} {ds : List (DataW H)} {ps : List MemPlace},
    (∀ t ∈ ts, P.readableRec t = true ∧ t < P.types.size) → (∀ x ∈ ps, x.block < W.heap.size) → (∀ x ∈ ps, sp' x.block = true) → DataW.TrodAll enc P W 0 (fun _ => true) true ts vs ds ps → DataW.TrodAll enc P W' 0 sp' true ts vs ds ps
  | [], [], [], _, _, _, _, h => h
  | [], [], _ :: _, _, _, _, _, h => h.elim
  | [], _ :: _, _, _, _, _, _, h => h.elim
  | _ :: _, [], _, _, _, _, _, h => h.elim
  | _ :: _, _ :: _, [], _, _, _, _, h => h.elim
  | t :: ts, v :: vs, d :: ds, ps, hr, hlt, hs, h => by
    obtain ⟨p, q, h1, h2, rfl⟩ := h
    refine ⟨p, q, ?_, trodAll_stays hl hb (fun t' ht => hr t' (by simp [ht])) (fun x hx => hlt x (by simp [hx])) (fun x hx => hs x (by simp [hx])) h2, rfl⟩
    exact WideElems.Trod_stays hl (hr t (by simp)).1 (hr t (by simp)).2 h1 (fun x hx => hb.same (hlt x (by simp [hx]))) (fun x hx => hs x (by simp [hx]))

theorem post_true {P : Program} {H : Type} {enc : TypeId × Value → H} {f : Func} {s : ChangeSpec} {apart fresh handsOn again : Bool} {W W' : World} {args : Array Value} {ds gs : List (DataW H)} {before : List MemPlace} {tb : TypeId}
    (hl : laidOutB P = true) (hW : DataW.Whole enc P f.params.toList s.vars apart W args.toList ds gs before) (hv : s.vars = []) (hb : Below W.heap.size W W') (hps : ∀ t ∈ f.params.toList, P.readableRec t = true ∧ t < P.types.size)
    (hres : f.resultTypes = #[tb]) (ht : P.underlying tb = some .bool) (hfn : (s.fn H ds).results = [.lit (.bool true)]) (hfa : (s.fn H ds).args = ds) (hfv : (s.fn H ds).vars = []) :
    s.post enc P f apart fresh handsOn again W args (.bool true) W' := by
  have hlt := hW.lt
  have hW' := hW
  obtain ⟨p, q, hA, hV, hpq, hfz, hnd⟩ := hW
  rw [hv] at hV
  have hgs : gs = [] ∧ q = [] := by
    cases gs with
    | nil => exact ⟨rfl, hV⟩
    | cons => exact hV.elim
  obtain ⟨rfl, rfl⟩ := hgs
  rw [List.append_nil] at hpq
  subst hpq
  have hds : ds ++ ([] : List (DataW H)) = ds := List.append_nil _
  have hrl : (Value.bool true).resultList f.resultTypes.size = [.bool true] := by rw [hres]; rfl
  have hr : ∀ (b : Nat) (sp : Nat → Bool) (hd : Bool), DataW.TrodAll enc P W' b sp hd f.resultTypes.toList ((Value.bool true).resultList f.resultTypes.size) (s.fn H ds).results [] := by
    intro b sp hd
    rw [hrl, hfn, hres]
    exact ⟨[], [], shut_bool ht true, rfl, rfl⟩
  have ha : ∀ sp : Nat → Bool, (∀ x ∈ before, sp x.block = true) → DataW.TrodAll enc P W' 0 sp true f.params.toList args.toList (s.fn H ds).args before := fun sp hs => by
    rw [hfa]; exact trodAll_stays hl hb hps hlt hs hA
  have hvars : ∀ sp : Nat → Bool, DataW.TrodVars enc P W' sp s.vars (s.fn H ds).vars [] := fun sp => by rw [hv, hfv]; rfl
  refine ⟨ds, [], before, [], before, [], hW', ?_, ?_, ?_, hb.frame _, fun _ => ⟨?_, ?_⟩⟩
  · rw [hds]; exact hr _ _ _
  · rw [hds]; exact ha _ (fun x hx => by simpa using hlt x hx)
  · rw [hds]; exact hvars _
  · intro j t r hj hrj
    rw [hrl] at hrj
    rw [hres] at hj
    cases j with
    | zero =>
      simp at hj hrj
      subst hj; subst hrj
      simp [Value.okWide, ht, Cell.okWide, Cell.ok]
    | succ j => simp at hrj
  · refine ⟨(s.fn H ds).results ++ (s.fn H ds).args, (s.fn H ds).vars, before, ⟨before, [], ?_, hvars _, by simp, ?_, hnd⟩, fun p hp _ => hp⟩
    · have := trodAll_append (ha (fun _ => true) (fun _ _ => rfl)) (hr 0 (fun _ => true) true)
      simpa using this
    · intro b off hp
      rw [hb.frozen (hlt _ hp)]
      exact hfz b off hp

theorem ctsRep1 {w : World} {t : CT} {v : Value} (h : CTRep w t v) : CTsRep w [t] #[v] := by
  refine ⟨rfl, fun j t' hj => ?_⟩
  cases j with
  | zero => simp at hj; subst hj; exact ⟨v, rfl, h⟩
  | succ j => simp at hj
theorem ctsRep2 {w : World} {t t' : CT} {v v' : Value} (h : CTRep w t v) (h' : CTRep w t' v') : CTsRep w [t, t'] #[v, v'] := by
  refine ⟨rfl, fun j u hj => ?_⟩
  match j, hj with
  | 0, hj => simp at hj; subst hj; exact ⟨v, rfl, h⟩
  | 1, hj => simp at hj; subst hj; exact ⟨v', rfl, h'⟩
  | j + 2, hj => simp at hj
theorem ctsRep3 {w : World} {t t' t2 : CT} {v v' v2 : Value} (h : CTRep w t v) (h' : CTRep w t' v') (h2 : CTRep w t2 v2) : CTsRep w [t, t', t2] #[v, v', v2] := by
  refine ⟨rfl, fun j u hj => ?_⟩
  match j, hj with
  | 0, hj => simp at hj; subst hj; exact ⟨v, rfl, h⟩
  | 1, hj => simp at hj; subst hj; exact ⟨v', rfl, h'⟩
  | 2, hj => simp at hj; subst hj; exact ⟨v2, rfl, h2⟩
  | j + 3, hj => simp at hj

end Go.Fw
