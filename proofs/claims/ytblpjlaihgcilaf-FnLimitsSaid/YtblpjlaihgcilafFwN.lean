
import Derived.Test.YtblpjlaihgcilafFwM
import Derived.Laws.Cells
import Derived.Laws.Strings
namespace Go.Fw
open Go Go.RowKit
variable {P : Program} {n0 : Nat → Prop} {H : List (Nat × Ob)} {m : Mem} {w : World}
theorem Eff.heap_same {E : Eff} (hn : E.new = []) (hg : E.gone = []) (H : List (Nat × Ob)) : E.heap H = H := by
  unfold Eff.heap; rw [hn, hg]; simp
theorem quiet_go {o : Oper} {a : Act} {E : Eff} (x : Sem Value) (hx : (execOp a.eval o).run P w = (x.run P w).andThen fun v w' => .ok (.value v) w')
    (hq : Quiet P x w H m E.av) (hok : HeapOK n0 H m w) (hn : E.new = []) (hg : E.gone = []) : OpGo P n0 o a w H m E := by
  obtain ⟨v, w', hr, hd, ha⟩ := hq
  unfold OpGo
  rw [hx, hr]
  simp only [Result.andThen_ok]
  refine ⟨m, ?_, ?_, ?_⟩
  · rw [Eff.heap_same hn hg]; exact hok.drew hd
  · rw [Eff.heap_same hn hg, hg, show E.ids = [] by unfold Eff.ids; rw [hn]; rfl]; exact Step.drew hd
  · rw [Eff.heap_same hn hg]; exact ha
theorem run_value (x : Sem Value) (w : World) : (do let a ← x; pure (Next.value a) : Sem Next).run P w = (x.run P w).andThen fun v w' => .ok (.value v) w' := by
  rw [Sem.run_bind]; rfl
theorem sizeT_spec {t : TypeId} {n : Nat} (h : sizeT P t = some n) : (sizeOf t).run P w = .ok n w := by
  unfold sizeT at h
  cases hi : P.info? t with
  | none => rw [hi] at h; cases h
  | some i => rw [hi] at h; cases h; simp [sizeOf, typeInfo, hi]
theorem run_loadVar_tv {t : TypeId} {b off n : Nat} {xs : List X} {tv : TV} (hs : sizeT P t = some n) (htv : asTV P t xs = some tv) (hl : xs.length = n)
    (hx : ∀ (j : Nat) (x : X), xs[j]? = some x → ∃ u, w.cell? ⟨b, off + j, none⟩ = some u ∧ XRep H m w x u) :
    ∃ v, (loadVar t ⟨b, off, none⟩).run P w = .ok v w ∧ TVRep H m w tv v := by
  have hcell : ∀ j, j < n → ∃ x u, xs[j]? = some x ∧ w.cell? ⟨b, off + j, none⟩ = some u ∧ XRep H m w x u := by
    intro j hj
    have hj' : j < xs.length := by omega
    obtain ⟨u, h1, h2⟩ := hx j xs[j] (List.getElem?_eq_getElem hj')
    exact ⟨xs[j], u, List.getElem?_eq_getElem hj', h1, h2⟩
  let f : Nat → Value := fun j => (w.cell? ⟨b, off + j, none⟩).getD undef
  have hf : ∀ j, j < n → w.cell? ((⟨b, off, none⟩ : Addr).add j) = some (f j) := by
    intro j hj
    obtain ⟨x, u, _, h2, _⟩ := hcell j hj
    rw [Addr.add_lit]
    simp only [f, h2, Option.getD_some]
  have agg : (isAgg t).run P w = .ok true w → tv = .agg xs → ∃ v, (loadVar t ⟨b, off, none⟩).run P w = .ok v w ∧ TVRep H m w tv v := by
    intro ha htv
    subst htv
    refine ⟨.agg ((List.range n).map f).toArray, ?_, _, rfl, by simp [hl], fun j x hj => ?_⟩
    · simp only [loadVar, Sem.run_bind, ha, Result.andThen_ok, ite_true, sizeT_spec hs, run_loadCells w _ n f hf, Sem.run_pure]
    · have hj' : j < xs.length := (List.getElem?_eq_some_iff.1 hj).1
      obtain ⟨u, h1, h2⟩ := hx j x hj
      refine ⟨u, ?_, h2⟩
      have : j < n := by omega
      simp [this, f, h1]
  have one : ∀ d, P.underlying t = some d → (∀ fs, d ≠ .struct fs) → (∀ k e, d ≠ .array k e) → singleX xs = some tv →
      ∃ v, (loadVar t ⟨b, off, none⟩).run P w = .ok v w ∧ TVRep H m w tv v := by
    intro d hd hda hdb hm
    have ⟨x, hxs⟩ : ∃ x, xs = [x] := by
      unfold singleX at hm
      split at hm
      · exact ⟨_, rfl⟩
      · cases hm
    subst hxs
    cases hm
    obtain ⟨u, h1, h2⟩ := hx 0 x rfl
    refine ⟨u, ?_, h2⟩
    have ha : (isAgg t).run P w = .ok false w := by
      unfold isAgg
      rw [Sem.run_bind, run_underlying hd w]
      cases d <;> first | rfl | exact absurd rfl (hda _) | exact absurd rfl (hdb _ _)
    simp only [Nat.add_zero] at h1
    simp only [loadVar, Sem.run_bind, ha, Result.andThen_ok, Bool.false_eq_true, ite_false, run_load, h1]
  unfold asTV at htv
  split at htv
  · rename_i fs hd
    cases htv
    exact agg (by unfold isAgg; rw [Sem.run_bind, run_underlying hd w]; rfl) rfl
  · rename_i k e hd
    cases htv
    exact agg (by unfold isAgg; rw [Sem.run_bind, run_underlying hd w]; rfl) rfl
  · rename_i d h1 h2 hd
    exact one _ hd (fun fs e => h1 fs e) (fun k e' e => h2 k e' e) htv
  · cases htv
theorem evLoad_sound {Hs : Nat → Option Ob} {t : TypeId} {av : AV} {v : Value} {E : Eff} (h : evLoad P Hs t av = some E) (hok : HeapOK n0 H m w) (hsub : Agree H Hs)
    (hr : AVRep H m w av v) : Quiet P (Instr.loadAt t v) w H m E.av ∧ E.new = [] ∧ E.gone = [] := by
  have fin : ∀ {b off n : Nat} {xs : List X} {tv : TV}, v = .pointer (some ⟨b, off, none⟩) → sizeT P t = some n → asTV P t xs = some tv → xs.length = n →
      (∀ (j : Nat) (x : X), xs[j]? = some x → ∃ u, w.cell? ⟨b, off + j, none⟩ = some u ∧ XRep H m w x u) → Quiet P (Instr.loadAt t v) w H m (.v tv) := by
    intro b off n xs tv hv hs htv hl hx
    obtain ⟨u, h1, h2⟩ := run_loadVar_tv hs htv hl hx
    refine ⟨u, w, ?_, Drew.refl w, h2⟩
    rw [hv]
    simp only [Instr.loadAt, Instr.sureAddr, Sem.run_bind, Sem.run_pure, Result.andThen_ok, h1]
  unfold evLoad at h
  split at h
  · rename_i n id off hs
    split at h
    · rename_i xs hob
      split at h
      · rename_i hle
        simp only [Option.map_eq_some_iff] at h
        obtain ⟨tv, htv, rfl⟩ := h
        refine ⟨?_, rfl, rfl⟩
        obtain ⟨ha, b, hv, hp⟩ := hr
        obtain ⟨ob, hl⟩ := Option.isSome_iff_exists.1 ha
        cases hsub id ob _ hl hob
        obtain ⟨b', cur, E, hv', hb, hcs, _, hx⟩ := hok.ob id _ hl
        rw [hv'] at hv; cases hv
        refine fin hp hs htv (by simp; omega) fun j x hj => ?_
        rw [List.getElem?_map] at hj
        simp only [Option.map_eq_some_iff] at hj
        obtain ⟨y, hj, rfl⟩ := hj
        rw [List.getElem?_take] at hj
        split at hj
        · rw [List.getElem?_drop] at hj
          obtain ⟨u, hu, hxr⟩ := hx (off + j) y hj
          refine ⟨u, by rw [cell_of_row w b (off + j) cur E (0, 0) hb]; exact hu, ?_⟩
          cases y <;> first | exact hxr | exact hxr.2
        · cases hj
      · cases h
    · cases h
  · rename_i n mm get hs
    split at h
    · rename_i hle
      simp only [Option.map_eq_some_iff] at h
      obtain ⟨tv, htv, rfl⟩ := h
      refine ⟨?_, rfl, rfl⟩
      obtain ⟨b, off, hv, hc⟩ := hr
      refine fin hv hs htv (by simp) fun j x hj => ?_
      rw [List.getElem?_map] at hj
      simp only [Option.map_eq_some_iff] at hj
      obtain ⟨k, hk, rfl⟩ := hj
      have hjn : j < n := by have := (List.getElem?_eq_some_iff.1 hk).1; simpa using this
      have : k = j := by simp [hjn] at hk; exact hk.symm
      subst this
      obtain ⟨_, u, hu, hcr⟩ := hc k (by omega)
      exact ⟨u, hu, hcr⟩
    · cases h
  · rename_i n id i off hs
    split at h
    · rename_i d nn sz get hob
      split at h
      · rename_i hle
        simp only [Option.map_eq_some_iff] at h
        obtain ⟨tv, htv, rfl⟩ := h
        refine ⟨?_, rfl, rfl⟩
        obtain ⟨d', n', sz', g', b, cap, hl, hi, hv, hp⟩ := hr
        cases hsub id _ _ hl hob
        have hobr := hok.ob id _ hl
        have hown : OwnC w (.seq nn sz get) (m.foot id) (m.val id) := hobr.1
        rcases hown with ⟨hv', _⟩ | ⟨b', cap', cur, E, fr, hv', hn, _, hb, hcs, hfb, G, hG, hd⟩
        · rw [hv'] at hv; cases hv
        · rw [hv'] at hv; cases hv
          refine fin hp hs htv (by simp) fun j x hj => ?_
          rw [List.getElem?_map] at hj
          simp only [Option.map_eq_some_iff] at hj
          obtain ⟨k, hk, rfl⟩ := hj
          have hjn : j < n := by have := (List.getElem?_eq_some_iff.1 hk).1; simpa using this
          have : k = j := by simp [hjn] at hk; exact hk.symm
          subst this
          obtain ⟨hGi, u, hu, ho⟩ := hG i (off + k) hi (by omega)
          have hcell : w.cell? ⟨b, i * sz + (off + k), none⟩ = some u := by rw [cell_of_row w b _ cur E fr hb]; exact hu
          refine ⟨u, by rw [Nat.add_assoc]; exact hcell, ?_⟩
          cases d with
          | false =>
            refine OwnC.crep (fun b2 o2 hF hav => ?_) ho
            obtain ⟨id2, ob2, hl2, hbk2, hm2⟩ := hav
            have hf2 := (hok.ob id2 ob2 hl2).reach hbk2
            have hg2 := hGi b2 hF
            have := hok.apart id2 id b2 (by rw [hl2]; rfl) (by rw [hl]; rfl) hf2 hg2.1
            subst this
            rw [hl] at hl2; cases hl2
            have hbk3 : Value.blk (m.val id2) = some b2 := hbk2
            rw [hv'] at hbk3
            simp [Value.blk] at hbk3
            exact hg2.2 hbk3.symm
          | true =>
            have key : isSeq (get i (off + k)) = true → u = m.sub id (i * sz + (off + k)) := by
              intro hq
              obtain ⟨b2, h1, h2⟩ := hobr.2 rfl i (off + k) hi (by omega) hq
              rw [hv'] at h1
              simp [Value.blk] at h1
              subst h1
              rw [hcell] at h2
              cases h2; rfl
            cases hgc : get i (off + k) <;> rw [hgc] at ho
            case seq => exact ⟨nn, sz, get, hl, hi, by omega, by rw [hgc]; rfl, key (by rw [hgc]; rfl)⟩
            case fn => exact OwnC.crep (F := fun _ => False) (fun _ _ h _ => h.elim) ho
            all_goals first | exact ho | exact ho.elim
      · cases h
    · cases h
  · cases h
end Go.Fw
