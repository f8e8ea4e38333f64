/- One operation, part 7: addresses, fields, elements, lengths. -/
import Derived.Test.YtldifaphfgmbiaaFwN
namespace Go.Fw
open Go Go.RowKit

variable {P : Program} {n0 : Nat → Prop} {H : List (Nat × Ob)} {m : Mem} {w : World}

theorem fieldT_spec {t ft : TypeId} {k o n : Nat} (h : fieldT P t k = some (ft, o, n)) : ∃ fs f, P.underlying t = some (.struct fs) ∧ fs[k]? = some f ∧ f.type = ft ∧ f.offset = o ∧ sizeT P ft = some n := by
  unfold fieldT at h
  split at h
  · rename_i fs hu
    split at h
    · rename_i f hf
      simp only [Option.map_eq_some_iff] at h
      obtain ⟨n', hn, he⟩ := h
      cases he
      exact ⟨fs, f, hu, hf, rfl, rfl, hn⟩
    · cases h
  · cases h

theorem run_fieldAt {t ft : TypeId} {k o n b off : Nat} (h : fieldT P t k = some (ft, o, n)) (hn : n ≠ 0) :
    (Instr.fieldAt t (.pointer (some ⟨b, off, none⟩)) k).run P w = .ok (.pointer (some ⟨b, off + o, none⟩)) w := by
  obtain ⟨fs, f, hu, hf, rfl, rfl, hs⟩ := fieldT_spec h
  simp only [Instr.fieldAt, Sem.run_bind, run_underlying hu w, Result.andThen_ok, hf, Instr.sureAddr, Sem.run_pure, fieldPlace, sizeT_spec hs, if_neg hn, Addr.add_lit]

theorem evFieldAddr_sound {t : TypeId} {k : Nat} {av : AV} {v : Value} {E : Eff} (h : evFieldAddr P t av k = some E) (hr : AVRep H m w av v) :
    Quiet P (Instr.fieldAt t v k) w H m E.av ∧ E.new = [] ∧ E.gone = [] := by
  unfold evFieldAddr at h
  split at h
  · rename_i ft o n id off hft
    split at h
    · rename_i hn
      cases h
      obtain ⟨ha, b, hv, rfl⟩ := hr
      exact ⟨⟨_, w, run_fieldAt hft hn, Drew.refl w, ha, b, hv, rfl⟩, rfl, rfl⟩
    · cases h
  · rename_i ft o n mm get hft
    split at h
    · rename_i hn
      cases h
      obtain ⟨b, off, rfl, hc⟩ := hr
      refine ⟨⟨_, w, run_fieldAt hft hn.1, Drew.refl w, b, off + o, rfl, fun j hj => ?_⟩, rfl, rfl⟩
      have := hc (o + j) (by omega)
      rwa [← Nat.add_assoc] at this
    · cases h
  · rename_i ft o n id i off hft
    split at h
    · rename_i hn
      cases h
      obtain ⟨d', n', sz', g', b, cap, hl, hi, hv, rfl⟩ := hr
      refine ⟨⟨_, w, run_fieldAt hft hn, Drew.refl w, d', n', sz', g', b, cap, hl, hi, hv, ?_⟩, rfl, rfl⟩
      rw [Nat.add_assoc]
    · cases h
  · cases h

theorem run_part_tv {t : TypeId} {n off : Nat} {cs : Array Value} {xs : List X} {tv : TV} (hs : sizeT P t = some n) (htv : asTV P t xs = some tv) (hl : xs.length = n) (hle : off + n ≤ cs.size)
    (hx : ∀ (j : Nat) (x : X), xs[j]? = some x → ∃ u, cs[off + j]? = some u ∧ XRep H m w x u) : ∃ v, (part t cs off).run P w = .ok v w ∧ TVRep H m w tv v := by
  have agg : (isAgg t).run P w = .ok true w → tv = .agg xs → ∃ v, (part t cs off).run P w = .ok v w ∧ TVRep H m w tv v := by
    intro ha htv
    subst htv
    refine ⟨.agg (cs.extract off (off + n)), ?_, _, rfl, by simp; omega, fun j x hj => ?_⟩
    · simp only [part, Sem.run_bind, ha, Result.andThen_ok, ite_true, sizeT_spec hs, Sem.run_pure]
    · have hj' : j < xs.length := (List.getElem?_eq_some_iff.1 hj).1
      obtain ⟨u, h1, h2⟩ := hx j x hj
      refine ⟨u, ?_, h2⟩
      rw [Array.getElem?_extract, if_pos (by omega)]; exact h1
  have one : ∀ d, P.underlying t = some d → (∀ fs, d ≠ .struct fs) → (∀ k e, d ≠ .array k e) → singleX xs = some tv → ∃ v, (part t cs off).run P w = .ok v w ∧ TVRep H m w tv v := by
    intro d hd hda hdb hm
    have ⟨x, hxs⟩ : ∃ x, xs = [x] := by
      unfold singleX at hm
      split at hm
      · exact ⟨_, rfl⟩
      · cases hm
    subst hxs
    cases hm
    obtain ⟨u, h1, h2⟩ := hx 0 x rfl
    refine ⟨u, ?_, h2⟩
    have ha : (isAgg t).run P w = .ok false w := by
      unfold isAgg
      rw [Sem.run_bind, run_underlying hd w]
      cases d <;> first | rfl | exact absurd rfl (hda _) | exact absurd rfl (hdb _ _)
    simp only [Nat.add_zero] at h1
    simp only [part, Sem.run_bind, ha, Result.andThen_ok, Bool.false_eq_true, ite_false, h1, Sem.run_pure]
  unfold asTV at htv
  split at htv
  · rename_i fs hd
    cases htv
    exact agg (by unfold isAgg; rw [Sem.run_bind, run_underlying hd w]; rfl) rfl
  · rename_i k e hd
    cases htv
    exact agg (by unfold isAgg; rw [Sem.run_bind, run_underlying hd w]; rfl) rfl
  · rename_i d h1 h2 hd
    exact one _ hd (fun fs e => h1 fs e) (fun k e' e => h2 k e' e) htv
  · cases htv

theorem evField_sound {t : TypeId} {k : Nat} {av : AV} {v : Value} {E : Eff} (h : evField P t av k = some E) (hr : AVRep H m w av v) :
    Quiet P (Instr.field t v k) w H m E.av ∧ E.new = [] ∧ E.gone = [] := by
  unfold evField at h
  split at h
  · rename_i ft o n xs hft
    split at h
    · rename_i hle
      simp only [Option.map_eq_some_iff] at h
      obtain ⟨tv, htv, rfl⟩ := h
      obtain ⟨vs, rfl, hsz, hx⟩ := hr
      obtain ⟨fs, f, hu, hf, rfl, rfl, hs⟩ := fieldT_spec hft
      obtain ⟨u, h1, h2⟩ := run_part_tv (H := H) (m := m) (w := w) (off := f.offset) (cs := vs) hs htv (by simp; omega) (by omega) (fun j x hj => by
        rw [List.getElem?_take] at hj
        split at hj
        · rw [List.getElem?_drop] at hj; exact hx _ x hj
        · cases hj)
      refine ⟨⟨u, w, ?_, Drew.refl w, h2⟩, rfl, rfl⟩
      simp only [Instr.field, Sem.run_bind, run_underlying hu w, Result.andThen_ok, hf, asAgg, Sem.run_pure, h1]
    · cases h
  · cases h

theorem run_indexAt {t e : TypeId} {sz b off n cap : Nat} {k : IntKind} {i : Int} (hu : P.underlying t = some (.slice e)) (hs : sizeT P e = some sz) (h0 : 0 ≤ i) (h1 : i < (n : Int)) :
    (Instr.indexAt t (.slice (some ⟨b, off, none⟩) n cap) (.int k i)).run P w = .ok (.pointer (some ⟨b, off + i.toNat * sz, none⟩)) w := by
  simp only [Instr.indexAt, asIntOf, Sem.run_bind, Sem.run_pure, Result.andThen_ok, run_underlying hu w]
  rw [if_pos ⟨h0, h1⟩]
  simp only [Sem.run_bind, sizeT_spec hs, Result.andThen_ok, Sem.run_pure, Addr.add_lit]

theorem evIndexAddr_sound {Hs : Nat → Option Ob} {t : TypeId} {a i : AV} {u v : Value} {E : Eff} (h : evIndexAddr P Hs t a i = some E) (hob : E.ob) (hok : HeapOK n0 H m w) (hsub : Agree H Hs)
    (hr : AVRep H m w a u) (hi : AVRep H m w i v) : Quiet P (Instr.indexAt t u v) w H m E.av ∧ E.new = [] ∧ E.gone = [] := by
  have fin : ∀ {n sz : Nat} {get : Nat → Nat → C} {e : TypeId} {k : IntKind} {q : Int}, P.underlying t = some (.slice e) → sizeT P e = some sz → CRep w (avOf H m) (.seq n sz get) u → v = .int k q → 0 ≤ q → q < (n : Int) →
      Quiet P (Instr.indexAt t u v) w H m (cv (.ptr sz fun j => get q.toNat j)) := by
    intro n sz get e k q hu hs hc hv h0 h1
    subst hv
    obtain ⟨a0, cap, rfl, hn, hc⟩ := hc
    obtain ⟨b, off, rfl, hc2⟩ := hc (by omega)
    refine ⟨_, w, run_indexAt hu hs h0 h1, Drew.refl w, b, off + q.toNat * sz, rfl, fun j hj => ?_⟩
    exact hc2 q.toNat j (by omega) hj
  unfold evIndexAddr at h
  split at h
  · rename_i e n sz get k q hu
    split at h
    · rename_i hs
      cases h
      exact ⟨fin hu hs hr hi hob.1 hob.2, rfl, rfl⟩
    · cases h
  · rename_i e id n sz get k q hu
    split at h
    · rename_i hs
      cases h
      exact ⟨fin hu hs hr.1 hi hob.1 hob.2, rfl, rfl⟩
    · cases h
  · rename_i e id k q hu
    split at h
    · rename_i d n sz get hobj
      split at h
      · rename_i hs
        cases h
        obtain ⟨ha, hA, hv⟩ := hr
        obtain ⟨ob, hl⟩ := Option.isSome_iff_exists.1 ha
        cases hsub id ob _ hl hobj
        have h0 : 0 ≤ q := hob.1
        have h1 : q < (n : Int) := hob.2
        have hq : v = .int k q := hi
        subst hq
        have hown : OwnC w (.seq n sz get) (m.foot id) (m.val id) := (hok.ob id _ hl).1
        rcases hown with ⟨_, hz⟩ | ⟨b, cap, cur, E, fr, hv', hn, _⟩
        · omega
        · rw [hv, hv']
          exact ⟨⟨_, w, run_indexAt hu hs h0 h1, Drew.refl w, d, n, sz, get, b, cap, hl, by omega, hv', by simp⟩, rfl, rfl⟩
      · cases h
    · cases h
  · cases h

theorem evIndex_sound {t : TypeId} {a i : AV} {u v : Value} {E : Eff} (h : evIndex P t a i = some E) (hob : E.ob) (hr : AVRep H m w a u) (hi : AVRep H m w i v) :
    Quiet P (Instr.index t u v) w H m E.av ∧ E.new = [] ∧ E.gone = [] := by
  unfold evIndex at h
  split at h
  · rename_i s k q hu
    cases h
    have hus : u = .string s := hr
    have hvq : v = .int k q := hi
    subst hus hvq
    have h0 : 0 ≤ q := hob.1
    have h1 : q < (s.size : Int) := hob.2
    have hlt : q.toNat < s.size := by omega
    have hg : s[q.toNat]? = some s[q.toNat] := getElem?_pos s q.toNat hlt
    refine ⟨⟨.int .u8 (bt s q.toNat), w, ?_, Drew.refl w, rfl⟩, rfl, rfl⟩
    simp only [Instr.index, asIntOf, Sem.run_bind, Sem.run_pure, Result.andThen_ok, run_underlying hu w, if_pos h0, hg]
    have hb : bt s q.toNat = (s[q.toNat].toNat : Int) := by
      have hl : q.toNat < s.data.toList.length := hlt
      unfold bt
      rw [List.getElem?_eq_getElem hl]
      rfl
    rw [hb]
  · cases h

theorem evLen_sound {Hs : Nat → Option Ob} {t ty : TypeId} {a : AV} {u : Value} {E : Eff} (h : evLen P Hs t a = some E) (hok : HeapOK n0 H m w) (hsub : Agree H Hs) (hr : AVRep H m w a u) :
    Quiet P (Builtin.len_ #[t] ty #[u]) w H m E.av ∧ E.new = [] ∧ E.gone = [] := by
  have sl : ∀ {e : TypeId} {a0 : Option Addr} {n cap : Nat}, P.underlying t = some (.slice e) → u = .slice a0 n cap → Quiet P (Builtin.len_ #[t] ty #[u]) w H m (iv .i64 n) := by
    intro e a0 n cap hu hv
    subst hv
    refine ⟨.int .i64 n, w, ?_, Drew.refl w, rfl⟩
    simp [Builtin.len_, run_underlying hu w, goInt]
  unfold evLen at h
  split at h
  · rename_i s hu
    cases h
    have hus : u = .string s := hr
    subst hus
    refine ⟨⟨.int .i64 s.size, w, ?_, Drew.refl w, rfl⟩, rfl, rfl⟩
    simp [Builtin.len_, run_underlying hu w, goInt]
  · rename_i e n sz get hu
    cases h
    obtain ⟨a0, cap, hv, _⟩ := hr
    exact ⟨sl hu hv, rfl, rfl⟩
  · rename_i e id n sz get hu
    cases h
    obtain ⟨⟨a0, cap, hv, _⟩, _⟩ := hr
    exact ⟨sl hu hv, rfl, rfl⟩
  · rename_i e hu
    cases h
    exact ⟨sl (n := 0) hu hr, rfl, rfl⟩
  · rename_i e id hu
    split at h
    · rename_i d n sz get hobj
      cases h
      obtain ⟨ha, hA, hv⟩ := hr
      obtain ⟨ob, hl⟩ := Option.isSome_iff_exists.1 ha
      cases hsub id ob _ hl hobj
      have hown : OwnC w (.seq n sz get) (m.foot id) (m.val id) := (hok.ob id _ hl).1
      rcases hown with ⟨hv', hz⟩ | ⟨b, cap, cur, E, fr, hv', _⟩
      · subst hz; exact ⟨sl hu (hv.trans hv'), rfl, rfl⟩
      · exact ⟨sl hu (hv.trans hv'), rfl, rfl⟩
    · cases h
  · cases h

end Go.Fw
