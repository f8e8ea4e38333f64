
import Derived.Test.YtblpjlaihgcilafFwN
import Derived.Laws.Tables
namespace Go.Fw
open Go Go.RowKit
variable {P : Program} {n0 : Nat → Prop} {H : List (Nat × Ob)} {m : Mem} {w : World}
theorem fieldT_spec {t ft : TypeId} {k o n : Nat} (h : fieldT P t k = some (ft, o, n)) : ∃ fs f, P.underlying t = some (.struct fs) ∧ fs[k]? = some f ∧ f.type = ft ∧ f.offset = o ∧ sizeT P ft = some n := by
  unfold fieldT at h
  split at h
  · rename_i fs hu
    split at h
    · rename_i f hf
      simp only [Option.map_eq_some_iff] at h
      obtain ⟨n', hn, he⟩ := h
      cases he
      exact ⟨fs, f, hu, hf, rfl, rfl, hn⟩
    · cases h
  · cases h
theorem run_fieldAt {t ft : TypeId} {k o n b off : Nat} (h : fieldT P t k = some (ft, o, n)) (hn : n ≠ 0) :
    (Instr.fieldAt t (.pointer (some ⟨b, off, none⟩)) k).run P w = .ok (.pointer (some ⟨b, off + o, none⟩)) w := by
  obtain ⟨fs, f, hu, hf, rfl, rfl, hs⟩ := fieldT_spec h
  simp only [Instr.fieldAt, Sem.run_bind, run_underlying hu w, Result.andThen_ok, hf, Instr.sureAddr, Sem.run_pure, fieldPlace, sizeT_spec hs, if_neg hn, Addr.add_lit]
theorem evFieldAddr_sound {t : TypeId} {k : Nat} {av : AV} {v : Value} {E : Eff} (h : evFieldAddr P t av k = some E) (hr : AVRep H m w av v) :
    Quiet P (Instr.fieldAt t v k) w H m E.av ∧ E.new = [] ∧ E.gone = [] := by
  unfold evFieldAddr at h
  split at h
  · rename_i ft o n id off hft
    split at h
    · rename_i hn
      cases h
      obtain ⟨ha, b, hv, rfl⟩ := hr
      exact ⟨⟨_, w, run_fieldAt hft hn, Drew.refl w, ha, b, hv, rfl⟩, rfl, rfl⟩
    · cases h
  · rename_i ft o n mm get hft
    split at h
    · rename_i hn
      cases h
      obtain ⟨b, off, rfl, hc⟩ := hr
      refine ⟨⟨_, w, run_fieldAt hft hn.1, Drew.refl w, b, off + o, rfl, fun j hj => ?_⟩, rfl, rfl⟩
      have := hc (o + j) (by omega)
      rwa [← Nat.add_assoc] at this
    · cases h
  · rename_i ft o n id i off hft
    split at h
    · rename_i hn
      cases h
      obtain ⟨d', n', sz', g', b, cap, hl, hi, hv, rfl⟩ := hr
      refine ⟨⟨_, w, run_fieldAt hft hn, Drew.refl w, d', n', sz', g', b, cap, hl, hi, hv, ?_⟩, rfl, rfl⟩
      rw [Nat.add_assoc]
    · cases h
  · cases h
theorem run_part_tv {t : TypeId} {n off : Nat} {cs : Array Value} {xs : List X} {tv : TV} (hs : sizeT P t = some n) (htv : asTV P t xs = some tv) (hl : xs.length = n) (hle : off + n ≤ cs.size)
    (hx : ∀ (j : Nat) (x : X), xs[j]? = some x → ∃ u, cs[off + j]? = some u ∧ XRep H m w x u) : ∃ v, (part t cs off).run P w = .ok v w ∧ TVRep H m w tv v := by
  have agg : (isAgg t).run P w = .ok true w → tv = .agg xs → ∃ v, (part t cs off).run P w = .ok v w ∧ TVRep H m w tv v := by
    intro ha htv
    subst htv
    refine ⟨.agg (cs.extract off (off + n)), ?_, _, rfl, by simp; omega, fun j x hj => ?_⟩
    · simp only [part, Sem.run_bind, ha, Result.andThen_ok, ite_true, sizeT_spec hs, Sem.run_pure]
    · have hj' : j < xs.length := (List.getElem?_eq_some_iff.1 hj).1
      obtain ⟨u, h1, h2⟩ := hx j x hj
      refine ⟨u, ?_, h2⟩
      rw [Array.getElem?_extract, if_pos (by omega)]; exact h1
  have one : ∀ d, P.underlying t = some d → (∀ fs, d ≠ .struct fs) → (∀ k e, d ≠ .array k e) → singleX xs = some tv → ∃ v, (part t cs off).run P w = .ok v w ∧ TVRep H m w tv v := by
    intro d hd hda hdb hm
    have ⟨x, hxs⟩ : ∃ x, xs = [x] := by
      unfold singleX at hm
      split at hm
      · exact ⟨_, rfl⟩
      · cases hm
    subst hxs
    cases hm
    obtain ⟨u, h1, h2⟩ := hx 0 x rfl
    refine ⟨u, ?_, h2⟩
    have ha : (isAgg t).run P w = .ok false w := by
      unfold isAgg
      rw [Sem.run_bind, run_underlying hd w]
      cases d <;> first | rfl | exact absurd rfl (hda _) | exact absurd rfl (hdb _ _)
    simp only [Nat.add_zero] at h1
    simp only [part, Sem.run_bind, ha, Result.andThen_ok, Bool.false_eq_true, ite_false, h1, Sem.run_pure]
  unfold asTV at htv
  split at htv
  · rename_i fs hd
    cases htv
    exact agg (by unfold isAgg; rw [Sem.run_bind, run_underlying hd w]; rfl) rfl
  · rename_i k e hd
    cases htv
    exact agg (by unfold isAgg; rw [Sem.run_bind, run_underlying hd w]; rfl) rfl
  · rename_i d h1 h2 hd
    exact one _ hd (fun fs e => h1 fs e) (fun k e' e => h2 k e' e) htv
  · cases htv
theorem evField_sound {t : TypeId} {k : Nat} {av : AV} {v : Value} {E : Eff} (h : evField P t av k = some E) (hr : AVRep H m w av v) :
    Quiet P (Instr.field t v k) w H m E.av ∧ E.new = [] ∧ E.gone = [] := by
  unfold evField at h
  split at h
  · rename_i ft o n xs hft
    split at h
    · rename_i hle
      simp only [Option.map_eq_some_iff] at h
      obtain ⟨tv, htv, rfl⟩ := h
      obtain ⟨vs, rfl, hsz, hx⟩ := hr
      obtain ⟨fs, f, hu, hf, rfl, rfl, hs⟩ := fieldT_spec hft
      obtain ⟨u, h1, h2⟩ := run_part_tv (H := H) (m := m) (w := w) (off := f.offset) (cs := vs) hs htv (by simp; omega) (by omega) (fun j x hj => by
        rw [List.getElem?_take] at hj
        split at hj
        · rw [List.getElem?_drop] at hj; exact hx _ x hj
        · cases hj)
      refine ⟨⟨u, w, ?_, Drew.refl w, h2⟩, rfl, rfl⟩
      simp only [Instr.field, Sem.run_bind, run_underlying hu w, Result.andThen_ok, hf, asAgg, Sem.run_pure, h1]
    · cases h
  · cases h
theorem run_indexAt {t e : TypeId} {sz b off n cap : Nat} {k : IntKind} {i : Int} (hu : P.underlying t = some (.slice e)) (hs : sizeT P e = some sz) (h0 : 0 ≤ i) (h1 : i < (n : Int)) :
    (Instr.indexAt t (.slice (some ⟨b, off, none⟩) n cap) (.int k i)).run P w = .ok (.pointer (some ⟨b, off + i.toNat * sz, none⟩)) w := by
  simp only [Instr.indexAt, asIntOf, Sem.run_bind, Sem.run_pure, Result.andThen_ok, run_underlying hu w]
  rw [if_pos ⟨h0, h1⟩]
  simp only [Sem.run_bind, sizeT_spec hs, Result.andThen_ok, Sem.run_pure, Addr.add_lit]
theorem evIndexAddr_sound {Hs : Nat → Option Ob} {t : TypeId} {a i : AV} {u v : Value} {E : Eff} (h : evIndexAddr P Hs t a i = some E) (hob : E.ob) (hok : HeapOK n0 H m w) (hsub : Agree H Hs)
    (hr : AVRep H m w a u) (hi : AVRep H m w i v) : Quiet P (Instr.indexAt t u v) w H m E.av ∧ E.new = [] ∧ E.gone = [] := by
  have fin : ∀ {n sz : Nat} {get : Nat → Nat → C} {e : TypeId} {k : IntKind} {q : Int}, P.underlying t = some (.slice e) → sizeT P e = some sz → CRep w (avOf H m) (.seq n sz get) u → v = .int k q → 0 ≤ q → q < (n : Int) →
      Quiet P (Instr.indexAt t u v) w H m (cv (.ptr sz fun j => get q.toNat j)) := by
    intro n sz get e k q hu hs hc hv h0 h1
    subst hv
    obtain ⟨a0, cap, rfl, hn, hc⟩ := hc
    obtain ⟨b, off, rfl, hc2⟩ := hc (by omega)
    refine ⟨_, w, run_indexAt hu hs h0 h1, Drew.refl w, b, off + q.toNat * sz, rfl, fun j hj => ?_⟩
    exact hc2 q.toNat j (by omega) hj
  unfold evIndexAddr at h
  split at h
  · rename_i e n sz get k q hu
    split at h
    · rename_i hs
      cases h
      exact ⟨fin hu hs hr hi hob.1 hob.2, rfl, rfl⟩
    · cases h
  · rename_i e id n sz get k q hu
    split at h
    · rename_i hs
      cases h
      exact ⟨fin hu hs hr.1 hi hob.1 hob.2, rfl, rfl⟩
    · cases h
  · rename_i e id k q hu
    split at h
    · rename_i d n sz get hobj
      split at h
      · rename_i hs
        cases h
        obtain ⟨ha, hA, hv⟩ := hr
        obtain ⟨ob, hl⟩ := Option.isSome_iff_exists.1 ha
        cases hsub id ob _ hl hobj
        have h0 : 0 ≤ q := hob.1
        have h1 : q < (n : Int) := hob.2
        have hq : v = .int k q := hi
        subst hq
        have hown : OwnC w (.seq n sz get) (m.foot id) (m.val id) := (hok.ob id _ hl).1
        rcases hown with ⟨_, hz⟩ | ⟨b, cap, cur, E, fr, hv', hn, _⟩
        · omega
        · rw [hv, hv']
          exact ⟨⟨_, w, run_indexAt hu hs h0 h1, Drew.refl w, d, n, sz, get, b, cap, hl, by omega, hv', by simp⟩, rfl, rfl⟩
      · cases h
    · cases h
  · cases h
theorem evIndex_sound {t : TypeId} {a i : AV} {u v : Value} {E : Eff} (h : evIndex P t a i = some E) (hob : E.ob) (hr : AVRep H m w a u) (hi : AVRep H m w i v) :
    Quiet P (Instr.index t u v) w H m E.av ∧ E.new = [] ∧ E.gone = [] := by
  unfold evIndex at h
  split at h
  · rename_i s k q hu
    cases h
    have hus : u = .string s := hr
    have hvq : v = .int k q := hi
    subst hus hvq
    have h0 : 0 ≤ q := hob.1
    have h1 : q < (s.size : Int) := hob.2
    have hlt : q.toNat < s.size := by omega
    have hg : s[q.toNat]? = some s[q.toNat] := getElem?_pos s q.toNat hlt
    refine ⟨⟨.int .u8 (bt s q.toNat), w, ?_, Drew.refl w, rfl⟩, rfl, rfl⟩
    simp only [Instr.index, asIntOf, Sem.run_bind, Sem.run_pure, Result.andThen_ok, run_underlying hu w, if_pos h0, hg]
    have hb : bt s q.toNat = (s[q.toNat].toNat : Int) := by
      have hl : q.toNat < s.data.toList.length := hlt
      unfold bt
      rw [List.getElem?_eq_getElem hl]
      rfl
    rw [hb]
  · cases h
theorem evLen_sound {Hs : Nat → Option Ob} {t ty : TypeId} {a : AV} {u : Value} {E : Eff} (h : evLen P Hs t a = some E) (hok : HeapOK n0 H m w) (hsub : Agree H Hs) (hr : AVRep H m w a u) :
    Quiet P (Builtin.len_ #[t] ty #[u]) w H m E.av ∧ E.new = [] ∧ E.gone = [] := by
  have sl : ∀ {e : TypeId} {a0 : Option Addr} {n cap : Nat}, P.underlying t = some (.slice e) → u = .slice a0 n cap → Quiet P (Builtin.len_ #[t] ty #[u]) w H m (iv .i64 n) := by
    intro e a0 n cap hu hv
    subst hv
    refine ⟨.int .i64 n, w, ?_, Drew.refl w, rfl⟩
    simp [Builtin.len_, run_underlying hu w, goInt]
  unfold evLen at h
  split at h
  · rename_i s hu
    cases h
    have hus : u = .string s := hr
    subst hus
    refine ⟨⟨.int .i64 s.size, w, ?_, Drew.refl w, rfl⟩, rfl, rfl⟩
    simp [Builtin.len_, run_underlying hu w, goInt]
  · rename_i e n sz get hu
    cases h
    obtain ⟨a0, cap, hv, _⟩ := hr
    exact ⟨sl hu hv, rfl, rfl⟩
  · rename_i e id n sz get hu
    cases h
    obtain ⟨⟨a0, cap, hv, _⟩, _⟩ := hr
    exact ⟨sl hu hv, rfl, rfl⟩
  · rename_i e hu
    cases h
    exact ⟨sl (n := 0) hu hr, rfl, rfl⟩
  · rename_i e id hu
    split at h
    · rename_i d n sz get hobj
      cases h
      obtain ⟨ha, hA, hv⟩ := hr
      obtain ⟨ob, hl⟩ := Option.isSome_iff_exists.1 ha
      cases hsub id ob _ hl hobj
      have hown : OwnC w (.seq n sz get) (m.foot id) (m.val id) := (hok.ob id _ hl).1
      rcases hown with ⟨hv', hz⟩ | ⟨b, cap, cur, E, fr, hv', _⟩
      · subst hz; exact ⟨sl hu (hv.trans hv'), rfl, rfl⟩
      · exact ⟨sl hu (hv.trans hv'), rfl, rfl⟩
    · cases h
  · cases h
end Go.Fw
/-! One operation, part 8: constants, structs that are built, variables that are made. -/
namespace Go.Fw
open Go Go.RowKit
variable {P : Program} {n0 : Nat → Prop} {H : List (Nat × Ob)} {m : Mem} {w : World}
theorem constX_rep {v : Value} {x : X} (h : constX v = some x) : XRep H m w x v ∧ x.ids = [] ∧ v.cells = #[v] := by
  unfold constX at h
  split at h
  · cases h; exact ⟨rfl, rfl, rfl⟩
  · cases h; exact ⟨rfl, rfl, rfl⟩
  · split at h
    · rename_i hb; cases h; exact ⟨⟨_, rfl, hb, rfl⟩, rfl, rfl⟩
    · cases h
  · cases h; exact ⟨rfl, rfl, rfl⟩
  · cases h; exact ⟨rfl, rfl, rfl⟩
  · cases h; exact ⟨rfl, rfl, rfl⟩
  · cases h; exact ⟨rfl, rfl, rfl⟩
  · cases h; exact ⟨rfl, rfl, rfl⟩
  · cases h
def XsRep (H : List (Nat × Ob)) (m : Mem) (w : World) (xs : List X) (cs : Array Value) : Prop :=
  cs.size = xs.length ∧ ∀ (j : Nat) (x : X), xs[j]? = some x → ∃ u, cs[j]? = some u ∧ XRep H m w x u
theorem constXs_rep {l : List Value} : ∀ {xs : List X}, constXs l = some xs → XsRep H m w xs l.toArray ∧ ∀ x ∈ xs, x.ids = [] := by
  induction l with
  | nil => intro xs h; cases h; exact ⟨⟨rfl, fun j x hj => by simp at hj⟩, by simp⟩
  | cons v l ih =>
    intro xs h
    unfold constXs at h
    split at h
    · rename_i x xs' hx hxs
      cases h
      obtain ⟨⟨h1, h2⟩, h3⟩ := ih hxs
      have hv := constX_rep (H := H) (m := m) (w := w) hx
      refine ⟨⟨by simp at h1 ⊢; exact h1, fun j y hj => ?_⟩, ?_⟩
      · cases j with
        | zero => simp at hj; subst hj; exact ⟨v, by simp, hv.1⟩
        | succ j =>
          simp at hj
          obtain ⟨u, hu, hr⟩ := h2 j y hj
          exact ⟨u, by simpa using hu, hr⟩
      · intro y hy
        simp at hy
        rcases hy with rfl | hy
        · exact hv.2.1
        · exact h3 y hy
    · cases h
theorem constAV_rep {v : Value} {av : AV} (h : constAV v = some av) : AVRep H m w av v ∧ av.ids = [] := by
  have one : (constX v).map (fun x => AV.v (.one x)) = some av → AVRep H m w av v ∧ av.ids = [] := by
    intro h
    simp only [Option.map_eq_some_iff] at h
    obtain ⟨x, hx, rfl⟩ := h
    have := constX_rep (H := H) (m := m) (w := w) hx
    exact ⟨this.1, this.2.1⟩
  cases v <;> first | exact one h | skip
  rename_i cs
  simp only [constAV, Option.map_eq_some_iff] at h
  obtain ⟨xs, hx, rfl⟩ := h
  obtain ⟨⟨h1, h2⟩, h3⟩ := constXs_rep (H := H) (m := m) (w := w) hx
  refine ⟨⟨cs, rfl, by simpa using h1, fun j x hj => by simpa using h2 j x hj⟩, ?_⟩
  simp only [AV.ids, TV.ids, List.flatMap_eq_nil_iff]
  exact h3
theorem sub_own (hok : HeapOK n0 H m w) {id i j n sz : Nat} {g : Nat → Nat → C} (hl : H.lookup id = some (.arr true n sz g)) (hi : i < n) (hj : j < sz) (hs : isSeq (g i j) = true) :
    ∃ (b cap : Nat) (cur : Array Value) (E : TypeId) (fr : Nat × Nat) (G : Nat → Nat → Nat → Prop), m.val id = .slice (some ⟨b, 0, none⟩) n cap ∧ n ≤ cap ∧ okFr fr cur.size ∧ w.heap[b]? = some (.cells cur E fr) ∧ cur.size = cap * sz ∧ m.foot id b ∧
      (∀ i j, i < n → j < sz → (∀ x, G i j x → m.foot id x ∧ x ≠ b) ∧ ∃ u, cur[i * sz + j]? = some u ∧ OwnC w (g i j) (G i j) u) ∧
      (∀ i j i' j' x, i < n → j < sz → i' < n → j' < sz → G i j x → G i' j' x → i = i' ∧ j = j') ∧ OwnC w (g i j) (G i j) (m.sub id (i * sz + j)) := by
  have hob := hok.ob id _ hl
  have hown : OwnC w (.seq n sz g) (m.foot id) (m.val id) := hob.1
  rcases hown with ⟨_, hz⟩ | ⟨b, cap, cur, E, fr, hv, hn, hfr, hb, hcs, hFb, G, hG, hd⟩
  · omega
  · refine ⟨b, cap, cur, E, fr, G, hv, hn, hfr, hb, hcs, hFb, hG, hd, ?_⟩
    obtain ⟨_, u, hu, ho⟩ := hG i j hi hj
    obtain ⟨b2, h1, h2⟩ := hob.2 rfl i j hi hj hs
    rw [hv] at h1
    simp [Value.blk] at h1
    subst h1
    rw [cell_of_row w b _ cur E fr hb, hu] at h2
    cases h2
    exact ho
def subOf (w : World) (v : Value) (o : Nat) : Value :=
  match Value.blk v with
  | some b => (w.cell? ⟨b, o, none⟩).getD undef
  | none => undef
theorem own_subs {n sz : Nat} {g : Nat → Nat → C} {F : Nat → Prop} {v : Value} (h : OwnC w (.seq n sz g) F v) : ∀ i j, i < n → j < sz → ∃ b, Value.blk v = some b ∧ w.cell? ⟨b, i * sz + j, none⟩ = some (subOf w v (i * sz + j)) := by
  intro i j hi hj
  rcases h with ⟨_, hz⟩ | ⟨b, cap, cur, E, fr, hv, hn, hfr, hb, hcs, hFb, G, hG, hd⟩
  · omega
  · obtain ⟨_, u, hu, _⟩ := hG i j hi hj
    have hc : w.cell? ⟨b, i * sz + j, none⟩ = some u := by rw [cell_of_row w b _ cur E fr hb]; exact hu
    refine ⟨b, by rw [hv]; rfl, ?_⟩
    rw [hc, hv]
    simp [subOf, Value.blk, hc]
theorem seq_slice {c : C} {F : Nat → Prop} {v : Value} (hs : isSeq c = true) (h : OwnC w c F v) : ∃ a n cap, v = .slice a n cap := by
  cases c <;> simp [isSeq] at hs
  rcases h with ⟨rfl, _⟩ | ⟨b, cap, _, _, _, rfl, _⟩ <;> exact ⟨_, _, _, rfl⟩
theorem XRep.cells {x : X} {v : Value} (hok : HeapOK n0 H m w) (h : XRep H m w x v) : v.cells = #[v] := by
  cases x with
  | c c =>
    cases c with
    | int | bool | str | nilptr | nilfn | niliface => have : v = _ := h; subst this; rfl
    | err b => rcases rep_err (w := w) (av := avOf H m) h with rfl | ⟨t, x, rfl⟩ <;> rfl
    | flt => obtain ⟨b, rfl, _⟩ := h; rfl
    | seq => obtain ⟨a, cap, rfl, _⟩ := h; rfl
    | ptr => obtain ⟨b, off, rfl, _⟩ := h; rfl
    | fn => obtain ⟨cs, rfl, _⟩ := h; rfl
  | nils => have : v = _ := h; subst this; rfl
  | ptr => obtain ⟨_, b, _, rfl⟩ := h; rfl
  | elt => obtain ⟨_, _, _, _, _, _, _, _, _, rfl⟩ := h; rfl
  | fx id j c =>
    obtain ⟨_, h⟩ := h
    cases c with
    | int | bool | str | nilptr | nilfn | niliface => have : v = _ := h; subst this; rfl
    | err b => rcases rep_err (w := w) (av := avOf H m) h with rfl | ⟨t, x, rfl⟩ <;> rfl
    | flt => obtain ⟨b, rfl, _⟩ := h; rfl
    | seq => obtain ⟨a, cap, rfl, _⟩ := h; rfl
    | ptr => obtain ⟨b, off, rfl, _⟩ := h; rfl
    | fn => obtain ⟨cs, rfl, _⟩ := h; rfl
  | sub =>
    obtain ⟨_, _, _, hl, hi, hj, hs, rfl⟩ := h
    obtain ⟨_, _, _, _, _, _, _, _, _, _, _, _, _, _, ho⟩ := sub_own hok hl hi hj hs
    obtain ⟨a, k, cap, e⟩ := seq_slice hs ho
    rw [e]; rfl
  | lst => obtain ⟨⟨a, cap, rfl, _⟩, _⟩ := h; rfl
  | clo => obtain ⟨_, rfl⟩ := h; rfl
  | arr id =>
    obtain ⟨ha, hA, rfl⟩ := h
    obtain ⟨ob, hl⟩ := Option.isSome_iff_exists.1 ha
    have hr := hok.ob id ob hl
    rw [hl] at hA
    cases ob with
    | ext => exact hA.elim
    | box => exact hA.elim
    | lst => exact hA.elim
    | arr d n sz g =>
      have hown : OwnC w (.seq n sz g) (m.foot id) (m.val id) := hr.1
      rcases hown with ⟨hv, _⟩ | ⟨b, cap, cur, E, fr, hv, _⟩ <;> rw [hv] <;> rfl
theorem TVRep.cells {t : TV} {v : Value} (hok : HeapOK n0 H m w) (h : TVRep H m w t v) : XsRep H m w t.cells v.cells := by
  cases t with
  | one x =>
    rw [XRep.cells hok h]
    refine ⟨rfl, fun j y hj => ?_⟩
    cases j with
    | zero => simp [TV.cells] at hj; subst hj; exact ⟨v, rfl, h⟩
    | succ j => simp [TV.cells] at hj
  | agg xs =>
    obtain ⟨vs, rfl, h1, h2⟩ := h
    exact ⟨h1, h2⟩
theorem zeroXs_rep {t : TypeId} {xs : List X} (h : zeroXs P t = some xs) : ∃ i z, P.info? t = some i ∧ i.zero = some z ∧ XsRep H m w xs z.cells ∧ ∀ x ∈ xs, x.ids = [] := by
  unfold zeroXs at h
  split at h
  · rename_i i hi
    split at h
    · rename_i z hz
      have := constXs_rep (H := H) (m := m) (w := w) h
      exact ⟨i, z, hi, hz, by simpa using this.1, this.2⟩
    · cases h
  · cases h
/-! ### Structs that are built -/
theorem foldl_set (off : Nat) (l : List Value) : ∀ (k : Nat) (cs : Array Value), ((l.zipIdx k).foldl (fun cs (p : Value × Nat) => cs.setIfInBounds (off + p.2) p.1) cs).size = cs.size ∧
    ∀ i, off + k + l.length ≤ cs.size → ((l.zipIdx k).foldl (fun cs (p : Value × Nat) => cs.setIfInBounds (off + p.2) p.1) cs)[i]? = if off + k ≤ i ∧ i < off + k + l.length then l[i - off - k]? else cs[i]? := by
  induction l with
  | nil => intro k cs; exact ⟨rfl, fun i _ => by simp; intro h1 h2; omega⟩
  | cons v l ih =>
    intro k cs
    obtain ⟨h1, h2⟩ := ih (k + 1) (cs.setIfInBounds (off + k) v)
    simp only [List.zipIdx_cons, List.foldl_cons]
    refine ⟨by rw [h1]; simp, fun i hi => ?_⟩
    simp only [List.length_cons] at hi ⊢
    rw [h2 i (by simp; omega)]
    by_cases e : i = off + k
    · subst e
      rw [if_neg (by omega), if_pos (by omega), Array.getElem?_setIfInBounds_self]
      simp only [show off + k - off - k = 0 by omega, List.getElem?_cons_zero]
      rw [if_pos (by omega)]
    · by_cases h3 : off + (k + 1) ≤ i ∧ i < off + (k + 1) + l.length
      · rw [if_pos h3, if_pos (by omega)]
        have : i - off - k = (i - off - (k + 1)) + 1 := by omega
        rw [this, List.getElem?_cons_succ]
      · rw [if_neg h3, if_neg (by omega), Array.getElem?_setIfInBounds_ne (fun h => e h.symm)]
theorem fill_rep (place : Nat → Option (Nat × Nat)) : ∀ (ps : List (Nat × TV)) (vs : List (Nat × Value)) (xs ys : List X) (cs : Array Value), fillX place xs ps = some ys → XsRep H m w xs cs →
    (ps.length = vs.length ∧ ∀ (j : Nat) p, ps[j]? = some p → ∃ v, vs[j]? = some (p.1, v) ∧ XsRep H m w p.2.cells v.cells) →
    ∃ cs', Instr.fill place cs vs = some cs' ∧ XsRep H m w ys cs' := by
  intro ps
  induction ps with
  | nil =>
    intro vs xs ys cs h hx hp
    have : vs = [] := List.eq_nil_of_length_eq_zero hp.1.symm
    subst this
    cases h
    exact ⟨cs, rfl, hx⟩
  | cons p ps ih =>
    intro vs xs ys cs h hx hp
    obtain ⟨i, t⟩ := p
    cases vs with
    | nil => simp at hp
    | cons q vs =>
      obtain ⟨v, hv, hvx⟩ := hp.2 0 (i, t) rfl
      simp at hv
      subst hv
      unfold fillX at h
      split at h
      · cases h
      · rename_i off size hpl
        split at h
        · rename_i hle
          have hvs : v.cells.size = t.cells.length := hvx.1
          have hcs : cs.size = xs.length := hx.1
          have hf := foldl_set off v.cells.toList 0 cs
          refine ih vs _ ys (v.cells.zipIdx.foldl (fun cs (c, j) => cs.setIfInBounds (off + j) c) cs) h ⟨?_, fun j x hj => ?_⟩ ⟨by simpa using hp.1, fun j p hj => ?_⟩ |>.imp fun cs' hcs' => ⟨?_, hcs'.2⟩
          · rw [← Array.foldl_toList, Array.toList_zipIdx]
            have h1 := hf.1
            rw [h1]
            simp; omega
          · rw [← Array.foldl_toList, Array.toList_zipIdx]
            have h2 := hf.2 j (by simp; omega)
            simp only [Array.length_toList, Nat.add_zero, Nat.sub_zero] at h2
            rw [h2]
            rw [List.append_assoc, List.getElem?_append] at hj
            by_cases e1 : j < off
            · rw [if_neg (by omega)]
              rw [if_pos (by simp; omega), List.getElem?_take, if_pos e1] at hj
              exact hx.2 j x hj
            · rw [if_neg (by simp; omega)] at hj
              have e2 : (xs.take off).length = off := by simp; omega
              rw [e2, List.getElem?_append] at hj
              by_cases e3 : j - off < t.cells.length
              · rw [if_pos e3] at hj
                rw [if_pos (by omega)]
                obtain ⟨u, hu, hr⟩ := hvx.2 _ x hj
                exact ⟨u, by simpa using hu, hr⟩
              · rw [if_neg e3, List.getElem?_drop] at hj
                rw [if_neg (by omega)]
                have : off + t.cells.length + (j - off - t.cells.length) = j := by omega
                rw [this] at hj
                exact hx.2 j x hj
          · obtain ⟨v', hv', hr⟩ := hp.2 (j + 1) p (by simpa using hj)
            exact ⟨v', by simpa using hv', hr⟩
          · have hc : ¬ (v.cells.size ≠ size ∨ off + v.cells.size > cs.size) := by rw [hvs, hcs]; omega
            simp only [Instr.fill, hpl]
            rw [if_neg (by simpa using hc)]
            exact hcs'.1
        · cases h
theorem partsX_rep {ρ : Rho} {ev : Operand → Value} (hok : HeapOK n0 H m w) : ∀ {l : List (Nat × Operand)} {ps : List (Nat × TV)}, partsX ρ l = some ps → (∀ p ∈ l, ∀ av, ρ p.2 = some av → AVRep H m w av (ev p.2)) →
    ps.length = (l.map fun (i, x) => (i, ev x)).length ∧ ∀ (j : Nat) p, ps[j]? = some p → ∃ v, (l.map fun (i, x) => (i, ev x))[j]? = some (p.1, v) ∧ XsRep H m w p.2.cells v.cells := by
  intro l
  induction l with
  | nil => intro ps h _; cases h; exact ⟨rfl, fun j p hj => by simp at hj⟩
  | cons q l ih =>
    intro ps h hr
    obtain ⟨i, x⟩ := q
    unfold partsX at h
    split at h
    · rename_i t ps' hx hps
      cases h
      obtain ⟨h1, h2⟩ := ih hps (fun p hp => hr p (List.mem_cons_of_mem _ hp))
      refine ⟨by simpa using h1, fun j p hj => ?_⟩
      cases j with
      | zero =>
        simp at hj; subst hj
        exact ⟨ev x, by simp, TVRep.cells hok (hr (i, x) (by simp) _ hx)⟩
      | succ j =>
        obtain ⟨v, hv, hxr⟩ := h2 j p (by simpa using hj)
        exact ⟨v, by simpa using hv, hxr⟩
    · cases h
theorem evBuild_sound {ρ : Rho} {ev : Operand → Value} {t : TypeId} {parts : Array (Nat × Operand)} {E : Eff} (h : evBuild P ρ t parts.toList = some E) (hok : HeapOK n0 H m w)
    (hr : ∀ p ∈ parts.toList, ∀ av, ρ p.2 = some av → AVRep H m w av (ev p.2)) :
    Quiet P (Instr.build t (parts.map fun (i, x) => (i, ev x))) w H m E.av ∧ E.new = [] ∧ E.gone = [] := by
  unfold evBuild at h
  split at h
  · rename_i z pl ps hz hpl hps
    simp only [Option.map_eq_some_iff] at h
    obtain ⟨xs, hxs, rfl⟩ := h
    obtain ⟨it, zv, hi, hzv, hzr, _⟩ := zeroXs_rep (H := H) (m := m) (w := w) hz
    obtain ⟨cs', hf, hx⟩ := fill_rep _ ps _ z xs zv.cells hxs hzr (partsX_rep (ev := ev) hok hps hr)
    refine ⟨⟨.agg cs', w, ?_, Drew.refl w, cs', rfl, hx.1, hx.2⟩, rfl, rfl⟩
    refine run_build w t _ cs' ?_
    unfold placesT at hpl
    split at hpl
    · rename_i fs hu
      unfold Program.built
      simp only [hi, hu, hzv, hpl]
      rw [Array.toList_map]
      exact hf
    · cases hpl
  · cases h
/-! ### Variables that are made -/
theorem alloc_go {o : Oper} {a : Act} {E : Eff} {id : Nat} {xs : List X} {cs : Array Value} {t : TypeId} (hE : E = { av := .v (.one (.ptr id 0)), new := [(id, .box xs)] })
    (hrun : (execOp a.eval o).run P w = .ok (.value (.pointer (some ⟨w.heap.size, 0, none⟩))) (w.alloc (.cells cs t))) (hok : HeapOK n0 H m w) (hn0 : ∀ b, n0 b → b < w.heap.size)
    (hids : ∀ i ob, H.lookup i = some ob → id ∉ ob.ids) (hx : ∀ x ∈ xs, id ∉ x.ids) (hr : XsRep H m w xs cs) : OpGo P n0 o a w H m E := by
  subst hE
  obtain ⟨m', h1, h2, h3⟩ := add_box (n0 := n0) hok hn0 id xs cs t hids hx hr.1 hr.2
  unfold OpGo
  rw [hrun]
  have hh : Eff.heap { av := .v (.one (.ptr id 0)), new := [(id, .box xs)] } H = (id, .box xs) :: H := by simp [Eff.heap]
  simp only []
  rw [hh]
  refine ⟨m', h1, h2, ?_, w.heap.size, h3, rfl⟩
  simp
theorem run_zero {t : TypeId} {i : TypeInfo} {z : Value} (hi : P.info? t = some i) (hz : i.zero = some z) : (zeroValue t).run P w = .ok z w := by
  simp [zeroValue, typeInfo, hi, hz]
end Go.Fw
/-! One operation, part 9: calls. -/
namespace Go.Fw
open Go Go.RowKit
variable {P : Program} {n0 : Nat → Prop} {H : List (Nat × Ob)} {m : Mem} {w : World}
theorem lst_crep (hok : HeapOK n0 H m w) {id n sz : Nat} {g : Nat → Nat → C} (hl : H.lookup id = some (.lst n sz g)) : CRep w (avOf H m) (.seq n sz g) (m.val id) := by
  have hown : OwnC w (.seq n sz g) (m.foot id) (m.val id) := hok.ob id _ hl
  rcases hown with ⟨hv, hz⟩ | ⟨b, cap, cur, E, fr, hv, hn, _, hb, hs, hFb, G, hG, _⟩
  · subst hz; rw [hv]; exact ⟨none, 0, rfl, Nat.le_refl _, fun h => absurd h (by omega)⟩
  · rw [hv]
    refine ⟨_, cap, rfl, hn, fun _ => ⟨b, 0, rfl, fun i j hi hj => ?_⟩⟩
    obtain ⟨h1, u, hu, ho⟩ := hG i j hi hj
    have same : ∀ {b2 id2 ob2}, H.lookup id2 = some ob2 → reach m id2 ob2 b2 → m.foot id b2 → id2 = id := fun hl2 hbk hf =>
      hok.apart _ _ _ (by rw [hl2]; rfl) (by rw [hl]; rfl) ((hok.ob _ _ hl2).reach hbk) hf
    refine ⟨?_, u, by rw [cell_of_row w b _ cur E fr hb, Nat.zero_add]; exact hu, OwnC.crep (fun x o hx => ?_) ho⟩
    · rintro ⟨id2, ob2, hl2, hbk, hm⟩
      have := same hl2 hbk hFb
      subst this
      rw [hl] at hl2; cases hl2
      simp only at hm
      have : i * sz + j < n * sz := by
        have : (i + 1) * sz ≤ n * sz := Nat.mul_le_mul_right _ (by omega)
        rw [Nat.add_mul] at this; omega
      omega
    · rintro ⟨id2, ob2, hl2, hbk, hm⟩
      have := same hl2 hbk (h1 x hx).1
      subst this
      rw [hl] at hl2; cases hl2
      have hbk : Value.blk (m.val id2) = some x := hbk
      rw [hv] at hbk
      simp [Value.blk] at hbk
      exact (h1 x hx).2 hbk.symm
theorem crep_plain {c : C} {v : Value} {av : Av} (h : CRep w av c v) : CRep w (fun _ _ => False) c v := CRep.avoid (fun _ _ _ h => h.elim) h
theorem isC_rep {Hs : Nat → Option Ob} (hok : HeapOK n0 H m w) (hsub : Agree H Hs) {x : X} {c : C} {v : Value} (hc : isC Hs x c) (hr : XRep H m w x v) : CRep w (fun _ _ => False) c v := by
  cases x with
  | c d => have : c = d := hc; subst this; exact crep_plain hr
  | nils =>
    have hv : v = .slice none 0 0 := hr
    subst hv
    cases c <;> first | exact hc.elim | skip
    rename_i n sz g
    have : n = 0 := hc
    subst this
    exact ⟨none, 0, rfl, Nat.le_refl _, fun h => absurd h (by omega)⟩
  | arr id =>
    obtain ⟨ha, _, rfl⟩ := hr
    obtain ⟨ob, hl⟩ := Option.isSome_iff_exists.1 ha
    simp only [isC] at hc
    split at hc
    · rename_i d n sz g e
      cases hsub id ob _ hl e
      subst hc
      exact OwnC.crep (fun _ _ _ h => h) (hok.ob id _ hl).1
    · exact hc.elim
  | sub id i j =>
    obtain ⟨n, sz, g, hl, hi, hj, hs, rfl⟩ := hr
    simp only [isC] at hc
    split at hc
    · rename_i d n' sz' g' e
      cases hsub id _ _ hl e
      subst hc
      obtain ⟨_, _, _, _, _, _, _, _, _, _, _, _, _, _, ho⟩ := sub_own hok hl hi hj hs
      exact OwnC.crep (fun _ _ _ h => h) ho
    · exact hc.elim
  | lst id n sz g => have : c = .seq n sz g := hc; subst this; exact crep_plain hr.1
  | fx id j d => have : c = d := hc; subst this; exact crep_plain hr.2
  | ptr | elt | clo => exact hc.elim
theorem isCs_rep {Hs : Nat → Option Ob} (hok : HeapOK n0 H m w) (hsub : Agree H Hs) : ∀ {xs : List X} {cs : List C}, isCs Hs xs cs →
    xs.length = cs.length ∧ ∀ (j : Nat) (x : X) (c : C), xs[j]? = some x → cs[j]? = some c → ∀ v, XRep H m w x v → CRep w (fun _ _ => False) c v := by
  intro xs
  induction xs with
  | nil => intro cs h; cases cs with
    | nil => exact ⟨rfl, fun j x c h => by simp at h⟩
    | cons => exact h.elim
  | cons x xs ih => intro cs h; cases cs with
    | nil => exact h.elim
    | cons c cs =>
      obtain ⟨h1, h2⟩ := ih h.2
      refine ⟨by simp [h1], fun j y d hy hd v hr => ?_⟩
      cases j with
      | zero => simp at hy hd; subst hy hd; exact isC_rep hok hsub h.1 hr
      | succ j => exact h2 j y d (by simpa using hy) (by simpa using hd) v hr
theorem box_ptr {Hs : Nat → Option Ob} (hok : HeapOK n0 H m w) (hsub : Agree H Hs) {id mm : Nat} {xs : List X} {get : Nat → C} (ha : (H.lookup id).isSome = true) (e : Hs id = some (.box xs)) (hcs : isCs Hs xs ((List.range mm).map get)) : CRep w (fun _ _ => False) (.ptr mm get) (m.val id) := by
  obtain ⟨ob, hl⟩ := Option.isSome_iff_exists.1 ha
  cases hsub id ob _ hl e
  obtain ⟨b', cur, E, hv', hb, hsz, _, hx⟩ := hok.ob id _ hl
  obtain ⟨h1, h2⟩ := isCs_rep hok hsub hcs
  simp at h1
  refine ⟨b', 0, hv', fun j hj => ⟨fun h => h, ?_⟩⟩
  have hj' : j < xs.length := by omega
  obtain ⟨u, hu, hxr⟩ := hx j xs[j] (List.getElem?_eq_getElem hj')
  refine ⟨u, by rw [cell_of_row w b' _ cur E (0, 0) hb, Nat.zero_add]; exact hu, ?_⟩
  exact h2 j xs[j] (get j) (List.getElem?_eq_getElem hj') (by simp [hj]) u hxr
theorem isClo_rep {Hs : Nat → Option Ob} (hok : HeapOK n0 H m w) (hsub : Agree H Hs) : ∀ (ids : List Nat) (cap : Nat → C), isClo Hs ids cap → (∀ id, id ∈ ids → (H.lookup id).isSome = true) → ∀ j, j < ids.length → ∃ u, (ids.map m.val)[j]? = some u ∧ CRep w (fun _ _ => False) (cap j) u := by
  intro ids
  induction ids with
  | nil => intro cap _ _ j hj; simp at hj
  | cons id r ih =>
    intro cap h ha j hj
    cases j with
    | zero =>
      have h1 := h.1
      split at h1
      · rename_i xs mm get e1 e2
        exact ⟨m.val id, rfl, by rw [e2]; exact box_ptr hok hsub (ha id (by simp)) e1 h1⟩
      · exact h1.elim
    | succ j =>
      obtain ⟨u, hu, hr⟩ := ih (fun j => cap (j + 1)) h.2 (fun i hi => ha i (by simp [hi])) j (by simpa using hj)
      exact ⟨u, by simpa using hu, hr⟩
theorem isP_rep {Hs : Nat → Option Ob} (hok : HeapOK n0 H m w) (hsub : Agree H Hs) {x : X} {c : C} {v : Value} (hc : isP Hs x c) (hr : XRep H m w x v) : CRep w (fun _ _ => False) c v := by
  unfold isP at hc
  split at hc
  · rename_i id off mm get
    obtain ⟨ha, b, hv, rfl⟩ := hr
    obtain ⟨ob, hl⟩ := Option.isSome_iff_exists.1 ha
    split at hc
    · rename_i xs e
      cases hsub id ob _ hl e
      obtain ⟨h0, hcs⟩ := hc
      subst h0
      obtain ⟨b', cur, E, hv', hb, hsz, _, hx⟩ := hok.ob id _ hl
      rw [hv'] at hv; cases hv
      obtain ⟨h1, h2⟩ := isCs_rep hok hsub hcs
      simp at h1
      refine ⟨b, 0, rfl, fun j hj => ⟨fun h => h, ?_⟩⟩
      have hj' : j < xs.length := by omega
      obtain ⟨u, hu, hxr⟩ := hx j xs[j] (List.getElem?_eq_getElem hj')
      refine ⟨u, by rw [cell_of_row w b _ cur E (0, 0) hb, Nat.zero_add]; exact hu, ?_⟩
      exact h2 j xs[j] (get j) (List.getElem?_eq_getElem hj') (by simp [hj]) u hxr
    · exact hc.elim
  · rename_i mm g mm' get
    obtain ⟨rfl, hg⟩ := hc
    obtain ⟨b, off, rfl, hx⟩ := crep_plain hr
    refine ⟨b, off, rfl, fun j hj => ?_⟩
    obtain ⟨h1, u, hu, h2⟩ := hx j hj
    exact ⟨h1, u, hu, by rw [hg j hj]; exact h2⟩
  · rename_i f ids f' mm cap
    obtain ⟨rfl, rfl, hcl⟩ := hc
    obtain ⟨ha, rfl⟩ := hr
    refine ⟨(ids.map m.val).toArray, rfl, by simp, fun j hj => ?_⟩
    obtain ⟨u, hu, hx⟩ := isClo_rep hok hsub ids cap hcl (fun i hi => (ha i hi).1) j hj
    exact ⟨u, by simpa using hu, hx⟩
  · exact isC_rep hok hsub hc hr
theorem isCT_rep {Hs : Nat → Option Ob} (hok : HeapOK n0 H m w) (hsub : Agree H Hs) {x : AV} {t : CT} {v : Value} (hc : isCT Hs x t) (hr : AVRep H m w x v) : CTRep w t v := by
  unfold isCT at hc
  split at hc
  · exact isP_rep hok hsub hc hr
  · obtain ⟨vs, rfl, h1, h2⟩ := hr
    obtain ⟨h3, h4⟩ := isCs_rep hok hsub hc
    refine ⟨vs, rfl, by omega, fun j c hj => ?_⟩
    rename_i xs cs
    have hj' : j < xs.length := by have := (List.getElem?_eq_some_iff.1 hj).1; omega
    obtain ⟨u, hu, hxr⟩ := h2 j xs[j] (List.getElem?_eq_getElem hj')
    exact ⟨u, hu, h4 j xs[j] c (List.getElem?_eq_getElem hj') hj u hxr⟩
  · exact hc.elim
def AVsRep (H : List (Nat × Ob)) (m : Mem) (w : World) (as : List AV) (vs : Array Value) : Prop :=
  vs.size = as.length ∧ ∀ (j : Nat) (x : AV), as[j]? = some x → ∃ u, vs[j]? = some u ∧ AVRep H m w x u
theorem isCTs_rep {Hs : Nat → Option Ob} (hok : HeapOK n0 H m w) (hsub : Agree H Hs) : ∀ {as : List AV} {ts : List CT}, isCTs Hs as ts →
    as.length = ts.length ∧ ∀ (j : Nat) (x : AV) (c : CT), as[j]? = some x → ts[j]? = some c → ∀ v, AVRep H m w x v → CTRep w c v := by
  intro xs
  induction xs with
  | nil => intro cs h; cases cs with
    | nil => exact ⟨rfl, fun j x c h => by simp at h⟩
    | cons => exact h.elim
  | cons x xs ih => intro cs h; cases cs with
    | nil => exact h.elim
    | cons c cs =>
      obtain ⟨h1, h2⟩ := ih h.2
      refine ⟨by simp [h1], fun j y d hy hd v hr => ?_⟩
      cases j with
      | zero => simp at hy hd; subst hy hd; exact isCT_rep hok hsub h.1 hr
      | succ j => exact h2 j y d (by simpa using hy) (by simpa using hd) v hr
theorem args_rep {Hs : Nat → Option Ob} (hok : HeapOK n0 H m w) (hsub : Agree H Hs) {as : List AV} {ts : List CT} {vs : Array Value} (hc : isCTs Hs as ts) (hr : AVsRep H m w as vs) : CTsRep w ts vs := by
  obtain ⟨h1, h2⟩ := isCTs_rep hok hsub hc
  refine ⟨by rw [hr.1, h1], fun j t hj => ?_⟩
  have hj' : j < as.length := by have := (List.getElem?_eq_some_iff.1 hj).1; omega
  obtain ⟨u, hu, hxr⟩ := hr.2 j as[j] (List.getElem?_eq_getElem hj')
  exact ⟨u, hu, h2 j as[j] t (List.getElem?_eq_getElem hj') hj u hxr⟩
theorem rhos_rep {ρ : Rho} {ev : Operand → Value} : ∀ {l : List Operand} {as : List AV}, rhos ρ l = some as → (∀ x ∈ l, ∀ av, ρ x = some av → AVRep H m w av (ev x)) → AVsRep H m w as (l.map ev).toArray := by
  intro l
  induction l with
  | nil => intro as h _; cases h; exact ⟨rfl, fun j x hj => by simp at hj⟩
  | cons q l ih =>
    intro as h hr
    unfold rhos at h
    split at h
    · rename_i a as' hx hps
      cases h
      obtain ⟨h1, h2⟩ := ih hps (fun p hp => hr p (List.mem_cons_of_mem _ hp))
      refine ⟨by simp at h1 ⊢; exact h1, fun j p hj => ?_⟩
      cases j with
      | zero => simp at hj; subst hj; exact ⟨ev q, by simp, hr q (by simp) _ hx⟩
      | succ j =>
        obtain ⟨v, hv, hxr⟩ := h2 j p (by simpa using hj)
        exact ⟨v, by simpa using hv, hxr⟩
    · cases h
/-! ### What becomes of results -/
structure RCell where
  c : C
  d : Dst
  v : Value
  F : Nat → Prop
theorem mkX_cases (c : C) (d : Dst) : ((mkX c d).1 = .c c ∧ (mkX c d).2 = []) ∨ (∃ id n sz g, c = .seq n sz g ∧ (mkX c d) = (.lst id n sz g, [(id, .lst n sz g)])) ∨ (∃ id dd n sz g, c = .seq n sz g ∧ (mkX c d) = (.arr id, [(id, .arr dd n sz g)])) := by
  cases c <;> cases d <;> first | exact .inl ⟨rfl, rfl⟩ | exact .inr (.inl ⟨_, _, _, _, rfl, rfl⟩) | exact .inr (.inr ⟨_, _, _, _, _, rfl, rfl⟩)
def RCell.objs (r : RCell) : List (Nat × Ob) := (mkX r.c r.d).2
theorem assign (L : List RCell) : ((L.flatMap RCell.objs).map (·.1)).Nodup → ∃ (val : Nat → Value) (foot : Nat → Nat → Prop), ∀ r ∈ L, ∀ id ob, (id, ob) ∈ r.objs → val id = r.v ∧ foot id = r.F := by
  induction L with
  | nil => intro _; exact ⟨fun _ => undef, fun _ _ => False, fun r h => by cases h⟩
  | cons r L ih =>
    intro hnd
    simp only [List.flatMap_cons, List.map_append, List.nodup_append] at hnd
    obtain ⟨val, foot, h⟩ := ih hnd.2.1
    rcases mkX_cases r.c r.d with ⟨_, he⟩ | ⟨id, n, sz, g, _, he⟩ | ⟨id, dd, n, sz, g, _, he⟩
    · refine ⟨val, foot, fun r' hr' id ob ho => ?_⟩
      cases hr' with
      | head => rw [RCell.objs, he] at ho; cases ho
      | tail _ hr' => exact h r' hr' id ob ho
    all_goals
      have ⟨ob0, ho'⟩ : ∃ ob0, r.objs = [(id, ob0)] := ⟨_, by rw [RCell.objs, he]⟩
      refine ⟨fun i => if i = id then r.v else val i, fun i => if i = id then r.F else foot i, fun r' hr' i ob ho => ?_⟩
      cases hr' with
      | head => rw [ho'] at ho; simp at ho; simp [ho.1]
      | tail _ hr' =>
        have hne : i ≠ id := by
          have := hnd.2.2 id (by rw [ho']; simp) i (List.mem_map.2 ⟨(i, ob), List.mem_flatMap.2 ⟨r', hr', ho⟩, rfl⟩)
          exact fun e => this e.symm
        simp only [if_neg hne]
        exact h r' hr' i ob ho
theorem pairwise_mem {α : Type} {R : α → α → Prop} (hsym : ∀ a b, R a b → R b a) {l : List α} (hp : l.Pairwise R) {a b : α} (ha : a ∈ l) (hb : b ∈ l) : a = b ∨ R a b := by
  induction hp with
  | nil => cases ha
  | cons h _ ih =>
    cases ha with
    | head => cases hb with
      | head => exact .inl rfl
      | tail _ hb => exact .inr (h _ hb)
    | tail _ ha => cases hb with
      | head => exact .inr (hsym _ _ (h _ ha))
      | tail _ hb => exact ih ha hb
theorem lookup_mem {l : List (Nat × Ob)} {id : Nat} {ob : Ob} (h : l.lookup id = some ob) : (id, ob) ∈ l := by
  induction l with
  | nil => cases h
  | cons p l ih =>
    obtain ⟨k, o⟩ := p
    simp only [List.lookup_cons] at h
    split at h
    · rename_i e; simp at e; cases h; subst e; exact List.mem_cons_self
    · exact List.mem_cons_of_mem _ (ih h)
theorem lookup_nodup {l : List (Nat × Ob)} (hnd : (l.map (·.1)).Nodup) {id : Nat} {ob : Ob} (h : (id, ob) ∈ l) : l.lookup id = some ob := by
  induction l with
  | nil => cases h
  | cons p l ih =>
    obtain ⟨k, o⟩ := p
    simp only [List.map_cons, List.nodup_cons] at hnd
    simp only [List.lookup_cons]
    cases h with
    | head => simp
    | tail _ h =>
      have hne : id ≠ k := fun e => hnd.1 (e ▸ List.mem_map.2 ⟨(id, ob), h, rfl⟩)
      have : (id == k) = false := by simpa using hne
      rw [this]
      exact ih hnd.2 h
theorem results_objs {w' : World} (hb : Below w.heap.size w w') (hok : HeapOK n0 H m w) (hn0 : ∀ b, n0 b → b < w.heap.size) (L : List RCell)
    (hnd : ((L.flatMap RCell.objs).map (·.1)).Nodup) (hids : ∀ id ob, H.lookup id = some ob → ∀ i ∈ ob.ids, i ∉ (L.flatMap RCell.objs).map (·.1))
    (hown : ∀ r ∈ L, OwnC w' r.c r.F r.v) (hlo : ∀ r ∈ L, ∀ b, r.F b → w.heap.size ≤ b ∧ b < w'.heap.size) (hap : L.Pairwise fun r r' => ∀ b, r.F b → ¬ r'.F b) :
    ∃ m', HeapOK n0 (L.flatMap RCell.objs ++ H) m' w' ∧ Step n0 ((L.flatMap RCell.objs).map (·.1)) [] H m w (L.flatMap RCell.objs ++ H) m' w' ∧
      ∀ r ∈ L, XRep (L.flatMap RCell.objs ++ H) m' w' (mkX r.c r.d).1 r.v := by
  obtain ⟨val, foot, hvf⟩ := assign L hnd
  have hobj : ∀ id ob, (id, ob) ∈ L.flatMap RCell.objs → ∃ r ∈ L, (id, ob) ∈ r.objs ∧ val id = r.v ∧ foot id = r.F := by
    intro id ob h
    obtain ⟨r, hr, ho⟩ := List.mem_flatMap.1 h
    exact ⟨r, hr, ho, hvf r hr id ob ho⟩
  have hkey : ∀ id, id ∈ (L.flatMap RCell.objs).map (·.1) → ∃ ob, ∃ r ∈ L, (id, ob) ∈ r.objs ∧ val id = r.v ∧ foot id = r.F := by
    intro id h
    obtain ⟨⟨i, ob⟩, hm, rfl⟩ := List.mem_map.1 h
    exact ⟨ob, hobj i ob hm⟩
  have hobrep : ∀ r ∈ L, ∀ id ob, (id, ob) ∈ r.objs → (∃ n sz g, r.c = .seq n sz g ∧ (ob = .lst n sz g ∨ ∃ dd, ob = .arr dd n sz g)) := by
    intro r _ id ob ho
    rcases mkX_cases r.c r.d with ⟨_, he⟩ | ⟨id', n, sz, g, hc, he⟩ | ⟨id', dd, n, sz, g, hc, he⟩
    · rw [RCell.objs, he] at ho; cases ho
    · rw [RCell.objs, he] at ho; simp at ho; exact ⟨n, sz, g, hc, .inl ho.2⟩
    · rw [RCell.objs, he] at ho; simp at ho; exact ⟨n, sz, g, hc, .inr ⟨dd, ho.2⟩⟩
  have hsingle : ∀ r ∈ L, ∀ id ob id' ob', (id, ob) ∈ r.objs → (id', ob') ∈ r.objs → id = id' := by
    intro r _ id ob id' ob' ho ho'
    rcases mkX_cases r.c r.d with ⟨_, he⟩ | ⟨i, n, sz, g, hc, he⟩ | ⟨i, dd, n, sz, g, hc, he⟩ <;> rw [RCell.objs, he] at ho ho' <;> simp at ho ho'
    · rw [ho.1, ho'.1]
    · rw [ho.1, ho'.1]
  have hsym : ∀ (a b : RCell), (∀ x, a.F x → ¬ b.F x) → ∀ x, b.F x → ¬ a.F x := fun a b h x hb ha => h x ha hb
  have hkv : ∀ id, id ∈ (L.flatMap RCell.objs).map (·.1) → (m.add ((L.flatMap RCell.objs).map (·.1)) val foot fun i => subOf w' (val i)).val id = val id := fun id hi => by simp only [Mem.add, if_pos hi]
  have hkf : ∀ id, id ∈ (L.flatMap RCell.objs).map (·.1) → (m.add ((L.flatMap RCell.objs).map (·.1)) val foot fun i => subOf w' (val i)).foot id = foot id := fun id hi => by simp only [Mem.add, if_pos hi]
  have hks : ∀ id, id ∈ (L.flatMap RCell.objs).map (·.1) → (m.add ((L.flatMap RCell.objs).map (·.1)) val foot fun i => subOf w' (val i)).sub id = subOf w' (val id) := fun id hi => by simp only [Mem.add, if_pos hi]
  have hblk : ∀ id b, id ∈ (L.flatMap RCell.objs).map (·.1) → Value.blk (val id) = some b → foot id b := by
    intro id b hi hb
    obtain ⟨ob, r, hr, ho, hv, hf⟩ := hkey id hi
    obtain ⟨n, sz, g, hc, _⟩ := hobrep r hr id ob ho
    have := hown r hr
    rw [hc] at this
    rw [hv] at hb; rw [hf]
    rcases this with ⟨h1, _⟩ | ⟨b', cap, cur, E, fr, h1, _, _, _, _, hF, _⟩
    · rw [h1] at hb; cases hb
    · rw [h1] at hb; cases hb; exact hF
  have key := add_objs (w' := w') hb hok hn0 (L.flatMap RCell.objs) val foot (fun i => subOf w' (val i)) hids
    (by intro id b hi hf; obtain ⟨ob, r, hr, ho, hv, hf'⟩ := hkey id hi; rw [hf'] at hf; exact hlo r hr b hf)
    (by
      intro id id' b hi hi' hf hf'
      obtain ⟨ob, r, hr, ho, _, h1⟩ := hkey id hi
      obtain ⟨ob', r', hr', ho', _, h1'⟩ := hkey id' hi'
      rw [h1] at hf; rw [h1'] at hf'
      rcases pairwise_mem hsym hap hr hr' with e | e
      · subst e; exact hsingle r hr id ob id' ob' ho ho'
      · exact absurd hf' (e b hf))
    (by
      intro _ id ob hl
      have hm := lookup_mem hl
      have hi : id ∈ (L.flatMap RCell.objs).map (·.1) := List.mem_map.2 ⟨_, hm, rfl⟩
      obtain ⟨r, hr, ho, hv, hf⟩ := hobj id ob hm
      obtain ⟨n, sz, g, hc, e⟩ := hobrep r hr id ob ho
      have := hown r hr
      rw [hc] at this
      rcases e with rfl | ⟨dd, rfl⟩
      · show OwnC w' _ _ _
        rw [hkv id hi, hkf id hi, hv, hf]; exact this
      · show OwnC w' _ _ _ ∧ _
        rw [hkv id hi, hkf id hi, hks id hi, hv, hf]; exact ⟨this, fun _ i j hi hj _ => own_subs this i j hi hj⟩)
    (by
      intro id ob0 b hl0 hb'
      have hi : id ∈ (L.flatMap RCell.objs).map (·.1) := lookup_keys hl0
      have hfb : foot id b := by
        cases ob0 with
        | ext p =>
          have : (m.add ((L.flatMap RCell.objs).map (·.1)) val foot fun i => subOf w' (val i)).foot id b := hb'
          rwa [hkf id hi] at this
        | arr d n sz g =>
          cases d
          · refine hblk id b hi ?_
            have : Value.blk ((m.add ((L.flatMap RCell.objs).map (·.1)) val foot fun i => subOf w' (val i)).val id) = some b := hb'
            rwa [hkv id hi] at this
          · have : (m.add ((L.flatMap RCell.objs).map (·.1)) val foot fun i => subOf w' (val i)).foot id b := hb'
            rwa [hkf id hi] at this
        | box xs =>
          refine hblk id b hi ?_
          have : Value.blk ((m.add ((L.flatMap RCell.objs).map (·.1)) val foot fun i => subOf w' (val i)).val id) = some b := hb'
          rwa [hkv id hi] at this
        | lst n sz g =>
          refine hblk id b hi ?_
          have : Value.blk ((m.add ((L.flatMap RCell.objs).map (·.1)) val foot fun i => subOf w' (val i)).val id) = some b := hb'
          rwa [hkv id hi] at this
      obtain ⟨ob, r, hr, ho, hv, hf'⟩ := hkey id hi
      rw [hf'] at hfb
      exact (hlo r hr b hfb).1)
  refine ⟨_, key.1, key.2, fun r hr => ?_⟩
  rcases mkX_cases r.c r.d with ⟨h1, he⟩ | ⟨id, n, sz, g, hc, he⟩ | ⟨id, dd, n, sz, g, hc, he⟩
  · rw [h1]
    refine OwnC.crep (fun b o hF => ?_) (hown r hr)
    rintro ⟨id2, ob2, hl2, hbk, _⟩
    by_cases hi : id2 ∈ (L.flatMap RCell.objs).map (·.1)
    · have hf2 := (key.1.ob id2 ob2 hl2).reach hbk
      rw [hkf id2 hi] at hf2
      obtain ⟨ob', r', hr', ho', _, h1'⟩ := hkey id2 hi
      rw [h1'] at hf2
      rcases pairwise_mem hsym hap hr hr' with e | e
      · subst e; rw [RCell.objs, he] at ho'; cases ho'
      · exact e b hF hf2
    · rw [List.lookup_append, lookup_none hi] at hl2
      have hl2' : H.lookup id2 = some ob2 := by simpa using hl2
      rw [reach_same (m := m) (by simp only [Mem.add, if_neg hi]) (by simp only [Mem.add, if_neg hi])] at hbk
      have := (hok.lo id2 b (by rw [hl2']; rfl) ((hok.ob id2 ob2 hl2').reach hbk)).2
      have := (hlo r hr b hF).1
      omega
  · have ho : (id, Ob.lst n sz g) ∈ r.objs := by rw [RCell.objs, he]; simp
    have hm : (id, Ob.lst n sz g) ∈ L.flatMap RCell.objs := List.mem_flatMap.2 ⟨r, hr, ho⟩
    have hi : id ∈ (L.flatMap RCell.objs).map (·.1) := List.mem_map.2 ⟨_, hm, rfl⟩
    have hl : (L.flatMap RCell.objs ++ H).lookup id = some (.lst n sz g) := by rw [List.lookup_append, lookup_nodup hnd hm]; rfl
    have hv := lst_crep key.1 hl
    rw [hkv id hi, (hvf r hr id _ ho).1] at hv
    rw [he]
    exact ⟨hv, fun _ => by rw [hkv id hi, (hvf r hr id _ ho).1]⟩
  · have ho : (id, Ob.arr dd n sz g) ∈ r.objs := by rw [RCell.objs, he]; simp
    have hm : (id, Ob.arr dd n sz g) ∈ L.flatMap RCell.objs := List.mem_flatMap.2 ⟨r, hr, ho⟩
    have hi : id ∈ (L.flatMap RCell.objs).map (·.1) := List.mem_map.2 ⟨_, hm, rfl⟩
    have hl : (L.flatMap RCell.objs ++ H).lookup id = some (.arr dd n sz g) := by rw [List.lookup_append, lookup_nodup hnd hm]; rfl
    rw [he]
    exact ⟨by rw [hl]; rfl, by rw [hl]; trivial, by rw [hkv id hi, (hvf r hr id _ ho).1]⟩
end Go.Fw
/-! One operation, part 10: a call by its contract. -/
namespace Go.Fw
open Go Go.RowKit
variable {P : Program} {n0 : Nat → Prop} {H : List (Nat × Ob)} {m : Mem} {w : World}
theorem mkXs_cells {w' : World} {lo : Nat} : ∀ (cs : List C) (ds : List Dst) (F : Nat → Nat → Prop) (vs : List Value), vs.length = cs.length →
    (∀ (j : Nat) (c : C), cs[j]? = some c → ∃ u, vs[j]? = some u ∧ OwnC w' c (F j) u) → (∀ j b, F j b → lo ≤ b ∧ b < w'.heap.size) → (∀ j j' b, F j b → F j' b → j = j') →
    ∃ L : List RCell, L.flatMap RCell.objs = (mkXs cs ds).2 ∧ (∀ r ∈ L, OwnC w' r.c r.F r.v ∧ ∃ j, r.F = F j) ∧ (L.Pairwise fun r r' => ∀ b, r.F b → ¬ r'.F b) ∧
      ∀ H' m', (∀ r ∈ L, XRep H' m' w' (mkX r.c r.d).1 r.v) → ((mkXs cs ds).1).length = cs.length ∧ ∀ (j : Nat) (x : X), (mkXs cs ds).1[j]? = some x → ∃ u, vs[j]? = some u ∧ XRep H' m' w' x u := by
  intro cs
  induction cs with
  | nil => intro ds F vs _ _ _ _; exact ⟨[], rfl, by simp, List.Pairwise.nil, fun H' m' _ => ⟨rfl, fun j x h => by simp [mkXs] at h⟩⟩
  | cons c cs ih =>
    intro ds F vs hl hv hlo hap
    cases vs with
    | nil => simp at hl
    | cons v vs =>
      obtain ⟨L, h1, h2, h3, h4⟩ := ih ds.tail (fun j => F (j + 1)) vs (by simpa using hl) (fun j c hj => by simpa using hv (j + 1) c (by simpa using hj)) (fun j b h => hlo _ b h) (fun j j' b h h' => by have := hap _ _ b h h'; omega)
      obtain ⟨u, hu, ho⟩ := hv 0 c rfl
      simp at hu
      subst hu
      refine ⟨⟨c, hd1 ds, v, F 0⟩ :: L, ?_, ?_, ?_, fun H' m' hX => ?_⟩
      · simp only [List.flatMap_cons, h1, mkXs, RCell.objs]
      · intro r hr
        cases hr with
        | head => exact ⟨ho, 0, rfl⟩
        | tail _ hr => obtain ⟨h5, j, h6⟩ := h2 r hr; exact ⟨h5, j + 1, h6⟩
      · refine List.Pairwise.cons (fun r hr b hb hb' => ?_) h3
        obtain ⟨_, j, h6⟩ := h2 r hr
        rw [h6] at hb'
        have := hap 0 (j + 1) b hb hb'
        omega
      · obtain ⟨h5, h6⟩ := h4 H' m' (fun r hr => hX r (List.mem_cons_of_mem _ hr))
        refine ⟨by simp [mkXs, h5], fun j x hj => ?_⟩
        cases j with
        | zero =>
          simp [mkXs] at hj
          subst hj
          exact ⟨v, by simp, hX _ List.mem_cons_self⟩
        | succ j =>
          obtain ⟨u, hu, hr⟩ := h6 j x (by simpa [mkXs] using hj)
          exact ⟨u, by simpa using hu, hr⟩
theorem mkTV_cells {w' : World} {lo : Nat} (t : CT) (ds : List Dst) (F : Nat → Nat → Prop) (v : Value) (hr : RTRep w' F t v) (hlo : ∀ j b, F j b → lo ≤ b ∧ b < w'.heap.size) (hap : ∀ j j' b, F j b → F j' b → j = j') :
    ∃ L : List RCell, L.flatMap RCell.objs = (mkTV t ds).2 ∧ (∀ r ∈ L, OwnC w' r.c r.F r.v ∧ ∃ j, r.F = F j) ∧ (L.Pairwise fun r r' => ∀ b, r.F b → ¬ r'.F b) ∧
      ∀ H' m', (∀ r ∈ L, XRep H' m' w' (mkX r.c r.d).1 r.v) → TVRep H' m' w' (mkTV t ds).1 v := by
  cases t with
  | one c =>
    refine ⟨[⟨c, hd1 ds, v, F 0⟩], by simp [mkTV, RCell.objs], ?_, List.pairwise_singleton _ _, fun H' m' hX => hX ⟨c, hd1 ds, v, F 0⟩ (by simp)⟩
    intro r hr'
    simp at hr'
    subst hr'
    exact ⟨hr, 0, rfl⟩
  | agg cs =>
    obtain ⟨vs, rfl, h1, h2⟩ := hr
    obtain ⟨L, h3, h4, h5, h6⟩ := mkXs_cells (w' := w') (lo := lo) cs ds F vs.toList (by simpa using h1) (fun j c hj => by simpa using h2 j c hj) hlo hap
    refine ⟨L, h3, h4, h5, fun H' m' hX => ?_⟩
    obtain ⟨h7, h8⟩ := h6 H' m' hX
    exact ⟨vs, rfl, by show _ = (mkXs cs ds).1.length; omega, fun j x hj => by simpa using h8 j x hj⟩
theorem mkTVs_cells {w' : World} {lo : Nat} : ∀ (ts : List CT) (ds : List (List Dst)) (F : Nat → Nat → Nat → Prop) (vs : List Value), vs.length = ts.length →
    (∀ (i : Nat) (t : CT), ts[i]? = some t → ∃ u, vs[i]? = some u ∧ RTRep w' (F i) t u) → (∀ i j b, F i j b → lo ≤ b ∧ b < w'.heap.size) → (∀ i j i' j' b, F i j b → F i' j' b → i = i' ∧ j = j') →
    ∃ L : List RCell, L.flatMap RCell.objs = (mkTVs ts ds).2 ∧ (∀ r ∈ L, OwnC w' r.c r.F r.v ∧ ∃ i j, r.F = F i j) ∧ (L.Pairwise fun r r' => ∀ b, r.F b → ¬ r'.F b) ∧
      ∀ H' m', (∀ r ∈ L, XRep H' m' w' (mkX r.c r.d).1 r.v) → ((mkTVs ts ds).1).length = ts.length ∧ ∀ (j : Nat) (x : TV), (mkTVs ts ds).1[j]? = some x → ∃ u, vs[j]? = some u ∧ TVRep H' m' w' x u := by
  intro ts
  induction ts with
  | nil => intro ds F vs _ _ _ _; exact ⟨[], rfl, by simp, List.Pairwise.nil, fun H' m' _ => ⟨rfl, fun j x h => by simp [mkTVs] at h⟩⟩
  | cons t ts ih =>
    intro ds F vs hl hv hlo hap
    cases vs with
    | nil => simp at hl
    | cons v vs =>
      obtain ⟨L, h1, h2, h3, h4⟩ := ih ds.tail (fun j => F (j + 1)) vs (by simpa using hl) (fun j c hj => by simpa using hv (j + 1) c (by simpa using hj)) (fun i j b h => hlo _ _ b h) (fun i j i' j' b h h' => by have := hap _ _ _ _ b h h'; omega)
      obtain ⟨u, hu, ho⟩ := hv 0 t rfl
      simp at hu
      subst hu
      obtain ⟨L0, g1, g2, g3, g4⟩ := mkTV_cells (w' := w') (lo := lo) t (hd2 ds) (F 0) v ho (fun j b h => hlo 0 j b h) (fun j j' b h h' => (hap 0 j 0 j' b h h').2)
      refine ⟨L0 ++ L, ?_, ?_, ?_, fun H' m' hX => ?_⟩
      · simp only [List.flatMap_append, h1, g1, mkTVs]
      · intro r hr
        rcases List.mem_append.1 hr with hr | hr
        · obtain ⟨h5, j, h6⟩ := g2 r hr; exact ⟨h5, 0, j, h6⟩
        · obtain ⟨h5, i, j, h6⟩ := h2 r hr; exact ⟨h5, i + 1, j, h6⟩
      · refine List.pairwise_append.2 ⟨g3, h3, fun r hr r' hr' b hb hb' => ?_⟩
        obtain ⟨_, j, h6⟩ := g2 r hr
        obtain ⟨_, i', j', h6'⟩ := h2 r' hr'
        rw [h6] at hb; rw [h6'] at hb'
        have := hap _ _ _ _ b hb hb'
        omega
      · obtain ⟨h5, h6⟩ := h4 H' m' (fun r hr => hX r (List.mem_append_right _ hr))
        have h7 := g4 H' m' (fun r hr => hX r (List.mem_append_left _ hr))
        refine ⟨by simp [mkTVs, h5], fun j x hj => ?_⟩
        cases j with
        | zero =>
          simp [mkTVs] at hj
          subst hj
          exact ⟨v, by simp, h7⟩
        | succ j =>
          obtain ⟨u, hu, hr⟩ := h6 j x (by simpa [mkTVs] using hj)
          exact ⟨u, by simpa using hu, hr⟩
theorem res_cells {w' : World} {lo : Nat} {res : List CT} {ds : List (List Dst)} {v : Value} (hr : Res lo w' res v) :
    ∃ L : List RCell, L.flatMap RCell.objs = (mkAV res ds).2 ∧ (∀ r ∈ L, OwnC w' r.c r.F r.v) ∧ (∀ r ∈ L, ∀ b, r.F b → lo ≤ b ∧ b < w'.heap.size) ∧ (L.Pairwise fun r r' => ∀ b, r.F b → ¬ r'.F b) ∧
      ∀ H' m', (∀ r ∈ L, XRep H' m' w' (mkX r.c r.d).1 r.v) → AVRep H' m' w' (mkAV res ds).1 v := by
  obtain ⟨F, hlo, hap, hr⟩ := hr
  have many : (∃ vs : Array Value, v = .tuple vs ∧ vs.size = res.length ∧ ∀ (i : Nat) (t : CT), res[i]? = some t → ∃ u, vs[i]? = some u ∧ RTRep w' (F i) t u) → mkAV res ds = (.tup (mkTVs res ds).1, (mkTVs res ds).2) →
      ∃ L : List RCell, L.flatMap RCell.objs = (mkAV res ds).2 ∧ (∀ r ∈ L, OwnC w' r.c r.F r.v) ∧ (∀ r ∈ L, ∀ b, r.F b → lo ≤ b ∧ b < w'.heap.size) ∧ (L.Pairwise fun r r' => ∀ b, r.F b → ¬ r'.F b) ∧
      ∀ H' m', (∀ r ∈ L, XRep H' m' w' (mkX r.c r.d).1 r.v) → AVRep H' m' w' (mkAV res ds).1 v := by
    rintro ⟨vs, rfl, h1, h2⟩ he
    obtain ⟨L, h3, h4, h5, h6⟩ := mkTVs_cells (w' := w') (lo := lo) res ds F vs.toList (by simpa using h1) (fun j c hj => by simpa using h2 j c hj) hlo hap
    rw [he]
    refine ⟨L, h3, fun r hr => (h4 r hr).1, fun r hr b hb => ?_, h5, fun H' m' hX => ?_⟩
    · obtain ⟨_, i, j, h⟩ := h4 r hr; rw [h] at hb; exact hlo i j b hb
    · obtain ⟨h7, h8⟩ := h6 H' m' hX
      exact ⟨vs, rfl, by omega, fun j x hj => by simpa using h8 j x hj⟩
  cases res with
  | nil => exact many hr rfl
  | cons t ts =>
    cases ts with
    | cons t' ts => exact many hr rfl
    | nil =>
      obtain ⟨L, h1, h2, h3, h4⟩ := mkTV_cells (w' := w') (lo := lo) t (hd2 ds) (F 0) v hr (fun j b h => hlo 0 j b h) (fun j j' b h h' => (hap 0 j 0 j' b h h').2)
      refine ⟨L, h1, fun r hr => (h2 r hr).1, fun r hr b hb => ?_, h3, fun H' m' hX => h4 H' m' hX⟩
      obtain ⟨_, j, h⟩ := h2 r hr; rw [h] at hb; exact hlo 0 j b hb
theorem evCall_go {Hs : Nat → Option Ob} {f : FuncId} {as : List AV} {h : Hint} {E : Eff} {o : Oper} {a : Act} {vs : Array Value} (hE : evCall P f Hs as h = some E) (hob : E.ob)
    (hok : HeapOK n0 H m w) (hn0 : ∀ b, n0 b → b < w.heap.size) (hgd : GK n0 w) (hsub : Agree H Hs) (hnd : E.ids.Nodup) (hids : ∀ id ob, H.lookup id = some ob → ∀ i ∈ ob.ids, i ∉ E.ids)
    (hrun : (execOp a.eval o).run P w = (callFunc f vs).run P w) (hr : AVsRep H m w as vs) : OpGo P n0 o a w H m E := by
  unfold evCall at hE
  split at hE
  · rename_i args res ds
    cases hE
    obtain ⟨hc, hcall⟩ := hob
    have hinv := hcall w vs hgd.1 (args_rep hok hsub hc hr)
    have fin : ∀ v w', Below w.heap.size w w' ∧ Res w.heap.size w' res v → ∃ m', HeapOK n0 ((mkAV res ds).2 ++ H) m' w' ∧ Step n0 ((mkAV res ds).2.map (·.1)) [] H m w ((mkAV res ds).2 ++ H) m' w' ∧ AVRep ((mkAV res ds).2 ++ H) m' w' (mkAV res ds).1 v := by
      rintro v w' ⟨hb, hres⟩
      obtain ⟨L, h1, h2, h3, h4, h5⟩ := res_cells (ds := ds) hres
      rw [← h1]
      obtain ⟨m', g1, g2, g3⟩ := results_objs hb hok hn0 L (by rw [h1]; exact hnd) (by rw [h1]; exact hids) h2 h3 h4
      exact ⟨m', g1, g2, h5 _ _ g3⟩
    have hh : Eff.heap { av := (mkAV res ds).1, new := (mkAV res ds).2, ob := isCTs Hs as args ∧ CallOK P f args res } H = (mkAV res ds).2 ++ H := by simp [Eff.heap]
    unfold OpGo
    rw [hrun]
    unfold Invk at hinv
    simp only [hh]
    split at hinv
    · rename_i g as' w1 he
      rw [he]
      obtain ⟨rfl, hcl⟩ := hinv
      refine ⟨rfl, hcl.mono ?_⟩
      rintro e w' ⟨v, rfl, hq⟩
      exact ⟨v, rfl, fin v w' hq⟩
    · rename_i v w1 he
      rw [he]
      exact fin v w1 hinv
    · exact hinv.elim
  · cases hE
end Go.Fw
/-! One operation, part 11: all operations of evOp0. -/
namespace Go.Fw
open Go Go.RowKit
variable {P : Program} {n0 : Nat → Prop} {H : List (Nat × Ob)} {m : Mem} {w : World}
theorem evConv_sound {src dst : TypeId} {x : AV} {u : Value} {E : Eff} (h : evConv P src dst x = some E) (hob : E.ob) (hr : AVRep H m w x u) :
    Quiet P (convert src dst u) w H m E.av ∧ E.new = [] ∧ E.gone = [] := by
  unfold evConv at h
  split at h
  · rename_i d k k' n hs hd
    cases h
    have hu : u = .int k' n := hr
    subst hu
    refine ⟨⟨.int k (k.wrap n), w, ?_, Drew.refl w, rfl⟩, rfl, rfl⟩
    simp only [convert, Sem.run_bind, run_underlying hs w, run_underlying hd w, Result.andThen_ok]
    cases d <;> rfl
  · rename_i d k k' n hs hd
    cases h
    have hu : u = .int k' n := hr
    subst hu
    refine ⟨⟨.float k (k.nearest n), w, ?_, Drew.refl w, k.nearest n, rfl, nearest_lt k n, rfl⟩, rfl, rfl⟩
    simp only [convert, Sem.run_bind, run_underlying hs w, run_underlying hd w, Result.andThen_ok]
    cases d <;> rfl
  · rename_i d k s c hs hd
    cases h
    obtain ⟨b, rfl, hl, rfl⟩ := rep_flt hr
    have hob' : (floatToIntVal s (canonF s b) k).isSome = true := hob
    obtain ⟨n, hn⟩ := Option.isSome_iff_exists.1 hob'
    have hnn : nanB s b = false := by
      cases e : nanB s b
      · rfl
      · exfalso
        obtain ⟨s1, t1, e1⟩ := read_nan (k := s) (b := canonF s b) (by rw [nanB_canonF]; exact e)
        unfold floatToIntVal FloatKind.decode at hn
        rw [e1] at hn
        simp [Ieee.Datum.toInt, Ieee.Datum.integral] at hn
    rw [canonF_num hnn] at hn ⊢
    refine ⟨⟨.int k n, w, run_convert_float_int w src dst s k b n (by rw [hs]; rfl) hd hn, Drew.refl w, ?_⟩, rfl, rfl⟩
    show Value.int k n = .int k ((floatToIntVal s b k).getD 0)
    rw [hn]; rfl
  · rename_i d k s c hs hd
    cases h
    obtain ⟨b, rfl, hl, rfl⟩ := rep_flt hr
    have hob' : (convBits s (canonF s b) k).isSome = true := hob
    cases e : nanB s b
    · rw [canonF_num e] at hob' ⊢
      have hcv : convBits s b k = (floatToFloatBits s b k).map (canonF k) := by unfold convBits; rw [e]; rfl
      rw [hcv] at hob' ⊢
      rw [Option.isSome_map] at hob'
      obtain ⟨r, hr'⟩ := Option.isSome_iff_exists.1 hob'
      refine ⟨⟨.float k r, w, run_convert_float_float w src dst s k b r (by rw [hs]; rfl) hd hr', Drew.refl w, r, rfl, ?_, ?_⟩, rfl, rfl⟩
      · have := floatToFloatBits_wf (wf_of_lt s b hl) hr'
        cases k <;> (simp [Lit.wf] at this; exact this)
      · rw [hr']; rfl
    · have hcb : convBits s (canonF s b) k = some (nanBits k) := by unfold convBits; rw [nanB_canonF, e]; rfl
      rw [hcb]
      refine ⟨?_, rfl, rfl⟩
      by_cases hsk : s = k
      · subst hsk
        refine ⟨.float s b, w, ?_, Drew.refl w, b, rfl, hl, canonF_nan e⟩
        exact run_convert_float_float w src dst s s b b (by rw [hs]; rfl) hd (by simp [floatToFloatBits])
      · obtain ⟨s1, t1, e1⟩ := read_nan e
        obtain ⟨b', hb', hl', hc'⟩ := choose_nan (P := P) (w := w) (.nanConv k b) k (.inr (.inl ⟨b, rfl⟩))
        refine ⟨.float k b', w.drew, ?_, Drew.drew w, b', rfl, hl', hc'⟩
        have hde : s.decode b = .nan s1 t1 := e1
        have hcv : (Conv.floatToFloat s b k).run P w = .ok (.float k b') w.drew := by
          simp only [Conv.floatToFloat, if_neg hsk, hde, Sem.run_bind, hb', Result.andThen_ok, Sem.run_pure]
        simp only [convert, Sem.run_bind, run_underlying hs w, run_underlying hd w, Result.andThen_ok]
        cases d <;> exact hcv
  · rename_i d s hs hd
    cases h
    have hu : u = .string s := hr
    subst hu
    refine ⟨⟨.string s, w, ?_, Drew.refl w, rfl⟩, rfl, rfl⟩
    simp only [convert, Sem.run_bind, run_underlying hs w, run_underlying hd w, Result.andThen_ok]
    cases d <;> rfl
  · cases h
theorem mapM_ptrs : ∀ {as : List AV} {ids : List Nat}, (as.mapM fun (a : AV) => match a with
          | .v (.one (.ptr id 0)) => some id
          | _ => none) = some ids → ∀ (vs : List Value), vs.length = as.length → (∀ (j : Nat) (x : AV), as[j]? = some x → ∃ u, vs[j]? = some u ∧ AVRep H m w x u) →
    (∀ id ∈ ids, (H.lookup id).isSome = true ∧ ∃ b, m.val id = .pointer (some ⟨b, 0, none⟩)) ∧ vs = ids.map m.val := by
  intro as
  induction as with
  | nil =>
    intro ids h vs hl _
    simp at h
    subst h
    have : vs = [] := List.eq_nil_of_length_eq_zero (by simpa using hl)
    subst this
    exact ⟨by simp, rfl⟩
  | cons a as ih =>
    intro ids h vs hl hr
    simp only [List.mapM_cons] at h
    cases vs with
    | nil => simp at hl
    | cons v vs =>
      split at h
      · rename_i id
        cases hm : (as.mapM fun (a : AV) => match a with
          | .v (.one (.ptr id 0)) => some id
          | _ => none) with
        | none => rw [hm] at h; cases h
        | some ids' =>
          rw [hm] at h
          cases h
          obtain ⟨h1, h2⟩ := ih hm vs (by simpa using hl) (fun j x hj => by simpa using hr (j + 1) x (by simpa using hj))
          obtain ⟨u, hu, hx⟩ := hr 0 _ rfl
          simp at hu
          subst hu
          obtain ⟨ha, b, hv, rfl⟩ := hx
          refine ⟨fun i hi => ?_, ?_⟩
          · cases hi with
            | head => exact ⟨ha, b, hv⟩
            | tail _ hi => exact h1 i hi
          · rw [List.map_cons, hv, ← h2]
      · cases h
theorem evOp0_go {ρ : Rho} {Hs : Nat → Option Ob} {o : Oper} {h : Hint} {E : Eff} {a : Act} (hE : evOp0 P ρ Hs o h = some E) (hob : E.ob)
    (hok : HeapOK n0 H m w) (hn0 : ∀ b, n0 b → b < w.heap.size) (hgd : GK n0 w) (hsub : Agree H Hs) (hnd : E.ids.Nodup) (hids : ∀ id ob, H.lookup id = some ob → ∀ i ∈ ob.ids, i ∉ E.ids)
    (hfr : ∀ x ∈ o.op.operands.toList, ∀ av, ρ x = some av → ∀ i ∈ av.ids, i ∉ E.ids)
    (hr : ∀ x ∈ o.op.operands.toList, ∀ av, ρ x = some av → AVRep H m w av (a.eval x)) : OpGo P n0 o a w H m E := by
  unfold evOp0 at hE
  split at hE
  · rename_i x ho
    simp only [Option.map_eq_some_iff] at hE
    obtain ⟨v, hv, rfl⟩ := hE
    have := hr x (by simp [ho, Op.operands]) v hv
    exact quiet_go (Pure.pure (a.eval x)) (by simp [execOp, ho]) (Quiet.pure this) hok rfl rfl
  · rename_i x ho
    simp only [Option.map_eq_some_iff] at hE
    obtain ⟨v, hv, rfl⟩ := hE
    have := hr x (by simp [ho, Op.operands]) v hv
    exact quiet_go (Pure.pure (a.eval x)) (by simp [execOp, ho]) (Quiet.pure this) hok rfl rfl
  · rename_i c x y ho
    split at hE
    · rename_i hc
      simp only [Option.map_eq_some_iff] at hE
      obtain ⟨v, hv, rfl⟩ := hE
      have hcv : a.eval c = .bool true := hr c (by simp [ho, Op.operands]) _ hc
      have := hr x (by simp [ho, Op.operands]) v hv
      exact quiet_go (Pure.pure (a.eval x)) (by simp [execOp, ho, hcv, asBool]) (Quiet.pure this) hok rfl rfl
    · rename_i hc
      simp only [Option.map_eq_some_iff] at hE
      obtain ⟨v, hv, rfl⟩ := hE
      have hcv : a.eval c = .bool false := hr c (by simp [ho, Op.operands]) _ hc
      have := hr y (by simp [ho, Op.operands]) v hv
      exact quiet_go (Pure.pure (a.eval y)) (by simp [execOp, ho, hcv, asBool]) (Quiet.pure this) hok rfl rfl
    · cases hE
  · rename_i op t x y yt ho
    split at hE
    · rename_i u v hu hv
      split at hE
      · rename_i E' hE'
        cases hE
        obtain ⟨h1, h2, h3⟩ := evBin_sound (P := P) hE' hob (hr x (by simp [ho, Op.operands]) u hu) (hr y (by simp [ho, Op.operands]) v hv) x y
        exact quiet_go _ (by simp only [execOp, ho]; exact run_value _ w) h1 hok h2 h3
      · obtain ⟨h1, h2, h3⟩ := nilBin_sound (P := P) hE (hr x (by simp [ho, Op.operands]) u hu) (hr y (by simp [ho, Op.operands]) v hv) x
        exact quiet_go _ (by simp only [execOp, ho]; exact run_value _ w) h1 hok h2 h3
    · cases hE
  · rename_i op t x ho
    split at hE
    · rename_i u hu
      obtain ⟨h1, h2, h3⟩ := evUn_sound (P := P) hE (hr x (by simp [ho, Op.operands]) u hu)
      exact quiet_go _ (by simp only [execOp, ho]; exact run_value _ w) h1 hok h2 h3
    · cases hE
  · rename_i src dst x ho
    split at hE
    · rename_i u hu
      obtain ⟨h1, h2, h3⟩ := evConv_sound (P := P) hE hob (hr x (by simp [ho, Op.operands]) u hu)
      exact quiet_go _ (by simp only [execOp, ho]; exact run_value _ w) h1 hok h2 h3
    · cases hE
  · rename_i x ho
    have go : ∀ (t : AV), ρ x = some t → E = { av := t } → (∀ v, AVRep H m w t v → (∃ p, v = .pointer (some p)) ∨ (∃ f cs, v = .func (.func f) #[] cs)) → OpGo P n0 o a w H m E := by
      intro t ht he hv
      subst he
      have hx := hr x (by simp [ho, Op.operands]) t ht
      refine quiet_go (Pure.pure (a.eval x)) ?_ (Quiet.pure hx) hok rfl rfl
      rcases hv _ hx with ⟨p, hp⟩ | ⟨f, cs, hp⟩ <;> simp [execOp, ho, hp]
    split at hE
    · rename_i id off hx; cases hE; exact go _ hx rfl (by rintro v ⟨_, b, _, rfl⟩; exact .inl ⟨_, rfl⟩)
    · rename_i id i off hx; cases hE; exact go _ hx rfl (by rintro v ⟨_, _, _, _, _, _, _, _, _, rfl⟩; exact .inl ⟨_, rfl⟩)
    · rename_i mm get hx; cases hE; exact go _ hx rfl (by rintro v ⟨b, off, rfl, _⟩; exact .inl ⟨_, rfl⟩)
    · rename_i f mm get hx; cases hE; exact go _ hx rfl (by rintro v ⟨cs, rfl, _⟩; exact .inr ⟨_, _, rfl⟩)
    · rename_i f ids hx; cases hE; exact go _ hx rfl (by rintro v ⟨_, rfl⟩; exact .inr ⟨_, _, rfl⟩)
    · cases hE
  · rename_i t x ho
    split at hE
    · rename_i u hu
      obtain ⟨h1, h2, h3⟩ := evLoad_sound (P := P) hE hok hsub (hr x (by simp [ho, Op.operands]) u hu)
      exact quiet_go _ (by simp only [execOp, ho]; exact run_value _ w) h1 hok h2 h3
    · cases hE
  · rename_i t x k ho
    split at hE
    · rename_i u hu
      obtain ⟨h1, h2, h3⟩ := evFieldAddr_sound (P := P) hE (hr x (by simp [ho, Op.operands]) u hu)
      exact quiet_go _ (by simp only [execOp, ho]; exact run_value _ w) h1 hok h2 h3
    · cases hE
  · rename_i t x k ho
    split at hE
    · rename_i u hu
      obtain ⟨h1, h2, h3⟩ := evField_sound (P := P) hE (hr x (by simp [ho, Op.operands]) u hu)
      exact quiet_go _ (by simp only [execOp, ho]; exact run_value _ w) h1 hok h2 h3
    · cases hE
  · rename_i t x i ho
    split at hE
    · rename_i u v hu hv
      obtain ⟨h1, h2, h3⟩ := evIndexAddr_sound (P := P) hE hob hok hsub (hr x (by simp [ho, Op.operands]) u hu) (hr i (by simp [ho, Op.operands]) v hv)
      exact quiet_go _ (by simp only [execOp, ho]; exact run_value _ w) h1 hok h2 h3
    · cases hE
  · rename_i t x i ho
    split at hE
    · rename_i u v hu hv
      obtain ⟨h1, h2, h3⟩ := evIndex_sound (P := P) hE hob (hr x (by simp [ho, Op.operands]) u hu) (hr i (by simp [ho, Op.operands]) v hv)
      exact quiet_go _ (by simp only [execOp, ho]; exact run_value _ w) h1 hok h2 h3
    · cases hE
  · rename_i x k ho
    split at hE
    · rename_i ts hx
      simp only [Option.map_eq_some_iff] at hE
      obtain ⟨t, ht, rfl⟩ := hE
      obtain ⟨vs, hvs, _, hts⟩ := hr x (by simp [ho, Op.operands]) _ hx
      obtain ⟨u, hu, hxr⟩ := hts k t ht
      exact quiet_go (Pure.pure u) (by simp [execOp, ho, hvs, Instr.extract, hu]) (Quiet.pure hxr) hok rfl rfl
    · cases hE
  · rename_i t ho
    split at hE
    · rename_i id xs hz
      cases hE
      obtain ⟨i, z, hi, hzv, hzr, hzi⟩ := zeroXs_rep (H := H) (m := m) (w := w) hz
      refine alloc_go (t := t) (cs := z.cells) rfl ?_ hok hn0 (fun i' ob hl => by have := hids i' ob hl; intro hm; exact this id hm (by simp [Eff.ids])) (fun x hx => by rw [hzi x hx]; simp) hzr
      simp only [execOp, ho, Instr.alloc, Sem.run_bind, run_zero hi hzv, Result.andThen_ok, newVar, newRow, run_newObj, Sem.run_pure]
      rfl
    · cases hE
  · rename_i t x ho
    split at hE
    · rename_i id tv hx
      cases hE
      have hxr := hr x (by simp [ho, Op.operands]) _ hx
      refine alloc_go (t := t) (cs := (a.eval x).cells) rfl ?_ hok hn0 (fun i' ob hl => by have := hids i' ob hl; intro hm; exact this id hm (by simp [Eff.ids])) (fun y hy => ?_) (TVRep.cells hok hxr)
      · simp only [execOp, ho, Instr.box, Sem.run_bind, Result.andThen_ok, newVar, newRow, run_newObj, Sem.run_pure]
        rfl
      · intro hm
        refine hfr x (by simp [ho, Op.operands]) _ hx id ?_ (by simp [Eff.ids])
        cases tv with
        | one y' => simp [TV.cells] at hy; subst hy; exact hm
        | agg ys => exact List.mem_flatMap.2 ⟨y, hy, hm⟩
    · cases hE
  · rename_i t parts ho
    obtain ⟨h1, h2, h3⟩ := evBuild_sound (P := P) (ev := a.eval) hE hok (fun p hp av hav => hr p.2 (by simp only [ho, Op.operands, List.mem_map]; exact ⟨p, hp, rfl⟩) av hav)
    exact quiet_go _ (by simp only [execOp, ho]; exact run_value _ w) h1 hok h2 h3
  · rename_i f first captured ho
    split at hE
    · rename_i hfs
      have hfirst : first = #[] := Array.eq_empty_of_size_eq_zero hfs
      split at hE
      · rename_i as has
        simp only [Option.map_eq_some_iff] at hE
        obtain ⟨ids, hm, rfl⟩ := hE
        have hrep := rhos_rep (ev := a.eval) has (fun x hx av hav => hr x (by simp [ho, Op.operands]; exact .inr (by simpa using hx)) av hav)
        obtain ⟨h1, h2⟩ := mapM_ptrs hm (captured.toList.map a.eval) (by simpa using hrep.1) (fun j x hj => by simpa using hrep.2 j x hj)
        refine quiet_go (Pure.pure (.func (.func f) #[] (ids.map m.val).toArray)) ?_ (Quiet.pure ⟨h1, rfl⟩) hok rfl rfl
        rw [← h2]
        have hc : captured.map a.eval = (captured.toList.map a.eval).toArray := by rw [← Array.toList_map, Array.toArray_toList]
        simp [execOp, ho, hfirst, Instr.makeFunc, hc]
      · cases hE
    · cases hE
  · rename_i c ho
    have hargs : ∀ x ∈ c.args.toList, ∀ av, ρ x = some av → AVRep H m w av (a.eval x) := fun x hx av hav => hr x (by
      simp only [ho, Op.operands, Call.operands, Array.toList_append]; exact List.mem_append_right _ hx) av hav
    split at hE
    · rename_i hcal
      split at hE
      · rename_i x t hxs hts
        split at hE
        · rename_i u hu
          obtain ⟨h1, h2, h3⟩ := evLen_sound (P := P) (ty := o.type) hE hok hsub (hargs x (by rw [hxs]; simp) u hu)
          have ha : c.args = #[x] := by rw [← Array.toArray_toList (xs := c.args), hxs]
          have ht : c.argTypes = #[t] := by rw [← Array.toArray_toList (xs := c.argTypes), hts]
          refine quiet_go _ ?_ h1 hok h2 h3
          simp only [execOp, ho, resolve, hcal, ha, ht, Sem.run_bind, Sem.run_pure, Result.andThen_ok, invoke, builtin, List.map_toArray, List.map_cons, List.map_nil]
        · cases hE
      · cases hE
    · rename_i hcal
      split at hE
      · rename_i x y hxs
        split at hE
        · rename_i k q k' q' hx hy
          cases hE
          have hu : a.eval x = .int k q := hargs x (by rw [hxs]; simp) _ hx
          have hv : a.eval y = .int k' q' := hargs y (by rw [hxs]; simp) _ hy
          have ha : c.args = #[x, y] := by rw [← Array.toArray_toList (xs := c.args), hxs]
          refine quiet_go (Builtin.min_ c.argTypes o.type #[.int k q, .int k' q']) ?_ ⟨_, w, run_min_int2 w c.argTypes o.type k k' q q', Drew.refl w, rfl⟩ hok rfl rfl
          simp only [execOp, ho, resolve, hcal, ha, Sem.run_bind, Sem.run_pure, Result.andThen_ok, invoke, builtin, List.map_toArray, List.map_cons, List.map_nil, hu, hv]
        · rename_i k q k' q' hx hy
          split at hE
          case isFalse => cases hE
          rename_i hk
          subst hk
          cases hE
          obtain ⟨xb, hu, hxl, rfl⟩ := rep_flt (hargs x (by rw [hxs]; simp) _ hx)
          obtain ⟨yb, hv, hyl, rfl⟩ := rep_flt (hargs y (by rw [hxs]; simp) _ hy)
          have ha : c.args = #[x, y] := by rw [← Array.toArray_toList (xs := c.args), hxs]
          refine quiet_go (Builtin.min_ c.argTypes o.type #[.float k xb, .float k yb]) ?_ (min_quiet c.argTypes o.type hxl hyl) hok rfl rfl
          simp only [execOp, ho, resolve, hcal, ha, Sem.run_bind, Sem.run_pure, Result.andThen_ok, invoke, builtin, List.map_toArray, List.map_cons, List.map_nil, hu, hv]
        · cases hE
      · cases hE
    · rename_i hcal
      split at hE
      · rename_i x y hxs
        split at hE
        · rename_i k q k' q' hx hy
          cases hE
          have hu : a.eval x = .int k q := hargs x (by rw [hxs]; simp) _ hx
          have hv : a.eval y = .int k' q' := hargs y (by rw [hxs]; simp) _ hy
          have ha : c.args = #[x, y] := by rw [← Array.toArray_toList (xs := c.args), hxs]
          refine quiet_go (Builtin.max_ c.argTypes o.type #[.int k q, .int k' q']) ?_ ⟨_, w, run_max_int2 w c.argTypes o.type k k' q q', Drew.refl w, rfl⟩ hok rfl rfl
          simp only [execOp, ho, resolve, hcal, ha, Sem.run_bind, Sem.run_pure, Result.andThen_ok, invoke, builtin, List.map_toArray, List.map_cons, List.map_nil, hu, hv]
        · rename_i k q k' q' hx hy
          split at hE
          case isFalse => cases hE
          rename_i hk
          subst hk
          cases hE
          obtain ⟨xb, hu, hxl, rfl⟩ := rep_flt (hargs x (by rw [hxs]; simp) _ hx)
          obtain ⟨yb, hv, hyl, rfl⟩ := rep_flt (hargs y (by rw [hxs]; simp) _ hy)
          have ha : c.args = #[x, y] := by rw [← Array.toArray_toList (xs := c.args), hxs]
          refine quiet_go (Builtin.max_ c.argTypes o.type #[.float k xb, .float k yb]) ?_ (max_quiet c.argTypes o.type hxl hyl) hok rfl rfl
          simp only [execOp, ho, resolve, hcal, ha, Sem.run_bind, Sem.run_pure, Result.andThen_ok, invoke, builtin, List.map_toArray, List.map_cons, List.map_nil, hu, hv]
        · cases hE
      · cases hE
    · rename_i f hcal
      have hf : ∀ av, ρ f = some av → AVRep H m w av (a.eval f) := fun av hav => hr f (by
        simp only [ho, Op.operands, Call.operands, hcal, Array.toList_append]; exact List.mem_append_left _ (by simp)) av hav
      split at hE
      · rename_i g mm cap as hg has
        obtain ⟨cs, hcs, hsz, hcap⟩ := hf _ hg
        have hrep := rhos_rep (ev := a.eval) has hargs
        refine evCall_go (vs := (c.args.map a.eval) ++ cs) hE hob hok hn0 hgd hsub hnd hids ?_ ?_
        · simp only [execOp, ho, resolve, hcal, Sem.run_bind, hcs, Deferred.ofValue, Sem.run_pure, Result.andThen_ok, invoke, Array.empty_append]
        · have hm : (c.args.map a.eval) = (c.args.toList.map a.eval).toArray := by rw [← Array.toList_map, Array.toArray_toList]
          rw [hm]
          refine ⟨by rw [Array.size_append, hrep.1, hsz]; simp, fun j x hj => ?_⟩
          rw [List.getElem?_append] at hj
          split at hj
          · obtain ⟨u, hu, hx⟩ := hrep.2 j x hj
            refine ⟨u, ?_, hx⟩
            rw [Array.getElem?_append, if_pos (by rw [hrep.1]; assumption)]; exact hu
          · rename_i hlt
            rw [List.getElem?_map] at hj
            simp only [Option.map_eq_some_iff] at hj
            obtain ⟨i, hi, rfl⟩ := hj
            have hjm : j - as.length < mm := by have := (List.getElem?_eq_some_iff.1 hi).1; simpa using this
            have : i = j - as.length := by simp [hjm] at hi; exact hi.symm
            subst this
            obtain ⟨u, hu, hx⟩ := hcap _ hjm
            refine ⟨u, ?_, hx⟩
            rw [Array.getElem?_append, if_neg (by rw [hrep.1]; assumption), hrep.1]; exact hu
      · rename_i g ids as hg has
        obtain ⟨hal, hcs⟩ := hf _ hg
        have hrep := rhos_rep (ev := a.eval) has hargs
        refine evCall_go (vs := (c.args.map a.eval) ++ (ids.map m.val).toArray) hE hob hok hn0 hgd hsub hnd hids ?_ ?_
        · simp only [execOp, ho, resolve, hcal, Sem.run_bind, hcs, Deferred.ofValue, Sem.run_pure, Result.andThen_ok, invoke, Array.empty_append]
        · have hm : (c.args.map a.eval) = (c.args.toList.map a.eval).toArray := by rw [← Array.toList_map, Array.toArray_toList]
          rw [hm]
          refine ⟨by rw [Array.size_append, hrep.1]; simp, fun j x hj => ?_⟩
          rw [List.getElem?_append] at hj
          split at hj
          · obtain ⟨u, hu, hx⟩ := hrep.2 j x hj
            refine ⟨u, ?_, hx⟩
            rw [Array.getElem?_append, if_pos (by rw [hrep.1]; assumption)]; exact hu
          · rename_i hlt
            rw [List.getElem?_map] at hj
            simp only [Option.map_eq_some_iff] at hj
            obtain ⟨i, hi, rfl⟩ := hj
            obtain ⟨ha, b, hb⟩ := hal i (List.mem_of_getElem? hi)
            refine ⟨m.val i, ?_, ha, b, hb, hb⟩
            rw [Array.getElem?_append, if_neg (by rw [hrep.1]; assumption), hrep.1]
            simp [hi]
      · cases hE
    · cases hE
  · cases hE
end Go.Fw
