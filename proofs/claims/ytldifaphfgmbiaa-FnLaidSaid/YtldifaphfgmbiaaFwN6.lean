/- One operation, part 11: all operations of evOp0. -/
import Derived.Test.YtldifaphfgmbiaaFwN5
namespace Go.Fw
open Go Go.RowKit

variable {P : Program} {n0 : Nat → Prop} {H : List (Nat × Ob)} {m : Mem} {w : World}

theorem evConv_sound {src dst : TypeId} {x : AV} {u : Value} {E : Eff} (h : evConv P src dst x = some E) (hob : E.ob) (hr : AVRep H m w x u) :
    Quiet P (convert src dst u) w H m E.av ∧ E.new = [] ∧ E.gone = [] := by
  unfold evConv at h
  split at h
  · rename_i d k k' n hs hd
    cases h
    have hu : u = .int k' n := hr
    subst hu
    refine ⟨⟨.int k (k.wrap n), w, ?_, Drew.refl w, rfl⟩, rfl, rfl⟩
    simp only [convert, Sem.run_bind, run_underlying hs w, run_underlying hd w, Result.andThen_ok]
    cases d <;> rfl
  · rename_i d k k' n hs hd
    cases h
    have hu : u = .int k' n := hr
    subst hu
    refine ⟨⟨.float k (k.nearest n), w, ?_, Drew.refl w, k.nearest n, rfl, nearest_lt k n, rfl⟩, rfl, rfl⟩
    simp only [convert, Sem.run_bind, run_underlying hs w, run_underlying hd w, Result.andThen_ok]
    cases d <;> rfl
  · rename_i d k s c hs hd
    cases h
    obtain ⟨b, rfl, hl, rfl⟩ := rep_flt hr
    have hob' : (floatToIntVal s (canonF s b) k).isSome = true := hob
    obtain ⟨n, hn⟩ := Option.isSome_iff_exists.1 hob'
    have hnn : nanB s b = false := by
      cases e : nanB s b
      · rfl
      · exfalso
        obtain ⟨s1, t1, e1⟩ := read_nan (k := s) (b := canonF s b) (by rw [nanB_canonF]; exact e)
        unfold floatToIntVal FloatKind.decode at hn
        rw [e1] at hn
        simp [Ieee.Datum.toInt, Ieee.Datum.integral] at hn
    rw [canonF_num hnn] at hn ⊢
    refine ⟨⟨.int k n, w, run_convert_float_int w src dst s k b n (by rw [hs]; rfl) hd hn, Drew.refl w, ?_⟩, rfl, rfl⟩
    show Value.int k n = .int k ((floatToIntVal s b k).getD 0)
    rw [hn]; rfl
  · rename_i d k s c hs hd
    cases h
    obtain ⟨b, rfl, hl, rfl⟩ := rep_flt hr
    have hob' : (convBits s (canonF s b) k).isSome = true := hob
    cases e : nanB s b
    · rw [canonF_num e] at hob' ⊢
      have hcv : convBits s b k = (floatToFloatBits s b k).map (canonF k) := by unfold convBits; rw [e]; rfl
      rw [hcv] at hob' ⊢
      rw [Option.isSome_map] at hob'
      obtain ⟨r, hr'⟩ := Option.isSome_iff_exists.1 hob'
      refine ⟨⟨.float k r, w, run_convert_float_float w src dst s k b r (by rw [hs]; rfl) hd hr', Drew.refl w, r, rfl, ?_, ?_⟩, rfl, rfl⟩
      · have := floatToFloatBits_wf (wf_of_lt s b hl) hr'
        cases k <;> (simp [Lit.wf] at this; exact this)
      · rw [hr']; rfl
    · have hcb : convBits s (canonF s b) k = some (nanBits k) := by unfold convBits; rw [nanB_canonF, e]; rfl
      rw [hcb]
      refine ⟨?_, rfl, rfl⟩
      by_cases hsk : s = k
      · subst hsk
        refine ⟨.float s b, w, ?_, Drew.refl w, b, rfl, hl, canonF_nan e⟩
        exact run_convert_float_float w src dst s s b b (by rw [hs]; rfl) hd (by simp [floatToFloatBits])
      · obtain ⟨s1, t1, e1⟩ := read_nan e
        obtain ⟨b', hb', hl', hc'⟩ := choose_nan (P := P) (w := w) (.nanConv k b) k (.inr (.inl ⟨b, rfl⟩))
        refine ⟨.float k b', w.drew, ?_, Drew.drew w, b', rfl, hl', hc'⟩
        have hde : s.decode b = .nan s1 t1 := e1
        have hcv : (Conv.floatToFloat s b k).run P w = .ok (.float k b') w.drew := by
          simp only [Conv.floatToFloat, if_neg hsk, hde, Sem.run_bind, hb', Result.andThen_ok, Sem.run_pure]
        simp only [convert, Sem.run_bind, run_underlying hs w, run_underlying hd w, Result.andThen_ok]
        cases d <;> exact hcv
  · rename_i d s hs hd
    cases h
    have hu : u = .string s := hr
    subst hu
    refine ⟨⟨.string s, w, ?_, Drew.refl w, rfl⟩, rfl, rfl⟩
    simp only [convert, Sem.run_bind, run_underlying hs w, run_underlying hd w, Result.andThen_ok]
    cases d <;> rfl
  · cases h

theorem mapM_ptrs : ∀ {as : List AV} {ids : List Nat}, (as.mapM fun (a : AV) => match a with
          | .v (.one (.ptr id 0)) => some id
          | _ => none) = some ids → ∀ (vs : List Value), vs.length = as.length → (∀ (j : Nat) (x : AV), as[j]? = some x → ∃ u, vs[j]? = some u ∧ AVRep H m w x u) →
    (∀ id ∈ ids, (H.lookup id).isSome = true ∧ ∃ b, m.val id = .pointer (some ⟨b, 0, none⟩)) ∧ vs = ids.map m.val := by
  intro as
  induction as with
  | nil =>
    intro ids h vs hl _
    simp at h
    subst h
    have : vs = [] := List.eq_nil_of_length_eq_zero (by simpa using hl)
    subst this
    exact ⟨by simp, rfl⟩
  | cons a as ih =>
    intro ids h vs hl hr
    simp only [List.mapM_cons] at h
    cases vs with
    | nil => simp at hl
    | cons v vs =>
      split at h
      · rename_i id
        cases hm : (as.mapM fun (a : AV) => match a with
          | .v (.one (.ptr id 0)) => some id
          | _ => none) with
        | none => rw [hm] at h; cases h
        | some ids' =>
          rw [hm] at h
          cases h
          obtain ⟨h1, h2⟩ := ih hm vs (by simpa using hl) (fun j x hj => by simpa using hr (j + 1) x (by simpa using hj))
          obtain ⟨u, hu, hx⟩ := hr 0 _ rfl
          simp at hu
          subst hu
          obtain ⟨ha, b, hv, rfl⟩ := hx
          refine ⟨fun i hi => ?_, ?_⟩
          · cases hi with
            | head => exact ⟨ha, b, hv⟩
            | tail _ hi => exact h1 i hi
          · rw [List.map_cons, hv, ← h2]
      · cases h

theorem evOp0_go {ρ : Rho} {Hs : Nat → Option Ob} {o : Oper} {h : Hint} {E : Eff} {a : Act} (hE : evOp0 P ρ Hs o h = some E) (hob : E.ob)
    (hok : HeapOK n0 H m w) (hn0 : ∀ b, n0 b → b < w.heap.size) (hsub : Agree H Hs) (hnd : E.ids.Nodup) (hids : ∀ id ob, H.lookup id = some ob → ∀ i ∈ ob.ids, i ∉ E.ids)
    (hfr : ∀ x ∈ o.op.operands.toList, ∀ av, ρ x = some av → ∀ i ∈ av.ids, i ∉ E.ids)
    (hr : ∀ x ∈ o.op.operands.toList, ∀ av, ρ x = some av → AVRep H m w av (a.eval x)) : OpGo P n0 o a w H m E := by
  unfold evOp0 at hE
  split at hE
  -- move
  · rename_i x ho
    simp only [Option.map_eq_some_iff] at hE
    obtain ⟨v, hv, rfl⟩ := hE
    have := hr x (by simp [ho, Op.operands]) v hv
    exact quiet_go (Pure.pure (a.eval x)) (by simp [execOp, ho]) (Quiet.pure this) hok rfl rfl
  -- assign
  · rename_i x ho
    simp only [Option.map_eq_some_iff] at hE
    obtain ⟨v, hv, rfl⟩ := hE
    have := hr x (by simp [ho, Op.operands]) v hv
    exact quiet_go (Pure.pure (a.eval x)) (by simp [execOp, ho]) (Quiet.pure this) hok rfl rfl
  -- pick
  · rename_i c x y ho
    split at hE
    · rename_i hc
      simp only [Option.map_eq_some_iff] at hE
      obtain ⟨v, hv, rfl⟩ := hE
      have hcv : a.eval c = .bool true := hr c (by simp [ho, Op.operands]) _ hc
      have := hr x (by simp [ho, Op.operands]) v hv
      exact quiet_go (Pure.pure (a.eval x)) (by simp [execOp, ho, hcv, asBool]) (Quiet.pure this) hok rfl rfl
    · rename_i hc
      simp only [Option.map_eq_some_iff] at hE
      obtain ⟨v, hv, rfl⟩ := hE
      have hcv : a.eval c = .bool false := hr c (by simp [ho, Op.operands]) _ hc
      have := hr y (by simp [ho, Op.operands]) v hv
      exact quiet_go (Pure.pure (a.eval y)) (by simp [execOp, ho, hcv, asBool]) (Quiet.pure this) hok rfl rfl
    · cases hE
  -- binOp
  · rename_i op t x y yt ho
    split at hE
    · rename_i u v hu hv
      obtain ⟨h1, h2, h3⟩ := evBin_sound (P := P) hE hob (hr x (by simp [ho, Op.operands]) u hu) (hr y (by simp [ho, Op.operands]) v hv) x y
      exact quiet_go _ (by simp only [execOp, ho]; exact run_value _ w) h1 hok h2 h3
    · cases hE
  -- unOp
  · rename_i op t x ho
    split at hE
    · rename_i u hu
      obtain ⟨h1, h2, h3⟩ := evUn_sound (P := P) hE (hr x (by simp [ho, Op.operands]) u hu)
      exact quiet_go _ (by simp only [execOp, ho]; exact run_value _ w) h1 hok h2 h3
    · cases hE
  -- convert
  · rename_i src dst x ho
    split at hE
    · rename_i u hu
      obtain ⟨h1, h2, h3⟩ := evConv_sound (P := P) hE hob (hr x (by simp [ho, Op.operands]) u hu)
      exact quiet_go _ (by simp only [execOp, ho]; exact run_value _ w) h1 hok h2 h3
    · cases hE
  -- nilCheck
  · rename_i x ho
    have go : ∀ (t : AV), ρ x = some t → E = { av := t } → (∀ v, AVRep H m w t v → (∃ p, v = .pointer (some p)) ∨ (∃ f cs, v = .func (.func f) #[] cs)) → OpGo P n0 o a w H m E := by
      intro t ht he hv
      subst he
      have hx := hr x (by simp [ho, Op.operands]) t ht
      refine quiet_go (Pure.pure (a.eval x)) ?_ (Quiet.pure hx) hok rfl rfl
      rcases hv _ hx with ⟨p, hp⟩ | ⟨f, cs, hp⟩ <;> simp [execOp, ho, hp]
    split at hE
    · rename_i id off hx; cases hE; exact go _ hx rfl (by rintro v ⟨_, b, _, rfl⟩; exact .inl ⟨_, rfl⟩)
    · rename_i id i off hx; cases hE; exact go _ hx rfl (by rintro v ⟨_, _, _, _, _, _, _, _, _, rfl⟩; exact .inl ⟨_, rfl⟩)
    · rename_i mm get hx; cases hE; exact go _ hx rfl (by rintro v ⟨b, off, rfl, _⟩; exact .inl ⟨_, rfl⟩)
    · rename_i f mm get hx; cases hE; exact go _ hx rfl (by rintro v ⟨cs, rfl, _⟩; exact .inr ⟨_, _, rfl⟩)
    · rename_i f ids hx; cases hE; exact go _ hx rfl (by rintro v ⟨_, rfl⟩; exact .inr ⟨_, _, rfl⟩)
    · cases hE
  -- load
  · rename_i t x ho
    split at hE
    · rename_i u hu
      obtain ⟨h1, h2, h3⟩ := evLoad_sound (P := P) hE hok hsub (hr x (by simp [ho, Op.operands]) u hu)
      exact quiet_go _ (by simp only [execOp, ho]; exact run_value _ w) h1 hok h2 h3
    · cases hE
  -- fieldAddr
  · rename_i t x k ho
    split at hE
    · rename_i u hu
      obtain ⟨h1, h2, h3⟩ := evFieldAddr_sound (P := P) hE (hr x (by simp [ho, Op.operands]) u hu)
      exact quiet_go _ (by simp only [execOp, ho]; exact run_value _ w) h1 hok h2 h3
    · cases hE
  -- field
  · rename_i t x k ho
    split at hE
    · rename_i u hu
      obtain ⟨h1, h2, h3⟩ := evField_sound (P := P) hE (hr x (by simp [ho, Op.operands]) u hu)
      exact quiet_go _ (by simp only [execOp, ho]; exact run_value _ w) h1 hok h2 h3
    · cases hE
  -- indexAddr
  · rename_i t x i ho
    split at hE
    · rename_i u v hu hv
      obtain ⟨h1, h2, h3⟩ := evIndexAddr_sound (P := P) hE hob hok hsub (hr x (by simp [ho, Op.operands]) u hu) (hr i (by simp [ho, Op.operands]) v hv)
      exact quiet_go _ (by simp only [execOp, ho]; exact run_value _ w) h1 hok h2 h3
    · cases hE
  -- index
  · rename_i t x i ho
    split at hE
    · rename_i u v hu hv
      obtain ⟨h1, h2, h3⟩ := evIndex_sound (P := P) hE hob (hr x (by simp [ho, Op.operands]) u hu) (hr i (by simp [ho, Op.operands]) v hv)
      exact quiet_go _ (by simp only [execOp, ho]; exact run_value _ w) h1 hok h2 h3
    · cases hE
  -- extract
  · rename_i x k ho
    split at hE
    · rename_i ts hx
      simp only [Option.map_eq_some_iff] at hE
      obtain ⟨t, ht, rfl⟩ := hE
      obtain ⟨vs, hvs, _, hts⟩ := hr x (by simp [ho, Op.operands]) _ hx
      obtain ⟨u, hu, hxr⟩ := hts k t ht
      exact quiet_go (Pure.pure u) (by simp [execOp, ho, hvs, Instr.extract, hu]) (Quiet.pure hxr) hok rfl rfl
    · cases hE
  -- alloc
  · rename_i t ho
    split at hE
    · rename_i id xs hz
      cases hE
      obtain ⟨i, z, hi, hzv, hzr, hzi⟩ := zeroXs_rep (H := H) (m := m) (w := w) hz
      refine alloc_go (t := t) (cs := z.cells) rfl ?_ hok hn0 (fun i' ob hl => by have := hids i' ob hl; intro hm; exact this id hm (by simp [Eff.ids])) (fun x hx => by rw [hzi x hx]; simp) hzr
      simp only [execOp, ho, Instr.alloc, Sem.run_bind, run_zero hi hzv, Result.andThen_ok, newVar, newRow, run_newObj, Sem.run_pure]
      rfl
    · cases hE
  -- box
  · rename_i t x ho
    split at hE
    · rename_i id tv hx
      cases hE
      have hxr := hr x (by simp [ho, Op.operands]) _ hx
      refine alloc_go (t := t) (cs := (a.eval x).cells) rfl ?_ hok hn0 (fun i' ob hl => by have := hids i' ob hl; intro hm; exact this id hm (by simp [Eff.ids])) (fun y hy => ?_) (TVRep.cells hok hxr)
      · simp only [execOp, ho, Instr.box, Sem.run_bind, Result.andThen_ok, newVar, newRow, run_newObj, Sem.run_pure]
        rfl
      · intro hm
        refine hfr x (by simp [ho, Op.operands]) _ hx id ?_ (by simp [Eff.ids])
        cases tv with
        | one y' => simp [TV.cells] at hy; subst hy; exact hm
        | agg ys => exact List.mem_flatMap.2 ⟨y, hy, hm⟩
    · cases hE
  -- build
  · rename_i t parts ho
    obtain ⟨h1, h2, h3⟩ := evBuild_sound (P := P) (ev := a.eval) hE hok (fun p hp av hav => hr p.2 (by simp only [ho, Op.operands, List.mem_map]; exact ⟨p, hp, rfl⟩) av hav)
    exact quiet_go _ (by simp only [execOp, ho]; exact run_value _ w) h1 hok h2 h3
  -- makeFunc
  · rename_i f first captured ho
    split at hE
    · rename_i hfs
      have hfirst : first = #[] := Array.eq_empty_of_size_eq_zero hfs
      split at hE
      · rename_i as has
        simp only [Option.map_eq_some_iff] at hE
        obtain ⟨ids, hm, rfl⟩ := hE
        have hrep := rhos_rep (ev := a.eval) has (fun x hx av hav => hr x (by simp [ho, Op.operands]; exact .inr (by simpa using hx)) av hav)
        obtain ⟨h1, h2⟩ := mapM_ptrs hm (captured.toList.map a.eval) (by simpa using hrep.1) (fun j x hj => by simpa using hrep.2 j x hj)
        refine quiet_go (Pure.pure (.func (.func f) #[] (ids.map m.val).toArray)) ?_ (Quiet.pure ⟨h1, rfl⟩) hok rfl rfl
        rw [← h2]
        have hc : captured.map a.eval = (captured.toList.map a.eval).toArray := by rw [← Array.toList_map, Array.toArray_toList]
        simp [execOp, ho, hfirst, Instr.makeFunc, hc]
      · cases hE
    · cases hE
  -- call
  · rename_i c ho
    have hargs : ∀ x ∈ c.args.toList, ∀ av, ρ x = some av → AVRep H m w av (a.eval x) := fun x hx av hav => hr x (by
      simp only [ho, Op.operands, Call.operands, Array.toList_append]; exact List.mem_append_right _ hx) av hav
    split at hE
    · rename_i hcal
      split at hE
      · rename_i x t hxs hts
        split at hE
        · rename_i u hu
          obtain ⟨h1, h2, h3⟩ := evLen_sound (P := P) (ty := o.type) hE hok hsub (hargs x (by rw [hxs]; simp) u hu)
          have ha : c.args = #[x] := by rw [← Array.toArray_toList (xs := c.args), hxs]
          have ht : c.argTypes = #[t] := by rw [← Array.toArray_toList (xs := c.argTypes), hts]
          refine quiet_go _ ?_ h1 hok h2 h3
          simp only [execOp, ho, resolve, hcal, ha, ht, Sem.run_bind, Sem.run_pure, Result.andThen_ok, invoke, builtin, List.map_toArray, List.map_cons, List.map_nil]
        · cases hE
      · cases hE
    · rename_i hcal
      split at hE
      · rename_i x y hxs
        split at hE
        · rename_i k q k' q' hx hy
          cases hE
          have hu : a.eval x = .int k q := hargs x (by rw [hxs]; simp) _ hx
          have hv : a.eval y = .int k' q' := hargs y (by rw [hxs]; simp) _ hy
          have ha : c.args = #[x, y] := by rw [← Array.toArray_toList (xs := c.args), hxs]
          refine quiet_go (Builtin.min_ c.argTypes o.type #[.int k q, .int k' q']) ?_ ⟨_, w, run_min_int2 w c.argTypes o.type k k' q q', Drew.refl w, rfl⟩ hok rfl rfl
          simp only [execOp, ho, resolve, hcal, ha, Sem.run_bind, Sem.run_pure, Result.andThen_ok, invoke, builtin, List.map_toArray, List.map_cons, List.map_nil, hu, hv]
        · cases hE
      · cases hE
    · rename_i hcal
      split at hE
      · rename_i x y hxs
        split at hE
        · rename_i k q k' q' hx hy
          cases hE
          have hu : a.eval x = .int k q := hargs x (by rw [hxs]; simp) _ hx
          have hv : a.eval y = .int k' q' := hargs y (by rw [hxs]; simp) _ hy
          have ha : c.args = #[x, y] := by rw [← Array.toArray_toList (xs := c.args), hxs]
          refine quiet_go (Builtin.max_ c.argTypes o.type #[.int k q, .int k' q']) ?_ ⟨_, w, run_max_int2 w c.argTypes o.type k k' q q', Drew.refl w, rfl⟩ hok rfl rfl
          simp only [execOp, ho, resolve, hcal, ha, Sem.run_bind, Sem.run_pure, Result.andThen_ok, invoke, builtin, List.map_toArray, List.map_cons, List.map_nil, hu, hv]
        · cases hE
      · cases hE
    · rename_i f hcal
      have hf : ∀ av, ρ f = some av → AVRep H m w av (a.eval f) := fun av hav => hr f (by
        simp only [ho, Op.operands, Call.operands, hcal, Array.toList_append]; exact List.mem_append_left _ (by simp)) av hav
      split at hE
      · rename_i g mm cap as hg has
        obtain ⟨cs, hcs, hsz, hcap⟩ := hf _ hg
        have hrep := rhos_rep (ev := a.eval) has hargs
        refine evCall_go (vs := (c.args.map a.eval) ++ cs) hE hob hok hn0 hsub hnd hids ?_ ?_
        · simp only [execOp, ho, resolve, hcal, Sem.run_bind, hcs, Deferred.ofValue, Sem.run_pure, Result.andThen_ok, invoke, Array.empty_append]
        · have hm : (c.args.map a.eval) = (c.args.toList.map a.eval).toArray := by rw [← Array.toList_map, Array.toArray_toList]
          rw [hm]
          refine ⟨by rw [Array.size_append, hrep.1, hsz]; simp, fun j x hj => ?_⟩
          rw [List.getElem?_append] at hj
          split at hj
          · obtain ⟨u, hu, hx⟩ := hrep.2 j x hj
            refine ⟨u, ?_, hx⟩
            rw [Array.getElem?_append, if_pos (by rw [hrep.1]; assumption)]; exact hu
          · rename_i hlt
            rw [List.getElem?_map] at hj
            simp only [Option.map_eq_some_iff] at hj
            obtain ⟨i, hi, rfl⟩ := hj
            have hjm : j - as.length < mm := by have := (List.getElem?_eq_some_iff.1 hi).1; simpa using this
            have : i = j - as.length := by simp [hjm] at hi; exact hi.symm
            subst this
            obtain ⟨u, hu, hx⟩ := hcap _ hjm
            refine ⟨u, ?_, hx⟩
            rw [Array.getElem?_append, if_neg (by rw [hrep.1]; assumption), hrep.1]; exact hu
      · rename_i g ids as hg has
        obtain ⟨hal, hcs⟩ := hf _ hg
        have hrep := rhos_rep (ev := a.eval) has hargs
        refine evCall_go (vs := (c.args.map a.eval) ++ (ids.map m.val).toArray) hE hob hok hn0 hsub hnd hids ?_ ?_
        · simp only [execOp, ho, resolve, hcal, Sem.run_bind, hcs, Deferred.ofValue, Sem.run_pure, Result.andThen_ok, invoke, Array.empty_append]
        · have hm : (c.args.map a.eval) = (c.args.toList.map a.eval).toArray := by rw [← Array.toList_map, Array.toArray_toList]
          rw [hm]
          refine ⟨by rw [Array.size_append, hrep.1]; simp, fun j x hj => ?_⟩
          rw [List.getElem?_append] at hj
          split at hj
          · obtain ⟨u, hu, hx⟩ := hrep.2 j x hj
            refine ⟨u, ?_, hx⟩
            rw [Array.getElem?_append, if_pos (by rw [hrep.1]; assumption)]; exact hu
          · rename_i hlt
            rw [List.getElem?_map] at hj
            simp only [Option.map_eq_some_iff] at hj
            obtain ⟨i, hi, rfl⟩ := hj
            obtain ⟨ha, b, hb⟩ := hal i (List.mem_of_getElem? hi)
            refine ⟨m.val i, ?_, ha, b, hb, hb⟩
            rw [Array.getElem?_append, if_neg (by rw [hrep.1]; assumption), hrep.1]
            simp [hi]
      · cases hE
    · cases hE
  · cases hE

end Go.Fw
