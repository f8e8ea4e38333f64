/- One operation, part 10: a call by its contract. -/
import Derived.Test.YtldifaphfgmbiaaFwN4
namespace Go.Fw
open Go Go.RowKit

variable {P : Program} {n0 : Nat → Prop} {H : List (Nat × Ob)} {m : Mem} {w : World}

/-- The cells of a struct's result. -/
theorem mkXs_cells {w' : World} {lo : Nat} : ∀ (cs : List C) (ds : List Dst) (F : Nat → Nat → Prop) (vs : List Value), vs.length = cs.length →
    (∀ (j : Nat) (c : C), cs[j]? = some c → ∃ u, vs[j]? = some u ∧ OwnC w' c (F j) u) → (∀ j b, F j b → lo ≤ b ∧ b < w'.heap.size) → (∀ j j' b, F j b → F j' b → j = j') →
    ∃ L : List RCell, L.flatMap RCell.objs = (mkXs cs ds).2 ∧ (∀ r ∈ L, OwnC w' r.c r.F r.v ∧ ∃ j, r.F = F j) ∧ (L.Pairwise fun r r' => ∀ b, r.F b → ¬ r'.F b) ∧
      ∀ H' m', (∀ r ∈ L, XRep H' m' w' (mkX r.c r.d).1 r.v) → ((mkXs cs ds).1).length = cs.length ∧ ∀ (j : Nat) (x : X), (mkXs cs ds).1[j]? = some x → ∃ u, vs[j]? = some u ∧ XRep H' m' w' x u := by
  intro cs
  induction cs with
  | nil => intro ds F vs _ _ _ _; exact ⟨[], rfl, by simp, List.Pairwise.nil, fun H' m' _ => ⟨rfl, fun j x h => by simp [mkXs] at h⟩⟩
  | cons c cs ih =>
    intro ds F vs hl hv hlo hap
    cases vs with
    | nil => simp at hl
    | cons v vs =>
      obtain ⟨L, h1, h2, h3, h4⟩ := ih ds.tail (fun j => F (j + 1)) vs (by simpa using hl) (fun j c hj => by simpa using hv (j + 1) c (by simpa using hj)) (fun j b h => hlo _ b h) (fun j j' b h h' => by have := hap _ _ b h h'; omega)
      obtain ⟨u, hu, ho⟩ := hv 0 c rfl
      simp at hu
      subst hu
      refine ⟨⟨c, hd1 ds, v, F 0⟩ :: L, ?_, ?_, ?_, fun H' m' hX => ?_⟩
      · simp only [List.flatMap_cons, h1, mkXs, RCell.objs]
      · intro r hr
        cases hr with
        | head => exact ⟨ho, 0, rfl⟩
        | tail _ hr => obtain ⟨h5, j, h6⟩ := h2 r hr; exact ⟨h5, j + 1, h6⟩
      · refine List.Pairwise.cons (fun r hr b hb hb' => ?_) h3
        obtain ⟨_, j, h6⟩ := h2 r hr
        rw [h6] at hb'
        have := hap 0 (j + 1) b hb hb'
        omega
      · obtain ⟨h5, h6⟩ := h4 H' m' (fun r hr => hX r (List.mem_cons_of_mem _ hr))
        refine ⟨by simp [mkXs, h5], fun j x hj => ?_⟩
        cases j with
        | zero =>
          simp [mkXs] at hj
          subst hj
          exact ⟨v, by simp, hX _ List.mem_cons_self⟩
        | succ j =>
          obtain ⟨u, hu, hr⟩ := h6 j x (by simpa [mkXs] using hj)
          exact ⟨u, by simpa using hu, hr⟩

theorem mkTV_cells {w' : World} {lo : Nat} (t : CT) (ds : List Dst) (F : Nat → Nat → Prop) (v : Value) (hr : RTRep w' F t v) (hlo : ∀ j b, F j b → lo ≤ b ∧ b < w'.heap.size) (hap : ∀ j j' b, F j b → F j' b → j = j') :
    ∃ L : List RCell, L.flatMap RCell.objs = (mkTV t ds).2 ∧ (∀ r ∈ L, OwnC w' r.c r.F r.v ∧ ∃ j, r.F = F j) ∧ (L.Pairwise fun r r' => ∀ b, r.F b → ¬ r'.F b) ∧
      ∀ H' m', (∀ r ∈ L, XRep H' m' w' (mkX r.c r.d).1 r.v) → TVRep H' m' w' (mkTV t ds).1 v := by
  cases t with
  | one c =>
    refine ⟨[⟨c, hd1 ds, v, F 0⟩], by simp [mkTV, RCell.objs], ?_, List.pairwise_singleton _ _, fun H' m' hX => hX ⟨c, hd1 ds, v, F 0⟩ (by simp)⟩
    intro r hr'
    simp at hr'
    subst hr'
    exact ⟨hr, 0, rfl⟩
  | agg cs =>
    obtain ⟨vs, rfl, h1, h2⟩ := hr
    obtain ⟨L, h3, h4, h5, h6⟩ := mkXs_cells (w' := w') (lo := lo) cs ds F vs.toList (by simpa using h1) (fun j c hj => by simpa using h2 j c hj) hlo hap
    refine ⟨L, h3, h4, h5, fun H' m' hX => ?_⟩
    obtain ⟨h7, h8⟩ := h6 H' m' hX
    exact ⟨vs, rfl, by show _ = (mkXs cs ds).1.length; omega, fun j x hj => by simpa using h8 j x hj⟩

theorem mkTVs_cells {w' : World} {lo : Nat} : ∀ (ts : List CT) (ds : List (List Dst)) (F : Nat → Nat → Nat → Prop) (vs : List Value), vs.length = ts.length →
    (∀ (i : Nat) (t : CT), ts[i]? = some t → ∃ u, vs[i]? = some u ∧ RTRep w' (F i) t u) → (∀ i j b, F i j b → lo ≤ b ∧ b < w'.heap.size) → (∀ i j i' j' b, F i j b → F i' j' b → i = i' ∧ j = j') →
    ∃ L : List RCell, L.flatMap RCell.objs = (mkTVs ts ds).2 ∧ (∀ r ∈ L, OwnC w' r.c r.F r.v ∧ ∃ i j, r.F = F i j) ∧ (L.Pairwise fun r r' => ∀ b, r.F b → ¬ r'.F b) ∧
      ∀ H' m', (∀ r ∈ L, XRep H' m' w' (mkX r.c r.d).1 r.v) → ((mkTVs ts ds).1).length = ts.length ∧ ∀ (j : Nat) (x : TV), (mkTVs ts ds).1[j]? = some x → ∃ u, vs[j]? = some u ∧ TVRep H' m' w' x u := by
  intro ts
  induction ts with
  | nil => intro ds F vs _ _ _ _; exact ⟨[], rfl, by simp, List.Pairwise.nil, fun H' m' _ => ⟨rfl, fun j x h => by simp [mkTVs] at h⟩⟩
  | cons t ts ih =>
    intro ds F vs hl hv hlo hap
    cases vs with
    | nil => simp at hl
    | cons v vs =>
      obtain ⟨L, h1, h2, h3, h4⟩ := ih ds.tail (fun j => F (j + 1)) vs (by simpa using hl) (fun j c hj => by simpa using hv (j + 1) c (by simpa using hj)) (fun i j b h => hlo _ _ b h) (fun i j i' j' b h h' => by have := hap _ _ _ _ b h h'; omega)
      obtain ⟨u, hu, ho⟩ := hv 0 t rfl
      simp at hu
      subst hu
      obtain ⟨L0, g1, g2, g3, g4⟩ := mkTV_cells (w' := w') (lo := lo) t (hd2 ds) (F 0) v ho (fun j b h => hlo 0 j b h) (fun j j' b h h' => (hap 0 j 0 j' b h h').2)
      refine ⟨L0 ++ L, ?_, ?_, ?_, fun H' m' hX => ?_⟩
      · simp only [List.flatMap_append, h1, g1, mkTVs]
      · intro r hr
        rcases List.mem_append.1 hr with hr | hr
        · obtain ⟨h5, j, h6⟩ := g2 r hr; exact ⟨h5, 0, j, h6⟩
        · obtain ⟨h5, i, j, h6⟩ := h2 r hr; exact ⟨h5, i + 1, j, h6⟩
      · refine List.pairwise_append.2 ⟨g3, h3, fun r hr r' hr' b hb hb' => ?_⟩
        obtain ⟨_, j, h6⟩ := g2 r hr
        obtain ⟨_, i', j', h6'⟩ := h2 r' hr'
        rw [h6] at hb; rw [h6'] at hb'
        have := hap _ _ _ _ b hb hb'
        omega
      · obtain ⟨h5, h6⟩ := h4 H' m' (fun r hr => hX r (List.mem_append_right _ hr))
        have h7 := g4 H' m' (fun r hr => hX r (List.mem_append_left _ hr))
        refine ⟨by simp [mkTVs, h5], fun j x hj => ?_⟩
        cases j with
        | zero =>
          simp [mkTVs] at hj
          subst hj
          exact ⟨v, by simp, h7⟩
        | succ j =>
          obtain ⟨u, hu, hr⟩ := h6 j x (by simpa [mkTVs] using hj)
          exact ⟨u, by simpa using hu, hr⟩

theorem res_cells {w' : World} {lo : Nat} {res : List CT} {ds : List (List Dst)} {v : Value} (hr : Res lo w' res v) :
    ∃ L : List RCell, L.flatMap RCell.objs = (mkAV res ds).2 ∧ (∀ r ∈ L, OwnC w' r.c r.F r.v) ∧ (∀ r ∈ L, ∀ b, r.F b → lo ≤ b ∧ b < w'.heap.size) ∧ (L.Pairwise fun r r' => ∀ b, r.F b → ¬ r'.F b) ∧
      ∀ H' m', (∀ r ∈ L, XRep H' m' w' (mkX r.c r.d).1 r.v) → AVRep H' m' w' (mkAV res ds).1 v := by
  obtain ⟨F, hlo, hap, hr⟩ := hr
  have many : (∃ vs : Array Value, v = .tuple vs ∧ vs.size = res.length ∧ ∀ (i : Nat) (t : CT), res[i]? = some t → ∃ u, vs[i]? = some u ∧ RTRep w' (F i) t u) → mkAV res ds = (.tup (mkTVs res ds).1, (mkTVs res ds).2) →
      ∃ L : List RCell, L.flatMap RCell.objs = (mkAV res ds).2 ∧ (∀ r ∈ L, OwnC w' r.c r.F r.v) ∧ (∀ r ∈ L, ∀ b, r.F b → lo ≤ b ∧ b < w'.heap.size) ∧ (L.Pairwise fun r r' => ∀ b, r.F b → ¬ r'.F b) ∧
      ∀ H' m', (∀ r ∈ L, XRep H' m' w' (mkX r.c r.d).1 r.v) → AVRep H' m' w' (mkAV res ds).1 v := by
    rintro ⟨vs, rfl, h1, h2⟩ he
    obtain ⟨L, h3, h4, h5, h6⟩ := mkTVs_cells (w' := w') (lo := lo) res ds F vs.toList (by simpa using h1) (fun j c hj => by simpa using h2 j c hj) hlo hap
    rw [he]
    refine ⟨L, h3, fun r hr => (h4 r hr).1, fun r hr b hb => ?_, h5, fun H' m' hX => ?_⟩
    · obtain ⟨_, i, j, h⟩ := h4 r hr; rw [h] at hb; exact hlo i j b hb
    · obtain ⟨h7, h8⟩ := h6 H' m' hX
      exact ⟨vs, rfl, by omega, fun j x hj => by simpa using h8 j x hj⟩
  cases res with
  | nil => exact many hr rfl
  | cons t ts =>
    cases ts with
    | cons t' ts => exact many hr rfl
    | nil =>
      obtain ⟨L, h1, h2, h3, h4⟩ := mkTV_cells (w' := w') (lo := lo) t (hd2 ds) (F 0) v hr (fun j b h => hlo 0 j b h) (fun j j' b h h' => (hap 0 j 0 j' b h h').2)
      refine ⟨L, h1, fun r hr => (h2 r hr).1, fun r hr b hb => ?_, h3, fun H' m' hX => h4 H' m' hX⟩
      obtain ⟨_, j, h⟩ := h2 r hr; rw [h] at hb; exact hlo 0 j b hb

/-- A CALL BY ITS CONTRACT. -/
theorem evCall_go {Hs : Nat → Option Ob} {f : FuncId} {as : List AV} {h : Hint} {E : Eff} {o : Oper} {a : Act} {vs : Array Value} (hE : evCall P f Hs as h = some E) (hob : E.ob)
    (hok : HeapOK n0 H m w) (hn0 : ∀ b, n0 b → b < w.heap.size) (hsub : Agree H Hs) (hnd : E.ids.Nodup) (hids : ∀ id ob, H.lookup id = some ob → ∀ i ∈ ob.ids, i ∉ E.ids)
    (hrun : (execOp a.eval o).run P w = (callFunc f vs).run P w) (hr : AVsRep H m w as vs) : OpGo P n0 o a w H m E := by
  unfold evCall at hE
  split at hE
  · rename_i args res ds
    cases hE
    obtain ⟨hc, hcall⟩ := hob
    have hinv := hcall w vs (args_rep hok hsub hc hr)
    have fin : ∀ v w', Below w.heap.size w w' ∧ Res w.heap.size w' res v → ∃ m', HeapOK n0 ((mkAV res ds).2 ++ H) m' w' ∧ Step n0 ((mkAV res ds).2.map (·.1)) [] H m w ((mkAV res ds).2 ++ H) m' w' ∧ AVRep ((mkAV res ds).2 ++ H) m' w' (mkAV res ds).1 v := by
      rintro v w' ⟨hb, hres⟩
      obtain ⟨L, h1, h2, h3, h4, h5⟩ := res_cells (ds := ds) hres
      rw [← h1]
      obtain ⟨m', g1, g2, g3⟩ := results_objs hb hok hn0 L (by rw [h1]; exact hnd) (by rw [h1]; exact hids) h2 h3 h4
      exact ⟨m', g1, g2, h5 _ _ g3⟩
    have hh : Eff.heap { av := (mkAV res ds).1, new := (mkAV res ds).2, ob := isCTs Hs as args ∧ CallOK P f args res } H = (mkAV res ds).2 ++ H := by simp [Eff.heap]
    unfold OpGo
    rw [hrun]
    unfold Invk at hinv
    simp only [hh]
    split at hinv
    · rename_i g as' w1 he
      rw [he]
      obtain ⟨rfl, hcl⟩ := hinv
      refine ⟨rfl, hcl.mono ?_⟩
      rintro e w' ⟨v, rfl, hq⟩
      exact ⟨v, rfl, fin v w' hq⟩
    · rename_i v w1 he
      rw [he]
      exact fin v w1 hinv
    · exact hinv.elim
  · cases hE

end Go.Fw
