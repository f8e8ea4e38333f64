/- The beginning of an array of one's own, kept in the array's place. -/
import Derived.Test.YtdclghdojlilfaaDoorFwUB
namespace Go.Fw
open Go Go.RowKit

variable {cx : Cx}

/-- A temporary that holds a part of the array; nothing else knows the array. -/
def cutP (nf id t : Nat) (s : St) : Option (Nat × Nat × Nat × Nat × (Nat → Nat → C)) :=
  match s.env.lookup t, s.heap.lookup id with
  | some (.prt i lo len), some (.arr false n sz get) =>
    if i = id ∧ Nat.ble nf id = true ∧ (s.env.all fun p => p.1 == t || !p.2.ids.contains id) = true ∧ (s.heap.all fun p => p.1 == id || !p.2.ids.contains id) = true then some (lo, len, n, sz, get) else none
  | _, _ => none
def setK {β : Type} (id : Nat) (ob : β) (H : List (Nat × β)) : List (Nat × β) := H.map fun p => (p.1, if p.1 = id then ob else p.2)
theorem setK_lookup {β : Type} (id : Nat) (ob : β) : ∀ (H : List (Nat × β)) (i : Nat), (setK id ob H).lookup i = (H.lookup i).map fun o => if i = id then ob else o
  | [], _ => rfl
  | (k, o) :: H, i => by
    simp only [setK, List.map_cons, List.lookup_cons]
    split
    · rename_i e
      have : i = k := by simpa using e
      subst this
      rfl
    · exact setK_lookup id ob H i
def cutSt (id t n' sz : Nat) (get' : Nat → Nat → C) (s : St) : St := ⟨setK t (.v (.one (.arr id))) s.env, setK id (.arr false n' sz get') s.heap⟩

theorem subCut {s s' : St} (id t n' : Nat) (get' : Nat → Nat → C) {lo len n sz : Nat} {get : Nat → Nat → C} (h : cutP cx.N.nf id t s = some (lo, len, n, sz, get)) (hs : cutSt id t n' sz get' s = s')
    (hob : lo = 0 ∧ n' = len ∧ ∀ i j, i < n' → j < sz → get' i j = get i j) : Sub cx s s' := by
  subst hs
  unfold cutP at h
  split at h
  case h_2 => cases h
  rename_i i lo' len' n0 sz0 get0 he hl
  split at h
  case isFalse => cases h
  rename_i hc
  cases h
  obtain ⟨rfl, hnf, henvc, hheapc⟩ := hc
  obtain ⟨rfl, rfl, hget⟩ := hob
  intro a w hR
  obtain ⟨m, ⟨hok, hfix⟩, henv⟩ := hR.mem
  obtain ⟨v, hv, d, n1, sz1, g1, b, cap, hl1, hle, hmv, rfl⟩ := henv t _ he
  rw [hl] at hl1
  cases hl1
  simp only [List.all_eq_true, Bool.or_eq_true, beq_iff_eq, Bool.not_eq_true', List.contains_eq_mem, decide_eq_false_iff_not] at henvc hheapc
  let m' : Mem := ⟨fun k => if k = i then .slice (some ⟨b, 0, none⟩) n' cap else m.val k, m.foot, m.sub⟩
  have hmv' : ∀ k, k ≠ i → m'.val k = m.val k := fun k hk => by simp [m', hk]
  have hlk : ∀ k, (setK i (.arr false n' sz get') s.heap).lookup k = (s.heap.lookup k).map fun o => if k = i then (.arr false n' sz get') else o := setK_lookup i _ s.heap
  have hsome : ∀ k, ((setK i (.arr false n' sz get') s.heap).lookup k).isSome = (s.heap.lookup k).isSome := fun k => by rw [hlk]; simp
  have hkeep : ∀ k o, k ≠ i → s.heap.lookup k = some o → (setK i (.arr false n' sz get') s.heap).lookup k = some o := fun k o hk ho => by rw [hlk, ho]; simp [hk]
  have hblk : ∀ k, Value.blk (m'.val k) = Value.blk (m.val k) := by
    intro k
    by_cases hk : k = i
    · subst hk; simp only [m', hmv]; rfl
    · rw [hmv' k hk]
  have hav : ∀ x o, avOf (setK i (.arr false n' sz get') s.heap) m' x o → avOf s.heap m x o := by
    rintro x o ⟨k, ob, ho, hr, hm⟩
    by_cases hk : k = i
    · subst hk
      refine ⟨k, _, hl, ?_, trivial⟩
      rw [hlk, hl] at ho
      simp at ho
      subst ho
      have : Value.blk (m'.val k) = some x := hr
      rw [hblk] at this
      exact this
    · rw [hlk] at ho
      simp only [Option.map_eq_some_iff, if_neg hk] at ho
      obtain ⟨o1, h1, rfl⟩ := ho
      refine ⟨k, o1, h1, ?_, hm⟩
      rw [← reach_same (m' := m') (hmv' k hk) rfl]; exact hr
  have cr : ∀ {c : C} {u : Value}, CRep w (avOf s.heap m) c u → CRep w (avOf (setK i (.arr false n' sz get') s.heap) m') c u := fun h => CRep.avoid (fun x o _ h' => hav x o h') h
  have hX : ∀ {x : X} {u : Value}, i ∉ x.ids → XRep s.heap m w x u → XRep (setK i (.arr false n' sz get') s.heap) m' w x u := by
    intro x u hn hr
    cases x with
    | c c => exact cr hr
    | nils => exact hr
    | ptr k off =>
      have hk : k ≠ i := fun e => hn (by simp [X.ids, e])
      obtain ⟨h1, b2, h2, rfl⟩ := hr
      exact ⟨by rw [hsome]; exact h1, b2, by rw [hmv' k hk]; exact h2, rfl⟩
    | arr k =>
      have hk : k ≠ i := fun e => hn (by simp [X.ids, e])
      obtain ⟨h1, h2, rfl⟩ := hr
      refine ⟨by rw [hsome]; exact h1, ?_, (hmv' k hk).symm⟩
      obtain ⟨o, ho⟩ := Option.isSome_iff_exists.1 h1
      rw [hkeep k o hk ho]
      rw [ho] at h2; exact h2
    | elt k p off =>
      have hk : k ≠ i := fun e => hn (by simp [X.ids, e])
      obtain ⟨d, q, z, g, b2, c2, h1, h2, h3, rfl⟩ := hr
      exact ⟨d, q, z, g, b2, c2, hkeep k _ hk h1, h2, by rw [hmv' k hk]; exact h3, rfl⟩
    | lst k q z g =>
      have hk : k ≠ i := fun e => hn (by simp [X.ids, e])
      obtain ⟨h1, h2⟩ := hr
      exact ⟨cr h1, fun h => by rw [hmv' k hk]; exact h2 (by rw [← hsome]; exact h)⟩
    | sub k p j =>
      have hk : k ≠ i := fun e => hn (by simp [X.ids, e])
      obtain ⟨q, z, g, h1, h2, h3, h4, rfl⟩ := hr
      exact ⟨q, z, g, hkeep k _ hk h1, h2, h3, h4, rfl⟩
    | fx k j c => exact ⟨hr.1, cr hr.2⟩
    | clo f is =>
      obtain ⟨h1, rfl⟩ := hr
      have hne : ∀ k ∈ is, k ≠ i := fun k hk e => hn (by rw [← e]; simpa [X.ids] using hk)
      refine ⟨fun k hk => ⟨by rw [hsome]; exact (h1 k hk).1, ?_⟩, ?_⟩
      · obtain ⟨_, b2, h2⟩ := h1 k hk
        exact ⟨b2, by rw [hmv' k (hne k hk)]; exact h2⟩
      · congr 2
        exact List.map_congr_left fun k hk => (hmv' k (hne k hk)).symm
  have hXs : ∀ {xs : List X}, i ∉ xs.flatMap X.ids → ∀ (j : Nat) (x : X), xs[j]? = some x → ∀ u, XRep s.heap m w x u → XRep (setK i (.arr false n' sz get') s.heap) m' w x u := fun hn j x hj u hr =>
    hX (fun hi => hn (List.mem_flatMap.2 ⟨x, List.mem_of_getElem? hj, hi⟩)) hr
  have hT : ∀ {tv : TV} {u : Value}, i ∉ tv.ids → TVRep s.heap m w tv u → TVRep (setK i (.arr false n' sz get') s.heap) m' w tv u := by
    intro tv u hn hr
    cases tv with
    | one x => exact hX hn hr
    | agg xs =>
      obtain ⟨vs, rfl, h1, h2⟩ := hr
      exact ⟨vs, rfl, h1, fun j x hj => by obtain ⟨u, hu, hr⟩ := h2 j x hj; exact ⟨u, hu, hXs hn j x hj u hr⟩⟩
  have hA : ∀ {av : AV} {u : Value}, i ∉ av.ids → AVRep s.heap m w av u → AVRep (setK i (.arr false n' sz get') s.heap) m' w av u := by
    intro av u hn hr
    cases av with
    | v tv => exact hT hn hr
    | undef => exact hr
    | tup ts =>
      obtain ⟨vs, rfl, h1, h2⟩ := hr
      exact ⟨vs, rfl, h1, fun j x hj => by
        obtain ⟨u, hu, hr⟩ := h2 j x hj
        exact ⟨u, hu, hT (fun hi => hn (List.mem_flatMap.2 ⟨x, List.mem_of_getElem? hj, hi⟩)) hr⟩⟩
    | prt k lo2 len2 =>
      have hk : k ≠ i := fun e => hn (by simp [AV.ids, e])
      obtain ⟨d, q, z, g, b2, c2, h1, h2, h3, rfl⟩ := hr
      exact ⟨d, q, z, g, b2, c2, hkeep k _ hk h1, h2, by rw [hmv' k hk]; exact h3, rfl⟩
  refine ⟨hR.defers, hR.size, hR.below, hR.lowK, m', ⟨⟨fun k ob ho => ?_, fun k x ha hf => hok.lo k x (by rw [← hsome]; exact ha) hf, fun k k' x ha ha' hf hf' => hok.apart k k' x (by rw [← hsome]; exact ha) (by rw [← hsome]; exact ha') hf hf'⟩, fun k hk => ?_⟩, fun q u hq => ?_⟩
  · by_cases hk : k = i
    · subst hk
      have ho' : (setK k (.arr false n' sz get') s.heap).lookup k = some ob := ho
      rw [hlk, hl] at ho'
      simp at ho'
      subst ho'
      have hown : OwnC w (.seq n sz get) (m.foot k) (m.val k) := (hok.ob k _ hl).1
      refine ⟨?_, fun e => by cases e⟩
      show OwnC w (.seq n' sz get') (m.foot k) (m'.val k)
      simp only [m']
      rcases hown with ⟨hv0, _⟩ | ⟨b2, cap2, cur, E, fr, hv0, hn2, hfr, hb2, hcs, hF, G, hG, hGd⟩
      · rw [hmv] at hv0; cases hv0
      · rw [hmv] at hv0
        cases hv0
        refine .inr ⟨b, cap, cur, E, fr, rfl, by omega, hfr, hb2, hcs, hF, G, fun p j hp hj => ?_, fun p j p' j' x hp hj hp' hj' => hGd p j p' j' x (by omega) hj (by omega) hj'⟩
        rw [hget p j hp hj]
        exact hG p j (by omega) hj
    · have ho' : (setK i (.arr false n' sz get') s.heap).lookup k = some ob := ho
      rw [hlk] at ho'
      simp only [Option.map_eq_some_iff, if_neg hk] at ho'
      obtain ⟨o1, h1, rfl⟩ := ho'
      have hn : i ∉ o1.ids := by
        rcases hheapc (k, o1) (lookup_mem h1) with e | e
        · exact absurd e hk
        · exact e
      have := hok.ob k o1 h1
      cases o1 with
      | ext p =>
        show ExtRep w p (m.foot k) (m'.val k)
        rw [hmv' k hk]; exact this
      | box xs =>
        obtain ⟨b2, cur, E, q1, q2, q3, q4, q5⟩ := this
        exact ⟨b2, cur, E, by rw [hmv' k hk]; exact q1, q2, q3, q4, fun j x hj => by obtain ⟨u, hu, hr⟩ := q5 j x hj; exact ⟨u, hu, hXs hn j x hj u hr⟩⟩
      | arr d q z g =>
        show OwnC w _ (m.foot k) (m'.val k) ∧ _
        rw [hmv' k hk]; exact this
      | lst q z g =>
        show OwnC w _ (m.foot k) (m'.val k)
        rw [hmv' k hk]; exact this
  · have hne : k ≠ i := fun e => by subst e; have := Nat.le_of_ble_eq_true hnf; omega
    have := hfix k hk
    exact ⟨by rw [hmv' k hne]; exact this.1, this.2⟩
  · have hq' : (setK t (AV.v (.one (.arr i))) s.env).lookup q = some u := hq
    rw [setK_lookup] at hq'
    simp only [Option.map_eq_some_iff] at hq'
    obtain ⟨u0, hl2, hu⟩ := hq'
    by_cases hqt : q = t
    · subst hqt
      rw [if_pos rfl] at hu
      subst hu
      refine ⟨_, hv, ?_⟩
      show XRep (setK i (.arr false n' sz get') s.heap) m' w (.arr i) _
      refine ⟨by rw [hsome, hl]; rfl, by rw [hlk, hl]; simp, ?_⟩
      simp [m']
    · rw [if_neg hqt] at hu
      subst hu
      obtain ⟨x, hx, hr⟩ := henv q u0 hl2
      refine ⟨x, hx, hA ?_ hr⟩
      rcases henvc (q, u0) (mem_lookup hl2) with e | e
      · exact absurd e hqt
      · exact e

theorem cut_ob {α : Type} [Inhabited α] {cs : α → List C} {xs : List α} {r : Int} (h1 : 0 ≤ r) (h2 : r ≤ (xs.length : Int)) {sz : Nat} :
    (0 : Int).toNat = 0 ∧ (xs.take r.toNat).length = r.toNat - (0 : Int).toNat ∧ ∀ i j, i < (xs.take r.toNat).length → j < sz → gl cs (xs.take r.toNat) i j = gl cs xs i j := by
  obtain ⟨e, h⟩ := gl_cut (cs := cs) h1 h2 (sz := sz)
  exact ⟨rfl, by simp only [Int.toNat_zero, Nat.sub_zero]; omega, h⟩

end Go.Fw
