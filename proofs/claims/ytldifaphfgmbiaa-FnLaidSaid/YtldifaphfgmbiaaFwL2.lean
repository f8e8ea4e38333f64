/- append. -/
import Derived.Test.YtldifaphfgmbiaaFwL1
import Derived.Laws.AppendOwn
import Derived.Laws.MakeOwn
namespace Go.Fw
open Go Go.RowKit

variable {P : Program} {n0 : Nat → Prop} {H : List (Nat × Ob)} {m : Mem} {w w' : World}

/-- Rows of values that own what they lead to. -/
def RowsOwn (w : World) (n sz : Nat) (get : Nat → Nat → C) (us : List Value) (G : Nat → Nat → Nat → Prop) : Prop :=
  us.length = n * sz ∧ (∀ i j, i < n → j < sz → ∃ u, us[i * sz + j]? = some u ∧ OwnC w (get i j) (G i j) u) ∧
    ∀ i j i' j' x, i < n → j < sz → i' < n → j' < sz → G i j x → G i' j' x → i = i' ∧ j = j'

theorem RowsOwn.heap {n sz : Nat} {get : Nat → Nat → C} {us : List Value} {G : Nat → Nat → Nat → Prop} (hh : ∀ i j x, i < n → j < sz → G i j x → w'.heap[x]? = w.heap[x]?) (h : RowsOwn w n sz get us G) : RowsOwn w' n sz get us G := by
  obtain ⟨h1, h2, h3⟩ := h
  refine ⟨h1, fun i j hi hj => ?_, h3⟩
  obtain ⟨u, hu, ho⟩ := h2 i j hi hj
  exact ⟨u, hu, OwnC.heap (hh i j · hi hj) ho⟩

theorem idx_lt {n sz i j : Nat} (hi : i < n) (hj : j < sz) : i * sz + j < n * sz := by
  have : (i + 1) * sz ≤ n * sz := Nat.mul_le_mul_right _ (by omega)
  rw [Nat.add_mul] at this; omega

/-- A row of cells whose first cells are these owns so. -/
theorem RowsOwn.seq {n sz b cap : Nat} {get : Nat → Nat → C} {us : List Value} {G : Nat → Nat → Nat → Prop} {cur : Array Value} {E : TypeId} {fr : Nat × Nat} {F : Nat → Prop} (h : RowsOwn w n sz get us G)
    (hb : w.heap[b]? = some (.cells cur E fr)) (hfr : okFr fr cur.size) (hn : n ≤ cap) (hs : cur.size = cap * sz) (hpre : ∀ k, k < n * sz → cur[k]? = us[k]?) (hFb : F b) (hG : ∀ i j x, i < n → j < sz → G i j x → F x ∧ x ≠ b) :
    OwnC w (.seq n sz get) F (.slice (some ⟨b, 0, none⟩) n cap) := by
  obtain ⟨h1, h2, h3⟩ := h
  refine .inr ⟨b, cap, cur, E, fr, rfl, hn, hfr, hb, hs, hFb, G, fun i j hi hj => ⟨fun x hx => hG i j x hi hj hx, ?_⟩, h3⟩
  obtain ⟨u, hu, ho⟩ := h2 i j hi hj
  exact ⟨u, by rw [hpre _ (idx_lt hi hj)]; exact hu, ho⟩

/-- Two lists of rows, one behind the other. -/
theorem RowsOwn.append {n k sz : Nat} {get get2 get' : Nat → Nat → C} {us vs : List Value} {G G2 : Nat → Nat → Nat → Prop} (h : RowsOwn w n sz get us G) (h2 : RowsOwn w k sz get2 vs G2) (hob : AppOb n k sz get get2 get')
    (hd : ∀ i j i' j' x, i < n → j < sz → i' < k → j' < sz → G i j x → ¬ G2 i' j' x) :
    RowsOwn w (n + k) sz get' (us ++ vs) fun i j x => if i < n then G i j x else G2 (i - n) j x := by
  obtain ⟨a1, a2, a3⟩ := h
  obtain ⟨b1, b2, b3⟩ := h2
  refine ⟨by rw [List.length_append, a1, b1, Nat.add_mul], fun i j hi hj => ?_, fun i j i' j' x hi hj hi' hj' hg hg' => ?_⟩
  · by_cases h : i < n
    · obtain ⟨u, hu, ho⟩ := a2 i j h hj
      refine ⟨u, by rw [List.getElem?_append, if_pos (by rw [a1]; exact idx_lt h hj)]; exact hu, ?_⟩
      rw [hob.1 i j h hj]
      simpa [h] using ho
    · have hk : i - n < k := by omega
      obtain ⟨u, hu, ho⟩ := b2 (i - n) j hk hj
      have hge : n * sz ≤ i * sz + j := by
        have : n * sz ≤ i * sz := Nat.mul_le_mul_right _ (by omega)
        omega
      refine ⟨u, ?_, ?_⟩
      · rw [List.getElem?_append, if_neg (by rw [a1]; omega), a1]
        have : i * sz + j - n * sz = (i - n) * sz + j := by
          have e : i * sz = (i - n) * sz + n * sz := by rw [← Nat.add_mul]; congr 1; omega
          omega
        rw [this]; exact hu
      · have := hob.2 (i - n) j hk hj
        rw [show n + (i - n) = i by omega] at this
        rw [this]
        simpa [h] using ho
  · dsimp only at hg hg'
    by_cases h : i < n <;> by_cases h' : i' < n
    · rw [if_pos h] at hg; rw [if_pos h'] at hg'
      exact a3 i j i' j' x h hj h' hj' hg hg'
    · rw [if_pos h] at hg; rw [if_neg h'] at hg'
      exact absurd hg' (hd i j _ j' x h hj (by omega) hj' hg)
    · rw [if_neg h] at hg; rw [if_pos h'] at hg'
      exact absurd hg (hd i' j' _ j x h' hj' (by omega) hj hg')
    · rw [if_neg h] at hg; rw [if_neg h'] at hg'
      have := b3 _ _ _ _ x (show i - n < k by omega) hj (show i' - n < k by omega) hj' hg hg'
      omega

/-- The cells that an owned row holds. -/
theorem OwnC.rows {n sz : Nat} {get : Nat → Nat → C} {F : Nat → Prop} {b cap : Nat} {v : Value} (h : OwnC w (.seq n sz get) F v) (hv : v = .slice (some ⟨b, 0, none⟩) n cap) :
    ∃ cur E fr G, n ≤ cap ∧ okFr fr cur.size ∧ w.heap[b]? = some (.cells cur E fr) ∧ cur.size = cap * sz ∧ F b ∧ RowsOwn w n sz get (cur.toList.take (n * sz)) G ∧ ∀ i j x, i < n → j < sz → G i j x → F x ∧ x ≠ b := by
  rcases h with ⟨h1, _⟩ | ⟨b', cap', cur, E, fr, h1, hn, hfr, hb, hs, hFb, G, hG, hd⟩
  · rw [hv] at h1; cases h1
  · rw [hv] at h1; cases h1
    have hle : n * sz ≤ cur.size := by rw [hs]; exact Nat.mul_le_mul_right _ hn
    refine ⟨cur, E, fr, G, hn, hfr, hb, hs, hFb, ⟨by simp; omega, fun i j hi hj => ?_, hd⟩, fun i j x hi hj => (hG i j hi hj).1 x⟩
    obtain ⟨_, u, hu, ho⟩ := hG i j hi hj
    refine ⟨u, ?_, ho⟩
    rw [List.getElem?_take, if_pos (idx_lt hi hj)]
    simpa using hu

theorem elemT_spec {t e : TypeId} {sz bytes : Nat} (h : elemT P t = some (e, sz, bytes)) : ∃ i z, P.underlying t = some (.slice e) ∧ P.info? e = some i ∧ i.zero = some z ∧ i.size = sz ∧ i.bytes = bytes ∧ z.cells.size = sz ∧ 0 < sz ∧ 0 < bytes := by
  unfold elemT at h
  split at h
  · rename_i e' hu
    split at h
    · rename_i i hi
      split at h
      · rename_i z hz
        split at h
        · rename_i hc
          cases h
          exact ⟨i, z, hu, hi, hz, rfl, rfl, hc.1, hc.2.1, hc.2.2⟩
        · cases h
      · cases h
    · cases h
  · cases h

/-- What reads as scalars can be copied. -/
theorem srcView {av : Av} {sz k : Nat} {get : Nat → Nat → C} {v : Value} (hob : ∀ i j, i < k → j < sz → scalarC (get i j)) (hr : CRep w av (.seq k sz get) v) :
    ∃ a cap us G, v = .slice a k cap ∧ RowsOwn w k sz get us G ∧ (0 < k → ∃ b off, a = some ⟨b, off, none⟩ ∧ ∀ (j : Nat) (u : Value), us[j]? = some u → w.cell? ⟨b, off + j, none⟩ = some u) ∧ (∀ u ∈ us, u.oneCell' = true) ∧
      ∀ i j x, i < k → j < sz → G i j x → False := by
  obtain ⟨a, cap, hv, hn, hc⟩ := hr
  rcases Nat.eq_zero_or_pos k with h0 | h0
  · subst h0
    exact ⟨a, cap, [], fun _ _ _ => False, hv, ⟨by simp, fun i j hi => by omega, fun i j i' j' x hi => by omega⟩, fun h => by omega, by simp, fun i j x hi => by omega⟩
  · obtain ⟨b, off, ha, hcell⟩ := hc h0
    let us : List Value := (List.range (k * sz)).map fun q => (w.cell? ⟨b, off + q, none⟩).getD undef
    have hus : ∀ i j, i < k → j < sz → ∃ u, us[i * sz + j]? = some u ∧ w.cell? ⟨b, off + (i * sz + j), none⟩ = some u ∧ OwnC w (get i j) (fun _ => False) u := by
      intro i j hi hj
      obtain ⟨_, u, hu, hcr⟩ := hcell i j hi hj
      rw [Nat.add_assoc] at hu
      have hlt := idx_lt hi hj
      refine ⟨u, by simp [us, hlt, hu], hu, ?_⟩
      have hsc := hob i j hi hj
      cases hgc : get i j <;> rw [hgc] at hcr hsc <;> first | exact hcr | exact fn_own hcr hsc | exact hsc.elim
    have hq : ∀ q, q < k * sz → ∃ u, us[q]? = some u ∧ w.cell? ⟨b, off + q, none⟩ = some u ∧ u.oneCell' = true := by
      intro q hql
      have hsz : 0 < sz := by
        rcases Nat.eq_zero_or_pos sz with h0 | h0
        · rw [h0] at hql; simp at hql
        · exact h0
      have hi : q / sz < k := (Nat.div_lt_iff_lt_mul hsz).2 hql
      have hj : q % sz < sz := Nat.mod_lt _ hsz
      obtain ⟨u, h1, h2, h3⟩ := hus _ _ hi hj
      have e : q / sz * sz + q % sz = q := by rw [Nat.mul_comm]; exact Nat.div_add_mod q sz
      rw [e] at h1 h2
      exact ⟨u, h1, h2, h3.oneCell⟩
    have hlen : us.length = k * sz := by simp [us]
    refine ⟨a, cap, us, fun _ _ _ => False, hv, ⟨hlen, fun i j hi hj => ?_, fun i j i' j' x _ _ _ _ h => h.elim⟩, fun _ => ⟨b, off, ha, fun j u hu => ?_⟩, fun u hu => ?_, fun i j x _ _ h => h.elim⟩
    · obtain ⟨u, h1, _, h3⟩ := hus i j hi hj
      exact ⟨u, h1, h3⟩
    · have hj : j < us.length := (List.getElem?_eq_some_iff.1 hu).1
      obtain ⟨u', h1, h2, _⟩ := hq j (by omega)
      rw [hu] at h1; cases h1; exact h2
    · obtain ⟨q, hql, rfl⟩ := List.mem_iff_getElem.1 hu
      obtain ⟨u', h1, _, h3⟩ := hq q (by omega)
      rw [List.getElem?_eq_getElem hql] at h1; cases h1; exact h3

/-- What is appended: values, that lie somewhere, and own. -/
theorem srcOf_spec {Hs : Nat → Option Ob} {sz k : Nat} {av : AV} {get : Nat → Nat → C} {gone : List Nat} {ob : Prop} {v : Value} (h : srcOf Hs sz av = some (k, get, gone, ob)) (hob : ob) (hok : HeapOK n0 H m w)
    (hsub : Agree H Hs) (hgone : ∀ g ∈ gone, (H.lookup g).isSome = true) (hr : AVRep H m w av v) :
    ∃ a cap us G, v = .slice a k cap ∧ RowsOwn w k sz get us G ∧ (0 < k → ∃ b off, a = some ⟨b, off, none⟩ ∧ ∀ (j : Nat) (u : Value), us[j]? = some u → w.cell? ⟨b, off + j, none⟩ = some u) ∧ (∀ u ∈ us, u.oneCell' = true) ∧
      ∀ i j x, i < k → j < sz → G i j x → ∃ g ∈ gone, m.foot g x := by
  have owned : ∀ id, gone = [id] → (H.lookup id).isSome = true → v = m.val id → OwnC w (.seq k sz get) (m.foot id) (m.val id) → ∃ a cap us G, v = .slice a k cap ∧ RowsOwn w k sz get us G ∧ (0 < k → ∃ b off, a = some ⟨b, off, none⟩ ∧ ∀ (j : Nat) (u : Value), us[j]? = some u → w.cell? ⟨b, off + j, none⟩ = some u) ∧ (∀ u ∈ us, u.oneCell' = true) ∧
      ∀ i j x, i < k → j < sz → G i j x → ∃ g ∈ gone, m.foot g x := by
    intro id hg ha hv hown
    rcases hown with ⟨h1, hz⟩ | ⟨b, cap, cur, E, fr, h1, rest⟩
    · subst hz
      exact ⟨none, 0, [], fun _ _ _ => False, by rw [hv, h1], ⟨by simp, fun i j hi => by omega, fun i j i' j' x hi => by omega⟩, fun h => by omega, by simp, fun i j x hi => by omega⟩
    · obtain ⟨cur, E, fr, G, hn, hfr, hb, hs, hFb, hrows, hG⟩ := OwnC.rows (.inr ⟨b, cap, cur, E, fr, h1, rest⟩) h1
      refine ⟨_, cap, _, G, by rw [hv, h1], hrows, fun _ => ⟨b, 0, rfl, fun j u hu => ?_⟩, fun u hu => ?_, fun i j x hi hj hx => ⟨id, by rw [hg]; simp, (hG i j x hi hj hx).1⟩⟩
      · rw [cell_of_row w b _ cur E fr hb, Nat.zero_add]
        rw [List.getElem?_take] at hu
        split at hu
        · simpa using hu
        · cases hu
      · obtain ⟨q, hq, rfl⟩ := List.mem_iff_getElem.1 hu
        have hql : q < k * sz := by have := hrows.1; omega
        have hsz : 0 < sz := by
          rcases Nat.eq_zero_or_pos sz with h0 | h0
          · rw [h0] at hql; simp at hql
          · exact h0
        have hi : q / sz < k := (Nat.div_lt_iff_lt_mul hsz).2 hql
        have hj : q % sz < sz := Nat.mod_lt _ hsz
        obtain ⟨u', hu', ho⟩ := hrows.2.1 _ _ hi hj
        have e : q / sz * sz + q % sz = q := by rw [Nat.mul_comm]; exact Nat.div_add_mod q sz
        rw [e, List.getElem?_eq_getElem hq] at hu'
        cases hu'
        exact ho.oneCell
  unfold srcOf at h
  split at h
  · cases h
    have hv : v = .slice none 0 0 := hr
    exact ⟨none, 0, [], fun _ _ _ => False, hv, ⟨by simp, fun i j hi => by omega, fun i j i' j' x hi => by omega⟩, fun h => by omega, by simp, fun i j x hi => by omega⟩
  · rename_i m2 sz2 get2
    split at h
    · rename_i hsz
      cases h
      subst hsz
      obtain ⟨a, cap, us, G, h1, h2, h3, h4, h5⟩ := srcView hob hr
      exact ⟨a, cap, us, G, h1, h2, h3, h4, fun i j x hi hj hx => (h5 i j x hi hj hx).elim⟩
    · cases h
  · rename_i id _ _ _
    split at h
    · rename_i m2 sz2 get2 hobj
      split at h
      · rename_i hsz
        cases h
        subst hsz
        have ha := hgone id (by simp)
        obtain ⟨_, hv⟩ := hr
        obtain ⟨ob', hl⟩ := Option.isSome_iff_exists.1 ha
        cases hsub id ob' _ hl hobj
        exact owned id rfl ha (hv ha) (hok.ob id _ hl)
      · cases h
    · cases h
  · rename_i id
    split at h
    · rename_i d2 m2 sz2 get2 hobj
      split at h
      · rename_i hsz
        cases h
        subst hsz
        obtain ⟨ha, hA, hv⟩ := hr
        obtain ⟨ob', hl⟩ := Option.isSome_iff_exists.1 ha
        cases hsub id ob' _ hl hobj
        exact owned id rfl ha hv (hok.ob id _ hl).1
      · cases h
    · cases h
  · cases h
theorem srcH_spec {h : Hint} {Hs : Nat → Option Ob} {sz k : Nat} {av : AV} {get : Nat → Nat → C} {gone : List Nat} {ob : Prop} {v : Value} (hs : srcH h Hs sz av = some (k, get, gone, ob)) (hob : ob) (hok : HeapOK n0 H m w)
    (hsub : Agree H Hs) (hgone : ∀ g ∈ gone, (H.lookup g).isSome = true) (hr : AVRep H m w av v) :
    ∃ a cap us G, v = .slice a k cap ∧ RowsOwn w k sz get us G ∧ (0 < k → ∃ b off, a = some ⟨b, off, none⟩ ∧ ∀ (j : Nat) (u : Value), us[j]? = some u → w.cell? ⟨b, off + j, none⟩ = some u) ∧ (∀ u ∈ us, u.oneCell' = true) ∧
      ∀ i j x, i < k → j < sz → G i j x → ∃ g ∈ gone, m.foot g x := by
  unfold srcH at hs
  split at hs
  case isFalse => exact srcOf_spec hs hob hok hsub hgone hr
  unfold srcK at hs
  split at hs
  · split at hs
    · rename_i hsz
      cases hs
      subst hsz
      obtain ⟨a, cap, us, G, h1, h2, h3, h4, h5⟩ := srcView hob hr.1
      exact ⟨a, cap, us, G, h1, h2, h3, h4, fun i j x hi hj hx => (h5 i j x hi hj hx).elim⟩
    · cases hs
  · rename_i id
    split at hs
    · rename_i d2 m2 sz2 get2 hobj
      split at hs
      · rename_i hsz
        cases hs
        subst hsz
        obtain ⟨ha, hA, hv⟩ := hr
        obtain ⟨ob', hl⟩ := Option.isSome_iff_exists.1 ha
        cases hsub id ob' _ hl hobj
        have hown : OwnC w (.seq k sz2 get) (m.foot id) (m.val id) := (hok.ob id _ hl).1
        rw [← hv] at hown
        obtain ⟨a, cap, us, G, h1, h2, h3, h4, h5⟩ := srcView (av := fun _ _ => False) hob (OwnC.crep (fun _ _ _ h => h) hown)
        exact ⟨a, cap, us, G, h1, h2, h3, h4, fun i j x hi hj hx => (h5 i j x hi hj hx).elim⟩
      · cases hs
    · cases hs
  · cases hs
end Go.Fw
