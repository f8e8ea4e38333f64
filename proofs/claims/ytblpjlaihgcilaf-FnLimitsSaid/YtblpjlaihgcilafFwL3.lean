
import Derived.Test.YtblpjlaihgcilafFwL1
import Derived.Laws.BytesArg
import Derived.Laws.IdiomStrings
import Derived.Laws.MakeOwn
namespace Go.Fw
open Go Go.RowKit
variable {P : Program} {n0 : Nat → Prop} {H : List (Nat × Ob)} {m : Mem} {w : World}
theorem OwnC.congr {n sz : Nat} {get get' : Nat → Nat → C} {F : Nat → Prop} {v : Value} (hg : ∀ i j, i < n → j < sz → get' i j = get i j) (h : OwnC w (.seq n sz get) F v) : OwnC w (.seq n sz get') F v := by
  rcases h with h | ⟨b, cap, cur, E, fr, hv, hn, hfr, hb, hs, hFb, G, hG, hd⟩
  · exact .inl h
  · refine .inr ⟨b, cap, cur, E, fr, hv, hn, hfr, hb, hs, hFb, G, fun i j hi hj => ?_, hd⟩
    rw [hg i j hi hj]
    exact hG i j hi hj
theorem okKd_spec {Hs : Nat → Option Ob} {l : Kd} {gone : List Nat} (hsub : Agree H Hs) (ha : ∀ g ∈ gone, (H.lookup g).isSome = true) (h : okKd Hs l gone = true) (hl : l = .kd) : ∀ g ∈ gone, ∃ n sz gt, H.lookup g = some (.arr true n sz gt) := by
  subst hl
  intro g hg
  simp only [okKd, List.all_eq_true] at h
  have := h g hg
  unfold deepG at this
  split at this
  · rename_i n sz gt e
    obtain ⟨ob, ho⟩ := Option.isSome_iff_exists.1 (ha g hg)
    cases hsub g ob _ ho e
    exact ⟨n, sz, gt, ho⟩
  · cases this
theorem run_append_zero {t ty e : TypeId} {i : TypeInfo} (ht : P.underlying t = some (.slice e)) (hi : P.info? e = some i) {base a2 : Option Addr} {n cap c2 : Nat} (hn : n ≤ cap) :
    (Builtin.append_ #[t, t] ty #[.slice base n cap, .slice a2 0 c2]).run P w = .ok (.slice base n cap) w := by
  have hf : (Builtin.firstCells i.size 0 (.slice a2 0 c2)).run P w = .ok #[] w := by
    cases a2 <;> simp [Builtin.firstCells, loadCells, loadCellsFrom]
  have h0 : ∀ ad, (storeCells ad [] 0).run P w = .ok () w := fun _ => rfl
  cases base <;> simp [Builtin.append_, run_underlying ht, sizeOf, typeInfo, hi, Builtin.lenOf, hn, hf, h0]
theorem run_append_place {t ty e : TypeId} {i : TypeInfo} (ht : P.underlying t = some (.slice e)) (hi : P.info? e = some i) {b n cap k c2 : Nat} {a2 : Addr} {us : List Value} {cur : Array Value} {E : TypeId} {fr : Nat × Nat}
    (hb : w.heap[b]? = some (.cells cur E fr)) (hfr : okFr fr cur.size) (hl : us.length = k * i.size) (hus : ∀ (j : Nat) (u : Value), us[j]? = some u → w.cell? (a2.add j) = some u) (h1 : ∀ u ∈ us, u.oneCell' = true)
    (hroom : n + k ≤ cap) (hfit : n * i.size + us.length ≤ cur.size) :
    ∃ cur', (Builtin.append_ #[t, t] ty #[.slice (some ⟨b, 0, none⟩) n cap, .slice (some a2) k c2]).run P w = .ok (.slice (some ⟨b, 0, none⟩) (n + k) cap) (w.setRow b cur') ∧ cur'.size = cur.size ∧
      ∀ q, cur'[q]? = if n * i.size ≤ q ∧ q < n * i.size + us.length then us[q - n * i.size]? else cur[q]? := by
  have hf := run_firstCells_some (P := P) w i.size k a2 k c2 us hl hus
  obtain ⟨cur', g1, g2, g3⟩ := store_cells P b (n * i.size) E fr us 0 cur w hb hfr (by simpa using hfit) h1
  refine ⟨cur', ?_, g2, fun q => by simpa using g3 q⟩
  simp [Builtin.append_, run_underlying ht, sizeOf, typeInfo, hi, Builtin.lenOf, hroom, hf, Addr.add_lit, g1]
theorem evAppend_go {Hs : Nat → Option Ob} {t ty : TypeId} {s x : AV} {h : Hint} {E : Eff} {o : Oper} {a : Act} {u v : Value} (hE : evAppend P Hs t s x h = some E) (hob : E.ob) (hok : HeapOK n0 H m w) (hn0 : ∀ b, n0 b → b < w.heap.size)
    (hsub : Agree H Hs) (hids : ∀ id ob, H.lookup id = some ob → ∀ i ∈ ob.ids, i ∉ E.ids) (hhard : ∀ i ob, H.lookup i = some ob → ∀ j ∈ ob.hard, j ∉ E.gone)
    (hgone : ∀ g ∈ E.gone, (H.lookup g).isSome = true) (hgnd : E.gone.Nodup) (hrun : (execOp a.eval o).run P w = ((Builtin.append_ #[t, t] ty #[u, v]).run P w).andThen fun v w' => .ok (.value v) w')
    (hs : AVRep H m w s u) (hx : AVRep H m w x v) : OpGo P n0 o a w H m E := by
  unfold evAppend at hE
  split at hE
  case h_2 => cases hE
  rename_i l id n' get' e sz bytes hob0 hel
  clear hob0
  split at hE
  case h_2 => cases hE
  rename_i n get g1 k get2 g2 ob2 hdst hsrc
  split at hE
  case isFalse => cases hE
  rename_i hlst
  simp only [Bool.and_eq_true] at hlst
  obtain ⟨hlst, hkd⟩ := hlst
  cases hE
  obtain ⟨rfl, happ, hob2, hbytes⟩ := hob
  obtain ⟨ti, z, ht, hi, hz, hisz, hiby, hzs, hsz, hby⟩ := elemT_spec hel
  simp only at hgone hgnd hhard
  obtain ⟨a2, c2, us, G2, hv, hrows2, hcell2, hone2, hG2⟩ := srcH_spec hsrc hob2 hok hsub (fun g hg => hgone g (List.mem_append_right _ hg)) hx
  have hbase : ∃ F : Nat → Prop, OwnC w (.seq n sz get) F u ∧ (∀ b, F b → ∃ g ∈ g1, m.foot g b) ∧ (∀ b o, Value.blk u = some b → (l = .kl → n * sz ≤ o) → avOf H m b o) := by
    unfold dstOf at hdst
    split at hdst
    · cases hdst
      have hu : u = .slice none 0 0 := hs
      exact ⟨fun _ => False, .inl ⟨hu, rfl⟩, fun b h => h.elim, fun b o hb => by rw [hu] at hb; cases hb⟩
    · rename_i i0 _ _ _
      split at hdst
      · rename_i n2 sz2 get3 hobj
        split at hdst
        · rename_i hsz2
          cases hdst
          subst hsz2
          have ha := hgone i0 (by simp)
          obtain ⟨ob', hl⟩ := Option.isSome_iff_exists.1 ha
          cases hsub i0 ob' _ hl hobj
          have hu : u = m.val i0 := hs.2 ha
          have hlt : l = .kl := by cases l <;> first | rfl | cases hlst
          refine ⟨m.foot i0, by rw [hu]; exact hok.ob i0 _ hl, fun b hb => ⟨i0, by simp, hb⟩, fun b o hb ho => ⟨i0, _, hl, by show Value.blk (m.val i0) = _; rw [← hu]; exact hb, ho hlt⟩⟩
        · cases hdst
      · cases hdst
    · rename_i i0
      split at hdst
      · rename_i d2 n2 sz2 get3 hobj
        split at hdst
        · rename_i hsz2
          cases hdst
          subst hsz2
          have ha := hgone i0 (by simp)
          obtain ⟨ob', hl⟩ := Option.isSome_iff_exists.1 ha
          cases hsub i0 ob' _ hl hobj
          have hu : u = m.val i0 := hs.2.2
          refine ⟨m.foot i0, by rw [hu]; exact (hok.ob i0 _ hl).1, fun b hb => ⟨i0, by simp, hb⟩, fun b o hb ho => ⟨i0, _, hl, (hok.ob i0 _ hl).reach_blk (by rw [← hu]; exact hb), trivial⟩⟩
        · cases hdst
      · cases hdst
    · cases hdst
  obtain ⟨F, hown, hF, hspare⟩ := hbase
  have hdisj : ∀ b g, F b → g ∈ g2 → ¬ m.foot g b := by
    intro b g hb hg hf
    obtain ⟨g', hg', hf'⟩ := hF b hb
    have : g' = g := hok.apart g' g b (hgone g' (List.mem_append_left _ hg')) (hgone g (List.mem_append_right _ hg)) hf' hf
    subst this
    exact (List.nodup_append.1 hgnd).2.2 g' hg' g' hg rfl
  have hG2F : ∀ i j x, i < k → j < sz → G2 i j x → ∃ g ∈ g1 ++ g2, (H.lookup g).isSome = true ∧ m.foot g x := by
    intro i j x hi hj hx
    obtain ⟨g, hg, hf⟩ := hG2 i j x hi hj hx
    exact ⟨g, List.mem_append_right _ hg, hgone g (List.mem_append_right _ hg), hf⟩
  have hG2sz : ∀ i j x, i < k → j < sz → G2 i j x → x < w.heap.size := by
    intro i j x hi hj hx
    obtain ⟨g, _, ha, hf⟩ := hG2F i j x hi hj hx
    exact (hok.lo g x ha hf).2
  have fin : ∀ (v' : Value) (w' : World) (foot : Nat → Prop), (Builtin.append_ #[t, t] ty #[u, v]).run P w = .ok v' w' → BelowK n0 w w' →
      (∀ b, b < w.heap.size → (∀ g ∈ g1 ++ g2, ¬ m.foot g b) → w'.heap[b]? = w.heap[b]?) → (∀ b o q, w.cell? ⟨b, o, none⟩ = some q → ¬ avOf H m b o → w'.cell? ⟨b, o, none⟩ = some q) →
      (∀ b, foot b → (w.heap.size ≤ b ∧ b < w'.heap.size) ∨ ∃ g ∈ g1 ++ g2, (H.lookup g).isSome = true ∧ m.foot g b) → (∀ b o, b < w.heap.size → Value.blk v' = some b → (l = .kl → (n + k) * sz ≤ o) → avOf H m b o) →
      OwnC w' (.seq (n + k) sz get') foot v' → OpGo P n0 o a w H m { av := .v (.one (obX l id (n + k) sz get')), new := [(id, obO l (n + k) sz get')], gone := g1 ++ g2, ob := n + k = n + k ∧ AppOb n k sz get get2 get' ∧ ob2 ∧ (n + k) * bytes ≤ 140737488355328 } := by
    intro v' w' foot hr hb hbl hce hfo hav hrep
    obtain ⟨m', h1, h2, h3⟩ := take_obj (gone := g1 ++ g2) hb hok hn0 hbl hce id (n + k) sz get' l v' foot hfo (fun b o hlt hbk ho => hav b o hlt hbk ho) (fun hl g hg => okKd_spec hsub hgone hkd hl g hg) (fun i ob hl hm => hids i ob hl id hm (by simp [Eff.ids])) hhard hgone hrep
    unfold OpGo
    rw [hrun, hr]
    simp only [Result.andThen_ok, Eff.heap, Eff.ids, List.map_cons, List.map_nil, List.singleton_append]
    refine ⟨m', h1, h2, ?_⟩
    cases l
    · have hl : (((id, obO .kl (n + k) sz get') :: dropL (g1 ++ g2) H)).lookup id = some (.lst (n + k) sz get') := by simp [obO]
      have := lst_crep h1 hl
      rw [h3] at this
      exact ⟨this, fun _ => h3.symm⟩
    · exact ⟨by simp, by simp [obO], h3.symm⟩
    · exact ⟨by simp, by simp [obO], h3.symm⟩
  rcases Nat.eq_zero_or_pos k with hk | hk
  ·
    subst hk
    have hu : ∃ base cap, u = .slice base n cap ∧ n ≤ cap := by
      rcases hown with ⟨h1, h2⟩ | ⟨b, cap, cur, E, fr, h1, h2, _⟩
      · subst h2; exact ⟨none, 0, h1, Nat.le_refl _⟩
      · exact ⟨_, cap, h1, h2⟩
    obtain ⟨base, cap, hu, hn⟩ := hu
    refine fin u w F ?_ (BelowK.refl _ _) (fun _ _ _ => rfl) (fun _ _ _ h _ => h) (fun b hb => ?_) (fun b o _ hbk ho => hspare b o hbk (fun hl => by simpa using ho hl)) (OwnC.congr (fun i j hi hj => happ.1 i j (by omega) hj) hown)
    · rw [hu, hv]; exact run_append_zero ht hi hn
    · obtain ⟨g, hg, hf⟩ := hF b hb
      exact .inr ⟨g, List.mem_append_left _ hg, hgone g (List.mem_append_left _ hg), hf⟩
  · obtain ⟨b2, off2, ha2, hcell2⟩ := hcell2 hk
    have husl : us.length = k * ti.size := by rw [hisz]; exact hrows2.1
    have hcadd : ∀ (j : Nat) (q : Value), us[j]? = some q → w.cell? ((⟨b2, off2, none⟩ : Addr).add j) = some q := by
      intro j q hq; rw [Addr.add_lit]; exact hcell2 j q hq
    have hb47 : (n + k) * ti.bytes ≤ 140737488355328 := by rw [hiby]; exact hbytes
    have hnk : n + k ≤ 140737488355328 := Nat.le_trans (Nat.le_mul_of_pos_right _ (by omega)) hbytes
    have grow : ∀ (old : Nat) (olds : List Value) (G : Nat → Nat → Nat → Prop), old < n + k → RowsOwn w n sz get olds G → (∀ i j x, i < n → j < sz → G i j x → F x) →
        (Builtin.append_ #[t, t] ty #[u, v]).run P w = .ok (.slice (some ⟨w.heap.size, 0, none⟩) (n + k) (grownCap w (n + k) old e)) (w.drew.alloc (.cells (olds.toArray ++ us.toArray ++ Builtin.zeroCells z.cells (grownCap w (n + k) old e - (n + k))) e)) →
        OpGo P n0 o a w H m { av := .v (.one (obX l id (n + k) sz get')), new := [(id, obO l (n + k) sz get')], gone := g1 ++ g2, ob := n + k = n + k ∧ AppOb n k sz get get2 get' ∧ ob2 ∧ (n + k) * bytes ≤ 140737488355328 } := by
      intro old olds G hold hrows hGF hr
      have hbw : Below w.heap.size w (w.drew.alloc (.cells (olds.toArray ++ us.toArray ++ Builtin.zeroCells z.cells (grownCap w (n + k) old e - (n + k))) e)) :=
        ((Below.refl _ _).drew).alloc (Nat.le_refl _) _
      have hheap : ∀ b, b < w.heap.size → (w.drew.alloc (.cells (olds.toArray ++ us.toArray ++ Builtin.zeroCells z.cells (grownCap w (n + k) old e - (n + k))) e)).heap[b]? = w.heap[b]? := fun b hb => hbw.block b hb
      have hFsz : ∀ b, F b → b < w.heap.size := by
        intro b hb
        obtain ⟨g, hg, hf⟩ := hF b hb
        exact (hok.lo g b (hgone g (List.mem_append_left _ hg)) hf).2
      have hge := grownCap_ge w (n + k) old e
      have hr1 := hrows.heap (w' := w.drew.alloc (.cells (olds.toArray ++ us.toArray ++ Builtin.zeroCells z.cells (grownCap w (n + k) old e - (n + k))) e)) (fun i j x hi hj hx => hheap x (hFsz x (hGF i j x hi hj hx)))
      have hr2 := hrows2.heap (w' := w.drew.alloc (.cells (olds.toArray ++ us.toArray ++ Builtin.zeroCells z.cells (grownCap w (n + k) old e - (n + k))) e)) (fun i j x hi hj hx => hheap x (hG2sz i j x hi hj hx))
      have hrr := hr1.append hr2 happ (fun i j i' j' x hi hj hi' hj' hg hg' => by
        obtain ⟨g, hg2, hf⟩ := hG2 i' j' x hi' hj' hg'
        exact hdisj x g (hGF i j x hi hj hg) hg2 hf)
      refine fin _ _ (fun b => (∃ g ∈ g1 ++ g2, (H.lookup g).isSome = true ∧ m.foot g b) ∨ b = w.heap.size) hr (below_toK hbw hn0) (fun b hb _ => hheap b hb) (fun b o q hq _ => ?_) (fun b hb => ?_) (fun b o hlt hbk _ => ?_) ?_
      · rw [cell_below hbw (World.block_lt_of_cell? w ⟨b, o, none⟩ hq)]; exact hq
      · rcases hb with hb | rfl
        · exact .inr hb
        · exact .inl ⟨Nat.le_refl _, by simp⟩
      · simp [Value.blk] at hbk; omega
      · refine hrr.seq (b := w.heap.size) (E := e) (fr := (0, 0)) (cur := olds.toArray ++ us.toArray ++ Builtin.zeroCells z.cells (grownCap w (n + k) old e - (n + k))) (heap_alloc_new w.drew _) (.inl rfl) hge ?_ (fun q hq => ?_) (.inr rfl) (fun i j x hi hj hx => ?_)
        · simp only [Array.size_append, List.size_toArray, size_zeroCells, hzs, hrows.1, hrows2.1, ← Nat.add_mul]
          congr 1; omega
        · have hlen : (olds ++ us).length = (n + k) * sz := by rw [List.length_append, hrows.1, hrows2.1, Nat.add_mul]
          rw [Array.getElem?_append, if_pos (by simp [hrows.1, hrows2.1, ← Nat.add_mul]; exact hq)]
          simp
        · split at hx
          · rename_i hin
            have hFx := hGF i j x hin hj hx
            obtain ⟨g, hg, hf⟩ := hF x hFx
            refine ⟨.inl ⟨g, List.mem_append_left _ hg, hgone g (List.mem_append_left _ hg), hf⟩, ?_⟩
            have := hFsz x hFx; omega
          · rename_i hin
            refine ⟨.inl (hG2F (i - n) j x (by omega) hj hx), ?_⟩
            have := hG2sz (i - n) j x (by omega) hj hx; omega
    rcases hown with ⟨hu, hn⟩ | ⟨b, cap, cur, Et, fr, hu, rest⟩
    · subst hn
      have hr := run_append_nil (P := P) w t ty e ti z ht hi hz ⟨b2, off2, none⟩ k c2 us husl hcadd hk (by omega) (by have := hb47; simp only [Nat.zero_add] at this; omega)
      have := grow 0 [] (fun _ _ _ => False) (by omega) ⟨by simp, fun i j hi => by omega, fun i j i' j' x hi => by omega⟩ (fun i j x hi => by omega)
      refine this ?_
      rw [hu, hv, ha2]
      simp only [Nat.zero_add]
      rw [hr]
      simp
    · obtain ⟨cur, Et, fr, G, hn, hfr, hb, hcs, hFb, hrows, hG⟩ := OwnC.rows (.inr ⟨b, cap, cur, Et, fr, hu, rest⟩) hu
      by_cases hroom : n + k ≤ cap
      · have hfit : n * ti.size + us.length ≤ cur.size := by
          rw [husl, hcs, hisz, ← Nat.add_mul]; exact Nat.mul_le_mul_right _ hroom
        obtain ⟨cur', hr, hs', hc'⟩ := run_append_place (ty := ty) (n := n) (cap := cap) (c2 := c2) ht hi hb hfr husl hcadd hone2 hroom hfit
        have hother : ∀ q, q ≠ b → (w.setRow b cur').heap[q]? = w.heap[q]? := fun q hq => setRow_other w b q cur' hq
        have hFsz : ∀ b, F b → b < w.heap.size := by
          intro b hb
          obtain ⟨g, hg, hf⟩ := hF b hb
          exact (hok.lo g b (hgone g (List.mem_append_left _ hg)) hf).2
        have hFlo : ∀ b, F b → ¬ n0 b := by
          intro b hb
          obtain ⟨g, hg, hf⟩ := hF b hb
          exact (hok.lo g b (hgone g (List.mem_append_left _ hg)) hf).1
        have hr1 := hrows.heap (w' := w.setRow b cur') (fun i j x hi hj hx => hother x (hG i j x hi hj hx).2)
        have hr2 := hrows2.heap (w' := w.setRow b cur') (fun i j x hi hj hx => hother x (by
          rintro rfl
          obtain ⟨g, hg2, hf⟩ := hG2 i j x hi hj hx
          exact hdisj x g hFb hg2 hf))
        have hrr := hr1.append hr2 happ (fun i j i' j' x hi hj hi' hj' hg hg' => by
          obtain ⟨g, hg2, hf⟩ := hG2 i' j' x hi' hj' hg'
          exact hdisj x g (hG i j x hi hj hg).1 hg2 hf)
        refine fin (.slice (some ⟨b, 0, none⟩) (n + k) cap) (w.setRow b cur') (fun x => ∃ g ∈ g1 ++ g2, (H.lookup g).isSome = true ∧ m.foot g x) (by rw [hu, hv, ha2]; exact hr)
          ⟨rfl, rfl, rfl, by simp, fun q hq => hother q (by rintro rfl; exact hFlo _ hFb hq)⟩ (fun q hq hng => hother q ?_) (fun q o c hc hnav => ?_) (fun x hx => .inr hx) (fun q o hlt hbk ho => ?_) ?_
        · rintro rfl
          obtain ⟨g, hg, hf⟩ := hF q hFb
          exact hng g (List.mem_append_left _ hg) hf
        · by_cases hq : q = b
          · subst hq
            have ho : ¬ n * sz ≤ o := fun ho => hnav (hspare q o (by rw [hu]; rfl) (fun _ => ho))
            rw [cell_of_row _ q o cur' Et fr (setRow_heap w q cur cur' Et fr hb), hc' o, if_neg (by rw [hisz]; omega)]
            rw [cell_of_row w q o cur Et fr hb] at hc
            exact hc
          · rw [World.cell?_of_block (w := w) (a := ⟨q, o, none⟩) (hother q hq)]; exact hc
        · simp [Value.blk] at hbk
          subst hbk
          refine hspare _ o (by rw [hu]; rfl) (fun hl => Nat.le_trans ?_ (ho hl))
          exact Nat.mul_le_mul_right _ (by omega)
        · refine hrr.seq (setRow_heap w b cur cur' Et fr hb) (by rw [hs']; exact hfr) hroom (by rw [hs', hcs]) (fun q hq => ?_) ?_ (fun i j x hi hj hx => ?_)
          · rw [hc' q, List.getElem?_append]
            have hl1 : (List.take (n * sz) cur.toList).length = n * sz := hrows.1
            rw [hl1]
            by_cases h1 : q < n * sz
            · rw [if_neg (by rw [hisz]; omega), if_pos h1, List.getElem?_take, if_pos h1]; simp
            · rw [if_pos (by rw [hisz, hrows2.1]; rw [Nat.add_mul] at hq; omega), if_neg h1, hisz]
          · obtain ⟨g, hg, hf⟩ := hF b hFb
            exact ⟨g, List.mem_append_left _ hg, hgone g (List.mem_append_left _ hg), hf⟩
          · split at hx
            · rename_i hin
              obtain ⟨h1, h2⟩ := hG i j x hin hj hx
              obtain ⟨g, hg, hf⟩ := hF x h1
              exact ⟨⟨g, List.mem_append_left _ hg, hgone g (List.mem_append_left _ hg), hf⟩, h2⟩
            · rename_i hin
              refine ⟨hG2F (i - n) j x (by omega) hj hx, ?_⟩
              rintro rfl
              obtain ⟨g, hg2, hf⟩ := hG2 (i - n) j x (by omega) hj hx
              exact hdisj x g hFb hg2 hf
      · have hr := run_append_grow (P := P) w t ty e ti z ht hi hz ⟨b, 0, none⟩ n cap (cur.toList.take (n * sz)) (by rw [hisz]; exact hrows.1) (fun j q hq => by
            rw [Addr.add_lit, Nat.zero_add, cell_of_row w b j cur Et fr hb]
            rw [List.getElem?_take] at hq
            split at hq
            · simpa using hq
            · cases hq) ⟨b2, off2, none⟩ k c2 us husl hcadd (by omega) (by omega) (growslice_fits (by omega) hb47)
        refine grow cap _ G (by omega) hrows (fun i j x hi hj hx => (hG i j x hi hj hx).1) ?_
        rw [hu, hv, ha2]
        exact hr
end Go.Fw
/-! Slices made, built, cut; bytes and strings. -/
namespace Go.Fw
open Go Go.RowKit
variable {P : Program} {n0 : Nat → Prop} {H : List (Nat × Ob)} {m : Mem} {w : World}
theorem new_seq {o : Oper} {a : Act} {id n sz : Nat} {get : Nat → Nat → C} {islst : Kd} {E : Eff} {gone : List Nat} {ob : Prop} (hE : E = { av := .v (.one (obX islst id n sz get)), new := [(id, obO islst n sz get)], gone := gone, ob := ob })
    (hok : HeapOK n0 H m w) (hn0 : ∀ b, n0 b → b < w.heap.size) (w' : World) (hw : Below w.heap.size w w') (v : Value) (hrun : (execOp a.eval o).run P w = .ok (.value v) w') (foot : Nat → Prop)
    (hfoot : ∀ b, foot b → (w.heap.size ≤ b ∧ b < w'.heap.size) ∨ ∃ g ∈ gone, (H.lookup g).isSome = true ∧ m.foot g b)
    (hblk : ∀ b, Value.blk v = some b → w.heap.size ≤ b)
    (hids : ∀ i ob, H.lookup i = some ob → id ∉ ob.ids) (hhard : ∀ i ob, H.lookup i = some ob → ∀ j ∈ ob.hard, j ∉ gone)
    (hgone : ∀ g ∈ gone, (H.lookup g).isSome = true) (hdeep : islst = .kd → ∀ g ∈ gone, ∃ n sz gt, H.lookup g = some (.arr true n sz gt)) (hrep : OwnC w' (.seq n sz get) foot v) : OpGo P n0 o a w H m E := by
  obtain ⟨m', h1, h2, h3⟩ := take_obj (gone := gone) (below_toK hw hn0) hok hn0 (fun b hb _ => hw.block b hb) (fun b o q hq _ => by rw [cell_below hw (World.block_lt_of_cell? w ⟨b, o, none⟩ hq)]; exact hq)
    id n sz get islst v foot hfoot (fun b o hb hbk _ => by have := hblk b hbk; omega) hdeep hids hhard hgone hrep
  subst hE
  unfold OpGo
  rw [hrun]
  simp only [Eff.heap, Eff.ids, List.map_cons, List.map_nil, List.singleton_append]
  refine ⟨m', h1, h2, ?_⟩
  cases islst
  · have hl : (((id, obO .kl n sz get) :: dropL gone H)).lookup id = some (.lst n sz get) := by simp [obO]
    have := lst_crep h1 hl
    rw [h3] at this
    exact ⟨this, fun _ => h3.symm⟩
  · exact ⟨by simp, by simp [obO], h3.symm⟩
  · exact ⟨by simp, by simp [obO], h3.symm⟩
theorem zeroRow_get {zs : List X} : ∀ {g : Nat → C}, zeroRow (fun _ => none) zs g → ∀ (j : Nat) (x : X), zs[j]? = some x → isRX (fun _ => none) x (g j) := by
  induction zs with
  | nil => intro g _ j x h; simp at h
  | cons z zs ih =>
    intro g h j x hj
    cases j with
    | zero => simp at hj; subst hj; exact h.1
    | succ j => exact ih h.2 j x (by simpa using hj)
theorem isRX_none {x : X} {c : C} {v : Value} {w' : World} (h : isRX (fun _ => none) x c) (hr : XRep [] m w x v) : OwnC w' c (fun _ => False) v := by
  cases x with
  | c d =>
    obtain ⟨rfl, hs⟩ := h
    cases c <;> first | exact hr | exact fn_own hr hs | exact hs.elim
  | nils =>
    have hv : v = .slice none 0 0 := hr
    cases c <;> first | exact h.elim | exact .inl ⟨hv, h⟩
  | arr | lst | ptr | elt | clo | sub | fx => cases c <;> exact h.elim
theorem madeCells_get {z : Array Value} {n sz i j : Nat} (hz : z.size = sz) (hj : j < sz) (h : i * sz + j < n) : (madeCells z n)[i * sz + j]? = z[j]? := by
  have hm : (i * sz + j) % sz = j := by rw [Nat.mul_comm, Nat.mul_add_mod, Nat.mod_eq_of_lt hj]
  simp only [madeCells]
  rw [Array.getElem?_map, Array.getElem?_range]
  · simp only [h, ite_true, Option.map_some, hz, hm]
    rw [getElem!_pos z j (by omega), getElem?_pos z j (by omega)]
theorem evMake_go {t : TypeId} {l c : AV} {h : Hint} {E : Eff} {o : Oper} {a : Act} {u v : Value} (hE : evMake P t l c h = some E) (hob : E.ob) (hok : HeapOK n0 H m w) (hn0 : ∀ b, n0 b → b < w.heap.size)
    (hids : ∀ id ob, H.lookup id = some ob → ∀ i ∈ ob.ids, i ∉ E.ids) (hrun : (execOp a.eval o).run P w = ((Instr.makeSlice t u v).run P w).andThen fun v w' => .ok (.value v) w')
    (hl : AVRep H m w l u) (hc : AVRep H m w c v) : OpGo P n0 o a w H m E := by
  unfold evMake at hE
  split at hE
  case h_2 => cases hE
  rename_i isl id n get e sz bytes kl l kc c hob0 hel
  clear hob0
  split at hE
  case h_2 => cases hE
  rename_i zs hz
  cases hE
  obtain ⟨h0, hlc, hn, hb, hzr⟩ := hob
  obtain ⟨ti, z, ht, hi, hzv, hisz, hiby, hzs, hsz, hby⟩ := elemT_spec hel
  have hu : u = .int kl l := hl
  have hv : v = .int kc c := hc
  subst hlc
  have hb2 : (ti.bytes : Int) * l ≤ 140737488355328 := by
    rw [← hn, hiby, Int.mul_comm]
    have : ((n * bytes : Nat) : Int) ≤ 140737488355328 := by omega
    simpa using this
  have hl63 : l ≤ 140737488355328 := by
    have : n ≤ n * bytes := Nat.le_mul_of_pos_right _ hby
    omega
  have hr := run_make (P := P) w t e ti z ht hi hzv kl kc l l h0 (Int.le_refl _) (by omega) (by omega)
  have hln : l.toNat = n := by omega
  rw [hln, hisz] at hr
  refine new_seq (islst := isl) (gone := []) (ob := _) rfl hok hn0 (w.alloc (.cells (madeCells z.cells (n * sz)) e)) ((Below.refl _ _).alloc (Nat.le_refl _) _) (.slice (some ⟨w.heap.size, 0, none⟩) n n) ?_ (fun b => b = w.heap.size) (fun b hb => .inl ⟨by omega, by subst hb; simp⟩)
    (fun b hb => by simp [Value.blk] at hb; omega) (fun i ob hl hm => hids i ob hl id hm (by simp [Eff.ids])) (by simp) (by simp) (by simp) ?_
  · rw [hrun, hu, hv, hr]; rfl
  · obtain ⟨ti', z', hi', hzv', hzrep, _⟩ := zeroXs_rep (H := []) (m := m) (w := w) hz
    rw [hi] at hi'; cases hi'
    rw [hzv] at hzv'; cases hzv'
    refine .inr ⟨w.heap.size, n, madeCells z.cells (n * sz), e, (0, 0), rfl, Nat.le_refl _, .inl rfl, heap_alloc_new _ _, size_madeCells _ _, rfl, fun _ _ _ => False, fun i j hi hj => ⟨fun x hx => hx.elim, ?_⟩, fun i j i' j' x _ _ _ _ hx => hx.elim⟩
    have hj' : j < zs.length := by have := hzrep.1; omega
    obtain ⟨q, hq, hx⟩ := hzrep.2 j zs[j] (List.getElem?_eq_getElem hj')
    refine ⟨q, ?_, isRX_none (zeroRow_get (hzr i hi) j zs[j] (List.getElem?_eq_getElem hj')) hx⟩
    rw [madeCells_get hzs hj (idx_lt hi hj)]
    exact hq
theorem repXs_length {zs : List X} {n : Nat} : (repXs zs n).length = n * zs.length := by
  induction n with
  | zero => simp [repXs]
  | succ n ih => simp [repXs, ih, Nat.add_mul]; omega
theorem repXs_get {zs : List X} : ∀ {n k : Nat} {x : X}, (repXs zs n)[k]? = some x → zs[k % zs.length]? = some x ∧ k < n * zs.length := by
  intro n
  induction n with
  | zero => intro k x h; simp [repXs] at h
  | succ n ih =>
    intro k x h
    simp only [repXs, List.getElem?_append] at h
    split at h
    · rename_i hk
      rw [Nat.mod_eq_of_lt hk]
      exact ⟨h, by rw [Nat.add_mul]; omega⟩
    · rename_i hk
      obtain ⟨h1, h2⟩ := ih h
      rw [← Nat.mod_eq_sub_mod (by omega)] at h1
      exact ⟨h1, by rw [Nat.add_mul]; omega⟩
theorem evBuildSlice_go {ρ : Rho} {Hs : Nat → Option Ob} {t : TypeId} {len : Nat} {parts : Array (Nat × Operand)} {h : Hint} {E : Eff} {o : Oper} {a : Act} (hE : evBuildSlice P ρ Hs t len parts.toList h = some E) (hob : E.ob) (hok : HeapOK n0 H m w) (hn0 : ∀ b, n0 b → b < w.heap.size)
    (hsub : Agree H Hs)
    (hids : ∀ id ob, H.lookup id = some ob → ∀ i ∈ ob.ids, i ∉ E.ids) (hhard : ∀ i ob, H.lookup i = some ob → ∀ j ∈ ob.hard, j ∉ E.gone)
    (hgone : ∀ g ∈ E.gone, (H.lookup g).isSome = true) (hgnd : E.gone.Nodup) (hrun : (execOp a.eval o).run P w = ((Instr.buildSlice t len (parts.map fun (i, x) => (i, a.eval x))).run P w).andThen fun v w' => .ok (.value v) w')
    (hr : ∀ p ∈ parts, ∀ av, ρ p.2 = some av → AVRep H m w av (a.eval p.2)) : OpGo P n0 o a w H m E := by
  unfold evBuildSlice at hE
  split at hE
  case h_2 => cases hE
  rename_i isl id n get e sz bytes hob0 hel
  clear hob0
  split at hE
  case h_2 => cases hE
  rename_i zs ps hz hps
  split at hE
  case h_2 => cases hE
  rename_i xs hfill
  split at hE
  case isFalse => cases hE
  rename_i hle
  obtain ⟨hle, hkd⟩ := hle
  cases hE
  obtain ⟨rfl, hown⟩ := hob
  obtain ⟨ti, z, ht, hi, hzv, hisz, hiby, hzs, hsz, hby⟩ := elemT_spec hel
  obtain ⟨ti', z', hi', hzv', hzrep, _⟩ := zeroXs_rep (H := H) (m := m) (w := w) hz
  rw [hi] at hi'; cases hi'
  rw [hzv] at hzv'; cases hzv'
  have hzl : zs.length = sz := by have := hzrep.1; omega
  have hrep0 : XsRep H m w (repXs zs n) (madeCells z.cells (n * sz)) := by
    refine ⟨by rw [size_madeCells, repXs_length, hzl], fun k x hk => ?_⟩
    obtain ⟨h1, h2⟩ := repXs_get hk
    obtain ⟨q, hq, hx⟩ := hzrep.2 _ x h1
    refine ⟨q, ?_, hx⟩
    have hkd : k = k / sz * sz + k % sz := by rw [Nat.mul_comm]; exact (Nat.div_add_mod k sz).symm
    rw [hzl] at h1 h2 hq
    have := madeCells_get (n := n * sz) (i := k / sz) (j := k % sz) hzs (Nat.mod_lt _ hsz) (by rw [← hkd]; exact h2)
    rw [← hkd] at this
    rw [this, hq]
  obtain ⟨cs', hf, hx⟩ := fill_rep _ ps _ _ xs _ hfill hrep0 (partsX_rep (ev := a.eval) hok hps (fun p hp av hav => hr p (by simpa using hp) av hav))
  have hgoneX : xs.flatMap goneX = xs.flatMap X.ids := by
    have key : ∀ (xs : List X) (cs : List C), isRXs Hs xs cs → xs.flatMap goneX = xs.flatMap X.ids := by
      intro xs
      induction xs with
      | nil => intro cs _; rfl
      | cons x xs ih =>
        intro cs h
        cases cs with
        | nil => exact h.elim
        | cons c cs =>
          simp only [List.flatMap_cons]
          rw [ih cs h.2]
          congr 1
          have h1 := h.1
          cases x <;> first | rfl | (cases c <;> exact h1.elim)
    exact key xs _ hown
  have hown' : isRXs (fun i => H.lookup i) xs (cellsOf sz get n) := by
    have key : ∀ (xs : List X) (cs : List C), (∀ g ∈ xs.flatMap goneX, (H.lookup g).isSome = true) → isRXs Hs xs cs → isRXs (fun i => H.lookup i) xs cs := by
      intro xs
      induction xs with
      | nil => intro cs _ h; cases cs <;> exact h
      | cons x xs ih =>
        intro cs hg h
        cases cs with
        | nil => exact h.elim
        | cons c cs =>
          refine ⟨?_, ih cs (fun g hgm => hg g (List.mem_append_right _ hgm)) h.2⟩
          have hx := h.1
          have al : ∀ id, id ∈ goneX x → ∃ ob, H.lookup id = some ob := fun id hi => Option.isSome_iff_exists.1 (hg id (List.mem_append_left _ hi))
          cases x with
          | c | nils | ptr | elt | clo | sub | fx => cases c <;> exact hx
          | arr id =>
            obtain ⟨ob, hl⟩ := al id (by simp [goneX])
            simp only [isRX] at hx ⊢
            rw [hl]
            split at hx
            · rename_i e; cases hsub id ob _ hl e; exact hx
            · exact hx.elim
          | lst id n sz g =>
            obtain ⟨ob, hl⟩ := al id (by simp [goneX])
            simp only [isRX] at hx ⊢
            rw [hl]
            split at hx
            · rename_i e; cases hsub id ob _ hl e; exact hx
            · exact hx.elim
    exact key xs _ hgone hown
  obtain ⟨hcl, F, hF1, hF2, hF3⟩ := isRXs_own hok xs _ cs'.toList hown' (by rw [← hgoneX]; exact hgnd) (by simpa using hx.1) (fun j x hj => by simpa using hx.2 j x hj)
  have hcs : cs'.size = n * sz := by rw [hx.1]; rw [cellsOf, List.length_map, List.length_range] at hcl; omega
  refine new_seq (islst := isl) (gone := xs.flatMap goneX) (ob := _) rfl hok hn0 (w.alloc (.cells cs' e)) ((Below.refl _ _).alloc (Nat.le_refl _) _) (.slice (some ⟨w.heap.size, 0, none⟩) n n) ?_
    (fun b => b = w.heap.size ∨ ∃ g ∈ xs.flatMap goneX, (H.lookup g).isSome = true ∧ m.foot g b) (fun b hb => ?_) (fun b hb => by simp [Value.blk] at hb; omega) (fun i ob hl hm => hids i ob hl id hm (by simp [Eff.ids])) hhard hgone (fun hl g hg => okKd_spec hsub hgone hkd hl g hg) ?_
  · rw [hrun]
    have hmc : (if n * ti.size = 0 then (#[] : Array Value) else z.cells) = if n * sz = 0 then #[] else z.cells := by rw [hisz]
    have hf' : Instr.fill (fun i => some (i * ti.size, ti.size)) ((Array.range (n * ti.size)).map ((if n * ti.size = 0 then (#[] : Array Value) else z.cells)[· % (if n * ti.size = 0 then (#[] : Array Value) else z.cells).size]!)) (parts.map fun (p : Nat × Operand) => (p.1, a.eval p.2)).toList = some cs' := by
      rw [hisz]
      rw [Array.toList_map]
      by_cases h0 : n * sz = 0
      · rw [h0] at hf ⊢
        simp only [ite_true]
        have : madeCells z.cells 0 = #[] := Array.eq_empty_of_size_eq_zero (size_madeCells _ _)
        rw [this] at hf
        simpa [Array.range_zero'] using hf
      · simp only [if_neg h0]
        exact hf
    have hlim : ¬ n * ti.size > 16777216 := by rw [hisz]; omega
    by_cases h0 : n * ti.size = 0
    · simp only [h0, ite_true] at hf'
      simp [Instr.buildSlice, run_underlying ht, sizeOf, typeInfo, hi, h0, newRow]
      simp at hf'
      rw [hf']
      simp
    · simp only [h0, ite_false] at hf'
      simp [Instr.buildSlice, run_underlying ht, sizeOf, typeInfo, hi, h0, hlim, newRow, zeroValue, hzv]
      simp at hf'
      rw [hf']
      simp
  · rcases hb with rfl | hb
    · exact .inl ⟨Nat.le_refl _, by simp⟩
    · exact .inr hb
  · refine .inr ⟨w.heap.size, n, cs', e, (0, 0), rfl, Nat.le_refl _, .inl rfl, heap_alloc_new _ _, hcs, .inl rfl, fun i j => F (i * sz + j), fun i j hi hj => ⟨fun x hx => ?_, ?_⟩, fun i j i' j' x hi hj hi' hj' hg hg' => ?_⟩
    · obtain ⟨g, hg, ha, hf⟩ := hF2 _ x hx
      rw [← hgoneX] at hg
      refine ⟨.inr ⟨g, hg, ha, hf⟩, ?_⟩
      have := (hok.lo g x ha hf).2; omega
    · have hlt := idx_lt hi hj
      have hd : (i * sz + j) / sz = i := by rw [Nat.mul_comm, Nat.mul_add_div hsz, Nat.div_eq_of_lt hj, Nat.add_zero]
      have hm : (i * sz + j) % sz = j := by rw [Nat.mul_comm, Nat.mul_add_mod, Nat.mod_eq_of_lt hj]
      obtain ⟨q, hq, ho⟩ := hF1 (i * sz + j) (get i j) (by
        unfold cellsOf
        rw [List.getElem?_map, List.getElem?_range hlt]
        simp [hd, hm])
      refine ⟨q, by simpa using hq, OwnC.heap (fun b hb => ?_) ho⟩
      obtain ⟨g, _, ha, hf⟩ := hF2 _ b hb
      exact ((Below.refl w.heap.size w).alloc (Nat.le_refl _) _).block b (hok.lo g b ha hf).2
    · have := hF3 _ _ x hg hg'
      have hd : ∀ i j, j < sz → (i * sz + j) / sz = i := fun i j hj => by rw [Nat.mul_comm, Nat.mul_add_div hsz, Nat.div_eq_of_lt hj, Nat.add_zero]
      have hi' : i = i' := by rw [← hd i j hj, ← hd i' j' hj', this]
      subst hi'
      exact ⟨rfl, by omega⟩
theorem isVX_rep {av : Av} {x : X} {c : C} {v : Value} (hav : av = avOf H m) (h : isVX x c) (hr : XRep H m w x v) : CRep w av c v := by
  subst hav
  cases x with
  | c d => cases h; exact hr
  | nils =>
    have hv : v = .slice none 0 0 := hr
    cases c with
    | seq n sz g => exact ⟨none, 0, by rw [hv, show n = 0 from h], by rw [show n = 0 from h]; exact Nat.le_refl _, fun hp => absurd hp (by rw [show n = 0 from h]; simp)⟩
    | _ => exact h.elim
  | lst id n sz g => cases h; exact hr.1
  | fx id j d => cases h; exact hr.2
  | arr | ptr | elt | clo | sub => exact h.elim
theorem isVXs_get : ∀ {xs : List X} {cs : List C}, isVXs xs cs → cs.length = xs.length ∧ ∀ (k : Nat) x c, xs[k]? = some x → cs[k]? = some c → isVX x c := by
  intro xs
  induction xs with
  | nil => intro cs h; cases cs with
    | nil => exact ⟨rfl, by simp⟩
    | cons => exact h.elim
  | cons x xs ih =>
    intro cs h
    cases cs with
    | nil => exact h.elim
    | cons c cs =>
      obtain ⟨h1, h2⟩ := ih h.2
      refine ⟨by simp [h1], fun k y d hy hd => ?_⟩
      cases k with
      | zero => simp at hy hd; subst hy; subst hd; exact h.1
      | succ k => exact h2 k y d (by simpa using hy) (by simpa using hd)
theorem evBuildView_go {ρ : Rho} {t : TypeId} {len n : Nat} {get : Nat → Nat → C} {parts : Array (Nat × Operand)} {E : Eff} {o : Oper} {a : Act} (hE : evBuildView P ρ t len parts.toList n get = some E) (hob : E.ob) (hok : HeapOK n0 H m w) (hn0 : ∀ b, n0 b → b < w.heap.size)
    (hrun : (execOp a.eval o).run P w = ((Instr.buildSlice t len (parts.map fun (i, x) => (i, a.eval x))).run P w).andThen fun v w' => .ok (.value v) w')
    (hr : ∀ p ∈ parts, ∀ av, ρ p.2 = some av → AVRep H m w av (a.eval p.2)) : OpGo P n0 o a w H m E := by
  unfold evBuildView at hE
  split at hE
  case h_2 => cases hE
  rename_i e sz bytes hel
  split at hE
  case h_2 => cases hE
  rename_i zs ps hz hps
  split at hE
  case h_2 => cases hE
  rename_i xs hfill
  split at hE
  case isFalse => cases hE
  rename_i hle
  cases hE
  obtain ⟨rfl, hown⟩ := hob
  obtain ⟨ti, z, ht, hi, hzv, hisz, hiby, hzs, hsz, hby⟩ := elemT_spec hel
  obtain ⟨ti', z', hi', hzv', hzrep, _⟩ := zeroXs_rep (H := H) (m := m) (w := w) hz
  rw [hi] at hi'; cases hi'
  rw [hzv] at hzv'; cases hzv'
  have hzl : zs.length = sz := by have := hzrep.1; omega
  have hrep0 : XsRep H m w (repXs zs n) (madeCells z.cells (n * sz)) := by
    refine ⟨by rw [size_madeCells, repXs_length, hzl], fun k x hk => ?_⟩
    obtain ⟨h1, h2⟩ := repXs_get hk
    obtain ⟨q, hq, hx⟩ := hzrep.2 _ x h1
    refine ⟨q, ?_, hx⟩
    have hkd : k = k / sz * sz + k % sz := by rw [Nat.mul_comm]; exact (Nat.div_add_mod k sz).symm
    rw [hzl] at h1 h2 hq
    have := madeCells_get (n := n * sz) (i := k / sz) (j := k % sz) hzs (Nat.mod_lt _ hsz) (by rw [← hkd]; exact h2)
    rw [← hkd] at this
    rw [this, hq]
  obtain ⟨cs', hf, hx⟩ := fill_rep _ ps _ _ xs _ hfill hrep0 (partsX_rep (ev := a.eval) hok hps (fun p hp av hav => hr p (by simpa using hp) av hav))
  obtain ⟨hcl, hget⟩ := isVXs_get hown
  have hcs : cs'.size = n * sz := by rw [hx.1]; rw [cellsOf, List.length_map, List.length_range] at hcl; omega
  have hw : Below w.heap.size w (w.alloc (.cells cs' e)) := (Below.refl _ _).alloc (Nat.le_refl _) _
  have hlt : ∀ {id : Nat} {ob : Ob} {b : Nat}, H.lookup id = some ob → reach m id ob b → b < w.heap.size := fun hl h => (hok.lo _ _ (by rw [hl]; rfl) ((hok.ob _ _ hl).reach h)).2
  have hS : Step n0 [] [] H m w H m (w.alloc (.cells cs' e)) := by
    refine ⟨below_toK hw hn0, fun b o u hu hn => ⟨?_, hn⟩, fun _ _ => rfl, fun _ _ => rfl, fun id ob h _ _ => ⟨ob, h, ob.like_refl⟩, fun id h _ => h⟩
    rw [cell_below hw (World.block_lt_of_cell? w ⟨b, o, none⟩ hu)]; exact hu
  have hok' : HeapOK n0 H m (w.alloc (.cells cs' e)) := by
    refine ⟨fun id ob hl => ObRep.step hS rfl (fun _ => Iff.rfl) rfl (by simp) (by simp) (fun b hb => hw.block b (hok.lo id b (by rw [hl]; rfl) hb).2) (hok.ob id ob hl), fun id b ha hf => ?_, hok.apart⟩
    have := hok.lo id b ha hf
    exact ⟨this.1, Nat.lt_of_lt_of_le this.2 hw.size⟩
  have hlim : ¬ n * ti.size > 16777216 := by rw [hisz]; omega
  have hgo : (execOp a.eval o).run P w = .ok (.value (.slice (some ⟨w.heap.size, 0, none⟩) n n)) (w.alloc (.cells cs' e)) := by
    rw [hrun]
    have hf' : Instr.fill (fun i => some (i * ti.size, ti.size)) ((Array.range (n * ti.size)).map ((if n * ti.size = 0 then (#[] : Array Value) else z.cells)[· % (if n * ti.size = 0 then (#[] : Array Value) else z.cells).size]!)) (parts.map fun (p : Nat × Operand) => (p.1, a.eval p.2)).toList = some cs' := by
      rw [hisz]
      rw [Array.toList_map]
      by_cases h0 : n * sz = 0
      · rw [h0] at hf ⊢
        simp only [ite_true]
        have : madeCells z.cells 0 = #[] := Array.eq_empty_of_size_eq_zero (size_madeCells _ _)
        rw [this] at hf
        simpa [Array.range_zero'] using hf
      · simp only [if_neg h0]
        exact hf
    by_cases h0 : n * ti.size = 0
    · simp only [h0, ite_true] at hf'
      simp [Instr.buildSlice, run_underlying ht, sizeOf, typeInfo, hi, h0, newRow]
      simp at hf'
      rw [hf']
      simp
    · simp only [h0, ite_false] at hf'
      simp [Instr.buildSlice, run_underlying ht, sizeOf, typeInfo, hi, h0, hlim, newRow, zeroValue, hzv]
      simp at hf'
      rw [hf']
      simp
  unfold OpGo
  rw [hgo]
  simp only [Eff.heap, Eff.ids, List.map_nil, List.nil_append]
  have hH : (H.filter fun p => !([] : List Nat).contains p.1) = H := List.filter_eq_self.2 (by simp)
  rw [hH]
  refine ⟨m, hok', hS, some ⟨w.heap.size, 0, none⟩, n, rfl, Nat.le_refl _, fun hp => ⟨w.heap.size, 0, rfl, fun i j hi hj => ⟨?_, ?_⟩⟩⟩
  · rintro ⟨id, ob, hl, hre, _⟩
    exact absurd (hlt hl hre) (Nat.lt_irrefl _)
  · have hij := idx_lt hi hj
    have hd : (i * sz + j) / sz = i := by rw [Nat.mul_comm, Nat.mul_add_div hsz, Nat.div_eq_of_lt hj, Nat.add_zero]
    have hm : (i * sz + j) % sz = j := by rw [Nat.mul_comm, Nat.mul_add_mod, Nat.mod_eq_of_lt hj]
    have hxl : i * sz + j < xs.length := by have := hx.1; omega
    obtain ⟨q, hq, ho⟩ := hx.2 (i * sz + j) xs[i * sz + j] (List.getElem?_eq_getElem hxl)
    have hv := hget (i * sz + j) _ (get i j) (List.getElem?_eq_getElem hxl) (by
      unfold cellsOf
      rw [List.getElem?_map, List.getElem?_range hij]
      simp [hd, hm])
    refine ⟨q, ?_, hS.crep (isVX_rep rfl hv ho)⟩
    rw [Nat.zero_add]
    simp only [World.cell?, heap_alloc_new]
    simpa using hq
end Go.Fw
