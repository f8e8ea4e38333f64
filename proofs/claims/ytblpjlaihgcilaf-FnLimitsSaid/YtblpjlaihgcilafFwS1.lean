
import Derived.Test.YtblpjlaihgcilafFwL5
namespace Go.Fw
open Go Go.RowKit
variable {P : Program} {n0 : Nat → Prop} {H : List (Nat × Ob)} {m : Mem} {w : World}
def SetOb (n sz i off k : Nat) (get get' : Nat → Nat → C) : Prop :=
  ∀ i' j', i' < n → j' < sz → (i' = i ∧ off ≤ j' ∧ j' < off + k) ∨ get' i' j' = get i' j'
structure Wr where
  id : Nat
  ob : Ob
  gone : List Nat
  owe : Prop
def evStore (P : Program) (ρ : Rho) (Hs : Nat → Option Ob) (t : TypeId) (x v : Operand) (h : Hint) : Option Wr :=
  match ρ x, ρ v, sizeT P t with
  | some (.v (.one (.ptr id off))), some (.v tv), some k => match Hs id with
    | some (.box xs) => if tv.cells.length = k ∧ off + k ≤ xs.length then
        some { id := id, ob := .box (xs.take off ++ tv.cells ++ xs.drop (off + k)), gone := [], owe := True } else none
    | _ => none
  | some (.v (.one (.elt id i off))), some (.v tv), some k => match Hs id, h with
    | some (.arr d n sz get), .set n' get' row => if tv.cells.length = k ∧ off + k ≤ sz ∧ (d = true → tv.cells.flatMap goneX = []) then
        some { id := id, ob := .arr d n' sz get', gone := tv.cells.flatMap goneX, owe := n' = n ∧ SetOb n sz i off k get get' ∧ row = ((List.range k).map fun j => get' i (off + j)) ∧ isRXs Hs tv.cells row ∧ (d = true → ∀ j, j < k → isSeq (get i (off + j)) = false ∧ isSeq (get' i (off + j)) = false) } else none
    | _, _ => none
  | _, _, _ => none
theorem goneX_ids {Hs : Nat → Option Ob} : ∀ (xs : List X) (cs : List C), isRXs Hs xs cs → xs.flatMap goneX = xs.flatMap X.ids := by
  intro xs
  induction xs with
  | nil => intro cs _; rfl
  | cons x xs ih =>
    intro cs h
    cases cs with
    | nil => exact h.elim
    | cons c cs =>
      simp only [List.flatMap_cons]
      rw [ih cs h.2]
      congr 1
      have h1 := h.1
      cases x <;> first | rfl | (cases c <;> exact h1.elim)
theorem isRXs_alive {Hs : Nat → Option Ob} (hsub : Agree H Hs) : ∀ (xs : List X) (cs : List C), (∀ g ∈ xs.flatMap goneX, (H.lookup g).isSome = true) → isRXs Hs xs cs → isRXs (fun i => H.lookup i) xs cs := by
  intro xs
  induction xs with
  | nil => intro cs _ h; cases cs <;> exact h
  | cons x xs ih =>
    intro cs hg h
    cases cs with
    | nil => exact h.elim
    | cons c cs =>
      refine ⟨?_, ih cs (fun g hgm => hg g (List.mem_append_right _ hgm)) h.2⟩
      have hx := h.1
      have al : ∀ id, id ∈ goneX x → ∃ ob, H.lookup id = some ob := fun id hi => Option.isSome_iff_exists.1 (hg id (List.mem_append_left _ hi))
      cases x with
      | c | nils | ptr | elt | clo | sub | fx => cases c <;> exact hx
      | arr id =>
        obtain ⟨ob, hl⟩ := al id (by simp [goneX])
        simp only [isRX] at hx ⊢
        rw [hl]
        split at hx
        · rename_i e; cases hsub id ob _ hl e; exact hx
        · exact hx.elim
      | lst id n sz g =>
        obtain ⟨ob, hl⟩ := al id (by simp [goneX])
        simp only [isRX] at hx ⊢
        rw [hl]
        split at hx
        · rename_i e; cases hsub id ob _ hl e; exact hx
        · exact hx.elim
theorem set_arr {d : Bool} {gone : List Nat} {id b n cap sz : Nat} {get get' : Nat → Nat → C} {cur cur' : Array Value} {E : TypeId} {fr : Nat × Nat} (hok : HeapOK n0 H m w) (hl : H.lookup id = some (.arr d n sz get)) (hv : m.val id = .slice (some ⟨b, 0, none⟩) n cap)
    (hb : w.heap[b]? = some (.cells cur E fr)) (_hs : cur'.size = cur.size) (hg0 : id ∉ gone) (hgone : ∀ g ∈ gone, (H.lookup g).isSome = true) (hhard : ∀ i ob, H.lookup i = some ob → ∀ j ∈ ob.hard, j ∉ gone) (hfb : m.foot id b) (hdg : d = true → gone = []) (hseq : d = true → ∀ i j, i < n → j < sz → isSeq (get' i j) = isSeq (get i j) ∧ (isSeq (get i j) = true → cur'[i * sz + j]? = cur[i * sz + j]?))
    (hrep : OwnC (w.setRow b cur') (.seq n sz get') (fun x => m.foot id x ∨ ∃ g ∈ gone, m.foot g x) (m.val id)) :
    ∃ m', HeapOK n0 ((id, .arr d n sz get') :: dropL gone H) m' (w.setRow b cur') ∧ Step n0 [] gone H m w ((id, .arr d n sz get') :: dropL gone H) m' (w.setRow b cur') := by
  let m' : Mem := ⟨m.val, fun i => if i = id then (fun x => m.foot id x ∨ ∃ g ∈ gone, m.foot g x) else m.foot i, m.sub⟩
  have hlo := hok.lo id b (by rw [hl]; rfl) hfb
  have hk0 : ((id, Ob.arr d n sz get') :: dropL gone H).lookup id = some (.arr d n sz get') := by simp
  have hk : ∀ i, i ≠ id → ((id, Ob.arr d n sz get') :: dropL gone H).lookup i = (dropL gone H).lookup i := by
    intro i hi
    have : (i == id) = false := by simpa using hi
    simp only [List.lookup_cons, this]
  have hl2 : ∀ i o, i ≠ id → ((id, Ob.arr d n sz get') :: dropL gone H).lookup i = some o → i ∉ gone ∧ H.lookup i = some o := by
    intro i o hi h
    rw [hk i hi] at h
    by_cases hg : i ∈ gone
    · rw [drop_gone hg] at h; cases h
    · rw [drop_lookup hg] at h; exact ⟨hg, h⟩
  have hother : ∀ k, k ≠ b → (w.setRow b cur').heap[k]? = w.heap[k]? := fun k hk => setRow_other w b k cur' hk
  have hS : Step n0 [] gone H m w ((id, .arr d n sz get') :: dropL gone H) m' (w.setRow b cur') := by
    refine ⟨⟨rfl, rfl, rfl, by simp, fun k hk => hother k (by rintro rfl; exact hlo.1 hk)⟩, fun b2 o u hu hn => ?_, fun _ _ => rfl, fun _ _ => rfl, fun i o h _ hg => ?_, fun i h _ => ?_⟩
    · have hne : b2 ≠ b := by
        rintro rfl
        exact hn ⟨id, _, hl, (hok.ob id _ hl).reach_blk (by rw [hv]; rfl), trivial⟩
      refine ⟨by rw [World.cell?_of_block (w := w) (a := ⟨b2, o, none⟩) (hother b2 hne)]; exact hu, ?_⟩
      rintro ⟨i, o', hli, hbk, hm⟩
      by_cases hi : i = id
      · subst hi
        rw [hk0] at hli; cases hli
        cases d
        · have hbk' : Value.blk (m.val i) = some b2 := hbk
          rw [hv] at hbk'; simp [Value.blk] at hbk'; exact hne hbk'.symm
        · have hbk' : m'.foot i b2 := hbk
          have hf : m.foot i b2 := by simpa [m', hdg rfl] using hbk'
          exact hn ⟨i, _, hl, hf, trivial⟩
      · rw [reach_same (m := m) (m' := m') rfl (by simp [m', hi])] at hbk
        exact hn ⟨i, o', (hl2 i o' hi hli).2, hbk, hm⟩
    · by_cases hi : i = id
      · subst hi; rw [hl] at h; cases h; exact ⟨_, hk0, rfl, rfl, rfl, fun hd i j hi hj => (hseq hd i j hi hj).1⟩
      · exact ⟨o, by rw [hk i hi, drop_lookup hg]; exact h, o.like_refl⟩
    · by_cases hi : i = id
      · subst hi; rw [hl]; rfl
      · obtain ⟨o, ho⟩ := Option.isSome_iff_exists.1 h
        rw [(hl2 i o hi ho).2]; rfl
  have hdis : ∀ i x, i ≠ id → i ∉ gone → (H.lookup i).isSome = true → m.foot i x → ¬ (m.foot id x ∨ ∃ g ∈ gone, m.foot g x) := by
    intro i x hi hg ha hf hf'
    rcases hf' with hf' | ⟨g, hgm, hgf⟩
    · exact hi (hok.apart i id x ha (by rw [hl]; rfl) hf hf')
    · exact hg ((hok.apart i g x ha (hgone g hgm) hf hgf) ▸ hgm)
  refine ⟨m', ⟨fun i o h => ?_, fun i b2 ha hf => ?_, fun i i' b2 ha ha' hf hf' => ?_⟩, hS⟩
  · by_cases hi : i = id
    · subst hi
      rw [hk0] at h
      cases h
      refine ⟨?_, fun hd i1 j1 hi1 hj1 hs1 => ?_⟩
      · show OwnC _ _ (m'.foot i) (m.val i)
        simpa [m'] using hrep
      · obtain ⟨g1, g2⟩ := hseq hd i1 j1 hi1 hj1
        rw [g1] at hs1
        obtain ⟨b2, e1, e2⟩ := (hok.ob i _ hl).2 hd i1 j1 hi1 hj1 hs1
        have e1' := e1
        rw [hv] at e1'
        simp [Value.blk] at e1'
        subst e1'
        refine ⟨b, e1, ?_⟩
        rw [cell_of_row _ b _ cur' E fr (setRow_heap w b cur cur' E fr hb), g2 hs1]
        rw [cell_of_row w b _ cur E fr hb] at e2
        exact e2
    · obtain ⟨hg, h2⟩ := hl2 i o hi h
      refine ObRep.step hS rfl (fun b => by simp [m', hi]) rfl (by simp) (hhard i o h2) (fun b2 hf => hother b2 ?_) (hok.ob i o h2)
      rintro rfl
      exact hi (hok.apart i id b2 (by rw [h2]; rfl) (by rw [hl]; rfl) hf hfb)
  · by_cases hi : i = id
    · subst hi
      have hf' : m.foot i b2 ∨ ∃ g ∈ gone, m.foot g b2 := by simpa [m'] using hf
      rcases hf' with hf' | ⟨g, hgm, hgf⟩
      · simpa using hok.lo i b2 (by rw [hl]; rfl) hf'
      · simpa using hok.lo g b2 (hgone g hgm) hgf
    · obtain ⟨o, ho⟩ := Option.isSome_iff_exists.1 ha
      obtain ⟨_, h2⟩ := hl2 i o hi ho
      have hf' : m.foot i b2 := by simpa [m', hi] using hf
      simpa using hok.lo i b2 (by rw [h2]; rfl) hf'
  · obtain ⟨o, ho⟩ := Option.isSome_iff_exists.1 ha
    obtain ⟨o', ho'⟩ := Option.isSome_iff_exists.1 ha'
    by_cases hi : i = id <;> by_cases hi' : i' = id
    · rw [hi, hi']
    · obtain ⟨hg', h2'⟩ := hl2 i' o' hi' ho'
      simp only [m', if_pos hi] at hf
      simp only [m', if_neg hi'] at hf'
      exact absurd hf (hdis i' b2 hi' hg' (by rw [h2']; rfl) hf')
    · obtain ⟨hg, h2⟩ := hl2 i o hi ho
      simp only [m', if_neg hi] at hf
      simp only [m', if_pos hi'] at hf'
      exact absurd hf' (hdis i b2 hi hg (by rw [h2]; rfl) hf)
    · obtain ⟨hg, h2⟩ := hl2 i o hi ho
      obtain ⟨hg', h2'⟩ := hl2 i' o' hi' ho'
      simp only [m', if_neg hi] at hf
      simp only [m', if_neg hi'] at hf'
      exact hok.apart i i' b2 (by rw [h2]; rfl) (by rw [h2']; rfl) hf hf'
theorem idx_in {sz i i' off j' k : Nat} (hj : j' < sz) (hk : off + k ≤ sz) (h1 : i * sz + off ≤ i' * sz + j') (h2 : i' * sz + j' < i * sz + off + k) : i' = i ∧ off ≤ j' ∧ j' < off + k := by
  have hi : i' = i := by
    rcases Nat.lt_trichotomy i' i with h | h | h
    · have : (i' + 1) * sz ≤ i * sz := Nat.mul_le_mul_right _ h
      rw [Nat.add_mul] at this; omega
    · exact h
    · have : (i + 1) * sz ≤ i' * sz := Nat.mul_le_mul_right _ h
      rw [Nat.add_mul] at this; omega
  subst hi
  omega
theorem run_storeAt_of {t : TypeId} {k : Nat} {b o : Nat} {v : Value} {w' : World} (hk : sizeT P t = some k) (hv : v.cells.size = k) (h : (storeCells ⟨b, o, none⟩ v.cells.toList 0).run P w = .ok () w') :
    (Instr.storeAt t (.pointer (some ⟨b, o, none⟩)) v).run P w = .ok () w' := by
  simp only [Instr.storeAt, Instr.sureAddr, storeVar, Sem.run_bind, Sem.run_pure, Result.andThen_ok, sizeT_spec hk, hv]
  simp [h]
theorem evStore_go {ρ : Rho} {Hs : Nat → Option Ob} {t : TypeId} {x v : Operand} {h : Hint} {W : Wr} {ev : Operand → Value} (hE : evStore P ρ Hs t x v h = some W) (hob : W.owe) (hok : HeapOK n0 H m w)
    (hsub : Agree H Hs) (hg0 : W.id ∉ W.gone) (hhard : ∀ i ob, H.lookup i = some ob → ∀ j ∈ ob.hard, j ∉ W.gone) (hgone : ∀ g ∈ W.gone, (H.lookup g).isSome = true) (hgnd : W.gone.Nodup)
    (hx : ∀ av, ρ x = some av → AVRep H m w av (ev x)) (hv : ∀ av, ρ v = some av → AVRep H m w av (ev v)) :
    ∃ w' m', (Instr.storeAt t (ev x) (ev v)).run P w = .ok () w' ∧ HeapOK n0 ((W.id, W.ob) :: dropL W.gone H) m' w' ∧ Step n0 [] W.gone H m w ((W.id, W.ob) :: dropL W.gone H) m' w' := by
  unfold evStore at hE
  split at hE
  · rename_i id off tv k hρx hρv hk
    split at hE
    · rename_i xs hobj
      split at hE
      · rename_i hc
        cases hE
        obtain ⟨hck, hle⟩ := hc
        obtain ⟨ha, b, hv0, hev⟩ := hx _ hρx
        obtain ⟨ob, hl⟩ := Option.isSome_iff_exists.1 ha
        cases hsub id ob _ hl hobj
        obtain ⟨b', cur, E, hv', hb, hcs, hf, hxr⟩ := hok.ob id _ hl
        rw [hv0] at hv'; cases hv'
        have hcells := TVRep.cells hok (hv _ hρv)
        have hone := XsRep.oneCell hok hcells
        obtain ⟨cur', g1, g2, g3⟩ := store_cells P b off E (0, 0) (ev v).cells.toList 0 cur w hb (.inl rfl) (by simp [hcells.1]; omega) hone
        have hsz : cur'.size = (xs.take off ++ tv.cells ++ xs.drop (off + k)).length := by
          simp only [List.length_append, List.length_take, List.length_drop]; omega
        have hdrop : dropL ([] : List Nat) H = H := by simp [dropL]
        have hvk : (ev v).cells.size = k := by rw [hcells.1, hck]
        have g4 : ∀ q, cur'[q]? = if off ≤ q ∧ q < off + k then (ev v).cells.toList[q - off]? else cur[q]? := fun q => by
          rw [g3 q]; simp only [Array.length_toList, Nat.add_zero, Nat.sub_zero, hvk]
        have := set_box hok hl hv0 hb hsz (fun j y hj => by
          rw [g4 j]
          by_cases h1 : j < off
          · rw [if_neg (by omega)]
            rw [List.append_assoc, List.getElem?_append, if_pos (by simp; omega), List.getElem?_take, if_pos h1] at hj
            exact hxr j y hj
          · by_cases h2 : j < off + k
            · rw [if_pos (by omega)]
              rw [List.append_assoc, List.getElem?_append, if_neg (by simp; omega), List.getElem?_append] at hj
              simp only [List.length_take] at hj
              rw [if_pos (by omega)] at hj
              have : j - min off xs.length = j - off := by omega
              rw [this] at hj
              obtain ⟨u, hu, hr⟩ := hcells.2 _ y hj
              exact ⟨u, by simpa using hu, hr⟩
            · rw [if_neg (by omega)]
              rw [List.append_assoc, List.getElem?_append, if_neg (by simp; omega), List.getElem?_append] at hj
              simp only [List.length_take] at hj
              rw [if_neg (by omega), List.getElem?_drop] at hj
              have : off + k + (j - min off xs.length - tv.cells.length) = j := by omega
              rw [this] at hj
              exact hxr j y hj)
        refine ⟨w.setRow b cur', m, ?_, ?_, ?_⟩
        · rw [hev]; exact run_storeAt_of hk (by rw [hcells.1, hck]) g1
        · simp only [hdrop]; exact this.1
        · simp only [hdrop]; exact this.2
      · cases hE
    · cases hE
  · rename_i id i off tv k hρx hρv hk
    split at hE
    · rename_i d n sz get n' get' row hobj
      split at hE
      · rename_i hc
        cases hE
        obtain ⟨hck, hle, hdg⟩ := hc
        obtain ⟨rfl, hset, hrow, hrx, hds⟩ := hob
        subst hrow
        obtain ⟨d2, n2, sz2, g2, b, cap, hl, hi, hv0, hev⟩ := hx _ hρx
        cases hsub id _ _ hl hobj
        have hown : OwnC w (.seq n' sz get) (m.foot id) (m.val id) := (hok.ob id _ hl).1
        obtain ⟨cur, E, fr, G, hn, hfr, hb, hcs, hFb, hrows, hG⟩ := OwnC.rows hown hv0
        have hcells := TVRep.cells hok (hv _ hρv)
        have hone := XsRep.oneCell hok hcells
        have hbound : i * sz + off + k ≤ cur.size := by
          have : (i + 1) * sz ≤ cap * sz := Nat.mul_le_mul_right _ (by omega)
          rw [Nat.add_mul] at this; omega
        obtain ⟨cur', s1, s2, s3⟩ := store_cells P b (i * sz + off) E fr (ev v).cells.toList 0 cur w hb hfr (by simp [hcells.1]; omega) hone
        have hvk : (ev v).cells.size = k := by rw [hcells.1, hck]
        have s4 : ∀ q, cur'[q]? = if i * sz + off ≤ q ∧ q < i * sz + off + k then (ev v).cells.toList[q - (i * sz + off)]? else cur[q]? := fun q => by
          rw [s3 q]; simp only [Array.length_toList, Nat.add_zero, Nat.sub_zero, hvk]
        have hrx' := isRXs_alive hsub tv.cells _ hgone hrx
        obtain ⟨hcl, F, hF1, hF2, hF3⟩ := isRXs_own hok tv.cells _ (ev v).cells.toList hrx' (by rw [← goneX_ids _ _ hrx]; exact hgnd) (by simpa using hcells.1) (fun j x hj => by simpa using hcells.2 j x hj)
        have hother : ∀ q, q ≠ b → (w.setRow b cur').heap[q]? = w.heap[q]? := fun q hq => setRow_other w b q cur' hq
        have hFg : ∀ j x, F j x → ∃ g ∈ tv.cells.flatMap goneX, (H.lookup g).isSome = true ∧ m.foot g x := by
          intro j x hx
          obtain ⟨g, hg, r⟩ := hF2 j x hx
          rw [← goneX_ids _ _ hrx] at hg
          exact ⟨g, hg, r⟩
        have hFb2 : ∀ j x, F j x → x ≠ b := by
          rintro j x hx rfl
          obtain ⟨g, hg, ha, hf⟩ := hFg j x hx
          exact hg0 ((hok.apart id g x (by rw [hl]; rfl) ha hFb hf) ▸ hg)
        have hGd : ∀ i1 j1 j2 x, i1 < n' → j1 < sz → G i1 j1 x → ¬ F j2 x := by
          intro i1 j1 j2 x h1 h2 hg hf
          obtain ⟨g, hgm, ha, hf'⟩ := hFg j2 x hf
          exact hg0 ((hok.apart id g x (by rw [hl]; rfl) ha (hG i1 j1 x h1 h2 hg).1 hf') ▸ hgm)
        obtain ⟨m', h1, h2⟩ := set_arr (gone := tv.cells.flatMap goneX) (get' := get') (cur' := cur') hok hl hv0 hb s2 hg0 hgone hhard hFb hdg (fun hd i' j' hi' hj' => by
          by_cases hin : i' = i ∧ off ≤ j' ∧ j' < off + k
          · obtain ⟨e1, e2, e3⟩ := hin
            subst e1
            obtain ⟨d1, d2⟩ := hds hd (j' - off) (by omega)
            rw [show off + (j' - off) = j' by omega] at d1 d2
            exact ⟨by rw [d1, d2], fun h => by rw [d1] at h; cases h⟩
          · refine ⟨by rw [(hset i' j' hi' hj').resolve_left hin], fun _ => ?_⟩
            rw [s4, if_neg (fun hh => hin (idx_in hj' hle hh.1 (by omega)))]) (by
          rw [hv0]
          refine .inr ⟨b, cap, cur', E, fr, rfl, hn, by rw [s2]; exact hfr, setRow_heap w b cur cur' E fr hb, by rw [s2, hcs], .inl hFb,
            fun i' j' x => if i' = i ∧ off ≤ j' ∧ j' < off + k then F (j' - off) x else G i' j' x, fun i' j' hi' hj' => ⟨fun x hx => ?_, ?_⟩, fun i1 j1 i2 j2 x hi1 hj1 hi2 hj2 hx1 hx2 => ?_⟩
          · dsimp only at hx
            split at hx
            · obtain ⟨g, hg, ha, hf⟩ := hFg _ x hx
              exact ⟨.inr ⟨g, hg, hf⟩, hFb2 _ x hx⟩
            · obtain ⟨hg1, hg2⟩ := hG i' j' x hi' hj' hx
              exact ⟨.inl hg1, hg2⟩
          · by_cases hin : i' = i ∧ off ≤ j' ∧ j' < off + k
            · obtain ⟨e1, e2, e3⟩ := hin
              subst e1
              obtain ⟨q, hq, ho⟩ := hF1 (j' - off) (get' i' j') (by
                rw [List.getElem?_map, List.getElem?_range (by omega)]
                simp only [Option.map_some]
                congr 2; omega)
              refine ⟨q, ?_, ?_⟩
              · rw [s4, if_pos (by omega)]
                have : i' * sz + j' - (i' * sz + off) = j' - off := by omega
                rw [this]; exact hq
              · simp only [e2, e3, and_self, ite_true]
                exact OwnC.heap (fun x hx => hother x (hFb2 _ x hx)) ho
            · simp only [if_neg hin]
              obtain ⟨q, hq, ho⟩ := hrows.2.1 i' j' hi' hj'
              refine ⟨q, ?_, ?_⟩
              · rw [s4, if_neg (fun hh => hin (idx_in hj' hle hh.1 (by omega)))]
                rw [List.getElem?_take] at hq
                rw [if_pos (idx_lt hi' hj')] at hq
                simpa using hq
              · rw [(hset i' j' hi' hj').resolve_left hin]
                exact OwnC.heap (fun x hx => hother x (hG i' j' x hi' hj' hx).2) ho
          · dsimp only at hx1 hx2
            split at hx1 <;> split at hx2
            · rename_i a1 a2
              have := hF3 _ _ x hx1 hx2
              exact ⟨by omega, by omega⟩
            · exact absurd hx1 (hGd i2 j2 _ x hi2 hj2 hx2)
            · exact absurd hx2 (hGd i1 j1 _ x hi1 hj1 hx1)
            · exact hrows.2.2 i1 j1 i2 j2 x hi1 hj1 hi2 hj2 hx1 hx2)
        exact ⟨w.setRow b cur', m', by rw [hev]; exact run_storeAt_of hk (by rw [hcells.1, hck]) s1, h1, h2⟩
      · cases hE
    · cases hE
  · cases hE
end Go.Fw
