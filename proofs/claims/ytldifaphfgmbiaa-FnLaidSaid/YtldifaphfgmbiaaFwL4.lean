/- Slices made, built, cut; bytes and strings. -/
import Derived.Test.YtldifaphfgmbiaaFwL3
import Derived.Laws.BytesArg
import Derived.Laws.IdiomStrings
import Derived.Laws.MakeOwn
namespace Go.Fw
open Go Go.RowKit

variable {P : Program} {n0 : Nat → Prop} {H : List (Nat × Ob)} {m : Mem} {w : World}

/-- A new list or array in a new block. -/
theorem new_seq {o : Oper} {a : Act} {id n sz : Nat} {get : Nat → Nat → C} {islst : Kd} {E : Eff} {gone : List Nat} {ob : Prop} (hE : E = { av := .v (.one (obX islst id n sz get)), new := [(id, obO islst n sz get)], gone := gone, ob := ob })
    (hok : HeapOK n0 H m w) (hn0 : ∀ b, n0 b → b < w.heap.size) (w' : World) (hw : Below w.heap.size w w') (v : Value) (hrun : (execOp a.eval o).run P w = .ok (.value v) w') (foot : Nat → Prop)
    (hfoot : ∀ b, foot b → (w.heap.size ≤ b ∧ b < w'.heap.size) ∨ ∃ g ∈ gone, (H.lookup g).isSome = true ∧ m.foot g b)
    (hblk : ∀ b, Value.blk v = some b → w.heap.size ≤ b)
    (hids : ∀ i ob, H.lookup i = some ob → id ∉ ob.ids) (hhard : ∀ i ob, H.lookup i = some ob → ∀ j ∈ ob.hard, j ∉ gone)
    (hgone : ∀ g ∈ gone, (H.lookup g).isSome = true) (hdeep : islst = .kd → ∀ g ∈ gone, ∃ n sz gt, H.lookup g = some (.arr true n sz gt)) (hrep : OwnC w' (.seq n sz get) foot v) : OpGo P n0 o a w H m E := by
  obtain ⟨m', h1, h2, h3⟩ := take_obj (gone := gone) (below_toK hw hn0) hok hn0 (fun b hb _ => hw.block b hb) (fun b o q hq _ => by rw [cell_below hw (World.block_lt_of_cell? w ⟨b, o, none⟩ hq)]; exact hq)
    id n sz get islst v foot hfoot (fun b o hb hbk _ => by have := hblk b hbk; omega) hdeep hids hhard hgone hrep
  subst hE
  unfold OpGo
  rw [hrun]
  simp only [Eff.heap, Eff.ids, List.map_cons, List.map_nil, List.singleton_append]
  refine ⟨m', h1, h2, ?_⟩
  cases islst
  · have hl : (((id, obO .kl n sz get) :: dropL gone H)).lookup id = some (.lst n sz get) := by simp [obO]
    have := lst_crep h1 hl
    rw [h3] at this
    exact ⟨this, fun _ => h3.symm⟩
  · exact ⟨by simp, by simp [obO], h3.symm⟩
  · exact ⟨by simp, by simp [obO], h3.symm⟩

theorem nilHeap {w : World} {m : Mem} : HeapOK n0 [] m w where
  ob id ob h := by cases h
  lo id b h := by cases h
  apart id id' b h := by cases h

theorem zeroRow_get {zs : List X} : ∀ {g : Nat → C}, zeroRow (fun _ => none) zs g → ∀ (j : Nat) (x : X), zs[j]? = some x → isRX (fun _ => none) x (g j) := by
  induction zs with
  | nil => intro g _ j x h; simp at h
  | cons z zs ih =>
    intro g h j x hj
    cases j with
    | zero => simp at hj; subst hj; exact h.1
    | succ j => exact ih h.2 j x (by simpa using hj)

theorem isRX_none {x : X} {c : C} {v : Value} {w' : World} (h : isRX (fun _ => none) x c) (hr : XRep [] m w x v) : OwnC w' c (fun _ => False) v := by
  cases x with
  | c d =>
    obtain ⟨rfl, hs⟩ := h
    cases c <;> first | exact hr | exact fn_own hr hs | exact hs.elim
  | nils =>
    have hv : v = .slice none 0 0 := hr
    cases c <;> first | exact h.elim | exact .inl ⟨hv, h⟩
  | arr | lst | ptr | elt | clo | sub | fx => cases c <;> exact h.elim

theorem madeCells_get {z : Array Value} {n sz i j : Nat} (hz : z.size = sz) (hj : j < sz) (h : i * sz + j < n) : (madeCells z n)[i * sz + j]? = z[j]? := by
  have hm : (i * sz + j) % sz = j := by rw [Nat.mul_comm, Nat.mul_add_mod, Nat.mod_eq_of_lt hj]
  simp only [madeCells]
  rw [Array.getElem?_map, Array.getElem?_range]
  · simp only [h, ite_true, Option.map_some, hz, hm]
    rw [getElem!_pos z j (by omega), getElem?_pos z j (by omega)]

theorem evMake_go {t : TypeId} {l c : AV} {h : Hint} {E : Eff} {o : Oper} {a : Act} {u v : Value} (hE : evMake P t l c h = some E) (hob : E.ob) (hok : HeapOK n0 H m w) (hn0 : ∀ b, n0 b → b < w.heap.size)
    (hids : ∀ id ob, H.lookup id = some ob → ∀ i ∈ ob.ids, i ∉ E.ids) (hrun : (execOp a.eval o).run P w = ((Instr.makeSlice t u v).run P w).andThen fun v w' => .ok (.value v) w')
    (hl : AVRep H m w l u) (hc : AVRep H m w c v) : OpGo P n0 o a w H m E := by
  unfold evMake at hE
  split at hE
  case h_2 => cases hE
  rename_i isl id n get e sz bytes kl l kc c hob0 hel
  clear hob0
  split at hE
  case h_2 => cases hE
  rename_i zs hz
  cases hE
  obtain ⟨h0, hlc, hn, hb, hzr⟩ := hob
  obtain ⟨ti, z, ht, hi, hzv, hisz, hiby, hzs, hsz, hby⟩ := elemT_spec hel
  have hu : u = .int kl l := hl
  have hv : v = .int kc c := hc
  subst hlc
  have hb2 : (ti.bytes : Int) * l ≤ 140737488355328 := by
    rw [← hn, hiby, Int.mul_comm]
    have : ((n * bytes : Nat) : Int) ≤ 140737488355328 := by omega
    simpa using this
  have hl63 : l ≤ 140737488355328 := by
    have : n ≤ n * bytes := Nat.le_mul_of_pos_right _ hby
    omega
  have hr := run_make (P := P) w t e ti z ht hi hzv kl kc l l h0 (Int.le_refl _) (by omega) (by omega)
  have hln : l.toNat = n := by omega
  rw [hln, hisz] at hr
  refine new_seq (islst := isl) (gone := []) (ob := _) rfl hok hn0 (w.alloc (.cells (madeCells z.cells (n * sz)) e)) ((Below.refl _ _).alloc (Nat.le_refl _) _) (.slice (some ⟨w.heap.size, 0, none⟩) n n) ?_ (fun b => b = w.heap.size) (fun b hb => .inl ⟨by omega, by subst hb; simp⟩)
    (fun b hb => by simp [Value.blk] at hb; omega) (fun i ob hl hm => hids i ob hl id hm (by simp [Eff.ids])) (by simp) (by simp) (by simp) ?_
  · rw [hrun, hu, hv, hr]; rfl
  · obtain ⟨ti', z', hi', hzv', hzrep, _⟩ := zeroXs_rep (H := []) (m := m) (w := w) hz
    rw [hi] at hi'; cases hi'
    rw [hzv] at hzv'; cases hzv'
    refine .inr ⟨w.heap.size, n, madeCells z.cells (n * sz), e, (0, 0), rfl, Nat.le_refl _, .inl rfl, heap_alloc_new _ _, size_madeCells _ _, rfl, fun _ _ _ => False, fun i j hi hj => ⟨fun x hx => hx.elim, ?_⟩, fun i j i' j' x _ _ _ _ hx => hx.elim⟩
    have hj' : j < zs.length := by have := hzrep.1; omega
    obtain ⟨q, hq, hx⟩ := hzrep.2 j zs[j] (List.getElem?_eq_getElem hj')
    refine ⟨q, ?_, isRX_none (zeroRow_get (hzr i hi) j zs[j] (List.getElem?_eq_getElem hj')) hx⟩
    rw [madeCells_get hzs hj (idx_lt hi hj)]
    exact hq

theorem repXs_length {zs : List X} {n : Nat} : (repXs zs n).length = n * zs.length := by
  induction n with
  | zero => simp [repXs]
  | succ n ih => simp [repXs, ih, Nat.add_mul]; omega
theorem repXs_get {zs : List X} : ∀ {n k : Nat} {x : X}, (repXs zs n)[k]? = some x → zs[k % zs.length]? = some x ∧ k < n * zs.length := by
  intro n
  induction n with
  | zero => intro k x h; simp [repXs] at h
  | succ n ih =>
    intro k x h
    simp only [repXs, List.getElem?_append] at h
    split at h
    · rename_i hk
      rw [Nat.mod_eq_of_lt hk]
      exact ⟨h, by rw [Nat.add_mul]; omega⟩
    · rename_i hk
      obtain ⟨h1, h2⟩ := ih h
      rw [← Nat.mod_eq_sub_mod (by omega)] at h1
      exact ⟨h1, by rw [Nat.add_mul]; omega⟩

theorem evBuildSlice_go {ρ : Rho} {Hs : Nat → Option Ob} {t : TypeId} {len : Nat} {parts : Array (Nat × Operand)} {h : Hint} {E : Eff} {o : Oper} {a : Act} (hE : evBuildSlice P ρ Hs t len parts.toList h = some E) (hob : E.ob) (hok : HeapOK n0 H m w) (hn0 : ∀ b, n0 b → b < w.heap.size)
    (hsub : Agree H Hs)
    (hids : ∀ id ob, H.lookup id = some ob → ∀ i ∈ ob.ids, i ∉ E.ids) (hhard : ∀ i ob, H.lookup i = some ob → ∀ j ∈ ob.hard, j ∉ E.gone)
    (hgone : ∀ g ∈ E.gone, (H.lookup g).isSome = true) (hgnd : E.gone.Nodup) (hrun : (execOp a.eval o).run P w = ((Instr.buildSlice t len (parts.map fun (i, x) => (i, a.eval x))).run P w).andThen fun v w' => .ok (.value v) w')
    (hr : ∀ p ∈ parts, ∀ av, ρ p.2 = some av → AVRep H m w av (a.eval p.2)) : OpGo P n0 o a w H m E := by
  unfold evBuildSlice at hE
  split at hE
  case h_2 => cases hE
  rename_i isl id n get e sz bytes hob0 hel
  clear hob0
  split at hE
  case h_2 => cases hE
  rename_i zs ps hz hps
  split at hE
  case h_2 => cases hE
  rename_i xs hfill
  split at hE
  case isFalse => cases hE
  rename_i hle
  obtain ⟨hle, hkd⟩ := hle
  cases hE
  obtain ⟨rfl, hown⟩ := hob
  obtain ⟨ti, z, ht, hi, hzv, hisz, hiby, hzs, hsz, hby⟩ := elemT_spec hel
  obtain ⟨ti', z', hi', hzv', hzrep, _⟩ := zeroXs_rep (H := H) (m := m) (w := w) hz
  rw [hi] at hi'; cases hi'
  rw [hzv] at hzv'; cases hzv'
  have hzl : zs.length = sz := by have := hzrep.1; omega
  have hrep0 : XsRep H m w (repXs zs n) (madeCells z.cells (n * sz)) := by
    refine ⟨by rw [size_madeCells, repXs_length, hzl], fun k x hk => ?_⟩
    obtain ⟨h1, h2⟩ := repXs_get hk
    obtain ⟨q, hq, hx⟩ := hzrep.2 _ x h1
    refine ⟨q, ?_, hx⟩
    have hkd : k = k / sz * sz + k % sz := by rw [Nat.mul_comm]; exact (Nat.div_add_mod k sz).symm
    rw [hzl] at h1 h2 hq
    have := madeCells_get (n := n * sz) (i := k / sz) (j := k % sz) hzs (Nat.mod_lt _ hsz) (by rw [← hkd]; exact h2)
    rw [← hkd] at this
    rw [this, hq]
  obtain ⟨cs', hf, hx⟩ := fill_rep _ ps _ _ xs _ hfill hrep0 (partsX_rep (ev := a.eval) hok hps (fun p hp av hav => hr p (by simpa using hp) av hav))
  have hgoneX : xs.flatMap goneX = xs.flatMap X.ids := by
    have key : ∀ (xs : List X) (cs : List C), isRXs Hs xs cs → xs.flatMap goneX = xs.flatMap X.ids := by
      intro xs
      induction xs with
      | nil => intro cs _; rfl
      | cons x xs ih =>
        intro cs h
        cases cs with
        | nil => exact h.elim
        | cons c cs =>
          simp only [List.flatMap_cons]
          rw [ih cs h.2]
          congr 1
          have h1 := h.1
          cases x <;> first | rfl | (cases c <;> exact h1.elim)
    exact key xs _ hown
  have hown' : isRXs (fun i => H.lookup i) xs (cellsOf sz get n) := by
    have key : ∀ (xs : List X) (cs : List C), (∀ g ∈ xs.flatMap goneX, (H.lookup g).isSome = true) → isRXs Hs xs cs → isRXs (fun i => H.lookup i) xs cs := by
      intro xs
      induction xs with
      | nil => intro cs _ h; cases cs <;> exact h
      | cons x xs ih =>
        intro cs hg h
        cases cs with
        | nil => exact h.elim
        | cons c cs =>
          refine ⟨?_, ih cs (fun g hgm => hg g (List.mem_append_right _ hgm)) h.2⟩
          have hx := h.1
          have al : ∀ id, id ∈ goneX x → ∃ ob, H.lookup id = some ob := fun id hi => Option.isSome_iff_exists.1 (hg id (List.mem_append_left _ hi))
          cases x with
          | c | nils | ptr | elt | clo | sub | fx => cases c <;> exact hx
          | arr id =>
            obtain ⟨ob, hl⟩ := al id (by simp [goneX])
            simp only [isRX] at hx ⊢
            rw [hl]
            split at hx
            · rename_i e; cases hsub id ob _ hl e; exact hx
            · exact hx.elim
          | lst id n sz g =>
            obtain ⟨ob, hl⟩ := al id (by simp [goneX])
            simp only [isRX] at hx ⊢
            rw [hl]
            split at hx
            · rename_i e; cases hsub id ob _ hl e; exact hx
            · exact hx.elim
    exact key xs _ hgone hown
  obtain ⟨hcl, F, hF1, hF2, hF3⟩ := isRXs_own hok xs _ cs'.toList hown' (by rw [← hgoneX]; exact hgnd) (by simpa using hx.1) (fun j x hj => by simpa using hx.2 j x hj)
  have hcs : cs'.size = n * sz := by rw [hx.1]; rw [cellsOf, List.length_map, List.length_range] at hcl; omega
  refine new_seq (islst := isl) (gone := xs.flatMap goneX) (ob := _) rfl hok hn0 (w.alloc (.cells cs' e)) ((Below.refl _ _).alloc (Nat.le_refl _) _) (.slice (some ⟨w.heap.size, 0, none⟩) n n) ?_
    (fun b => b = w.heap.size ∨ ∃ g ∈ xs.flatMap goneX, (H.lookup g).isSome = true ∧ m.foot g b) (fun b hb => ?_) (fun b hb => by simp [Value.blk] at hb; omega) (fun i ob hl hm => hids i ob hl id hm (by simp [Eff.ids])) hhard hgone (fun hl g hg => okKd_spec hsub hgone hkd hl g hg) ?_
  · rw [hrun]
    have hmc : (if n * ti.size = 0 then (#[] : Array Value) else z.cells) = if n * sz = 0 then #[] else z.cells := by rw [hisz]
    have hf' : Instr.fill (fun i => some (i * ti.size, ti.size)) ((Array.range (n * ti.size)).map ((if n * ti.size = 0 then (#[] : Array Value) else z.cells)[· % (if n * ti.size = 0 then (#[] : Array Value) else z.cells).size]!)) (parts.map fun (p : Nat × Operand) => (p.1, a.eval p.2)).toList = some cs' := by
      rw [hisz]
      rw [Array.toList_map]
      by_cases h0 : n * sz = 0
      · rw [h0] at hf ⊢
        simp only [ite_true]
        have : madeCells z.cells 0 = #[] := Array.eq_empty_of_size_eq_zero (size_madeCells _ _)
        rw [this] at hf
        simpa [Array.range_zero'] using hf
      · simp only [if_neg h0]
        exact hf
    have hlim : ¬ n * ti.size > 16777216 := by rw [hisz]; omega
    by_cases h0 : n * ti.size = 0
    · simp only [h0, ite_true] at hf'
      simp [Instr.buildSlice, run_underlying ht, sizeOf, typeInfo, hi, h0, newRow]
      simp at hf'
      rw [hf']
      simp
    · simp only [h0, ite_false] at hf'
      simp [Instr.buildSlice, run_underlying ht, sizeOf, typeInfo, hi, h0, hlim, newRow, zeroValue, hzv]
      simp at hf'
      rw [hf']
      simp
  · rcases hb with rfl | hb
    · exact .inl ⟨Nat.le_refl _, by simp⟩
    · exact .inr hb
  · refine .inr ⟨w.heap.size, n, cs', e, (0, 0), rfl, Nat.le_refl _, .inl rfl, heap_alloc_new _ _, hcs, .inl rfl, fun i j => F (i * sz + j), fun i j hi hj => ⟨fun x hx => ?_, ?_⟩, fun i j i' j' x hi hj hi' hj' hg hg' => ?_⟩
    · obtain ⟨g, hg, ha, hf⟩ := hF2 _ x hx
      rw [← hgoneX] at hg
      refine ⟨.inr ⟨g, hg, ha, hf⟩, ?_⟩
      have := (hok.lo g x ha hf).2; omega
    · have hlt := idx_lt hi hj
      have hd : (i * sz + j) / sz = i := by rw [Nat.mul_comm, Nat.mul_add_div hsz, Nat.div_eq_of_lt hj, Nat.add_zero]
      have hm : (i * sz + j) % sz = j := by rw [Nat.mul_comm, Nat.mul_add_mod, Nat.mod_eq_of_lt hj]
      obtain ⟨q, hq, ho⟩ := hF1 (i * sz + j) (get i j) (by
        unfold cellsOf
        rw [List.getElem?_map, List.getElem?_range hlt]
        simp [hd, hm])
      refine ⟨q, by simpa using hq, OwnC.heap (fun b hb => ?_) ho⟩
      obtain ⟨g, _, ha, hf⟩ := hF2 _ b hb
      exact ((Below.refl w.heap.size w).alloc (Nat.le_refl _) _).block b (hok.lo g b ha hf).2
    · have := hF3 _ _ x hg hg'
      have hd : ∀ i j, j < sz → (i * sz + j) / sz = i := fun i j hj => by rw [Nat.mul_comm, Nat.mul_add_div hsz, Nat.div_eq_of_lt hj, Nat.add_zero]
      have hi' : i = i' := by rw [← hd i j hj, ← hd i' j' hj', this]
      subst hi'
      exact ⟨rfl, by omega⟩

theorem isVX_rep {av : Av} {x : X} {c : C} {v : Value} (hav : av = avOf H m) (h : isVX x c) (hr : XRep H m w x v) : CRep w av c v := by
  subst hav
  cases x with
  | c d => cases h; exact hr
  | nils =>
    have hv : v = .slice none 0 0 := hr
    cases c with
    | seq n sz g => exact ⟨none, 0, by rw [hv, show n = 0 from h], by rw [show n = 0 from h]; exact Nat.le_refl _, fun hp => absurd hp (by rw [show n = 0 from h]; simp)⟩
    | _ => exact h.elim
  | lst id n sz g => cases h; exact hr.1
  | fx id j d => cases h; exact hr.2
  | arr | ptr | elt | clo | sub => exact h.elim
theorem isVXs_get : ∀ {xs : List X} {cs : List C}, isVXs xs cs → cs.length = xs.length ∧ ∀ (k : Nat) x c, xs[k]? = some x → cs[k]? = some c → isVX x c := by
  intro xs
  induction xs with
  | nil => intro cs h; cases cs with
    | nil => exact ⟨rfl, by simp⟩
    | cons => exact h.elim
  | cons x xs ih =>
    intro cs h
    cases cs with
    | nil => exact h.elim
    | cons c cs =>
      obtain ⟨h1, h2⟩ := ih h.2
      refine ⟨by simp [h1], fun k y d hy hd => ?_⟩
      cases k with
      | zero => simp at hy hd; subst hy; subst hd; exact h.1
      | succ k => exact h2 k y d (by simpa using hy) (by simpa using hd)

theorem evBuildView_go {ρ : Rho} {t : TypeId} {len n : Nat} {get : Nat → Nat → C} {parts : Array (Nat × Operand)} {E : Eff} {o : Oper} {a : Act} (hE : evBuildView P ρ t len parts.toList n get = some E) (hob : E.ob) (hok : HeapOK n0 H m w) (hn0 : ∀ b, n0 b → b < w.heap.size)
    (hrun : (execOp a.eval o).run P w = ((Instr.buildSlice t len (parts.map fun (i, x) => (i, a.eval x))).run P w).andThen fun v w' => .ok (.value v) w')
    (hr : ∀ p ∈ parts, ∀ av, ρ p.2 = some av → AVRep H m w av (a.eval p.2)) : OpGo P n0 o a w H m E := by
  unfold evBuildView at hE
  split at hE
  case h_2 => cases hE
  rename_i e sz bytes hel
  split at hE
  case h_2 => cases hE
  rename_i zs ps hz hps
  split at hE
  case h_2 => cases hE
  rename_i xs hfill
  split at hE
  case isFalse => cases hE
  rename_i hle
  cases hE
  obtain ⟨rfl, hown⟩ := hob
  obtain ⟨ti, z, ht, hi, hzv, hisz, hiby, hzs, hsz, hby⟩ := elemT_spec hel
  obtain ⟨ti', z', hi', hzv', hzrep, _⟩ := zeroXs_rep (H := H) (m := m) (w := w) hz
  rw [hi] at hi'; cases hi'
  rw [hzv] at hzv'; cases hzv'
  have hzl : zs.length = sz := by have := hzrep.1; omega
  have hrep0 : XsRep H m w (repXs zs n) (madeCells z.cells (n * sz)) := by
    refine ⟨by rw [size_madeCells, repXs_length, hzl], fun k x hk => ?_⟩
    obtain ⟨h1, h2⟩ := repXs_get hk
    obtain ⟨q, hq, hx⟩ := hzrep.2 _ x h1
    refine ⟨q, ?_, hx⟩
    have hkd : k = k / sz * sz + k % sz := by rw [Nat.mul_comm]; exact (Nat.div_add_mod k sz).symm
    rw [hzl] at h1 h2 hq
    have := madeCells_get (n := n * sz) (i := k / sz) (j := k % sz) hzs (Nat.mod_lt _ hsz) (by rw [← hkd]; exact h2)
    rw [← hkd] at this
    rw [this, hq]
  obtain ⟨cs', hf, hx⟩ := fill_rep _ ps _ _ xs _ hfill hrep0 (partsX_rep (ev := a.eval) hok hps (fun p hp av hav => hr p (by simpa using hp) av hav))
  obtain ⟨hcl, hget⟩ := isVXs_get hown
  have hcs : cs'.size = n * sz := by rw [hx.1]; rw [cellsOf, List.length_map, List.length_range] at hcl; omega
  have hw : Below w.heap.size w (w.alloc (.cells cs' e)) := (Below.refl _ _).alloc (Nat.le_refl _) _
  have hlt : ∀ {id : Nat} {ob : Ob} {b : Nat}, H.lookup id = some ob → reach m id ob b → b < w.heap.size := fun hl h => (hok.lo _ _ (by rw [hl]; rfl) ((hok.ob _ _ hl).reach h)).2
  have hS : Step n0 [] [] H m w H m (w.alloc (.cells cs' e)) := by
    refine ⟨below_toK hw hn0, fun b o u hu hn => ⟨?_, hn⟩, fun _ _ => rfl, fun _ _ => rfl, fun id ob h _ _ => ⟨ob, h, ob.like_refl⟩, fun id h _ => h⟩
    rw [cell_below hw (World.block_lt_of_cell? w ⟨b, o, none⟩ hu)]; exact hu
  have hok' : HeapOK n0 H m (w.alloc (.cells cs' e)) := by
    refine ⟨fun id ob hl => ObRep.step hS rfl (fun _ => Iff.rfl) rfl (by simp) (by simp) (fun b hb => hw.block b (hok.lo id b (by rw [hl]; rfl) hb).2) (hok.ob id ob hl), fun id b ha hf => ?_, hok.apart⟩
    have := hok.lo id b ha hf
    exact ⟨this.1, Nat.lt_of_lt_of_le this.2 hw.size⟩
  have hlim : ¬ n * ti.size > 16777216 := by rw [hisz]; omega
  have hgo : (execOp a.eval o).run P w = .ok (.value (.slice (some ⟨w.heap.size, 0, none⟩) n n)) (w.alloc (.cells cs' e)) := by
    rw [hrun]
    have hf' : Instr.fill (fun i => some (i * ti.size, ti.size)) ((Array.range (n * ti.size)).map ((if n * ti.size = 0 then (#[] : Array Value) else z.cells)[· % (if n * ti.size = 0 then (#[] : Array Value) else z.cells).size]!)) (parts.map fun (p : Nat × Operand) => (p.1, a.eval p.2)).toList = some cs' := by
      rw [hisz]
      rw [Array.toList_map]
      by_cases h0 : n * sz = 0
      · rw [h0] at hf ⊢
        simp only [ite_true]
        have : madeCells z.cells 0 = #[] := Array.eq_empty_of_size_eq_zero (size_madeCells _ _)
        rw [this] at hf
        simpa [Array.range_zero'] using hf
      · simp only [if_neg h0]
        exact hf
    by_cases h0 : n * ti.size = 0
    · simp only [h0, ite_true] at hf'
      simp [Instr.buildSlice, run_underlying ht, sizeOf, typeInfo, hi, h0, newRow]
      simp at hf'
      rw [hf']
      simp
    · simp only [h0, ite_false] at hf'
      simp [Instr.buildSlice, run_underlying ht, sizeOf, typeInfo, hi, h0, hlim, newRow, zeroValue, hzv]
      simp at hf'
      rw [hf']
      simp
  unfold OpGo
  rw [hgo]
  simp only [Eff.heap, Eff.ids, List.map_nil, List.nil_append]
  have hH : (H.filter fun p => !([] : List Nat).contains p.1) = H := List.filter_eq_self.2 (by simp)
  rw [hH]
  refine ⟨m, hok', hS, some ⟨w.heap.size, 0, none⟩, n, rfl, Nat.le_refl _, fun hp => ⟨w.heap.size, 0, rfl, fun i j hi hj => ⟨?_, ?_⟩⟩⟩
  · rintro ⟨id, ob, hl, hre, _⟩
    exact absurd (hlt hl hre) (Nat.lt_irrefl _)
  · have hij := idx_lt hi hj
    have hd : (i * sz + j) / sz = i := by rw [Nat.mul_comm, Nat.mul_add_div hsz, Nat.div_eq_of_lt hj, Nat.add_zero]
    have hm : (i * sz + j) % sz = j := by rw [Nat.mul_comm, Nat.mul_add_mod, Nat.mod_eq_of_lt hj]
    have hxl : i * sz + j < xs.length := by have := hx.1; omega
    obtain ⟨q, hq, ho⟩ := hx.2 (i * sz + j) xs[i * sz + j] (List.getElem?_eq_getElem hxl)
    have hv := hget (i * sz + j) _ (get i j) (List.getElem?_eq_getElem hxl) (by
      unfold cellsOf
      rw [List.getElem?_map, List.getElem?_range hij]
      simp [hd, hm])
    refine ⟨q, ?_, hS.crep (isVX_rep rfl hv ho)⟩
    rw [Nat.zero_add]
    simp only [World.cell?, heap_alloc_new]
    simpa using hq

end Go.Fw
