
import Derived.Test.YtblpjlaihgcilafFwR4
namespace Go.Fw
open Go Go.RowKit
variable {cx : Cx} {s : St} {Q : Exit → St → Prop}
theorem AW.regionA {s' : St} {ob : Prop} {id : Nat} {ops : Array Oper} (hs : List Hint) (ts ids : List Nat) (h : runRegion cx.P cx.N ops.toList hs ts ids s = some (s', ob)) (hob : ob) (hq : Q .normal s') : AW cx (.region id ops false) s Q := by
  have := AW.region (Q := Q) (id := id) hs ts ids h hob hq
  simpa using this
theorem AW.drawnA {s' : St} {ob : Prop} {id : Nat} {ops : Array Oper} (hm : cx.P.follows .mixedOrders = true) (k : Nat) (hs : List Hint) (ts ids : List Nat) (h : runDrawnRegion cx.P cx.N ops.toList k hs ts ids s = some (s', ob)) (hob : ob) (hq : Q .normal s') : AW cx (.region id ops true) s Q := by
  have := AW.dregion (Q := Q) (id := id) hm k hs ts ids h hob hq
  simpa using this
def chk {α : Type} (p : Prop) [Decidable p] (x : Option α) : Option α := if p then x else none
def ite2 {α : Type} (b : Bool) (x y : Option α) : Option α := if b = true then x else y
theorem chk_some {α : Type} {p : Prop} [Decidable p] {x : Option α} {o : α} (h : chk p x = some o) : p ∧ x = some o := by
  unfold chk at h
  split at h
  · exact ⟨by assumption, h⟩
  · cases h
theorem ite2_cases {α : Type} {b : Bool} {x y : Option α} {o : α} (h : ite2 b x y = some o) : (b = true ∧ x = some o) ∨ (b = false ∧ y = some o) := by
  cases b
  · exact .inr ⟨rfl, h⟩
  · exact .inl ⟨rfl, h⟩
theorem bind_some {α β : Type} {x : Option α} {f : α → Option β} {o : β} (h : x.bind f = some o) : ∃ v, x = some v ∧ f v = some o := Option.bind_eq_some_iff.1 h
theorem AW.cond_t {x y : Code} {t : Nat} {b : Bool} (hl : s.env.lookup t = some (.v (.one (.c (.bool b))))) (hb : b = true) (h : AW cx x s Q) : AW cx (.cond (.tmp t) x y) s Q :=
  AW.cond b hl (fun _ => h) (fun h' => by rw [hb] at h'; cases h')
theorem AW.cond_f {x y : Code} {t : Nat} {b : Bool} (hl : s.env.lookup t = some (.v (.one (.c (.bool b))))) (hb : b = false) (h : AW cx y s Q) : AW cx (.cond (.tmp t) x y) s Q :=
  AW.cond b hl (fun h' => by rw [hb] at h'; cases h') (fun _ => h)
def Only (s2 : St) : Exit → St → Prop := fun e s1 => e = .normal ∧ s1 = s2
theorem AW.join1 {x : Code} {s2 : St} (hx : AW cx x s (Only s2)) (hy : Q .normal s2) : AW cx x s Q :=
  hx.mono fun _ _ ⟨he, hs⟩ => by subst he; subst hs; exact hy
theorem blockQ_exit {id : Nat} (h : Q .normal s) : blockQ id Q (.exit id) s := by simpa [blockQ] using h
theorem blockQ_normal {id : Nat} (h : Q .normal s) : blockQ id Q .normal s := h
theorem blockQ_ret {id : Nat} (h : Q .ret s) : blockQ id Q .ret s := h
theorem thenQ_normal {y : Code} (h : AW cx y s Q) : thenQ cx y Q .normal s := h
theorem thenQ_exit {y : Code} {i : Nat} (h : Q (.exit i) s) : thenQ cx y Q (.exit i) s := h
theorem thenQ_ret {y : Code} (h : Q .ret s) : thenQ cx y Q .ret s := h
def loopQ {σ : Type} (cx : Cx) (f : σ → St) (I : σ → Prop) (μ : σ → Nat) (x : σ) (Q : Exit → St → Prop) : Exit → St → Prop
  | .normal, s1 => ∃ y, I y ∧ μ y < μ x ∧ Sub cx s1 (f y)
  | e, s1 => Q e s1
theorem loopQ_exit {σ : Type} {f : σ → St} {I : σ → Prop} {μ : σ → Nat} {x : σ} {i : Nat} (h : Q (.exit i) s) : loopQ cx f I μ x Q (.exit i) s := h
theorem loopQ_ret {σ : Type} {f : σ → St} {I : σ → Prop} {μ : σ → Nat} {x : σ} (h : Q .ret s) : loopQ cx f I μ x Q .ret s := h
theorem loopQ_normal {σ : Type} {f : σ → St} {I : σ → Prop} {μ : σ → Nat} {x : σ} (y : σ) (h : I y) (hm : μ y < μ x) (hs : Sub cx s (f y)) : loopQ cx f I μ x Q .normal s := ⟨y, h, hm, hs⟩
theorem AW.loopQ {σ : Type} {c : Code} (f : σ → St) (I : σ → Prop) (μ : σ → Nat) (x0 : σ) (h0 : I x0) (round : ∀ x, I x → AW cx c (f x) (Fw.loopQ cx f I μ x Q)) : AW cx (.loop c) (f x0) Q :=
  AW.loop f I μ x0 h0 fun x hx => (round x hx).mono fun e s h => by cases e <;> exact h
theorem some_eq {α : Type} {x y : α} (h : some x = some y) : x = y := Option.some.inj h
theorem Sub.rfl {s : St} : Sub cx s s := fun _ _ h => h
theorem Sub.trans {s1 s2 s3 : St} (h : Sub cx s1 s2) (h' : Sub cx s2 s3) : Sub cx s1 s3 := fun a w hr => h' a w (h a w hr)
theorem retOK_of {P : Program} {rs : List ResultVar} {s : St} {res : List CT} (ts : List TV) (h : resTVs P s rs = some ts) (h2 : isRTs (fun i => s.heap.lookup i) ts res) (h3 : (ts.flatMap TV.ids).Nodup) : RetOK P rs s res := by
  unfold RetOK
  rw [h]
  exact ⟨h2, h3⟩
/-! ### Lists as contents -/
def gl {α : Type} [Inhabited α] (cs : α → List C) (xs : List α) : Nat → Nat → C := fun i j => (cs (xs.getD i default)).getD j .nilptr
def sl {α : Type} [Inhabited α] (sz : Nat) (cs : α → List C) (xs : List α) : C := .seq xs.length sz (gl cs xs)
def pl {α : Type} (sz : Nat) (cs : α → List C) (x : α) : C := .ptr sz fun j => (cs x).getD j .nilptr
theorem gl_append {α : Type} [Inhabited α] {cs : α → List C} {sz : Nat} {xs ys : List α} : AppOb xs.length ys.length sz (gl cs xs) (gl cs ys) (gl cs (xs ++ ys)) := by
  refine ⟨fun i j hi _ => ?_, fun i j hi _ => ?_⟩
  · unfold gl
    congr 2
    rw [List.getD_eq_getElem?_getD, List.getD_eq_getElem?_getD, List.getElem?_append_left hi]
  · unfold gl
    congr 2
    rw [List.getD_eq_getElem?_getD, List.getD_eq_getElem?_getD, List.getElem?_append_right (by omega), Nat.add_sub_cancel_left]
theorem gl_setp {α : Type} [Inhabited α] {cs : α → List C} {sz i off k : Nat} {xs : List α} {v : α} (h : ∀ j, j < sz → ¬ (off ≤ j ∧ j < off + k) → (cs v).getD j .nilptr = (cs (xs.getD i default)).getD j .nilptr) (hi : i < xs.length) : SetOb xs.length sz i off k (gl cs xs) (gl cs (xs.set i v)) := by
  intro i' j' hi' hj'
  by_cases h0 : i' = i
  · by_cases h1 : off ≤ j' ∧ j' < off + k
    · exact .inl ⟨h0, h1.1, h1.2⟩
    · right
      subst h0
      unfold gl
      have e : (xs.set i' v).getD i' default = v := by rw [List.getD_eq_getElem?_getD, List.getElem?_set_self hi]; rfl
      rw [e]
      exact h j' hj' h1
  · right
    unfold gl
    congr 2
    rw [List.getD_eq_getElem?_getD, List.getD_eq_getElem?_getD, List.getElem?_set_ne (fun e => h0 e.symm)]
theorem gl_atp {α : Type} [Inhabited α] {cs : α → List C} {k i off : Nat} {xs : List α} {v : α} (hi : i < xs.length) : ((List.range k).map fun j => gl cs (xs.set i v) i (off + j)) = (List.range k).map fun j => (cs v).getD (off + j) .nilptr := by
  apply List.map_congr_left
  intro j _
  unfold gl
  congr 2
  rw [List.getD_eq_getElem?_getD, List.getElem?_set_self hi]
  rfl
def SeqT {α : Type} (sz : Nat) (cs : α → List C) : Prop := ∀ x y j, j < sz → isSeq ((cs x).getD j .nilptr) = isSeq ((cs y).getD j .nilptr)
theorem letP {α : Type} {x y : α} (h : x = y) (P : α → Prop) (p : P x) : P y := h ▸ p
def swapN (a b i : Nat) : Nat := if i = a then b else if i = b then a else i
theorem swapN_swapN (a b i : Nat) : swapN a b (swapN a b i) = i := by
  unfold swapN; split <;> split <;> (try split) <;> (try omega)
def X.swap (a b : Nat) : X → X
  | .ptr id off => .ptr (swapN a b id) off
  | .arr id => .arr (swapN a b id)
  | .elt id i off => .elt (swapN a b id) i off
  | .lst id n sz g => .lst (swapN a b id) n sz g
  | .clo f ids => .clo f (ids.map (swapN a b))
  | .sub id i j => .sub (swapN a b id) i j
  | .fx id j d => .fx (swapN a b id) j d
  | x => x
def TV.swap (a b : Nat) : TV → TV
  | .one x => .one (x.swap a b)
  | .agg xs => .agg (xs.map (X.swap a b))
def AV.swap (a b : Nat) : AV → AV
  | .v t => .v (t.swap a b)
  | .tup ts => .tup (ts.map (TV.swap a b))
  | .undef => .undef
  | .prt id lo len => .prt (swapN a b id) lo len
def Ob.swap (a b : Nat) : Ob → Ob
  | .box xs => .box (xs.map (X.swap a b))
  | ob => ob
def St.swap (a b : Nat) (s : St) : St := ⟨s.env.map fun p => (p.1, p.2.swap a b), s.heap.map fun p => (swapN a b p.1, p.2.swap a b)⟩
theorem swap_lookup (a b : Nat) : ∀ (H : List (Nat × Ob)) (i : Nat), (H.map fun p => (swapN a b p.1, p.2.swap a b)).lookup i = (H.lookup (swapN a b i)).map (Ob.swap a b) := by
  intro H
  induction H with
  | nil => intro i; rfl
  | cons p H ih =>
    intro i
    obtain ⟨k, ob⟩ := p
    simp only [List.map_cons, List.lookup_cons]
    by_cases h : i = swapN a b k
    · subst h
      simp [swapN_swapN]
    · have h2 : ¬ swapN a b i = k := fun e => h (by rw [← e, swapN_swapN])
      have e1 : (i == swapN a b k) = false := by simpa using h
      have e2 : (swapN a b i == k) = false := by simpa using h2
      rw [e1, e2]
      exact ih i
theorem swap_env (a b : Nat) : ∀ (E : List (Nat × AV)) (t : Nat), (E.map fun p => (p.1, p.2.swap a b)).lookup t = (E.lookup t).map (AV.swap a b) := by
  intro E
  induction E with
  | nil => intro i; rfl
  | cons p E ih =>
    intro t
    obtain ⟨k, v⟩ := p
    simp only [List.map_cons, List.lookup_cons]
    cases (t == k)
    · exact ih t
    · rfl
section
variable {a b : Nat} {H : List (Nat × Ob)} {m : Mem} {w : World}
def Mem.swap (a b : Nat) (m : Mem) : Mem := ⟨fun i => m.val (swapN a b i), fun i => m.foot (swapN a b i), fun i => m.sub (swapN a b i)⟩
def swapH (a b : Nat) (H : List (Nat × Ob)) : List (Nat × Ob) := H.map fun p => (swapN a b p.1, p.2.swap a b)
theorem swapH_lookup (i : Nat) : (swapH a b H).lookup i = (H.lookup (swapN a b i)).map (Ob.swap a b) := swap_lookup a b H i
theorem swap_av (x o : Nat) (h : avOf (swapH a b H) (m.swap a b) x o) : avOf H m x o := by
  obtain ⟨id, ob, hl, hb, hm⟩ := h
  rw [swapH_lookup] at hl
  simp only [Option.map_eq_some_iff] at hl
  obtain ⟨ob', hl', rfl⟩ := hl
  refine ⟨swapN a b id, ob', hl', ?_, ?_⟩
  · cases ob' with
    | ext p => exact hb
    | arr d n sz g => cases d <;> exact hb
    | box xs => exact hb
    | lst n sz g => exact hb
  · cases ob' <;> exact hm
theorem swap_alive {i : Nat} (h : (H.lookup i).isSome = true) : ((swapH a b H).lookup (swapN a b i)).isSome = true := by
  rw [swapH_lookup, swapN_swapN]
  simpa using h
theorem swap_val (i : Nat) : (m.swap a b).val (swapN a b i) = m.val i := by simp [Mem.swap, swapN_swapN]
theorem XRep.swap {x : X} {v : Value} (h : XRep H m w x v) : XRep (swapH a b H) (m.swap a b) w (x.swap a b) v := by
  have cr : ∀ {c : C} {v : Value}, CRep w (avOf H m) c v → CRep w (avOf (swapH a b H) (m.swap a b)) c v := fun h => CRep.avoid (fun x o _ h' => swap_av x o h') h
  cases x with
  | c c => exact cr h
  | nils => exact h
  | ptr id off =>
    obtain ⟨ha, bb, hv, rfl⟩ := h
    exact ⟨swap_alive ha, bb, by rw [swap_val]; exact hv, rfl⟩
  | arr id =>
    obtain ⟨ha, hA, rfl⟩ := h
    refine ⟨swap_alive ha, ?_, (swap_val id).symm⟩
    rw [swapH_lookup, swapN_swapN]
    obtain ⟨ob, hob⟩ := Option.isSome_iff_exists.1 ha
    rw [hob] at hA ⊢
    cases ob <;> exact hA
  | elt id i off =>
    obtain ⟨d, n, sz, g, bb, cap, hl, hi, hv, rfl⟩ := h
    refine ⟨d, n, sz, g, bb, cap, ?_, hi, by rw [swap_val]; exact hv, rfl⟩
    rw [swapH_lookup, swapN_swapN, hl]; rfl
  | sub id i j =>
    obtain ⟨n, sz, g, hl, hi, hj, hs, rfl⟩ := h
    refine ⟨n, sz, g, ?_, hi, hj, hs, by simp [Mem.swap, swapN_swapN]⟩
    rw [swapH_lookup, swapN_swapN, hl]; rfl
  | fx id j c => exact ⟨by simp only [Mem.swap, swapN_swapN]; exact h.1, cr h.2⟩
  | lst id n sz g =>
    refine ⟨cr h.1, fun ha => ?_⟩
    rw [swap_val]
    refine h.2 ?_
    rw [swapH_lookup, swapN_swapN] at ha
    simpa using ha
  | clo f ids =>
    obtain ⟨ha, rfl⟩ := h
    refine ⟨fun id hi => ?_, ?_⟩
    · obtain ⟨i, hi', rfl⟩ := List.mem_map.1 hi
      obtain ⟨h1, bb, hb⟩ := ha i hi'
      exact ⟨swap_alive h1, bb, by rw [swap_val]; exact hb⟩
    · congr 2
      rw [List.map_map]
      exact List.map_congr_left fun i _ => (swap_val i).symm
theorem XsRep.swap' {xs : List X} {f : Nat → Option Value} (h : ∀ (j : Nat) (x : X), xs[j]? = some x → ∃ u, f j = some u ∧ XRep H m w x u) : ∀ (j : Nat) (x : X), (xs.map (X.swap a b))[j]? = some x → ∃ u, f j = some u ∧ XRep (swapH a b H) (m.swap a b) w x u := by
  intro j x hj
  rw [List.getElem?_map] at hj
  simp only [Option.map_eq_some_iff] at hj
  obtain ⟨y, hy, rfl⟩ := hj
  obtain ⟨u, hu, hr⟩ := h j y hy
  exact ⟨u, hu, hr.swap⟩
theorem TVRep.swap {t : TV} {v : Value} (h : TVRep H m w t v) : TVRep (swapH a b H) (m.swap a b) w (t.swap a b) v := by
  cases t with
  | one x => exact XRep.swap h
  | agg xs =>
    obtain ⟨vs, rfl, hs, hx⟩ := h
    exact ⟨vs, rfl, by simpa using hs, XsRep.swap' (f := fun j => vs[j]?) hx⟩
theorem AVRep.swap {t : AV} {v : Value} (h : AVRep H m w t v) : AVRep (swapH a b H) (m.swap a b) w (t.swap a b) v := by
  cases t with
  | v t => exact TVRep.swap h
  | undef => exact h
  | prt id lo len =>
    obtain ⟨d, n, sz, g, bb, cap, hl, hi, hv, rfl⟩ := h
    refine ⟨d, n, sz, g, bb, cap, ?_, hi, by rw [swap_val]; exact hv, rfl⟩
    rw [swapH_lookup, swapN_swapN, hl]; rfl
  | tup ts =>
    obtain ⟨vs, rfl, hs, hx⟩ := h
    refine ⟨vs, rfl, by simpa using hs, fun j t hj => ?_⟩
    rw [List.getElem?_map] at hj
    simp only [Option.map_eq_some_iff] at hj
    obtain ⟨y, hy, rfl⟩ := hj
    obtain ⟨u, hu, hr⟩ := hx j y hy
    exact ⟨u, hu, hr.swap⟩
theorem swapN_inj {i j : Nat} (h : swapN a b i = swapN a b j) : i = j := by rw [← swapN_swapN a b i, h, swapN_swapN]
end
theorem Sub.swap (a b : Nat) (s : St) (ha0 : Nat.ble cx.N.nf a = true) (hb0 : Nat.ble cx.N.nf b = true) : Sub cx s (s.swap a b) := by
  intro act w hR
  obtain ⟨m, ⟨hok, hfix⟩, henv⟩ := hR.mem
  have hfix' : FixOK cx (m.swap a b) := by
    intro id hid
    have h1 := Nat.le_of_ble_eq_true ha0
    have h2 := Nat.le_of_ble_eq_true hb0
    have : swapN a b id = id := by
      unfold swapN
      rw [if_neg (by omega), if_neg (by omega)]
    simp only [Mem.swap, this]
    exact hfix id hid
  refine ⟨hR.defers, hR.size, hR.below, hR.lowK, m.swap a b, ⟨⟨fun id ob hl => ?_, fun id x ha hf => ?_, fun id id' x ha ha' hf hf' => ?_⟩, hfix'⟩, fun t v hl => ?_⟩
  · have hl' : (swapH a b s.heap).lookup id = some ob := hl
    rw [swapH_lookup] at hl'
    simp only [Option.map_eq_some_iff] at hl'
    obtain ⟨ob', ho, rfl⟩ := hl'
    have := hok.ob _ _ ho
    cases ob' with
    | box xs =>
      obtain ⟨bb, cur, E, h1, h2, h3, h4, h5⟩ := this
      exact ⟨bb, cur, E, h1, h2, by simpa using h3, h4, XsRep.swap' (f := fun j => cur[j]?) h5⟩
    | ext p => exact this
    | arr d n sz g => exact this
    | lst n sz g => exact this
  · have ha' : ((swapH a b s.heap).lookup id).isSome = true := ha
    rw [swapH_lookup] at ha'
    exact hok.lo (swapN a b id) x (by simpa using ha') hf
  · have h1 : ((swapH a b s.heap).lookup id).isSome = true := ha
    have h2 : ((swapH a b s.heap).lookup id').isSome = true := ha'
    rw [swapH_lookup] at h1 h2
    exact swapN_inj (hok.apart (swapN a b id) (swapN a b id') x (by simpa using h1) (by simpa using h2) hf hf')
  · have hl' : (s.env.map fun p => (p.1, p.2.swap a b)).lookup t = some v := hl
    rw [swap_env] at hl'
    simp only [Option.map_eq_some_iff] at hl'
    obtain ⟨y, hy, rfl⟩ := hl'
    obtain ⟨u, hu, hr⟩ := henv t y hy
    exact ⟨u, hu, hr.swap⟩
end Go.Fw
