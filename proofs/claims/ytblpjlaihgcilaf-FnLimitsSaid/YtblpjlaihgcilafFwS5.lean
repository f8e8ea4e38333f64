
import Derived.Test.YtblpjlaihgcilafFwS4
namespace Go.Fw
open Go Go.RowKit
variable {P : Program} {n0 : Nat → Prop} {H : List (Nat × Ob)} {m : Mem} {w w' : World}
structure EffM where
  av : AV
  new : List (Nat × Ob)
  upd : List (Nat × Ob)
  gone : List Nat
  ob : Prop
theorem flat_own {c : C} {v : Value} {F : Nat → Prop} (hf : scalarC c) (h : OwnC w c F v) (w2 : World) (F2 : Nat → Prop) : OwnC w2 c F2 v := by
  cases c <;> first | exact hf.elim | exact h
theorem flat_crep {c : C} {v : Value} {av : Av} (hf : scalarC c) (h : CRep w av c v) (w2 : World) (F2 : Nat → Prop) : OwnC w2 c F2 v := by
  cases c with
  | fn f k cap =>
    obtain ⟨cs, hv, hs, _⟩ := h
    have hk : k = 0 := hf
    have he : cs = #[] := Array.eq_empty_of_size_eq_zero (by omega)
    exact ⟨hk, by rw [hv, he]⟩
  | _ => first | exact hf.elim | exact h
def partOf (Hs : Nat → Option Ob) : AV → Option (Nat × Nat × Nat × Nat × Nat × (Nat → Nat → C))
  | .prt id lo len => match Hs id with
    | some (.arr false n sz get) => some (id, lo, len, n, sz, get)
    | _ => none
  | .v (.one (.arr id)) => match Hs id with
    | some (.arr false n sz get) => some (id, 0, n, n, sz, get)
    | _ => none
  | _ => none
def copySrc (Hs : Nat → Option Ob) (y : AV) : Option (Nat × Nat × (Nat → Nat → C)) :=
  match partOf Hs y with
  | some (_, lo, len, _, sz, get) => some (len, sz, fun i j => get (lo + i) j)
  | none => viewOf y
def evCopy (P : Program) (ρ : Rho) (Hs : Nat → Option Ob) (c : Call) (h : Hint) : Option EffM :=
  match c.callee, c.args.toList, c.argTypes.toList, h with
  | .builtin .copy, [x, y], [t, _], .seq n' get' => match P.underlying t, ρ x, ρ y with
    | some (.slice e), some xv, some yv => match partOf Hs xv, copySrc Hs yv, sizeT P e with
      | some (id, lo, len, n, sz, get), some (l2, sz2, src), some sz' =>
        if sz = sz' ∧ sz2 = sz then some { av := iv .i64 (Nat.min l2 len), new := [], upd := [(id, .arr false n' sz get')], gone := [], ob := n' = n ∧ 0 < Nat.min l2 len ∧ (∀ i j, i < n → j < sz → get' i j = if lo ≤ i ∧ i < lo + Nat.min l2 len then src (i - lo) j else get i j) ∧ (∀ i j, i < Nat.min l2 len → j < sz → scalarC (src i j)) } else none
      | _, _, _ => none
    | _, _, _ => none
  | _, _, _, _ => none
theorem part_spec {Hs : Nat → Option Ob} {x : AV} {v : Value} {id lo len n sz : Nat} {get : Nat → Nat → C} (hok : HeapOK n0 H m w) (hsub : Agree H Hs) (hp : partOf Hs x = some (id, lo, len, n, sz, get)) (hr : AVRep H m w x v) :
    H.lookup id = some (.arr false n sz get) ∧ lo + len ≤ n ∧ (0 < len → ∃ b cap cap2, m.val id = .slice (some ⟨b, 0, none⟩) n cap ∧ v = .slice (some ⟨b, lo * sz, none⟩) len cap2) := by
  unfold partOf at hp
  split at hp
  · rename_i i l k
    split at hp
    · rename_i n2 sz2 g2 hH
      cases hp
      obtain ⟨d, n3, sz3, g3, b, cap, hl, hi, hv, rfl⟩ := hr
      cases hsub _ _ _ hl hH
      exact ⟨hl, hi, fun _ => ⟨b, cap, _, hv, rfl⟩⟩
    · cases hp
  · rename_i i
    split at hp
    · rename_i n2 sz2 g2 hH
      cases hp
      obtain ⟨ha, hA, rfl⟩ := hr
      obtain ⟨ob, hlk⟩ := Option.isSome_iff_exists.1 ha
      cases hsub _ _ _ hlk hH
      refine ⟨hlk, by omega, fun h => ?_⟩
      rcases (hok.ob _ _ hlk).1 with ⟨_, h0⟩ | ⟨b, cap, cur, E, fr, hv, _⟩
      · omega
      · exact ⟨b, cap, cap, hv, by rw [hv, Nat.zero_mul]⟩
    · cases hp
  · cases hp
theorem src_spec {Hs : Nat → Option Ob} {y : AV} {v : Value} {l2 sz k : Nat} {src : Nat → Nat → C} (hok : HeapOK n0 H m w) (hsub : Agree H Hs) (hs : copySrc Hs y = some (l2, sz, src)) (hr : AVRep H m w y v) (h0 : 0 < l2) (hk : k ≤ l2)
    (hflat : ∀ i j, i < k → j < sz → scalarC (src i j)) : ∃ b off cap, v = .slice (some ⟨b, off, none⟩) l2 cap ∧ ∀ i j, i < k → j < sz → ∃ u, w.cell? ⟨b, off + (i * sz + j), none⟩ = some u ∧ ∀ w2 F2, OwnC w2 (src i j) F2 u := by
  unfold copySrc at hs
  split at hs
  · rename_i id lo len n sz' get hp
    cases hs
    obtain ⟨hl, hle, hv⟩ := part_spec hok hsub hp hr
    obtain ⟨b, cap, cap2, hv1, hv2⟩ := hv h0
    refine ⟨b, lo * sz, cap2, hv2, fun i j hi hj => ?_⟩
    obtain ⟨cur, E, fr, G, hn, hfr, hb, hcs, hFb, hrows, hG⟩ := OwnC.rows (hok.ob _ _ hl).1 hv1
    obtain ⟨q, hq, ho⟩ := hrows.2.1 (lo + i) j (by omega) hj
    rw [List.getElem?_take, if_pos (idx_lt (by omega) hj)] at hq
    refine ⟨q, ?_, flat_own (hflat i j hi hj) ho⟩
    rw [cell_of_row w b _ cur E fr hb, show lo * sz + (i * sz + j) = (lo + i) * sz + j by rw [Nat.add_mul]; omega]
    simpa using hq
  · obtain ⟨a, cap, hv, hn, hc⟩ := viewOf_spec hs hr
    obtain ⟨b, off, ha, hcells⟩ := hc h0
    refine ⟨b, off, cap, by rw [hv, ha], fun i j hi hj => ?_⟩
    obtain ⟨_, u, hu, hx⟩ := hcells i j (by omega) hj
    exact ⟨u, by rw [← Nat.add_assoc]; exact hu, flat_crep (hflat i j hi hj) hx⟩
theorem row_split {q k sz : Nat} (h : q < k * sz) : ∃ i j, i < k ∧ j < sz ∧ q = i * sz + j := by
  have hs : 0 < sz := by
    apply Nat.pos_of_ne_zero
    intro e
    rw [e, Nat.mul_zero] at h; omega
  refine ⟨q / sz, q % sz, (Nat.div_lt_iff_lt_mul hs).2 h, Nat.mod_lt _ hs, ?_⟩
  have := Nat.div_add_mod q sz
  rw [Nat.mul_comm]; omega
def calleeOf (ρ : Rho) (f : Operand) (as : List AV) : Option (FuncId × List AV) :=
  match ρ f with
  | some (.v (.one (.c (.fn f m cap)))) => some (f, as ++ (List.range m).map fun j => cv (cap j))
  | some (.v (.one (.clo f ids))) => some (f, as ++ ids.map fun id => .v (.one (.ptr id 0)))
  | _ => none
def evMu (P : Program) (ρ : Rho) (Hs : Nat → Option Ob) (o : Oper) (h : Hint) : Option EffM :=
  match o.op, h with
  | .call c, .callM ts res ds us => match c.callee with
    | .value f => match rhos ρ c.args.toList with
      | some as => match calleeOf ρ f as with
        | some (g, as) => match mutAs Hs us 0 as ts with
          | some (L, ob) =>
            if decide (L.map (·.u)).Nodup && (roAs Hs as ts).all (fun i => !(L.map (·.u)).contains i) then
              some { av := (mkAV res ds).1, new := (mkAV res ds).2, upd := (L.filter fun s => !s.dead).map fun s => (s.u, s.ob), gone := (L.filter fun s => s.dead).map (·.u), ob := ob ∧ MutOK P g ts res } else none
          | none => none
        | none => none
      | none => none
    | _ => none
  | _, _ => none
def evM (P : Program) (ρ : Rho) (Hs : Nat → Option Ob) (o : Oper) (h : Hint) : Option EffM :=
  match evMu P ρ Hs o h with
  | some E => some E
  | none => match o.op with
    | .call c => evCopy P ρ Hs c h
    | _ => none
theorem callee_spec {ρ : Rho} {c : Call} {f : Operand} {as as' : List AV} {g : FuncId} {o : Oper} {a : Act} (ho : o.op = .call c) (hcal : c.callee = .value f) (has : rhos ρ c.args.toList = some as) (hg : calleeOf ρ f as = some (g, as'))
    (hr : ∀ x ∈ o.op.operands.toList, ∀ av, ρ x = some av → AVRep H m w av (a.eval x)) : ∃ vs, (execOp a.eval o).run P w = (callFunc g vs).run P w ∧ AVsRep H m w as' vs := by
  have hf : ∀ av, ρ f = some av → AVRep H m w av (a.eval f) := fun av hav => hr f (by
    simp only [ho, Op.operands, Call.operands, hcal, Array.toList_append]; exact List.mem_append_left _ (by simp)) av hav
  have hargs : ∀ x ∈ c.args.toList, ∀ av, ρ x = some av → AVRep H m w av (a.eval x) := fun x hx av hav => hr x (by
    simp only [ho, Op.operands, Call.operands, Array.toList_append]; exact List.mem_append_right _ hx) av hav
  have hrep := rhos_rep (ev := a.eval) has hargs
  have hm : (c.args.map a.eval) = (c.args.toList.map a.eval).toArray := by rw [← Array.toList_map, Array.toArray_toList]
  unfold calleeOf at hg
  split at hg
  · rename_i g' mm cap hg'
    cases hg
    obtain ⟨cs, hcs, hsz, hcap⟩ := hf _ hg'
    refine ⟨(c.args.map a.eval) ++ cs, ?_, ?_⟩
    · simp only [execOp, ho, resolve, hcal, Sem.run_bind, hcs, Deferred.ofValue, Sem.run_pure, Result.andThen_ok, invoke, Array.empty_append]
    · rw [hm]
      refine ⟨by rw [Array.size_append, hrep.1, hsz]; simp, fun j x hj => ?_⟩
      rw [List.getElem?_append] at hj
      split at hj
      · obtain ⟨u, hu, hx⟩ := hrep.2 j x hj
        refine ⟨u, ?_, hx⟩
        rw [Array.getElem?_append, if_pos (by rw [hrep.1]; assumption)]; exact hu
      · rename_i hlt
        rw [List.getElem?_map] at hj
        simp only [Option.map_eq_some_iff] at hj
        obtain ⟨i, hi, rfl⟩ := hj
        have hjm : j - as.length < mm := by have := (List.getElem?_eq_some_iff.1 hi).1; simpa using this
        have : i = j - as.length := by simp [hjm] at hi; exact hi.symm
        subst this
        obtain ⟨u, hu, hx⟩ := hcap _ hjm
        refine ⟨u, ?_, hx⟩
        rw [Array.getElem?_append, if_neg (by rw [hrep.1]; assumption), hrep.1]; exact hu
  · rename_i g' ids hg'
    cases hg
    obtain ⟨hal, hcs⟩ := hf _ hg'
    refine ⟨(c.args.map a.eval) ++ (ids.map m.val).toArray, ?_, ?_⟩
    · simp only [execOp, ho, resolve, hcal, Sem.run_bind, hcs, Deferred.ofValue, Sem.run_pure, Result.andThen_ok, invoke, Array.empty_append]
    · rw [hm]
      refine ⟨by rw [Array.size_append, hrep.1]; simp, fun j x hj => ?_⟩
      rw [List.getElem?_append] at hj
      split at hj
      · obtain ⟨u, hu, hx⟩ := hrep.2 j x hj
        refine ⟨u, ?_, hx⟩
        rw [Array.getElem?_append, if_pos (by rw [hrep.1]; assumption)]; exact hu
      · rename_i hlt
        rw [List.getElem?_map] at hj
        simp only [Option.map_eq_some_iff] at hj
        obtain ⟨i, hi, rfl⟩ := hj
        obtain ⟨ha, b, hb⟩ := hal i (List.mem_of_getElem? hi)
        refine ⟨m.val i, ?_, ha, b, hb, hb⟩
        rw [Array.getElem?_append, if_neg (by rw [hrep.1]; assumption), hrep.1]
        simp [hi]
  · cases hg
theorem res_cellsG {w' : World} {res : List CT} {ds : List (List Dst)} {v : Value} {F : Nat → Nat → Nat → Prop} {lo : Nat} (hlo : ∀ i j b, F i j b → lo ≤ b ∧ b < w'.heap.size) (hap : ∀ i j i' j' b, F i j b → F i' j' b → i = i' ∧ j = j') (hr : RTsRep w' F res v) :
    ∃ L : List RCell, L.flatMap RCell.objs = (mkAV res ds).2 ∧ (∀ r ∈ L, OwnC w' r.c r.F r.v ∧ ∃ i j, r.F = F i j) ∧ (L.Pairwise fun r r' => ∀ b, r.F b → ¬ r'.F b) ∧
      ∀ H' m', (∀ r ∈ L, XRep H' m' w' (mkX r.c r.d).1 r.v) → AVRep H' m' w' (mkAV res ds).1 v := by
  have many : (∃ vs : Array Value, v = .tuple vs ∧ vs.size = res.length ∧ ∀ (i : Nat) (t : CT), res[i]? = some t → ∃ u, vs[i]? = some u ∧ RTRep w' (F i) t u) → mkAV res ds = (.tup (mkTVs res ds).1, (mkTVs res ds).2) →
      ∃ L : List RCell, L.flatMap RCell.objs = (mkAV res ds).2 ∧ (∀ r ∈ L, OwnC w' r.c r.F r.v ∧ ∃ i j, r.F = F i j) ∧ (L.Pairwise fun r r' => ∀ b, r.F b → ¬ r'.F b) ∧
      ∀ H' m', (∀ r ∈ L, XRep H' m' w' (mkX r.c r.d).1 r.v) → AVRep H' m' w' (mkAV res ds).1 v := by
    rintro ⟨vs, rfl, h1, h2⟩ he
    obtain ⟨L, h3, h4, h5, h6⟩ := mkTVs_cells (w' := w') (lo := lo) res ds F vs.toList (by simpa using h1) (fun j c hj => by simpa using h2 j c hj) hlo hap
    rw [he]
    refine ⟨L, h3, h4, h5, fun H' m' hX => ?_⟩
    obtain ⟨h7, h8⟩ := h6 H' m' hX
    exact ⟨vs, rfl, by omega, fun j x hj => by simpa using h8 j x hj⟩
  cases res with
  | nil => exact many hr rfl
  | cons t ts =>
    cases ts with
    | cons t' ts => exact many hr rfl
    | nil =>
      obtain ⟨L, h1, h2, h3, h4⟩ := mkTV_cells (w' := w') (lo := lo) t (hd2 ds) (F 0) v hr (fun j b h => hlo 0 j b h) (fun j j' b h h' => (hap 0 j 0 j' b h h').2)
      exact ⟨L, h1, fun r hr => ⟨(h2 r hr).1, 0, (h2 r hr).2.choose, (h2 r hr).2.choose_spec⟩, h3, fun H' m' hX => h4 H' m' hX⟩
def OpGoM (P : Program) (n0 : Nat → Prop) (o : Oper) (a : Act) (w : World) (H : List (Nat × Ob)) (m : Mem) (E : EffM) : Prop :=
  match (execOp a.eval o).run P w with
  | .ok (.value v) w' => ∃ m', HeapOK n0 (E.upd ++ (E.new ++ dropL E.gone H)) m' w' ∧ Step n0 (E.new.map (·.1)) E.gone H m w (E.upd ++ (E.new ++ dropL E.gone H)) m' w' ∧ AVRep (E.upd ++ (E.new ++ dropL E.gone H)) m' w' E.av v
  | .ok (.enter f as) w1 => w1 = w ∧ Calls P f as w fun e w' => ∃ v, e = .returned v ∧ ∃ m', HeapOK n0 (E.upd ++ (E.new ++ dropL E.gone H)) m' w' ∧ Step n0 (E.new.map (·.1)) E.gone H m w (E.upd ++ (E.new ++ dropL E.gone H)) m' w' ∧ AVRep (E.upd ++ (E.new ++ dropL E.gone H)) m' w' E.av v
  | _ => False
theorem evMu_go {ρ : Rho} {Hs : Nat → Option Ob} {o : Oper} {h : Hint} {E : EffM} {a : Act} (hE : evMu P ρ Hs o h = some E) (hob : E.ob)
    (hok : HeapOK n0 H m w) (hn0 : ∀ b, n0 b → b < w.heap.size) (hgd : GK n0 w) (hsub : Agree H Hs) (hnd : (E.new.map (·.1)).Nodup) (hids : ∀ id ob, H.lookup id = some ob → ∀ i ∈ ob.ids, i ∉ E.new.map (·.1)) (hnew : ∀ id, (H.lookup id).isSome = true → id ∉ E.new.map (·.1)) (hhard : ∀ id ob, H.lookup id = some ob → ∀ i ∈ ob.hard, i ∉ E.gone)
    (hr : ∀ x ∈ o.op.operands.toList, ∀ av, ρ x = some av → AVRep H m w av (a.eval x)) : OpGoM P n0 o a w H m E := by
  unfold evMu at hE
  split at hE
  case h_2 => cases hE
  rename_i c ts res ds us ho
  split at hE
  case h_2 => cases hE
  rename_i f hcal
  split at hE
  case h_2 => cases hE
  rename_i as has
  split at hE
  case h_2 => cases hE
  rename_i g as' hg
  split at hE
  case h_2 => cases hE
  rename_i L ob hmut
  split at hE
  case isFalse => cases hE
  rename_i hc
  cases hE
  simp only [Bool.and_eq_true, decide_eq_true_eq, List.all_eq_true, Bool.not_eq_true', List.contains_eq_mem, decide_eq_false_iff_not] at hc
  obtain ⟨hUnd, hro⟩ := hc
  obtain ⟨hob1, hcall⟩ := hob
  obtain ⟨vs, hrun, hrep⟩ := callee_spec (P := P) ho hcal has hg hr
  obtain ⟨F, hlen, hreps, hS, _, hpost⟩ := mutAs_spec hok hsub (U := L.map (·.u)) (vs := vs.toList) hmut hob1 hro (by simpa using hrep.1) (fun k x hk => by simpa using hrep.2 k x hk)
  have hFU : ∀ i j b, F i j b → FU H m (L.map (·.u)) b := by
    intro i j b hb
    obtain ⟨s, hs, rfl, rfl⟩ := hS.cover i j b hb
    obtain ⟨ob', h1, _, h3, h4⟩ := hS.ok s hs
    exact ⟨s.u, List.mem_map.2 ⟨s, hs, rfl⟩, ob', h1, h3, h4 b hb⟩
  have hFs : ∀ s ∈ L, ∀ b, F s.i s.j b → m.foot s.u b := by
    intro s hs b hb
    obtain ⟨ob', h1, _, _, h4⟩ := hS.ok s hs
    exact (hok.ob _ _ h1).reach (h4 b hb)
  have halive : ∀ s ∈ L, (H.lookup s.u).isSome = true := by
    intro s hs
    obtain ⟨ob', h1, _⟩ := hS.ok s hs
    rw [h1]; rfl
  have hsu : ∀ s ∈ L, ∀ s' ∈ L, s.u = s'.u → s = s' := by
    intro s hs s' hs' e
    obtain ⟨p, hp, e1⟩ := List.mem_iff_getElem.1 hs
    obtain ⟨q, hq, e2⟩ := List.mem_iff_getElem.1 hs'
    have : p = q := (List.getElem_inj hUnd (h₀ := by simpa using hp) (h₁ := by simpa using hq)).1 (by simp [e1, e2, e])
    subst this
    rw [← e1, ← e2]
  have hFsz : ∀ i j b, F i j b → b < w.heap.size := by
    intro i j b hb
    obtain ⟨s, hs, rfl, rfl⟩ := hS.cover i j b hb
    exact (hok.lo s.u b (halive s hs) (hFs s hs b hb)).2
  have hFd : ∀ i j i' j' b, F i j b → F i' j' b → i = i' ∧ j = j' := by
    intro i j i' j' b hb hb'
    obtain ⟨s, hs, rfl, rfl⟩ := hS.cover i j b hb
    obtain ⟨s', hs', rfl, rfl⟩ := hS.cover i' j' b hb'
    have := hsu s hs s' hs' (hok.apart s.u s'.u b (halive s hs) (halive s' hs') (hFs s hs b hb) (hFs s' hs' b hb'))
    subst this
    exact ⟨rfl, rfl⟩
  have hFg : ∀ i j b, F i j b → ¬ isG b := by
    intro i j b hb hg
    obtain ⟨s, hs, rfl, rfl⟩ := hS.cover i j b hb
    exact (hok.lo s.u b (halive s hs) (hFs s hs b hb)).1 (hgd.2 b hg)
  have hinv := hcall w vs F hFsz hFd hgd.1 hFg ⟨by have := hrep.1; omega, fun i t hi => by
    obtain ⟨u, hu, hm⟩ := hreps i t hi
    rw [Nat.zero_add] at hm
    refine ⟨u, by simpa using hu, ?_⟩
    have weak : ∀ {c : MC} {F0 : Nat → Prop} {v : Value}, MCRep w (avU H m (L.map (·.u))) F0 c v → MCRep w (fun b _ => ∃ i j, F i j b) F0 c v := by
      intro c F0 v h
      cases c with
      | ro c => exact CRep.avoid (fun b o _ ⟨i, j, hb⟩ => hFU i j b hb) h
      | mu c c' => exact h
      | mv c => exact h
    cases t with
    | one c => exact weak hm
    | agg cs =>
      obtain ⟨us, rfl, h1, h2⟩ := hm
      refine ⟨us, rfl, h1, fun j c hj => ?_⟩
      obtain ⟨u, hu, hr⟩ := h2 j c hj
      exact ⟨u, hu, weak hr⟩
    | box k keep get get' =>
      obtain ⟨b, cur, E, h1, h2, h3, h4, h5⟩ := hm
      refine ⟨b, cur, E, h1, h2, h3, h4, fun j hj => ?_⟩
      obtain ⟨u, hu, hr⟩ := h5 j hj
      exact ⟨u, hu, CRep.avoid (fun b o _ ⟨i, j, hb⟩ => hFU i j b hb) hr⟩
    | boxm cs =>
      obtain ⟨b, cur, E, h1, h2, h3, h4, h5⟩ := hm
      refine ⟨b, cur, E, h1, h2, h3, h4, fun j c hj => ?_⟩
      obtain ⟨u, hu, hr⟩ := h5 j c hj
      exact ⟨u, hu, weak hr⟩
    | ext p p' => exact hm⟩
  generalize hUL : (L.filter fun s => !s.dead) = UL at *
  generalize hGL : ((L.filter fun s => s.dead).map (·.u)) = GL at *
  have sL : ∀ s ∈ UL, s ∈ L := fun s hs => by rw [← hUL] at hs; exact (List.mem_filter.1 hs).1
  have sD : ∀ s ∈ UL, s.dead = false := fun s hs => by rw [← hUL] at hs; simpa using (List.mem_filter.1 hs).2
  have fin : ∀ v w', (BelowK (fun b => b < w.heap.size ∧ ¬ ∃ i j, F i j b) w w' ∧ ∃ F' G : Nat → Nat → Nat → Prop,
      (∀ i j b, F' i j b → ((∃ i' j', F i' j' b) ∨ w.heap.size ≤ b) ∧ b < w'.heap.size) ∧ (∀ i j b, G i j b → ((∃ i' j', F i' j' b) ∨ w.heap.size ≤ b) ∧ b < w'.heap.size) ∧
      (∀ i j i' j' b, F' i j b → F' i' j' b → i = i' ∧ j = j') ∧ (∀ i j i' j' b, G i j b → G i' j' b → i = i' ∧ j = j') ∧ (∀ i j i' j' b, F' i j b → ¬ G i' j' b) ∧
      MTsPost w w' F' ts vs ∧ RTsRep w' G res v) → ∃ m', HeapOK n0 ((UL.map fun s => (s.u, s.ob)) ++ ((mkAV res ds).2 ++ dropL GL H)) m' w' ∧ Step n0 ((mkAV res ds).2.map (·.1)) GL H m w ((UL.map fun s => (s.u, s.ob)) ++ ((mkAV res ds).2 ++ dropL GL H)) m' w' ∧ AVRep ((UL.map fun s => (s.u, s.ob)) ++ ((mkAV res ds).2 ++ dropL GL H)) m' w' (mkAV res ds).1 v := by
    rintro v w' ⟨hB, F', G, hF', hG, hF'd, hGd, hFG, hmp, hres⟩
    obtain ⟨RL, r1, r2, r3, r4⟩ := res_cellsG (ds := ds) (lo := 0) (fun i j b h => ⟨Nat.zero_le _, (hG i j b h).2⟩) hGd hres
    simp only at hnd hids hnew
    rw [← r1] at hnd hids hnew ⊢
    obtain ⟨val, foot, hvf⟩ := assign RL hnd
    have hmemU : ∀ u ob', (UL.map fun s => (s.u, s.ob)).lookup u = some ob' → ∃ s ∈ UL, s.u = u ∧ s.ob = ob' := by
      intro u ob' h
      obtain ⟨s, hs, e⟩ := List.mem_map.1 (lookup_mem h)
      cases e
      exact ⟨s, hs, rfl, rfl⟩
    have hkeyU : ∀ u, u ∈ (UL.map fun s => (s.u, s.ob)).map (·.1) → ∃ s ∈ UL, s.u = u := by
      intro u h
      obtain ⟨p, hp, rfl⟩ := List.mem_map.1 h
      obtain ⟨s, hs, rfl⟩ := List.mem_map.1 hp
      exact ⟨s, hs, rfl⟩
    have hUeq : ∀ b, FU H m (L.map (·.u)) b → FU H m ((UL.map fun s => (s.u, s.ob)).map (·.1) ++ GL) b := by
      rintro b ⟨u, hu, r⟩
      refine ⟨u, ?_, r⟩
      obtain ⟨s, hs, rfl⟩ := List.mem_map.1 hu
      cases hd : s.dead
      · exact List.mem_append_left _ (List.mem_map.2 ⟨(s.u, s.ob), List.mem_map.2 ⟨s, by rw [← hUL]; exact List.mem_filter.2 ⟨hs, by rw [hd]; rfl⟩, rfl⟩, rfl⟩)
      · refine List.mem_append_right _ ?_
        rw [← hGL]
        exact List.mem_map.2 ⟨s, List.mem_filter.2 ⟨hs, hd⟩, rfl⟩
    have hobj : ∀ id ob, (id, ob) ∈ RL.flatMap RCell.objs → ∃ r ∈ RL, (id, ob) ∈ r.objs ∧ val id = r.v ∧ foot id = r.F := by
      intro id ob h
      obtain ⟨r, hr, ho⟩ := List.mem_flatMap.1 h
      exact ⟨r, hr, ho, hvf r hr id ob ho⟩
    have hkey : ∀ id, id ∈ (RL.flatMap RCell.objs).map (·.1) → ∃ ob, ∃ r ∈ RL, (id, ob) ∈ r.objs ∧ val id = r.v ∧ foot id = r.F := by
      intro id h
      obtain ⟨⟨i, ob⟩, hm, rfl⟩ := List.mem_map.1 h
      exact ⟨ob, hobj i ob hm⟩
    have hobrep : ∀ r ∈ RL, ∀ id ob, (id, ob) ∈ r.objs → (∃ n sz g, r.c = .seq n sz g ∧ (ob = .lst n sz g ∨ ∃ dd, ob = .arr dd n sz g)) := by
      intro r _ id ob ho
      rcases mkX_cases r.c r.d with ⟨_, he⟩ | ⟨id', n, sz, g, hc, he⟩ | ⟨id', dd, n, sz, g, hc, he⟩
      · rw [RCell.objs, he] at ho; cases ho
      · rw [RCell.objs, he] at ho; simp at ho; exact ⟨n, sz, g, hc, .inl ho.2⟩
      · rw [RCell.objs, he] at ho; simp at ho; exact ⟨n, sz, g, hc, .inr ⟨dd, ho.2⟩⟩
    have hsingle : ∀ r ∈ RL, ∀ id ob id' ob', (id, ob) ∈ r.objs → (id', ob') ∈ r.objs → id = id' := by
      intro r _ id ob id' ob' ho ho'
      rcases mkX_cases r.c r.d with ⟨_, he⟩ | ⟨i, n, sz, g, hc, he⟩ | ⟨i, dd, n, sz, g, hc, he⟩ <;> rw [RCell.objs, he] at ho ho' <;> simp at ho ho'
      · rw [ho.1, ho'.1]
      · rw [ho.1, ho'.1]
    have hsym : ∀ (a b : RCell), (∀ x, a.F x → ¬ b.F x) → ∀ x, b.F x → ¬ a.F x := fun a b h x hb ha => h x ha hb
    have hFst : ∀ b, (∃ i j, F i j b) → ∃ s ∈ L, m.foot s.u b ∧ F s.i s.j b := by
      rintro b ⟨i, j, hb⟩
      obtain ⟨s, hs, rfl, rfl⟩ := hS.cover i j b hb
      exact ⟨s, hs, hFs s hs b hb, hb⟩
    have hblkR : ∀ r ∈ RL, ∀ id ob b, (id, ob) ∈ r.objs → Value.blk r.v = some b → r.F b := by
      intro r hr id ob b ho hb
      obtain ⟨n, sz, g, hc, _⟩ := hobrep r hr id ob ho
      have := (r2 r hr).1
      rw [hc] at this
      rcases this with ⟨h1, _⟩ | ⟨b', cap, cur, E, fr, h1, _, _, _, _, hF, _⟩
      · rw [h1] at hb; cases hb
      · rw [h1] at hb; cases hb; exact hF
    have hrest : ∀ s ∈ L, ∀ b, m.foot s.u b → ¬ F s.i s.j b → ¬ ((∃ i j, F i j b) ∨ w.heap.size ≤ b) := by
      intro s hs b hf hn h
      rcases h with h | h
      · obtain ⟨s', hs', hf', hb'⟩ := hFst b h
        have := hsu s hs s' hs' (hok.apart s.u s'.u b (halive s hs) (halive s' hs') hf hf')
        subst this
        exact hn hb'
      · have := (hok.lo s.u b (halive s hs) hf).2; omega
    have hRG : ∀ r ∈ RL, ∃ i j, r.F = G i j := fun r hr => (r2 r hr).2
    have key := mut_objs (w' := w') hok hn0 (UL.map fun s => (s.u, s.ob)) (RL.flatMap RCell.objs) GL val (fun u b => ∃ s ∈ UL, s.u = u ∧ fuOf m u (F s.i s.j) (F' s.i s.j) b) foot (fun i => subOf w' (val i))
      (hB.mono fun b ⟨h1, h2⟩ => ⟨h1, fun ⟨i, j, h⟩ => h2 (hUeq b (hFU i j b h))⟩)
      (fun u ob' h => by
        obtain ⟨s, hs, rfl, rfl⟩ := hmemU u ob' h
        obtain ⟨ob0, h1, h2, h3, _⟩ := hS.ok s (sL s hs)
        exact ⟨ob0, h1, h2, h3⟩)
      hhard
      (fun u hu => by
        obtain ⟨s, hs, rfl⟩ := hkeyU u hu
        exact hnew s.u (halive s (sL s hs)))
      hids
      (fun id b hi hf => by
        obtain ⟨ob, r, hr, ho, hv, hf'⟩ := hkey id hi
        rw [hf'] at hf
        obtain ⟨i, j, e⟩ := hRG r hr
        rw [e] at hf
        obtain ⟨h1, h2⟩ := hG i j b hf
        refine ⟨h1.imp (fun ⟨i, j, h⟩ => hUeq b (hFU i j b h)) fun h => h, h2⟩)
      (fun u b hu hf => by
        obtain ⟨s, hs, rfl, hfu⟩ := hf
        rcases hfu with ⟨h1, _⟩ | h1
        · refine ⟨.inl h1, ?_⟩
          have := (hok.lo s.u b (halive s (sL s hs)) h1).2
          have := hB.size
          omega
        · obtain ⟨h2, h3⟩ := hF' _ _ b h1
          refine ⟨.inr (h2.imp (fun ⟨i, j, h⟩ => hUeq b (hFU i j b h)) fun h => h), h3⟩)
      (fun id id' b hi hi' hf hf' => by
        have hN : ∀ id, id ∈ (RL.flatMap RCell.objs).map (·.1) → (m.mut ((UL.map fun s => (s.u, s.ob)).map (·.1)) ((RL.flatMap RCell.objs).map (·.1)) val (fun u b => ∃ s ∈ UL, s.u = u ∧ fuOf m u (F s.i s.j) (F' s.i s.j) b) foot (fun i => subOf w' (val i))).foot id = foot id := fun id hi => by simp only [Mem.mut, if_pos hi]
        have hUf : ∀ id, id ∈ (UL.map fun s => (s.u, s.ob)).map (·.1) → (m.mut ((UL.map fun s => (s.u, s.ob)).map (·.1)) ((RL.flatMap RCell.objs).map (·.1)) val (fun u b => ∃ s ∈ UL, s.u = u ∧ fuOf m u (F s.i s.j) (F' s.i s.j) b) foot (fun i => subOf w' (val i))).foot id = fun b => ∃ s ∈ UL, s.u = id ∧ fuOf m id (F s.i s.j) (F' s.i s.j) b := fun id hi => by
          have hn : id ∉ (RL.flatMap RCell.objs).map (·.1) := by
            obtain ⟨s, hs, rfl⟩ := hkeyU id hi
            exact hnew s.u (halive s (sL s hs))
          simp only [Mem.mut, if_neg hn, if_pos hi]
        have mixed : ∀ u id b, u ∈ (UL.map fun s => (s.u, s.ob)).map (·.1) → id ∈ (RL.flatMap RCell.objs).map (·.1) → (∃ s ∈ UL, s.u = u ∧ fuOf m u (F s.i s.j) (F' s.i s.j) b) → ¬ foot id b := by
          rintro u id b hu hi ⟨s, hs, rfl, hfu⟩ hfo
          obtain ⟨ob, r, hr, ho, hv, hf'⟩ := hkey id hi
          rw [hf'] at hfo
          obtain ⟨i, j, e⟩ := hRG r hr
          rw [e] at hfo
          rcases hfu with ⟨h1, h2⟩ | h1
          · exact hrest s (sL s hs) b h1 h2 (hG i j b hfo).1
          · exact hFG _ _ i j b h1 hfo
        by_cases hj : id ∈ (RL.flatMap RCell.objs).map (·.1) <;> by_cases hj' : id' ∈ (RL.flatMap RCell.objs).map (·.1)
        · rw [hN id hj] at hf; rw [hN id' hj'] at hf'
          obtain ⟨ob, r, hr, ho, _, h1⟩ := hkey id hj
          obtain ⟨ob', r', hr', ho', _, h1'⟩ := hkey id' hj'
          rw [h1] at hf; rw [h1'] at hf'
          rcases pairwise_mem hsym r3 hr hr' with e | e
          · subst e; exact hsingle r hr id ob id' ob' ho ho'
          · exact absurd hf' (e b hf)
        · have hu' := hi'.resolve_right hj'
          rw [hN id hj] at hf; rw [hUf id' hu'] at hf'
          exact absurd hf (mixed id' id b hu' hj hf')
        · have hu := hi.resolve_right hj
          rw [hUf id hu] at hf; rw [hN id' hj'] at hf'
          exact absurd hf' (mixed id id' b hu hj' hf)
        · have hu := hi.resolve_right hj
          have hu' := hi'.resolve_right hj'
          rw [hUf id hu] at hf; rw [hUf id' hu'] at hf'
          obtain ⟨s, hs, rfl, hfu⟩ := hf
          obtain ⟨s', hs', rfl, hfu'⟩ := hf'
          rcases hfu with ⟨a1, a2⟩ | a1 <;> rcases hfu' with ⟨b1, b2⟩ | b1
          · exact hok.apart s.u s'.u b (halive s (sL s hs)) (halive s' (sL s' hs')) a1 b1
          · exact absurd (hF' _ _ b b1).1 (hrest s (sL s hs) b a1 a2)
          · exact absurd (hF' _ _ b a1).1 (hrest s' (sL s' hs') b b1 b2)
          · obtain ⟨e1, e2⟩ := hF'd _ _ _ _ b a1 b1
            rw [hS.uniq s (sL s hs) s' (sL s' hs') e1 e2])
      (fun id ob b hl hb => by
        have hm := lookup_mem hl
        have hi := lookup_keys hl
        obtain ⟨r, hr, ho, hv, hf⟩ := hobj id ob hm
        have hvv : (m.mut ((UL.map fun s => (s.u, s.ob)).map (·.1)) ((RL.flatMap RCell.objs).map (·.1)) val (fun u b => ∃ s ∈ UL, s.u = u ∧ fuOf m u (F s.i s.j) (F' s.i s.j) b) foot (fun i => subOf w' (val i))).val id = val id := by simp only [Mem.mut, if_pos hi]
        have blkc : Value.blk ((m.mut ((UL.map fun s => (s.u, s.ob)).map (·.1)) ((RL.flatMap RCell.objs).map (·.1)) val (fun u b => ∃ s ∈ UL, s.u = u ∧ fuOf m u (F s.i s.j) (F' s.i s.j) b) foot (fun i => subOf w' (val i))).val id) = some b → foot id b := by
          intro h
          rw [hvv, hv] at h
          rw [hf]
          exact hblkR r hr id ob b ho h
        cases ob with
        | ext p => 
          have : (m.mut ((UL.map fun s => (s.u, s.ob)).map (·.1)) ((RL.flatMap RCell.objs).map (·.1)) val (fun u b => ∃ s ∈ UL, s.u = u ∧ fuOf m u (F s.i s.j) (F' s.i s.j) b) foot (fun i => subOf w' (val i))).foot id b := hb
          simpa only [Mem.mut, if_pos hi] using this
        | box xs => exact blkc hb
        | lst n sz g => exact blkc hb
        | arr d n sz g =>
          cases d
          · exact blkc hb
          · have : (m.mut ((UL.map fun s => (s.u, s.ob)).map (·.1)) ((RL.flatMap RCell.objs).map (·.1)) val (fun u b => ∃ s ∈ UL, s.u = u ∧ fuOf m u (F s.i s.j) (F' s.i s.j) b) foot (fun i => subOf w' (val i))).foot id b := hb
            simpa only [Mem.mut, if_pos hi] using this)
      (fun hSt id ob hl => by
        rcases hl with hl | hl
        · obtain ⟨s, hs, rfl, rfl⟩ := hmemU id ob hl
          have hiU : s.u ∈ (UL.map fun s => (s.u, s.ob)).map (·.1) := lookup_keys hl
          have hn : s.u ∉ (RL.flatMap RCell.objs).map (·.1) := hnew s.u (halive s (sL s hs))
          have hp := hpost w' F' (fun k t hk u hu => by rw [Nat.zero_add]; exact hmp k t hk u (by simpa using hu)) (fun s hs b hf hnF => hB.block b ⟨(hok.lo s.u b (halive s hs) hf).2, fun h => hrest s hs b hf hnF (.inl h)⟩) (fun s hs b hb hf => by
            by_cases hq : F s.i s.j b
            · exact hq
            · exact absurd (hF' _ _ b hb).1 (hrest s hs b hf hq)) s (sL s hs) (sD s hs)
          have hfo : (m.mut ((UL.map fun s => (s.u, s.ob)).map (·.1)) ((RL.flatMap RCell.objs).map (·.1)) val (fun u b => ∃ s ∈ UL, s.u = u ∧ fuOf m u (F s.i s.j) (F' s.i s.j) b) foot (fun i => subOf w' (val i))).foot s.u = fuOf m s.u (F s.i s.j) (F' s.i s.j) := by
            simp only [Mem.mut, if_neg hn, if_pos hiU]
            funext b
            apply propext
            constructor
            · rintro ⟨s', hs', e, h⟩
              have := hsu s' (sL s' hs') s (sL s hs) e
              subst this; exact h
            · intro h; exact ⟨s, hs, rfl, h⟩
          have hva : (m.mut ((UL.map fun s => (s.u, s.ob)).map (·.1)) ((RL.flatMap RCell.objs).map (·.1)) val (fun u b => ∃ s ∈ UL, s.u = u ∧ fuOf m u (F s.i s.j) (F' s.i s.j) b) foot (fun i => subOf w' (val i))).val s.u = m.val s.u := by simp only [Mem.mut, if_neg hn]
          have hsb : (m.mut ((UL.map fun s => (s.u, s.ob)).map (·.1)) ((RL.flatMap RCell.objs).map (·.1)) val (fun u b => ∃ s ∈ UL, s.u = u ∧ fuOf m u (F s.i s.j) (F' s.i s.j) b) foot (fun i => subOf w' (val i))).sub s.u = m.sub s.u := by simp only [Mem.mut, if_neg hn]
          unfold SlotPost at hp
          cases hso : s.ob with
          | lst n sz g => rw [hso] at hp; exact hp.elim
          | ext p =>
            rw [hso] at hp
            show ExtRep w' _ _ _
            rw [hfo, hva]
            exact hp
          | arr d n sz g =>
            rw [hso] at hp
            obtain ⟨_, p2, p3⟩ := hp
            show OwnC w' _ _ _ ∧ _
            rw [hfo, hva, hsb]
            exact ⟨p2, fun _ => p3⟩
          | box ys =>
            rw [hso] at hp
            obtain ⟨b, cur, cur', E, E', xs, p1, p2, p3, p4, p5, p6, p7⟩ := hp
            refine ⟨b, cur', E', by rw [hva]; exact p1, p3, p4, by rw [hfo]; exact .inr p5, fun j y hj => ?_⟩
            obtain ⟨b2, cur2, E2, q1, q2, q3, q4, q5⟩ := hok.ob s.u _ p6
            rw [p1] at q1; cases q1
            rw [p2] at q2; cases q2
            rcases p7 j y hj with ⟨e1, e2⟩ | ⟨c, u, rfl, e2, e3, e4⟩
            · obtain ⟨u, hu, hx⟩ := q5 j y e1
              refine ⟨u, by rw [e2]; exact hu, hSt.xrep (fun i hi => hids s.u _ p6 i (List.mem_flatMap.2 ⟨y, List.mem_of_getElem? e1, hi⟩)) (fun i hi => hhard s.u _ p6 i (List.mem_flatMap.2 ⟨y, List.mem_of_getElem? e1, hi⟩)) hx⟩
            · exact ⟨u, e3, isScal_own e2 e4⟩
        · have hm := lookup_mem hl
          have hi := lookup_keys hl
          obtain ⟨r, hr, ho, hv, hf⟩ := hobj id ob hm
          obtain ⟨n, sz, g, hc, e⟩ := hobrep r hr id ob ho
          have hown := (r2 r hr).1
          rw [hc] at hown
          have hva : (m.mut ((UL.map fun s => (s.u, s.ob)).map (·.1)) ((RL.flatMap RCell.objs).map (·.1)) val (fun u b => ∃ s ∈ UL, s.u = u ∧ fuOf m u (F s.i s.j) (F' s.i s.j) b) foot (fun i => subOf w' (val i))).val id = r.v := by simp only [Mem.mut, if_pos hi]; exact hv
          have hfo : (m.mut ((UL.map fun s => (s.u, s.ob)).map (·.1)) ((RL.flatMap RCell.objs).map (·.1)) val (fun u b => ∃ s ∈ UL, s.u = u ∧ fuOf m u (F s.i s.j) (F' s.i s.j) b) foot (fun i => subOf w' (val i))).foot id = r.F := by simp only [Mem.mut, if_pos hi]; exact hf
          have hsb : (m.mut ((UL.map fun s => (s.u, s.ob)).map (·.1)) ((RL.flatMap RCell.objs).map (·.1)) val (fun u b => ∃ s ∈ UL, s.u = u ∧ fuOf m u (F s.i s.j) (F' s.i s.j) b) foot (fun i => subOf w' (val i))).sub id = subOf w' r.v := by simp only [Mem.mut, if_pos hi]; rw [hv]
          rcases e with rfl | ⟨dd, rfl⟩
          · show OwnC w' _ _ _
            rw [hva, hfo]; exact hown
          · show OwnC w' _ _ _ ∧ _
            rw [hva, hfo, hsb]; exact ⟨hown, fun _ i j hi hj _ => own_subs hown i j hi hj⟩)
    refine ⟨_, key.1, key.2, r4 _ _ fun r hr => ?_⟩
    have hlkN : ∀ id ob, (id, ob) ∈ RL.flatMap RCell.objs → ((UL.map fun s => (s.u, s.ob)) ++ (RL.flatMap RCell.objs ++ dropL GL H)).lookup id = some ob := by
      intro id ob hm
      have hnU : id ∉ (UL.map fun s => (s.u, s.ob)).map (·.1) := by
        intro h
        obtain ⟨s, hs, rfl⟩ := hkeyU id h
        exact hnew s.u (halive s (sL s hs)) (List.mem_map.2 ⟨_, hm, rfl⟩)
      rw [List.lookup_append, lookup_none hnU, Option.none_or, List.lookup_append, lookup_nodup hnd hm]; rfl
    have hval : ∀ id ob, (id, ob) ∈ r.objs → (m.mut ((UL.map fun s => (s.u, s.ob)).map (·.1)) ((RL.flatMap RCell.objs).map (·.1)) val (fun u b => ∃ s ∈ UL, s.u = u ∧ fuOf m u (F s.i s.j) (F' s.i s.j) b) foot (fun i => subOf w' (val i))).val id = r.v := by
      intro id ob ho
      have hi : id ∈ (RL.flatMap RCell.objs).map (·.1) := List.mem_map.2 ⟨_, List.mem_flatMap.2 ⟨r, hr, ho⟩, rfl⟩
      simp only [Mem.mut, if_pos hi]
      exact (hvf r hr id ob ho).1
    rcases mkX_cases r.c r.d with ⟨h1, he⟩ | ⟨id, n, sz, g, hc, he⟩ | ⟨id, dd, n, sz, g, hc, he⟩
    · rw [h1]
      refine OwnC.crep (fun b o hF0 => ?_) (r2 r hr).1
      rintro ⟨id2, ob2, hl2, hbk, _⟩
      have hf2 := (key.1.ob id2 ob2 hl2).reach hbk
      obtain ⟨i, j, e⟩ := hRG r hr
      have hF1 := hF0
      rw [e] at hF1
      by_cases hj : id2 ∈ (RL.flatMap RCell.objs).map (·.1)
      · simp only [Mem.mut, if_pos hj] at hf2
        obtain ⟨ob', r', hr', ho', _, h1'⟩ := hkey id2 hj
        rw [h1'] at hf2
        rcases pairwise_mem hsym r3 hr hr' with e | e
        · subst e; rw [RCell.objs, he] at ho'; cases ho'
        · exact e b hF0 hf2
      · by_cases hu : id2 ∈ (UL.map fun s => (s.u, s.ob)).map (·.1)
        · simp only [Mem.mut, if_neg hj, if_pos hu] at hf2
          obtain ⟨s, hs, rfl, hfu⟩ := hf2
          rcases hfu with ⟨a1, a2⟩ | a1
          · exact hrest s (sL s hs) b a1 a2 (hG i j b hF1).1
          · exact hFG _ _ i j b a1 hF1
        · simp only [Mem.mut, if_neg hj, if_neg hu] at hf2
          rw [List.lookup_append, lookup_none hu, Option.none_or, List.lookup_append, lookup_none hj, Option.none_or] at hl2
          by_cases hg2 : id2 ∈ GL
          · rw [drop_gone hg2] at hl2; cases hl2
          rw [drop_lookup hg2] at hl2
          rcases (hG i j b hF1).1 with h | h
          · obtain ⟨s, hs, hf', _⟩ := hFst b h
            have := hok.apart id2 s.u b (by rw [hl2]; rfl) (halive s hs) hf2 hf'
            subst this
            cases hd : s.dead
            · exact hu (List.mem_map.2 ⟨(s.u, s.ob), List.mem_map.2 ⟨s, by rw [← hUL]; exact List.mem_filter.2 ⟨hs, by rw [hd]; rfl⟩, rfl⟩, rfl⟩)
            · exact hg2 (by rw [← hGL]; exact List.mem_map.2 ⟨s, List.mem_filter.2 ⟨hs, hd⟩, rfl⟩)
          · have := (hok.lo id2 b (by rw [hl2]; rfl) hf2).2
            omega
    · have ho : (id, Ob.lst n sz g) ∈ r.objs := by rw [RCell.objs, he]; simp
      have hv := lst_crep key.1 (hlkN id _ (List.mem_flatMap.2 ⟨r, hr, ho⟩))
      rw [hval id _ ho] at hv
      rw [he]
      exact ⟨hv, fun _ => (hval id _ ho).symm⟩
    · have ho : (id, Ob.arr dd n sz g) ∈ r.objs := by rw [RCell.objs, he]; simp
      have hl := hlkN id _ (List.mem_flatMap.2 ⟨r, hr, ho⟩)
      rw [he]
      exact ⟨by rw [hl]; rfl, by rw [hl]; trivial, (hval id _ ho).symm⟩
  unfold OpGoM
  rw [hrun]
  unfold Invk at hinv
  split at hinv
  · rename_i g' as2 w1 he
    rw [he]
    obtain ⟨rfl, hcl⟩ := hinv
    refine ⟨rfl, hcl.mono ?_⟩
    rintro e w' ⟨v, rfl, hq⟩
    exact ⟨v, rfl, fin v w' hq⟩
  · rename_i v w1 he
    rw [he]
    exact fin v w1 hinv
  · exact hinv.elim
theorem evCopy_go {ρ : Rho} {Hs : Nat → Option Ob} {o : Oper} {c : Call} {h : Hint} {E : EffM} {a : Act} (ho : o.op = .call c) (hE : evCopy P ρ Hs c h = some E) (hob : E.ob) (hok : HeapOK n0 H m w) (hsub : Agree H Hs)
    (hr : ∀ x ∈ o.op.operands.toList, ∀ av, ρ x = some av → AVRep H m w av (a.eval x)) : OpGoM P n0 o a w H m E := by
  unfold evCopy at hE
  split at hE
  case h_2 => cases hE
  rename_i x y t u n' get' hcal hargs hts
  split at hE
  case h_2 => cases hE
  rename_i e xv yv hu hx hy
  split at hE
  case h_2 => cases hE
  rename_i id lo len n szA get l2 sz src sz' hp hs hsz
  split at hE
  case isFalse => cases hE
  rename_i hc
  cases hE
  obtain ⟨rfl, rfl⟩ := hc
  obtain ⟨rfl, h0, hget, hflat⟩ := hob
  have ha : c.args = #[x, y] := by rw [← Array.toArray_toList (xs := c.args), hargs]
  have ht : c.argTypes = #[t, u] := by rw [← Array.toArray_toList (xs := c.argTypes), hts]
  have hmem : ∀ y ∈ c.args.toList, ∀ av, ρ y = some av → AVRep H m w av (a.eval y) := fun y hy av hav => hr y (by
    simp only [ho, Op.operands, Call.operands, Array.toList_append]; exact List.mem_append_right _ hy) av hav
  obtain ⟨hl, hle, hv⟩ := part_spec hok hsub hp (hmem x (by rw [hargs]; simp) _ hx)
  have hk2 : Nat.min l2 len ≤ l2 := Nat.min_le_left ..
  have hk3 : Nat.min l2 len ≤ len := Nat.min_le_right ..
  obtain ⟨k, hk⟩ : ∃ k, k = Nat.min l2 len := ⟨_, rfl⟩
  rw [← hk] at h0 hget hflat hk2 hk3
  obtain ⟨b, cap, cap2, hv1, hv2⟩ := hv (by omega)
  obtain ⟨b2, off, cap3, hv3, hcells⟩ := src_spec hok hsub hs (hmem y (by rw [hargs]; simp) _ hy) (by omega) hk2 hflat
  obtain ⟨cur, E, fr, G, hn, hfr, hb, hcs, hFb, hrows, hG⟩ := OwnC.rows (hok.ob _ _ hl).1 hv1
  obtain ⟨cs, hcse⟩ : ∃ cs : List Value, cs = (List.range (k * sz)).map fun q => (w.cell? ⟨b2, off + q, none⟩).getD undef := ⟨_, rfl⟩
  have hclen : cs.length = k * sz := by rw [hcse]; simp
  have hcs1 : ∀ i j, i < k → j < sz → ∃ u, cs[i * sz + j]? = some u ∧ w.cell? ⟨b2, off + (i * sz + j), none⟩ = some u ∧ ∀ w2 F2, OwnC w2 (src i j) F2 u := by
    intro i j hi hj
    obtain ⟨u, hu, ho2⟩ := hcells i j hi hj
    refine ⟨u, ?_, hu, ho2⟩
    rw [hcse, List.getElem?_map, List.getElem?_range (idx_lt hi hj)]
    simp [hu]
  have hall : ∀ q v, cs[q]? = some v → ∃ i j, i < k ∧ j < sz ∧ q = i * sz + j := by
    intro q v hq
    have : q < cs.length := by
      rcases Nat.lt_or_ge q cs.length with h | h
      · exact h
      · rw [List.getElem?_eq_none h] at hq; cases hq
    exact row_split (by omega)
  have hload : (loadCells ⟨b2, off, none⟩ (k * sz)).run P w = .ok cs.toArray w := by
    have := run_loadCells_list (P := P) (w := w) ⟨b2, off, none⟩ cs (fun q v hq => by
      obtain ⟨i, j, hi, hj, rfl⟩ := hall q v hq
      obtain ⟨u, h1, h2, _⟩ := hcs1 i j hi hj
      rw [h1] at hq
      cases hq
      rw [Addr.add_lit]; exact h2)
    rw [hclen] at this
    exact this
  have hone : ∀ v ∈ cs, v.oneCell' = true := by
    intro v hv
    obtain ⟨q, hq⟩ := List.getElem?_of_mem hv
    obtain ⟨i, j, hi, hj, rfl⟩ := hall q v hq
    obtain ⟨u, h1, _, h3⟩ := hcs1 i j hi hj
    rw [h1] at hq
    cases hq
    exact OwnC.oneCell (h3 w (fun _ => False))
  have hkl : lo * sz + k * sz ≤ cap * sz := by rw [← Nat.add_mul]; exact Nat.mul_le_mul_right _ (by omega)
  obtain ⟨cur', s1, s2, s3⟩ := store_cells P b (lo * sz) E fr cs 0 cur w hb hfr (by rw [hclen, hcs]; omega) hone
  have hrun : (Builtin.copy_ #[t, u] o.type #[a.eval x, a.eval y]).run P w = .ok (goInt k) (w.setRow b cur') := by
    rw [hv2, hv3]
    simp [Builtin.copy_, run_underlying hu, Builtin.lenOf, Builtin.firstCells, sizeT_spec hsz, ← hk, hload, s1]
  obtain ⟨m', g1, g2⟩ := set_arr (gone := []) (get' := get') (cur' := cur') hok hl hv1 hb s2 (by simp) (by simp) (by simp) hFb (fun _ => rfl) (fun h => by cases h) (by
    rw [hv1]
    refine .inr ⟨b, cap, cur', E, fr, rfl, hn, by rw [s2]; exact hfr, setRow_heap w b cur cur' E fr hb, by rw [s2, hcs], .inl hFb,
      fun i j q => if lo ≤ i ∧ i < lo + k then False else G i j q, fun i j hi hj => ⟨fun q hq => ?_, ?_⟩, fun i1 j1 i2 j2 q hi1 hj1 hi2 hj2 hq1 hq2 => ?_⟩
    · dsimp only at hq
      split at hq
      · exact hq.elim
      · obtain ⟨e1, e2⟩ := hG i j q hi hj hq
        exact ⟨.inl e1, e2⟩
    · rw [hget i j hi hj]
      by_cases hin : lo ≤ i ∧ i < lo + k
      · simp only [if_pos hin]
        obtain ⟨d, rfl⟩ : ∃ d, i = lo + d := ⟨i - lo, by omega⟩
        obtain ⟨u, h1, _, h3⟩ := hcs1 d j (by omega) hj
        rw [Nat.add_sub_cancel_left]
        refine ⟨u, ?_, h3 _ _⟩
        have hd := idx_lt (n := k) (show d < k by omega) hj
        rw [s3, if_pos (by rw [hclen, Nat.add_mul]; omega), show (lo + d) * sz + j - lo * sz - 0 = d * sz + j by rw [Nat.add_mul]; omega]
        exact h1
      · simp only [if_neg hin]
        obtain ⟨q, hq, ho2⟩ := hrows.2.1 i j hi hj
        rw [List.getElem?_take, if_pos (idx_lt hi hj)] at hq
        refine ⟨q, ?_, OwnC.heap (fun x hx => setRow_other w b x cur' (hG i j x hi hj hx).2) ho2⟩
        rw [s3, if_neg (fun hh => hin ?_)]
        · simpa using hq
        · rw [hclen] at hh
          constructor
          · apply Classical.byContradiction
            intro hlt
            have := Nat.mul_le_mul_right sz (show i + 1 ≤ lo by omega)
            rw [Nat.add_mul] at this; omega
          · apply Classical.byContradiction
            intro hge
            have := Nat.mul_le_mul_right sz (show lo + k ≤ i by omega)
            rw [Nat.add_mul] at this; omega
    · dsimp only at hq1 hq2
      split at hq1
      · exact hq1.elim
      · split at hq2
        · exact hq2.elim
        · exact hrows.2.2 i1 j1 i2 j2 q hi1 hj1 hi2 hj2 hq1 hq2)
  unfold OpGoM
  have hex : (execOp a.eval o).run P w = .ok (.value (goInt k)) (w.setRow b cur') := by
    simp only [execOp, ho, resolve, hcal, ha, ht, Sem.run_bind, Sem.run_pure, Result.andThen_ok, invoke, builtin, List.map_toArray, List.map_cons, List.map_nil, hrun]
  rw [hex]
  refine ⟨m', g1, g2, ?_⟩
  rw [← hk]; rfl
theorem evM_go {ρ : Rho} {Hs : Nat → Option Ob} {o : Oper} {h : Hint} {E : EffM} {a : Act} (hE : evM P ρ Hs o h = some E) (hob : E.ob)
    (hok : HeapOK n0 H m w) (hn0 : ∀ b, n0 b → b < w.heap.size) (hgd : GK n0 w) (hsub : Agree H Hs) (hnd : (E.new.map (·.1)).Nodup) (hids : ∀ id ob, H.lookup id = some ob → ∀ i ∈ ob.ids, i ∉ E.new.map (·.1)) (hnew : ∀ id, (H.lookup id).isSome = true → id ∉ E.new.map (·.1)) (hhard : ∀ id ob, H.lookup id = some ob → ∀ i ∈ ob.hard, i ∉ E.gone)
    (hr : ∀ x ∈ o.op.operands.toList, ∀ av, ρ x = some av → AVRep H m w av (a.eval x)) : OpGoM P n0 o a w H m E := by
  unfold evM at hE
  split at hE
  · rename_i E' hE'
    cases hE
    exact evMu_go hE' hob hok hn0 hgd hsub hnd hids hnew hhard hr
  · split at hE
    · rename_i c ho
      exact evCopy_go ho hE hob hok hsub hr
    · cases hE
end Go.Fw
