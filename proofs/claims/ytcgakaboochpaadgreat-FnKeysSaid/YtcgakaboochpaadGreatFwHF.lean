
import Derived.Test.YtcgakaboochpaadGreatFwMK
import Derived.Test.YtcgakaboochpaadGreatFwV
import Derived.OrdersHeld
namespace Go.Fw
open Go Go.RowKit
/-! ### Loads in worlds that hold the same -/
section
variable {P : Program} {n0 : Nat → Prop} {H : List (Nat × Ob)} {m : Mem} {w : World}
theorem loadCells_same {w' : World} {b off : Nat} (hb : w'.heap[b]? = w.heap[b]?) : ∀ (n i : Nat) (acc : Array Value) {r : Array Value} {w1 : World}, (∀ j, i ≤ j → j < i + n → (w.cell? ⟨b, off + j, none⟩).isSome = true) → (loadCellsFrom ⟨b, off, none⟩ i n acc).run P w = .ok r w1 → (loadCellsFrom ⟨b, off, none⟩ i n acc).run P w' = .ok r w' := by
 intro n
 induction n with
 | zero =>
  intro i acc r w1 _ h
  simp only [loadCellsFrom, Sem.run_pure, Result.ok.injEq] at h ⊢
  exact ⟨h.1, trivial⟩
 | succ n ih =>
  intro i acc r w1 hs h
  obtain ⟨u, hv⟩ := Option.isSome_iff_exists.1 (hs i (Nat.le_refl _) (by omega))
  have hc : w'.cell? ⟨b, off + i, none⟩ = some u := by rw [← hv]; exact World.cell?_of_block (w := w) (a := ⟨b, off + i, none⟩) hb
  have ea : ((⟨b, off, none⟩ : Addr).add i) = ⟨b, off + i, none⟩ := Addr.add_lit ..
  simp only [loadCellsFrom, Sem.run_bind, ea, run_load, hv, Result.andThen_ok] at h
  simp only [loadCellsFrom, Sem.run_bind, ea, run_load, hc, Result.andThen_ok]
  exact ih (i + 1) (acc.push u) (fun j h1 h2 => hs j (by omega) (by omega)) h
theorem loadVar_same {w' w1 : World} {t : TypeId} {b off n : Nat} {r : Value} (hs : sizeT P t = some n) (hn : n ≠ 0) (hcs : ∀ j, j < n → (w.cell? ⟨b, off + j, none⟩).isSome = true) (hb : w'.heap[b]? = w.heap[b]?) (h : (loadVar t ⟨b, off, none⟩).run P w = .ok r w1) : (loadVar t ⟨b, off, none⟩).run P w' = .ok r w' := by
 cases hd : P.underlying t with
 | none =>
  exfalso
  simp [loadVar, isAgg, underlying, hd] at h
 | some d =>
  have ha : ∃ c, ∀ w', (isAgg t).run P w' = .ok c w' := by
   cases d <;> exact ⟨_, fun w' => by unfold isAgg; rw [Sem.run_bind, run_underlying hd w']; rfl⟩
  obtain ⟨c, ha⟩ := ha
  cases c with
  | true =>
   simp only [loadVar, Sem.run_bind, ha, Result.andThen_ok, ite_true, zj7 hs, loadCells] at h ⊢
   cases hl : (loadCellsFrom ⟨b, off, none⟩ 0 n #[]).run P w with
   | halt x w2 => rw [hl] at h; cases h
   | ok cs w2 =>
    rw [hl] at h
    simp only [Result.andThen_ok, Sem.run_pure, Result.ok.injEq] at h
    rw [loadCells_same hb _ _ _ (fun j _ hj => hcs j (by omega)) hl]
    simp only [Result.andThen_ok, Sem.run_pure, h.1]
  | false =>
   obtain ⟨u, hv⟩ := Option.isSome_iff_exists.1 (hcs 0 (by omega))
   simp only [Nat.add_zero] at hv
   have hc : w'.cell? ⟨b, off, none⟩ = some u := by rw [← hv]; exact World.cell?_of_block (w := w) (a := ⟨b, off, none⟩) hb
   simp only [loadVar, Sem.run_bind, ha, Result.andThen_ok, Bool.false_eq_true, ite_false, run_load, hv, hc, Result.ok.injEq] at h ⊢
   exact ⟨h.1, trivial⟩
def zhk (ids2 : List Nat) : AV → Prop
 | .v (.one (.ptr id _)) => id ∉ ids2
 | .v (.one (.c (.ptr _ _))) => True
 | .v (.one (.elt id _ _)) => id ∉ ids2
 | _ => False
theorem load_any {ids2 : List Nat} {t : TypeId} {av : AV} {v : Value} {E : Eff} (h : zcf P (fun i => H.lookup i) t av = some E) (hok : HeapOK n0 H m w) (hid : ∀ i ∈ ids2, ∃ n sz g, H.lookup i = some (.arr true n sz g)) (hz : sizeT P t ≠ some 0)
  (hav : zhk ids2 av) (hr : AVRep H m w av v) :
  ∃ r, (∀ w' : World, (∀ b, b < w.heap.size → (∀ i ∈ ids2, ¬ m.foot i b) → w'.heap[b]? = w.heap[b]?) → (Instr.loadAt t v).run P w' = .ok r w') ∧ AVRep H m w E.av r := by
 obtain ⟨⟨r, w1, hrun, hdr, hrep⟩, _, _⟩ := evLoad_sound (P := P) (n0 := n0) h hok (fun _ _ _ h1 h2 => by rw [h1] at h2; cases h2; rfl) hr
 have fin : ∀ {b off n : Nat}, v = .pointer (some ⟨b, off, none⟩) → sizeT P t = some n → b < w.heap.size → (∀ i ∈ ids2, ¬ m.foot i b) → (∀ j, j < n → (w.cell? ⟨b, off + j, none⟩).isSome = true) →
   ∃ r, (∀ w' : World, (∀ b, b < w.heap.size → (∀ i ∈ ids2, ¬ m.foot i b) → w'.heap[b]? = w.heap[b]?) → (Instr.loadAt t v).run P w' = .ok r w') ∧ AVRep H m w E.av r := by
  intro b off n hv hs hlt hnf hx
  refine ⟨r, fun w' hw => ?_, (Step.drew (n0 := n0) ⟨hdr.1.symm, hdr.2.1.symm, hdr.2.2.1.symm, hdr.2.2.2.symm⟩).avrep (by simp) (by simp) hrep⟩
  rw [hv] at hrun ⊢
  simp only [Instr.loadAt, Instr.sureAddr, Sem.run_bind, Sem.run_pure, Result.andThen_ok] at hrun ⊢
  exact loadVar_same hs (fun e => hz (e ▸ hs)) hx (hw b hlt hnf) hrun
 have apart : ∀ {id b : Nat}, id ∉ ids2 → (H.lookup id).isSome = true → m.foot id b → ∀ i ∈ ids2, ¬ m.foot i b := by
  intro id b hn ha hf i hi hf'
  obtain ⟨n, sz, g, hl⟩ := hid i hi
  exact hn (hok.apart id i b ha (by rw [hl]; rfl) hf hf' ▸ hi)
 cases hs : sizeT P t with
 | none => unfold zcf at h; rw [hs] at h; cases h
 | some n =>
  unfold zcf at h
  rw [hs] at h
  have hn : n ≠ 0 := fun e => hz (e ▸ hs)
  unfold zhk at hav
  split at hav
  ·rename_i id off
   simp only at h
   split at h
   ·rename_i xs hl
    replace hl : H.lookup id = some (.box xs) := hl
    split at h
    ·rename_i hle
     obtain ⟨ha, b, hv, hp⟩ := hr
     obtain ⟨b', cur, E', hv', hb, hcs, hfb, hx⟩ := hok.ob id _ hl
     rw [hv'] at hv; cases hv
     refine fin hp hs (hok.lo id b ha hfb).2 (apart hav ha hfb) fun j hj => ?_
     rw [cell_of_row w b (off + j) cur E' (0, 0) hb, Array.getElem?_eq_getElem (by omega)]
     rfl
    ·cases h
   ·cases h
  ·rename_i mm get
   simp only at h
   split at h
   ·rename_i hle
    obtain ⟨b, off, hv, hc⟩ := hr
    obtain ⟨hav0, u0, hu0, _⟩ := hc 0 (by omega)
    refine fin hv hs (World.block_lt_of_cell? w ⟨b, off + 0, none⟩ hu0) (fun i hi hf => ?_) fun j hj => ?_
    ·obtain ⟨n', sz', g', hl⟩ := hid i hi
     exact hav0 ⟨i, _, hl, hf, trivial⟩
    ·obtain ⟨_, u, hu, _⟩ := hc j (by omega)
     rw [hu]; rfl
   ·cases h
  ·rename_i id i off
   simp only at h
   split at h
   ·rename_i d nn sz get hl0
    replace hl0 : H.lookup id = some (.arr d nn sz get) := hl0
    split at h
    ·rename_i hle
     obtain ⟨d', n', sz', g', b, cap, hl, hi, hv, hp⟩ := hr
     rw [hl0] at hl; cases hl
     have hown : OwnC w (.seq nn sz get) (m.foot id) (m.val id) := (hok.ob id _ hl0).1
     have ha : (H.lookup id).isSome = true := by rw [hl0]; rfl
     rcases hown with ⟨h1, _⟩ | ⟨b', cap', cur, E', fr, h1, hncap, _, hb, hcs, hF, _⟩
     ·rw [hv] at h1; cases h1
     ·rw [hv] at h1; cases h1
      refine fin hp hs (hok.lo id b ha hF).2 (apart hav ha hF) fun j hj => ?_
      have : i * sz + sz ≤ cap * sz := by rw [← Nat.succ_mul]; exact Nat.mul_le_mul_right sz (by omega)
      rw [cell_of_row w b _ cur E' fr hb, Array.getElem?_eq_getElem (by omega)]
      rfl
    ·cases h
   ·cases h
  ·exact hav.elim
theorem indexAddr_any {t : TypeId} {a i : AV} {u v : Value} {E : Eff} (h : zky P (fun i => H.lookup i) t a i = some E) (hob : E.ob) (hok : HeapOK n0 H m w) (hr : AVRep H m w a u) (hi : AVRep H m w i v) :
  ∃ r, (∀ w' : World, (Instr.indexAt t u v).run P w' = .ok r w') ∧ AVRep H m w E.av r := by
 have fin : ∀ {n sz : Nat} {get : Nat → Nat → C} {e : TypeId} {k : IntKind} {q : Int}, P.underlying t = some (.slice e) → sizeT P e = some sz → CRep w (avOf H m) (.seq n sz get) u → v = .int k q → 0 ≤ q → q < (n : Int) →
   ∃ r, (∀ w' : World, (Instr.indexAt t u v).run P w' = .ok r w') ∧ AVRep H m w (cv (.ptr sz fun j => get q.toNat j)) r := by
  intro n sz get e k q hu hs hc hv h0 h1
  subst hv
  obtain ⟨a0, cap, rfl, hn, hc⟩ := hc
  obtain ⟨b, off, rfl, hc2⟩ := hc (by omega)
  refine ⟨_, fun w' => zbp hu hs h0 h1, b, off + q.toNat * sz, rfl, fun j hj => ?_⟩
  exact hc2 q.toNat j (by omega) hj
 unfold zky at h
 split at h
 ·rename_i e n sz get k q hu
  split at h
  ·rename_i hs
   cases h
   exact fin hu hs hr hi hob.1 hob.2
  ·cases h
 ·rename_i e id n sz get k q hu
  split at h
  ·rename_i hs
   cases h
   exact fin hu hs hr.1 hi hob.1 hob.2
  ·cases h
 ·rename_i e id k q hu
  split at h
  ·rename_i d n sz get hobj
   replace hobj : H.lookup id = some (.arr d n sz get) := hobj
   split at h
   ·rename_i hs
    cases h
    obtain ⟨ha, hA, hv⟩ := hr
    have h0 : 0 ≤ q := hob.1
    have h1 : q < (n : Int) := hob.2
    have hq : v = .int k q := hi
    subst hq
    have hown : OwnC w (.seq n sz get) (m.foot id) (m.val id) := (hok.ob id _ hobj).1
    rcases hown with ⟨_, hz⟩ | ⟨b, cap, cur, E, fr, hv', hn, _⟩
    ·omega
    ·rw [hv, hv']
     exact ⟨_, fun w' => zbp hu hs h0 h1, d, n, sz, get, b, cap, hobj, by omega, hv', by simp⟩
   ·cases h
  ·cases h
 ·cases h
def zho (P : Program) (ρ : Rho) (Hs : Nat → Option Ob) (ids2 : List Nat) (o : Oper) : Option (AV × Prop) :=
 match o.op with
 | .load t x => if sizeT P t = some 0 then none else match ρ x with
  | some (.v (.one (.ptr id off))) => if ids2.contains id then none else (zcf P Hs t (.v (.one (.ptr id off)))).map fun E => (E.av, True)
  | some (.v (.one (.c (.ptr m g)))) => (zcf P Hs t (.v (.one (.c (.ptr m g))))).map fun E => (E.av, True)
  | some (.v (.one (.elt id i off))) => if ids2.contains id then none else (zcf P Hs t (.v (.one (.elt id i off)))).map fun E => (E.av, True)
  | _ => none
 | .indexAddr t x i => match ρ x, ρ i with
  | some u, some v => (zky P Hs t u v).map fun E => (E.av, E.ob)
  | _, _ => none
 | _ => (zf2 P ρ o).map fun v => (v, True)
theorem evHeld_go {ids2 : List Nat} {ρ : Rho} {o : Oper} {a : Act} {av : AV} {p : Prop} (h : zho P ρ (fun i => H.lookup i) ids2 o = some (av, p)) (hp : p) (hok : HeapOK n0 H m w) (hid : ∀ i ∈ ids2, ∃ n sz g, H.lookup i = some (.arr true n sz g))
  (hr : ∀ x ∈ o.op.operands.toList, ∀ av, ρ x = some av → AVRep H m w av (a.eval x)) :
  ∃ v, (∀ w' : World, (∀ b, b < w.heap.size → (∀ i ∈ ids2, ¬ m.foot i b) → w'.heap[b]? = w.heap[b]?) → (execOp a.eval o).run P w' = .ok (.value v) w') ∧ AVRep H m w av v := by
 unfold zho at h
 split at h
 ·rename_i t x ho
  have key : ∀ u, ρ x = some u → ∀ E, zcf P (fun i => H.lookup i) t u = some E → sizeT P t ≠ some 0 → zhk ids2 u → av = E.av →
    ∃ v, (∀ w' : World, (∀ b, b < w.heap.size → (∀ i ∈ ids2, ¬ m.foot i b) → w'.heap[b]? = w.heap[b]?) → (execOp a.eval o).run P w' = .ok (.value v) w') ∧ AVRep H m w av v := by
   intro u hu E hE hz hq he
   subst he
   obtain ⟨r, h1, h2⟩ := load_any hE hok hid hz hq (hr x (by simp [ho, Op.operands]) u hu)
   exact ⟨r, fun w' hw => by simp only [execOp, ho]; rw [zw2, h1 w' hw]; rfl, h2⟩
  split at h
  ·cases h
  ·rename_i hz
   split at h
   ·rename_i id off hx
    split at h
    ·cases h
    ·rename_i hc
     simp only [Option.map_eq_some_iff, Prod.mk.injEq] at h
     obtain ⟨E, hE, rfl, rfl⟩ := h
     exact key _ hx E hE hz (show id ∉ ids2 by simpa using hc) rfl
   ·rename_i mm g hx
    simp only [Option.map_eq_some_iff, Prod.mk.injEq] at h
    obtain ⟨E, hE, rfl, rfl⟩ := h
    exact key _ hx E hE hz trivial rfl
   ·rename_i id i off hx
    split at h
    ·cases h
    ·rename_i hc
     simp only [Option.map_eq_some_iff, Prod.mk.injEq] at h
     obtain ⟨E, hE, rfl, rfl⟩ := h
     exact key _ hx E hE hz (show id ∉ ids2 by simpa using hc) rfl
   ·cases h
 ·rename_i t x i ho
  split at h
  ·rename_i u v hu hv
   simp only [Option.map_eq_some_iff, Prod.mk.injEq] at h
   obtain ⟨E, hE, rfl, rfl⟩ := h
   obtain ⟨r, h1, h2⟩ := indexAddr_any hE hp hok (hr x (by simp [ho, Op.operands]) u hu) (hr i (by simp [ho, Op.operands]) v hv)
   exact ⟨r, fun w' _ => by simp only [execOp, ho]; rw [zw2, h1 w']; rfl, h2⟩
  ·cases h
 ·simp only [Option.map_eq_some_iff, Prod.mk.injEq] at h
  obtain ⟨v, hv, rfl, rfl⟩ := h
  obtain ⟨r, h1, h2⟩ := zdd (P := P) hv hr
  exact ⟨r, fun w' _ => h1 w', h2⟩
end
/-! ### What is looked at, first -/
variable {cx : Cx} {Q : Exit → Act → World → Prop}
def SameT (D : List Nat) (a a' : Act) : Prop := ∀ t, t ∉ D → a'.tmps[t]? = a.tmps[t]?
theorem SameT.put {D : List Nat} {a a1 a2 : Act} {o : Oper} (h : SameT D a a1) (hd : ∀ d, o.dst = some d → d ∈ D) {v : Value} (ht : a2.tmps = (a1.put o.dst v).tmps) : SameT D a a2 := by
 intro t hn
 rw [ht, ← h t hn]
 cases ho : o.dst with
 | none => rfl
 | some d =>
  have : d ≠ t := fun e => hn (e ▸ hd d ho)
  simp only [Act.put]
  exact Array.getElem?_setIfInBounds_ne this
theorem wp_putT {P : Program} {o : Oper} {a : Act} {w : World} {K : Act → World → Prop} (h : o.wp P a w K Q) : o.wp P a w (fun a' w' => K a' w' ∧ ∃ v, a'.tmps = (a.put o.dst v).tmps) Q := by
 unfold Oper.wp at *
 generalize (execOp a.eval o).run P w = r at *
 cases r with
 | ok n w' =>
  cases n <;> simp only [Oper.upon] at h ⊢ <;> first
   | exact ⟨h, _, rfl⟩
   | exact Calls.mono h (fun e w'' he => by cases e <;> first | exact ⟨he, _, rfl⟩ | exact he)
   | exact Rows.mono h (fun _ _ he => ⟨he, _, rfl⟩)
   | exact ⟨h, undef, by cases o.dst <;> rfl⟩
 | halt x w' => cases x <;> simp only [Oper.upon] at h ⊢ <;> exact h
structure RM (cx : Cx) (m : Mem) (s : St) (a : Act) (w : World) : Prop where
 defers : a.defers = []
 size : a.tmps.size = cx.N.n
 below : BelowK cx.K cx.w0 w
 lowK : (∀ b, cx.K b → b < cx.w0.heap.size) ∧ GK cx.K cx.w0
 hok : HeapOK cx.K s.heap m w
 fix : FixOK cx m
 env : ∀ t v, s.env.lookup t = some v → ∃ u, a.tmps[t]? = some u ∧ AVRep s.heap m w v u
theorem RM.r {m : Mem} {s : St} {a : Act} {w : World} (h : RM cx m s a w) : R cx s a w := ⟨h.defers, h.size, h.below, h.lowK, m, ⟨h.hok, h.fix⟩, h.env⟩
def zfj (P : Program) (N : Lim) (l : List Oper) (ids2 : List Nat) : List Nat → List Nat → St → Option (St × Prop)
 | [], _, s => some (s, True)
 | i :: F, done, s => match l[i]? with
  | some o => match o.guard, o.dst, zho P (rho s.env) (fun i => s.heap.lookup i) ids2 o with
   | none, some d, some (av, p) =>
    if decide (d < N.n) && !done.contains i && (onOf o).all (fun j => done.contains j && decide (j < l.length)) && (l.zipIdx.all fun p => p.2 == i || done.contains p.2 || (onOf p.1).contains i || o.apart l.toArray p.1) then
     match zfj P N l ids2 F (i :: done) ⟨(d, av) :: s.env, s.heap⟩ with
     | some (s1, q) => some (s1, p ∧ q)
     | none => none
    else none
   | _, _, _ => none
  | none => none
theorem any_heldF {l : List Oper} {ids2 : List Nat} {m : Mem} {w : World} {S : World → Prop} (hS0 : S w) (hS : ∀ w', S w' → ∀ b, b < w.heap.size → (∀ i ∈ ids2, ¬ m.foot i b) → w'.heap[b]? = w.heap[b]?)
  (hsel : Region.noSelect l.toArray = true) (hQ : ∀ c a d v w, Q (.panic c) (a.put d v) w → Q (.panic c) a w) : ∀ (F done : List Nat) (s s1 : St) (p : Prop) (listed : Array Bool) (fuel : Nat) (a : Act),
  zfj cx.P cx.N l ids2 F done s = some (s1, p) → p → listed.size = l.length → (∀ i, i < l.length → (listed.getD i true = true ↔ i ∈ done)) → RM cx m s a w → (∀ i ∈ ids2, ∃ n sz g, s.heap.lookup i = some (.arr true n sz g)) →
  (∀ (listed' : Array Bool) a', listed'.size = l.length → (∀ i, i < l.length → (listed'.getD i true = true ↔ i ∈ F ∨ i ∈ done)) → RM cx m s1 a' w → s1.heap = s.heap → wpAnyH cx.P .any l.toArray Q S fuel listed' a' w) →
  wpAnyH cx.P .any l.toArray Q S (fuel + F.length) listed a w := by
 intro F
 induction F with
 | nil =>
  intro done s s1 p listed fuel a h _ hsz hl hR _ hk
  cases h
  exact hk listed a hsz (fun i hi => by simpa using hl i hi) hR rfl
 | cons i F ih =>
  intro done s s1 p listed fuel a h hp hsz hl hR hid hk
  unfold zfj at h
  split at h
  case h_2 => cases h
  rename_i o ho
  split at h
  case h_2 => cases h
  rename_i d av p1 hg hd hev
  split at h
  case isFalse => cases h
  rename_i hc
  split at h
  case h_2 => cases h
  rename_i s2 q hrest
  cases h
  simp only [Bool.and_eq_true, decide_eq_true_eq, Bool.not_eq_true', List.contains_eq_mem, decide_eq_false_iff_not, List.all_eq_true, Bool.or_eq_true, beq_iff_eq] at hc
  obtain ⟨⟨⟨hdN, hnd⟩, hon⟩, hap⟩ := hc
  have hil : i < l.length := (List.getElem?_eq_some_iff.1 ho).1
  have hoa : l.toArray[i]? = some o := by simpa using ho
  have getf : ∀ j, j < l.length → listed.getD j false = listed.getD j true := fun j hj => by
   simp only [Array.getD_eq_getD_getElem?]
   rw [Array.getElem?_eq_getElem (by rw [hsz]; exact hj)]; rfl
  have hlen : ∀ j ∈ done, j < l.length → listed.getD j false = true := fun j hj hjl => by rw [getf j hjl]; exact (hl j hjl).2 hj
  obtain ⟨v, hv, hx⟩ := evHeld_go (P := cx.P) (n0 := cx.K) (m := m) (w := w) hev hp.1 hR.hok hid (fun x _ av hx => zko hR.env x av hx)
  have hR' : RM cx m ⟨(d, av) :: s.env, s.heap⟩ (a.put (some d) v) w := ⟨hR.defers, by simp [Act.put, hR.size], hR.below, hR.lowK, hR.hok, hR.fix, zcm (by rw [hR.size]; exact hdN) hx hR.env⟩
  have hready : i ∈ Region.ready .any l.toArray listed := ready_mem.2 ⟨by simpa using hil, by
   cases hg' : listed.getD i true with
   | false => rfl
   | true => exact absurd ((hl i hil).1 hg') hnd, o, hoa, fun j hj => by
   exact hlen j (hon j hj).1 (hon j hj).2⟩
  have hfuel : fuel + (i :: F).length = (fuel + F.length) + 1 := by simp; omega
  rw [hfuel]
  refine wpAnyH_first (i := i) (v := v) hoa (fun j o' cs b hj => Region.noSelect_spec hsel j o' cs b hj) (fun c a' w' => by rw [hd]; exact hQ c a' (some d) v w') (fuel + F.length) listed a w ?_ hready (.inl ⟨by unfold Region.wanted; rw [hg], fun w' hw' => hv w' (hS w' hw')⟩) hS0 ?_
  ·intro j oj hj hji hun hno
   have hjl : j < l.length := by
    have := (Array.getElem?_eq_some_iff.1 hj).1
    simpa using this
   rcases hap (oj, j) (List.mem_zipIdx_iff_getElem?.2 (by simpa using hj)) with ((h | h) | h) | h
   ·exact absurd h hji
   ·rw [(hl j hjl).2 h] at hun; cases hun
   ·obtain ⟨e, he, heq⟩ := List.mem_map.1 h
    obtain ⟨he1, he2⟩ := List.mem_filter.1 he
    exact absurd heq (hno e (by simpa using he1) he2)
   ·exact h
  ·rw [hd]
   refine ih (i :: done) _ s1 q _ fuel _ hrest hp.2 (by simpa using hsz) (fun j hj => ?_) hR' hid (fun listed' a' h1 h2 h3 h4 => hk listed' a' h1 (fun j hj => ?_) h3 h4)
   ·rw [zjh (by omega)]
    by_cases e : j = i
    ·simp [e]
    ·rw [if_neg e, hl j hj]; simp [e]
   ·rw [h2 j hj]
    simp only [List.mem_cons]
    constructor
    ·rintro (h | h | h)
     ·exact .inl (.inr h)
     ·exact .inl (.inl h)
     ·exact .inr h
    ·rintro ((h | h) | h)
     ·exact .inr (.inl h)
     ·exact .inl h
     ·exact .inr (.inr h)
theorem any_treeH {l : List Oper} {hs : List Hint} {ts ids : List Nat} {s' : St} {D : List Nat} {a0 : Act} (hQ : ∀ a w, R cx s' a w → SameT D a0 a → Q .normal a w) : ∀ (f : Nat) (rem : List Nat) (s : St) (ob : Prop) (listed : Array Bool) (fuel : Nat) (a : Act) (w : World),
  zyl cx.P cx.N l hs ts ids f rem s = some (s', ob) → ob → listed.size = l.length → (∀ i, i < l.length → (listed.getD i true = false ↔ i ∈ rem)) → (∀ i ∈ rem, i < l.length) → rem.Nodup → rem.length ≤ fuel → R cx s a w →
  (∀ i ∈ rem, ∀ o, l[i]? = some o → ∀ d, o.dst = some d → d ∈ D) → SameT D a0 a →
  wpAnyH cx.P .any l.toArray Q (fun w' => BelowK cx.K cx.w0 w') fuel listed a w := by
 have fin : ∀ (rem : List Nat) (s : St) (listed : Array Bool) (fuel : Nat) (a : Act) (w : World), rem = [] → zjr ids (restr ts ids s) = true → s' = restr ts ids s → (∀ i, i < l.length → (listed.getD i true = false ↔ i ∈ rem)) → R cx s a w → SameT D a0 a → wpAnyH cx.P .any l.toArray Q (fun w' => BelowK cx.K cx.w0 w') fuel listed a w := by
  intro rem s listed fuel a w hrem hr hs' hlist hR hT
  subst hrem
  have hnil : Region.ready .any l.toArray listed = [] := by
   rw [List.eq_nil_iff_forall_not_mem]
   intro i hi
   obtain ⟨h1, h2, _⟩ := ready_mem.1 hi
   simp at h1
   have := (hlist i h1).1 h2
   cases this
  have hRr := Sub.restr ts ids hr a w hR
  rw [← hs'] at hRr
  cases fuel with
  | zero => exact ⟨hnil, hQ a w hRr hT⟩
  | succ f => exact ⟨fun _ => hQ a w hRr hT, by rw [hnil]; simp⟩
 intro f
 induction f with
 | zero =>
  intro rem s ob listed fuel a w h hob hsz hlist hlt hnd hfuel hR _ hT
  simp only [zyl] at h
  split at h
  ·rename_i hr
   simp only [Bool.and_eq_true, List.isEmpty_iff] at hr
   cases h
   exact fin rem s listed fuel a w hr.1 hr.2 rfl hlist hR hT
  ·cases h
 | succ f ih =>
  intro rem s ob listed fuel a w h hob hsz hlist hlt hnd hfuel hR hDs hT
  have getf : ∀ i, i < l.length → listed.getD i false = listed.getD i true := fun i hi => by
   simp only [Array.getD_eq_getD_getElem?]
   rw [Array.getElem?_eq_getElem (by rw [hsz]; exact hi)]; rfl
  simp only [zyl] at h
  split at h
  ·rename_i hr0
   split at h
   ·rename_i hr
    cases h
    exact fin rem s listed fuel a w (List.isEmpty_iff.1 hr0) hr rfl hlist hR hT
   ·cases h
  ·rename_i hr0
   have hrem : rem ≠ [] := fun e => hr0 (by rw [e]; rfl)
   obtain ⟨hall, hne⟩ := joinAll_spec _ _ _ h hob
   cases fuel with
   | zero => exact absurd (List.eq_nil_of_length_eq_zero (by omega)) hrem
   | succ fu =>
    have hready : ∀ i, i ∈ Region.ready .any l.toArray listed ↔ i ∈ rem ∧ (∀ o, l[i]? = some o → ∀ d ∈ onOf o, listed.getD d false = true) := by
     intro i
     rw [ready_mem]
     constructor
     ·rintro ⟨h1, h2, o, ho, h3⟩
      have h1' : i < l.length := by simpa using h1
      refine ⟨(hlist i h1').1 h2, fun o' ho' => ?_⟩
      have : l[i]? = some o := by simpa using ho
      rw [this] at ho'; cases ho'; exact h3
     ·rintro ⟨h1, h2⟩
      have hil := hlt i h1
      exact ⟨by simpa using hil, (hlist i hil).2 h1, l[i], by simp [hil], h2 l[i] (List.getElem?_eq_getElem hil)⟩
    have inrem : ∀ i, i ∈ Region.ready .any l.toArray listed → zv8 l rem i = true := by
     intro i hi
     obtain ⟨h1, h2⟩ := (hready i).1 hi
     have hil := hlt i h1
     unfold zv8
     rw [List.getElem?_eq_getElem hil]
     simp only [List.all_eq_true, Bool.and_eq_true, Bool.not_eq_true', List.contains_eq_mem, decide_eq_false_iff_not, decide_eq_true_eq]
     intro d hd
     have := h2 l[i] (List.getElem?_eq_getElem hil) d hd
     have hdl : d < l.length := by
      rcases Nat.lt_or_ge d l.length with h | h
      ·exact h
      ·rw [Array.getD_eq_getD_getElem?, Array.getElem?_eq_none (by omega)] at this; cases this
     refine ⟨fun hdr => ?_, hdl⟩
     rw [getf d hdl, (hlist d hdl).2 hdr] at this
     cases this
    have step : ∀ i, i ∈ rem → zv8 l rem i = true → ∃ o s1 p q, l[i]? = some o ∧ run1 cx.P cx.N l.toArray o (hs.getD i .no) s = some (s1, p) ∧ zyl cx.P cx.N l hs ts ids f (rem.erase i) s1 = some (s', q) ∧ p ∧ q := by
     intro i hi hri
     obtain ⟨x, hx1, hx2⟩ := hall _ (List.mem_map.2 ⟨i, List.mem_filter.2 ⟨hi, hri⟩, rfl⟩)
     split at hx1
     ·rename_i o ho
      split at hx1
      ·rename_i s1 p h1
       split at hx1
       ·rename_i s2 q h2
        cases hx1
        exact ⟨o, s1, p, q, ho, h1, h2, hx2.1, hx2.2⟩
       ·cases hx1
      ·cases hx1
     ·cases hx1
    refine ⟨fun hnil => ?_, fun i hi => ?_⟩
    ·exfalso
     have : ∃ i ∈ rem, zv8 l rem i = true := by
      cases hf : rem.filter (zv8 l rem) with
      | nil => rw [hf] at hne; simp at hne
      | cons i r =>
       have : i ∈ rem.filter (zv8 l rem) := by rw [hf]; simp
       exact ⟨i, (List.mem_filter.1 this).1, (List.mem_filter.1 this).2⟩
     obtain ⟨i, hi, hri⟩ := this
     have hil := hlt i hi
     have : i ∈ Region.ready .any l.toArray listed := by
      rw [hready]
      refine ⟨hi, fun o ho d hd => ?_⟩
      unfold zv8 at hri
      rw [ho] at hri
      simp only [List.all_eq_true, Bool.and_eq_true, Bool.not_eq_true', List.contains_eq_mem, decide_eq_false_iff_not, decide_eq_true_eq] at hri
      obtain ⟨hdr, hdl⟩ := hri d hd
      rw [getf d hdl]
      cases e : listed.getD d true with
      | true => rfl
      | false => exact absurd ((hlist d hdl).1 e) hdr
     rw [hnil] at this; cases this
    ·obtain ⟨h1, _⟩ := (hready i).1 hi
     obtain ⟨o, s1, p, q, ho, hr1, hr2, hp, hq⟩ := step i h1 (inrem i hi)
     have hil := hlt i h1
     unfold wpOp
     have hoi : l.toArray[i]? = some o := by simpa using ho
     rw [hoi]
     simp only
     have next : ∀ a' w', R cx s1 a' w' → (∃ v, a'.tmps = (a.put o.dst v).tmps) → BelowK cx.K cx.w0 w' ∧ wpAnyH cx.P .any l.toArray Q (fun w' => BelowK cx.K cx.w0 w') fu (listed.setIfInBounds i true) a' w' := fun a' w' hR' ⟨v, hv⟩ =>
      ⟨hR'.below, ih (rem.erase i) s1 q (listed.setIfInBounds i true) fu a' w' hr2 hq (by simpa using hsz) (fun j hj => by
       rw [zjh (by omega)]
       by_cases e : j = i
       ·subst e
        simp
        exact fun h => (List.Nodup.mem_erase_iff hnd).1 h |>.1 rfl
       ·rw [if_neg e, hlist j hj, List.mem_erase_of_ne e]) (fun j hj => hlt j (List.mem_of_mem_erase hj)) (hnd.erase i) (by rw [List.length_erase_of_mem h1]; omega) hR' (fun j hj => hDs j (List.mem_of_mem_erase hj)) (hT.put (hDs i h1 o ho) hv)⟩
     rcases zkr (Q := Q) (K := fun a' w' => R cx s1 a' w') hr1 hp hR (fun _ _ h => h) with ⟨hw, hk⟩ | ⟨hw, hk⟩
     ·rw [hw]; exact .inl (Oper.wp_mono (fun a' w' h => next a' w' h.1 h.2) (wp_putT hk))
     ·rw [hw]; exact next _ _ hk ⟨undef, rfl⟩
/-! ### What was left out is put back -/
def plainC : C → Bool
 | .int _ _ | .bool _ | .flt _ _ | .str _ | .nilptr | .nilfn | .niliface => true
 | _ => false
def plainX : X → Bool
 | .c c => plainC c
 | .nils | .ptr _ _ | .arr _ | .elt _ _ _ | .sub _ _ _ => true
 | _ => false
def plainTV : TV → Bool
 | .one x => plainX x
 | .agg xs => xs.all plainX
def plainAV : AV → Bool
 | .v t => plainTV t
 | .tup ts => ts.all plainTV
 | .undef => true
 | .prt _ _ _ => false
def plainOb : Ob → Bool
 | .box xs => xs.all plainX
 | _ => true
theorem zch {β : Type} (D : List Nat) (t : Nat) : ∀ (l : List (Nat × β)), (l.filter fun p => !D.contains p.1).lookup t = if t ∈ D then none else l.lookup t
 | [] => by simp
 | (k, v) :: l => by
  have ih := zch D t l
  by_cases hk : k ∈ D
  ·rw [List.filter_cons_of_neg (by simpa using hk), ih]
   by_cases ht : t ∈ D
   ·simp [ht]
   ·have : (t == k) = false := by rw [beq_eq_false_iff_ne]; rintro rfl; exact ht hk
    simp [ht, List.lookup_cons, this]
  ·rw [List.filter_cons_of_pos (by simpa using hk), List.lookup_cons, List.lookup_cons, ih]
   by_cases e : t = k
   ·subst e; simp [hk]
   ·have : (t == k) = false := by simpa using e
    rw [this]
theorem app_lookup {β : Type} (l1 l2 : List (Nat × β)) (t : Nat) : (l1 ++ l2).lookup t = match l1.lookup t with | some v => some v | none => l2.lookup t := by
 rw [List.lookup_append]
 cases l1.lookup t <;> rfl
theorem plainC_rep {w w' : World} {av av' : Av} {c : C} {v : Value} (h : plainC c = true) (hr : CRep w av c v) : CRep w' av' c v := by
 cases c <;> simp [plainC] at h <;> exact hr
theorem frame {m : Mem} {s1 s3 : St} {a1 a' : Act} {w1 w' : World} {ids2 D : List Nat} {nf2 : Nat} (h : RM cx m s1 a1 w1) (hn : cx.N.nf ≤ nf2) (hids : ∀ id ob, s1.heap.lookup id = some ob → id < nf2 ∧ ∀ i ∈ ob.ids, i < nf2)
  (henv : ∀ t v, (t, v) ∈ s1.env → ∀ i ∈ v.ids, i < nf2) (hid2 : ∀ i ∈ ids2, ∃ n sz g n' sz' g', s1.heap.lookup i = some (.arr true n sz g) ∧ s3.heap.lookup i = some (.arr true n' sz' g') ∧ n' = n ∧ sz' = sz ∧ ∀ i j, i < n → j < sz → isSeq (g' i j) = isSeq (g i j))
  (h3 : R ⟨cx.P, w1, ⟨nf2, cx.N.n⟩, fun b => b < w1.heap.size ∧ ∀ i ∈ ids2, ¬ m.foot i b, m.val, m.sub⟩ s3 a' w') (hT : SameT D a1 a') (hpe : ∀ t v, s3.env.lookup t = some v → plainAV v = true) (hpo : ∀ id ob, s3.heap.lookup id = some ob → plainOb ob = true ∧ (id ∈ ids2 ∨ nf2 ≤ id)) :
  R cx ⟨s3.env ++ s1.env.filter (fun p => !D.contains p.1), s3.heap ++ s1.heap.filter (fun p => !ids2.contains p.1)⟩ a' w' := by
 obtain ⟨m3, ⟨hok3, hfix3⟩, henv3⟩ := h3.mem
 have hbelow : BelowK (fun b => b < w1.heap.size ∧ ∀ i ∈ ids2, ¬ m.foot i b) w1 w' := h3.below
 have hlk : ∀ id, (s3.heap ++ s1.heap.filter (fun p => !ids2.contains p.1)).lookup id = match s3.heap.lookup id with | some v => some v | none => if id ∈ ids2 then none else s1.heap.lookup id := by
  intro id
  rw [app_lookup, zch]
  cases s3.heap.lookup id <;> rfl
 have inH : ∀ {id ob}, s3.heap.lookup id = some ob → (s3.heap ++ s1.heap.filter (fun p => !ids2.contains p.1)).lookup id = some ob := fun h => by rw [hlk, h]
 have keptH : ∀ {id ob}, s1.heap.lookup id = some ob → id ∉ ids2 → s3.heap.lookup id = none ∧ (s3.heap ++ s1.heap.filter (fun p => !ids2.contains p.1)).lookup id = some ob := fun {id ob} h hn2 => by
  have h0 : s3.heap.lookup id = none := by
   cases hq : s3.heap.lookup id with
   | none => rfl
   | some o =>
    have h1 := (hids id ob h).1
    rcases (hpo id o hq).2 with h2 | h2
    ·exact absurd h2 hn2
    ·omega
  exact ⟨h0, by rw [hlk, h0]; simp only [if_neg hn2]; exact h⟩
 have caseH : ∀ {id ob}, (s3.heap ++ s1.heap.filter (fun p => !ids2.contains p.1)).lookup id = some ob → s3.heap.lookup id = some ob ∨ (s3.heap.lookup id = none ∧ id ∉ ids2 ∧ s1.heap.lookup id = some ob) := by
  intro id ob hl
  rw [hlk] at hl
  cases hq : s3.heap.lookup id with
  | some o => rw [hq] at hl; exact .inl hl
  | none =>
   rw [hq] at hl
   simp only at hl
   split at hl
   ·cases hl
   ·rename_i hn2; exact .inr ⟨rfl, hn2, hl⟩
 generalize hHt : s3.heap ++ s1.heap.filter (fun p => !ids2.contains p.1) = Ht at *
 have m3val : ∀ id, id < nf2 → m3.val id = m.val id ∧ m3.sub id = m.sub id := fun id hlt => hfix3 id hlt
 let news : List Nat := (s3.heap.map (·.1)).filter (fun i => decide (nf2 ≤ i))
 have news_ge : ∀ {i}, i ∈ news → nf2 ≤ i := fun {i} hi => by
  have := (List.mem_filter.1 hi).2
  simpa using this
 have news_of : ∀ {id ob}, s3.heap.lookup id = some ob → nf2 ≤ id → id ∈ news := fun {id ob} hl hge => List.mem_filter.2 ⟨zwf hl, by simpa using hge⟩
 obtain ⟨mt, hmt⟩ : ∃ mt : Mem, mt = ⟨fun id => if id ∈ news then m3.val id else m.val id, fun id => if id ∈ ids2 ∨ id ∈ news then m3.foot id else m.foot id, fun id => if id ∈ news then m3.sub id else m.sub id⟩ := ⟨_, rfl⟩
 have mtv : ∀ {id ob}, s3.heap.lookup id = some ob → mt.val id = m3.val id ∧ mt.foot id = m3.foot id ∧ mt.sub id = m3.sub id := by
  intro id ob hl
  rw [hmt]
  simp only
  rcases (hpo id ob hl).2 with h2 | h2
  ·by_cases hw : id ∈ news
   ·simp [hw]
   ·obtain ⟨n, sz, g, n', sz', g', hl1, _⟩ := hid2 id h2
    obtain ⟨e1, e2⟩ := m3val id (hids id _ hl1).1
    simp [hw, h2, e1, e2]
  ·have := news_of hl h2
   simp [this]
 have mto : ∀ {id ob}, s1.heap.lookup id = some ob → id ∉ ids2 → mt.val id = m.val id ∧ mt.foot id = m.foot id ∧ mt.sub id = m.sub id := by
  intro id ob hl hn2
  have hlt := (hids id ob hl).1
  have hw : id ∉ news := fun hw => by have := news_ge hw; omega
  rw [hmt]
  simp [hw, hn2]
 have kept2 : ∀ {id b}, (s1.heap.lookup id).isSome = true → id ∉ ids2 → m.foot id b → b < w1.heap.size ∧ ∀ i ∈ ids2, ¬ m.foot i b := by
  intro id b ha hn2 hf
  refine ⟨(h.hok.lo id b ha hf).2, fun i hi hf' => ?_⟩
  obtain ⟨n, sz, g, n', sz', g', hl1, _⟩ := hid2 i hi
  exact hn2 (h.hok.apart id i b ha (by rw [hl1]; rfl) hf hf' ▸ hi)
 have foot3 : ∀ {id b}, (s3.heap.lookup id).isSome = true → m3.foot id b → ¬ (b < w1.heap.size ∧ ∀ i ∈ ids2, ¬ m.foot i b) ∧ b < w'.heap.size := fun ha hf => hok3.lo _ _ ha hf
 have hS : Step cx.K news [] s1.heap m w1 Ht mt w' := by
  refine ⟨hbelow.mono fun b hb => ⟨Nat.lt_of_lt_of_le (h.lowK.1 b hb) h.below.size, fun i hi hf => ?_⟩, fun b o u hu hnav => ?_, fun id hid => by rw [hmt]; simp [hid], fun id hid => by rw [hmt]; simp [hid], fun id ob hl hnw _ => ?_, fun id ha hnw => ?_⟩
  ·obtain ⟨n, sz, g, n', sz', g', hl1, _⟩ := hid2 i hi
   exact (h.hok.lo i b (by rw [hl1]; rfl) hf).1 hb
  ·have hblt : b < w1.heap.size := World.block_lt_of_cell? w1 ⟨b, o, none⟩ hu
   have hK2 : b < w1.heap.size ∧ ∀ i ∈ ids2, ¬ m.foot i b := ⟨hblt, fun i hi hf => by
    obtain ⟨n, sz, g, n', sz', g', hl1, _⟩ := hid2 i hi
    exact hnav ⟨i, _, hl1, hf, trivial⟩⟩
   have hsame := hbelow.block b hK2
   refine ⟨by rw [World.cell?_of_block (w := w1) (a := ⟨b, o, none⟩) hsame]; exact hu, ?_⟩
   rintro ⟨id, ob, hl, hr, hm⟩
   rcases caseH hl with hl3 | ⟨_, hn2, hl1⟩
   ·obtain ⟨e1, e2, e3⟩ := mtv hl3
    rw [zkx e1 e2] at hr
    have := (hok3.ob id ob hl3).reach hr
    exact (foot3 (by rw [hl3]; rfl) this).1 hK2
   ·obtain ⟨e1, e2, e3⟩ := mto hl1 hn2
    rw [zkx e1 e2] at hr
    exact hnav ⟨id, ob, hl1, hr, hm⟩
  ·by_cases h2 : id ∈ ids2
   ·obtain ⟨n, sz, g, n', sz', g', hl1, hl3, e1, e2, e3⟩ := hid2 id h2
    rw [hl1] at hl; cases hl
    exact ⟨_, inH hl3, rfl, e1.symm, e2.symm, fun _ => e3⟩
   ·exact ⟨ob, (keptH hl h2).2, ob.like_refl⟩
  ·obtain ⟨ob, hl⟩ := Option.isSome_iff_exists.1 ha
   rcases caseH hl with hl3 | ⟨_, _, hl1⟩
   ·rcases (hpo id ob hl3).2 with h2 | h2
    ·obtain ⟨n, sz, g, n', sz', g', hl1, _⟩ := hid2 id h2
     rw [hl1]; rfl
    ·exact absurd (news_of hl3 h2) hnw
   ·rw [hl1]; rfl
 have px : ∀ {x : X} {v : Value}, plainX x = true → XRep s3.heap m3 w' x v → XRep Ht mt w' x v := by
  intro x v hp hr
  cases x with
  | c c => exact plainC_rep hp hr
  | nils => exact hr
  | ptr id off =>
   obtain ⟨ha, b, hb, hv⟩ := hr
   obtain ⟨ob, hl⟩ := Option.isSome_iff_exists.1 ha
   exact ⟨by rw [inH hl]; rfl, b, by rw [(mtv hl).1]; exact hb, hv⟩
  | arr id =>
   obtain ⟨ha, hA, hv⟩ := hr
   obtain ⟨ob, hl⟩ := Option.isSome_iff_exists.1 ha
   refine ⟨by rw [inH hl]; rfl, ?_, by rw [(mtv hl).1]; exact hv⟩
   rw [hl] at hA
   rw [inH hl]; exact hA
  | elt id i off =>
   obtain ⟨d, n, sz, g, b, cap, hl, hi, hb, hv⟩ := hr
   exact ⟨d, n, sz, g, b, cap, inH hl, hi, by rw [(mtv hl).1]; exact hb, hv⟩
  | sub id i j =>
   obtain ⟨n, sz, g, hl, hi, hj, hs, hv⟩ := hr
   exact ⟨n, sz, g, inH hl, hi, hj, hs, by rw [(mtv hl).2.2]; exact hv⟩
  | fx => cases hp
  | lst => cases hp
  | clo => cases hp
 have ptv : ∀ {t : TV} {v : Value}, plainTV t = true → TVRep s3.heap m3 w' t v → TVRep Ht mt w' t v := by
  intro t v hp hr
  cases t with
  | one x => exact px hp hr
  | agg xs =>
   obtain ⟨vs, h1, h2, h3⟩ := hr
   refine ⟨vs, h1, h2, fun j x hj => ?_⟩
   obtain ⟨u, hu, hx⟩ := h3 j x hj
   exact ⟨u, hu, px (List.all_eq_true.1 hp x (List.mem_of_getElem? hj)) hx⟩
 have pav : ∀ {v : AV} {u : Value}, plainAV v = true → AVRep s3.heap m3 w' v u → AVRep Ht mt w' v u := by
  intro v u hp hr
  cases v with
  | v t => exact ptv hp hr
  | tup ts =>
   obtain ⟨vs, h1, h2, h3⟩ := hr
   refine ⟨vs, h1, h2, fun j t hj => ?_⟩
   obtain ⟨u, hu, hx⟩ := h3 j t hj
   exact ⟨u, hu, ptv (List.all_eq_true.1 hp t (List.mem_of_getElem? hj)) hx⟩
  | undef => exact hr
  | prt => cases hp
 refine ⟨h3.defers, h3.size, h.below.trans hS.below, h.lowK, mt, ⟨⟨fun id ob hl => ?_, fun id b ha hf => ?_, fun id id' b ha ha' hf hf' => ?_⟩, h.fix.step hS fun i hi => Nat.le_trans hn (news_ge hi)⟩, fun t v hl => ?_⟩
 ·have hl : Ht.lookup id = some ob := hl
  show ObRep Ht mt w' id ob
  rcases caseH hl with hl3 | ⟨_, hn2, hl1⟩
  ·obtain ⟨e1, e2, e3⟩ := mtv hl3
   have hob := hok3.ob id ob hl3
   cases ob with
   | box xs =>
    obtain ⟨b, cur, E, q1, q2, q3, q4, q5⟩ := hob
    refine ⟨b, cur, E, by rw [e1]; exact q1, q2, q3, by rw [e2]; exact q4, fun j x hj => ?_⟩
    obtain ⟨u, hu, hx⟩ := q5 j x hj
    exact ⟨u, hu, px (List.all_eq_true.1 (hpo id _ hl3).1 x (List.mem_of_getElem? hj)) hx⟩
   | ext p =>
    show ExtRep w' p (mt.foot id) (mt.val id)
    rw [e1, e2]; exact hob
   | arr d n sz g =>
    show OwnC w' _ (mt.foot id) (mt.val id) ∧ (d = true → ∀ i j, i < n → j < sz → isSeq (g i j) = true → ∃ b, Value.blk (mt.val id) = some b ∧ w'.cell? ⟨b, i * sz + j, none⟩ = some (mt.sub id (i * sz + j)))
    rw [e1, e2, e3]; exact hob
   | lst n sz g =>
    show OwnC w' _ (mt.foot id) (mt.val id)
    rw [e1, e2]; exact hob
  ·obtain ⟨e1, e2, e3⟩ := mto hl1 hn2
   exact ObRep.step hS e1 (fun b => by rw [e2]) e3 (fun i hi hw => by have := (hids id ob hl1).2 i hi; have := news_ge hw; omega) (by simp) (fun b hf => hbelow.block b (kept2 (by rw [hl1]; rfl) hn2 hf)) (h.hok.ob id ob hl1)
 ·obtain ⟨ob, hl⟩ := Option.isSome_iff_exists.1 ha
  rcases caseH hl with hl3 | ⟨_, hn2, hl1⟩
  ·rw [(mtv hl3).2.1] at hf
   obtain ⟨q1, q2⟩ := foot3 (by rw [hl3]; rfl) hf
   refine ⟨fun hb => q1 ⟨Nat.lt_of_lt_of_le (h.lowK.1 b hb) h.below.size, fun i hi hf' => ?_⟩, q2⟩
   obtain ⟨n, sz, g, n', sz', g', hl1, _⟩ := hid2 i hi
   exact (h.hok.lo i b (by rw [hl1]; rfl) hf').1 hb
  ·rw [(mto hl1 hn2).2.1] at hf
   obtain ⟨q1, q2⟩ := h.hok.lo id b (by rw [hl1]; rfl) hf
   exact ⟨q1, Nat.lt_of_lt_of_le q2 hbelow.size⟩
 ·obtain ⟨ob, hl⟩ := Option.isSome_iff_exists.1 ha
  obtain ⟨ob', hl'⟩ := Option.isSome_iff_exists.1 ha'
  rcases caseH hl with hl3 | ⟨_, hn2, hl1⟩ <;> rcases caseH hl' with hl3' | ⟨_, hn2', hl1'⟩
  ·rw [(mtv hl3).2.1] at hf; rw [(mtv hl3').2.1] at hf'
   exact hok3.apart id id' b (by rw [hl3]; rfl) (by rw [hl3']; rfl) hf hf'
  ·rw [(mtv hl3).2.1] at hf; rw [(mto hl1' hn2').2.1] at hf'
   exact absurd (kept2 (by rw [hl1']; rfl) hn2' hf') (foot3 (by rw [hl3]; rfl) hf).1
  ·rw [(mto hl1 hn2).2.1] at hf; rw [(mtv hl3').2.1] at hf'
   exact absurd (kept2 (by rw [hl1]; rfl) hn2 hf) (foot3 (by rw [hl3']; rfl) hf').1
  ·rw [(mto hl1 hn2).2.1] at hf; rw [(mto hl1' hn2').2.1] at hf'
   exact h.hok.apart id id' b (by rw [hl1]; rfl) (by rw [hl1']; rfl) hf hf'
 ·have hl : (s3.env ++ s1.env.filter (fun p => !D.contains p.1)).lookup t = some v := hl
  rw [app_lookup, zch] at hl
  cases hq : s3.env.lookup t with
  | some v' =>
   rw [hq] at hl
   cases hl
   obtain ⟨u, hu, hr⟩ := henv3 t v hq
   exact ⟨u, hu, pav (hpe t v hq) hr⟩
  | none =>
   rw [hq] at hl
   simp only at hl
   split at hl
   ·cases hl
   ·rename_i hnD
    obtain ⟨u, hu, hr⟩ := h.env t v hl
    exact ⟨u, by rw [hT t hnD]; exact hu, hS.avrep (fun i hi hw => by have := henv t v (zxt hl) i hi; have := news_ge hw; omega) (by simp) hr⟩
def zgs (H H3 : Nat → Option Ob) : List Nat → Prop
 | [] => True
 | i :: r => (match H i, H3 i with
  | some (.arr true n sz g), some (.arr true n' sz' g') => n' = n ∧ sz' = sz ∧ ∀ i j, i < n → j < sz → isSeq (g' i j) = isSeq (g i j)
  | _, _ => False) ∧ zgs H H3 r
def isArrT (H : List (Nat × Ob)) (i : Nat) : Bool :=
 match H.lookup i with
 | some (.arr true _ _ _) => true
 | _ => false
def zdy (l : List Oper) (rem : List Nat) : List Nat := rem.filterMap fun i => (l[i]?).bind (·.dst)
def zfx (ts ids D ids2 : List Nat) (s1 s3 : St) : St := restr ts ids ⟨s3.env ++ s1.env.filter (fun p => !D.contains p.1), s3.heap ++ s1.heap.filter (fun p => !ids2.contains p.1)⟩
def runHT (P : Program) (N : Lim) (l : List Oper) (F ids2 : List Nat) (nf2 : Nat) (ts2 : List Nat) (hs : List Hint) (ts3 ids3 ts ids : List Nat) (s : St) : Option (St × Prop) :=
 if Region.noSelect l.toArray && decide ((zvc l F).length + F.length = l.length) && Nat.ble N.nf nf2 && (s.heap.all fun p => Nat.blt p.1 nf2 && p.2.ids.all (Nat.blt · nf2)) && ids2.all (isArrT s.heap) then
  match zfj P N l ids2 F [] s with
  | some (s1, p) =>
   if s1.env.all (fun e => e.2.ids.all (Nat.blt · nf2)) && zjr ids2 (restr ts2 ids2 s1) then
    match zyl P ⟨nf2, N.n⟩ l hs ts3 ids3 (zvc l F).length (zvc l F) (restr ts2 ids2 s1) with
    | some (s3, q) =>
     if s3.env.all (fun e => plainAV e.2) && s3.heap.all (fun p => plainOb p.2 && (ids2.contains p.1 || Nat.ble nf2 p.1)) && zjr ids (zfx ts ids (zdy l (zvc l F)) ids2 s1 s3) then
      some (zfx ts ids (zdy l (zvc l F)) ids2 s1 s3, p ∧ q ∧ zgs (fun i => s.heap.lookup i) (fun i => s3.heap.lookup i) ids2)
     else none
    | none => none
   else none
  | none => none
 else none
theorem likeAll_spec {H H3 : Nat → Option Ob} : ∀ {ids2 : List Nat}, zgs H H3 ids2 → ∀ i ∈ ids2, ∃ n sz g n' sz' g', H i = some (.arr true n sz g) ∧ H3 i = some (.arr true n' sz' g') ∧ n' = n ∧ sz' = sz ∧ ∀ i j, i < n → j < sz → isSeq (g' i j) = isSeq (g i j)
 | j :: r, h, i, hi => by
  rcases List.mem_cons.1 hi with rfl | hi
  ·have h1 := h.1
   split at h1
   ·rename_i n sz g n' sz' g' e1 e2
    exact ⟨n, sz, g, n', sz', g', e1, e2, h1⟩
   ·exact h1.elim
  ·exact likeAll_spec h.2 i hi
theorem AW.held {s s' : St} {ob : Prop} {Q : Exit → St → Prop} {id : Nat} {l : List Oper} (hm : cx.P.follows .mixedOrders = true) (F ids2 : List Nat) (nf2 : Nat) (ts2 : List Nat) (hs : List Hint) (ts3 ids3 ts ids : List Nat)
  (h : runHT cx.P cx.N l F ids2 nf2 ts2 hs ts3 ids3 ts ids s = some (s', ob)) (hob : ob) (hq : Q .normal s') : AW cx (.region id l.toArray true) s Q := by
 intro a w hR
 unfold runHT at h
 split at h
 case isFalse => cases h
 rename_i hc
 split at h
 case h_2 => cases h
 rename_i s1 p hF
 split at h
 case isFalse => cases h
 rename_i hc1
 split at h
 case h_2 => cases h
 rename_i s3 q hT
 split at h
 case isFalse => cases h
 rename_i hc3
 cases h
 obtain ⟨hp, hqq, hlike⟩ := hob
 simp only [Bool.and_eq_true, decide_eq_true_eq, List.all_eq_true] at hc hc1 hc3
 obtain ⟨⟨⟨⟨hsel, hlen⟩, hnf⟩, hheap⟩, harr⟩ := hc
 obtain ⟨henv1, hrestr⟩ := hc1
 obtain ⟨⟨hpe, hpo⟩, hrj⟩ := hc3
 have hR0 : R cx s a { w with drawn := w.drawn + 1 } := by
  obtain ⟨m, ⟨hok, hfix⟩, henv⟩ := hR.mem
  have hdr : Drew w { w with drawn := w.drawn + 1 } := ⟨rfl, rfl, rfl, rfl⟩
  refine ⟨hR.defers, hR.size, hR.below.trans (hdr.below _), hR.lowK, m, ⟨hok.drew hdr, hfix⟩, fun t v hl => ?_⟩
  obtain ⟨u, hu, hx⟩ := henv t v hl
  exact ⟨u, hu, (Step.drew (n0 := cx.K) hdr).avrep (by simp) (by simp) hx⟩
 generalize hw1 : ({ w with drawn := w.drawn + 1 } : World) = w1 at hR0
 obtain ⟨m, ⟨hok, hfix⟩, henv⟩ := hR0.mem
 have hRM : RM cx m s a w1 := ⟨hR0.defers, hR0.size, hR0.below, hR0.lowK, hok, hfix, henv⟩
 have hid : ∀ i ∈ ids2, ∃ n sz g, s.heap.lookup i = some (.arr true n sz g) := by
  intro i hi
  have := harr i hi
  unfold isArrT at this
  split at this
  ·rename_i n sz g e; exact ⟨n, sz, g, e⟩
  ·cases this
 have hsz : l.toArray.size = (zvc l F).length + F.length := by simp [hlen]
 have hids : ∀ id ob, s.heap.lookup id = some ob → id < nf2 ∧ ∀ i ∈ ob.ids, i < nf2 := by
  intro id ob hl
  obtain ⟨q1, q2⟩ := hheap (id, ob) (zwj hl)
  exact ⟨Nat.le_of_ble_eq_true q1, fun i hi => Nat.le_of_ble_eq_true (q2 i hi)⟩
 refine wp_mono (Q := fun e a' w' => e = .normal ∧ R cx (zfx ts ids (zdy l (zvc l F)) ids2 s1 s3) a' w') (wp_region_held (S := fun w' => BelowK (fun b => b < w1.heap.size ∧ ∀ i ∈ ids2, ¬ m.foot i b) w1 w') hm ?_) (fun e a' w' ⟨he, hr⟩ => ⟨_, he ▸ hq, hr⟩)
 rw [hsz, hw1]
 refine any_heldF (cx := cx) (ids2 := ids2) (m := m) (BelowK.refl _ _) (fun w' hw' b h1 h2 => hw'.block b ⟨h1, h2⟩) hsel (fun c a d v w h => by cases h.1) F [] s s1 p _ _ a hF hp (by simp [hlen]) (fun i hi => ?_) hRM hid (fun listed' a1 h1 h2 h3 h4 => ?_)
 ·have : i < (zvc l F).length + F.length := by omega
  simp [this]
 ·have hids1 : ∀ id ob, s1.heap.lookup id = some ob → id < nf2 ∧ ∀ i ∈ ob.ids, i < nf2 := fun id ob hl => hids id ob (by rw [← h4]; exact hl)
  have henv1' : ∀ t v, (t, v) ∈ s1.env → ∀ i ∈ v.ids, i < nf2 := fun t v ht i hi => Nat.le_of_ble_eq_true (henv1 (t, v) ht i hi)
  have hR2 : R ⟨cx.P, w1, ⟨nf2, cx.N.n⟩, fun b => b < w1.heap.size ∧ ∀ i ∈ ids2, ¬ m.foot i b, m.val, m.sub⟩ (restr ts2 ids2 s1) a1 w1 := by
   have hr := hrestr
   unfold zjr at hr
   simp only [Bool.and_eq_true, List.all_eq_true, List.contains_eq_mem, decide_eq_true_eq] at hr
   refine ⟨h3.defers, h3.size, BelowK.refl _ _, ⟨fun b hb => hb.1, ⟨(h3.lowK.2.step h3.below).1, fun b hb => ⟨(h3.lowK.2.step h3.below).1.lt hb, fun i hi hf => by
    obtain ⟨n, sz, g, e⟩ := hid i hi
    exact (h3.hok.lo i b (by rw [h4, e]; rfl) hf).1 (h3.lowK.2.2 b hb)⟩⟩⟩, m, ⟨⟨fun id ob hl => ?_, fun id b ha hf => ?_, fun id id' b ha ha' hf hf' => ?_⟩, fun id _ => ⟨rfl, rfl⟩⟩, fun t v hl => ?_⟩
   ·have hl' := (zxi hl).1
    have := h3.hok.ob id ob hl'
    cases ob with
    | box xs =>
     obtain ⟨b, cur, E, h1, h2, h3, h4, h5⟩ := this
     refine ⟨b, cur, E, h1, h2, h3, h4, fun j x hj => ?_⟩
     obtain ⟨u, hu, hx⟩ := h5 j x hj
     exact ⟨u, hu, zb9 (fun i hi => hr.2 (id, .box xs) (zwj hl) i (List.mem_flatMap.2 ⟨x, List.mem_of_getElem? hj, hi⟩)) hx⟩
    | ext p => exact this
    | arr d n sz g => exact this
    | lst n sz g => exact this
   ·obtain ⟨ob, ho⟩ := Option.isSome_iff_exists.1 ha
    obtain ⟨hl', hmem⟩ := zxi ho
    exact ⟨fun hb => hb.2 id hmem hf, (h3.hok.lo id b (by rw [hl']; rfl) hf).2⟩
   ·obtain ⟨ob, ho⟩ := Option.isSome_iff_exists.1 ha
    obtain ⟨ob', ho'⟩ := Option.isSome_iff_exists.1 ha'
    exact h3.hok.apart id id' b (by rw [(zxi ho).1]; rfl) (by rw [(zxi ho').1]; rfl) hf hf'
   ·obtain ⟨u, hu, hx⟩ := h3.env t v (zxi hl).1
    exact ⟨u, hu, restr_avrep (fun i hi => hr.1 (t, v) (zxt hl) i hi) hx⟩
  have hlk := likeAll_spec hlike
  have hfin : ∀ (a' : Act) (w' : World), R ⟨cx.P, w1, ⟨nf2, cx.N.n⟩, fun b => b < w1.heap.size ∧ ∀ i ∈ ids2, ¬ m.foot i b, m.val, m.sub⟩ s3 a' w' → SameT (zdy l (zvc l F)) a1 a' → Exit.normal = .normal ∧ R cx (zfx ts ids (zdy l (zvc l F)) ids2 s1 s3) a' w' := by
   intro a' w' hr ht
   have := frame (cx := cx) (D := zdy l (zvc l F)) h3 (Nat.le_of_ble_eq_true hnf) hids1 henv1' (fun i hi => by rw [h4]; exact hlk i hi) hr ht (fun t v hl => hpe (t, v) (zxt hl)) (fun i ob hl => by
    obtain ⟨q1, q2⟩ := hpo (i, ob) (zwj hl)
    refine ⟨q1, ?_⟩
    simp only [Bool.or_eq_true, List.contains_eq_mem, decide_eq_true_eq] at q2
    exact q2.imp (fun h => h) fun h => Nat.le_of_ble_eq_true h)
   exact ⟨rfl, Sub.restr ts ids hrj a' w' this⟩
  refine any_treeH (cx := ⟨cx.P, w1, ⟨nf2, cx.N.n⟩, fun b => b < w1.heap.size ∧ ∀ i ∈ ids2, ¬ m.foot i b, m.val, m.sub⟩) (D := zdy l (zvc l F)) (a0 := a1) hfin _ (zvc l F) _ q listed' _ a1 w1 hT hqq h1 (fun i hi => ?_) (fun i hi => ?_) (List.nodup_range.sublist List.filter_sublist) (Nat.le_refl _) hR2 (fun i hi o ho d hd => ?_) (fun t _ => rfl)
  ·have := h2 i hi
   simp only [zvc, List.mem_filter, List.mem_range, List.contains_eq_mem, Bool.not_eq_true', decide_eq_false_iff_not]
   simp only [List.not_mem_nil, or_false] at this
   constructor
   ·intro h
    refine ⟨hi, fun hf => ?_⟩
    rw [this.2 hf] at h; cases h
   ·rintro ⟨_, h⟩
    cases hg : listed'.getD i true with
    | false => rfl
    | true => exact absurd (this.1 hg) h
  ·simp only [zvc, List.mem_filter, List.mem_range] at hi
   exact hi.1
  ·exact List.mem_filterMap.2 ⟨i, hi, by rw [ho]; exact hd⟩
theorem AW.heldA {s s' : St} {ob : Prop} {Q : Exit → St → Prop} {id : Nat} {ops : Array Oper} (hm : cx.P.follows .mixedOrders = true) (F ids2 : List Nat) (nf2 : Nat) (ts2 : List Nat) (hs : List Hint) (ts3 ids3 ts ids : List Nat)
  (h : runHT cx.P cx.N ops.toList F ids2 nf2 ts2 hs ts3 ids3 ts ids s = some (s', ob)) (hob : ob) (hq : Q .normal s') : AW cx (.region id ops true) s Q := by
 have := AW.held (Q := Q) (id := id) hm F ids2 nf2 ts2 hs ts3 ids3 ts ids h hob hq
 simpa using this
end Go.Fw
