
import Derived.Test.YtcgakaboochpaadGreatFwLB
import Derived.Shelf.SortM.Plain
import Derived.Shelf.SortM.SortNone
import Derived.Shelf.SlicesG.CompactI
namespace Go.Fw
open Go Go.RowKit
abbrev slI (zs : List Int) : C := sl 1 (csI .i64) zs
theorem own_ints {w : World} {zs : List Int} {F : Nat → Prop} {v : Value} (h : OwnC w (slI zs) F v) : (v = .slice none 0 0 ∧ zs = []) ∨ ∃ b cap cur E fr, v = .slice (some ⟨b, 0, none⟩) zs.length cap ∧ zs.length ≤ cap ∧ okFr fr cur.size ∧
  w.heap[b]? = some (.cells cur E fr) ∧ cur.size = cap ∧ F b ∧ ∀ i, i < zs.length → cur[i]? = some (.int .i64 (zs.getD i 0)) := by
 rcases h with ⟨h1, h2⟩ | ⟨b, cap, cur, E, fr, h1, h2, h3, h4, h5, h6, G, h7, _⟩
 ·exact .inl ⟨h1, List.length_eq_zero_iff.1 h2⟩
 ·refine .inr ⟨b, cap, cur, E, fr, h1, h2, h3, h4, by omega, h6, fun i hi => ?_⟩
  obtain ⟨_, u, hu, ho⟩ := h7 i 0 hi (by omega)
  have ho : u = .int .i64 (zs.getD i default) := ho
  rw [Nat.mul_one, Nat.add_zero] at hu
  rw [hu, ho]; rfl
theorem ints_own {w : World} {zs : List Int} {F : Nat → Prop} {b cap : Nat} {cur : Array Value} {E : TypeId} {fr : Nat × Nat} (h2 : zs.length ≤ cap) (h3 : okFr fr cur.size) (h4 : w.heap[b]? = some (.cells cur E fr)) (h5 : cur.size = cap) (h6 : F b)
  (h7 : ∀ i, i < zs.length → cur[i]? = some (.int .i64 (zs.getD i 0))) : OwnC w (slI zs) F (.slice (some ⟨b, 0, none⟩) zs.length cap) := by
 refine .inr ⟨b, cap, cur, E, fr, rfl, h2, h3, h4, by omega, h6, fun _ _ _ => False, fun i j hi hj => ⟨fun x hx => hx.elim, ?_⟩, fun _ _ _ _ _ _ _ _ _ h => h.elim⟩
 have hj0 : j = 0 := by omega
 subst hj0
 refine ⟨_, by rw [Nat.mul_one, Nat.add_zero]; exact h7 i hi, ?_⟩
 show _ = Value.int .i64 (zs.getD i default)
 rfl
theorem holds_ints {w : World} {zs : List Int} {b : Nat} {cur : Array Value} {E : TypeId} {fr : Nat × Nat} (h3 : okFr fr cur.size) (h4 : w.heap[b]? = some (.cells cur E fr)) (hl : zs.length ≤ cur.size)
  (h7 : ∀ i, i < zs.length → cur[i]? = some (.int .i64 (zs.getD i 0))) : Sort.Holds (Value.int .i64) w b 0 zs.toArray := by
 intro j hj
 have hj' : j < zs.length := by simpa using hj
 refine ⟨?_, ?_⟩
 ·rw [cell_of_row w b _ cur E fr h4, Nat.zero_add, h7 j hj']
  simp [hj', List.getD]
 ·have : (w.frozen? ⟨b, 0 + j, none⟩) = (decide (fr.1 ≤ 0 + j) && decide (0 + j < fr.2)) := by simp [World.frozen?, h4]
  rw [this]
  rcases h3 with h | h
  ·subst h; simp
  ·simp only [Bool.and_eq_false_iff, decide_eq_false_iff_not]
   exact .inl (by omega)
theorem putRow_heap {w : World} {b : Nat} {d : Array Int} {cur : Array Value} {E : TypeId} {fr : Nat × Nat} (h4 : w.heap[b]? = some (.cells cur E fr)) : (Sort.putRow (Value.int .i64) w b 0 d).heap[b]? = some (.cells (Sort.putCells (Value.int .i64) 0 d cur) E fr) := by
 simp [Sort.putRow, Sort.mapBlock, Array.getElem?_modify, h4, Sort.onCells]
theorem putRow_other {w : World} {b k : Nat} {d : Array Int} (h : k ≠ b) : (Sort.putRow (Value.int .i64) w b 0 d).heap[k]? = w.heap[k]? := by
 have : ¬ b = k := fun e => h e.symm
 simp [Sort.putRow, Sort.mapBlock, Array.getElem?_modify, this]
theorem putCells_get {d : Array Int} {cur : Array Value} {i : Nat} (h : i < d.size) (h2 : i < cur.size) : (Sort.putCells (Value.int .i64) 0 d cur)[i]? = some (.int .i64 (d[i]!)) := by
 simp [Sort.putCells, h, h2]
theorem zyh {d : Array Int} {cur : Array Value} : (Sort.putCells (Value.int .i64) 0 d cur).size = cur.size := by simp [Sort.putCells]
section
variable {P : Program} {f : FuncId}
theorem enter_of {fn : Func} (hf : P.funcs[f]? = some fn) (hb : fn.body.isSome = true) (hname : (fn.name == "runtime.NumGoroutine") = false) : ∀ args w, (callFunc f args).run P w = .ok (.enter f args) w := by
 intro args w
 simp only [callFunc, Sem.run_bind, run_program, Result.andThen_ok, hf, hname, Bool.false_eq_true, ite_false]
 cases hb' : fn.body with
 | none => rw [hb'] at hb; cases hb
 | some c => simp
def sortI (zs : List Int) : Option (List Int) := if zs.length < 4611686018427387904 then some (zs.mergeSort fun x y => decide (x ≤ y)) else none
def zc5 (zs : List Int) : Option (List Int) := if zs.length ≤ 9223372036854775807 then some (Lib.compact zs) else none
theorem mut_args1 {w : World} {av : Av} {F : Nat → Nat → Nat → Prop} {t : MT} {vs : Array Value} (h : MTsRep w av F [t] vs) : ∃ v, vs = #[v] ∧ MTRep w av (F 0) t v := by
 obtain ⟨hs, hv⟩ := h
 have hs : vs.size = 1 := hs
 obtain ⟨u, hu, hr⟩ := hv 0 _ rfl
 refine ⟨u, ?_, hr⟩
 apply Array.ext
 ·simpa using hs
 ·intro i h1 h2
  have : i = 0 := by omega
  subst this
  rw [Array.getElem?_eq_getElem (by omega)] at hu
  simpa using Option.some.inj hu
theorem mut_sort (he : ∀ args w, (callFunc f args).run P w = .ok (.enter f args) w)
  (hc : ∀ (blk off cap : Nat) (zs : List Int) (w : World), Sort.Holds (Value.int .i64) w blk off zs.toArray → blk < w.heap.size → zs.length < 4611686018427387904 → Calls P f #[.slice (some ⟨blk, off, none⟩) zs.length cap] w fun e w' => e = .returned (.tuple #[]) ∧ ∃ n os, w' = Sort.grow (Sort.putRow (Value.int .i64) (Sort.ahead w n) blk off (zs.mergeSort fun x y => decide (x ≤ y)).toArray) os)
  (h0 : ∀ (p : Option Addr) (cap : Nat) (w : World), Calls P f #[.slice p 0 cap] w fun e w' => e = .returned (.tuple #[]) ∧ w' = w) (a0 o : List Int) (h : sortI a0 = some o) : MutOK P f [.one (.mu (slI a0) (slI o))] [] := by
 unfold sortI at h
 split at h
 case isFalse => cases h
 rename_i hlen
 cases h
 generalize ho : (a0.mergeSort fun x y => decide (x ≤ y)) = o at *
 have hol : o.length = a0.length := by rw [← ho]; exact List.length_mergeSort ..
 intro w vs F hFsz hFd _ _ hargs
 obtain ⟨v, rfl, hr⟩ := mut_args1 hargs
 have hr : OwnC w (slI a0) (F 0 0) v := hr
 unfold Invk
 rw [he]
 refine ⟨rfl, ?_⟩
 rcases own_ints hr with ⟨rfl, rfl⟩ | ⟨b, cap, cur, E, fr, rfl, h2, h3, h4, h5, h6, h7⟩
 ·have hon : o = [] := List.length_eq_zero_iff.1 hol
  subst hon
  refine (h0 none 0 w).mono ?_
  rintro e w' ⟨rfl, rfl⟩
  refine ⟨_, rfl, BelowK.refl _ _, F, fun _ _ _ => False, fun i j b hb => ⟨.inl ⟨i, j, hb⟩, hFsz i j b hb⟩, fun _ _ _ h => h.elim, hFd, fun _ _ _ _ _ h => h.elim, fun _ _ _ _ _ _ h => h, ?_, ⟨_, rfl, rfl, fun i t hi => by simp at hi⟩⟩
  intro i t hi u hu
  cases i with
  | zero => simp at hi hu; subst hi; subst hu; exact ⟨.inl ⟨rfl, rfl⟩, fun b i j hb => by simp [Value.blk] at hb⟩
  | succ i => simp at hi
 ·refine (hc b 0 cap a0 w (holds_ints h3 h4 (by omega) h7) (hFsz 0 0 b h6) hlen).mono ?_
  rintro e w' ⟨rfl, n, os, rfl⟩
  have hbsz : b < w.heap.size := hFsz 0 0 b h6
  have hk : ∀ k, k < w.heap.size → k ≠ b → (Sort.grow (Sort.putRow (Value.int .i64) (Sort.ahead w n) b 0 (a0.mergeSort fun x y => decide (x ≤ y)).toArray) os).heap[k]? = w.heap[k]? := by
   intro k hk hkb
   have : k < (Sort.putRow (Value.int .i64) (Sort.ahead w n) b 0 (a0.mergeSort fun x y => decide (x ≤ y)).toArray).heap.size := by rw [Sort.size_putRow]; exact hk
   show (_ ++ os)[k]? = _
   rw [Array.getElem?_append_left this, putRow_other hkb]; rfl
  have hbk : (Sort.grow (Sort.putRow (Value.int .i64) (Sort.ahead w n) b 0 (a0.mergeSort fun x y => decide (x ≤ y)).toArray) os).heap[b]? = some (.cells (Sort.putCells (Value.int .i64) 0 o.toArray cur) E fr) := by
   have : b < (Sort.putRow (Value.int .i64) (Sort.ahead w n) b 0 (a0.mergeSort fun x y => decide (x ≤ y)).toArray).heap.size := by rw [Sort.size_putRow]; exact hbsz
   show (_ ++ os)[b]? = _
   rw [Array.getElem?_append_left this, putRow_heap (w := Sort.ahead w n) h4, ho]
  have hszw : w.heap.size ≤ (Sort.grow (Sort.putRow (Value.int .i64) (Sort.ahead w n) b 0 (a0.mergeSort fun x y => decide (x ≤ y)).toArray) os).heap.size := by
   show w.heap.size ≤ (_ ++ os).size
   rw [Array.size_append, Sort.size_putRow]; exact Nat.le_add_right _ _
  refine ⟨_, rfl, ⟨rfl, rfl, rfl, hszw, fun k hK => hk k hK.1 fun e => hK.2 ⟨0, 0, by rw [e]; exact h6⟩⟩, F, fun _ _ _ => False, fun i j b hb => ⟨.inl ⟨i, j, hb⟩, Nat.lt_of_lt_of_le (hFsz i j b hb) hszw⟩, fun _ _ _ h => h.elim, hFd, fun _ _ _ _ _ h => h.elim, fun _ _ _ _ _ _ h => h, ?_, ⟨_, rfl, rfl, fun i t hi => by simp at hi⟩⟩
  intro i t hi u hu
  cases i with
  | zero =>
   simp at hi hu; subst hi; subst hu
   have := ints_own (zs := o) (F := F 0 0) (cap := cap) (by omega) (by rw [zyh]; exact h3) hbk (by rw [zyh]; exact h5) h6 (fun i hi => by
    rw [putCells_get (by simpa using hi) (by omega)]
    simp [hi, List.getD])
   rw [hol] at this
   exact ⟨this, fun b i j _ _ hj hs => by
    have hj0 : j = 0 := by have hj : j < 1 := hj; omega
    subst hj0
    simp [gl, csI, isSeq] at hs⟩
  | succ i => simp at hi
theorem compact_len (zs : List Int) : (Lib.compact zs).length ≤ zs.length := by
 unfold Lib.compact Lib.compactUpTo
 rw [List.length_map]
 exact Nat.le_trans (List.length_filter_le _ _) (by simp)
theorem mut_compact (he : ∀ args w, (callFunc f args).run P w = .ok (.enter f args) w)
  (hc : ∀ (blk off cap : Nat) (zs : List Int) (w : World), Sort.Holds (Value.int .i64) w blk off zs.toArray → zs.length ≤ 9223372036854775807 → zs.length ≤ cap → Calls P f #[.slice (some ⟨blk, off, none⟩) zs.length cap] w fun e w' => e = .returned (.slice (some ⟨blk, off, none⟩) (Lib.compact zs).length cap) ∧ ∃ q, w' = Sort.putRow (Value.int .i64) (Sort.ahead w q) blk off (Lib.compact zs ++ List.replicate (zs.length - (Lib.compact zs).length) 0).toArray)
  (h0 : ∀ (a : Option Addr) (cap : Nat) (w : World), Calls P f #[.slice a 0 cap] w fun e w' => e = .returned (.slice a 0 cap) ∧ w' = w) (a0 o : List Int) (h : zc5 a0 = some o) : MutOK P f [.one (.mv (slI a0))] [.one (slI o)] := by
 unfold zc5 at h
 split at h
 case isFalse => cases h
 rename_i hlen
 cases h
 have hol := compact_len a0
 generalize ho : Lib.compact a0 = o at *
 intro w vs F hFsz hFd _ _ hargs
 obtain ⟨v, rfl, hr⟩ := mut_args1 hargs
 have hr : OwnC w (slI a0) (F 0 0) v := hr
 unfold Invk
 rw [he]
 refine ⟨rfl, ?_⟩
 have fin : ∀ (w' : World) (v' : Value), BelowK (fun b => b < w.heap.size ∧ ¬ ∃ i j, F i j b) w w' → w'.heap.size = w.heap.size → OwnC w' (slI o) (F 0 0) v' →
   ∃ u, Ending.returned v' = Ending.returned u ∧ (BelowK (fun b => b < w.heap.size ∧ ¬ ∃ i j, F i j b) w w' ∧ ∃ F' G : Nat → Nat → Nat → Prop,
   (∀ i j b, F' i j b → ((∃ i' j', F i' j' b) ∨ w.heap.size ≤ b) ∧ b < w'.heap.size) ∧ (∀ i j b, G i j b → ((∃ i' j', F i' j' b) ∨ w.heap.size ≤ b) ∧ b < w'.heap.size) ∧
   (∀ i j i' j' b, F' i j b → F' i' j' b → i = i' ∧ j = j') ∧ (∀ i j i' j' b, G i j b → G i' j' b → i = i' ∧ j = j') ∧ (∀ i j i' j' b, F' i j b → ¬ G i' j' b) ∧
   zfq w w' F' [.one (.mv (slI a0))] #[v] ∧ zfd w' G [.one (slI o)] u) := by
  intro w' v' k1 k2 k3
  refine ⟨v', rfl, k1, fun _ _ _ => False, fun i j b => i = 0 ∧ j = 0 ∧ F 0 0 b, fun _ _ _ h => h.elim, fun i j b hb => ⟨.inl ⟨0, 0, hb.2.2⟩, by rw [k2]; exact hFsz _ _ _ hb.2.2⟩, fun _ _ _ _ _ h => h.elim, fun i j i' j' b hb hb' => ⟨hb.1.trans hb'.1.symm, hb.2.1.trans hb'.2.1.symm⟩, fun _ _ _ _ _ h => h.elim, ?_, ?_⟩
  ·intro i t hi u hu
   cases i with
   | zero => simp at hi; subst hi; trivial
   | succ i => simp at hi
  ·show OwnC w' (slI o) (fun b => 0 = 0 ∧ 0 = 0 ∧ F 0 0 b) v'
   simpa using k3
 rcases own_ints hr with ⟨rfl, rfl⟩ | ⟨b, cap, cur, E, fr, rfl, h2, h3, h4, h5, h6, h7⟩
 ·have hon : o = [] := List.length_eq_zero_iff.1 (by simpa using hol)
  subst hon
  refine (h0 none 0 w).mono ?_
  rintro e w' ⟨rfl, rfl⟩
  exact fin w' _ (BelowK.refl _ _) rfl (.inl ⟨rfl, rfl⟩)
 ·refine (hc b 0 cap a0 w (holds_ints h3 h4 (by omega) h7) hlen h2).mono ?_
  rintro e w' ⟨rfl, q, rfl⟩
  rw [ho]
  have hsz : (o ++ List.replicate (a0.length - o.length) 0).toArray.size = a0.length := by simp; omega
  refine fin _ _ ⟨rfl, rfl, rfl, by rw [Sort.size_putRow]; exact Nat.le_refl _, fun k hK => ?_⟩ (by rw [Sort.size_putRow]; rfl) (ints_own (cur := Sort.putCells (Value.int .i64) 0 (o ++ List.replicate (a0.length - o.length) 0).toArray cur) (by omega) (by rw [zyh]; exact h3) (putRow_heap (w := Sort.ahead w q) h4) (by rw [zyh]; exact h5) h6 fun i hi => ?_)
  ·rw [putRow_other (fun e => hK.2 ⟨0, 0, by rw [e]; exact h6⟩)]; rfl
  ·rw [putCells_get (by rw [hsz]; omega) (by omega)]
   have h1 : i < (o ++ List.replicate (a0.length - o.length) 0).toArray.size := by rw [hsz]; omega
   rw [getElem!_pos _ i h1]
   simp [List.getElem_append_left, hi, List.getD]
end
end Go.Fw
