/- strings.Builder as a thing of its own kind that holds a text. -/
import Derived.Test.YtdkidnhddgeboaaDoorFwLB
import Derived.Shelf.Strings.BuilderF
set_option linter.unusedVariables false
namespace Go.Fw
open Go Go.RowKit Go.Shelf Go.Proofs

theorem ownsRowF_heap {w w' : World} {base : Nat} {e : TypeId} {size : Nat} {v : Value} {n : Nat} {xs : List Value} (h : w.ownsRowF base e size v n xs) (hb : ∀ g, v.ownBlock = some g → w'.heap[g]? = w.heap[g]?) : w'.ownsRowF base e size v n xs := by
  refine ⟨h.1, h.2.imp id ?_⟩
  rintro ⟨g, cap, cur, fz, rfl, h1, h2, r⟩
  exact ⟨g, cap, cur, fz, rfl, h1, by rw [hb g rfl]; exact h2, r⟩
theorem ownsRowF_base {w : World} {base : Nat} {e : TypeId} {size : Nat} {v : Value} {n : Nat} {xs : List Value} (h : w.ownsRowF base e size v n xs) : w.ownsRowF 0 e size v n xs := by
  refine ⟨h.1, h.2.imp id ?_⟩
  rintro ⟨g, cap, cur, fz, hv, _, r⟩
  exact ⟨g, cap, cur, fz, hv, Nat.zero_le _, r⟩
theorem ownsRowF_lt {w : World} {base : Nat} {e : TypeId} {size : Nat} {v : Value} {n : Nat} {xs : List Value} (h : w.ownsRowF base e size v n xs) {g : Nat} (hg : v.ownBlock = some g) : g < w.heap.size := by
  rcases h.2 with ⟨rfl, _⟩ | ⟨g', cap, cur, fz, rfl, _, h2, _⟩
  · simp [Value.ownBlock] at hg
  · simp [Value.ownBlock] at hg
    subst hg
    exact (Array.getElem?_eq_some_iff.1 h2).1

/-- A strings.Builder that holds a text. -/
def BldAt (T e : TypeId) (s : ByteArray) (F : Nat → Prop) (v : Value) (w : World) : Prop :=
  ∃ b pv bv, v = .pointer (some ⟨b, 0, none⟩) ∧ F b ∧ (∀ g, bv.ownBlock = some g → F g) ∧ w.heap[b]? = some (.cells #[pv, bv] T (0, 0)) ∧ (pv = .pointer none ∨ pv = .pointer (some ⟨b, 0, none⟩)) ∧
    w.ownsRowF 0 e 1 bv s.size (Lib.strCells s) ∧ bv.ownBlock ≠ some b ∧ (s.size = 0 → bv = .slice none 0 0)
def Bld (T e : TypeId) (s : ByteArray) : EP := fun hp F v => ∃ w0 : World, (∀ g, F g → w0.heap[g]? = hp g) ∧ BldAt T e s F v w0
theorem BldAt.heap {T e : TypeId} {s : ByteArray} {F : Nat → Prop} {v : Value} {w w' : World} (h : BldAt T e s F v w) (hF : ∀ g, F g → w'.heap[g]? = w.heap[g]?) : BldAt T e s F v w' := by
  obtain ⟨b, pv, bv, h1, h2, h3, h4, h5, h6, h7⟩ := h
  exact ⟨b, pv, bv, h1, h2, h3, by rw [hF b h2]; exact h4, h5, ownsRowF_heap h6 fun g hg => hF g (h3 g hg), h7⟩
theorem bld_open {T e : TypeId} {s : ByteArray} {F : Nat → Prop} {v : Value} {w : World} (h : ExtRep w (Bld T e s) F v) : BldAt T e s F v w := by
  obtain ⟨_, hp, h1, w0, h2, h3⟩ := h
  exact h3.heap fun g hg => by rw [h1 g hg, h2 g hg]
theorem bld_shut {T e : TypeId} {s : ByteArray} {F : Nat → Prop} {v : Value} {w : World} (h : BldAt T e s F v w) : ExtRep w (Bld T e s) F v := by
  have h' := h
  obtain ⟨b, pv, bv, h1, h2, _⟩ := h'
  exact ⟨⟨b, h1, h2⟩, fun g => w.heap[g]?, fun _ _ => rfl, w, fun _ _ => rfl, h⟩

section
variable {P : Program} (w : World)
/-- A string is appended to a row of one's own: where the row lies then. -/
theorem run_append_str (t u ty e : TypeId) (i : TypeInfo) (ht : P.underlying t = some (.slice e)) (hu : P.underlying u = some .string) (hi : P.info? e = some i) (hz : i.zero = some (.int .u8 0)) (hsize : i.size = 1) (hby : i.bytes = 1)
    (v : Value) (n : Nat) (xs : List Value) (hown : w.ownsRowF 0 e 1 v n xs) (s : ByteArray) (hbytes : n + s.size ≤ 140737488355328) :
    ∃ v' w', (Builtin.append_ #[t, u] ty #[v, .string s]).run P w = .ok v' w' ∧ w'.ownsRowF 0 e 1 v' (n + s.size) (xs ++ Lib.strCells s) ∧ w.grownBy w' v.ownBlock ∧ (∀ g, v'.ownBlock = some g → v.ownBlock = some g ∨ w.heap.size ≤ g) := by
  have h63 : n + s.size ≤ maxLen := by unfold maxLen; omega
  rcases hown.2 with ⟨rfl, rfl⟩ | ⟨g, cap, cur, fz, rfl, hbg, hg, hfz, hnc, hcm, hcs, htake⟩
  · obtain ⟨v', w', h1, h2, h3, _⟩ := Lib.run_append_own_stringF (P := P) w w.heap.size t u ty e i ht hu hi hz hsize hby (.slice none 0 0) 0 xs ⟨hown.1, .inl ⟨rfl, rfl⟩⟩ s h63 hbytes (Nat.le_refl _)
    refine ⟨v', w', h1, ownsRowF_base h2, h3, fun g hg => .inr ?_⟩
    rcases h2.2 with ⟨rfl, _⟩ | ⟨g', cap, cur, fz, rfl, hb, _⟩
    · simp [Value.ownBlock] at hg
    · simp [Value.ownBlock] at hg; omega
  · obtain ⟨v', w', h1, h2, h3, _⟩ := Lib.run_append_own_stringF (P := P) w 0 t u ty e i ht hu hi hz hsize hby (.slice (some ⟨g, 0, none⟩) n cap) n xs hown s h63 hbytes (Nat.zero_le _)
    refine ⟨v', w', h1, h2, h3, fun k hk => ?_⟩
    have hxl : xs.length = n := by simpa using hown.1
    by_cases hroom : n + s.size ≤ cap
    · have hr := Lib.run_append_room_stringF (P := P) w t u ty e i ht hu hi hsize g n cap cur fz hg (by simpa using hfz) s hroom (by rw [hcs]; omega)
      rw [hr] at h1
      cases h1
      exact .inl hk
    · have hr := Lib.run_append_grow_string (P := P) w t u ty e i (.int .u8 0) ht hu hi hz ⟨g, 0, none⟩ n cap xs (by rw [hsize]; simpa using hxl) (fun j u hj => hown.cells (g := g) rfl j u hj) s (by omega) (by omega) (by rw [hby]; exact growslice_fits (by omega) (by omega))
      rw [hr] at h1
      cases h1
      simp [Value.ownBlock] at hk
      exact .inr (by omega)
theorem wpList_append_str {ops : Array Oper} {rest : List Oper} {o : Oper} {a : Act} {Q : Exit → Act → World → Prop} (hgd : o.guard = none) (sl x : Operand) (t u : TypeId)
    (ho : o.op = .call { callee := .builtin .append, args := #[sl, x], argTypes := #[t, u] }) (e : TypeId) (i : TypeInfo) (ht : P.underlying t = some (.slice e)) (hu : P.underlying u = some .string) (hi : P.info? e = some i) (hz : i.zero = some (.int .u8 0))
    (hsize : i.size = 1) (hby : i.bytes = 1) (v : Value) (n : Nat) (xs : List Value) (hs : a.eval sl = v) (hown : w.ownsRowF 0 e 1 v n xs) (s : ByteArray) (hx : a.eval x = .string s) (hbytes : n + s.size ≤ 140737488355328)
    (h : ∀ v' w', w'.ownsRowF 0 e 1 v' (n + s.size) (xs ++ Lib.strCells s) → w.grownBy w' v.ownBlock → (∀ g, v'.ownBlock = some g → v.ownBlock = some g ∨ w.heap.size ≤ g) → wpList P ops Q rest (a.put o.dst v') w') : wpList P ops Q (o :: rest) a w := by
  refine wpList_plain hgd fun K hK => ?_
  obtain ⟨v', w', hr, h2, h3, h4⟩ := run_append_str (P := P) w t u o.type e i ht hu hi hz hsize hby v n xs hown s hbytes
  unfold Oper.wp execOp
  simp only [ho, resolve, invoke, builtin, Sem.run_bind, Sem.run_pure, Result.andThen_ok, List.map_toArray, List.map_cons, List.map_nil, hs, hx, hr]
  exact hK _ _ (h v' w' h2 h3 h4)
end

section
variable {P : Program} {ρ : Ren}

theorem bld_check (L : Lays.n240 P ρ) (X : Builder.X72 P ρ) {b : Nat} {pv bv : Value} {w : World} (hb : w.heap[b]? = some (.cells #[pv, bv] (ρ.t 72) (0, 0))) (hp : pv = .pointer none ∨ pv = .pointer (some ⟨b, 0, none⟩)) :
    Calls P (ρ.f 240) #[.pointer (some ⟨b, 0, none⟩)] w fun e w' => e = .returned (.tuple #[]) ∧ w'.heap[b]? = some (.cells #[.pointer (some ⟨b, 0, none⟩), bv] (ρ.t 72) (0, 0)) ∧ w'.heap.size = w.heap.size ∧ (∀ k, k ≠ b → w'.heap[k]? = w.heap[k]?) ∧ w'.os = w.os ∧ w'.tape = w.tape ∧ w'.output = w.output := by
  rcases hp with rfl | rfl
  · refine (Any.Builder_copyCheck_fresh L X b w (by simp [World.cell?, hb]) (by simp [World.shape?, hb]) (by simp [World.frozen?, hb])).mono ?_
    rintro e w' ⟨rfl, rfl⟩
    exact ⟨rfl, by simp [World.setCell, Array.getElem?_modify, hb], by simp [World.setCell], fun k hk => Below.heap_setCell _ _ _ _ hk, rfl, rfl, rfl⟩
  · refine (Any.Builder_copyCheck_used L X b w (by simp [World.cell?, hb])).mono ?_
    rintro e w' ⟨rfl, rfl⟩
    exact ⟨rfl, hb, rfl, fun _ _ => rfl, rfl, rfl, rfl⟩

set_option maxHeartbeats 2000000 in
set_option maxRecDepth 100000 in
theorem bld_write (L : Lays.n166 P ρ) (X : Builder.Extra P ρ) {F : Nat → Prop} {v : Value} {s0 : ByteArray} (s : ByteArray) {w : World} (hF : ∀ g, F g → g < w.heap.size) (h : BldAt (ρ.t 72) (ρ.t 5) s0 F v w) (hpos : 0 < s.size) (hlen : s0.size + s.size ≤ 140737488355328) :
    Calls P (ρ.f 166) #[v, .string s] w fun e w' => e = .returned (.tuple #[.int .i64 s.size, .nilIface]) ∧ BelowK (fun b => b < w.heap.size ∧ ¬ F b) w w' ∧ ∃ F' : Nat → Prop, (∀ g, F' g → (F g ∨ w.heap.size ≤ g) ∧ g < w'.heap.size) ∧ BldAt (ρ.t 72) (ρ.t 5) (s0 ++ s) F' v w' := by
  obtain ⟨b, pv, bv, rfl, hFb, hFg, hb, hp, hown, hne, _⟩ := h
  obtain ⟨i0, hi, hz0, hz1, hz2⟩ := info_parts X.infoByte
  have mixed := L.mixed
  have t72 := L.t72; have a72 := L.a72; have z72 := L.z72; have v72 := L.v72; have u72 := run_underlying L.t72
  have t70 := L.t70; have a70 := L.a70; have z70 := L.z70; have v70 := L.v70; have u70 := run_underlying L.t70
  have t37 := L.t37; have a37 := L.a37; have z37 := L.z37; have v37 := L.v37; have u37 := run_underlying L.t37
  have t3 := L.t3; have a3 := L.a3; have z3 := L.z3; have v3 := L.v3; have u3 := run_underlying L.t3
  have t9 := L.t9; have a9 := L.a9; have z9 := L.z9; have v9 := L.v9; have u9 := run_underlying L.t9
  have t4 := L.t4; have a4 := L.a4; have z4 := L.z4; have v4 := L.v4; have u4 := run_underlying L.t4
  have t164 := L.t164; have a164 := L.a164; have z164 := L.z164; have v164 := L.v164; have u164 := run_underlying L.t164
  have t5 := X.t5; have a5 := X.a5; have z5 := X.z5; have v5 := X.v5; have u5 := run_underlying X.t5
  have e240 : ∀ args w, (callFunc (ρ.f 240) args).run P w = .ok (.enter (ρ.f 240) args) w := enters_of L.f240 (by kernel_rfl) rfl
  go_enter L.f166, Body.n166_ntmps ρ
  go_wp2_with (go_at_fn (ρ.f 240); refine (bld_check { L with } X.toX72 hb hp).mono ?_)
  rintro e w1 ⟨rfl, hb1, hsz, hk1, ho1, ht1, hq1⟩
  have c0 : w1.cell? ⟨b, 0, none⟩ = some (.pointer (some ⟨b, 0, none⟩)) := by rw [Lib.cell_of_heap hb1]; rfl
  have c1 : w1.cell? ⟨b, 1, none⟩ = some bv := by rw [Lib.cell_of_heap hb1]; rfl
  have hown1 : w1.ownsRowF 0 (ρ.t 5) 1 bv s0.size (Lib.strCells s0) := ownsRowF_heap hown fun g hg => hk1 g fun e => hne (by rw [← e]; exact hg)
  go_wp2_with (at_builtin; refine wpList_append_str _ rfl _ _ (ρ.t 37) (ρ.t 9) rfl (ρ.t 5) i0 L.t37 L.t9 hi hz0 hz1 hz2 _ _ _ rfl hown1 s rfl hlen ?_)
  intro v' w2 hown2 hgrow hv'
  have hblt : b < w1.heap.size := (Array.getElem?_eq_some_iff.1 hb1).1
  have hb2 : w2.heap[b]? = some (.cells #[.pointer (some ⟨b, 0, none⟩), bv] (ρ.t 72) (0, 0)) := by
    rw [hgrow.block b hblt (fun e => hne e.symm)]
    exact hb1
  have d0 : w2.cell? ⟨b, 0, none⟩ = some (.pointer (some ⟨b, 0, none⟩)) := by rw [Lib.cell_of_heap hb2]; rfl
  have d1 : w2.cell? ⟨b, 1, none⟩ = some bv := by rw [Lib.cell_of_heap hb2]; rfl
  have f1 : w2.frozen? ⟨b, 1, none⟩ = false := Lib.frozen_of_heap hb2 1
  have hlt2 : ∀ g, v'.ownBlock = some g → g < w2.heap.size := fun g hg => ownsRowF_lt hown2 hg
  have hvb : v'.ownBlock ≠ some b := by
    intro e
    rcases hv' b e with e | e
    · exact hne e
    · omega
  obtain ⟨ao, n', cap, rfl⟩ : ∃ ao n' cap, v' = .slice ao n' cap := by
    rcases hown2.2 with ⟨hv, _⟩ | ⟨g, cap, cur, fz, hv, _⟩
    · exact ⟨_, _, _, hv⟩
    · exact ⟨_, _, _, hv⟩
  go_wp2
  go_ret2
  refine ⟨rfl, ⟨hgrow.os.trans ho1, hgrow.tape.trans ht1, hgrow.output.trans hq1, by have := hgrow.size; simp [World.setCell]; omega, fun k hk => ?_⟩, fun g => g = b ∨ (Value.slice ao n' cap).ownBlock = some g, fun g hg => ?_, ?_⟩
  · have hkb : k ≠ b := fun e => hk.2 (e ▸ hFb)
    rw [Below.heap_setCell _ _ _ _ hkb, hgrow.block k (by have := hk.1; omega) (fun e => hk.2 (hFg k e.symm)), hk1 k hkb]
  · have hs2 := hgrow.size
    rcases hg with rfl | hg
    · exact ⟨.inl hFb, by simp [World.setCell]; omega⟩
    · refine ⟨?_, by have := hlt2 g hg; simp [World.setCell]; omega⟩
      rcases hv' g hg with e | e
      · exact .inl (hFg g e)
      · exact .inr (by omega)
  · refine ⟨b, _, _, rfl, .inl rfl, fun g hg => .inr hg, ?_, .inr rfl, ?_, hvb, fun h0 => by rw [ByteArray.size_append] at h0; omega⟩
    · simp [World.setCell, Array.getElem?_modify, hb2]
    · have e1 : (s0 ++ s).size = s0.size + s.size := ByteArray.size_append
      have e2 : Lib.strCells (s0 ++ s) = Lib.strCells s0 ++ Lib.strCells s := by simp [Lib.strCells]
      rw [e1, e2]
      exact ownsRowF_heap hown2 fun g hg => Below.heap_setCell _ _ _ _ fun e => hvb ((show g = b from e) ▸ hg)

theorem freeze_frame (w : World) (p : Addr) (n : Nat) : (w.freeze p n).os = w.os ∧ (w.freeze p n).tape = w.tape ∧ (w.freeze p n).output = w.output ∧ (w.freeze p n).heap.size = w.heap.size ∧ ∀ k, k ≠ p.block → (w.freeze p n).heap[k]? = w.heap[k]? := by
  unfold World.freeze
  split
  · exact ⟨rfl, rfl, rfl, rfl, fun _ _ => rfl⟩
  · refine ⟨rfl, rfl, rfl, by simp, fun k hk => ?_⟩
    simp only [Array.getElem?_modify]
    rw [if_neg (fun e => hk e.symm)]
theorem bld_len (L : Lays.n170 P ρ) {F : Nat → Prop} {v : Value} {s0 : ByteArray} {w : World} (h : BldAt (ρ.t 72) (ρ.t 5) s0 F v w) :
    Calls P (ρ.f 170) #[v] w fun e w' => e = .returned (.int .i64 s0.size) ∧ w' = w := by
  obtain ⟨b, pv, bv, rfl, hFb, hFg, hb, hp, hown, hne, _⟩ := h
  have hl : (Lib.strCells s0).length = s0.size := Lib.strCells_length s0
  have hB : Lib.IsBuilderF (ρ.t 72) (ρ.t 5) 0 b (Lib.strCells s0) w := by
    rcases hp with rfl | rfl
    · exact .inl ⟨Nat.zero_le _, bv, hb, by rw [hl]; exact hown, hne⟩
    · exact .inr ⟨Nat.zero_le _, bv, hb, by rw [hl]; exact hown, hne⟩
  have := Any.Builder_Len_f L 0 b _ w hB
  rw [hl] at this
  exact this

set_option maxHeartbeats 2000000 in
set_option maxRecDepth 100000 in
/-- What a builder holds; its bytes are marked. -/
theorem bld_string (L : Lays.n169 P ρ) (X : Builder.Extra P ρ) {F : Nat → Prop} {v : Value} {s0 : ByteArray} {w : World} (h : BldAt (ρ.t 72) (ρ.t 5) s0 F v w) (h0 : 0 < s0.size) :
    Calls P (ρ.f 169) #[v] w fun e w' => e = .returned (.string s0) ∧ BelowK (fun b => b < w.heap.size ∧ ¬ F b) w w' ∧ w'.heap.size = w.heap.size ∧ BldAt (ρ.t 72) (ρ.t 5) s0 F v w' := by
  obtain ⟨b, pv, bv, rfl, hFb, hFg, hb, hp, hown, hne, _⟩ := h
  have hcells : Lib.strCells s0 = Lib.byteCells s0.data.toList := rfl
  have hlen : s0.data.toList.length = s0.size := rfl
  obtain ⟨g, cap, cur, fz, rfl, _, hg, hfz, hnc, hcm, hcs, htake⟩ : ∃ g cap cur fz, bv = .slice (some ⟨g, 0, none⟩) s0.size cap ∧ 0 ≤ g ∧ w.heap[g]? = some (.cells cur (ρ.t 5) fz) ∧ fz.2 ≤ s0.size * 1 ∧ s0.size ≤ cap ∧ cap ≤ maxLen ∧ cur.size = cap * 1 ∧ cur.toList.take (s0.size * 1) = Lib.strCells s0 := by
    rcases hown.2 with ⟨_, hz⟩ | ⟨g, cap, cur, fz, hv, r⟩
    · omega
    · exact ⟨g, cap, cur, fz, hv, r⟩
  have c1 : w.drew.cell? ⟨b, 1, none⟩ = some (.slice (some ⟨g, 0, none⟩) s0.size cap) := by
    have : w.drew.heap[b]? = some (.cells #[pv, .slice (some ⟨g, 0, none⟩) s0.size cap] (ρ.t 72) (0, 0)) := hb
    rw [Lib.cell_of_heap this]; rfl
  have hSD : (Builtin.unsafeSliceData_ #[(ρ.t 37)] (ρ.t 127) #[.slice (some ⟨g, 0, none⟩) s0.size cap]).run P w.drew = .ok (.pointer (some ⟨g, 0, none⟩)) w.drew :=
    Lib.run_unsafeSliceData_row _ _ _ _ _ _ (by omega)
  have hUS : (Builtin.unsafeString_ #[(ρ.t 127), (ρ.t 3)] (ρ.t 9) #[.pointer (some ⟨g, 0, none⟩), .int .i64 s0.size]).run P w.drew = .ok (.string s0) (w.drew.freeze ⟨g, 0, none⟩ s0.size) := by
    refine Lib.run_unsafeString_row w.drew (ρ.t 127) (ρ.t 3) (ρ.t 9) (ρ.t 5) L.t127 X.cellsByte g cur.size (by have hg' : w.drew.heap[g]? = some (.cells cur (ρ.t 5) fz) := hg; simp [World.shape?, hg']) s0.data.toList (by intro e; have h1 := congrArg List.length e; rw [hlen, List.length_nil] at h1; omega) (by rw [hlen]; omega) (by rw [hlen]; unfold maxLen at hcm; omega) ?_
    intro j x hx
    exact hown.cells (g := g) rfl j (.int .u8 x.toNat) (by rw [hcells]; simp [Lib.byteCells, hx])
  have hkeep : BldAt (ρ.t 72) (ρ.t 5) s0 F (.pointer (some ⟨b, 0, none⟩)) (w.drew.freeze ⟨g, 0, none⟩ s0.size) := by
    have hA : Lib.BuilderAtF (ρ.t 72) (ρ.t 5) 0 b pv (Lib.strCells s0) w.drew := ⟨Nat.zero_le _, _, hb, by rw [Lib.strCells_length]; exact hown, hne⟩
    have hF := hA.froze (g := g) (cap := cap) (by rw [Lib.strCells_length]; exact c1)
    rw [Lib.strCells_length] at hF
    obtain ⟨_, v', hb', hown', hne'⟩ := hF
    rw [Lib.strCells_length] at hown'
    have e : v' = .slice (some ⟨g, 0, none⟩) s0.size cap := by
      have hbg : b ≠ g := fun e => hne (by rw [e]; rfl)
      have hsame : (w.drew.freeze ⟨g, 0, none⟩ s0.size).heap[b]? = w.heap[b]? := (freeze_frame w.drew ⟨g, 0, none⟩ s0.size).2.2.2.2 b hbg
      rw [hsame, hb] at hb'
      simp at hb'
      exact hb'.symm
    subst e
    exact ⟨b, pv, _, rfl, hFb, hFg, hb', hp, hown', hne', fun e => by omega⟩
  have hbel : BelowK (fun b => b < w.heap.size ∧ ¬ F b) w (w.drew.freeze ⟨g, 0, none⟩ s0.size) ∧ (w.drew.freeze ⟨g, 0, none⟩ s0.size).heap.size = w.heap.size := by
    have hFgg := hFg g rfl
    obtain ⟨q1, q2, q3, q4, q5⟩ := freeze_frame w.drew ⟨g, 0, none⟩ s0.size
    exact ⟨⟨q1, q2, q3, Nat.le_of_eq q4.symm, fun k hk => q5 k fun e => hk.2 ((show k = g from e) ▸ hFgg)⟩, q4⟩
  have mixed := L.mixed
  have t72 := L.t72; have a72 := L.a72; have z72 := L.z72; have v72 := L.v72; have u72 := run_underlying L.t72
  have t70 := L.t70; have a70 := L.a70; have z70 := L.z70; have v70 := L.v70; have u70 := run_underlying L.t70
  have t37 := L.t37; have a37 := L.a37; have z37 := L.z37; have v37 := L.v37; have u37 := run_underlying L.t37
  have t127 := L.t127; have a127 := L.a127; have z127 := L.z127; have v127 := L.v127; have u127 := run_underlying L.t127
  have t3 := L.t3; have a3 := L.a3; have z3 := L.z3; have v3 := L.v3; have u3 := run_underlying L.t3
  have t9 := L.t9; have a9 := L.a9; have z9 := L.z9; have v9 := L.v9; have u9 := run_underlying L.t9
  have t5 := X.t5; have a5 := X.a5; have z5 := X.z5; have v5 := X.v5; have u5 := run_underlying X.t5
  go_enter L.f169, Body.n169_ntmps ρ
  go_wp2
  go_region_o
  all_goals (go_wp2; go_ret; exact ⟨rfl, hbel.1, hbel.2, hkeep⟩)

set_option maxHeartbeats 2000000 in
set_option maxRecDepth 100000 in
theorem bld_string0 (L : Lays.n169 P ρ) (X : Builder.Extra P ρ) {F : Nat → Prop} {v : Value} {s0 : ByteArray} {w : World} (h : BldAt (ρ.t 72) (ρ.t 5) s0 F v w) (h0 : s0.size = 0) :
    Calls P (ρ.f 169) #[v] w fun e w' => e = .returned (.string ByteArray.empty) ∧ w'.os = w.os ∧ w'.tape = w.tape ∧ w'.output = w.output ∧ w'.heap = w.heap := by
  obtain ⟨b, pv, bv, rfl, hFb, hFg, hb, hp, hown, hne, hnil⟩ := h
  have hbv := hnil h0
  subst hbv
  have hUS := Any.unsafeString_none L X
  have c1 : w.drew.cell? ⟨b, 1, none⟩ = some (.slice none 0 0) := by
    have : w.drew.heap[b]? = some (.cells #[pv, .slice none 0 0] (ρ.t 72) (0, 0)) := hb
    rw [Lib.cell_of_heap this]; rfl
  have hSD : (Builtin.unsafeSliceData_ #[(ρ.t 37)] (ρ.t 127) #[.slice none 0 0]).run P w.drew = .ok (.pointer none) w.drew := rfl
  have mixed := L.mixed
  have t72 := L.t72; have a72 := L.a72; have z72 := L.z72; have v72 := L.v72; have u72 := run_underlying L.t72
  have t70 := L.t70; have a70 := L.a70; have z70 := L.z70; have v70 := L.v70; have u70 := run_underlying L.t70
  have t37 := L.t37; have a37 := L.a37; have z37 := L.z37; have v37 := L.v37; have u37 := run_underlying L.t37
  have t127 := L.t127; have a127 := L.a127; have z127 := L.z127; have v127 := L.v127; have u127 := run_underlying L.t127
  have t3 := L.t3; have a3 := L.a3; have z3 := L.z3; have v3 := L.v3; have u3 := run_underlying L.t3
  have t9 := L.t9; have a9 := L.a9; have z9 := L.z9; have v9 := L.v9; have u9 := run_underlying L.t9
  have t5 := X.t5; have a5 := X.a5; have z5 := X.z5; have v5 := X.v5; have u5 := run_underlying X.t5
  go_enter L.f169, Body.n169_ntmps ρ
  go_wp2
  go_region_o
  all_goals (go_wp2; go_ret; exact ⟨rfl, rfl, rfl, rfl, rfl⟩)
theorem empty_of_size {s : ByteArray} (h : s.size = 0) : s = ByteArray.empty := by
  obtain ⟨d⟩ := s
  have : d = #[] := Array.eq_empty_of_size_eq_zero h
  subst this; rfl
theorem bld_string_any (L : Lays.n169 P ρ) (X : Builder.Extra P ρ) {F : Nat → Prop} {v : Value} {s0 : ByteArray} {w : World} (h : BldAt (ρ.t 72) (ρ.t 5) s0 F v w) :
    Calls P (ρ.f 169) #[v] w fun e w' => e = .returned (.string s0) ∧ BelowK (fun b => b < w.heap.size ∧ ¬ F b) w w' ∧ w'.heap.size = w.heap.size ∧ BldAt (ρ.t 72) (ρ.t 5) s0 F v w' := by
  by_cases h0 : s0.size = 0
  · refine (bld_string0 L X h h0).mono ?_
    rintro e w' ⟨rfl, h1, h2, h3, h4⟩
    exact ⟨by rw [empty_of_size h0], ⟨h1, h2, h3, by rw [h4]; exact Nat.le_refl _, fun k _ => by rw [h4]⟩, by rw [h4], h.heap fun g _ => by rw [h4]⟩
  · exact bld_string L X h (by omega)

/-! ### The same, as contracts -/
def mExt (s0 s1 : ByteArray) (T e : TypeId) : MT := .ext (Bld T e s0) (Bld T e s1)
theorem mut_of_calls {f : FuncId} {ts : List MT} {res : List CT} (he : ∀ args w, (callFunc f args).run P w = .ok (.enter f args) w)
    (h : ∀ (w : World) (vs : Array Value) (F : Nat → Nat → Nat → Prop), (∀ i j b, F i j b → b < w.heap.size) → MTsRep w (fun b _ => ∃ i j, F i j b) F ts vs →
      Calls P f vs w fun e w' => ∃ v, e = .returned v ∧ BelowK (fun b => b < w.heap.size ∧ ¬ ∃ i j, F i j b) w w' ∧ ∃ F' : Nat → Nat → Nat → Prop,
      (∀ i j b, F' i j b → ((∃ i' j', F i' j' b) ∨ w.heap.size ≤ b) ∧ b < w'.heap.size) ∧ (∀ i j i' j' b, F' i j b → F' i' j' b → i = i' ∧ j = j') ∧ MTsPost w w' F' ts vs ∧ RTsRep w' (fun _ _ _ => False) res v) : MutOK P f ts res := by
  intro w vs F h1 h2 _ _ h3
  unfold Invk
  rw [he]
  refine ⟨rfl, (h w vs F h1 h3).mono ?_⟩
  rintro e w' ⟨v, rfl, k1, F', k2, k3, k4, k5⟩
  exact ⟨v, rfl, k1, F', fun _ _ _ => False, k2, fun _ _ _ h => h.elim, k3, fun _ _ _ _ _ h => h.elim, fun _ _ _ _ _ _ h => h, k4, k5⟩
theorem post0 {w w' : World} {p p' : EP} {ts : List MT} {v0 : Value} {vs : Array Value} {G : Nat → Prop} (h0 : vs[0]? = some v0) (hr : ∀ t ∈ ts, ∃ c, t = .one (.ro c)) (h : ExtRep w' p' G v0) : MTsPost w w' (fun i j b => i = 0 ∧ j = 0 ∧ G b) (.ext p p' :: ts) vs := by
  intro i t hi u hu
  cases i with
  | zero =>
    simp at hi; subst hi
    rw [h0] at hu; cases hu
    show ExtRep w' p' (fun b => 0 = 0 ∧ 0 = 0 ∧ G b) _
    simpa using h
  | succ i =>
    obtain ⟨c, rfl⟩ := hr t (List.mem_of_getElem? (by simpa using hi))
    trivial
theorem size1 {vs : Array Value} {v : Value} (h : vs.size = 1) (h0 : vs[0]? = some v) : vs = #[v] := by
  apply Array.ext
  · simpa using h
  · intro i h1 h2
    have : i = 0 := by omega
    subst this
    rw [Array.getElem?_eq_getElem (by omega)] at h0
    simpa using Option.some.inj h0
theorem size2 {vs : Array Value} {v u : Value} (h : vs.size = 2) (h0 : vs[0]? = some v) (h1 : vs[1]? = some u) : vs = #[v, u] := by
  apply Array.ext
  · simpa using h
  · intro i h2 h3
    match i, h2, h3 with
    | 0, h2, _ => rw [Array.getElem?_eq_getElem (by omega)] at h0; simpa using Option.some.inj h0
    | 1, h2, _ => rw [Array.getElem?_eq_getElem (by omega)] at h1; simpa using Option.some.inj h1
    | i + 2, h2, _ => omega
theorem mut_write (L : Lays.n166 P ρ) (X : Builder.Extra P ρ) (s0 s : ByteArray) (hpos : 0 < s.size) (hlen : s0.size + s.size ≤ 140737488355328) :
    MutOK P (ρ.f 166) [mExt s0 (s0 ++ s) (ρ.t 72) (ρ.t 5), .one (.ro (.str s))] [.one (.int .i64 s.size), .one .niliface] := by
  refine mut_of_calls (enters_of L.f166 (by kernel_rfl) rfl) fun w vs F hF hr => ?_
  obtain ⟨hsz, hv⟩ := hr
  obtain ⟨v0, q0, r0⟩ := hv 0 _ rfl
  obtain ⟨v1, q1, r1⟩ := hv 1 _ rfl
  have r1 : v1 = .string s := r1
  subst r1
  have e := size2 hsz q0 q1
  rw [e]
  refine (bld_write L X s (fun g hg => hF 0 0 g hg) (bld_open r0) hpos hlen).mono ?_
  rintro en w' ⟨rfl, k1, F', k2, k3⟩
  refine ⟨_, rfl, k1.mono fun b hb => ⟨hb.1, fun h => hb.2 ⟨0, 0, h⟩⟩, fun i j b => i = 0 ∧ j = 0 ∧ F' b, fun i j b hb => ⟨(k2 b hb.2.2).1.imp (fun h => ⟨0, 0, h⟩) id, (k2 b hb.2.2).2⟩, fun i j i' j' b hb hb' => ⟨hb.1.trans hb'.1.symm, hb.2.1.trans hb'.2.1.symm⟩, ?_, ?_⟩
  · exact post0 (v0 := v0) rfl (fun t ht => ⟨_, by simpa using ht⟩) (bld_shut k3)
  · refine ⟨_, rfl, rfl, fun i t hi => ?_⟩
    match i, hi with
    | 0, hi => simp at hi; subst hi; exact ⟨_, rfl, rfl⟩
    | 1, hi => simp at hi; subst hi; exact ⟨_, rfl, rfl⟩
    | i + 2, hi => simp at hi
theorem mut_len (L : Lays.n170 P ρ) (s0 : ByteArray) : MutOK P (ρ.f 170) [mExt s0 s0 (ρ.t 72) (ρ.t 5)] [.one (.int .i64 s0.size)] := by
  refine mut_of_calls (enters_of L.f170 (by kernel_rfl) rfl) fun w vs F hF hr => ?_
  obtain ⟨hsz, hv⟩ := hr
  obtain ⟨v0, q0, r0⟩ := hv 0 _ rfl
  have e := size1 hsz q0
  rw [e]
  refine (bld_len L (bld_open r0)).mono ?_
  rintro en w' ⟨rfl, rfl⟩
  refine ⟨_, rfl, BelowK.refl _ _, fun i j b => i = 0 ∧ j = 0 ∧ F 0 0 b, fun i j b hb => ⟨.inl ⟨0, 0, hb.2.2⟩, hF _ _ _ hb.2.2⟩, fun i j i' j' b hb hb' => ⟨hb.1.trans hb'.1.symm, hb.2.1.trans hb'.2.1.symm⟩, post0 (v0 := v0) rfl (fun t ht => by cases ht) r0, rfl⟩
theorem mut_string (L : Lays.n169 P ρ) (X : Builder.Extra P ρ) (s0 : ByteArray) : MutOK P (ρ.f 169) [mExt s0 s0 (ρ.t 72) (ρ.t 5)] [.one (.str s0)] := by
  refine mut_of_calls (enters_of L.f169 (by kernel_rfl) rfl) fun w vs F hF hr => ?_
  obtain ⟨hsz, hv⟩ := hr
  obtain ⟨v0, q0, r0⟩ := hv 0 _ rfl
  have e := size1 hsz q0
  rw [e]
  refine (bld_string_any L X (bld_open r0)).mono ?_
  rintro en w' ⟨rfl, k1, k2, k3⟩
  refine ⟨_, rfl, k1.mono fun b hb => ⟨hb.1, fun h => hb.2 ⟨0, 0, h⟩⟩, fun i j b => i = 0 ∧ j = 0 ∧ F 0 0 b, fun i j b hb => ⟨.inl ⟨0, 0, hb.2.2⟩, by rw [k2]; exact hF _ _ _ hb.2.2⟩, fun i j i' j' b hb hb' => ⟨hb.1.trans hb'.1.symm, hb.2.1.trans hb'.2.1.symm⟩, post0 (v0 := v0) rfl (fun t ht => by cases ht) (bld_shut k3), rfl⟩
theorem bld_new {T e : TypeId} {n : Nat} {w : World} (h : w.heap[n]? = some (.cells (Value.agg #[.pointer none, .slice none 0 0]).cells T (0, 0))) : Bld T e ByteArray.empty (fun g => w.heap[g]?) (fun g => g = n) (.pointer (some ⟨n, 0, none⟩)) :=
  ⟨w, fun _ _ => rfl, n, _, _, rfl, rfl, fun g hg => by simp [Value.ownBlock] at hg, h, .inl rfl, ⟨rfl, .inl ⟨rfl, rfl⟩⟩, by simp [Value.ownBlock], fun _ => rfl⟩

end

end Go.Fw
