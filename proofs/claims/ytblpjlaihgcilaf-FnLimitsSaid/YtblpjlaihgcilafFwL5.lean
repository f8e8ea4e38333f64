
import Derived.Test.YtblpjlaihgcilafFwL3
import Derived.Laws.Slices
namespace Go.Fw
open Go Go.RowKit
variable {P : Program} {n0 : Nat → Prop} {H : List (Nat × Ob)} {m : Mem} {w : World}
theorem boundOf_spec {ρ : Rho} {ev : Operand → Value} {d l : Int} {x : Option Operand} (h : boundOf ρ d x = some l) (hr : ∀ y ∈ x, ∀ av, ρ y = some av → AVRep H m w av (ev y)) :
    (x = none ∧ l = d) ∨ ∃ k, x.map ev = some (.int k l) := by
  unfold boundOf at h
  split at h
  · cases h; exact .inl ⟨rfl, rfl⟩
  · rename_i y
    split at h
    · rename_i k i hi
      cases h
      exact .inr ⟨k, by have : ev y = .int k l := hr y rfl _ hi
                        simp [this]⟩
    · cases h
theorem run_bounds {isS : Bool} {n cap : Nat} {l r : Int} {lo hi : Option Value} (hn : n ≤ cap) (hl : (lo = none ∧ l = 0) ∨ ∃ k, lo = some (.int k l)) (hh : (hi = none ∧ r = n) ∨ ∃ k, hi = some (.int k r)) (h0 : 0 ≤ l) (h1 : l ≤ r) (h2 : r ≤ (n : Int)) :
    (Instr.sliceBounds isS n cap lo hi none).run P w = .ok (l.toNat, r.toNat, cap) w := by
  have hr0 : (r.toNat : Int) = r := Int.toNat_of_nonneg (by omega)
  have b1 : ∀ (k : IntKind) code, (Instr.sliceBound (.int k r) cap code).run P w = .ok r.toNat w := fun k code => run_sliceBound w k r cap code (by omega) (by omega)
  have b2 : ∀ (k : IntKind) code, (Instr.sliceBound (.int k l) r.toNat code).run P w = .ok l.toNat w := fun k code => run_sliceBound w k l _ code (by omega) (by omega)
  rcases hl with ⟨rfl, rfl⟩ | ⟨k, rfl⟩ <;> rcases hh with ⟨rfl, rfl⟩ | ⟨k', rfl⟩
  · simp [Instr.sliceBounds]
  · simp [Instr.sliceBounds, b1]
  · have b2' : ∀ (k : IntKind) code, (Instr.sliceBound (.int k l) n code).run P w = .ok l.toNat w := fun k code => run_sliceBound w k l _ code (by omega) (by omega)
    simp [Instr.sliceBounds, b2']
  · simp [Instr.sliceBounds, b1, b2]
theorem viewOf_spec {av : AV} {n sz : Nat} {get : Nat → Nat → C} {v : Value} (h : viewOf av = some (n, sz, get)) (hr : AVRep H m w av v) : CRep w (avOf H m) (.seq n sz get) v := by
  unfold viewOf at h
  split at h
  · cases h; exact hr
  · cases h; exact hr.1
  · cases h
    have hv : v = .slice none 0 0 := hr
    exact ⟨none, 0, hv, Nat.le_refl _, fun h => absurd h (by omega)⟩
  · cases h
theorem evSlice_sound {ρ : Rho} {ev : Operand → Value} {t : TypeId} {x : Operand} {lo hi mx : Option Operand} {h : Hint} {E : Eff} (hE : evSlice P ρ t x lo hi mx h = some E) (hob : E.ob)
    (hr : ∀ y, (y = x ∨ lo = some y ∨ hi = some y) → ∀ av, ρ y = some av → AVRep H m w av (ev y)) :
    Quiet P (Instr.sliceAt t (ev x) (lo.map ev) (hi.map ev) (mx.map ev)) w H m E.av ∧ E.new = [] ∧ E.gone = [] := by
  have bnd : ∀ {z : Option Operand} {d l : Int}, boundOf ρ d z = some l → (z = lo ∨ z = hi) → (z.map ev = none ∧ l = d) ∨ ∃ k, z.map ev = some (.int k l) := by
    intro z d l hz hzz
    rcases boundOf_spec (H := H) (m := m) (w := w) (ev := ev) hz (fun y hy av hav => hr y (by rcases hzz with rfl | rfl <;> simp_all) av hav) with ⟨h1, h2⟩ | h1
    · exact .inl ⟨by rw [h1]; rfl, h2⟩
    · exact .inr h1
  unfold evSlice at hE
  split at hE
  · rename_i s hu hx
    split at hE
    · rename_i l r hl hh
      cases hE
      obtain ⟨h0, h1, h2⟩ := hob
      have hs : ev x = .string s := hr x (.inl rfl) _ hx
      refine ⟨⟨.string (s.extract l.toNat r.toNat), w, ?_, Drew.refl w, rfl⟩, rfl, rfl⟩
      rw [run_sliceAt_string w t _ _ _ _ hu, hs]
      simp [Instr.slice, run_underlying hu, run_bounds (P := P) (w := w) (isS := false) (n := s.size) (Nat.le_refl _) (bnd hl (.inl rfl)) (bnd hh (.inr rfl)) h0 h1 h2]
    · cases hE
  · rename_i e av hu hx
    split at hE
    · rename_i n' get' n sz get sz' hv hsz
      split at hE
      · rename_i hszz
        split at hE
        · rename_i l r hl hh
          cases hE
          obtain ⟨h0, h1, h2, hn', hget⟩ := hob
          obtain ⟨a, cap, hs, hn, hcells⟩ := viewOf_spec hv (hr x (.inl rfl) _ hx)
          refine ⟨⟨.slice (if cap = l.toNat then a else a.map (·.add (l.toNat * sz'))) (r.toNat - l.toNat) (cap - l.toNat), w, ?_, Drew.refl w, ?_⟩, rfl, rfl⟩
          · rw [hs]
            have hunder : (underlying t).run P w = .ok (.slice e) w := run_underlying hu w
            simp [Instr.sliceAt, Instr.slice, hunder, run_bounds (P := P) (w := w) (isS := true) (n := n) hn (bnd hl (.inl rfl)) (bnd hh (.inr rfl)) h0 h1 h2, sizeT_spec hsz]
          · refine ⟨if cap = l.toNat then a else a.map (·.add (l.toNat * sz')), cap - l.toNat, ?_, ?_, fun hp => ?_⟩
            · have : r.toNat - l.toNat = n' := by omega
              rw [this]
            · omega
            · have hsz0 : sz = sz' := hszz.resolve_right (by omega)
              subst hsz0
              obtain ⟨b, off, ha, hc⟩ := hcells (by omega)
              refine ⟨b, off + l.toNat * sz, ?_, fun i j hi hj => ?_⟩
              · rw [if_neg (by omega), ha]
                simp [Addr.add_lit]
              · rw [hget i j hi hj]
                have e1 : off + l.toNat * sz + i * sz + j = off + (l.toNat + i) * sz + j := by rw [Nat.add_mul]; omega
                rw [e1]
                exact hc (l.toNat + i) j (by omega) hj
        · cases hE
      · cases hE
    · cases hE
  · cases hE
theorem evPart_sound {n0 : Nat → Prop} {ρ : Rho} {Hs : Nat → Option Ob} {ev : Operand → Value} {t : TypeId} {x : Operand} {lo hi mx : Option Operand} {E : Eff} (hE : evPart P ρ Hs t x lo hi mx = some E) (hob : E.ob) (hok : HeapOK n0 H m w) (hsub : Agree H Hs)
    (hr : ∀ y, (y = x ∨ lo = some y ∨ hi = some y) → ∀ av, ρ y = some av → AVRep H m w av (ev y)) :
    Quiet P (Instr.sliceAt t (ev x) (lo.map ev) (hi.map ev) (mx.map ev)) w H m E.av ∧ E.new = [] ∧ E.gone = [] := by
  have bnd : ∀ {z : Option Operand} {d l : Int}, boundOf ρ d z = some l → (z = lo ∨ z = hi) → (z.map ev = none ∧ l = d) ∨ ∃ k, z.map ev = some (.int k l) := by
    intro z d l hz hzz
    rcases boundOf_spec (H := H) (m := m) (w := w) (ev := ev) hz (fun y hy av hav => hr y (by rcases hzz with rfl | rfl <;> simp_all) av hav) with ⟨h1, h2⟩ | h1
    · exact .inl ⟨by rw [h1]; rfl, h2⟩
    · exact .inr h1
  unfold evPart at hE
  split at hE
  · rename_i e i hu hx
    split at hE
    · rename_i d n sz g sz' l hH hsz hl
      split at hE
      · rename_i r hh
        split at hE
        · rename_i hszz
          cases hE
          subst hszz
          obtain ⟨h0, h1, h2, h3⟩ := hob
          obtain ⟨ha, hA, hs⟩ := hr x (.inl rfl) _ hx
          obtain ⟨ob, hlk⟩ := Option.isSome_iff_exists.1 ha
          cases hsub i ob _ hlk hH
          have hown := (hok.ob i _ hlk).1
          rcases hown with ⟨_, hn0⟩ | ⟨b, cap, cur, E', fr, hv, hn, _⟩
          · omega
          · refine ⟨⟨.slice (if cap = l.toNat then some ⟨b, 0, none⟩ else (some (⟨b, 0, none⟩ : Addr)).map (·.add (l.toNat * sz))) (r.toNat - l.toNat) (cap - l.toNat), w, ?_, Drew.refl w, ?_⟩, rfl, rfl⟩
            · rw [hs, hv]
              have hunder : (underlying t).run P w = .ok (.slice e) w := run_underlying hu w
              simp [Instr.sliceAt, Instr.slice, hunder, run_bounds (P := P) (w := w) (isS := true) (n := n) hn (bnd hl (.inl rfl)) (bnd hh (.inr rfl)) h0 h2 h3, sizeT_spec hsz]
            · refine ⟨d, n, sz, g, b, cap, hlk, by omega, hv, ?_⟩
              rw [if_neg (by omega)]
              simp [Addr.add_lit]
        · cases hE
      · cases hE
    · cases hE
  · cases hE
theorem bt_getD (s : ByteArray) (i : Nat) (h : i < s.size) : bt s i = (s.data[i].toNat : Int) := by
  have : i < s.data.toList.length := by simpa using h
  simp only [bt, List.getElem?_eq_getElem this, Option.getD_some]
  simp
theorem strOfNums_bt (s : ByteArray) : strOfNums ((List.range s.size).map (bt s)) = s := by
  have h : s.data.toList.map (fun b => b) = ((List.range s.size).map (bt s)).map (fun n => UInt8.ofNat n.toNat) := by
    apply List.ext_getElem
    · simp
    · intro i h1 h2
      have hi : i < s.size := by simpa using h1
      simp only [List.getElem_map, List.getElem_range]
      rw [bt_getD s i hi]
      simp
  unfold strOfNums
  rw [← h]
  simp
theorem bytes_run {src dst e : TypeId} {s : ByteArray} {n : Nat} {get : Nat → Nat → C} {v : Value} {av : Av} (hs : P.underlying src = some (.slice e)) (he : P.underlying e = some (.int .u8)) (hd : P.underlying dst = some .string)
    (hb : bytesOb s n get) (hr : CRep w av (.seq n 1 get) v) : (convert src dst v).run P w = .ok (.string s) w := by
  obtain ⟨a, cap, rfl, hn, hc⟩ := hr
  obtain ⟨rfl, hg⟩ := hb
  rcases Nat.eq_zero_or_pos s.size with h0 | h0
  · have hse : s = ByteArray.empty := by
      have : s.data = #[] := Array.eq_empty_of_size_eq_zero h0
      cases s; simp at this; subst this; rfl
    cases a with
    | none => rw [run_convert_bytes_nil w src e hs he _ _ dst hd, hse]
    | some a =>
      rw [run_convert_bytes_string w src dst e _ _ cap hs he hd, h0, run_bytesToString w a 0 cap [] rfl, hse]
      rfl
  · obtain ⟨b, off, rfl, hcells⟩ := hc h0
    rw [run_convert_bytes_arg w src e hs he b off s.size cap ((List.range s.size).map (bt s)) (by simp) (fun i hi => ?_) dst hd, strOfNums_bt]
    obtain ⟨_, u, hu, hx⟩ := hcells i 0 hi (by omega)
    rw [hg i hi] at hx
    have hx' : u = .int .u8 (bt s i) := hx
    rw [Nat.mul_one, Nat.add_zero] at hu
    rw [hu, hx']
    simp [hi]
theorem size_bytesRow (s : ByteArray) (cap : Nat) (h : s.size ≤ cap) : (bytesRow s cap).size = cap := by
  have : s.data.size = s.size := rfl
  simp [bytesRow, this]; omega
theorem freeze_at {w : World} {b k : Nat} {cur : Array Value} {E : TypeId} {fr : Nat × Nat} (hb : w.heap[b]? = some (.cells cur E fr)) : (w.freeze ⟨b, k, none⟩ 1).heap[b]? = some (.cells cur E (if fr.1 == fr.2 then (k, k + 1) else (min fr.1 k, max fr.2 (k + 1)))) := by
  obtain ⟨lo, hi⟩ := fr
  unfold World.freeze
  rw [if_neg (by decide)]
  simp [Array.getElem?_modify, hb]
theorem freeze_ne {w : World} {b k c : Nat} (h : c ≠ b) : (w.freeze ⟨b, k, none⟩ 1).heap[c]? = w.heap[c]? := by
  unfold World.freeze
  rw [if_neg (by decide)]
  simp [Array.getElem?_modify, Ne.symm h]
theorem freeze_size {w : World} {b k : Nat} : (w.freeze ⟨b, k, none⟩ 1).heap.size = w.heap.size := by
  unfold World.freeze
  rw [if_neg (by decide)]
  simp
theorem freeze_go {src e : TypeId} {l : Kd} {i id n k : Nat} {get g : Nat → Nat → C} {E : Eff} {o : Oper} {a : Act} {ob : Ob} (hs : P.underlying src = some (.slice e)) (he : P.underlying e = some (.int .u8)) (hl : isKd l = false)
    (hE : E = { av := .v (.one (obX l id n 1 get)), new := [(id, obO l n 1 get)], gone := [i], ob := 0 < k ∧ n = k ∧ ∀ j, j < n → get j 0 = g j 0 }) (hob : E.ob) (hok : HeapOK n0 H m w) (hn0 : ∀ b, n0 b → b < w.heap.size)
    (hids : ∀ id ob, H.lookup id = some ob → ∀ i ∈ ob.ids, i ∉ E.ids) (hhard : ∀ i ob, H.lookup i = some ob → ∀ j ∈ ob.hard, j ∉ E.gone) (hal : H.lookup i = some ob) (hav : ∀ b o, Value.blk (m.val i) = some b → (l = .kl → k ≤ o) → avOf H m b o)
    (hown : OwnC w (.seq k 1 g) (m.foot i) (m.val i)) (hrun : (execOp a.eval o).run P w = ((convert src src (m.val i)).run P w).andThen fun v w' => .ok (.value v) w') : OpGo P n0 o a w H m E := by
  subst hE
  obtain ⟨hk, rfl, hg⟩ := hob
  rcases hown with ⟨_, h0⟩ | ⟨b, cap, cur, E, fr, hv, hcap, hfr, hb, hsz, hF, G, hG, hGd⟩
  · omega
  have hgo : (convert src src (m.val i)).run P w = .ok (m.val i) (w.freeze ⟨b, cur.size, none⟩ 1) := by
    rw [hv]
    have hsh : w.shape? b = some (E, cur.size) := by unfold World.shape?; rw [hb]
    simp [convert, run_underlying hs, run_underlying he, markStringish, hsh]
  have hF' : m.foot i b := hF
  have hK : ∀ c, n0 c → c ≠ b := fun c hc h => (hok.lo i b (by rw [hal]; rfl) hF').1 (h ▸ hc)
  have hOwn : OwnC (w.freeze ⟨b, cur.size, none⟩ 1) (.seq n 1 get) (m.foot i) (m.val i) := by
    refine .inr ⟨b, cap, cur, E, _, hv, hcap, ?_, freeze_at hb, hsz, hF, G, fun x y hx hy => ?_, hGd⟩
    · rcases hfr with hfr | hfr
      · subst hfr
        exact .inr (Nat.le_refl _)
      · right
        split
        · exact Nat.le_refl _
        · exact Nat.le_min.2 ⟨hfr, Nat.le_refl _⟩
    · obtain ⟨g1, u, hu, ho⟩ := hG x y hx hy
      have hy0 : y = 0 := by omega
      subst hy0
      refine ⟨g1, u, hu, ?_⟩
      rw [hg x hx]
      exact OwnC.heap (fun c hc => freeze_ne (g1 c hc).2) ho
  obtain ⟨m', h1, h2, h3⟩ := take_obj (gone := [i]) (w' := w.freeze ⟨b, cur.size, none⟩ 1) ⟨by unfold World.freeze; rw [if_neg (by decide)], by unfold World.freeze; rw [if_neg (by decide)], by unfold World.freeze; rw [if_neg (by decide)], by rw [freeze_size]; exact Nat.le_refl _, fun c hc => freeze_ne (hK c hc)⟩ hok hn0
    (fun c _ hc => freeze_ne (fun h => hc i (by simp) (h ▸ hF'))) (fun c o q hq _ => by
      by_cases h : c = b
      · subst h
        unfold World.cell? at hq ⊢
        rw [freeze_at hb]
        rw [hb] at hq
        exact hq
      · unfold World.cell? at hq ⊢
        simp only [freeze_ne h]
        exact hq) id n 1 get l (m.val i) (m.foot i) (fun c hc => .inr ⟨i, by simp, by rw [hal]; rfl, hc⟩)
    (fun c o _ hc ho => hav c o hc (fun h => by have := ho h; omega)) (fun h => by rw [h] at hl; cases hl) (fun j ob' hj hm => hids j ob' hj id hm (by simp [Eff.ids])) hhard (fun j hj => by simp at hj; subst hj; rw [hal]; rfl) hOwn
  unfold OpGo
  rw [hrun, hgo]
  simp only [Result.andThen, Eff.heap, Eff.ids, List.map_cons, List.map_nil, List.singleton_append]
  refine ⟨m', h1, h2, ?_⟩
  cases l
  · have hl' : (((id, obO .kl n 1 get) :: dropL [i] H)).lookup id = some (.lst n 1 get) := by simp [obO]
    have := lst_crep h1 hl'
    rw [h3] at this
    exact ⟨this, fun _ => h3.symm⟩
  · exact ⟨by simp, by simp [obO], h3.symm⟩
  · cases hl
theorem evFreeze_go {Hs : Nat → Option Ob} {src dst : TypeId} {x : AV} {h : Hint} {E : Eff} {o : Oper} {a : Act} {u : Value} (hE : evFreeze P Hs src dst x h = some E) (hob : E.ob) (hok : HeapOK n0 H m w) (hn0 : ∀ b, n0 b → b < w.heap.size)
    (hsub : Agree H Hs) (hids : ∀ id ob, H.lookup id = some ob → ∀ i ∈ ob.ids, i ∉ E.ids) (hhard : ∀ i ob, H.lookup i = some ob → ∀ j ∈ ob.hard, j ∉ E.gone) (hgone : ∀ g ∈ E.gone, (H.lookup g).isSome = true)
    (hrun : (execOp a.eval o).run P w = ((convert src dst u).run P w).andThen fun v w' => .ok (.value v) w') (hr : AVRep H m w x u) : OpGo P n0 o a w H m E := by
  unfold evFreeze at hE
  split at hE
  case h_2 => cases hE
  rename_i e' e l id n get hs hd _
  split at hE
  case h_2 => cases hE
  rename_i he
  split at hE
  case isFalse => cases hE
  rename_i hc
  obtain ⟨rfl, hl⟩ := hc
  split at hE
  · rename_i i _ _ _
    split at hE
    case h_2 => cases hE
    rename_i k g hobj _
    have hE' := Option.some.inj hE
    obtain ⟨ob', hal⟩ := Option.isSome_iff_exists.1 (hgone i (by rw [← hE']; simp))
    cases hsub i ob' _ hal hobj
    have hu : u = m.val i := hr.2 (by rw [hal]; rfl)
    subst hu
    have hreach : ∀ b, Value.blk (m.val i) = some b → Fw.reach m i (.lst k 1 g) b := fun b hb => hb
    exact freeze_go hd he rfl hE'.symm hob hok hn0 hids hhard hal (fun b o hb ho => ⟨i, _, hal, hreach b hb, by simpa using ho rfl⟩) (hok.ob i _ hal) hrun
  · rename_i i
    split at hE
    case h_2 => cases hE
    rename_i d k g hobj
    have hE' := Option.some.inj hE
    obtain ⟨ob', hal⟩ := Option.isSome_iff_exists.1 (hgone i (by rw [← hE']; simp))
    cases hsub i ob' _ hal hobj
    have hu : u = m.val i := hr.2.2
    subst hu
    have hown : OwnC w (.seq k 1 g) (m.foot i) (m.val i) := (hok.ob i _ hal).1
    have hreach : ∀ b, Value.blk (m.val i) = some b → Fw.reach m i (.arr d k 1 g) b := fun b hb => (hok.ob i _ hal).reach_blk hb
    exact freeze_go hd he hl hE'.symm hob hok hn0 hids hhard hal (fun b o hb _ => ⟨i, _, hal, hreach b hb, trivial⟩) hown hrun
  · cases hE
theorem OwnC.cut {w : World} {n n' sz cap : Nat} {get get' : Nat → Nat → C} {F : Nat → Prop} {ad : Option Addr} (h : OwnC w (.seq n sz get) F (.slice ad n cap)) (hn : n' ≤ n) (hg : ∀ i j, i < n' → j < sz → get' i j = get i j) :
    OwnC w (.seq n' sz get') F (.slice ad n' cap) := by
  rcases h with ⟨h1, h2⟩ | ⟨b, cap', cur, E, fr, h1, h2, h3, h4, h5, h6, G, h7, h8⟩
  · left
    have : n' = 0 := by omega
    subst this
    subst h2
    exact ⟨h1, rfl⟩
  · right
    cases h1
    refine ⟨b, cap, cur, E, fr, rfl, by omega, h3, h4, h5, h6, G, fun i j hi hj => ?_, fun i j i' j' x hi hj hi' hj' => h8 i j i' j' x (by omega) hj (by omega) hj'⟩
    obtain ⟨q1, u, q2, q3⟩ := h7 i j (by omega) hj
    exact ⟨q1, u, q2, by rw [hg i j hi hj]; exact q3⟩
theorem evCut_go {Hs : Nat → Option Ob} {ρ : Rho} {t : TypeId} {x : Operand} {lo hi mx : Option Operand} {h : Hint} {E : Eff} {o : Oper} {a : Act} (hE : evCut P ρ Hs t x lo hi mx h = some E) (hob : E.ob) (hok : HeapOK n0 H m w) (hn0 : ∀ b, n0 b → b < w.heap.size)
    (hsub : Agree H Hs) (hids : ∀ id ob, H.lookup id = some ob → ∀ i ∈ ob.ids, i ∉ E.ids) (hhard : ∀ i ob, H.lookup i = some ob → ∀ j ∈ ob.hard, j ∉ E.gone) (hgone : ∀ g ∈ E.gone, (H.lookup g).isSome = true)
    (hrun : (execOp a.eval o).run P w = ((Instr.sliceAt t (a.eval x) (lo.map a.eval) (hi.map a.eval) (mx.map a.eval)).run P w).andThen fun v w' => .ok (.value v) w')
    (hr : ∀ y, (y = x ∨ lo = some y ∨ hi = some y) → ∀ av, ρ y = some av → AVRep H m w av (a.eval y)) : OpGo P n0 o a w H m E := by
  have bnd : ∀ {z : Option Operand} {d l : Int}, boundOf ρ d z = some l → (z = lo ∨ z = hi) → (z.map a.eval = none ∧ l = d) ∨ ∃ k, z.map a.eval = some (.int k l) := by
    intro z d l hz hzz
    rcases boundOf_spec (H := H) (m := m) (w := w) (ev := a.eval) hz (fun y hy av hav => hr y (by rcases hzz with rfl | rfl <;> simp_all) av hav) with ⟨h1, h2⟩ | h1
    · exact .inl ⟨by rw [h1]; rfl, h2⟩
    · exact .inr h1
  unfold evCut at hE
  split at hE
  case h_2 => cases hE
  rename_i e i l id n' get' hu hx _
  split at hE
  case h_2 => cases hE
  rename_i d n sz get sz' lo' hobj hsz hl
  split at hE
  case h_2 => cases hE
  rename_i r hh
  split at hE
  case isFalse => cases hE
  rename_i hc
  obtain ⟨rfl, hkd⟩ := hc
  have hE' := Option.some.inj hE
  obtain ⟨ob', hal⟩ := Option.isSome_iff_exists.1 (hgone i (by rw [← hE']; simp))
  cases hsub i ob' _ hal hobj
  subst hE'
  obtain ⟨rfl, h0, h1, hn', hget⟩ := hob
  have hux : a.eval x = m.val i := (hr x (.inl rfl) _ hx).2.2
  have hown : OwnC w (.seq n sz get) (m.foot i) (m.val i) := (hok.ob i _ hal).1
  obtain ⟨ad, cap, hs, hn, hadd⟩ : ∃ ad cap, m.val i = .slice ad n cap ∧ n ≤ cap ∧ ad.map (·.add (0 * sz)) = ad := by
    rcases hown with ⟨q1, q2⟩ | ⟨b, cap', cur, E, fr, q1, q2, _⟩
    · subst q2; exact ⟨none, 0, q1, Nat.le_refl _, rfl⟩
    · exact ⟨_, cap', q1, q2, by simp [Addr.add_lit]⟩
  have hrun2 : (Instr.sliceAt t (a.eval x) (lo.map a.eval) (hi.map a.eval) (Option.map a.eval none)).run P w = .ok (.slice ad n' cap) w := by
    rw [hux, hs]
    have hunder : (underlying t).run P w = .ok (.slice e) w := run_underlying hu w
    have e1 : r.toNat = n' := by omega
    have := run_bounds (P := P) (w := w) (isS := true) (n := n) hn (bnd hl (.inl rfl)) (bnd hh (.inr rfl)) (Int.le_refl 0) h0 h1
    simp [Instr.sliceAt, Instr.slice, hunder, this, sizeT_spec hsz, e1]
    intro _
    simpa using hadd
  rw [hrun2, Result.andThen_ok] at hrun
  have hrep : OwnC w (.seq n' sz get') (m.foot i) (.slice ad n' cap) := OwnC.cut (by rw [← hs]; exact hown) (by omega) hget
  obtain ⟨m', g1, g2, g3⟩ := take_obj (gone := [i]) (w' := w) (BelowK.refl _ _) hok hn0 (fun _ _ _ => rfl) (fun _ _ _ h _ => h) id n' sz get' l (.slice ad n' cap) (m.foot i)
    (fun b hb => .inr ⟨i, by simp, by rw [hal]; rfl, hb⟩)
    (fun b o _ hbk _ => ⟨i, _, hal, (hok.ob i _ hal).reach_blk (by rw [hs]; cases ad <;> exact hbk), trivial⟩) (fun hd => by rw [hd] at hkd; cases hkd)
    (fun i ob hl hm => hids i ob hl id hm (by simp [Eff.ids])) hhard hgone hrep
  unfold OpGo
  rw [hrun]
  simp only [Eff.heap, Eff.ids, List.map_cons, List.map_nil, List.singleton_append]
  refine ⟨m', g1, g2, ?_⟩
  cases l
  · have hl : (((id, obO .kl n' sz get') :: dropL [i] H)).lookup id = some (.lst n' sz get') := by simp [obO]
    have := lst_crep g1 hl
    rw [g3] at this
    exact ⟨this, fun _ => g3.symm⟩
  · exact ⟨by simp, by simp [obO], g3.symm⟩
  · cases hkd
theorem evConvL_go {Hs : Nat → Option Ob} {src dst : TypeId} {x : AV} {h : Hint} {E : Eff} {o : Oper} {a : Act} {u : Value} (hE : evConvL P Hs src dst x h = some E) (hob : E.ob) (hok : HeapOK n0 H m w) (hn0 : ∀ b, n0 b → b < w.heap.size)
    (hsub : Agree H Hs)
    (hids : ∀ id ob, H.lookup id = some ob → ∀ i ∈ ob.ids, i ∉ E.ids) (hrun : (execOp a.eval o).run P w = ((convert src dst u).run P w).andThen fun v w' => .ok (.value v) w')
    (hr : AVRep H m w x u) : OpGo P n0 o a w H m E := by
  unfold evConvL at hE
  split at hE
  · rename_i e s isl id n get hs hd hob0
    split at hE
    · rename_i he
      cases hE
      obtain ⟨rfl, hg⟩ := hob
      have hu : u = .string s := hr
      have hcr := run_bytes_of_string (P := P) w src dst e s hs hd he
      have hge := grownCap_ge w s.size 0 e
      refine new_seq (islst := isl) (gone := []) (ob := _) rfl hok hn0 (w.drew.alloc (.cells (bytesRow s (grownCap w s.size 0 e)) e ((bytesRow s (grownCap w s.size 0 e)).size, (bytesRow s (grownCap w s.size 0 e)).size + 1))) (((Below.refl _ _).drew).alloc (Nat.le_refl _) _)
        (.slice (some ⟨w.heap.size, 0, none⟩) s.size (grownCap w s.size 0 e)) ?_ (fun b => b = w.heap.size) (fun b hb => .inl ⟨by omega, by subst hb; simp⟩)
        (fun b hb => by simp [Value.blk] at hb; omega) (fun i ob hl hm => hids i ob hl id hm (by simp [Eff.ids])) (by simp) (by simp) (by simp) ?_
      · rw [hrun, hu, hcr]; rfl
      · refine .inr ⟨w.heap.size, _, _, e, _, rfl, hge, .inr (Nat.le_refl _), heap_alloc_new w.drew _, by rw [size_bytesRow _ _ hge, Nat.mul_one], rfl, fun _ _ _ => False, fun i j hi hj => ⟨fun x hx => hx.elim, ?_⟩, fun i j i' j' x _ _ _ _ hx => hx.elim⟩
        have hj0 : j = 0 := by omega
        subst hj0
        refine ⟨.int .u8 (bt s i), ?_, by rw [hg i hi]; rfl⟩
        have hi' : i < s.data.size := hi
        rw [Nat.mul_one, Nat.add_zero, bytesRow, Array.getElem?_append, if_pos (by simpa using hi'), bt_getD s i hi]
        simp only [Array.getElem?_map, Option.map_eq_some_iff]
        exact ⟨s.data[i], Array.getElem?_eq_getElem hi', rfl⟩
    · cases hE
  · rename_i x _ _ e s hs hd
    split at hE
    · rename_i he
      have fin : ∀ (E' : Eff), E' = { E with ob := E.ob } → E.av = sv s → E.new = [] → E.gone = [] → (convert src dst u).run P w = .ok (.string s) w → OpGo P n0 o a w H m E := by
        intro _ _ ha hn hg hc
        exact quiet_go (convert src dst u) hrun ⟨.string s, w, hc, Drew.refl w, by rw [ha]; rfl⟩ hok hn hg
      split at hE
      · cases hE; exact fin _ rfl rfl rfl rfl (bytes_run hs he hd hob hr)
      · cases hE; exact fin _ rfl rfl rfl rfl (bytes_run hs he hd hob hr.1)
      · cases hE
        have hs0 : s.size = 0 := hob
        have hu : u = .slice none 0 0 := hr
        have hse : s = ByteArray.empty := by
          have : s.data = #[] := Array.eq_empty_of_size_eq_zero hs0
          cases s; simp at this; subst this; rfl
        exact fin _ rfl rfl rfl rfl (by rw [hu, run_convert_bytes_nil w src e hs he _ _ dst hd, hse])
      · rename_i id
        split at hE
        · rename_i d n get hobj
          cases hE
          obtain ⟨ha, _, hv⟩ := hr
          obtain ⟨ob', hl⟩ := Option.isSome_iff_exists.1 ha
          cases hsub id ob' _ hl hobj
          have hown : OwnC w (.seq n 1 get) (m.foot id) (m.val id) := (hok.ob id _ hl).1
          rw [hv] at hrun
          rw [hv] at fin
          exact fin _ rfl rfl rfl rfl (bytes_run (av := fun _ _ => False) hs he hd hob (OwnC.crep (fun _ _ _ h => h) hown))
        · cases hE
      · cases hE
    · cases hE
  · cases hE
theorem evOpA_go {ρ : Rho} {Hs : Nat → Option Ob} {o : Oper} {h : Hint} {E : Eff} {a : Act} (hE : evOpA P ρ Hs o h = some E) (hob : E.ob)
    (hok : HeapOK n0 H m w) (hn0 : ∀ b, n0 b → b < w.heap.size) (hgd : GK n0 w) (hsub : Agree H Hs) (hnd : E.ids.Nodup) (hids : ∀ id ob, H.lookup id = some ob → ∀ i ∈ ob.ids, i ∉ E.ids)
    (hhard : ∀ i ob, H.lookup i = some ob → ∀ j ∈ ob.hard, j ∉ E.gone) (hgone : ∀ g ∈ E.gone, (H.lookup g).isSome = true) (hgnd : E.gone.Nodup)
    (hfr : ∀ x ∈ o.op.operands.toList, ∀ av, ρ x = some av → ∀ i ∈ av.ids, i ∉ E.ids)
    (hr : ∀ x ∈ o.op.operands.toList, ∀ av, ρ x = some av → AVRep H m w av (a.eval x)) : OpGo P n0 o a w H m E := by
  unfold evOpA at hE
  split at hE
  · rename_i E0 h0
    cases hE
    exact evOp0_go h0 hob hok hn0 hgd hsub hnd hids hfr hr
  · unfold evList at hE
    split at hE
    · rename_i src dst x ho
      split at hE
      · rename_i u hu
        split at hE
        · rename_i hfr
          cases hE
          exact evFreeze_go (P := P) hfr hob hok hn0 hsub hids hhard hgone (by simp only [execOp, ho]; exact run_value _ w) (hr x (by simp [ho, Op.operands]) u hu)
        exact evConvL_go (P := P) hE hob hok hn0 hsub hids (by simp only [execOp, ho]; exact run_value _ w) (hr x (by simp [ho, Op.operands]) u hu)
      · cases hE
    · rename_i t l c ho
      split at hE
      · rename_i u v hu hv
        exact evMake_go (P := P) hE hob hok hn0 hids (by simp only [execOp, ho]; exact run_value _ w) (hr l (by simp [ho, Op.operands]) u hu) (hr c (by simp [ho, Op.operands]) v hv)
      · cases hE
    · rename_i t len parts ho
      split at hE
      · exact evBuildView_go (P := P) hE hob hok hn0 (by simp only [execOp, ho]; exact run_value _ w) (fun p hp av hav => hr p.2 (by simp only [ho, Op.operands, List.mem_map]; exact ⟨p, by simpa using hp, rfl⟩) av hav)
      exact evBuildSlice_go (P := P) hE hob hok hn0 hsub hids hhard hgone hgnd (by simp only [execOp, ho]; exact run_value _ w) (fun p hp av hav => hr p.2 (by simp only [ho, Op.operands, List.mem_map]; exact ⟨p, by simpa using hp, rfl⟩) av hav)
    · rename_i t x lo hi mx ho
      split at hE
      · rename_i hcut
        cases hE
        exact evCut_go (P := P) hcut hob hok hn0 hsub hids hhard hgone (by simp only [execOp, ho]; exact run_value _ w) (fun y hy av hav => hr y (by
          simp only [ho, Op.operands]
          rcases hy with rfl | rfl | rfl <;> simp) av hav)
      split at hE
      · rename_i hsl
        cases hE
        obtain ⟨h1, h2, h3⟩ := evSlice_sound (P := P) (ev := a.eval) (w := w) (H := H) (m := m) hsl hob (fun y hy av hav => hr y (by
          simp only [ho, Op.operands]
          rcases hy with rfl | rfl | rfl <;> simp) av hav)
        exact quiet_go _ (by simp only [execOp, ho]; exact run_value _ w) h1 hok h2 h3
      obtain ⟨h1, h2, h3⟩ := evPart_sound (P := P) (ev := a.eval) (w := w) (H := H) (m := m) hE hob hok hsub (fun y hy av hav => hr y (by
        simp only [ho, Op.operands]
        rcases hy with rfl | rfl | rfl <;> simp) av hav)
      exact quiet_go _ (by simp only [execOp, ho]; exact run_value _ w) h1 hok h2 h3
    · rename_i c ho
      split at hE
      · rename_i s x t u hcal hargs hts
        split at hE
        · rename_i htu
          subst htu
          split at hE
          · rename_i sv xv hs hx
            have ha : c.args = #[s, x] := by rw [← Array.toArray_toList (xs := c.args), hargs]
            have ht : c.argTypes = #[u, u] := by rw [← Array.toArray_toList (xs := c.argTypes), hts]
            have hmem : ∀ y ∈ c.args.toList, ∀ av, ρ y = some av → AVRep H m w av (a.eval y) := fun y hy av hav => hr y (by
              simp only [ho, Op.operands, Call.operands, Array.toList_append]; exact List.mem_append_right _ hy) av hav
            exact evAppend_go (P := P) (ty := o.type) hE hob hok hn0 hsub hids hhard hgone hgnd (by
              simp only [execOp, ho, resolve, hcal, ha, ht, Sem.run_bind, Sem.run_pure, Result.andThen_ok, invoke, builtin, List.map_toArray, List.map_cons, List.map_nil]) (hmem s (by rw [hargs]; simp) _ hs) (hmem x (by rw [hargs]; simp) _ hx)
          · cases hE
        · cases hE
      · cases hE
    · cases hE
end Go.Fw
