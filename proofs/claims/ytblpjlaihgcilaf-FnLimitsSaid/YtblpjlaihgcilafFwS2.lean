
import Derived.Test.YtblpjlaihgcilafFwS1
namespace Go.Fw
open Go Go.RowKit
variable {P : Program} {n0 : Nat → Prop} {H : List (Nat × Ob)} {m : Mem} {w w' : World}
def MCRep (w : World) (av : Av) (F : Nat → Prop) : MC → Value → Prop
  | .ro c, v => CRep w av c v
  | .mu c _, v => OwnC w c F v
  | .mv c, v => OwnC w c F v
def MTRep (w : World) (av : Av) (F : Nat → Nat → Prop) : MT → Value → Prop
  | .one c, v => MCRep w av (F 0) c v
  | .agg cs, v => ∃ vs : Array Value, v = .agg vs ∧ vs.size = cs.length ∧ ∀ (j : Nat) (c : MC), cs[j]? = some c → ∃ u, vs[j]? = some u ∧ MCRep w av (F j) c u
  | .box m _ get _, v => ∃ b cur E, v = .pointer (some ⟨b, 0, none⟩) ∧ w.heap[b]? = some (.cells cur E (0, 0)) ∧ cur.size = m ∧ F 0 b ∧ ∀ j, j < m → ∃ u, cur[j]? = some u ∧ CRep w av (get j) u
  | .boxm cs, v => ∃ b cur E, v = .pointer (some ⟨b, 0, none⟩) ∧ w.heap[b]? = some (.cells cur E (0, 0)) ∧ cur.size = cs.length ∧ F 0 b ∧ ∀ (j : Nat) (c : BC), cs[j]? = some c → ∃ u, cur[j]? = some u ∧ MCRep w av (F (j + 1)) c.mc u
  | .ext p _, v => ExtRep w p (F 0) v
def MTsRep (w : World) (av : Av) (F : Nat → Nat → Nat → Prop) (ts : List MT) (vs : Array Value) : Prop :=
  vs.size = ts.length ∧ ∀ (i : Nat) (t : MT), ts[i]? = some t → ∃ u, vs[i]? = some u ∧ MTRep w av (F i) t u
def HeadsStay (w w' : World) : C → Value → Prop
  | .seq n sz g, v => ∀ b i j, Value.blk v = some b → i < n → j < sz → isSeq (g i j) = true → w'.cell? ⟨b, i * sz + j, none⟩ = w.cell? ⟨b, i * sz + j, none⟩
  | _, _ => True
def MCPost (w w' : World) (F : Nat → Prop) : MC → Value → Prop
  | .ro _, _ => True
  | .mu _ c, v => OwnC w' c F v ∧ HeadsStay w w' c v
  | .mv _, _ => True
def BCPost (w' : World) : BC → Option Value → Option Value → Prop
  | .set _ c', _, o' => ∃ u, o' = some u ∧ OwnC w' c' (fun _ => False) u
  | _, o, o' => o' = o
def MTPost (w w' : World) (F : Nat → Nat → Prop) : MT → Value → Prop
  | .one c, v => MCPost w w' (F 0) c v
  | .agg cs, v => ∀ vs : Array Value, v = .agg vs → ∀ (j : Nat) (c : MC), cs[j]? = some c → ∀ u, vs[j]? = some u → MCPost w w' (F j) c u
  | .box m keep _ get', v => ∀ b, v = .pointer (some ⟨b, 0, none⟩) → F 0 b ∧ ∃ cur cur' E E', w.heap[b]? = some (.cells cur E (0, 0)) ∧ w'.heap[b]? = some (.cells cur' E' (0, 0)) ∧ cur'.size = m ∧
      ∀ j, j < m → (keep j = true → cur'[j]? = cur[j]?) ∧ (keep j = false → ∃ u, cur'[j]? = some u ∧ OwnC w' (get' j) (fun _ => False) u)
  | .boxm cs, v => ∀ b, v = .pointer (some ⟨b, 0, none⟩) → F 0 b ∧ ∃ cur cur' E E', w.heap[b]? = some (.cells cur E (0, 0)) ∧ w'.heap[b]? = some (.cells cur' E' (0, 0)) ∧ cur'.size = cs.length ∧
      ∀ (j : Nat) (c : BC), cs[j]? = some c → BCPost w' c cur[j]? cur'[j]? ∧ ∀ u, cur[j]? = some u → MCPost w w' (F (j + 1)) c.mc u
  | .ext _ p', v => ExtRep w' p' (F 0) v
def MTsPost (w w' : World) (F : Nat → Nat → Nat → Prop) (ts : List MT) (vs : Array Value) : Prop :=
  ∀ (i : Nat) (t : MT), ts[i]? = some t → ∀ u, vs[i]? = some u → MTPost w w' (F i) t u
def MutOK (P : Program) (f : FuncId) (ts : List MT) (res : List CT) : Prop :=
  ∀ (w : World) (vs : Array Value) (F : Nat → Nat → Nat → Prop), (∀ i j b, F i j b → b < w.heap.size) → (∀ i j i' j' b, F i j b → F i' j' b → i = i' ∧ j = j') → Gd w → (∀ i j b, F i j b → ¬ isG b) → MTsRep w (fun b _ => ∃ i j, F i j b) F ts vs →
    Invk P f vs w fun v w' => BelowK (fun b => b < w.heap.size ∧ ¬ ∃ i j, F i j b) w w' ∧ ∃ F' G : Nat → Nat → Nat → Prop,
      (∀ i j b, F' i j b → ((∃ i' j', F i' j' b) ∨ w.heap.size ≤ b) ∧ b < w'.heap.size) ∧ (∀ i j b, G i j b → ((∃ i' j', F i' j' b) ∨ w.heap.size ≤ b) ∧ b < w'.heap.size) ∧
      (∀ i j i' j' b, F' i j b → F' i' j' b → i = i' ∧ j = j') ∧ (∀ i j i' j' b, G i j b → G i' j' b → i = i' ∧ j = j') ∧ (∀ i j i' j' b, F' i j b → ¬ G i' j' b) ∧
      MTsPost w w' F' ts vs ∧ RTsRep w' G res v
def Ob.notLst : Ob → Bool
  | .lst _ _ _ => false
  | _ => true
def FU (H : List (Nat × Ob)) (m : Mem) (U : List Nat) (b : Nat) : Prop := ∃ u ∈ U, ∃ ob, H.lookup u = some ob ∧ ob.notLst = true ∧ reach m u ob b
theorem FU.av {U : List Nat} {b o : Nat} (h : FU H m U b) : avOf H m b o := by
  obtain ⟨u, _, ob, hl, hn, hr⟩ := h
  refine ⟨u, ob, hl, hr, ?_⟩
  cases ob <;> first | trivial | cases hn
theorem FU.foot {U : List Nat} {b : Nat} (hok : HeapOK n0 H m w) (h : FU H m U b) : ∃ u ∈ U, (H.lookup u).isSome = true ∧ m.foot u b := by
  obtain ⟨u, hu, ob, hl, _, hr⟩ := h
  exact ⟨u, hu, by rw [hl]; rfl, (hok.ob u ob hl).reach hr⟩
def Mem.mut (m : Mem) (U keys : List Nat) (val : Nat → Value) (footU foot : Nat → Nat → Prop) (sub : Nat → Nat → Value) : Mem where
  val id := if id ∈ keys then val id else m.val id
  foot id := if id ∈ keys then foot id else if id ∈ U then footU id else m.foot id
  sub id := if id ∈ keys then sub id else m.sub id
theorem mut_objs (hok : HeapOK n0 H m w) (hn0 : ∀ b, n0 b → b < w.heap.size) (upd new : List (Nat × Ob)) (gn : List Nat) (val : Nat → Value) (footU foot : Nat → Nat → Prop) (sub : Nat → Nat → Value)
    (hB : BelowK (fun b => b < w.heap.size ∧ ¬ FU H m (upd.map (·.1) ++ gn) b) w w')
    (hupd : ∀ u ob', upd.lookup u = some ob' → ∃ ob, H.lookup u = some ob ∧ ob.like ob' ∧ ob.notLst = true)
    (hhard : ∀ id ob, H.lookup id = some ob → ∀ i ∈ ob.hard, i ∉ gn)
    (hnd : ∀ u, u ∈ upd.map (·.1) → u ∉ new.map (·.1))
    (hids : ∀ id ob, H.lookup id = some ob → ∀ i ∈ ob.ids, i ∉ new.map (·.1))
    (hfoot : ∀ id b, id ∈ new.map (·.1) → foot id b → (FU H m (upd.map (·.1) ++ gn) b ∨ w.heap.size ≤ b) ∧ b < w'.heap.size)
    (hfootU : ∀ id b, id ∈ upd.map (·.1) → footU id b → (m.foot id b ∨ FU H m (upd.map (·.1) ++ gn) b ∨ w.heap.size ≤ b) ∧ b < w'.heap.size)
    (hap : ∀ id id' b, (id ∈ upd.map (·.1) ∨ id ∈ new.map (·.1)) → (id' ∈ upd.map (·.1) ∨ id' ∈ new.map (·.1)) → (m.mut (upd.map (·.1)) (new.map (·.1)) val footU foot sub).foot id b → (m.mut (upd.map (·.1)) (new.map (·.1)) val footU foot sub).foot id' b → id = id')
    (hreach : ∀ id ob b, new.lookup id = some ob → reach (m.mut (upd.map (·.1)) (new.map (·.1)) val footU foot sub) id ob b → foot id b)
    (hrep : Step n0 (new.map (·.1)) gn H m w (upd ++ (new ++ dropL gn H)) (m.mut (upd.map (·.1)) (new.map (·.1)) val footU foot sub) w' → ∀ id ob, (upd.lookup id = some ob ∨ new.lookup id = some ob) → ObRep (upd ++ (new ++ dropL gn H)) (m.mut (upd.map (·.1)) (new.map (·.1)) val footU foot sub) w' id ob) :
    HeapOK n0 (upd ++ (new ++ dropL gn H)) (m.mut (upd.map (·.1)) (new.map (·.1)) val footU foot sub) w' ∧ Step n0 (new.map (·.1)) gn H m w (upd ++ (new ++ dropL gn H)) (m.mut (upd.map (·.1)) (new.map (·.1)) val footU foot sub) w' := by
  generalize hm' : m.mut (upd.map (·.1)) (new.map (·.1)) val footU foot sub = m' at *
  have hval : ∀ id, id ∉ new.map (·.1) → m'.val id = m.val id := fun id hi => by rw [← hm']; simp only [Mem.mut, if_neg hi]
  have hsubs : ∀ id, id ∉ new.map (·.1) → m'.sub id = m.sub id := fun id hi => by rw [← hm']; simp only [Mem.mut, if_neg hi]
  have hf1 : ∀ id, id ∈ new.map (·.1) → m'.foot id = foot id := fun id hi => by rw [← hm']; simp only [Mem.mut, if_pos hi]
  have hf2 : ∀ id, id ∈ upd.map (·.1) → m'.foot id = footU id := fun id hi => by rw [← hm']; simp only [Mem.mut, if_neg (hnd id hi), if_pos hi]
  have hf3 : ∀ id, id ∉ new.map (·.1) → id ∉ upd.map (·.1) → m'.foot id = m.foot id := fun id hi hj => by rw [← hm']; simp only [Mem.mut, if_neg hi, if_neg hj]
  have lkU : ∀ id ob, upd.lookup id = some ob → (upd ++ (new ++ dropL gn H)).lookup id = some ob := fun id ob h => by rw [List.lookup_append, h]; rfl
  have lkN : ∀ id ob, id ∉ upd.map (·.1) → new.lookup id = some ob → (upd ++ (new ++ dropL gn H)).lookup id = some ob := fun id ob hi h => by rw [List.lookup_append, lookup_none hi, Option.none_or, List.lookup_append, h]; rfl
  have lkH0 : ∀ id, id ∉ upd.map (·.1) → id ∉ new.map (·.1) → (upd ++ (new ++ dropL gn H)).lookup id = (dropL gn H).lookup id := fun id hi hj => by rw [List.lookup_append, lookup_none hi, Option.none_or, List.lookup_append, lookup_none hj]; rfl
  have lkH : ∀ id, id ∉ upd.map (·.1) → id ∉ new.map (·.1) → id ∉ gn → (upd ++ (new ++ dropL gn H)).lookup id = H.lookup id := fun id hi hj hg => by rw [lkH0 id hi hj, drop_lookup hg]
  have three : ∀ id ob, (upd ++ (new ++ dropL gn H)).lookup id = some ob → upd.lookup id = some ob ∨ (id ∉ upd.map (·.1) ∧ new.lookup id = some ob) ∨ ((id ∉ upd.map (·.1) ∧ id ∉ gn) ∧ id ∉ new.map (·.1) ∧ H.lookup id = some ob) := by
    intro id ob h
    by_cases hi : id ∈ upd.map (·.1)
    · obtain ⟨o, ho⟩ := lookup_some_of_key hi
      rw [lkU id o ho] at h; cases h; exact .inl ho
    · by_cases hj : id ∈ new.map (·.1)
      · obtain ⟨o, ho⟩ := lookup_some_of_key hj
        rw [lkN id o hi ho] at h; cases h; exact .inr (.inl ⟨hi, ho⟩)
      · by_cases hg : id ∈ gn
        · rw [lkH0 id hi hj, drop_gone hg] at h; cases h
        · rw [lkH id hi hj hg] at h; exact .inr (.inr ⟨⟨hi, hg⟩, hj, h⟩)
  have hUB : ∀ u ob b, u ∈ upd.map (·.1) → H.lookup u = some ob → ob.notLst = true → reach m u ob b → FU H m (upd.map (·.1) ++ gn) b := fun u ob b hu hl hn hr => ⟨u, List.mem_append_left _ hu, ob, hl, hn, hr⟩
  have hS : Step n0 (new.map (·.1)) gn H m w (upd ++ (new ++ dropL gn H)) m' w' := by
    refine ⟨hB.mono (fun b hb => ⟨hn0 b hb, fun hf => ?_⟩), fun b o u hu hav => ?_, fun id hi => hval id hi, fun id hi => hsubs id hi, fun id ob h hi hgi => ?_, fun id h hi => ?_⟩
    · obtain ⟨u, _, ha, hfu⟩ := hf.foot hok
      exact (hok.lo u b ha hfu).1 hb
    · have hlt : b < w.heap.size := World.block_lt_of_cell? w ⟨b, o, none⟩ hu
      have hnf : ¬ FU H m (upd.map (·.1) ++ gn) b := fun hf => hav hf.av
      refine ⟨by rw [World.cell?_of_block (w := w) (a := ⟨b, o, none⟩) (hB.block b ⟨hlt, hnf⟩)]; exact hu, ?_⟩
      rintro ⟨id, ob, hl, hbk, hm⟩
      rcases three id ob hl with h | ⟨_, h⟩ | ⟨h1, h2, h⟩
      · have hk := lookup_keys h
        obtain ⟨ob0, h0, hlike, hnl⟩ := hupd id ob h
        refine hnf (hUB id ob0 b hk h0 hnl ?_)
        cases ob0 with
        | ext p =>
          cases ob <;> first | exact hlike.elim | skip
          have : m'.foot id b := hbk
          rw [hf2 id hk] at this
          rcases (hfootU id b hk this).1 with h | h | h
          · exact h
          · exact absurd h hnf
          · omega
        | lst => cases hnl
        | box xs =>
          cases ob <;> first | exact hlike.elim | skip
          have : Value.blk (m'.val id) = some b := hbk
          rw [hval id (hnd id hk)] at this
          exact this
        | arr d n sz g =>
          cases ob <;> first | exact hlike.elim | skip
          rename_i d' n' sz' g'
          obtain ⟨rfl, _⟩ := hlike
          cases d
          · have : Value.blk (m'.val id) = some b := hbk
            rw [hval id (hnd id hk)] at this
            exact this
          · have : m'.foot id b := hbk
            rw [hf2 id hk] at this
            rcases (hfootU id b hk this).1 with h | h | h
            · exact h
            · exact absurd h hnf
            · omega
      · have hk := lookup_keys h
        have := hreach id ob b h hbk
        rcases (hfoot id b hk this).1 with h | h
        · exact hnf h
        · omega
      · rw [reach_same (m := m) (hval id h2) (hf3 id h2 h1.1)] at hbk
        exact hav ⟨id, ob, h, hbk, hm⟩
    · by_cases hu : id ∈ upd.map (·.1)
      · obtain ⟨o, ho⟩ := lookup_some_of_key hu
        obtain ⟨ob0, h0, hlike, _⟩ := hupd id o ho
        rw [h] at h0; cases h0
        exact ⟨o, lkU id o ho, hlike⟩
      · exact ⟨ob, by rw [lkH id hu hi hgi]; exact h, ob.like_refl⟩
    · obtain ⟨ob, ho⟩ := Option.isSome_iff_exists.1 h
      rcases three id ob ho with h | ⟨_, h⟩ | ⟨_, _, h⟩
      · obtain ⟨ob0, h0, _⟩ := hupd id ob h
        rw [h0]; rfl
      · exact absurd (lookup_keys h) hi
      · rw [h]; rfl
  have hUfoot : ∀ b, FU H m (upd.map (·.1) ++ gn) b → ∃ u ∈ upd.map (·.1) ++ gn, (H.lookup u).isSome = true ∧ m.foot u b := fun b h => h.foot hok
  have old : ∀ id ob b, H.lookup id = some ob → (id ∉ upd.map (·.1) ∧ id ∉ gn) → m.foot id b → ¬ FU H m (upd.map (·.1) ++ gn) b ∧ b < w.heap.size ∧ ¬ n0 b := by
    intro id ob b hl hi hf
    have hlo := hok.lo id b (by rw [hl]; rfl) hf
    refine ⟨fun h => ?_, hlo.2, hlo.1⟩
    obtain ⟨u, hu, ha, hfu⟩ := hUfoot b h
    have e := hok.apart id u b (by rw [hl]; rfl) ha hf hfu
    subst e
    rcases List.mem_append.1 hu with hu | hu
    · exact hi.1 hu
    · exact hi.2 hu
  have alive : ∀ u, u ∈ upd.map (·.1) → (H.lookup u).isSome = true := by
    intro u hu
    obtain ⟨o, ho⟩ := lookup_some_of_key hu
    obtain ⟨ob0, h0, _⟩ := hupd u o ho
    rw [h0]; rfl
  have ours : ∀ id b, (id ∈ upd.map (·.1) ∨ id ∈ new.map (·.1)) → m'.foot id b → ((∃ u ∈ upd.map (·.1) ++ gn, (H.lookup u).isSome = true ∧ m.foot u b) ∨ w.heap.size ≤ b) ∧ b < w'.heap.size := by
    intro id b hi hf
    by_cases hj : id ∈ new.map (·.1)
    · rw [hf1 id hj] at hf
      obtain ⟨h1, h2⟩ := hfoot id b hj hf
      exact ⟨h1.imp (hUfoot b) fun h => h, h2⟩
    · have hi' : id ∈ upd.map (·.1) := hi.resolve_right hj
      rw [hf2 id hi'] at hf
      obtain ⟨h1, h2⟩ := hfootU id b hi' hf
      refine ⟨?_, h2⟩
      rcases h1 with h | h | h
      · exact .inl ⟨id, List.mem_append_left _ hi', alive id hi', h⟩
      · exact .inl (hUfoot b h)
      · exact .inr h
  refine ⟨⟨fun id ob hl => ?_, fun id b ha hf => ?_, fun id id' b ha ha' hf hf' => ?_⟩, hS⟩
  · rcases three id ob hl with h | ⟨_, h⟩ | ⟨h1, h2, h⟩
    · exact hrep hS id ob (.inl h)
    · exact hrep hS id ob (.inr h)
    · refine ObRep.step hS (hval id h2) (fun b => by rw [hf3 id h2 h1.1]) (hsubs id h2) (hids id ob h) (hhard id ob h) (fun b hf => ?_) (hok.ob id ob h)
      obtain ⟨g1, g2, _⟩ := old id ob b h h1 hf
      exact hB.block b ⟨g2, g1⟩
  · obtain ⟨ob, ho⟩ := Option.isSome_iff_exists.1 ha
    have go : (id ∈ upd.map (·.1) ∨ id ∈ new.map (·.1)) → ¬ n0 b ∧ b < w'.heap.size := by
      intro hi
      obtain ⟨h1, h2⟩ := ours id b hi hf
      refine ⟨fun hk => ?_, h2⟩
      rcases h1 with ⟨u, _, hua, huf⟩ | h
      · exact (hok.lo u b hua huf).1 hk
      · have := hn0 b hk; omega
    rcases three id ob ho with h | ⟨_, h⟩ | ⟨h1, h2, h⟩
    · exact go (.inl (lookup_keys h))
    · exact go (.inr (lookup_keys h))
    · rw [hf3 id h2 h1.1] at hf
      obtain ⟨_, g2, g3⟩ := old id ob b h h1 hf
      exact ⟨g3, by have := hB.size; omega⟩
  · obtain ⟨ob, ho⟩ := Option.isSome_iff_exists.1 ha
    obtain ⟨ob', ho'⟩ := Option.isSome_iff_exists.1 ha'
    have dis : ∀ i o, (i ∉ upd.map (·.1) ∧ i ∉ gn) → i ∉ new.map (·.1) → H.lookup i = some o → m'.foot i b → ∀ j, (j ∈ upd.map (·.1) ∨ j ∈ new.map (·.1)) → m'.foot j b → False := by
      intro i o h1 h2 hl hfi j hj hfj
      rw [hf3 i h2 h1.1] at hfi
      rcases (ours j b hj hfj).1 with ⟨u, hu, hua, huf⟩ | h
      · have e := hok.apart i u b (by rw [hl]; rfl) hua hfi huf
        subst e
        rcases List.mem_append.1 hu with hu | hu
        · exact h1.1 hu
        · exact h1.2 hu
      · have := (hok.lo i b (by rw [hl]; rfl) hfi).2; omega
    rcases three id ob ho with h | ⟨_, h⟩ | ⟨h1, h2, h⟩
    · rcases three id' ob' ho' with h' | ⟨_, h'⟩ | ⟨h1', h2', h'⟩
      · exact hap id id' b (.inl (lookup_keys h)) (.inl (lookup_keys h')) hf hf'
      · exact hap id id' b (.inl (lookup_keys h)) (.inr (lookup_keys h')) hf hf'
      · exact (dis id' ob' h1' h2' h' hf' id (.inl (lookup_keys h)) hf).elim
    · rcases three id' ob' ho' with h' | ⟨_, h'⟩ | ⟨h1', h2', h'⟩
      · exact hap id id' b (.inr (lookup_keys h)) (.inl (lookup_keys h')) hf hf'
      · exact hap id id' b (.inr (lookup_keys h)) (.inr (lookup_keys h')) hf hf'
      · exact (dis id' ob' h1' h2' h' hf' id (.inr (lookup_keys h)) hf).elim
    · rcases three id' ob' ho' with h' | ⟨_, h'⟩ | ⟨h1', h2', h'⟩
      · exact (dis id ob h1 h2 h hf id' (.inl (lookup_keys h')) hf').elim
      · exact (dis id ob h1 h2 h hf id' (.inr (lookup_keys h')) hf').elim
      · rw [hf3 id h2 h1.1] at hf; rw [hf3 id' h2' h1'.1] at hf'
        exact hok.apart id id' b (by rw [h]; rfl) (by rw [h']; rfl) hf hf'
end Go.Fw
