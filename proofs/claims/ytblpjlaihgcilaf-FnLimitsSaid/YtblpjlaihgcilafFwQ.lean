
import Derived.Test.YtblpjlaihgcilafFwU
namespace Go.Fw
open Go Go.RowKit
def entC (id : Nat) : MC → X × List (Nat × Ob)
  | .ro c => (.c c, [])
  | .mu (.seq n sz g) _ => (.arr id, [(id, .arr true n sz g)])
  | .mu c _ => (.c c, [])
  | .mv (.seq n sz g) => (.arr id, [(id, .arr true n sz g)])
  | .mv c => (.c c, [])
def entCs : Nat → List MC → List X × List (Nat × Ob)
  | _, [] => ([], [])
  | id, c :: cs =>
    let x := entC id c
    let r := entCs (id + x.2.length) cs
    (x.1 :: r.1, x.2 ++ r.2)
def fxs (id : Nat) : Nat → List BC → List X → List X
  | j, c :: cs, x :: xs => (match c with
    | .mu _ _ => x
    | .ro a => .fx id j a
    | .set a _ => .fx id j a) :: fxs id (j + 1) cs xs
  | _, _, _ => []
def entT (id : Nat) : MT → AV × List (Nat × Ob)
  | .one c => let x := entC id c; (.v (.one x.1), x.2)
  | .agg cs => let r := entCs id cs; (.v (.agg r.1), r.2)
  | .box m _ get _ => (.v (.one (.ptr id 0)), [(id, .box ((List.range m).map fun j => .fx id j (get j)))])
  | .boxm cs => let r := entCs (id + 1) (cs.map BC.mc); (.v (.one (.ptr id 0)), (id, .box (fxs id 0 cs r.1)) :: r.2)
  | .ext _ _ => (.undef, [])
def entTs : Nat → Nat → List MT → List (Nat × AV) × List (Nat × Ob)
  | _, _, [] => ([], [])
  | k, id, t :: ts =>
    let x := entT id t
    let r := entTs (k + 1) (id + x.2.length) ts
    ((k, x.1) :: r.1, x.2 ++ r.2)
def okMC : MC → Bool
  | .ro _ => true
  | .mu (.seq _ _ _) _ => true
  | .mu _ _ => false
  | .mv (.seq _ _ _) => true
  | .mv _ => false
def muC (id : Nat) : MC → List Nat
  | .mu _ _ => [id]
  | _ => []
def muCs : Nat → List MC → List Nat
  | _, [] => []
  | id, c :: cs => muC id c ++ muCs (id + (entC id c).2.length) cs
def muT (id : Nat) : MT → List Nat
  | .one c => muC id c
  | .agg cs => muCs id cs
  | .box _ _ _ _ => [id]
  | .boxm cs => id :: muCs (id + 1) (cs.map BC.mc)
  | .ext _ _ => []
def muTs : Nat → List MT → List Nat
  | _, [] => []
  | id, t :: ts => muT id t ++ muTs (id + (entT id t).2.length) ts
def okMT : MT → Bool
  | .one c => okMC c
  | .agg cs => cs.all okMC
  | .box _ _ _ _ => true
  | .boxm cs => (cs.map BC.mc).all okMC
  | .ext _ _ => false
structure Gv where
  id : Nat
  i : Nat
  j : Nat
  ob : Ob
  v : Value
  F : Nat → Prop
  sub : Nat → Value
  mv : Bool := false
def GvOK (w : World) (av : Av) (F : Nat → Nat → Nat → Prop) (G : List Gv) (g : Gv) : Prop :=
  g.F = F g.i g.j ∧ match g.ob with
  | .arr d n sz gt => d = true ∧ OwnC w (.seq n sz gt) g.F g.v ∧ g.sub = subOf w g.v
  | .box xs => ∃ b cur E, g.v = .pointer (some ⟨b, 0, none⟩) ∧ w.heap[b]? = some (.cells cur E (0, 0)) ∧ cur.size = xs.length ∧ g.F b ∧ ∀ (j : Nat) (x : X), xs[j]? = some x → ∃ u, cur[j]? = some u ∧ ((∃ c, x = .fx g.id j c ∧ g.sub j = u ∧ CRep w av c u) ∨ ∃ g' ∈ G, x = .arr g'.id ∧ u = g'.v ∧ ∃ n sz gt, g'.ob = .arr true n sz gt)
  | .lst _ _ _ => False
  | .ext _ => False
theorem GvOK.mono {w : World} {av : Av} {F : Nat → Nat → Nat → Prop} {G G' : List Gv} {g : Gv} (hs : ∀ x ∈ G, x ∈ G') (h : GvOK w av F G g) : GvOK w av F G' g := by
  obtain ⟨h1, h2⟩ := h
  refine ⟨h1, ?_⟩
  cases ho : g.ob with
  | ext p => rw [ho] at h2; exact h2
  | arr d n sz gt => rw [ho] at h2; exact h2
  | lst n sz gt => rw [ho] at h2; exact h2
  | box xs =>
    rw [ho] at h2
    obtain ⟨b, cur, E, q1, q2, q3, q4, q5⟩ := h2
    refine ⟨b, cur, E, q1, q2, q3, q4, fun j x hj => ?_⟩
    obtain ⟨u, r1, r2⟩ := q5 j x hj
    exact ⟨u, r1, r2.imp id fun ⟨g', k1, k2⟩ => ⟨g', hs g' k1, k2⟩⟩
/-! ### The end -/
def retC (Hs : Nat → Option Ob) (id : Nat) : MC → Prop
  | .mu (.seq n0 sz0 _) c' => match Hs id with
    | some (.arr true n sz g) => n = n0 ∧ sz = sz0 ∧ c' = .seq n sz g
    | _ => False
  | _ => True
def retCs (Hs : Nat → Option Ob) : Nat → List MC → Prop
  | _, [] => True
  | id, c :: cs => retC Hs id c ∧ retCs Hs (id + (entC id c).2.length) cs
def retB (keep : Nat → Bool) (get' : Nat → C) (id : Nat) : Nat → List X → Prop
  | _, [] => True
  | j, y :: ys => (match keep j with
    | true => (match y with | .fx id' j' _ => id' = id ∧ j' = j | _ => False)
    | false => (match y with | .c d => get' j = d ∧ isScal d = true | .fx _ _ d => get' j = d ∧ isScal d = true | _ => False)) ∧ retB keep get' id (j + 1) ys
def retBB (id : Nat) : Nat → List X → List BC → List X → Prop
  | _, [], [], [] => True
  | j, y :: ys, c :: cs, x :: xs => (match c with
    | .ro _ => (match y with | .fx id' j' _ => id' = id ∧ j' = j | _ => False)
    | .set _ c' => (match y with | .c d => c' = d ∧ isScal d = true | .fx _ _ d => c' = d ∧ isScal d = true | _ => False)
    | .mu _ _ => (match y, x with | .arr n, .arr n' => n = n' | _, _ => False)) ∧ retBB id (j + 1) ys cs xs
  | _, _, _, _ => False
def retT (Hs : Nat → Option Ob) (id : Nat) : MT → Prop
  | .one c => retC Hs id c
  | .agg cs => retCs Hs id cs
  | .box m keep _ get' => match Hs id with
    | some (.box ys) => ys.length = m ∧ retB keep get' id 0 ys
    | _ => False
  | .boxm cs => match Hs id with
    | some (.box ys) => retCs Hs (id + 1) (cs.map BC.mc) ∧ retBB id 0 ys cs (entCs (id + 1) (cs.map BC.mc)).1
    | _ => False
  | .ext _ _ => False
def retTs (Hs : Nat → Option Ob) : Nat → List MT → Prop
  | _, [] => True
  | id, t :: ts => retT Hs id t ∧ retTs Hs (id + (entT id t).2.length) ts
variable {w w' : World} {av : Av} {K : Nat → Prop} {H' : List (Nat × Ob)} {m' : Mem}
def EndOK (K : Nat → Prop) (H' : List (Nat × Ob)) (m' : Mem) (w' : World) (G : List Gv) : Prop :=
  HeapOK K H' m' w' ∧ ∀ g ∈ G, m'.val g.id = g.v ∧ m'.sub g.id = g.sub
theorem entC_spec {F : Nat → Nat → Nat → Prop} {id i j : Nat} {c : MC} {v : Value} (hc : okMC c = true) (hr : MCRep w av (F i j) c v) :
    ∃ G : List Gv, G.map (fun g => (g.id, g.ob)) = (entC id c).2 ∧ (∀ g ∈ G, GvOK w av F [] g ∧ g.i = i ∧ g.j = j ∧ g.id = id) ∧ (G.length ≤ 1 ∧ ∀ n, (entC id c).1 = .arr n → ∃ g ∈ G, g.id = n ∧ g.v = v ∧ ∃ n sz gt, g.ob = .arr true n sz gt) ∧
      (∀ H m, (∀ g ∈ G, H.lookup g.id = some g.ob ∧ m.val g.id = g.v) → (∀ b o, b < w.heap.size → avOf H m b o → av b o) → XRep H m w (entC id c).1 v) ∧
      ∀ K H' m' w', EndOK K H' m' w' G → retC (fun i => H'.lookup i) id c → (∀ g ∈ G, g.mv = false → (H'.lookup g.id).isSome = true ∧ g.id ∈ muC id c) ∧ MCPost w w' (fun b => ∃ g ∈ G, g.mv = false ∧ m'.foot g.id b) c v := by
  cases c with
  | ro c => exact ⟨[], rfl, by simp, ⟨by simp, fun n e => by simp [entC] at e⟩, fun H m _ hav => CRep.avoid hav hr, fun _ _ _ _ _ _ => ⟨by simp, trivial⟩⟩
  | mv c =>
    cases c <;> simp [okMC] at hc
    rename_i n sz g
    refine ⟨[{ id := id, i := i, j := j, ob := .arr true n sz g, v := v, F := F i j, sub := subOf w v, mv := true }], rfl, fun g hg => ?_, ⟨by simp, fun n' e => ⟨_, List.mem_singleton.2 rfl, by simpa [entC] using e, rfl, _, _, _, rfl⟩⟩, fun H m hG _ => ?_, fun K H' m' w' hE hret => ⟨fun g hg hm => ?_, trivial⟩⟩
    · simp at hg; subst hg
      exact ⟨⟨rfl, rfl, hr, rfl⟩, rfl, rfl, rfl⟩
    · obtain ⟨h1, h2⟩ := hG _ (List.mem_singleton.2 rfl)
      exact ⟨by rw [h1]; rfl, by rw [h1]; trivial, h2.symm⟩
    · simp at hg; subst hg; cases hm
  | mu c c' =>
    cases c <;> simp [okMC] at hc
    rename_i n sz g
    refine ⟨[{ id := id, i := i, j := j, ob := .arr true n sz g, v := v, F := F i j, sub := subOf w v }], rfl, fun g hg => ?_, ⟨by simp, fun n' e => ⟨_, List.mem_singleton.2 rfl, by simpa [entC] using e, rfl, _, _, _, rfl⟩⟩, fun H m hG _ => ?_, fun K H' m' w' hE hret => ?_⟩
    · simp at hg; subst hg
      exact ⟨⟨rfl, rfl, hr, rfl⟩, rfl, rfl, rfl⟩
    · obtain ⟨h1, h2⟩ := hG _ (List.mem_singleton.2 rfl)
      exact ⟨by rw [h1]; rfl, by rw [h1]; trivial, h2.symm⟩
    · obtain ⟨hok, hg⟩ := hE
      obtain ⟨h1, h2⟩ := hg _ (List.mem_singleton.2 rfl)
      simp only [retC] at hret
      split at hret
      · rename_i n1 sz1 g1 hl
        obtain ⟨rfl, rfl, rfl⟩ := hret
        have hob := hok.ob id _ hl
        simp only at h1 h2
        have hfe : (fun b => ∃ g' ∈ [({ id := id, i := i, j := j, ob := .arr true n1 sz1 g, v := v, F := F i j, sub := subOf w v } : Gv)], g'.mv = false ∧ m'.foot g'.id b) = m'.foot id := by
          funext b; simp
        rw [hfe]
        refine ⟨fun g' hg' _ => ?_, ?_⟩
        · simp at hg'; subst hg'; exact ⟨by rw [hl]; rfl, by simp [muC]⟩
        have hown : OwnC w' (.seq n1 sz1 g1) (m'.foot id) (m'.val id) := hob.1
        rw [h1] at hown
        refine ⟨hown, fun b a e hb ha he hs => ?_⟩
        obtain ⟨b2, q1, q2⟩ := hob.2 rfl a e ha he hs
        rw [h1, hb] at q1
        cases q1
        rw [q2, h2]
        have hr' : OwnC w (.seq n1 sz1 g) (F i j) v := hr
        obtain ⟨b3, q3, q4⟩ := own_subs hr' a e ha he
        rw [hb] at q3; cases q3
        rw [q4]
      · exact hret.elim
theorem entCs_spec {F : Nat → Nat → Nat → Prop} {i : Nat} : ∀ {cs : List MC} {id j : Nat} {vs : List Value}, cs.all okMC = true → vs.length = cs.length → (∀ (k : Nat) (c : MC), cs[k]? = some c → ∃ u, vs[k]? = some u ∧ MCRep w av (F i (j + k)) c u) →
    ∃ G : List Gv, G.map (fun g => (g.id, g.ob)) = (entCs id cs).2 ∧ (∀ g ∈ G, GvOK w av F [] g ∧ g.i = i ∧ j ≤ g.j) ∧ ((∀ g ∈ G, ∀ g' ∈ G, g.j = g'.j → g = g') ∧ (entCs id cs).1.length = cs.length ∧ ∀ (k n : Nat), (entCs id cs).1[k]? = some (.arr n) → ∃ g ∈ G, g.id = n ∧ vs[k]? = some g.v ∧ ∃ n sz gt, g.ob = .arr true n sz gt) ∧
      (∀ H m, (∀ g ∈ G, H.lookup g.id = some g.ob ∧ m.val g.id = g.v) → (∀ b o, b < w.heap.size → avOf H m b o → av b o) → (entCs id cs).1.length = cs.length ∧ ∀ (k : Nat) (x : X), (entCs id cs).1[k]? = some x → ∃ u, vs[k]? = some u ∧ XRep H m w x u) ∧
      ∀ K H' m' w', EndOK K H' m' w' G → retCs (fun i => H'.lookup i) id cs → (∀ g ∈ G, g.mv = false → (H'.lookup g.id).isSome = true ∧ g.id ∈ muCs id cs) ∧ ∀ (k : Nat) (c : MC), cs[k]? = some c → ∀ u, vs[k]? = some u → MCPost w w' (fun b => ∃ g ∈ G, g.mv = false ∧ g.j = j + k ∧ m'.foot g.id b) c u := by
  intro cs
  induction cs with
  | nil => intro id j vs _ _ _; exact ⟨[], rfl, by simp, ⟨by simp, rfl, fun k n h => by simp [entCs] at h⟩, fun H m _ _ => ⟨rfl, fun k x h => by simp [entCs] at h⟩, fun _ _ _ _ _ _ => ⟨by simp, fun k c h => by simp at h⟩⟩
  | cons c cs ih =>
    intro id j vs hok hl hr
    cases vs with
    | nil => simp at hl
    | cons v vs =>
      simp only [List.all_cons, Bool.and_eq_true] at hok
      obtain ⟨u, hu, hx⟩ := hr 0 c rfl
      simp at hu; subst hu
      obtain ⟨G1, a1, a2, ⟨a3, a6⟩, a4, a5⟩ := entC_spec (id := id) (i := i) (j := j) hok.1 (by simpa using hx)
      obtain ⟨G2, b1, b2, ⟨b3, b6, b7⟩, b4, b5⟩ := ih (id := id + (entC id c).2.length) (j := j + 1) (vs := vs) hok.2 (by simpa using hl) (fun k c' hk => by
        obtain ⟨u, hu, hr'⟩ := hr (k + 1) c' (by simpa using hk)
        refine ⟨u, by simpa using hu, ?_⟩
        rw [show j + 1 + k = j + (k + 1) by omega]; exact hr')
      have fj : ∀ g ∈ G1, g.j = j := fun g hg => (a2 g hg).2.2.1
      have fk : ∀ g ∈ G2, j + 1 ≤ g.j := fun g hg => (b2 g hg).2.2
      refine ⟨G1 ++ G2, by simp only [List.map_append, a1, b1, entCs], fun g hg => ?_, ⟨fun g hg g' hg' e => ?_, by simp [entCs, b6], fun k n hk => by
        cases k with
        | zero =>
          obtain ⟨g, q1, q2, q3, q4⟩ := a6 n (by simpa [entCs] using hk)
          exact ⟨g, List.mem_append_left _ q1, q2, by simp [q3], q4⟩
        | succ k =>
          obtain ⟨g, q1, q2, q3, q4⟩ := b7 k n (by simpa [entCs] using hk)
          exact ⟨g, List.mem_append_right _ q1, q2, by simpa using q3, q4⟩⟩, fun H m hG hav => ?_, fun K H' m' w' hE hret => ⟨fun g hg hm => ?_, fun k c' hk u hu => ?_⟩⟩
      · rcases List.mem_append.1 hg with hg | hg
        · obtain ⟨h1, h2, h3, _⟩ := a2 g hg; exact ⟨h1, h2, by omega⟩
        · obtain ⟨h1, h2, h3⟩ := b2 g hg; exact ⟨h1, h2, by omega⟩
      · rcases List.mem_append.1 hg with hg | hg <;> rcases List.mem_append.1 hg' with hg' | hg'
        · match G1, a3, hg, hg' with
          | [q], _, hg, hg' => simp at hg hg'; rw [hg, hg']
        · have := fj g hg; have := fk g' hg'; omega
        · have := fj g' hg'; have := fk g hg; omega
        · exact b3 g hg g' hg' e
      · have h1 := a4 H m (fun g hg => hG g (List.mem_append_left _ hg)) hav
        obtain ⟨h2, h3⟩ := b4 H m (fun g hg => hG g (List.mem_append_right _ hg)) hav
        refine ⟨by simp [entCs, h2], fun k x hk => ?_⟩
        cases k with
        | zero => simp [entCs] at hk; subst hk; exact ⟨v, rfl, h1⟩
        | succ k =>
          obtain ⟨u, hu, hr'⟩ := h3 k x (by simpa [entCs] using hk)
          exact ⟨u, by simpa using hu, hr'⟩
      · rcases List.mem_append.1 hg with hg | hg
        · obtain ⟨q1, q2⟩ := (a5 K H' m' w' ⟨hE.1, fun g hg => hE.2 g (List.mem_append_left _ hg)⟩ hret.1).1 g hg hm
          exact ⟨q1, List.mem_append_left _ q2⟩
        · obtain ⟨q1, q2⟩ := (b5 K H' m' w' ⟨hE.1, fun g hg => hE.2 g (List.mem_append_right _ hg)⟩ hret.2).1 g hg hm
          exact ⟨q1, List.mem_append_right _ q2⟩
      · cases k with
        | zero =>
          simp at hk hu; subst hk; subst hu
          have := (a5 K H' m' w' ⟨hE.1, fun g hg => hE.2 g (List.mem_append_left _ hg)⟩ hret.1).2
          have e : (fun b => ∃ g ∈ G1 ++ G2, g.mv = false ∧ g.j = j + 0 ∧ m'.foot g.id b) = fun b => ∃ g ∈ G1, g.mv = false ∧ m'.foot g.id b := by
            funext b; apply propext
            constructor
            · rintro ⟨g, hg, hm, hj, hf⟩
              rcases List.mem_append.1 hg with hg | hg
              · exact ⟨g, hg, hm, hf⟩
              · have := fk g hg; omega
            · rintro ⟨g, hg, hm, hf⟩
              exact ⟨g, List.mem_append_left _ hg, hm, fj g hg, hf⟩
          rw [e]; exact this
        | succ k =>
          have := (b5 K H' m' w' ⟨hE.1, fun g hg => hE.2 g (List.mem_append_right _ hg)⟩ hret.2).2 k c' (by simpa using hk) u (by simpa using hu)
          have e : (fun b => ∃ g ∈ G1 ++ G2, g.mv = false ∧ g.j = j + (k + 1) ∧ m'.foot g.id b) = fun b => ∃ g ∈ G2, g.mv = false ∧ g.j = j + 1 + k ∧ m'.foot g.id b := by
            funext b; apply propext
            constructor
            · rintro ⟨g, hg, hm, hj, hf⟩
              rcases List.mem_append.1 hg with hg | hg
              · have := fj g hg; omega
              · exact ⟨g, hg, hm, by omega, hf⟩
            · rintro ⟨g, hg, hm, hj, hf⟩
              exact ⟨g, List.mem_append_right _ hg, hm, by omega, hf⟩
          rw [e]; exact this
theorem retB_spec (keep : Nat → Bool) (get' : Nat → C) (id : Nat) : ∀ (ys : List X) (k : Nat), retB keep get' id k ys → ∀ (j : Nat) (y : X), ys[j]? = some y → (keep (k + j) = true ∧ ∃ c, y = .fx id (k + j) c) ∨ (keep (k + j) = false ∧ (y = .c (get' (k + j)) ∨ ∃ a b, y = .fx a b (get' (k + j))) ∧ isScal (get' (k + j)) = true)
  | [], _, _, j, y, h => by simp at h
  | x :: ys, k, h, 0, y, hy => by
    simp at hy; subst hy
    have h1 := h.1
    cases hk : keep k <;> rw [hk] at h1 <;> cases x <;> simp at h1
    · exact .inr ⟨by simp, .inl (by simp [h1.1]), by rw [Nat.add_zero, h1.1]; exact h1.2⟩
    · exact .inr ⟨by simp, .inr ⟨_, _, by rw [Nat.add_zero, h1.1]⟩, by rw [Nat.add_zero, h1.1]; exact h1.2⟩
    · obtain ⟨rfl, rfl⟩ := h1
      exact .inl ⟨by simp, _, rfl⟩
  | x :: ys, k, h, j + 1, y, hy => by
    have := retB_spec keep get' id ys (k + 1) h.2 j y (by simpa using hy)
    rw [show k + 1 + j = k + (j + 1) by omega] at this
    exact this
theorem retBB_spec (id : Nat) : ∀ (ys : List X) (cs : List BC) (xs : List X) (k : Nat), retBB id k ys cs xs → ∀ (j : Nat) (c : BC), cs[j]? = some c → ∃ y x, ys[j]? = some y ∧ xs[j]? = some x ∧ match c with
    | .ro _ => ∃ c0, y = .fx id (k + j) c0
    | .set _ c' => (y = .c c' ∨ ∃ a b, y = .fx a b c') ∧ isScal c' = true
    | .mu _ _ => ∃ n, y = .arr n ∧ x = .arr n
  | [], [], [], k, _, j, c, hj => by simp at hj
  | y :: ys, c :: cs, x :: xs, k, h, 0, c', hj => by
    simp at hj; subst hj
    refine ⟨y, x, rfl, rfl, ?_⟩
    have h1 := h.1
    cases c with
    | ro a => cases y <;> simp at h1; obtain ⟨rfl, rfl⟩ := h1; exact ⟨_, rfl⟩
    | set a c' =>
      cases y <;> simp at h1
      · obtain ⟨rfl, h⟩ := h1; exact ⟨.inl rfl, h⟩
      · obtain ⟨rfl, h⟩ := h1; exact ⟨.inr ⟨_, _, rfl⟩, h⟩
    | mu a c' => cases y <;> cases x <;> simp at h1; subst h1; exact ⟨_, rfl, rfl⟩
  | y :: ys, c :: cs, x :: xs, k, h, j + 1, c', hj => by
    obtain ⟨y', x', h1, h2, h3⟩ := retBB_spec id ys cs xs (k + 1) h.2 j c' (by simpa using hj)
    rw [show k + 1 + j = k + (j + 1) by omega] at h3
    exact ⟨y', x', by simpa using h1, by simpa using h2, h3⟩
  | [], [], _ :: _, _, h, _, _, _ => h.elim
  | [], _ :: _, _, _, h, _, _, _ => h.elim
  | _ :: _, [], _, _, h, _, _, _ => h.elim
  | _ :: _, _ :: _, [], _, h, _, _, _ => h.elim
theorem retBB_length (id : Nat) : ∀ (ys : List X) (cs : List BC) (xs : List X) (k : Nat), retBB id k ys cs xs → ys.length = cs.length
  | [], [], [], _, _ => rfl
  | y :: ys, c :: cs, x :: xs, k, h => by simp [retBB_length id ys cs xs (k + 1) h.2]
  | [], [], _ :: _, _, h => h.elim
  | [], _ :: _, _, _, h => h.elim
  | _ :: _, [], _, _, h => h.elim
  | _ :: _, _ :: _, [], _, h => h.elim
theorem fxs_length (id : Nat) : ∀ (k : Nat) (cs : List BC) (xs : List X), xs.length = cs.length → (fxs id k cs xs).length = cs.length
  | _, [], [], _ => rfl
  | _, [], _ :: _, h => by simp at h
  | _, _ :: _, [], h => by simp at h
  | k, c :: cs, x :: xs, h => by simp [fxs, fxs_length id (k + 1) cs xs (by simpa using h)]
theorem fxs_get (id : Nat) : ∀ (cs : List BC) (xs : List X) (k j : Nat) (y : X), (fxs id k cs xs)[j]? = some y → ∃ c x, cs[j]? = some c ∧ xs[j]? = some x ∧ match c with
    | .mu _ _ => y = x
    | .ro a => y = .fx id (k + j) a
    | .set a _ => y = .fx id (k + j) a
  | [], _, k, j, y, h => by simp [fxs] at h
  | _ :: _, [], k, j, y, h => by simp [fxs] at h
  | c :: cs, x :: xs, k, 0, y, h => by
    simp only [fxs, List.getElem?_cons_zero, Option.some.injEq] at h
    refine ⟨c, x, rfl, rfl, ?_⟩
    cases c <;> exact h.symm
  | c :: cs, x :: xs, k, j + 1, y, h => by
    obtain ⟨c', x', h1, h2, h3⟩ := fxs_get id cs xs (k + 1) j y (by simpa [fxs] using h)
    rw [show k + 1 + j = k + (j + 1) by omega] at h3
    exact ⟨c', x', by simpa using h1, by simpa using h2, h3⟩
theorem entCs_mu : ∀ (cs : List MC) (id j : Nat) (a c' : C), cs[j]? = some (.mu a c') → okMC (.mu a c') = true → ∃ n, (entCs id cs).1[j]? = some (.arr n)
  | [], _, _, _, _, h, _ => by simp at h
  | c :: cs, id, 0, a, c', h, hk => by
    simp at h; subst h
    cases a <;> simp [okMC] at hk
    exact ⟨id, rfl⟩
  | c :: cs, id, j + 1, a, c', h, hk => by
    obtain ⟨n, hn⟩ := entCs_mu cs (id + (entC id c).2.length) j a c' (by simpa using h) hk
    exact ⟨n, by simpa [entCs] using hn⟩
theorem scal_own {c : C} {v : Value} {w : World} {av : Av} (h : isScal c = true) (hr : CRep w av c v) : OwnC w c (fun _ => False) v := by
  cases c <;> simp [isScal] at h <;> exact hr
theorem entT_spec {F : Nat → Nat → Nat → Prop} {id i : Nat} {t : MT} {v : Value} (hok : okMT t = true) (hr : MTRep w av (F i) t v) :
    ∃ G : List Gv, G.map (fun g => (g.id, g.ob)) = (entT id t).2 ∧ (∀ g ∈ G, GvOK w av F G g ∧ g.i = i) ∧ (∀ g ∈ G, ∀ g' ∈ G, g.j = g'.j → g = g') ∧
      (∀ H m, (∀ g ∈ G, H.lookup g.id = some g.ob ∧ m.val g.id = g.v) → (∀ b o, b < w.heap.size → avOf H m b o → av b o) → AVRep H m w (entT id t).1 v) ∧
      ∀ K H' m' w', EndOK K H' m' w' G → retT (fun i => H'.lookup i) id t → (∀ g ∈ G, g.mv = false → (H'.lookup g.id).isSome = true ∧ g.id ∈ muT id t) ∧ MTPost w w' (fun j b => ∃ g ∈ G, g.mv = false ∧ g.j = j ∧ m'.foot g.id b) t v := by
  cases t with
  | one c =>
    obtain ⟨G, a1, a2, ⟨a3, _⟩, a4, a5⟩ := entC_spec (id := id) (i := i) (j := 0) hok hr
    refine ⟨G, a1, fun g hg => ⟨(a2 g hg).1.mono (by simp), (a2 g hg).2.1⟩, fun g hg g' hg' _ => ?_, fun H m hG hav => a4 H m hG hav, fun K H' m' w' hE hret => ?_⟩
    · match G, a3, hg, hg' with
      | [q], _, hg, hg' => simp at hg hg'; rw [hg, hg']
    · have := a5 K H' m' w' hE hret
      have e : (fun b => ∃ g ∈ G, g.mv = false ∧ g.j = 0 ∧ m'.foot g.id b) = fun b => ∃ g ∈ G, g.mv = false ∧ m'.foot g.id b := by
        funext b; apply propext
        exact ⟨fun ⟨g, hg, hm, _, hf⟩ => ⟨g, hg, hm, hf⟩, fun ⟨g, hg, hm, hf⟩ => ⟨g, hg, hm, (a2 g hg).2.2.1, hf⟩⟩
      refine ⟨this.1, ?_⟩
      show MCPost w w' (fun b => ∃ g ∈ G, g.mv = false ∧ g.j = 0 ∧ m'.foot g.id b) c v
      rw [e]; exact this.2
  | agg cs =>
    obtain ⟨vs, rfl, h1, h2⟩ := hr
    obtain ⟨G, a1, a2, ⟨a3, _⟩, a4, a5⟩ := entCs_spec (w := w) (av := av) (F := F) (i := i) (id := id) (j := 0) (vs := vs.toList) hok (by simpa using h1) (fun k c hk => by
      rw [Nat.zero_add]; simpa using h2 k c hk)
    refine ⟨G, a1, fun g hg => ⟨(a2 g hg).1.mono (by simp), (a2 g hg).2.1⟩, a3, fun H m hG hav => ?_, fun K H' m' w' hE hret => ?_⟩
    · obtain ⟨h3, h4⟩ := a4 H m hG hav
      exact ⟨vs, rfl, by omega, fun j x hj => by simpa using h4 j x hj⟩
    · refine ⟨(a5 K H' m' w' hE hret).1, ?_⟩
      intro vs' e j c hj u hu
      cases e
      have := (a5 K H' m' w' hE hret).2 j c hj u (by simpa using hu)
      simpa using this
  | box k keep get get' =>
    obtain ⟨b, cur, E, rfl, hb, hcs, hFb, hx⟩ := hr
    refine ⟨[{ id := id, i := i, j := 0, ob := .box ((List.range k).map fun j => .fx id j (get j)), v := .pointer (some ⟨b, 0, none⟩), F := F i 0, sub := fun j => (cur[j]?).getD undef }], rfl, fun g hg => ?_, fun g hg g' hg' _ => ?_, fun H m hG hav => ?_, fun K H' m' w' hE hret => ?_⟩
    · simp at hg; subst hg
      refine ⟨⟨rfl, b, cur, E, rfl, hb, by simpa using hcs, hFb, fun j x hj => ?_⟩, rfl⟩
      rw [List.getElem?_map] at hj
      simp only [Option.map_eq_some_iff] at hj
      obtain ⟨q, hq, rfl⟩ := hj
      have hjk : j < k := by have := (List.getElem?_eq_some_iff.1 hq).1; simpa using this
      have : q = j := by simp [hjk] at hq; exact hq.symm
      subst this
      obtain ⟨u, hu, hr'⟩ := hx q hjk
      exact ⟨u, hu, .inl ⟨get q, rfl, by simp [hu], hr'⟩⟩
    · simp at hg hg'; rw [hg, hg']
    · obtain ⟨h1, h2⟩ := hG _ (List.mem_singleton.2 rfl)
      exact ⟨by rw [h1]; rfl, b, h2, rfl⟩
    · obtain ⟨hok', hg⟩ := hE
      obtain ⟨h1, h2⟩ := hg _ (List.mem_singleton.2 rfl)
      simp only at h1 h2
      simp only [retT] at hret
      split at hret
      · rename_i ys hl
        obtain ⟨hlen, hret⟩ := hret
        obtain ⟨b', cur', E', q1, q2, q3, q4, q5⟩ := hok'.ob id _ hl
        rw [h1] at q1; cases q1
        refine ⟨fun g' hg' _ => ?_, ?_⟩
        · simp at hg'; subst hg'; exact ⟨by rw [hl]; rfl, by simp [muT]⟩
        intro b2 e
        cases e
        refine ⟨⟨_, List.mem_singleton.2 rfl, rfl, rfl, q4⟩, cur, cur', E, E', hb, q2, by omega, fun j hj => ?_⟩
        have hjy : j < ys.length := by omega
        obtain ⟨u, hu, hxr⟩ := q5 j ys[j] (List.getElem?_eq_getElem hjy)
        have hy := retB_spec keep get' id ys 0 hret j ys[j] (List.getElem?_eq_getElem hjy)
        rw [Nat.zero_add] at hy
        refine ⟨fun hk => ?_, fun hk => ?_⟩
        · rcases hy with ⟨_, c, e⟩ | ⟨e, _⟩
          · rw [e] at hxr
            obtain ⟨e2, _⟩ := hxr
            rw [h2] at e2
            rw [hu, e2]
            obtain ⟨u0, hu0, _⟩ := hx j hj
            simp [hu0]
          · rw [hk] at e; cases e
        · rcases hy with ⟨e, _⟩ | ⟨_, e, hs⟩
          · rw [hk] at e; cases e
          · rcases e with e | ⟨_, _, e⟩
            · rw [e] at hxr
              exact ⟨u, hu, scal_own hs hxr⟩
            · rw [e] at hxr
              exact ⟨u, hu, scal_own hs hxr.2⟩
      · exact hret.elim
  | ext p p' => cases hok
  | boxm cs =>
    obtain ⟨b, cur, E, rfl, hb, hcs, hFb, hx⟩ := hr
    have hlm : (cs.map BC.mc).length = cs.length := List.length_map _
    obtain ⟨G, a1, a2, ⟨a3, a6, a7⟩, a4, a5⟩ := entCs_spec (w := w) (av := av) (F := F) (i := i) (cs := cs.map BC.mc) (id := id + 1) (j := 1) (vs := cur.toList) hok (by simpa using hcs) (fun k c hk => by
      rw [List.getElem?_map] at hk
      simp only [Option.map_eq_some_iff] at hk
      obtain ⟨c0, hk, rfl⟩ := hk
      rw [Nat.add_comm 1 k]; simpa using hx k c0 hk)
    have hge : ∀ g ∈ G, 1 ≤ g.j := fun g hg => (a2 g hg).2.2
    refine ⟨{ id := id, i := i, j := 0, ob := .box (fxs id 0 cs (entCs (id + 1) (cs.map BC.mc)).1), v := .pointer (some ⟨b, 0, none⟩), F := F i 0, sub := fun j => (cur[j]?).getD undef } :: G, by simp only [List.map_cons, a1, entT], fun g hg => ?_, fun g hg g' hg' e => ?_, fun H m hG hav => ?_, fun K H' m' w' hE hret => ?_⟩
    · rcases List.mem_cons.1 hg with rfl | hg
      · refine ⟨⟨rfl, b, cur, E, rfl, hb, by rw [fxs_length id 0 cs _ (by omega)]; exact hcs, hFb, fun j x hj => ?_⟩, rfl⟩
        obtain ⟨c, x0, k1, k2, k3⟩ := fxs_get id cs _ 0 j x hj
        obtain ⟨u, hu, hm⟩ := hx j c k1
        refine ⟨u, hu, ?_⟩
        rw [Nat.zero_add] at k3
        cases c with
        | ro a => exact .inl ⟨a, k3, by simp [hu], hm⟩
        | set a c' => exact .inl ⟨a, k3, by simp [hu], hm⟩
        | mu a c' =>
          have k3 : x = x0 := k3
          have hsq : okMC (.mu a c') = true := List.all_eq_true.1 hok _ (List.mem_map.2 ⟨_, List.mem_of_getElem? k1, rfl⟩)
          obtain ⟨n, hn⟩ := entCs_mu (cs.map BC.mc) (id + 1) j a c' (by rw [List.getElem?_map, k1]; rfl) hsq
          rw [k2] at hn
          cases hn
          obtain ⟨g', r1, r2, r3, r4⟩ := a7 j n k2
          refine .inr ⟨g', List.mem_cons_of_mem _ r1, by rw [k3, r2], ?_, r4⟩
          have : cur[j]? = some g'.v := by simpa using r3
          rw [hu] at this
          exact Option.some.inj this
      · exact ⟨(a2 g hg).1.mono (by simp), (a2 g hg).2.1⟩
    · rcases List.mem_cons.1 hg with rfl | hg <;> rcases List.mem_cons.1 hg' with rfl | hg'
      · rfl
      · have := hge g' hg'; simp only at e; omega
      · have := hge g hg; simp only at e; omega
      · exact a3 g hg g' hg' e
    · obtain ⟨h1, h2⟩ := hG _ List.mem_cons_self
      exact ⟨by rw [h1]; rfl, b, h2, rfl⟩
    · obtain ⟨hok', hg⟩ := hE
      obtain ⟨h1, h2⟩ := hg _ List.mem_cons_self
      simp only at h1 h2
      simp only [retT] at hret
      split at hret
      · rename_i ys hl
        obtain ⟨hret1, hret2⟩ := hret
        obtain ⟨b', cur', E', q1, q2, q3, q4, q5⟩ := hok'.ob id _ hl
        rw [h1] at q1; cases q1
        obtain ⟨z1, z2⟩ := a5 K H' m' w' ⟨hok', fun g hg' => hg g (List.mem_cons_of_mem _ hg')⟩ hret1
        have hylen : ys.length = cs.length := retBB_length id ys cs _ 0 hret2
        refine ⟨fun g' hg' hm' => ?_, ?_⟩
        · rcases List.mem_cons.1 hg' with rfl | hg'
          · exact ⟨by rw [hl]; rfl, List.mem_cons_self⟩
          · exact ⟨(z1 g' hg' hm').1, List.mem_cons_of_mem _ (z1 g' hg' hm').2⟩
        intro b2 e
        cases e
        refine ⟨⟨_, List.mem_cons_self, rfl, rfl, q4⟩, cur, cur', E, E', hb, q2, by omega, fun j c hj => ⟨?_, fun u hu => ?_⟩⟩
        · obtain ⟨y, x, k1, k2, k3⟩ := retBB_spec id ys cs _ 0 hret2 j c hj
          obtain ⟨u, hu, hxr⟩ := q5 j y k1
          obtain ⟨u0, hu0, _⟩ := hx j c hj
          rw [Nat.zero_add] at k3
          cases c with
          | ro a =>
            obtain ⟨c0, rfl⟩ := k3
            obtain ⟨e2, _⟩ := hxr
            rw [h2] at e2
            show cur'[j]? = cur[j]?
            rw [hu, e2, hu0]; simp [hu0]
          | set a c' =>
            obtain ⟨k3, hs⟩ := k3
            rcases k3 with rfl | ⟨_, _, rfl⟩
            · exact ⟨u, hu, scal_own hs hxr⟩
            · exact ⟨u, hu, scal_own hs hxr.2⟩
          | mu a c' =>
            obtain ⟨n, rfl, rfl⟩ := k3
            obtain ⟨g', r1, r2, r3, _⟩ := a7 j n k2
            obtain ⟨_, _, e2⟩ := hxr
            show cur'[j]? = cur[j]?
            have r3 : cur[j]? = some g'.v := by simpa using r3
            rw [hu, e2, r3, ← r2, (hg g' (List.mem_cons_of_mem _ r1)).1]
        · have := z2 j c.mc (by rw [List.getElem?_map, hj]; rfl) u (by simpa using hu)
          have e : ∀ (g0 : Gv), g0.j = 0 → (fun b => ∃ g ∈ g0 :: G, g.mv = false ∧ g.j = j + 1 ∧ m'.foot g.id b) = fun b => ∃ g ∈ G, g.mv = false ∧ g.j = 1 + j ∧ m'.foot g.id b := by
            intro g0 h0
            funext b; apply propext
            constructor
            · rintro ⟨g, hg, hm, hj, hf⟩
              rcases List.mem_cons.1 hg with rfl | hg
              · omega
              · exact ⟨g, hg, hm, by omega, hf⟩
            · rintro ⟨g, hg, hm, hj, hf⟩
              exact ⟨g, List.mem_cons_of_mem _ hg, hm, by omega, hf⟩
          exact (congrArg (fun F => MCPost w w' F c.mc u) (e _ (by rfl))).mpr this
      · exact hret.elim
theorem entTs_spec {F : Nat → Nat → Nat → Prop} : ∀ {ts : List MT} {id k : Nat} {vs : List Value}, ts.all okMT = true → vs.length = ts.length → (∀ (i : Nat) (t : MT), ts[i]? = some t → ∃ u, vs[i]? = some u ∧ MTRep w av (F (k + i)) t u) →
    ∃ G : List Gv, G.map (fun g => (g.id, g.ob)) = (entTs k id ts).2 ∧ (∀ g ∈ G, GvOK w av F G g ∧ k ≤ g.i) ∧ (∀ g ∈ G, ∀ g' ∈ G, g.i = g'.i → g.j = g'.j → g = g') ∧
      (∀ H m, (∀ g ∈ G, H.lookup g.id = some g.ob ∧ m.val g.id = g.v) → (∀ b o, b < w.heap.size → avOf H m b o → av b o) → ∀ t a, (entTs k id ts).1.lookup t = some a → k ≤ t ∧ ∃ u, vs[t - k]? = some u ∧ AVRep H m w a u) ∧
      ∀ K H' m' w', EndOK K H' m' w' G → retTs (fun i => H'.lookup i) id ts → (∀ g ∈ G, g.mv = false → (H'.lookup g.id).isSome = true ∧ g.id ∈ muTs id ts) ∧ ∀ (i : Nat) (t : MT), ts[i]? = some t → ∀ u, vs[i]? = some u → MTPost w w' (fun j b => ∃ g ∈ G, g.mv = false ∧ g.i = k + i ∧ g.j = j ∧ m'.foot g.id b) t u := by
  intro ts
  induction ts with
  | nil => intro id k vs _ _ _; exact ⟨[], rfl, by simp, by simp, fun H m _ _ t a h => by simp [entTs] at h, fun _ _ _ _ _ _ => ⟨by simp, fun i t h => by simp at h⟩⟩
  | cons t ts ih =>
    intro id k vs hok hl hr
    cases vs with
    | nil => simp at hl
    | cons v vs =>
      simp only [List.all_cons, Bool.and_eq_true] at hok
      obtain ⟨u, hu, hx⟩ := hr 0 t rfl
      simp at hu; subst hu
      obtain ⟨G1, a1, a2, a3, a4, a5⟩ := entT_spec (id := id) (i := k) hok.1 (by simpa using hx)
      obtain ⟨G2, b1, b2, b3, b4, b5⟩ := ih (id := id + (entT id t).2.length) (k := k + 1) (vs := vs) hok.2 (by simpa using hl) (fun i t' hi => by
        obtain ⟨u, hu, hr'⟩ := hr (i + 1) t' (by simpa using hi)
        refine ⟨u, by simpa using hu, ?_⟩
        rw [show k + 1 + i = k + (i + 1) by omega]; exact hr')
      have fi : ∀ g ∈ G1, g.i = k := fun g hg => (a2 g hg).2
      have fk : ∀ g ∈ G2, k + 1 ≤ g.i := fun g hg => (b2 g hg).2
      refine ⟨G1 ++ G2, by simp only [List.map_append, a1, b1, entTs], fun g hg => ?_, fun g hg g' hg' e e' => ?_, fun H m hG hav t' a ht => ?_, fun K H' m' w' hE hret => ⟨fun g hg hm => ?_, fun i t' hi u hu => ?_⟩⟩
      · rcases List.mem_append.1 hg with hg | hg
        · obtain ⟨h1, h2⟩ := a2 g hg; exact ⟨h1.mono fun x hx => List.mem_append_left _ hx, by omega⟩
        · obtain ⟨h1, h2⟩ := b2 g hg; exact ⟨h1.mono fun x hx => List.mem_append_right _ hx, by omega⟩
      · rcases List.mem_append.1 hg with hg | hg <;> rcases List.mem_append.1 hg' with hg' | hg'
        · exact a3 g hg g' hg' e'
        · have := fi g hg; have := fk g' hg'; omega
        · have := fi g' hg'; have := fk g hg; omega
        · exact b3 g hg g' hg' e e'
      · simp only [entTs, List.lookup_cons] at ht
        split at ht
        · rename_i e
          simp at e
          cases ht
          subst e
          exact ⟨Nat.le_refl _, v, by simp, a4 H m (fun g hg => hG g (List.mem_append_left _ hg)) hav⟩
        · obtain ⟨h1, u, h2, h3⟩ := b4 H m (fun g hg => hG g (List.mem_append_right _ hg)) hav t' a ht
          refine ⟨by omega, u, ?_, h3⟩
          rw [show t' - k = (t' - (k + 1)) + 1 by omega, List.getElem?_cons_succ]; exact h2
      · rcases List.mem_append.1 hg with hg | hg
        · obtain ⟨q1, q2⟩ := (a5 K H' m' w' ⟨hE.1, fun g hg => hE.2 g (List.mem_append_left _ hg)⟩ hret.1).1 g hg hm
          exact ⟨q1, List.mem_append_left _ q2⟩
        · obtain ⟨q1, q2⟩ := (b5 K H' m' w' ⟨hE.1, fun g hg => hE.2 g (List.mem_append_right _ hg)⟩ hret.2).1 g hg hm
          exact ⟨q1, List.mem_append_right _ q2⟩
      · cases i with
        | zero =>
          simp at hi hu; subst hi; subst hu
          have := (a5 K H' m' w' ⟨hE.1, fun g hg => hE.2 g (List.mem_append_left _ hg)⟩ hret.1).2
          have e : (fun j b => ∃ g ∈ G1 ++ G2, g.mv = false ∧ g.i = k + 0 ∧ g.j = j ∧ m'.foot g.id b) = fun j b => ∃ g ∈ G1, g.mv = false ∧ g.j = j ∧ m'.foot g.id b := by
            funext j b; apply propext
            constructor
            · rintro ⟨g, hg, hm, hi, hj, hf⟩
              rcases List.mem_append.1 hg with hg | hg
              · exact ⟨g, hg, hm, hj, hf⟩
              · have := fk g hg; omega
            · rintro ⟨g, hg, hm, hj, hf⟩
              exact ⟨g, List.mem_append_left _ hg, hm, fi g hg, hj, hf⟩
          rw [e]; exact this
        | succ i =>
          have := (b5 K H' m' w' ⟨hE.1, fun g hg => hE.2 g (List.mem_append_right _ hg)⟩ hret.2).2 i t' (by simpa using hi) u (by simpa using hu)
          have e : (fun j b => ∃ g ∈ G1 ++ G2, g.mv = false ∧ g.i = k + (i + 1) ∧ g.j = j ∧ m'.foot g.id b) = fun j b => ∃ g ∈ G2, g.mv = false ∧ g.i = k + 1 + i ∧ g.j = j ∧ m'.foot g.id b := by
            funext j b; apply propext
            constructor
            · rintro ⟨g, hg, hm, hi, hj, hf⟩
              rcases List.mem_append.1 hg with hg | hg
              · have := fi g hg; omega
              · exact ⟨g, hg, hm, by omega, hj, hf⟩
            · rintro ⟨g, hg, hm, hi, hj, hf⟩
              exact ⟨g, List.mem_append_right _ hg, hm, by omega, hj, hf⟩
          rw [e]; exact this
theorem entC_keys (id : Nat) (c : MC) : ∀ p ∈ (entC id c).2, p.1 = id := by
  cases c with
  | ro c => simp [entC]
  | mu c c' => cases c <;> simp [entC]
  | mv c => cases c <;> simp [entC]
theorem entC_len (id : Nat) (c : MC) : (entC id c).2.length ≤ 1 := by
  cases c with
  | ro c => simp [entC]
  | mu c c' => cases c <;> simp [entC]
  | mv c => cases c <;> simp [entC]
theorem entCs_keys : ∀ (cs : List MC) (id : Nat), (entCs id cs).2.map (·.1) = List.range' id (entCs id cs).2.length := by
  intro cs
  induction cs with
  | nil => intro id; rfl
  | cons c cs ih =>
    intro id
    simp only [entCs, List.map_append, List.length_append, ih]
    have h1 := entC_keys id c
    have h2 := entC_len id c
    match hq : (entC id c).2, h1, h2 with
    | [], _, _ => simp
    | [p], h1, _ =>
      have : p.1 = id := h1 p (by simp)
      simp only [List.map_cons, List.map_nil, this, List.length_cons, List.length_nil, List.cons_append, List.nil_append]
      rw [show 0 + 1 + (entCs (id + (0 + 1)) cs).2.length = (entCs (id + (0 + 1)) cs).2.length + 1 by omega, List.range'_succ]
theorem entT_keys (t : MT) (id : Nat) : (entT id t).2.map (·.1) = List.range' id (entT id t).2.length := by
  cases t with
  | one c =>
    have h1 := entC_keys id c
    have h2 := entC_len id c
    simp only [entT]
    match hq : (entC id c).2, h1, h2 with
    | [], _, _ => simp
    | [p], h1, _ =>
      have : p.1 = id := h1 p (by simp)
      simp [this]
  | agg cs => exact entCs_keys cs id
  | box m keep get get' => simp [entT]
  | ext p p' => rfl
  | boxm cs => simp only [entT, List.map_cons, entCs_keys, List.length_cons, List.range'_succ]
theorem entTs_keys : ∀ (ts : List MT) (k id : Nat), (entTs k id ts).2.map (·.1) = List.range' id (entTs k id ts).2.length := by
  intro ts
  induction ts with
  | nil => intro k id; rfl
  | cons t ts ih =>
    intro k id
    simp only [entTs, List.map_append, List.length_append, ih, entT_keys]
    rw [List.range'_append_1]
theorem assignG (G : List Gv) : (G.map (·.id)).Nodup → ∃ m : Mem, ∀ g ∈ G, m.val g.id = g.v ∧ m.foot g.id = g.F ∧ m.sub g.id = g.sub := by
  induction G with
  | nil => intro _; exact ⟨⟨fun _ => undef, fun _ _ => False, fun _ _ => undef⟩, by simp⟩
  | cons g G ih =>
    intro hn
    simp only [List.map_cons, List.nodup_cons] at hn
    obtain ⟨m, hm⟩ := ih hn.2
    refine ⟨⟨fun i => if i = g.id then g.v else m.val i, fun i => if i = g.id then g.F else m.foot i, fun i => if i = g.id then g.sub else m.sub i⟩, fun g' hg' => ?_⟩
    cases hg' with
    | head => simp
    | tail _ hg' =>
      have hne : g'.id ≠ g.id := fun e => hn.1 (e ▸ List.mem_map.2 ⟨g', hg', rfl⟩)
      simp only [if_neg hne]
      exact hm g' hg'
def retFree (P : Program) (rs : List ResultVar) (mu : List Nat) (s : St) : Bool :=
  match resTVs P s rs with
  | some ts => (ts.flatMap TV.ids).all fun i => !mu.contains i
  | none => false
theorem mutOK_of_AW {P : Program} {f : FuncId} {fn : Func} {c : Code} {ts : List MT} {res : List CT} (nf : Nat) (hf : P.funcs[f]? = some fn) (hb : fn.body = some c) (hname : (fn.name == "runtime.NumGoroutine") = false)
    (hN : ts.length ≤ fn.ntmps) (hok : ts.all okMT = true) (hnf : (entTs 0 0 ts).2.length = nf)
    (h : ∀ w0 K v0 s0, AW ⟨P, w0, ⟨nf, fn.ntmps⟩, K, v0, s0⟩ c ⟨(entTs 0 0 ts).1, (entTs 0 0 ts).2⟩ fun e s => (e = .normal ∨ e = .ret) ∧ RetOK P fn.results.toList s res ∧ retFree P fn.results.toList (muTs 0 ts) s = true ∧ retTs (fun i => s.heap.lookup i) 0 ts) : MutOK P f ts res := by
  intro w vs F hFsz hFd hgd hFg hargs
  have hrun : (callFunc f vs).run P w = .ok (.enter f vs) w := by
    simp only [callFunc, Sem.run_bind, run_program, Result.andThen_ok, hf, hname, hb, Bool.false_eq_true, ite_false, Option.isNone_some, Sem.run_pure]
  unfold Invk
  rw [hrun]
  refine ⟨rfl, calls_of_wp hf hb ?_⟩
  obtain ⟨G, g1, g2, g3, g4, g5⟩ := entTs_spec (w := w) (av := fun b _ => ∃ i j, F i j b) (F := F) (ts := ts) (id := 0) (k := 0) (vs := vs.toList) hok (by simpa using hargs.1) (fun i t hi => by
    rw [Nat.zero_add]; simpa using hargs.2 i t hi)
  have hkeys : G.map (·.id) = List.range' 0 nf := by
    have := entTs_keys ts 0 0
    rw [hnf, ← g1, List.map_map] at this
    exact this
  have hnd : (G.map (·.id)).Nodup := by rw [hkeys]; exact List.nodup_range'
  obtain ⟨m, hm⟩ := assignG G hnd
  have hlk : ∀ g ∈ G, ((entTs 0 0 ts).2).lookup g.id = some g.ob := by
    intro g hg
    rw [← g1]
    refine lookup_nodup ?_ (List.mem_map.2 ⟨g, hg, rfl⟩)
    rw [List.map_map]; exact hnd
  have hmem : ∀ id ob, ((entTs 0 0 ts).2).lookup id = some ob → ∃ g ∈ G, g.id = id ∧ g.ob = ob := by
    intro id ob hl
    rw [← g1] at hl
    obtain ⟨g, hg, e⟩ := List.mem_map.1 (lookup_mem hl)
    cases e
    exact ⟨g, hg, rfl, rfl⟩
  have hfoot : ∀ g ∈ G, m.foot g.id = F g.i g.j := fun g hg => by rw [(hm g hg).2.1]; exact (g2 g hg).1.1
  have hav : ∀ b o, b < w.heap.size → avOf (entTs 0 0 ts).2 m b o → ∃ i j, F i j b := by
    rintro b o _ ⟨id, ob, hl, hr, _⟩
    obtain ⟨g, hg, rfl, rfl⟩ := hmem id ob hl
    obtain ⟨⟨e1, e2⟩, _⟩ := g2 g hg
    refine ⟨g.i, g.j, ?_⟩
    rw [← e1]
    cases ho : g.ob with
    | ext p => rw [ho] at e2; exact e2.elim
    | lst n sz gt => rw [ho] at e2; exact e2.elim
    | arr d n sz gt =>
      rw [ho] at e2 hr
      obtain ⟨rfl, _⟩ := e2
      have : m.foot g.id b := hr
      rwa [(hm g hg).2.1] at this
    | box xs =>
      rw [ho] at e2 hr
      obtain ⟨b', cur, E, q1, _, _, q4, _⟩ := e2
      have : Value.blk (m.val g.id) = some b := hr
      rw [(hm g hg).1, q1] at this
      cases this; exact q4
  have hHeap : HeapOK (fun b => b < w.heap.size ∧ ¬ ∃ i j, F i j b) (entTs 0 0 ts).2 m w := by
    refine ⟨fun id ob hl => ?_, fun id b ha hfb => ?_, fun id id' b ha ha' hfb hfb' => ?_⟩
    · obtain ⟨g, hg, rfl, rfl⟩ := hmem id ob hl
      obtain ⟨⟨e1, e2⟩, _⟩ := g2 g hg
      obtain ⟨v1, v2, v3⟩ := hm g hg
      cases ho : g.ob with
      | ext p => rw [ho] at e2; exact e2.elim
      | lst n sz gt => rw [ho] at e2; exact e2.elim
      | arr d n sz gt =>
        rw [ho] at e2
        obtain ⟨rfl, q1, q2⟩ := e2
        show OwnC w _ _ _ ∧ _
        rw [v1, v2, v3, q2]
        exact ⟨q1, fun _ i j hi hj _ => own_subs q1 i j hi hj⟩
      | box xs =>
        rw [ho] at e2
        obtain ⟨b', cur, E, q1, q2, q3, q4, q5⟩ := e2
        refine ⟨b', cur, E, by rw [v1]; exact q1, q2, q3, by rw [v2]; exact q4, fun j x hj => ?_⟩
        obtain ⟨u, r1, r⟩ := q5 j x hj
        rcases r with ⟨c, r2, r3, r4⟩ | ⟨g', hg', r2, r3, n, sz, gt, r4⟩
        · subst r2
          exact ⟨u, r1, by rw [v3, r3], CRep.avoid (fun b o hlt hb => hav b o hlt hb) r4⟩
        · subst r2
          have hl' := hlk g' hg'
          rw [r4] at hl'
          exact ⟨u, r1, by rw [hl']; rfl, by rw [hl']; trivial, by rw [(hm g' hg').1, r3]⟩
    · obtain ⟨ob, hl⟩ := Option.isSome_iff_exists.1 ha
      obtain ⟨g, hg, rfl, rfl⟩ := hmem id ob hl
      rw [hfoot g hg] at hfb
      exact ⟨fun hh => hh.2 ⟨_, _, hfb⟩, hFsz _ _ b hfb⟩
    · obtain ⟨ob, hl⟩ := Option.isSome_iff_exists.1 ha
      obtain ⟨ob', hl'⟩ := Option.isSome_iff_exists.1 ha'
      obtain ⟨g, hg, rfl, rfl⟩ := hmem id ob hl
      obtain ⟨g', hg', rfl, rfl⟩ := hmem id' ob' hl'
      rw [hfoot g hg] at hfb; rw [hfoot g' hg'] at hfb'
      obtain ⟨e1, e2⟩ := hFd _ _ _ _ b hfb hfb'
      rw [g3 g hg g' hg' e1 e2]
  refine wp_mono (h w (fun b => b < w.heap.size ∧ ¬ ∃ i j, F i j b) m.val m.sub { tmps := vs ++ Array.replicate (fn.ntmps - vs.size) undef, defers := [] } w ?_) ?_
  · refine ⟨rfl, ?_, BelowK.refl _ _, ⟨fun b hb => hb.1, hgd, fun b hb => ⟨hgd.lt hb, fun ⟨i, j, hF⟩ => hFg i j b hF hb⟩⟩, m, ⟨hHeap, fun id _ => ⟨rfl, rfl⟩⟩, fun t a hl => ?_⟩
    · have := hargs.1
      show (vs ++ Array.replicate (fn.ntmps - vs.size) undef).size = fn.ntmps
      simp; omega
    · obtain ⟨_, u, hu, hr⟩ := g4 _ m (fun g hg => ⟨hlk g hg, (hm g hg).1⟩) hav t a hl
      refine ⟨u, ?_, hr⟩
      have hu' : vs[t]? = some u := by simpa using hu
      have ht : t < vs.size := (Array.getElem?_eq_some_iff.1 hu').1
      show (vs ++ _)[t]? = some u
      rw [Array.getElem?_append, if_pos ht]; exact hu'
  · rintro e a' w' ⟨s', ⟨he, hret, hfree, hrt⟩, hR⟩
    obtain ⟨m', ⟨hok', hfix⟩, henv⟩ := hR.mem
    obtain ⟨v, F1, h1, h2, h3, h4⟩ := RetOK.runM (cx := ⟨P, w, ⟨nf, fn.ntmps⟩, fun b => b < w.heap.size ∧ ¬ ∃ i j, F i j b, m.val, m.sub⟩) (fn := fn) hok' henv hret
    have hidlt : ∀ g ∈ G, g.id < nf := by
      intro g hg
      have : g.id ∈ G.map (·.id) := List.mem_map.2 ⟨g, hg, rfl⟩
      rw [hkeys, List.mem_range'_1] at this
      omega
    have hE : EndOK (fun b => b < w.heap.size ∧ ¬ ∃ i j, F i j b) s'.heap m' w' G := by
      refine ⟨hok', fun g hg => ?_⟩
      obtain ⟨e1, e2⟩ := hfix g.id (hidlt g hg)
      obtain ⟨v1, _, v3⟩ := hm g hg
      exact ⟨e1.trans v1, e2.trans v3⟩
    obtain ⟨hal, g5'⟩ := g5 _ _ _ _ hE hrt
    have halive : ∀ g ∈ G, g.mv = false → (s'.heap.lookup g.id).isSome = true := fun g hg hm => (hal g hg hm).1
    have lo : ∀ id b, (s'.heap.lookup id).isSome = true → m'.foot id b → ((∃ i j, F i j b) ∨ w.heap.size ≤ b) ∧ b < w'.heap.size := by
      intro id b ha hfb
      obtain ⟨q1, q2⟩ := hok'.lo id b ha hfb
      refine ⟨?_, q2⟩
      by_cases hq : ∃ i j, F i j b
      · exact .inl hq
      · exact .inr (Nat.le_of_not_lt fun hlt => q1 ⟨hlt, hq⟩)
    have hend : BelowK (fun b => b < w.heap.size ∧ ¬ ∃ i j, F i j b) w w' ∧ ∃ F' G : Nat → Nat → Nat → Prop,
      (∀ i j b, F' i j b → ((∃ i' j', F i' j' b) ∨ w.heap.size ≤ b) ∧ b < w'.heap.size) ∧ (∀ i j b, G i j b → ((∃ i' j', F i' j' b) ∨ w.heap.size ≤ b) ∧ b < w'.heap.size) ∧
      (∀ i j i' j' b, F' i j b → F' i' j' b → i = i' ∧ j = j') ∧ (∀ i j i' j' b, G i j b → G i' j' b → i = i' ∧ j = j') ∧ (∀ i j i' j' b, F' i j b → ¬ G i' j' b) ∧
      MTsPost w w' F' ts vs ∧ RTsRep w' G res v := by
      refine ⟨hR.below, fun i j b => ∃ g ∈ G, g.mv = false ∧ g.i = i ∧ g.j = j ∧ m'.foot g.id b, F1, ?_, ?_, ?_, h3, ?_, ?_, h4⟩
      · rintro i j b ⟨g, hg, hm, _, _, hfb⟩
        exact lo g.id b (halive g hg hm) hfb
      · intro i j b hb
        obtain ⟨_, id, _, _, ha, hfb⟩ := h2 i j b hb
        exact lo id b ha hfb
      · rintro i j i' j' b ⟨g, hg, hm, rfl, rfl, hfb⟩ ⟨g', hg', hm', rfl, rfl, hfb'⟩
        have e := hok'.apart g.id g'.id b (halive g hg hm) (halive g' hg' hm') hfb hfb'
        have : g = g' := by
          obtain ⟨p, hp, e1⟩ := List.mem_iff_getElem.1 hg
          obtain ⟨q, hq, e2⟩ := List.mem_iff_getElem.1 hg'
          have : p = q := (List.getElem_inj hnd (h₀ := by simpa using hp) (h₁ := by simpa using hq)).1 (by simp [e1, e2, e])
          subst this
          rw [← e1, ← e2]
        rw [this]; exact ⟨rfl, rfl⟩
      · rintro i j i' j' b ⟨g, hg, hm0, _, _, hfb⟩ hb'
        obtain ⟨tvs, id, hts, hid, ha, hfb'⟩ := h2 i' j' b hb'
        have e := hok'.apart g.id id b (halive g hg hm0) ha hfb hfb'
        unfold retFree at hfree
        rw [hts] at hfree
        simp only [List.all_eq_true, Bool.not_eq_true', List.contains_eq_mem, decide_eq_false_iff_not] at hfree
        refine hfree id hid ?_
        rw [← e]; exact (hal g hg hm0).2
      · intro i t hi u hu
        have := g5' i t hi u (by simpa using hu)
        simpa using this
    rcases he with rfl | rfl
    · exact ⟨hR.defers, v, h1, v, rfl, hend⟩
    · exact ⟨hR.defers, v, h1, v, rfl, hend⟩
end Go.Fw
