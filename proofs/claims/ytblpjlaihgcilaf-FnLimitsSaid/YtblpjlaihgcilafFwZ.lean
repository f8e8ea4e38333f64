
import Derived.Test.YtblpjlaihgcilafFwQ
import Derived.Laws.Cover3
import Derived.KernelRfl
namespace Go.Fw
open Go Go.RowKit
variable {cx : Cx}
theorem runOps_then {ops : Array Oper} {K : Exit → Act → World → Prop} {rest : List Oper} : ∀ (l : List Oper) (hs : List Hint) (s s' : St) (ob : Prop), runOps cx.P cx.N ops l hs s = some (s', ob) → ob → (∀ a w, R cx s' a w → wpList cx.P ops K rest a w) →
    ∀ a w, R cx s a w → wpList cx.P ops K (l ++ rest) a w := by
  intro l
  induction l with
  | nil =>
    intro hs s s' ob h _ hq a w hR
    cases h
    exact hq a w hR
  | cons o l ih =>
    intro hs s s' ob h hob hq a w hR
    unfold runOps at h
    split at h
    · rename_i s1 p h1
      split at h
      · rename_i s2 q h2
        cases h
        refine wpList_step fun K' hK => ?_
        rcases run1_sound (Q := K) h1 hob.1 hR (fun a' w' hr => hK a' w' (ih hs.tail s1 _ q h2 hob.2 hq a' w' hr)) with ⟨hw, hk⟩ | ⟨hw, hk⟩
        · rw [hw]; exact hk
        · rw [hw]; exact hk
      · cases h
    · cases h
def nilable : AV → Option Nat
  | .v (.one (.c (.seq n _ _))) => some n
  | .v (.one (.lst _ n _ _)) => some n
  | _ => none
theorem AW.nilTest {s s1 : St} {ob : Prop} {Q : Exit → St → Prop} {id d n : Nat} {T : TypeId} {x : Operand} {l : List Oper} {o : Oper} {av : AV} {ops : Array Oper} (hs : List Hint) (hops : ops.toList = l ++ [o])
    (h : runOps cx.P cx.N ops l hs s = some (s1, ob)) (hob : ob) (ho : o.op = .binOp .eql T x (.const (.slice none 0 0)) o.type ∨ ∃ y, o.op = .binOp .eql T x (.const (.slice none 0 0)) y) (hg : o.guard = none) (hd : o.dst = some d) (hdN : Nat.blt d cx.N.n = true)
    (hT : ∃ e, cx.P.underlying T = some (.slice e)) (hx : rho s1.env x = some av) (hn : nilable av = some n)
    (hq : ∀ b : Bool, (b = true → n = 0) → Q .normal ⟨(d, bv b) :: s1.env, s1.heap⟩) : AW cx (.region id ops false) s Q := by
  intro a w hR
  have hops' : ops = (l ++ [o]).toArray := by rw [← hops]
  have key : wpList cx.P ops (fun e a' w' => ∃ s', Q e s' ∧ R cx s' a' w') (l ++ [o]) a w := by
    refine runOps_then l hs s s1 ob h hob (fun a w hR => ?_) a w hR
    refine wpList_step fun K hK => ?_
    obtain ⟨m, hok, henv⟩ := hR.mem
    have hrep := rho_rep henv x av hx
    have ⟨a0, cap, hv, hz⟩ : ∃ a0 cap, a.eval x = .slice a0 n cap ∧ (a0.isNone = true → n = 0) := by
      unfold nilable at hn
      split at hn
      · cases hn
        obtain ⟨a0, cap, hv, _, hc⟩ := hrep
        refine ⟨a0, cap, hv, fun hz => ?_⟩
        rcases Nat.eq_zero_or_pos n with h | h
        · exact h
        · obtain ⟨b, off, e, _⟩ := hc h; rw [e] at hz; cases hz
      · cases hn
        obtain ⟨⟨a0, cap, hv, _, hc⟩, _⟩ := hrep
        refine ⟨a0, cap, hv, fun hz => ?_⟩
        rcases Nat.eq_zero_or_pos n with h | h
        · exact h
        · obtain ⟨b, off, e, _⟩ := hc h; rw [e] at hz; cases hz
      · cases hn
    have hw : Region.wanted o (yielded ops a.tmps) = true := by unfold Region.wanted; rw [hg]
    rw [hw]
    obtain ⟨e, hT⟩ := hT
    have ⟨y, ho⟩ : ∃ y, o.op = .binOp .eql T x (.const (.slice none 0 0)) y := by
      rcases ho with h | h
      · exact ⟨_, h⟩
      · exact h
    have hrun : (execOp a.eval o).run cx.P w = .ok (.value (.bool a0.isNone)) w := by
      have hc : a.eval (.const (.slice none 0 0)) = .slice none 0 0 := rfl
      simp [execOp, ho, hv, hc, eqGuard, binOp, run_equal_slice_nil w T e a0 n cap hT]
    show o.wp cx.P a w K _
    unfold Oper.wp
    rw [hrun]
    refine hK _ _ (wpList_nil ?_)
    refine ⟨_, hq a0.isNone hz, ?_⟩
    refine ⟨by rw [hd]; exact hR.defers, by rw [hd]; simp [Act.put, hR.size], hR.below, hR.lowK, m, hok, ?_⟩
    rw [hd]
    exact put_rep (by rw [hR.size]; exact Nat.le_of_ble_eq_true hdN) rfl henv
  rw [hops'] at key ⊢
  exact wp_region_lit key
def runNil (P : Program) (N : Lim) (ops : Array Oper) (k : Nat) (hs : List Hint) (ts ids : List Nat) (s : St) : Option (St × Prop × Nat × Nat) :=
  match ops.toList.drop k with
  | [o] => match o.op, o.guard, o.dst with
    | .binOp .eql T x (.const (.slice none 0 0)) _, none, some d => match P.underlying T, runOps P N ops (ops.toList.take k) hs s with
      | some (.slice _), some (s1, ob) => match rho s1.env x with
        | some av => match nilable av with
          | some n => if Nat.blt d N.n && okRestr ids (restr ts ids s1) && !ts.contains d then some (restr ts ids s1, ob, d, n) else none
          | none => none
        | none => none
      | _, _ => none
    | _, _, _ => none
  | _ => none
theorem Sub.cons {s s' : St} {d : Nat} {av : AV} (h : ∀ (a : Act) (w : World), R cx ⟨(d, av) :: s.env, s.heap⟩ a w → R cx ⟨(d, av) :: s'.env, s'.heap⟩ a w) : Sub cx ⟨(d, av) :: s.env, s.heap⟩ ⟨(d, av) :: s'.env, s'.heap⟩ := h
theorem AW.nilA {s s' : St} {ob : Prop} {Q : Exit → St → Prop} {id d n : Nat} {ops : Array Oper} (k : Nat) (hs : List Hint) (ts ids : List Nat) (h : runNil cx.P cx.N ops k hs ts ids s = some (s', ob, d, n)) (hob : ob)
    (hq : ∀ b : Bool, (b = true → n = 0) → Q .normal ⟨(d, bv b) :: s'.env, s'.heap⟩) : AW cx (.region id ops false) s Q := by
  unfold runNil at h
  split at h
  case h_2 => cases h
  rename_i o hdrop
  split at h
  case h_2 => cases h
  rename_i T x y d' ho hg hd
  split at h
  case h_2 => cases h
  rename_i e s1 ob' hT hrun
  split at h
  case h_2 => cases h
  rename_i av hav
  split at h
  case h_2 => cases h
  rename_i n' hn
  split at h
  case isFalse => cases h
  rename_i hc
  simp only [Bool.and_eq_true, Bool.not_eq_true', List.contains_eq_mem, decide_eq_false_iff_not] at hc
  cases h
  refine AW.post (AW.nilTest (Q := fun e s1 => ∃ s2, Sub cx s1 s2 ∧ Q e s2) hs (l := ops.toList.take k) (o := o) (by rw [← hdrop, List.take_append_drop]) hrun hob (.inr ⟨y, ho⟩) hg hd hc.1.1 ⟨e, hT⟩ hav hn fun b hb => ⟨_, ?_, hq b hb⟩)
  have h1 : okRestr ids (restr (d :: ts) ids ⟨(d, bv b) :: s1.env, s1.heap⟩) = true := by
    have := hc.1.2
    unfold okRestr at this ⊢
    simp only [Bool.and_eq_true, List.all_eq_true, List.contains_eq_mem, decide_eq_true_eq] at this ⊢
    refine ⟨fun p hp i hi => ?_, this.2⟩
    have hsub : ∀ (l : List Nat), d ∉ l → pickL ((d, bv b) :: s1.env) l = pickL s1.env l := by
      intro l
      induction l with
      | nil => intro _; rfl
      | cons q l ih =>
        intro hq
        have hne : (q == d) = false := by
          rw [beq_eq_false_iff_ne]
          rintro rfl
          exact hq (by simp)
        simp only [pickL, List.lookup_cons, hne]
        rw [ih (fun h => hq (by simp [h]))]
    simp only [restr, pickL, List.lookup_cons, beq_self_eq_true, List.mem_cons] at hp
    rcases hp with rfl | hp
    · simp [AV.hard, TV.hard, X.hard] at hi
    · rw [hsub ts hc.2] at hp
      exact this.1 p hp i hi
  have h2 := Sub.restr (cx := cx) (s := ⟨(d, bv b) :: s1.env, s1.heap⟩) (d :: ts) ids h1
  have h3 : restr (d :: ts) ids ⟨(d, bv b) :: s1.env, s1.heap⟩ = ⟨(d, bv b) :: (restr ts ids s1).env, (restr ts ids s1).heap⟩ := by
    have hsub : ∀ (l : List Nat), d ∉ l → pickL ((d, bv b) :: s1.env) l = pickL s1.env l := by
      intro l
      induction l with
      | nil => intro _; rfl
      | cons q l ih =>
        intro hq
        have hne : (q == d) = false := by
          rw [beq_eq_false_iff_ne]
          rintro rfl
          exact hq (by simp)
        simp only [pickL, List.lookup_cons, hne]
        rw [ih (fun h => hq (by simp [h]))]
    simp only [restr, pickL, List.lookup_cons, beq_self_eq_true]
    rw [hsub ts hc.2]
  rw [h3] at h2
  exact h2
/-! The same, shorter to print. -/
theorem AW.rA {s : St} {Q : Exit → St → Prop} {id : Nat} {ops : Array Oper} (s' : St) (ob : Prop) (hs : List Hint) (ts ids : List Nat) (hob : ob) (hq : Q .normal s') (h : runRegion cx.P cx.N ops.toList hs ts ids s = some (s', ob) := by kernel_rfl) : AW cx (.region id ops false) s Q :=
  AW.regionA hs ts ids h hob hq
theorem AW.dA {s : St} {Q : Exit → St → Prop} {id : Nat} {ops : Array Oper} (s' : St) (ob : Prop) (k : Nat) (hs : List Hint) (ts ids : List Nat) (hob : ob) (hq : Q .normal s') (hm : cx.P.follows .mixedOrders = true := by kernel_rfl) (h : runDrawnRegion cx.P cx.N ops.toList k hs ts ids s = some (s', ob) := by kernel_rfl) : AW cx (.region id ops true) s Q :=
  AW.drawnA hm k hs ts ids h hob hq
def stR : Option (St × Prop) → St
  | some r => r.1
  | none => ⟨[], []⟩
def obR : Option (St × Prop) → Option Prop
  | some r => some r.2
  | none => none
theorem AW.rC {s : St} {Q : Exit → St → Prop} {id : Nat} {ops : Array Oper} (ob : Prop) (hs : List Hint) (ts ids : List Nat) (hob : ob) (hq : Q .normal (stR (runRegion cx.P cx.N ops.toList hs ts ids s))) (h : obR (runRegion cx.P cx.N ops.toList hs ts ids s) = some ob := by kernel_rfl) : AW cx (.region id ops false) s Q := by
  cases e : runRegion cx.P cx.N ops.toList hs ts ids s with
  | none => rw [e] at h; cases h
  | some r =>
    obtain ⟨s', ob'⟩ := r
    rw [e] at h hq
    have hh : ob' = ob := Option.some.inj h
    subst hh
    exact AW.regionA hs ts ids e hob hq
theorem AW.sC {s : St} {Q : Exit → St → Prop} {id : Nat} {ops : Array Oper} {y : Code} (ob : Prop) (hs : List Hint) (ts ids : List Nat) (hob : ob) (hq : AW cx y (stR (runRegion cx.P cx.N ops.toList hs ts ids s)) Q) (h : obR (runRegion cx.P cx.N ops.toList hs ts ids s) = some ob := by kernel_rfl) : AW cx (.seq (.region id ops false) y) s Q :=
  AW.seq (AW.rC ob hs ts ids hob (thenQ_normal hq) h)
theorem AW.sA {s : St} {Q : Exit → St → Prop} {id : Nat} {ops : Array Oper} {y : Code} (s' : St) (ob : Prop) (hs : List Hint) (ts ids : List Nat) (hob : ob) (hq : AW cx y s' Q) (h : runRegion cx.P cx.N ops.toList hs ts ids s = some (s', ob) := by kernel_rfl) : AW cx (.seq (.region id ops false) y) s Q :=
  AW.seq (AW.regionA hs ts ids h hob (thenQ_normal hq))
theorem AW.tC {s : St} {Q : Exit → St → Prop} {id : Nat} {ops : Array Oper} {y : Code} (ob : Prop) (hs : List Hint) (ts ids : List Nat) (hob : ob) (hq : AW cx y (stR (runRegion cx.P cx.N ops.toList hs ts ids s)) Q) (h : obR (runRegion cx.P cx.N ops.toList hs ts ids s) = some ob := by kernel_rfl) : AW cx (.region id ops false) s (thenQ cx y Q) :=
  AW.rC ob hs ts ids hob (thenQ_normal hq) h
theorem AW.tA {s : St} {Q : Exit → St → Prop} {id : Nat} {ops : Array Oper} {y : Code} (s' : St) (ob : Prop) (hs : List Hint) (ts ids : List Nat) (hob : ob) (hq : AW cx y s' Q) (h : runRegion cx.P cx.N ops.toList hs ts ids s = some (s', ob) := by kernel_rfl) : AW cx (.region id ops false) s (thenQ cx y Q) :=
  AW.regionA hs ts ids h hob (thenQ_normal hq)
abbrev vI (n : Int) : AV := .v (.one (.c (.int .i64 n)))
abbrev vB (b : Bool) : AV := .v (.one (.c (.bool b)))
abbrev oL {α : Type} [Inhabited α] (sz : Nat) (f : α → List C) (xs : List α) : Ob := .lst xs.length sz (gl f xs)
abbrev oA {α : Type} [Inhabited α] (sz : Nat) (f : α → List C) (xs : List α) : Ob := .arr true xs.length sz (gl f xs)
abbrev xL {α : Type} [Inhabited α] (id sz : Nat) (f : α → List C) (xs : List α) : X := .lst id xs.length sz (gl f xs)
abbrev vL {α : Type} [Inhabited α] (id sz : Nat) (f : α → List C) (xs : List α) : AV := .v (.one (.lst id xs.length sz (gl f xs)))
abbrev cF (x : F32) : X := .c (.flt .f32 x.bits)
abbrev cI (n : Int) : X := .c (.int .i64 n)
abbrev eI (n : Int) : Prop := (.int .i64 n : C) = .int .i64 n
abbrev eF (x : F32) : Prop := (.flt .f32 x.bits : C) = .flt .f32 x.bits
end Go.Fw
