
import Derived.Test.YtblpjlaihgcilafFwO
namespace Go.Fw
open Go Go.RowKit
def AW (cx : Cx) (c : Code) (s : St) (Q : Exit → St → Prop) : Prop :=
  ∀ a w, R cx s a w → c.wp cx.P (fun e a' w' => ∃ s', Q e s' ∧ R cx s' a' w') a w
def Sub (cx : Cx) (s s' : St) : Prop := ∀ a w, R cx s a w → R cx s' a w
variable {cx : Cx} {s : St} {Q : Exit → St → Prop}
theorem AW.weak {c : Code} {s' : St} (h : Sub cx s s') (h' : AW cx c s' Q) : AW cx c s Q := fun a w hR => h' a w (h a w hR)
theorem AW.mono {c : Code} {Q' : Exit → St → Prop} (h : AW cx c s Q) (hq : ∀ e s, Q e s → Q' e s) : AW cx c s Q' :=
  fun a w hR => wp_mono (h a w hR) fun e _ _ ⟨s', q, r⟩ => ⟨s', hq e s' q, r⟩
theorem AW.post {c : Code} (h : AW cx c s fun e s1 => ∃ s2, Sub cx s1 s2 ∧ Q e s2) : AW cx c s Q :=
  fun a w hR => wp_mono (h a w hR) fun _ a' w' ⟨_, ⟨s2, hs, q⟩, r⟩ => ⟨s2, q, hs a' w' r⟩
theorem AW.skip (h : Q .normal s) : AW cx .skip s Q := fun _ _ hR => wp_skip ⟨s, h, hR⟩
theorem AW.exit {id : Nat} (h : Q (.exit id) s) : AW cx (.exit id) s Q := fun _ _ hR => wp_exit ⟨s, h, hR⟩
theorem AW.ret (h : Q .ret s) : AW cx .ret s Q := fun _ _ hR => wp_ret ⟨s, h, hR⟩
def thenQ (cx : Cx) (y : Code) (Q : Exit → St → Prop) : Exit → St → Prop
  | .normal, s => AW cx y s Q
  | e, s => Q e s
theorem AW.seq {x y : Code} (h : AW cx x s (thenQ cx y Q)) : AW cx (.seq x y) s Q := by
  intro a w hR
  refine wp_seq (wp_mono (h a w hR) ?_)
  rintro e a' w' ⟨s', hq, hr⟩
  cases e with
  | normal => exact hq a' w' hr
  | exit id => exact ⟨s', hq, hr⟩
  | goto l => exact ⟨s', hq, hr⟩
  | ret => exact ⟨s', hq, hr⟩
  | panic ch => exact ⟨s', hq, hr⟩
  | outgrown => exact ⟨s', hq, hr⟩
theorem R.eval_bool {a : Act} {w : World} (hR : R cx s a w) {t : Nat} {b : Bool} (hl : s.env.lookup t = some (.v (.one (.c (.bool b))))) : a.eval (.tmp t) = .bool b := by
  obtain ⟨m, _, hm⟩ := hR.mem
  obtain ⟨u, hu, hr⟩ := hm t _ hl
  have : u = .bool b := hr
  subst this
  simp [Act.eval, Array.getD_eq_getD_getElem?, hu]
theorem AW.cond {x y : Code} {t : Nat} (b : Bool) (hl : s.env.lookup t = some (.v (.one (.c (.bool b))))) (ht : b = true → AW cx x s Q) (hf : b = false → AW cx y s Q) :
    AW cx (.cond (.tmp t) x y) s Q := by
  intro a w hR
  refine wp_cond (hR.eval_bool hl) ?_
  cases b
  · exact hf rfl a w hR
  · exact ht rfl a w hR
theorem AW.condk {x y : Code} {b : Bool} (h : AW cx (if b then x else y) s Q) : AW cx (.cond (.const (.bool b)) x y) s Q := by
  intro a w hR
  refine wp_cond (t := b) rfl ?_
  cases b
  · exact h a w hR
  · exact h a w hR
def blockQ (id : Nat) (Q : Exit → St → Prop) : Exit → St → Prop
  | .exit i, s => if i = id then Q .normal s else Q (.exit i) s
  | e, s => Q e s
theorem AW.block {c : Code} {id : Nat} (h : AW cx c s (blockQ id Q)) : AW cx (.block id c) s Q := by
  intro a w hR
  refine wp_block (wp_mono (h a w hR) ?_)
  rintro e a' w' ⟨s', hq, hr⟩
  cases e with
  | exit i =>
    simp only [blockQ] at hq
    simp only [Exit.inBlock]
    split
    · rename_i e; rw [if_pos e] at hq; exact ⟨s', hq, hr⟩
    · rename_i e; rw [if_neg e] at hq; exact ⟨s', hq, hr⟩
  | normal => exact ⟨s', hq, hr⟩
  | goto l => exact ⟨s', hq, hr⟩
  | ret => exact ⟨s', hq, hr⟩
  | panic ch => exact ⟨s', hq, hr⟩
  | outgrown => exact ⟨s', hq, hr⟩
theorem AW.loop {σ : Type} {c : Code} (f : σ → St) (I : σ → Prop) (μ : σ → Nat) (x0 : σ) (h0 : I x0)
    (round : ∀ x, I x → AW cx c (f x) (fun e s1 => match e with
      | .normal => ∃ y, I y ∧ μ y < μ x ∧ Sub cx s1 (f y)
      | e => Q e s1)) : AW cx (.loop c) (f x0) Q := by
  intro a w hR
  let J : Nat → Act → World → Prop := fun n a w => ∃ x, I x ∧ R cx (f x) a w ∧ μ x = n
  have least : ∀ a w, (∃ n, J n a w) → ∃ n, J n a w ∧ ∀ k, k < n → ¬ J k a w := by
    intro a w ⟨n, hn⟩
    induction n using Nat.strongRecOn with
    | _ n ih =>
      by_cases h : ∃ k, k < n ∧ J k a w
      · obtain ⟨k, hk, hj⟩ := h; exact ih k hk hj
      · exact ⟨n, hn, fun k hk hj => h ⟨k, hk, hj⟩⟩
  let ν : Act → World → Nat := fun a w => @dite _ (∃ n, J n a w) (Classical.propDecidable _) (fun h => Classical.choose (least a w h)) (fun _ => 0)
  have hν : ∀ a w, (∃ n, J n a w) → J (ν a w) a w ∧ ∀ k, k < ν a w → ¬ J k a w := by
    intro a w h
    simp only [ν, dif_pos h]
    exact Classical.choose_spec (least a w h)
  refine wp_loop (fun a w => ∃ n, J n a w) ν ⟨_, x0, h0, hR, rfl⟩ ?_
  intro a w hJ
  obtain ⟨⟨x, hI, hRx, hμ⟩, _⟩ := hν a w hJ
  refine wp_mono (round x hI a w hRx) ?_
  rintro e a' w' ⟨s', hq, hr⟩
  cases e with
  | normal =>
    obtain ⟨y, hy, hlt, hs⟩ := hq
    have hJ' : J (μ y) a' w' := ⟨y, hy, hs a' w' hr, rfl⟩
    refine ⟨⟨_, hJ'⟩, ?_⟩
    have h2 := (hν a' w' ⟨_, hJ'⟩).2
    have : ν a' w' ≤ μ y := Nat.le_of_not_lt fun h => h2 _ h hJ'
    show ν a' w' < ν a w
    omega
  | exit id => exact ⟨s', hq, hr⟩
  | goto l => exact ⟨s', hq, hr⟩
  | ret => exact ⟨s', hq, hr⟩
  | panic ch => exact ⟨s', hq, hr⟩
  | outgrown => exact ⟨s', hq, hr⟩
end Go.Fw
