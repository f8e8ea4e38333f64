
import Derived.Test.YtihokgnenjemmaaFwQ
import Derived.Laws.Cover3
import Derived.KernelRfl
namespace Go.Fw
open Go Go.RowKit
variable {cx : Cx}
theorem runOps_then {ops : Array Oper} {K : Exit → Act → World → Prop} {rest : List Oper} : ∀ (l : List Oper) (hs : List Hint) (s s' : St) (ob : Prop), runOps cx.P cx.N ops l hs s = some (s', ob) → ob → (∀ a w, R cx s' a w → wpList cx.P ops K rest a w) →
    ∀ a w, R cx s a w → wpList cx.P ops K (l ++ rest) a w := by
  intro l
  induction l with
  | nil =>
    intro hs s s' ob h _ hq a w hR
    cases h
    exact hq a w hR
  | cons o l ih =>
    intro hs s s' ob h hob hq a w hR
    unfold runOps at h
    split at h
    · rename_i s1 p h1
      split at h
      · rename_i s2 q h2
        cases h
        refine wpList_step fun K' hK => ?_
        rcases run1_sound (Q := K) h1 hob.1 hR (fun a' w' hr => hK a' w' (ih hs.tail s1 _ q h2 hob.2 hq a' w' hr)) with ⟨hw, hk⟩ | ⟨hw, hk⟩
        · rw [hw]; exact hk
        · rw [hw]; exact hk
      · cases h
    · cases h
theorem Sub.cons {s s' : St} {d : Nat} {av : AV} (h : ∀ (a : Act) (w : World), R cx ⟨(d, av) :: s.env, s.heap⟩ a w → R cx ⟨(d, av) :: s'.env, s'.heap⟩ a w) : Sub cx ⟨(d, av) :: s.env, s.heap⟩ ⟨(d, av) :: s'.env, s'.heap⟩ := h
theorem AW.rA {s : St} {Q : Exit → St → Prop} {id : Nat} {ops : Array Oper} (s' : St) (ob : Prop) (hs : List Hint) (ts ids : List Nat) (hob : ob) (hq : Q .normal s') (h : runRegion cx.P cx.N ops.toList hs ts ids s = some (s', ob) := by kernel_rfl) : AW cx (.region id ops false) s Q :=
  AW.regionA hs ts ids h hob hq
theorem AW.dA {s : St} {Q : Exit → St → Prop} {id : Nat} {ops : Array Oper} (s' : St) (ob : Prop) (k : Nat) (hs : List Hint) (ts ids : List Nat) (hob : ob) (hq : Q .normal s') (hm : cx.P.follows .mixedOrders = true := by kernel_rfl) (h : runDrawnRegion cx.P cx.N ops.toList k hs ts ids s = some (s', ob) := by kernel_rfl) : AW cx (.region id ops true) s Q :=
  AW.drawnA hm k hs ts ids h hob hq
end Go.Fw
