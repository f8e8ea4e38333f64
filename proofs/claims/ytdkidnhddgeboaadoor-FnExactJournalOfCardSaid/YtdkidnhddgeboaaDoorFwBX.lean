/- A variable that is made as a thing of its own kind. -/
import Derived.Test.YtdkidnhddgeboaaDoorFwMK
import Derived.Test.YtdkidnhddgeboaaDoorFwBD
namespace Go.Fw
open Go Go.RowKit

variable {cx : Cx}

theorem ext_alloc_go {P : Program} {n0 : Nat → Prop} {H : List (Nat × Ob)} {m : Mem} {w : World} {o : Oper} {a : Act} {id : Nat} {T : TypeId} {z : Value} {p : EP} (ho : o.op = .alloc T) (hz : (P.info? T).bind (·.zero) = some z)
    (hp : ∀ (n : Nat) (w : World), w.heap[n]? = some (.cells z.cells T (0, 0)) → p (fun g => w.heap[g]?) (fun g => g = n) (.pointer (some ⟨n, 0, none⟩)))
    (hok : HeapOK n0 H m w) (hn0 : ∀ b, n0 b → b < w.heap.size) (hids : ∀ i ob, H.lookup i = some ob → id ∉ ob.ids) : OpGo P n0 o a w H m { av := .v (.one (.ptr id 0)), new := [(id, .ext p)] } := by
  obtain ⟨i0, hi, hzv⟩ := Option.bind_eq_some_iff.1 hz
  have hb : Below w.heap.size w (w.alloc (.cells z.cells T)) := (Below.refl _ _).alloc (Nat.le_refl _) _
  have hnew : (w.alloc (.cells z.cells T)).heap[w.heap.size]? = some (.cells z.cells T (0, 0)) := heap_alloc_new _ _
  have key := add_objs (w' := w.alloc (.cells z.cells T)) hb hok hn0 [(id, .ext p)] (fun _ => .pointer (some ⟨w.heap.size, 0, none⟩)) (fun _ b => b = w.heap.size) (fun _ _ => undef)
    (by intro i ob hl j hj; have := hids i ob hl; simp; rintro rfl; exact this hj)
    (by intro i b _ hf; subst hf; simp) (by intro i i' b h h' _ _; simp at h h'; rw [h, h'])
    (by
      intro hS i ob hl
      simp only [List.lookup_cons, List.lookup_nil] at hl
      split at hl
      · rename_i e
        simp at e
        cases hl
        subst e
        have e1 : (m.add ([(i, Ob.ext p)].map (·.1)) (fun _ => .pointer (some ⟨w.heap.size, 0, none⟩)) (fun _ b => b = w.heap.size) (fun _ _ => undef)).foot i = fun b => b = w.heap.size := by simp [Mem.add]
        have e2 : (m.add ([(i, Ob.ext p)].map (·.1)) (fun _ => .pointer (some ⟨w.heap.size, 0, none⟩)) (fun _ b => b = w.heap.size) (fun _ _ => undef)).val i = .pointer (some ⟨w.heap.size, 0, none⟩) := by simp [Mem.add]
        show ExtRep _ p _ _
        rw [e1, e2]
        exact ⟨⟨_, rfl, rfl⟩, fun g => (w.alloc (.cells z.cells T)).heap[g]?, fun _ _ => rfl, hp _ _ hnew⟩
      · cases hl)
    (by
      intro i ob b hl h
      simp only [List.lookup_cons, List.lookup_nil] at hl
      split at hl
      · rename_i e
        simp at e
        cases hl
        subst e
        simp [reach, Mem.add] at h
        omega
      · cases hl)
  unfold OpGo
  have hrun : (execOp a.eval o).run P w = .ok (.value (.pointer (some ⟨w.heap.size, 0, none⟩))) (w.alloc (.cells z.cells T)) := by
    simp only [execOp, ho, Instr.alloc, Sem.run_bind, run_zero hi hzv, Result.andThen_ok, newVar, newRow, run_newObj, Sem.run_pure]
    rfl
  rw [hrun]
  have hh : Eff.heap { av := .v (.one (.ptr id 0)), new := [(id, .ext p)] } H = (id, .ext p) :: H := by simp [Eff.heap]
  simp only []
  rw [hh]
  refine ⟨_, key.1, key.2, by simp, w.heap.size, by simp [Mem.add], rfl⟩

theorem AW.allocExt {s s' : St} {o : Oper} {ob : Prop} {Q : Exit → St → Prop} {id T : Nat} {z : Value} {p : EP} (i : Nat) (ts ids : List Nat)
    (h : runX cx.P cx.N #[o] 0 (fun _ => some { av := .v (.one (.ptr i 0)), new := [(i, .ext p)] }) [] [] ts ids s = some (s', s, o, { av := .v (.one (.ptr i 0)), new := [(i, .ext p)] }, ob)) (hob : ob)
    (ho : o.op = .alloc T) (hz : (cx.P.info? T).bind (·.zero) = some z)
    (hp : ∀ (n : Nat) (w : World), w.heap[n]? = some (.cells z.cells T (0, 0)) → p (fun g => w.heap[g]?) (fun g => g = n) (.pointer (some ⟨n, 0, none⟩))) (hq : Q .normal s') : AW cx (.region id #[o] false) s Q :=
  AW.opX 0 _ [] [] ts ids h hob (fun _ a w m _ h1 h2 _ h3 _ => ext_alloc_go ho hz hp h2 h1 fun k ob hl => by have := h3 k ob hl; intro hm; exact this i hm (by simp [Eff.ids])) hq

end Go.Fw
