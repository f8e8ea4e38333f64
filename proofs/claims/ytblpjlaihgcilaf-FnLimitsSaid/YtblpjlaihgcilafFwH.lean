
import Derived.Test.YtblpjlaihgcilafFwR2
import Derived.Test.YtblpjlaihgcilafFwP
import Derived.Laws.Externs
namespace Go.Fw
open Go Go.RowKit
variable {P : Program} {f : FuncId} {fn : Func} {e : Array Value → Sem Value}
theorem invk_extern (hf : P.funcs[f]? = some fn) (hname : (fn.name == "runtime.NumGoroutine") = false) (hb : fn.body.isNone = true) (hn : Extern.findNext fn = none) (he : Extern.find fn = some e) {args : Array Value} {w w' : World} {v : Value} {Q : Value → World → Prop}
    (hr : (e args).run P w = .ok v w') (hq : Q v w') : Invk P f args w Q := by
  unfold Invk
  rw [run_callFunc_extern hf hname hb hn he, hr]
  exact hq
theorem one_arg {w : World} {c : C} {vs : Array Value} (h : CTsRep w [.one c] vs) : ∃ u, vs = #[u] ∧ CRep w (fun _ _ => False) c u := by
  obtain ⟨hs, hv⟩ := h
  obtain ⟨u, hu, hr⟩ := hv 0 _ rfl
  refine ⟨u, ?_, hr⟩
  have hs' : vs.size = 1 := hs
  apply Array.ext
  · simp [hs']
  · intro i h1 h2
    have : i = 0 := by omega
    subst this
    rw [Array.getElem?_eq_getElem (by omega)] at hu
    simpa using Option.some.inj hu
theorem res_one {lo : Nat} {w : World} {c : C} {v : Value} (h : OwnC w c (fun _ => False) v) : Res lo w [.one c] v :=
  ⟨fun _ _ _ => False, fun _ _ _ h => h.elim, fun _ _ _ _ _ h => h.elim, h⟩
def Fl.toBits {k : FloatKind} (x : Fl k) : Option Int := if nanB k x.bits then none else some (x.bits : Int)
def Fl.ofBits (k : FloatKind) (n : Int) : Option (Fl k) := if h : 0 ≤ n ∧ n.toNat < 2 ^ k.format.width then some (Fl.of k n.toNat h.2) else none
theorem num_bits {k : FloatKind} {b : Nat} {x : Fl k} (h : nanB k x.bits = false) (hc : canonF k b = x.bits) : b = x.bits := by
  unfold canonF at hc
  split at hc
  · rw [← hc, nan_nanBits] at h; cases h
  · exact hc
theorem hand_toBits {k : FloatKind} {i : IntKind} (hf : P.funcs[f]? = some fn) (hname : (fn.name == "runtime.NumGoroutine") = false) (hb : fn.body.isNone = true) (hn : Extern.findNext fn = none) (he : Extern.find fn = some e)
    (hr : ∀ b w, (e #[.float k b]).run P w = .ok (.int i b) w) (a : Fl k) (o : Int) (h : a.toBits = some o) : CallOK P f [.one (.flt k a.bits)] [.one (.int i o)] := by
  intro w vs _ hvs
  obtain ⟨u, rfl, b, rfl, hl, hc⟩ := one_arg hvs
  unfold Fl.toBits at h
  split at h
  · cases h
  · rename_i hnn
    cases h
    have := num_bits (by simpa using hnn) hc
    subst this
    exact invk_extern hf hname hb hn he (hr _ w) ⟨Below.refl _ _, res_one rfl⟩
theorem hand_ofBits {k : FloatKind} {i : IntKind} (hf : P.funcs[f]? = some fn) (hname : (fn.name == "runtime.NumGoroutine") = false) (hb : fn.body.isNone = true) (hn : Extern.findNext fn = none) (he : Extern.find fn = some e)
    (hr : ∀ n w, (e #[.int i n]).run P w = .ok (.float k n.toNat) w) (a : Int) (o : Fl k) (h : Fl.ofBits k a = some o) : CallOK P f [.one (.int i a)] [.one (.flt k o.bits)] := by
  intro w vs _ hvs
  obtain ⟨u, rfl, hu⟩ := one_arg hvs
  have hu : u = .int i a := hu
  subst hu
  unfold Fl.ofBits at h
  split at h
  · rename_i hlt
    cases h
    exact invk_extern hf hname hb hn he (hr _ w) ⟨Below.refl _ _, res_one ⟨_, rfl, hlt.2, rfl⟩⟩
  · cases h
theorem hand_sqrt (hf : P.funcs[f]? = some fn) (hname : (fn.name == "runtime.NumGoroutine") = false) (hb : fn.body.isNone = true) (hn : Extern.findNext fn = none) (he : Extern.find fn = some e)
    (hr : ∀ b, e #[.float .f64 b] = nanOr .f64 b b (FloatKind.f64.format.sqrt b)) (a o : Fl .f64) (h : some a.sqrt = some o) : CallOK P f [.one (.flt .f64 a.bits)] [.one (.flt .f64 o.bits)] := by
  intro w vs _ hvs
  cases h
  obtain ⟨u, rfl, b, rfl, hl, hc⟩ := one_arg hvs
  have hs : FloatKind.f64.format.sqrt b = FloatKind.f64.format.sqrt a.bits := by rw [sqrt_canon, hc]
  have hR : a.sqrt.bits = optF .f64 (FloatKind.f64.format.sqrt b) := by rw [hs]; rfl
  rw [hR]
  cases ho : FloatKind.f64.format.sqrt b with
  | some r =>
    refine invk_extern hf hname hb hn he (v := .float .f64 r) (w' := w) ?_ ⟨Below.refl _ _, res_one ⟨r, rfl, FloatKind.f64.format.sqrt_lt ho, rfl⟩⟩
    rw [hr, ho]; rfl
  | none =>
    obtain ⟨c, h1, h2, h3⟩ := choose_nan (P := P) (w := w) (.nanBits .f64 b b) .f64 (.inl ⟨b, b, rfl⟩)
    refine invk_extern hf hname hb hn he (v := .float .f64 c) (w' := w.drew) ?_ ⟨((Drew.drew w).below _).below, res_one ⟨c, rfl, h2, h3⟩⟩
    rw [hr, ho]
    simp [nanOr, h1]
def Fl.integ (x : Fl .f64) (way : Ieee.Toward) : Option (Fl .f64) := if nanB .f64 x.bits then none else some (Fl.of .f64 (FloatKind.f64.encode ((FloatKind.f64.decode x.bits).integral way)) (FloatKind.f64.format.write_lt _))
theorem hand_integ {nm : String} {way : Ieee.Toward} (hf : P.funcs[f]? = some fn) (hname : (fn.name == "runtime.NumGoroutine") = false) (hb : fn.body.isNone = true) (hn : Extern.findNext fn = none) (he : Extern.find fn = some e)
    (hr : ∀ b, e #[.float .f64 b] = Extern.MathFloor.toIntegral nm way #[.float .f64 b]) (a o : Fl .f64) (h : a.integ way = some o) : CallOK P f [.one (.flt .f64 a.bits)] [.one (.flt .f64 o.bits)] := by
  intro w vs _ hvs
  obtain ⟨u, rfl, b, rfl, hl, hc⟩ := one_arg hvs
  unfold Fl.integ at h
  split at h
  · cases h
  · rename_i hnn
    cases h
    have := num_bits (by simpa using hnn) hc
    subst this
    refine invk_extern hf hname hb hn he (v := .float .f64 (FloatKind.f64.encode ((FloatKind.f64.decode a.bits).integral way))) (w' := w) ?_ ⟨Below.refl _ _, res_one ⟨_, rfl, FloatKind.f64.format.write_lt _, rfl⟩⟩
    rw [hr]
    unfold Extern.MathFloor.toIntegral
    have hd : (FloatKind.f64.decode a.bits).isNaN = false := by
      have : nanB .f64 a.bits = false := by simpa using hnn
      exact this
    show Sem.run P (match FloatKind.f64.decode a.bits with
      | Ieee.Datum.nan s t => _
      | d => pure (Value.float FloatKind.f64 (FloatKind.f64.encode (Ieee.Datum.integral way d)))) w = _
    generalize FloatKind.f64.decode a.bits = d at hd ⊢
    cases d with
    | nan s t => cases hd
    | number s m p => rfl
    | infinity s => rfl
end Go.Fw
