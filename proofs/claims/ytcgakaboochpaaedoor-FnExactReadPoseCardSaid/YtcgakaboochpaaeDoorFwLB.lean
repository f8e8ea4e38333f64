/- Contracts of the library at plain data: from what the shelf lays. -/
import Derived.Test.YtcgakaboochpaaeDoorFwR7
import Derived.Test.YtcgakaboochpaaeDoorFwH
import Derived.Lib.AppendIntMem
import Derived.Lib.Bytealg
import Derived.Lib.LaidU8
namespace Go.Fw
open Go Go.RowKit

variable {P : Program} {f : FuncId} {fn : Func}

theorem callOK_of_calls {args res : List CT} (hf : P.funcs[f]? = some fn) (hb : fn.body.isSome = true) (hname : (fn.name == "runtime.NumGoroutine") = false)
    (h : ∀ w vs, Gd w → CTsRep w args vs → Calls P f vs w fun e w' => ∃ v, e = .returned v ∧ Below w.heap.size w w' ∧ Res w.heap.size w' res v) : CallOK P f args res := by
  intro w vs hg ha
  have hrun : (callFunc f vs).run P w = .ok (.enter f vs) w := by
    simp only [callFunc, Sem.run_bind, run_program, Result.andThen_ok, hf, hname, Bool.false_eq_true, ite_false]
    cases hb' : fn.body with
    | none => rw [hb'] at hb; cases hb
    | some c => simp
  unfold Invk
  rw [hrun]
  exact ⟨rfl, h w vs hg ha⟩

theorem two_args {w : World} {c d : C} {vs : Array Value} (h : CTsRep w [.one c, .one d] vs) : ∃ u v, vs = #[u, v] ∧ CRep w (fun _ _ => False) c u ∧ CRep w (fun _ _ => False) d v := by
  obtain ⟨hs, hv⟩ := h
  obtain ⟨u, hu, hr⟩ := hv 0 _ rfl
  obtain ⟨v, hv', hr'⟩ := hv 1 _ rfl
  have hs' : vs.size = 2 := hs
  refine ⟨u, v, ?_, hr, hr'⟩
  apply Array.ext
  · simp [hs']
  · intro i h1 h2
    match i, h1, h2 with
    | 0, h1, _ => rw [Array.getElem?_eq_getElem (by omega)] at hu; simpa using Option.some.inj hu
    | 1, h1, _ => rw [Array.getElem?_eq_getElem (by omega)] at hv'; simpa using Option.some.inj hv'
    | i + 2, h1, _ => omega

theorem one_byte (s : ByteArray) (h : s.size = 1) : s = ⟨#[s.data.getD 0 0]⟩ := by
  obtain ⟨d⟩ := s
  have hd : d.size = 1 := h
  congr 1
  apply Array.ext
  · simpa using hd
  · intro i h1 h2
    have : i = 0 := by omega
    subst this
    simp [Array.getD, hd]

def has1 (a0 a1 : ByteArray) : Option Bool := if a1.size = 1 then some (decide (0 ≤ Lib.indexByte a0.data.toList (a1.data.getD 0 0))) else none
def idx1 (a0 a1 : ByteArray) : Option Int := if a1.size = 1 then some (Lib.indexByte a0.data.toList (a1.data.getD 0 0)) else none
def fmt10 (a0 a1 : Int) : Option ByteArray := if a1 = 10 ∧ -9223372036854775808 ≤ a0 ∧ a0 ≤ 9223372036854775807 then some ⟨(Lib.itoa a0).toArray⟩ else none

theorem hand_contains (hf : P.funcs[f]? = some fn) (hb : fn.body.isSome = true) (hname : (fn.name == "runtime.NumGoroutine") = false)
    (hc : ∀ s c w, Calls P f #[.string s, .string ⟨#[c]⟩] w fun e w' => e = .returned (.bool (decide (0 ≤ Lib.indexByte s.data.toList c))) ∧ w' = w)
    (a0 a1 : ByteArray) (o : Bool) (h : has1 a0 a1 = some o) : CallOK P f [.one (.str a0), .one (.str a1)] [.one (.bool o)] := by
  unfold has1 at h
  split at h
  · rename_i h1
    cases h
    refine callOK_of_calls hf hb hname fun w vs _ ha => ?_
    obtain ⟨u, v, rfl, hu, hv⟩ := two_args ha
    have hu : u = .string a0 := hu
    have hv : v = .string a1 := hv
    subst hu; subst hv
    have key := hc a0 (a1.data.getD 0 0) w
    rw [← one_byte a1 h1] at key
    refine key.mono ?_
    rintro _ w' ⟨rfl, rfl⟩
    exact ⟨_, rfl, Below.refl _ _, res_one rfl⟩
  · cases h
theorem hand_index (hf : P.funcs[f]? = some fn) (hb : fn.body.isSome = true) (hname : (fn.name == "runtime.NumGoroutine") = false)
    (hc : ∀ s c w, Calls P f #[.string s, .string ⟨#[c]⟩] w fun e w' => e = .returned (.int .i64 (Lib.indexByte s.data.toList c)) ∧ w' = w)
    (a0 a1 : ByteArray) (o : Int) (h : idx1 a0 a1 = some o) : CallOK P f [.one (.str a0), .one (.str a1)] [.one (.int .i64 o)] := by
  unfold idx1 at h
  split at h
  · rename_i h1
    cases h
    refine callOK_of_calls hf hb hname fun w vs _ ha => ?_
    obtain ⟨u, v, rfl, hu, hv⟩ := two_args ha
    have hu : u = .string a0 := hu
    have hv : v = .string a1 := hv
    subst hu; subst hv
    have key := hc a0 (a1.data.getD 0 0) w
    rw [← one_byte a1 h1] at key
    refine key.mono ?_
    rintro _ w' ⟨rfl, rfl⟩
    exact ⟨_, rfl, Below.refl _ _, res_one rfl⟩
  · cases h
theorem hand_fmt10 (hf : P.funcs[f]? = some fn) (hb : fn.body.isSome = true) (hname : (fn.name == "runtime.NumGoroutine") = false) (htab : ∀ w, Gd w → Lib.TabIs P w "internal/strconv.uint64pow10" .u64 Lib.pow10Tab)
    (hc : ∀ n, -9223372036854775808 ≤ n → n ≤ 9223372036854775807 → ∀ w, Lib.TabIs P w "internal/strconv.uint64pow10" .u64 Lib.pow10Tab → Calls P f #[.int .i64 n, .int .i64 10] w fun e w' => e = .returned (.string ⟨(Lib.itoa n).toArray⟩) ∧ ∃ k os, w' = Sort.grow (w.drewN k) os)
    (a0 a1 : Int) (o : ByteArray) (h : fmt10 a0 a1 = some o) : CallOK P f [.one (.int .i64 a0), .one (.int .i64 a1)] [.one (.str o)] := by
  unfold fmt10 at h
  split at h
  · rename_i h1
    cases h
    obtain ⟨rfl, h2, h3⟩ := h1
    refine callOK_of_calls hf hb hname fun w vs hg ha => ?_
    obtain ⟨u, v, rfl, hu, hv⟩ := two_args ha
    have hu : u = .int .i64 a0 := hu
    have hv : v = .int .i64 10 := hv
    subst hu; subst hv
    refine (hc a0 h2 h3 w (htab w hg)).mono ?_
    rintro _ w' ⟨rfl, k, os, rfl⟩
    exact ⟨_, rfl, Lib.below_grow _ w (Nat.le_refl _) k os, res_one rfl⟩
  · cases h

theorem tabIs_of_gd {g : Nat} {name : String} {k : IntKind} {zs : List Int} (hm : (g, fun cs => cs = (zs.map fun z => Value.int k z).toArray) ∈ gtabs) (hg : P.globalNamed name = some g) {w : World} (h : Gd w) : Lib.TabIs P w name k zs := by
  obtain ⟨cs, E, fr, hc, hp⟩ := h _ hm
  unfold Lib.TabIs World.var?
  rw [hg]
  simp only [Option.bind_some]
  rw [hc, hp]
theorem gd_tab {g : Nat} {name : String} {k : IntKind} {zs : List Int} (hg : P.globalNamed name = some g) {w : World} (h : Lib.TabIs P w name k zs) : ∃ cs E fr, w.heap[g]? = some (.cells cs E fr) ∧ cs = (zs.map fun z => Value.int k z).toArray := by
  unfold Lib.TabIs World.var? at h
  rw [hg] at h
  simp only [Option.bind_some] at h
  split at h
  · rename_i cs E fr hc
    exact ⟨cs, E, fr, hc, Option.some.inj h⟩
  · cases h
theorem tabIs_of_reads {W : World} {name : String} {k : IntKind} {zs : List Int} {g : Nat} {t e : TypeId} {n : Nat} (hg : P.globalNamed name = some g) (hty : (P.globals[g]?).map (·.type) = some t)
    (ht : P.underlying t = some (.array n e)) (he : P.underlying e = some (.int k)) (hce : P.cellsOf e = 1) (hct : P.cellsOf t = n) (h : Lib.VarReads P W name (Lib.tabData k zs)) : Lib.TabIs P W name k zs := by
  obtain ⟨g', t', cs, fuel, p, hg', ht', hvar, hd⟩ := h
  obtain rfl := Option.some.inj (hg.symm.trans hg')
  obtain rfl := Option.some.inj (hty.symm.trans ht')
  unfold Lib.TabIs
  rw [hvar, ← Lib.cells_of_tab ht he hce hct hd]

end Go.Fw
