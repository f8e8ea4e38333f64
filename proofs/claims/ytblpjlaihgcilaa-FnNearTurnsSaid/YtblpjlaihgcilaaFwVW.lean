/- The call of a function that returns the second half of its argument, as a view of it. -/
import Derived.Test.YtblpjlaihgcilaaFwMK
namespace Go.Fw
open Go Go.RowKit

variable {cx : Cx}

/-- A function of one argument, a slice of bytes, that returns its second half. -/
def HalfOK (P : Program) (f : FuncId) : Prop :=
  ∀ w ad n cap, n ≤ cap → n < 2 ^ 62 → Invk P f #[.slice ad n cap] w fun r w' => r = .slice (if cap = n / 2 then ad else ad.map (·.add (n / 2 * 1))) (n - n / 2) (cap - n / 2) ∧ w' = w
def halfE (x : Operand) (n' : Nat) (get' : Nat → Nat → C) (s : St) : Option Eff :=
  match rho s.env x with
  | some (.v (.one (.c (.seq n sz g)))) => if sz = 1 then some { av := .v (.one (.c (.seq n' 1 get'))), ob := n < 2 ^ 62 ∧ n' = n - n / 2 ∧ ∀ i j, i < n' → j < 1 → get' i j = g (n / 2 + i) j } else none
  | _ => none

theorem half_go {P : Program} {n0 : Nat → Prop} {s : St} {m : Mem} {w : World} {a : Act} {o : Oper} {cl : Call} {f : FuncId} {n' : Nat} {get' : Nat → Nat → C} {x : Operand} {e : Eff} (hm : HalfOK P f) (he : halfE x n' get' s = some e) (hob : e.ob)
    (ho : o.op = .call cl) (hcal : cl.callee = .value (.func f)) (hargs : cl.args.toList = [x]) (hok : HeapOK n0 s.heap m w)
    (henv : ∀ t v, s.env.lookup t = some v → ∃ u, a.tmps[t]? = some u ∧ AVRep s.heap m w v u) : OpGo P n0 o a w s.heap m e := by
  unfold halfE at he
  split at he
  case h_2 => cases he
  rename_i n sz g hx
  split at he
  case isFalse => cases he
  rename_i hsz
  subst hsz
  cases he
  obtain ⟨hlt, hn', hget⟩ := hob
  have hxr : XRep s.heap m w (.c (.seq n 1 g)) (a.eval x) := rho_rep henv x _ hx
  have hrun : (execOp a.eval o).run P w = (callFunc f #[a.eval x]).run P w := by
    have ha : cl.args = #[x] := by
      rw [← Array.toArray_toList (xs := cl.args), hargs]
    have hfv : a.eval (.func f) = .func (.func f) #[] #[] := rfl
    simp only [execOp, ho, resolve, hcal, Sem.run_bind, hfv, Deferred.ofValue, Sem.run_pure, Result.andThen_ok, invoke, Array.empty_append, Array.append_empty, ha]
    simp only [List.map_toArray, List.map_cons, List.map_nil]
  obtain ⟨ad, cap, hsl, hn, hcells⟩ := hxr
  have hcall := hm w ad n cap hn hlt
  rw [← hsl] at hcall
  unfold Invk at hcall
  have hh : Eff.heap { av := .v (.one (.c (.seq n' 1 get'))), ob := n < 2 ^ 62 ∧ n' = n - n / 2 ∧ ∀ i j, i < n' → j < 1 → get' i j = g (n / 2 + i) j } s.heap = s.heap := by simp [Eff.heap]
  have fin : ∀ r w', r = .slice (if cap = n / 2 then ad else ad.map (·.add (n / 2 * 1))) (n - n / 2) (cap - n / 2) ∧ w' = w → ∃ m', HeapOK n0 s.heap m' w' ∧ Step n0 [] [] s.heap m w s.heap m' w' ∧ AVRep s.heap m' w' (.v (.one (.c (.seq n' 1 get')))) r := by
    rintro r w' ⟨rfl, rfl⟩
    refine ⟨m, hok, Step.drew (Drew.refl _), ?_⟩
    refine ⟨if cap = n / 2 then ad else ad.map (·.add (n / 2 * 1)), cap - n / 2, ?_, ?_, fun hp => ?_⟩
    · rw [hn']
    · omega
    · obtain ⟨b, off, ha, hc⟩ := hcells (by omega)
      refine ⟨b, off + n / 2 * 1, ?_, fun i j hi hj => ?_⟩
      · rw [if_neg (by omega), ha]
        simp [Addr.add_lit]
      · rw [hget i j hi hj]
        have e1 : off + n / 2 * 1 + i * 1 + j = off + (n / 2 + i) * 1 + j := by omega
        rw [e1]
        exact hc (n / 2 + i) j (by omega) hj
  unfold OpGo
  rw [hrun]
  simp only [hh]
  split at hcall
  · rename_i g' as' w1 hc
    rw [hc]
    obtain ⟨rfl, hcl⟩ := hcall
    refine ⟨rfl, hcl.mono ?_⟩
    rintro e w' ⟨v, rfl, hv⟩
    exact ⟨v, rfl, fin v w' hv⟩
  · rename_i v w1 hc
    rw [hc]
    exact fin v w1 hcall
  · exact hcall.elim

def runHalf (P : Program) (N : Lim) (ops : Array Oper) (j n' : Nat) (get' : Nat → Nat → C) (hs1 hs2 : List Hint) (ts ids : List Nat) (s : St) : Option (St × Prop × FuncId) :=
  match ops.toList.drop j with
  | o :: _ => match o.op with
    | .call cl => match cl.callee, cl.args.toList with
      | .value (.func f), [x] => match runX P N ops j (halfE x n' get') hs1 hs2 ts ids s with
        | some (s', _, _, _, ob) => some (s', ob, f)
        | none => none
      | _, _ => none
    | _ => none
  | [] => none
/-- A region in which such a function is called. -/
theorem AW.halfA {s s' : St} {ob : Prop} {f : FuncId} {Q : Exit → St → Prop} {rid : Nat} {ops : Array Oper} (j n' : Nat) (get' : Nat → Nat → C) (hs1 hs2 : List Hint) (ts ids : List Nat)
    (h : runHalf cx.P cx.N ops j n' get' hs1 hs2 ts ids s = some (s', ob, f)) (hob : ob) (hm : HalfOK cx.P f) (hq : Q .normal s') : AW cx (.region rid ops false) s Q := by
  unfold runHalf at h
  split at h
  case h_2 => cases h
  rename_i o rest hdrop
  split at h
  case h_2 => cases h
  rename_i cl ho
  split at h
  case h_2 => cases h
  rename_i f' x hcal hargs
  split at h
  case h_2 => cases h
  rename_i s2 s1 o' e ob' hX
  cases h
  have hs := runX_spec hX
  obtain ⟨rest', hd'⟩ := hs.2
  rw [hdrop] at hd'
  cases hd'
  exact AW.opX j _ hs1 hs2 ts ids hX hob (fun hob a w m _ hn0 hok henv hids hfr => half_go hm hs.1 hob ho hcal hargs hok henv) hq

/-- Such a function: its body walked at whatever value. -/
theorem halfOK_of {P : Program} {f : FuncId} {fn : Func} {c : Code} (hf : P.funcs[f]? = some fn) (hb : fn.body = some c) (hname : (fn.name == "runtime.NumGoroutine") = false)
    (h : ∀ w ad n cap, n ≤ cap → n < 2 ^ 62 → c.wp P (bodyPost P fn fun e w' => ∃ r, e = .returned r ∧ r = .slice (if cap = n / 2 then ad else ad.map (·.add (n / 2 * 1))) (n - n / 2) (cap - n / 2) ∧ w' = w) { tmps := #[.slice ad n cap] ++ Array.replicate (fn.ntmps - 1) undef, defers := [] } w) : HalfOK P f := by
  intro w ad n cap hn hlt
  have hrun : (callFunc f #[.slice ad n cap]).run P w = .ok (.enter f #[.slice ad n cap]) w := by
    simp only [callFunc, Sem.run_bind, run_program, Result.andThen_ok, hf, hname, hb, Bool.false_eq_true, ite_false, Option.isNone_some, Sem.run_pure]
  unfold Invk
  rw [hrun]
  exact ⟨rfl, calls_of_wp hf hb (h w ad n cap hn hlt)⟩

theorem half_wrap {n : Nat} (h : n < 2 ^ 62) : IntKind.i64.wrap ((n : Int).tdiv 2) = ((n / 2 : Nat) : Int) := by
  have h2 : ((n : Int)).tdiv 2 = ((n / 2 : Nat) : Int) := by
    rw [Int.tdiv_eq_ediv_of_nonneg (by omega)]; omega
  rw [h2]
  unfold IntKind.wrap; simp [IntKind.signed, IntKind.bits]; omega
/-- The cut of a slice of bytes behind its half. -/
theorem run_half {P : Program} {w : World} {t e : TypeId} {ad : Option Addr} {n cap : Nat} (hu : P.underlying t = some (.slice e)) (hs : sizeT P e = some 1) (hn : n ≤ cap) {k : Int} (hk : k = ((n / 2 : Nat) : Int)) :
    (Instr.sliceAt t (.slice ad n cap) (some (.int .i64 k)) none none).run P w = .ok (.slice (if cap = n / 2 then ad else ad.map (·.add (n / 2 * 1))) (n - n / 2) (cap - n / 2)) w := by
  subst hk
  have hunder : (underlying t).run P w = .ok (.slice e) w := run_underlying hu w
  have hb := run_bounds (P := P) (w := w) (isS := true) (n := n) (l := ((n / 2 : Nat) : Int)) (r := n) (lo := some (.int .i64 ((n / 2 : Nat) : Int))) (hi := none) hn (.inr ⟨.i64, rfl⟩) (.inl ⟨rfl, rfl⟩) (by omega) (by omega) (by omega)
  have hz : (sizeOf e).run P w = .ok 1 w := sizeT_spec hs
  simp only [Instr.sliceAt, Instr.slice, Sem.run_bind, hunder, Result.andThen_ok, hb, hz]
  have e1 : (((n / 2 : Nat) : Int)).toNat = n / 2 := by omega
  have e2 : ((n : Nat) : Int).toNat = n := by omega
  rw [e1, e2]
  rfl

theorem run_half_v {P : Program} {w : World} {t e : TypeId} {ad : Option Addr} {n cap : Nat} (hu : P.underlying t = some (.slice e)) (hs : sizeT P e = some 1) (hn : n ≤ cap) {k : Int} (hk : k = ((n / 2 : Nat) : Int)) :
    (do pure (Next.value (← Instr.sliceAt t (.slice ad n cap) (some (.int .i64 k)) none none)) : Sem Next).run P w = .ok (.value (.slice (if cap = n / 2 then ad else ad.map (·.add (n / 2 * 1))) (n - n / 2) (cap - n / 2))) w := by
  rw [Sem.run_bind, run_half hu hs hn hk]; rfl

theorem half_drop {α : Type} [Inhabited α] {cs : α → List C} {xs : List α} (h : xs.length < 2 ^ 62) {sz : Nat} :
    xs.length < 2 ^ 62 ∧ (xs.drop (xs.length / 2)).length = xs.length - xs.length / 2 ∧ ∀ i j, i < (xs.drop (xs.length / 2)).length → j < sz → gl cs (xs.drop (xs.length / 2)) i j = gl cs xs (xs.length / 2 + i) j := by
  refine ⟨h, List.length_drop, fun i j _ _ => ?_⟩
  unfold gl
  congr 2
  rw [List.getD_eq_getElem?_getD, List.getD_eq_getElem?_getD, List.getElem?_drop]

end Go.Fw
