
import Derived.Test.YtblpjlaihgcilafFwPu
import Derived.Test.YtblpjlaihgcilafFwZ
import Derived.Test.YtblpjlaihgcilafFwH
namespace Go.Fw
open Go Go.RowKit
variable {cx : Cx}
theorem AW.rawBits {s s1 : St} {ob : Prop} {Q : Exit → St → Prop} {id d f c : Nat} {k : FloatKind} {i : IntKind} {x : Operand} {l rest : List Oper} {o : Oper} {cl : Call} {ops : Array Oper} {fn : Func} {e : Array Value → Sem Value} (hs : List Hint)
    (hops : ops.toList = l ++ o :: rest) (h : runOps cx.P cx.N ops l hs s = some (s1, ob)) (hob : ob) (ho : o.op = .call cl) (hcal : cl.callee = .value (.func f)) (hargs : cl.args.toList = [x]) (hx : rho s1.env x = some (fv k c))
    (hg : o.guard = none) (hd : o.dst = some d) (hdN : Nat.blt d cx.N.n = true)
    (hf : cx.P.funcs[f]? = some fn) (hname : (fn.name == "runtime.NumGoroutine") = false) (hb : fn.body.isNone = true) (hn : Extern.findNext fn = none) (he : Extern.find fn = some e)
    (hr : ∀ b w, (e #[.float k b]).run cx.P w = .ok (.int i b) w)
    (hq : ∀ b : Nat, b < 2 ^ k.format.width → canonF k b = c → ∃ hs2 s2 ob2, runOps cx.P cx.N ops rest hs2 ⟨(d, iv i b) :: s1.env, s1.heap⟩ = some (s2, ob2) ∧ ob2 ∧ Q .normal s2) : AW cx (.region id ops false) s Q := by
  intro a w hR
  have hops' : ops = (l ++ o :: rest).toArray := by rw [← hops]
  have key : wpList cx.P ops (fun e a' w' => ∃ s', Q e s' ∧ R cx s' a' w') (l ++ o :: rest) a w := by
    refine runOps_then l hs s s1 ob h hob (fun a w hR => ?_) a w hR
    refine wpList_step fun K hK => ?_
    obtain ⟨m, hok, henv⟩ := hR.mem
    have hw : Region.wanted o (yielded ops a.tmps) = true := by unfold Region.wanted; rw [hg]
    rw [hw]
    have has : rhos (rho s1.env) cl.args.toList = some [fv k c] := by
      rw [hargs]; unfold rhos; rw [hx]; rfl
    obtain ⟨vs, hrun, hsz, hvs⟩ := callee_spec (P := cx.P) (o := o) (a := a) (w := w) (H := s1.heap) (m := m) (ρ := rho s1.env) (f := .func f) (g := f) (as := [fv k c]) (as' := [fv k c]) ho hcal has rfl
      (fun y _ av hav => rho_rep henv y av hav)
    obtain ⟨u, hu, b, hub, hb1, hb2⟩ := hvs 0 _ rfl
    have hvs1 : vs = #[.float k b] := by
      have hs1 : vs.size = 1 := hsz
      apply Array.ext
      · simp [hs1]
      · intro j h1 h2
        have : j = 0 := by omega
        subst this
        rw [Array.getElem?_eq_getElem (by omega)] at hu
        rw [Option.some.inj hu, hub]; rfl
    have hrun2 : (execOp a.eval o).run cx.P w = .ok (.value (.int i b)) w := by
      rw [hrun, run_callFunc_extern hf hname hb hn he, hvs1, hr]
      rfl
    show o.wp cx.P a w K _
    unfold Oper.wp
    rw [hrun2]
    obtain ⟨hs2, s2, ob2, h2, hob2, hQ⟩ := hq b hb1 hb2
    refine hK _ _ ?_
    have hR2 : R cx ⟨(d, iv i b) :: s1.env, s1.heap⟩ (a.put o.dst (.int i b)) w := by
      refine ⟨by rw [hd]; exact hR.defers, by rw [hd]; simp [Act.put, hR.size], hR.below, hR.lowK, m, hok, ?_⟩
      rw [hd]
      exact put_rep (by rw [hR.size]; exact Nat.le_of_ble_eq_true hdN) rfl henv
    have := runOps_then (rest := []) (K := fun e a' w' => ∃ s', Q e s' ∧ R cx s' a' w') rest hs2 _ s2 ob2 h2 hob2 (fun a w hR => wpList_nil ⟨s2, hQ, hR⟩) _ _ hR2
    simpa using this
  rw [hops'] at key ⊢
  exact wp_region_lit key
def runRaw (P : Program) (N : Lim) (ops : Array Oper) (j : Nat) (hs : List Hint) (s : St) : Option (St × Prop × Nat × FloatKind × Nat × FuncId) :=
  match ops.toList.drop j with
  | o :: _ => match o.op, o.guard, o.dst with
    | .call cl, none, some d => match cl.callee, cl.args.toList, runOps P N ops (ops.toList.take j) hs s with
      | .value (.func f), [x], some (s1, ob) => match rho s1.env x with
        | some (.v (.one (.c (.flt k c)))) => if Nat.blt d N.n then some (s1, ob, d, k, c, f) else none
        | _ => none
      | _, _, _ => none
    | _, _, _ => none
  | _ => none
theorem AW.rawA {s s1 : St} {ob : Prop} {Q : Exit → St → Prop} {id d f c : Nat} {k : FloatKind} {i : IntKind} {ops : Array Oper} {fn : Func} {e : Array Value → Sem Value} (j : Nat) (hs : List Hint)
    (h : runRaw cx.P cx.N ops j hs s = some (s1, ob, d, k, c, f)) (hob : ob)
    (hf : cx.P.funcs[f]? = some fn) (hname : (fn.name == "runtime.NumGoroutine") = false) (hb : fn.body.isNone = true) (hn : Extern.findNext fn = none) (he : Extern.find fn = some e)
    (hr : ∀ b w, (e #[.float k b]).run cx.P w = .ok (.int i b) w)
    (hq : ∀ b : Nat, b < 2 ^ k.format.width → canonF k b = c → ∃ hs2 s2 ob2, runOps cx.P cx.N ops (ops.toList.drop (j + 1)) hs2 ⟨(d, iv i b) :: s1.env, s1.heap⟩ = some (s2, ob2) ∧ ob2 ∧ Q .normal s2) : AW cx (.region id ops false) s Q := by
  unfold runRaw at h
  split at h
  case h_2 => cases h
  rename_i o rest hdrop
  split at h
  case h_2 => cases h
  rename_i cl d' ho hg hd
  split at h
  case h_2 => cases h
  rename_i f' x s1' ob' hcal hargs hrun
  split at h
  case h_2 => cases h
  rename_i k' c' hx
  split at h
  case isFalse => cases h
  rename_i hdN
  cases h
  have hrest : ops.toList.drop (j + 1) = rest := by
    rw [← List.drop_drop, hdrop]; rfl
  rw [hrest] at hq
  refine AW.rawBits (l := ops.toList.take j) (rest := rest) (o := o) hs ?_ hrun hob ho hcal hargs hx hg hd hdN hf hname hb hn he hr hq
  rw [← hdrop, List.take_append_drop]
theorem abs_lt (b : Nat) : b % 9223372036854775808 < 2 ^ FloatKind.f64.format.width := by
  have : b % 9223372036854775808 < 9223372036854775808 := Nat.mod_lt _ (by omega)
  exact Nat.lt_trans this (by decide)
def Fl.abs (x : F64) : F64 := Fl.of .f64 (x.bits % 9223372036854775808) (abs_lt _)
theorem nan_abs {b : Nat} (h : nanB .f64 b = true) : nanB .f64 (b % 9223372036854775808) = true := by
  have key : ∀ x, nanB .f64 x = decide (9218868437227405312 < x % 9223372036854775808) := by
    intro x
    have hs : Ieee.double.signWeight = 9223372036854775808 := by decide
    have hi : Ieee.double.infRung = 9218868437227405312 := by decide
    have hb : Ieee.double.binade = 4503599627370496 := by decide
    unfold nanB Ieee.Format.read
    simp only [FloatKind.format, hs, hi, hb]
    split
    · rename_i h1; simp [Ieee.Datum.isNaN]; omega
    · split
      · rename_i h1 h2; simp [Ieee.Datum.isNaN]; omega
      · split
        · rename_i h1 h2 h3; simp [Ieee.Datum.isNaN, h3]
        · rename_i h1 h2 h3; simp [Ieee.Datum.isNaN]; omega
  rw [key] at h ⊢
  rw [Nat.mod_mod]; exact h
theorem abs_canon {b : Nat} : canonF .f64 (b % 9223372036854775808) = canonF .f64 (canonF .f64 b % 9223372036854775808) := by
  cases h : nanB .f64 b
  · rw [canonF_num h]
  · rw [canonF_nan h, canonF_nan (nan_abs h), canonF_nan (nan_abs (nan_nanBits .f64))]
theorem andNot_sign {b : Nat} (_h : b < 2 ^ 64) : bits .andNot .u64 (b : Int) 9223372036854775808 = ((b % 9223372036854775808 : Nat) : Int) := by
  have hb : (BitVec.ofInt 64 (b : Int)) = BitVec.ofNat 64 b := by simp
  have : bits .andNot .u64 (b : Int) 9223372036854775808 = IntKind.u64.wrap (((BitVec.ofNat 64 b &&& ~~~ (BitVec.ofNat 64 9223372036854775808)).toNat : Nat) : Int) := by
    rw [← hb]; rfl
  rw [this]
  have e : (BitVec.ofNat 64 b &&& ~~~ (BitVec.ofNat 64 9223372036854775808)) = BitVec.ofNat 64 (b % 9223372036854775808) := by
    apply BitVec.eq_of_getLsbD_eq
    intro j hj
    simp only [BitVec.getLsbD_and, BitVec.getLsbD_not, BitVec.getLsbD_ofNat, hj, decide_true, Bool.true_and]
    have e2 : (9223372036854775808 : Nat) = 2 ^ 63 := by decide
    rw [e2, Nat.testBit_mod_two_pow, Nat.testBit_two_pow]
    by_cases hj2 : j < 63
    · have : ¬ (63 = j) := by omega
      simp [hj2, this]
    · have : j = 63 := by omega
      subst this
      simp
  rw [e, BitVec.toNat_ofNat]
  have h3 : b % 9223372036854775808 < 9223372036854775808 := Nat.mod_lt _ (by omega)
  rw [Nat.mod_eq_of_lt (by omega)]
  have : ∀ n : Int, IntKind.u64.wrap n = n % 18446744073709551616 := fun n => by simp [IntKind.wrap, IntKind.bits, IntKind.signed]
  rw [this]; omega
theorem ofBits_abs {b : Nat} (_h : b < 2 ^ FloatKind.f64.format.width) (x : F64) (hc : canonF .f64 b = x.bits) : Fl.ofBits .f64 ((b % 9223372036854775808 : Nat) : Int) = some x.abs := by
  have h3 : b % 9223372036854775808 < 9223372036854775808 := Nat.mod_lt _ (by omega)
  unfold Fl.ofBits
  rw [dif_pos ⟨by omega, by rw [Int.toNat_natCast]; exact abs_lt b⟩]
  congr 1
  apply Fl.ext
  show canonF .f64 ((b % 9223372036854775808 : Nat) : Int).toNat = canonF .f64 (x.bits % 9223372036854775808)
  rw [Int.toNat_natCast, ← hc, ← abs_canon]
end Go.Fw
