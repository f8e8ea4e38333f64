
import Derived.Test.YtblpjlaihgcilafFwE
import Derived.Laws.Small
import Derived.Laws.StructEq
namespace Go.Fw
open Go Go.RowKit
def Quiet (P : Program) (x : Sem Value) (w : World) (H : List (Nat × Ob)) (m : Mem) (av : AV) : Prop :=
  ∃ v w', x.run P w = .ok v w' ∧ Drew w w' ∧ AVRep H m w' av v
theorem Quiet.pure {P : Program} {w : World} {H : List (Nat × Ob)} {m : Mem} {av : AV} {v : Value} (h : AVRep H m w av v) : Quiet P (Pure.pure v) w H m av :=
  ⟨v, w, rfl, Drew.refl w, h⟩
theorem rep_flt {k : FloatKind} {c : Nat} {v : Value} (h : ∃ b, v = .float k b ∧ b < 2 ^ k.format.width ∧ canonF k b = c) : ∃ b, v = .float k b ∧ b < 2 ^ k.format.width ∧ canonF k b = c := h
theorem choose_nan {P : Program} {w : World} (q : Question) (k : FloatKind) (hq : (∃ x y, q = .nanBits k x y) ∨ (∃ b, q = .nanConv k b) ∨ (∃ m x y, q = .nanMinMax k m x y)) :
    ∃ b, (choose q).run P w = .ok b w.drew ∧ b < 2 ^ k.format.width ∧ canonF k b = nanBits k := by
  have hf : q.forced = false := by rcases hq with ⟨x, y, rfl⟩ | ⟨b, rfl⟩ | ⟨m, x, y, rfl⟩ <;> rfl
  have hc := cut_nan q k (w.tape w.drawn q) hq
  exact ⟨q.cut (w.tape w.drawn q), by simp [run_choose, hf], hc.2, canonF_nan hc.1⟩
def nanOr (k : FloatKind) (x y : Nat) : Option Nat → Sem Value
  | some r => Pure.pure (.float k r)
  | none => do Pure.pure (.float k (← choose (.nanBits k x y)))
theorem opt_quiet {P : Program} {w : World} {H : List (Nat × Ob)} {m : Mem} {k : FloatKind} (o : Option Nat) (ho : ∀ r, o = some r → r < 2 ^ k.format.width) (x y : Nat) :
    Quiet P (nanOr k x y o) w H m (fv k (optF k o)) := by
  cases o with
  | some r => exact Quiet.pure ⟨r, rfl, ho r rfl, rfl⟩
  | none =>
    obtain ⟨b, hb, hl, hc⟩ := choose_nan (P := P) (w := w) (.nanBits k x y) k (.inl ⟨x, y, rfl⟩)
    exact ⟨.float k b, w.drew, by simp [nanOr, hb], Drew.drew w, b, rfl, hl, hc⟩
theorem fltBin_sound {P : Program} {w : World} {H : List (Nat × Ob)} {m : Mem} {op : BinOp} {k : FloatKind} {x y : Nat} {c : C}
    (h : fltBin op k (canonF k x) (canonF k y) = some c) (t : TypeId) : Quiet P (binOp op t (.float k x) (.float k y)) w H m (cv c) := by
  have cmp : ∀ o : BinOp, fltBin o k (canonF k x) (canonF k y) = some c → c = .bool (cmpBits o k x y) → Quiet P (Pure.pure (.bool (cmpBits o k x y))) w H m (cv c) := by
    intro o _ hc; subst hc; exact Quiet.pure rfl
  cases op <;> simp only [fltBin, Option.some.injEq, reduceCtorEq] at h
  case add =>
    subst h
    rw [← add_canon]
    have e : binOp .add t (.float k x) (.float k y) = nanOr k x y (k.format.add x y) := by
      simp only [binOp, Op.floatArith, ne_eq, not_true_eq_false, ite_false]
      rfl
    rw [e]
    exact opt_quiet _ (fun _ h => k.format.add_lt h) x y
  case sub =>
    subst h
    rw [← sub_canon]
    have e : binOp .sub t (.float k x) (.float k y) = nanOr k x y (k.format.sub x y) := by
      simp only [binOp, Op.floatArith, ne_eq, not_true_eq_false, ite_false]
      rfl
    rw [e]
    exact opt_quiet _ (fun _ h => k.format.sub_lt h) x y
  case mul =>
    subst h
    rw [← mul_canon]
    have e : binOp .mul t (.float k x) (.float k y) = nanOr k x y (k.format.mul x y) := by
      simp only [binOp, Op.floatArith, ne_eq, not_true_eq_false, ite_false]
      rfl
    rw [e]
    exact opt_quiet _ (fun _ h => k.format.mul_lt h) x y
  case quo =>
    subst h
    rw [← div_canon]
    have e : binOp .quo t (.float k x) (.float k y) = nanOr k x y (k.format.div x y) := by
      simp only [binOp, Op.floatArith, ne_eq, not_true_eq_false, ite_false]
      rfl
    rw [e]
    exact opt_quiet _ (fun _ h => k.format.div_lt h) x y
  all_goals
    subst h
    rw [← cmpBits_canon]
    simp only [binOp, Op.floatCmp, ne_eq, not_true_eq_false, ite_false]
    exact Quiet.pure rfl
theorem intBin_sound {P : Program} {w : World} {H : List (Nat × Ob)} {m : Mem} {op : BinOp} {k : IntKind} {x y : Int} {r : C × Prop}
    (h : intBin op k x y = some r) (hob : r.2) (t : TypeId) : Quiet P (binOp op t (.int k x) (.int k y)) w H m (cv r.1) := by
  cases op <;> simp only [intBin, Option.some.injEq, reduceCtorEq] at h <;> subst h <;>
    first
    | (simp only [binOp, ne_eq, not_true_eq_false, ite_false, Op.intArith, Op.intBits, Op.intCmp]; exact Quiet.pure rfl)
    | (simp only [binOp, ne_eq, not_true_eq_false, ite_false, Op.intDiv, if_neg hob]; exact Quiet.pure rfl)
theorem shiftOp_sound {P : Program} {w : World} {H : List (Nat × Ob)} {m : Mem} {op : BinOp} {k k' : IntKind} {x y : Int} {r : C × Prop}
    (h : shiftOp op k x y = some r) (hob : r.2) (t : TypeId) : Quiet P (binOp op t (.int k x) (.int k' y)) w H m (cv r.1) := by
  cases op <;> simp only [shiftOp, Option.some.injEq, reduceCtorEq] at h <;> subst h
  all_goals
    have hn : ¬ y < 0 := by have : 0 ≤ y := hob; omega
    simp only [binOp, Op.shift, if_neg hn]
    exact Quiet.pure rfl
theorem strBin_sound {P : Program} {w : World} {H : List (Nat × Ob)} {m : Mem} {op : BinOp} {x y : ByteArray} {r : C × Prop}
    (h : strBin op x y = some r) (hob : r.2) (t : TypeId) : Quiet P (binOp op t (.string x) (.string y)) w H m (cv r.1) := by
  cases op <;> simp only [strBin, Option.some.injEq, reduceCtorEq] at h <;> subst h
  case add =>
    have hn : ¬ ((x.size + y.size : Nat) : Int) > IntKind.i64.max := by
      have : ((x.size + y.size : Nat) : Int) ≤ 9223372036854775807 := hob
      simp only [IntKind.max_i64]; omega
    simp only [binOp, Op.stringOp, if_neg hn]
    exact Quiet.pure rfl
  all_goals
    simp only [binOp, Op.stringOp]
    exact Quiet.pure rfl
theorem boolBin_sound {P : Program} {w : World} {H : List (Nat × Ob)} {m : Mem} {op : BinOp} {x y : Bool} {t : TypeId} {r : C}
    (h : boolBin P op t x y = some r) : Quiet P (binOp op t (.bool x) (.bool y)) w H m (cv r) := by
  unfold boolBin at h
  split at h
  · rename_i ht
    cases h
    refine ⟨.bool (x == y), w, ?_, Drew.refl w, rfl⟩
    simp only [binOp, Sem.run_bind, run_equal_bool w t x y ht, Result.andThen_ok, Sem.run_pure]
  · rename_i ht
    cases h
    refine ⟨.bool (!(x == y)), w, ?_, Drew.refl w, rfl⟩
    simp only [binOp, Sem.run_bind, run_equal_bool w t x y ht, Result.andThen_ok, Sem.run_pure]
  · cases h
theorem eqCells_run {P : Program} {w : World} {H : List (Nat × Ob)} {m : Mem} {d : Nat} {us vs : Array Value} : ∀ {fs : List Field} {xs ys : List X} {j : Nat} {r : Bool}, eqCells P fs xs ys j = some r →
    (∀ i x, xs[i]? = some x → ∃ u, us[j + i]? = some u ∧ XRep H m w x u) → (∀ i x, ys[i]? = some x → ∃ u, vs[j + i]? = some u ∧ XRep H m w x u) → (Op.eqFields (d + 1) us vs fs).run P w = .ok r w := by
  intro fs
  induction fs with
  | nil =>
    intro xs ys j r h _ _
    unfold eqCells at h
    split at h
    · cases h; rfl
    · contradiction
    · cases h
  | cons f fs ih =>
    intro xs ys j r h hx hy
    unfold eqCells at h
    split at h
    · contradiction
    · rename_i f' fs' k a xs' k' b ys' he
      cases he
      split at h
      case h_2 => cases h
      rename_i kk hu
      split at h
      case isFalse => cases h
      rename_i hc
      obtain ⟨ho, hn, hk⟩ := hc
      subst hk
      simp only [Option.map_eq_some_iff] at h
      obtain ⟨r', hr', rfl⟩ := h
      obtain ⟨u, hu1, hu2⟩ := hx 0 _ rfl
      obtain ⟨v, hv1, hv2⟩ := hy 0 _ rfl
      obtain ⟨xb, rfl, -, rfl⟩ := rep_flt hu2
      obtain ⟨yb, rfl, -, rfl⟩ := rep_flt hv2
      have hrest := ih hr' (fun i x hi => by have := hx (i + 1) x (by simpa using hi); rwa [← Nat.add_assoc, Nat.add_right_comm] at this) (fun i x hi => by have := hy (i + 1) x (by simpa using hi); rwa [← Nat.add_assoc, Nat.add_right_comm] at this)
      have p1 : (part f.type us f.offset).run P w = .ok (.float k xb) w := by rw [ho]; simp only [Nat.add_zero] at hu1; simp [part, isAgg, run_underlying hu, hu1]
      have p2 : (part f.type vs f.offset).run P w = .ok (.float k yb) w := by rw [ho]; simp only [Nat.add_zero] at hv1; simp [part, isAgg, run_underlying hu, hv1]
      have p3 : (Op.equalIn (d + 1) f.type (.float k xb) (.float k yb)).run P w = .ok (cmpBits .eql k (canonF k xb) (canonF k yb)) w := by
        rw [← cmpBits_canon]
        simp [Op.equalIn, run_underlying hu]
        rfl
      unfold Op.eqFields
      rw [if_pos hn, Sem.run_bind, p1, Result.andThen_ok, Sem.run_bind, p2, Result.andThen_ok, Sem.run_bind, p3, Result.andThen_ok]
      cases cmpBits .eql k (canonF k xb) (canonF k yb)
      · rfl
      · exact hrest
    · cases h
theorem eqAgg_sound {P : Program} {w : World} {H : List (Nat × Ob)} {m : Mem} {op : BinOp} {t : TypeId} {xs ys : List X} {u v : Value} {E : Eff} (h : eqAgg P op t xs ys = some E)
    (hx : AVRep H m w (.v (.agg xs)) u) (hy : AVRep H m w (.v (.agg ys)) v) (ox oy : Operand) :
    Quiet P (do eqGuard op t ox oy u v; binOp op t u v) w H m E.av ∧ E.new = [] ∧ E.gone = [] := by
  obtain ⟨us, rfl, -, hus⟩ := hx
  obtain ⟨vs, rfl, -, hvs⟩ := hy
  unfold eqAgg at h
  split at h
  case h_2 => cases h
  rename_i fs hfs
  split at h
  case isFalse => cases h
  rename_i hc
  obtain ⟨h1, h2⟩ := hc
  have hf : P.fieldsOf t = fs := by unfold Program.fieldsOf; rw [hfs]
  have key : ∀ r, eqCells P fs.toList xs ys 0 = some r → (Op.equalIn 10000 t (.agg us) (.agg vs)).run P w = .ok r w := by
    intro r hr
    rw [run_equalIn_agg w 9999 t us vs (by rw [hf]; exact hfs) h1, hf]
    exact eqCells_run (d := 9998) hr (fun i x hi => by rw [Nat.zero_add]; exact hus i x hi) (fun i x hi => by rw [Nat.zero_add]; exact hvs i x hi)
  split at h
  · simp only [Option.map_eq_some_iff] at h
    obtain ⟨r, hr, rfl⟩ := h
    refine ⟨⟨.bool r, w, ?_, Drew.refl w, rfl⟩, rfl, rfl⟩
    rw [Sem.run_bind, run_eqGuard_agg w _ t ox oy us vs h2, Result.andThen_ok, run_eql_struct, key r hr]; rfl
  · simp only [Option.map_eq_some_iff] at h
    obtain ⟨r, hr, rfl⟩ := h
    refine ⟨⟨.bool (!r), w, ?_, Drew.refl w, rfl⟩, rfl, rfl⟩
    rw [Sem.run_bind, run_eqGuard_agg w _ t ox oy us vs h2, Result.andThen_ok, run_neq_struct, key r hr]; rfl
  · cases h
theorem evBin_sound {P : Program} {w : World} {H : List (Nat × Ob)} {m : Mem} {op : BinOp} {t : TypeId} {x y : AV} {u v : Value} {E : Eff} (h : evBin P op t x y = some E) (hob : E.ob)
    (hx : AVRep H m w x u) (hy : AVRep H m w y v) (ox oy : Operand) :
    Quiet P (do eqGuard op t ox oy u v; binOp op t u v) w H m E.av ∧ E.new = [] ∧ E.gone = [] := by
  unfold evBin at h
  split at h
  · rename_i k a k' b
    have hu : u = .int k a := hx
    have hv : v = .int k' b := hy
    subst hu hv
    have hg : ∀ q : Sem Value, (do eqGuard op t ox oy (.int k a) (.int k' b); q) = q := by intro q; rw [eqGuard_at_int]; rfl
    rw [hg]
    split at h
    · simp only [Option.map_eq_some_iff] at h
      obtain ⟨r, hr, rfl⟩ := h
      exact ⟨shiftOp_sound hr hob t, rfl, rfl⟩
    · simp only [Option.map_eq_some_iff] at h
      obtain ⟨r, hr, rfl⟩ := h
      exact ⟨shiftOp_sound hr hob t, rfl, rfl⟩
    · split at h
      · rename_i hk; subst hk
        simp only [Option.map_eq_some_iff] at h
        obtain ⟨r, hr, rfl⟩ := h
        exact ⟨intBin_sound hr hob t, rfl, rfl⟩
      · cases h
  · rename_i k a k' b
    obtain ⟨xb, rfl, hxl, rfl⟩ := rep_flt hx
    obtain ⟨yb, rfl, hyl, rfl⟩ := rep_flt hy
    have hg : ∀ q : Sem Value, (do eqGuard op t ox oy (.float k xb) (.float k' yb); q) = q := by intro q; rw [eqGuard_at_float]; rfl
    rw [hg]
    split at h
    · rename_i hk; subst hk
      simp only [Option.map_eq_some_iff] at h
      obtain ⟨r, hr, rfl⟩ := h
      exact ⟨fltBin_sound hr t, rfl, rfl⟩
    · cases h
  · rename_i a b
    have hu : u = .string a := hx
    have hv : v = .string b := hy
    subst hu hv
    have hg : ∀ q : Sem Value, (do eqGuard op t ox oy (.string a) (.string b); q) = q := by intro q; rw [eqGuard_at_string]; rfl
    rw [hg]
    simp only [Option.map_eq_some_iff] at h
    obtain ⟨r, hr, rfl⟩ := h
    exact ⟨strBin_sound hr hob t, rfl, rfl⟩
  · rename_i a b
    have hu : u = .bool a := hx
    have hv : v = .bool b := hy
    subst hu hv
    have hg : ∀ q : Sem Value, (do eqGuard op t ox oy (.bool a) (.bool b); q) = q := by intro q; rw [eqGuard_at_bool]; rfl
    rw [hg]
    simp only [Option.map_eq_some_iff] at h
    obtain ⟨r, hr, rfl⟩ := h
    exact ⟨boolBin_sound hr, rfl, rfl⟩
  · rename_i xs ys
    exact eqAgg_sound h hx hy ox oy
  · cases h
theorem equal_nil1 {P : Program} {w : World} {t : TypeId} {ms : Array (String × TypeId)} (d : Nat) (ht : P.underlying t = some (.interface ms)) : (Op.equalIn (d + 1) t .nilIface .nilIface).run P w = .ok true w := by
  unfold Op.equalIn
  rw [Sem.run_bind, run_underlying ht, Result.andThen_ok]
  rfl
theorem equal_nil {P : Program} {w : World} {t : TypeId} {ms : Array (String × TypeId)} (ht : P.underlying t = some (.interface ms)) : (Op.equal t .nilIface .nilIface).run P w = .ok true w := by
  unfold Op.equal
  exact equal_nil1 _ ht
theorem equal_err1 {P : Program} {w : World} {t : TypeId} {ms : Array (String × TypeId)} (d : Nat) (u : TypeId) (x : Value) (ht : P.underlying t = some (.interface ms)) : (Op.equalIn (d + 1) t (.iface u x) .nilIface).run P w = .ok false w := by
  unfold Op.equalIn
  rw [Sem.run_bind, run_underlying ht, Result.andThen_ok]
  rfl
theorem equal_err {P : Program} {w : World} {t : TypeId} {ms : Array (String × TypeId)} (u : TypeId) (x : Value) (ht : P.underlying t = some (.interface ms)) : (Op.equal t (.iface u x) .nilIface).run P w = .ok false w := by
  unfold Op.equal
  exact equal_err1 _ u x ht
theorem neq_nil {P : Program} {w : World} {H : List (Nat × Ob)} {m : Mem} {t : TypeId} {ms : Array (String × TypeId)} {c : Value} (ht : P.underlying t = some (.interface ms)) (ox : Operand) : Quiet P (do eqGuard .neq t ox (.const c) .nilIface .nilIface; binOp .neq t .nilIface .nilIface) w H m (bv false) := by
  refine ⟨.bool false, w, ?_, Drew.refl w, rfl⟩
  rw [eqGuard_nil_constR]
  simp only [binOp, Sem.run_bind, equal_nil ht, Result.andThen_ok, Sem.run_pure]
  rfl
theorem eql_nil {P : Program} {w : World} {H : List (Nat × Ob)} {m : Mem} {t : TypeId} {ms : Array (String × TypeId)} {c : Value} (ht : P.underlying t = some (.interface ms)) (ox : Operand) : Quiet P (do eqGuard .eql t ox (.const c) .nilIface .nilIface; binOp .eql t .nilIface .nilIface) w H m (bv true) := by
  refine ⟨.bool true, w, ?_, Drew.refl w, rfl⟩
  rw [eqGuard_nil_constR]
  simp only [binOp, Sem.run_bind, equal_nil ht, Result.andThen_ok, Sem.run_pure]
theorem neq_err {P : Program} {w : World} {H : List (Nat × Ob)} {m : Mem} {t u : TypeId} {x : Value} {ms : Array (String × TypeId)} (ht : P.underlying t = some (.interface ms)) (ox oy : Operand) : Quiet P (do eqGuard .neq t ox oy (.iface u x) .nilIface; binOp .neq t (.iface u x) .nilIface) w H m (bv true) := by
  refine ⟨.bool true, w, ?_, Drew.refl w, rfl⟩
  rw [eqGuard_at_iface]
  simp only [binOp, Sem.run_bind, equal_err u x ht, Result.andThen_ok, Sem.run_pure]
  rfl
theorem eql_err {P : Program} {w : World} {H : List (Nat × Ob)} {m : Mem} {t u : TypeId} {x : Value} {ms : Array (String × TypeId)} (ht : P.underlying t = some (.interface ms)) (ox oy : Operand) : Quiet P (do eqGuard .eql t ox oy (.iface u x) .nilIface; binOp .eql t (.iface u x) .nilIface) w H m (bv false) := by
  refine ⟨.bool false, w, ?_, Drew.refl w, rfl⟩
  rw [eqGuard_at_iface]
  simp only [binOp, Sem.run_bind, equal_err u x ht, Result.andThen_ok, Sem.run_pure]
theorem nilBin_sound {P : Program} {w : World} {H : List (Nat × Ob)} {m : Mem} {op : BinOp} {t : TypeId} {oy : Operand} {x y : AV} {u v : Value} {E : Eff} (h : nilBin P op t oy x y = some E)
    (hx : AVRep H m w x u) (hy : AVRep H m w y v) (ox : Operand) : Quiet P (do eqGuard op t ox oy u v; binOp op t u v) w H m E.av ∧ E.new = [] ∧ E.gone = [] := by
  unfold nilBin at h
  split at h
  · rename_i c ms ht
    cases h
    have hu : u = .nilIface := hx
    have hv : v = .nilIface := hy
    subst hu hv
    exact ⟨neq_nil ht ox, rfl, rfl⟩
  · rename_i c ms ht
    cases h
    have hu : u = .nilIface := hx
    have hv : v = .nilIface := hy
    subst hu hv
    exact ⟨eql_nil ht ox, rfl, rfl⟩
  · rename_i c ms b ht
    cases h
    have hu : (if b then ∃ t x, u = .iface t x else u = .nilIface) := hx
    have hv : v = .nilIface := hy
    subst hv
    cases b
    · have hu : u = .nilIface := hu
      subst hu
      exact ⟨neq_nil ht ox, rfl, rfl⟩
    · obtain ⟨t', x', rfl⟩ := hu
      exact ⟨neq_err ht ox _, rfl, rfl⟩
  · rename_i c ms b ht
    cases h
    have hu : (if b then ∃ t x, u = .iface t x else u = .nilIface) := hx
    have hv : v = .nilIface := hy
    subst hv
    cases b
    · have hu : u = .nilIface := hu
      subst hu
      exact ⟨eql_nil ht ox, rfl, rfl⟩
    · obtain ⟨t', x', rfl⟩ := hu
      exact ⟨eql_err ht ox _, rfl, rfl⟩
  · cases h
theorem negFloat_canon {k : FloatKind} {b : Nat} : canonF k (Op.negFloat k b) = negBits k (canonF k b) := by
  unfold negBits
  cases h : nanB k b
  · rw [canonF_num h]
  · rw [canonF_nan h, canonF_nan (negFloat_nan h), canonF_nan (negFloat_nan (nan_nanBits k))]
theorem evUn_sound {P : Program} {w : World} {H : List (Nat × Ob)} {m : Mem} {op : UnOp} {x : AV} {u : Value} {E : Eff} (h : evUn op x = some E) (hx : AVRep H m w x u) :
    Quiet P (Op.unary op u) w H m E.av ∧ E.new = [] ∧ E.gone = [] := by
  unfold evUn at h
  split at h
  · cases h
    have hu : u = .bool _ := hx
    subst hu
    exact ⟨Quiet.pure rfl, rfl, rfl⟩
  · cases h
    obtain ⟨b, rfl, hl, rfl⟩ := rep_flt hx
    exact ⟨Quiet.pure ⟨_, rfl, negFloat_lt hl, negFloat_canon⟩, rfl, rfl⟩
  · cases h
    have hu : u = .int _ _ := hx
    subst hu
    exact ⟨Quiet.pure rfl, rfl, rfl⟩
  · cases h
/-! The greater and the lesser of two floats. -/
def extBits (g : Bool) (k : FloatKind) (a b : Nat) : Nat :=
  match k.format.order a b with
  | none => nanBits k
  | some .lt => if g then b else a
  | some .gt => if g then a else b
  | some .eq => if (k.decode a).neg = g then b else a
theorem extBits_ok {g : Bool} {k : FloatKind} {a b : Nat} (ha : okF k a = true) (hb : okF k b = true) : okF k (extBits g k a b) = true := by
  unfold extBits
  split
  · exact okF_nanBits k
  · split <;> assumption
  · split <;> assumption
  · split <;> assumption
def Fl.maxF {k : FloatKind} (x y : Fl k) : Fl k := ⟨extBits true k x.bits y.bits, extBits_ok x.ok y.ok⟩
theorem order_nan_l {k : FloatKind} {x y : Nat} (h : nanB k x = true) : k.format.order x y = none := by
  obtain ⟨s, t, e⟩ := read_nan h
  unfold Ieee.Format.order
  rw [e]; rfl
theorem ext_quiet {P : Program} {w : World} {H : List (Nat × Ob)} {m : Mem} {k : FloatKind} {x y : Nat} (g : Bool) (hx : x < 2 ^ k.format.width) (hy : y < 2 ^ k.format.width) {s : Sem Value}
    (hs : s = match k.format.order x y with
      | none => (do Pure.pure (.float k (← choose (.nanMinMax k g x y))))
      | some .lt => Pure.pure (.float k (if g then y else x))
      | some .gt => Pure.pure (.float k (if g then x else y))
      | some .eq => Pure.pure (.float k (if (k.decode x).neg = g then y else x))) :
    Quiet P s w H m (fv k (extBits g k (canonF k x) (canonF k y))) := by
  subst hs
  have hc := order_canon k x y
  cases ho : k.format.order x y with
  | none =>
    obtain ⟨b, hb, hl, hcn⟩ := choose_nan (P := P) (w := w) (.nanMinMax k g x y) k (.inr (.inr ⟨g, x, y, rfl⟩))
    refine ⟨.float k b, w.drew, by simp [hb], Drew.drew w, b, rfl, hl, ?_⟩
    unfold extBits
    rw [← hc, ho]; exact hcn
  | some o =>
    have hn : nanB k x = false := by
      cases h : nanB k x
      · rfl
      · rw [order_nan_l h] at ho; cases ho
    have hcx : canonF k x = x := canonF_num hn
    have e : ∀ z : Nat, (z = x ∨ z = y) → extBits g k (canonF k x) (canonF k y) = canonF k z → Quiet P (Pure.pure (.float k z)) w H m (fv k (extBits g k (canonF k x) (canonF k y))) := by
      intro z hz he
      exact Quiet.pure ⟨z, rfl, by rcases hz with rfl | rfl <;> assumption, he.symm⟩
    cases o with
    | lt => 
      cases g
      · exact e x (.inl rfl) (by unfold extBits; rw [← hc, ho]; rfl)
      · exact e y (.inr rfl) (by unfold extBits; rw [← hc, ho]; rfl)
    | gt =>
      cases g
      · exact e y (.inr rfl) (by unfold extBits; rw [← hc, ho]; rfl)
      · exact e x (.inl rfl) (by unfold extBits; rw [← hc, ho]; rfl)
    | eq =>
      by_cases hd : (k.decode x).neg = g
      · simp only [hd, if_true]
        exact e y (.inr rfl) (by unfold extBits; rw [← hc, ho]; simp only []; rw [hcx, if_pos hd])
      · simp only [hd, if_false]
        exact e x (.inl rfl) (by unfold extBits; rw [← hc, ho]; simp only []; rw [hcx, if_neg hd])
theorem max_quiet {P : Program} {w : World} {H : List (Nat × Ob)} {m : Mem} {k : FloatKind} {x y : Nat} (ts : Array TypeId) (t : TypeId) (hx : x < 2 ^ k.format.width) (hy : y < 2 ^ k.format.width) :
    Quiet P (Builtin.max_ ts t #[.float k x, .float k y]) w H m (fv k (extBits true k (canonF k x) (canonF k y))) := by
  refine ext_quiet true hx hy ?_
  simp only [Builtin.max_, Builtin.max2, List.foldlM, bind_pure]
  cases k.format.order x y with
  | none => rfl
  | some o => cases o <;> simp <;> rfl
theorem min_quiet {P : Program} {w : World} {H : List (Nat × Ob)} {m : Mem} {k : FloatKind} {x y : Nat} (ts : Array TypeId) (t : TypeId) (hx : x < 2 ^ k.format.width) (hy : y < 2 ^ k.format.width) :
    Quiet P (Builtin.min_ ts t #[.float k x, .float k y]) w H m (fv k (extBits false k (canonF k x) (canonF k y))) := by
  refine ext_quiet false hx hy ?_
  simp only [Builtin.min_, Builtin.min2, List.foldlM, bind_pure]
  cases k.format.order x y with
  | none => rfl
  | some o =>
    cases o
    · simp
    · cases hd : (k.decode x).neg <;> simp <;> rfl
    · simp
end Go.Fw
