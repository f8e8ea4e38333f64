/- Contracts of the library for texts that are read: parts between bytes, numerals. -/
import Derived.Test.YtcgakaboochpaaeDoorFwLB
import Derived.Test.YtcgakaboochpaaeDoorFwPX
namespace Go.Fw
open Go Go.RowKit

variable {P : Program} {f : FuncId} {fn : Func}

theorem three_args {w : World} {c d e : C} {vs : Array Value} (h : CTsRep w [.one c, .one d, .one e] vs) : ∃ u v x, vs = #[u, v, x] ∧ CRep w (fun _ _ => False) c u ∧ CRep w (fun _ _ => False) d v ∧ CRep w (fun _ _ => False) e x := by
  obtain ⟨hs, hv⟩ := h
  obtain ⟨u, hu, hr⟩ := hv 0 _ rfl
  obtain ⟨v, hv', hr'⟩ := hv 1 _ rfl
  obtain ⟨x, hx, hr''⟩ := hv 2 _ rfl
  have hs' : vs.size = 3 := hs
  refine ⟨u, v, x, ?_, hr, hr', hr''⟩
  apply Array.ext
  · simp [hs']
  · intro i h1 h2
    match i, h1, h2 with
    | 0, h1, _ => rw [Array.getElem?_eq_getElem (by omega)] at hu; simpa using Option.some.inj hu
    | 1, h1, _ => rw [Array.getElem?_eq_getElem (by omega)] at hv'; simpa using Option.some.inj hv'
    | 2, h1, _ => rw [Array.getElem?_eq_getElem (by omega)] at hx; simpa using Option.some.inj hx
    | i + 3, h1, _ => omega
theorem res_own {lo B : Nat} {w : World} {c : C} {v : Value} (h1 : lo ≤ B) (h2 : B < w.heap.size) (h : OwnC w c (fun b => b = B) v) : Res lo w [.one c] v := by
  refine ⟨fun i j b => i = 0 ∧ j = 0 ∧ b = B, fun i j b hb => by omega, fun i j i' j' b hb hb' => ⟨by omega, by omega⟩, ?_⟩
  show OwnC w c (fun b => 0 = 0 ∧ 0 = 0 ∧ b = B) v
  simpa using h
theorem res_two {lo : Nat} {w : World} {c d : C} {u v : Value} (h : OwnC w c (fun _ => False) u) (h' : OwnC w d (fun _ => False) v) : Res lo w [.one c, .one d] (.tuple #[u, v]) := by
  refine ⟨fun _ _ _ => False, fun _ _ _ h => h.elim, fun _ _ _ _ _ h => h.elim, #[u, v], rfl, rfl, fun i t hi => ?_⟩
  match i, hi with
  | 0, hi => obtain rfl := Option.some.inj hi; exact ⟨u, rfl, h⟩
  | 1, hi => obtain rfl := Option.some.inj hi; exact ⟨v, rfl, h'⟩
  | i + 2, hi => simp at hi
theorem strs_own {w : World} {zs : List ByteArray} {b : Nat} {E : TypeId} {fr : Nat × Nat} {F : Nat → Prop} (h3 : okFr fr zs.length) (h4 : w.heap[b]? = some (.cells (zs.map Value.string).toArray E fr)) (h6 : F b) :
    OwnC w (sl 1 csS zs) F (.slice (some ⟨b, 0, none⟩) zs.length zs.length) := by
  refine .inr ⟨b, zs.length, (zs.map Value.string).toArray, E, fr, rfl, Nat.le_refl _, by simpa using h3, h4, by simp, h6, fun _ _ _ => False, fun i j hi hj => ⟨fun x hx => hx.elim, ?_⟩, fun _ _ _ _ _ _ _ _ _ h => h.elim⟩
  have hj0 : j = 0 := by omega
  subst hj0
  refine ⟨.string (zs.getD i default), ?_, ?_⟩
  · rw [Nat.mul_one, Nat.add_zero]
    have hi' : i < zs.length := hi
    simp [hi', List.getD]
  · show _ = Value.string (zs.getD i default)
    rfl

def split1 (a0 a1 : ByteArray) : Option (List ByteArray) := if a1.size = 1 ∧ a0.size < 4294967281 then some (Lib.splitB a1 0 (Lib.countB a0 a1) a0) else none
def p16 (a0 : ByteArray) (a1 a2 : Int) : Option (Int × Bool) := if a1 = 16 ∧ a2 = 32 ∧ a0.size ≠ 0 ∧ a0.size ≤ 8 ∧ (∀ c ∈ a0.data.toList, Go.Proofs.Px.isHex c) then some ((Go.Proofs.Px.hval a0.data.toList : Int), false) else none
def pInt (a0 : ByteArray) (a1 a2 : Int) : Option (Int × Bool) := if a1 = 10 ∧ a2 = 64 then (Go.Proofs.Px.pIntL a0.data.toList).map fun n => (n, false) else none

theorem hand_split {T : TypeId} (hf : P.funcs[f]? = some fn) (hb : fn.body.isSome = true) (hname : (fn.name == "runtime.NumGoroutine") = false)
    (hc : ∀ (s : ByteArray) (c : UInt8) (w : World), s.size < 4294967281 → Calls P f #[.string s, .string ⟨#[c]⟩] w fun e w' => e = .returned (.slice (some ⟨w.heap.size, 0, none⟩) (Lib.countB s ⟨#[c]⟩ + 1) (Lib.countB s ⟨#[c]⟩ + 1)) ∧ w' = w.alloc (.cells ((Lib.splitB ⟨#[c]⟩ 0 (Lib.countB s ⟨#[c]⟩) s).map Value.string).toArray T))
    (a0 a1 : ByteArray) (o : List ByteArray) (h : split1 a0 a1 = some o) : CallOK P f [.one (.str a0), .one (.str a1)] [.one (sl 1 csS o)] := by
  unfold split1 at h
  split at h
  · rename_i h1
    cases h
    refine callOK_of_calls hf hb hname fun w vs _ ha => ?_
    obtain ⟨u, v, rfl, hu, hv⟩ := two_args ha
    have hu : u = .string a0 := hu
    have hv : v = .string a1 := hv
    subst hu; subst hv
    have key := hc a0 (a1.data.getD 0 0) w h1.2
    rw [← one_byte a1 h1.1] at key
    refine key.mono ?_
    rintro _ w' ⟨rfl, rfl⟩
    have hlen := Lib.splitB_all a1 (by omega) 0 _ a0 rfl
    have hB := (Below.refl w.heap.size w).alloc (Nat.le_refl _) (.cells ((Lib.splitB a1 0 (Lib.countB a0 a1) a0).map Value.string).toArray T)
    refine ⟨_, rfl, hB, res_own (B := w.heap.size) (Nat.le_refl _) (by simp) ?_⟩
    rw [← hlen]
    exact strs_own (fr := (0, 0)) (E := T) (.inl rfl) (by show (w.heap.push _)[w.heap.size]? = _; simp) rfl
  · cases h
theorem hand_p16 {T : TypeId} (hf : P.funcs[f]? = some fn) (hb : fn.body.isSome = true) (hname : (fn.name == "runtime.NumGoroutine") = false)
    (hc : ∀ (t : ByteArray), t.size ≠ 0 → t.size ≤ 8 → (∀ c ∈ t.data.toList, Go.Proofs.Px.isHex c) → ∀ w : World, Calls P f #[.string t, .int .i64 16, .int .i64 32] w fun e w' => e = .returned (.tuple #[.int .u64 (Go.Proofs.Px.hval t.data.toList : Int), .nilIface]) ∧ w' = Lib.bytesWorld w T t)
    (a0 : ByteArray) (a1 a2 : Int) (o : Int × Bool) (h : p16 a0 a1 a2 = some o) : CallOK P f [.one (.str a0), .one (.int .i64 a1), .one (.int .i64 a2)] [.one (.int .u64 o.1), .one (.err o.2)] := by
  unfold p16 at h
  split at h
  · rename_i h1
    cases h
    obtain ⟨rfl, rfl, h2, h3, h4⟩ := h1
    refine callOK_of_calls hf hb hname fun w vs _ ha => ?_
    obtain ⟨u, v, x, rfl, hu, hv, hx⟩ := three_args ha
    have hu : u = .string a0 := hu
    have hv : v = .int .i64 16 := hv
    have hx : x = .int .i64 32 := hx
    subst hu; subst hv; subst hx
    refine (hc a0 h2 h3 h4 w).mono ?_
    rintro _ w' ⟨rfl, rfl⟩
    exact ⟨_, rfl, Lib.bytesWorld_below w T a0, res_two rfl rfl⟩
  · cases h

theorem hand_pInt (hf : P.funcs[f]? = some fn) (hb : fn.body.isSome = true) (hname : (fn.name == "runtime.NumGoroutine") = false)
    (hc : ∀ (t : ByteArray) (n : Int), Go.Proofs.Px.pIntL t.data.toList = some n → ∀ w : World, Calls P f #[.string t, .int .i64 10, .int .i64 64] w fun e w' => e = .returned (.tuple #[.int .i64 n, .nilIface]) ∧ Below w.heap.size w w')
    (a0 : ByteArray) (a1 a2 : Int) (o : Int × Bool) (h : pInt a0 a1 a2 = some o) : CallOK P f [.one (.str a0), .one (.int .i64 a1), .one (.int .i64 a2)] [.one (.int .i64 o.1), .one (.err o.2)] := by
  unfold pInt at h
  split at h
  · rename_i h1
    obtain ⟨rfl, rfl⟩ := h1
    obtain ⟨n, hn, rfl⟩ := Option.map_eq_some_iff.1 h
    refine callOK_of_calls hf hb hname fun w vs _ ha => ?_
    obtain ⟨u, v, x, rfl, hu, hv, hx⟩ := three_args ha
    have hu : u = .string a0 := hu
    have hv : v = .int .i64 10 := hv
    have hx : x = .int .i64 64 := hx
    subst hu; subst hv; subst hx
    refine (hc a0 n hn w).mono ?_
    rintro _ w' ⟨rfl, hB⟩
    exact ⟨_, rfl, hB, res_two rfl rfl⟩
  · cases h

def p16g (a0 : ByteArray) (a1 a2 : Int) : Option (Int × Bool) := if a1 = 16 ∧ a2 = 32 ∧ a0.size ≤ 1000000000 then some (Go.Proofs.Px.p16G a0.data.toList) else none
theorem err_of_gd {g : Nat} (hm : (g, fun cs => ∃ tp p, cs = #[.iface tp p]) ∈ gtabs) {w : World} (h : Gd w) : ∃ te pe, w.cell? ⟨g, 0, none⟩ = some (.iface te pe) := by
  obtain ⟨cs, E, fr, hc, hp⟩ := h _ hm
  obtain ⟨tp, p, rfl⟩ : ∃ tp p, cs = #[Value.iface tp p] := hp
  have hc : w.heap[g]? = some (.cells #[Value.iface tp p] E fr) := hc
  exact ⟨tp, p, by simp [World.cell?, hc]⟩
theorem hand_p16G {gs gr : Nat} (hf : P.funcs[f]? = some fn) (hb : fn.body.isSome = true) (hname : (fn.name == "runtime.NumGoroutine") = false)
    (hgs : ∀ w, Gd w → ∃ te pe, w.cell? ⟨gs, 0, none⟩ = some (.iface te pe)) (hgr : ∀ w, Gd w → ∃ te pe, w.cell? ⟨gr, 0, none⟩ = some (.iface te pe))
    (hc : ∀ (t : ByteArray), t.size ≤ 1000000000 → ∀ w : World, (∃ te pe, w.cell? ⟨gs, 0, none⟩ = some (.iface te pe)) → (∃ te pe, w.cell? ⟨gr, 0, none⟩ = some (.iface te pe)) → Calls P f #[.string t, .int .i64 16, .int .i64 32] w fun e w' => (∃ z, e = .returned (.tuple #[.int .u64 (Go.Proofs.Px.p16G t.data.toList).1, z]) ∧ (if (Go.Proofs.Px.p16G t.data.toList).2 then ∃ a b, z = .iface a b else z = .nilIface)) ∧ Below w.heap.size w w')
    (a0 : ByteArray) (a1 a2 : Int) (o : Int × Bool) (h : p16g a0 a1 a2 = some o) : CallOK P f [.one (.str a0), .one (.int .i64 a1), .one (.int .i64 a2)] [.one (.int .u64 o.1), .one (.err o.2)] := by
  unfold p16g at h
  split at h
  · rename_i h1
    cases h
    obtain ⟨rfl, rfl, h2⟩ := h1
    refine callOK_of_calls hf hb hname fun w vs hg ha => ?_
    obtain ⟨u, v, x, rfl, hu, hv, hx⟩ := three_args ha
    have hu : u = .string a0 := hu
    have hv : v = .int .i64 16 := hv
    have hx : x = .int .i64 32 := hx
    subst hu; subst hv; subst hx
    refine (hc a0 h2 w (hgs w hg) (hgr w hg)).mono ?_
    rintro _ w' ⟨⟨z, rfl, hz⟩, hB⟩
    exact ⟨_, rfl, hB, res_two rfl hz⟩
  · cases h

theorem gd_err {g : Nat} {name : String} {tp : TypeId} {p : Value} (hg : P.globalNamed name = some g) {w : World} (h : w.var? P name = some #[.iface tp p]) : ∃ cs E fr, w.heap[g]? = some (.cells cs E fr) ∧ ∃ tp p, cs = #[.iface tp p] := by
  unfold World.var? at h
  rw [hg] at h
  simp only [Option.bind_some] at h
  split at h
  · rename_i cs E fr hc
    exact ⟨cs, E, fr, hc, tp, p, Option.some.inj h⟩
  · cases h

end Go.Fw
