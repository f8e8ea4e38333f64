/- Contracts of the library for texts: numerals, repeated and joined words. -/
import Derived.Test.YtcgakaboochpaaeDoorFwLB
import Derived.Test.YtcgakaboochpaaeDoorFwHX
import Derived.Lib.Join
import Derived.Lib.Repeat
namespace Go.Fw
open Go Go.RowKit

variable {P : Program} {f : FuncId} {fn : Func}

def fmtI (a0 a1 : Int) : Option ByteArray := if a1 = 16 then (if 0 ≤ a0 ∧ a0 < 9223372036854775808 then some ⟨(Go.Proofs.Hx.hex 16 a0.toNat).toArray⟩ else none) else fmt10 a0 a1
def rep1 (a0 : ByteArray) (a1 : Int) : Option ByteArray := if 0 ≤ a1 ∧ a1 ≤ 9223372036854775807 ∧ a0.size * a1.toNat ≤ 140737488355328 then some ⟨(Lib.repeatL a0.data.toList a1.toNat).toArray⟩ else none
def join1 (a0 : List ByteArray) (a1 : ByteArray) : Option ByteArray := if a0.length ≤ 140737488355328 ∧ (Lib.join (a0.map (·.data.toList)) a1.data.toList).length ≤ 140737488355328 then some ⟨(Lib.join (a0.map (·.data.toList)) a1.data.toList).toArray⟩ else none

theorem cell_of_gd {g i : Nat} {k : IntKind} {zs : List Int} {z : Int} (hm : (g, fun cs => cs = (zs.map fun z => Value.int k z).toArray) ∈ gtabs) (hz : zs[i]? = some z) {w : World} (h : Gd w) : w.cell? ⟨g, i, none⟩ = some (.int k z) := by
  obtain ⟨cs, E, fr, hc, hp⟩ := h _ hm
  have hp : cs = (zs.map fun z => Value.int k z).toArray := hp
  subst hp
  have hc : w.heap[g]? = some (.cells (zs.map fun z => Value.int k z).toArray E fr) := hc
  simp [World.cell?, hc, hz]

theorem hand_fmtI (hf : P.funcs[f]? = some fn) (hb : fn.body.isSome = true) (hname : (fn.name == "runtime.NumGoroutine") = false) (htab : ∀ w, Gd w → Lib.TabIs P w "internal/strconv.uint64pow10" .u64 Lib.pow10Tab) {g : Nat} (hdb : ∀ w, Gd w → w.cell? ⟨g, 15, none⟩ = some (.int .u8 4))
    (hc : ∀ n, -9223372036854775808 ≤ n → n ≤ 9223372036854775807 → ∀ w, Lib.TabIs P w "internal/strconv.uint64pow10" .u64 Lib.pow10Tab → Calls P f #[.int .i64 n, .int .i64 10] w fun e w' => e = .returned (.string ⟨(Lib.itoa n).toArray⟩) ∧ ∃ k os, w' = Sort.grow (w.drewN k) os)
    (hc16 : ∀ (w : World) (u : Nat), u < 9223372036854775808 → w.cell? ⟨g, 15, none⟩ = some (.int .u8 4) → Calls P f #[.int .i64 u, .int .i64 16] w fun e w' => e = .returned (.string ⟨(Go.Proofs.Hx.hex 16 u).toArray⟩) ∧ Below w.heap.size w w')
    (a0 a1 : Int) (o : ByteArray) (h : fmtI a0 a1 = some o) : CallOK P f [.one (.int .i64 a0), .one (.int .i64 a1)] [.one (.str o)] := by
  unfold fmtI at h
  split at h
  · rename_i h16
    subst h16
    split at h
    · rename_i h1
      cases h
      refine callOK_of_calls hf hb hname fun w vs hg ha => ?_
      obtain ⟨u, v, rfl, hu, hv⟩ := two_args ha
      have hu : u = .int .i64 a0 := hu
      have hv : v = .int .i64 16 := hv
      subst hu; subst hv
      have key := hc16 w a0.toNat (by omega) (hdb w hg)
      rw [show ((a0.toNat : Nat) : Int) = a0 by omega] at key
      refine key.mono ?_
      rintro _ w' ⟨rfl, hb⟩
      exact ⟨_, rfl, hb, res_one rfl⟩
    · cases h
  · exact hand_fmt10 hf hb hname htab hc a0 a1 o h
theorem hand_repeat (hf : P.funcs[f]? = some fn) (hb : fn.body.isSome = true) (hname : (fn.name == "runtime.NumGoroutine") = false)
    (hc : ∀ (s : ByteArray) (c : Nat) (w : World), c ≤ 9223372036854775807 → s.size * c ≤ 140737488355328 → Calls P f #[.string s, .int .i64 c] w fun e w' => e = .returned (.string ⟨(Lib.repeatL s.data.toList c).toArray⟩) ∧ Below w.heap.size w w')
    (a0 : ByteArray) (a1 : Int) (o : ByteArray) (h : rep1 a0 a1 = some o) : CallOK P f [.one (.str a0), .one (.int .i64 a1)] [.one (.str o)] := by
  unfold rep1 at h
  split at h
  · rename_i h1
    cases h
    refine callOK_of_calls hf hb hname fun w vs hg ha => ?_
    obtain ⟨u, v, rfl, hu, hv⟩ := two_args ha
    have hu : u = .string a0 := hu
    have hv : v = .int .i64 a1 := hv
    subst hu; subst hv
    have key := hc a0 a1.toNat w (by omega) h1.2.2
    rw [show ((a1.toNat : Nat) : Int) = a1 by omega] at key
    refine key.mono ?_
    rintro _ w' ⟨rfl, hb⟩
    exact ⟨_, rfl, hb, res_one rfl⟩
  · cases h
theorem hand_join (hf : P.funcs[f]? = some fn) (hb : fn.body.isSome = true) (hname : (fn.name == "runtime.NumGoroutine") = false)
    (h0 : ∀ (a : Option Addr) (c : Nat) (sep : ByteArray) (w : World), Calls P f #[.slice a 0 c, .string sep] w fun e w' => e = .returned (.string ⟨#[]⟩) ∧ w' = w)
    (hc : ∀ (bk o c : Nat) (xs : List ByteArray) (sep : ByteArray) (w : World), (∀ (j : Nat) x, xs[j]? = some x → w.cell? ⟨bk, o + j, none⟩ = some (.string x)) → bk < w.heap.size → xs.length ≤ 140737488355328 → xs.length ≤ c → (Lib.join (xs.map (·.data.toList)) sep.data.toList).length ≤ 140737488355328 →
      Calls P f #[.slice (some ⟨bk, o, none⟩) xs.length c, .string sep] w fun e w' => e = .returned (.string ⟨(Lib.join (xs.map (·.data.toList)) sep.data.toList).toArray⟩) ∧ Below w.heap.size w w')
    (a0 : List ByteArray) (a1 : ByteArray) (o : ByteArray) (h : join1 a0 a1 = some o) : CallOK P f [.one (sl 1 csS a0), .one (.str a1)] [.one (.str o)] := by
  unfold join1 at h
  split at h
  · rename_i h1
    cases h
    refine callOK_of_calls hf hb hname fun w vs hg ha => ?_
    obtain ⟨u, v, rfl, hu, hv⟩ := two_args ha
    have hv : v = .string a1 := hv
    subst hv
    obtain ⟨a, cap, rfl, hcap, hseq⟩ := hu
    cases a0 with
    | nil =>
      refine (h0 a cap a1 w).mono ?_
      rintro _ w' ⟨rfl, rfl⟩
      exact ⟨_, rfl, Below.refl _ _, res_one rfl⟩
    | cons x r =>
      obtain ⟨b, off, rfl, hcell⟩ := hseq (Nat.succ_pos _)
      have hcs : ∀ (j : Nat) y, (x :: r)[j]? = some y → w.cell? ⟨b, off + j, none⟩ = some (.string y) := fun j y hy => by
        have hj : j < (x :: r).length := by
          rcases List.getElem?_eq_some_iff.1 hy with ⟨h, _⟩; exact h
        obtain ⟨_, u, hu, hr⟩ := hcell j 0 hj (by omega)
        rw [Nat.mul_one, Nat.add_zero] at hu
        rw [hu]
        have hr : u = .string ((x :: r).getD j default) := hr
        rw [hr, List.getD_eq_getElem?_getD, hy]; rfl
      refine (hc b off cap (x :: r) a1 w hcs (Go.Proofs.Hx.lt (hcs 0 x rfl)) h1.1 hcap h1.2).mono ?_
      rintro _ w' ⟨rfl, hb⟩
      exact ⟨_, rfl, hb, res_one rfl⟩
  · cases h

end Go.Fw
