/- FormatInt at base 16. -/
import Derived.Test.YtcgakaboochpaaeDoorProg
import Derived.Test.YtcgakaboochpaaeDoorFwHX
namespace Go.Proofs
open Go.RowKit Go.Sort Go.Lib
set_option linter.unusedVariables false
set_option maxRecDepth 100000
theorem Tryd.tz16 (w : World) (hc : w.cell? ⟨8, 15, none⟩ = some (.int .u8 4)) :
    Calls Tryd.prog 86 #[.int .u64 16] w fun e w' => e = .returned (.int .i64 4) ∧ w' = w := by
  have e : IntKind.u64.wrap (bits BinOp.and IntKind.u64 16 (IntKind.u64.wrap (-16)) * 285870213051353865) / 288230376151711744 = 15 := by decide +kernel
  go_enter Tryd.func86, Tryd.ntmps86
  go_wp2
  go_ret
  exact ⟨rfl, rfl⟩
theorem Tryd.tz16i (w : World) (hc : w.cell? ⟨8, 15, none⟩ = some (.int .u8 4)) :
    Calls Tryd.prog 82 #[.int .u64 16] w fun e w' => e = .returned (.int .i64 4) ∧ w' = w := by
  go_enter Tryd.func82, Tryd.ntmps82
  go_wp2_with fail
  refine (Tryd.tz16 _ hc).mono fun e w1 h => ?_
  obtain ⟨rfl, rfl⟩ := h
  go_wp2
  go_ret
  exact ⟨rfl, rfl⟩
theorem Tryd.pow16 (w : World) :
    Calls Tryd.prog 81 #[.int .i64 16] w fun e w' => e = .returned (.bool true) ∧ w' = w := by
  have e : (bits BinOp.and IntKind.i64 16 15 == 0) = true := by decide +kernel
  go_enter Tryd.func81, Tryd.ntmps81
  go_wp2
  go_ret
  exact ⟨rfl, rfl⟩

set_option maxHeartbeats 3200000 in
theorem Tryd.fmt16 (w : World) (u : Nat) (hu : u < 18446744073709551616) (hc : w.cell? ⟨8, 15, none⟩ = some (.int .u8 4)) :
    Calls Tryd.prog 71 #[.slice none 0 0, .int .u64 u, .int .i64 16, .bool false, .bool false] w fun e w' => ∃ dk : Array UInt8, e = .returned (.tuple #[.slice none 0 0, .string ⟨(Hx.hex 16 u).toArray⟩]) ∧ w' = putRow Hx.enc (w.alloc (Obj.cells Tryd.zeroCells119 119)) w.heap.size 0 dk := by
  have e : IntKind.u64.wrap ((4 : Int)) = 4 := by decide
  have e2 : IntKind.u64.wrap ((16 : Int)) = 16 := by decide
  go_enter Tryd.func71, Tryd.ntmps71
  go_wp2_with fail
  refine (Tryd.pow16 _).mono fun e w1 h => ?_
  obtain ⟨rfl, rfl⟩ := h
  go_wp2_with fail
  refine (Tryd.tz16i _ ?_).mono fun e w1 h => ?_
  · rw [World.cell?_alloc_lt _ _ _ (Hx.lt hc)]; exact hc
  obtain ⟨rfl, rfl⟩ := h
  go_wp2_with fail
  have ez : Tryd.zeroCells119 = Array.replicate 65 (Value.int .u8 0) := rfl
  have HZ : Holds Hx.enc (w.alloc (Obj.cells Tryd.zeroCells119 119)) w.heap.size 0 (Array.replicate 65 (0 : UInt8)) := fun j hj => by
    have hj' : j < 65 := by simpa using hj
    refine ⟨?_, World.frozen?_alloc_new _ _ _ _⟩
    rw [World.cell?_alloc_new, ez]
    simp [hj']
  have AZ := Lib.hid HZ
  clear ez HZ
  go_loopw [1, 13] (fun vu vi wr => ∃ (v i : Nat) (dk : Array UInt8), vu = .int .u64 v ∧ vi = .int .i64 i ∧ wr = putRow Hx.enc (w.alloc (Obj.cells Tryd.zeroCells119 119)) w.heap.size 0 dk ∧ RowKit.Hid (Hx.Inv u v i dk)) (fun vu _ _ => (RowKit.intOf vu).toNat)
  case atStart => exact ⟨u, 65, _, rfl, rfl, (putRow_self _ _ _ _ _ AZ.out).symm, Lib.hid (Hx.Inv.start u hu)⟩
  case round =>
    obtain ⟨v, i, dk, rfl, rfl, hw, HI⟩ := hrel
    have hI := HI.out
    have hs := hI.size
    have hlo := hI.lo
    have hhi := hI.hi
    have hv64 : v < 18446744073709551616 := Nat.lt_of_lt_of_le hI.vlt (Nat.pow_le_pow_right (by omega) (show _ ≤ 16 by omega))
    clear hI
    have hH : Holds Hx.enc wr w.heap.size 0 dk := by rw [hw]; exact holds_putRow _ _ _ _ _ dk AZ.out (by simpa using hs)
    obtain ⟨G, hG⟩ : ∃ G : Nat → Int, ∀ t, G t = (dk[t]!.toNat : Int) := ⟨_, fun _ => rfl⟩
    obtain ⟨j, rfl⟩ : ∃ j, i = j + 1 := ⟨i - 1, by omega⟩
    have hcc : wr.cell? ⟨w.heap.size, j, none⟩ = some (.int .u8 (G j)) := by rw [hG]; have := (hH j (by omega)).1; rwa [Nat.zero_add] at this
    have hff : wr.frozen? ⟨w.heap.size, j, none⟩ = false := by have := (hH j (by omega)).2; rwa [Nat.zero_add] at this
    have AW := Lib.hid hw
    clear hw hG hH
    have eand : bits BinOp.and IntKind.u64 (v : Int) 15 = ((v % 16 : Nat) : Int) := Hx.and15 v hv64
    by_cases hv : 16 ≤ v
    · go_name_bytes DG hDG
      have eD : DG = Hx.digits := by rw [← hDG]; rfl
      subst eD
      clear hDG
      have hds : Hx.digits.size = 36 := rfl
      go_wp2
      have st := HI.out.step hv
      rw [show j + 1 - 1 = j by omega] at st
      refine ⟨⟨v / 16, j, dk.setIfInBounds j (Hx.dig (v % 16)), by rw [Int.natCast_ediv]; rfl, rfl, ?_, Lib.hid st.2⟩, ?_⟩
      · rw [AW.out]
        have := putRow_set Hx.enc (w.alloc (Obj.cells Tryd.zeroCells119 119)) w.heap.size 0 dk j (Hx.dig (v % 16)) (by omega)
        rw [Nat.zero_add] at this
        rw [← this, Hx.dig_at]
      · simp only [RowKit.intOf]
        omega
    · have eidx : Hx.digits.size = 36 := rfl
      have hsl : ∀ W, (Instr.sliceAt 119 (.pointer (some ⟨w.heap.size, 0, none⟩)) (some (.int .i64 (j : Int))) none none).run Tryd.prog W = .ok (.slice (some ⟨w.heap.size, j, none⟩) (65 - j) (65 - j)) W := fun W => by
        have hal : Tryd.prog.arrayLen 119 = 65 := by rfl
        rw [run_sliceAt_array_l W 119 ⟨w.heap.size, 0, none⟩ (by rfl) .i64 j (by omega) (by rw [hal]; omega)]
        rw [show Tryd.prog.elem 119 = 5 from rfl, Tryd.sizeOf5]
        simp [slicedAt, hal]
        rw [if_neg (by omega), Lib.add_plain, Nat.zero_add]
      go_wp2
      have st := HI.out.last (by omega)
      rw [show j + 1 - 1 = j by omega] at st
      have hcv : ∀ x : UInt8, x = Hx.dig v → (convert 85 9 (.slice (some ⟨w.heap.size, j, none⟩) (65 - j) (65 - j))).run Tryd.prog (wr.setCell ⟨w.heap.size, j, none⟩ (.int .u8 (x.toNat : Int))) = .ok (.string ⟨(Hx.hex 16 u).toArray⟩) (putRow Hx.enc (w.alloc (Obj.cells Tryd.zeroCells119 119)) w.heap.size 0 (dk.setIfInBounds j (Hx.dig v))) := by
        rintro x rfl
        have hw1 : wr.setCell ⟨w.heap.size, j, none⟩ (.int .u8 ((Hx.dig v).toNat : Int)) = putRow Hx.enc (w.alloc (Obj.cells Tryd.zeroCells119 119)) w.heap.size 0 (dk.setIfInBounds j (Hx.dig v)) := by
          rw [AW.out]
          have := putRow_set Hx.enc (w.alloc (Obj.cells Tryd.zeroCells119 119)) w.heap.size 0 dk j (Hx.dig v) (by omega)
          rw [Nat.zero_add] at this
          exact this
        rw [hw1]
        have hl : (Hx.hex 16 u).length = 65 - j := by rw [← st]; simp; omega
        have h := run_convert_bytes_back (P := Tryd.prog) (putRow Hx.enc (w.alloc (Obj.cells Tryd.zeroCells119 119)) w.heap.size 0 (dk.setIfInBounds j (Hx.dig v))) 85 9 5 ⟨w.heap.size, j, none⟩ (65 - j) (Hx.hex 16 u) rfl rfl rfl (fun t ht => by
          rw [Lib.add_plain]
          have hd : (dk.setIfInBounds j (Hx.dig v)).size = 65 := by simpa using hs
          have hc := cell?_putRow Hx.enc (w.alloc (Obj.cells Tryd.zeroCells119 119)) w.heap.size 0 _ (dk.setIfInBounds j (Hx.dig v)) AZ.out (by rw [hd]; simp) (j + t) (by omega)
          rw [Nat.zero_add] at hc
          rw [hc]
          have hg : (dk.setIfInBounds j (Hx.dig v))[j + t]! = (Hx.hex 16 u)[t] := by
            rw [getElem!_pos _ _ (by omega)]
            simp only [← st]
            rw [List.getElem_drop]; rfl
          rw [hg])
        rw [hl] at h
        exact h
      rw [hcv]
      · go_wp2
        go_ret2
        exact ⟨_, rfl, rfl⟩
      · exact Hx.dig_at v (by omega)
theorem Tryd.fmtInt16 (w : World) (u : Nat) (hu : u < 9223372036854775808) (hc : w.cell? ⟨8, 15, none⟩ = some (.int .u8 4)) :
    Calls Tryd.prog 58 #[.int .i64 u, .int .i64 16] w fun e w' => ∃ dk : Array UInt8, e = .returned (.string ⟨(Hx.hex 16 u).toArray⟩) ∧ w' = putRow Hx.enc (w.alloc (Obj.cells Tryd.zeroCells119 119)) w.heap.size 0 dk := by
  have e1 : IntKind.u64.wrap (u : Int) = u := by rw [IntKind.wrap_u64]; omega
  have e2 : decide ((u : Int) < 0) = false := decide_eq_false (by omega)
  go_enter Tryd.func58, Tryd.ntmps58
  go_wp2_with fail
  refine (Tryd.fmt16 _ u (by omega) hc).mono fun e w1 h => ?_
  obtain ⟨dk, rfl, rfl⟩ := h
  go_wp2
  go_ret
  exact ⟨_, rfl, rfl⟩
theorem Tryd.formatInt16 (w : World) (u : Nat) (hu : u < 9223372036854775808) (hc : w.cell? ⟨8, 15, none⟩ = some (.int .u8 4)) :
    Calls Tryd.prog 47 #[.int .i64 u, .int .i64 16] w fun e w' => e = .returned (.string ⟨(Hx.hex 16 u).toArray⟩) ∧ Below w.heap.size w w' := by
  go_enter Tryd.func47, Tryd.ntmps47
  go_wp2_with fail
  refine (Tryd.fmtInt16 _ u hu hc).mono fun e w1 h => ?_
  obtain ⟨dk, rfl, rfl⟩ := h
  go_wp2
  go_ret
  exact ⟨rfl, Hx.below w _ dk⟩
end Go.Proofs
