/- The law of recordings that are stored, cut, bent and recovered. -/
import Derived.Test.YtdddhokfmablnadFwGDRcLaw2
namespace Go.Fw
open Go

theorem r8At_rng {K : Nat} {c : List Int} (hc : Byt c) (k n : Int) (hk : 0 ≤ k) (hn : 1 ≤ n) : ∃ r, laws_r8At K c k n = some r ∧ 0 ≤ r ∧ r < n := by
  unfold laws_r8At
  rw [ite2_dec]
  by_cases h1 : n ≤ 1
  · rw [if_pos h1, bind_of, ite2_true]; exact ⟨0, rfl, by omega, by omega⟩
  · rw [if_neg h1, bind_of, ite2_dec]
    by_cases h : k ≥ (c.length : Int)
    · rw [if_pos h]; exact ⟨0, rfl, by omega, by omega⟩
    · have hb := hc _ (getD_mem (xs := c) (i := k.toNat) (by omega))
      rw [if_neg h, chk_pos (by omega), chk_pos (by omega), wrap_in (by omega) (by omega)]
      exact ⟨_, rfl, tmod_in hb.1 (by omega)⟩
theorem xor_u8 (a b : Int) : 0 ≤ bits .xor .u8 a b ∧ bits .xor .u8 a b < 256 := by
  unfold bits
  simp only [IntKind.wrap_u8]
  omega
theorem Pre.cut {s : ByteArray} {l : List Int} (h : Pre s l) {n : Nat} (h1 : l.length ≤ n) (h2 : n ≤ s.size) : Pre (s.extract 0 n) l := by
  refine ⟨by rw [ByteArray.size_extract]; omega, ?_⟩
  rw [ByteArray.extract_extract, ← h.2]
  congr 1
  omega
theorem ext_left {a b : ByteArray} {n : Nat} (h : n ≤ a.size) : (a ++ b).extract 0 n = a.extract 0 n := by
  have e : (a ++ b).extract 0 a.size = a := ByteArray.extract_append_eq_left rfl
  have := congrArg (fun z : ByteArray => z.extract 0 n) e
  simp only [ByteArray.extract_extract] at this
  rw [← this]
  congr 1
  omega
theorem Pre.more {s t : ByteArray} {l : List Int} (h : Pre s l) : Pre (s ++ t) l := by
  refine ⟨by rw [ByteArray.size_append]; have := h.1; omega, ?_⟩
  rw [ext_left h.1]; exact h.2
theorem Pre.of {s : ByteArray} {l m : List Int} (h : s = strOf (l ++ m)) : Pre s l := by
  subst h
  exact Pre.left (m := m) pre_self
/-- What is recovered of bytes that begin so and hold no other record. -/
theorem recover_upto {K b : Nat} (hK : 3000000 < K) (h1 : 1 ≤ b) (hb : b ≤ 12) {s : ByteArray} (hs : s.size ≤ 1048576) {l1 : List Int} {x1 : List F32} {p1 : List (List F32)} (h : Sto K (head0 b) (zero0 b) p1 l1 x1) (hp : Pre s l1) (hn : p1.length ≤ 64) (hf : s.size ≤ l1.length ∨ (s.size : Int) < (l1.length : Int) + 1 + 5 * bt s l1.length + 2) :
    impl_RecoverRecording K s = some (Recording.mk (b : Int) (p1.map fun y => poseL y b), (l1.length : Int), true) := by
  obtain ⟨r, hr⟩ := h.grow
  have hp0 : Pre s (head0 b) := by rw [hr] at hp; exact hp.left
  obtain ⟨e1, e2⟩ := recover_head (K := K) h1 hb hs hp0
  have e3 := recover_held hK h1 hb hs h K [] (head0_in b) (by simp [zero0]) (by simpa using hn) (by omega) hp
  have h5 : ((head0 b).length : Int) = 5 := by rw [head0_len]; rfl
  have hle := hp.1
  rw [h5] at e3
  rw [e1, e3, List.nil_append]
  obtain ⟨k, hk⟩ : ∃ k, K - p1.length = k + 1 := ⟨K - p1.length - 1, by omega⟩
  have e0 : IntKind.i64.wrap ((5 : Int) - 1) = 4 := by decide
  have ew : IntKind.i64.wrap (b : Int) = (b : Int) := wrap_in (by omega) (by omega)
  rw [hk, impl_RecoverRecording_l1, e0, show ((4 : Int).toNat) = 4 from rfl, e2, ew, ite2_dec, next_few s l1.length x1 hs (by omega) hf]
  split
  · rw [bind_of, Bool.not_false, ite2_true]
  · rfl
/-- What is recovered of bytes that begin so. -/
theorem recover_from {K b : Nat} (hK : 3000000 < K) (h1 : 1 ≤ b) (hb : b ≤ 12) {s : ByteArray} (hs : s.size ≤ 1048576) {l1 : List Int} {x1 : List F32} {p1 : List (List F32)} (h : Sto K (head0 b) (zero0 b) p1 l1 x1) (hp : Pre s l1) (hn : p1.length ≤ 64) :
    ∃ qs a' x2, impl_RecoverRecording K s = some (Recording.mk (b : Int) (qs.map fun y => poseL y b), ((a' : Nat) : Int), true) ∧ Sto K (head0 b) (zero0 b) qs (bytesOf (s.extract 0 a')) x2 ∧ l1.length ≤ a' ∧ a' ≤ s.size ∧ qs.length ≤ 64 := by
  obtain ⟨r, hr⟩ := h.grow
  have hp0 : Pre s (head0 b) := by rw [hr] at hp; exact hp.left
  obtain ⟨e1, e2⟩ := recover_head (K := K) h1 hb hs hp0
  have e3 := recover_held hK h1 hb hs h K [] (head0_in b) (by simp [zero0]) (by simpa using hn) (by omega) hp
  have h5 : ((head0 b).length : Int) = 5 := by rw [head0_len]; rfl
  have hle := hp.1
  have hx := h.lens.1
  have hz : (zero0 b).length = 3 + 4 * b := by simp [zero0]
  rw [h5] at e3
  obtain ⟨qs, a', x2, g1, g2, g3, g4, g5⟩ := recover_sound hK h1 hb hs e2 (K - p1.length) l1.length x1 (p1.map fun y => poseL y b) hle (by omega) (by simpa using hn) (by simp; omega)
  rw [e1, e3, List.nil_append, g1]
  rw [hp.2, bytesOf_strOf (h.inb (head0_in b))] at g2
  refine ⟨p1 ++ qs, a', x2, by rw [List.map_append], h.app g2, g3, g4, by simpa using g5⟩
theorem back_map {b : Nat} {ps : List (List F32)} (h : ∀ y ∈ ps, y.length = 3 + 4 * b) : (ps.map fun y => poseL y b).map numsL = ps := by
  rw [List.map_map]
  conv => rhs; rw [← List.map_id ps]
  exact List.map_congr_left fun y hy => nums_pose (h y hy)
theorem posed_map {b : Nat} {fr : List Pose} (h : ∀ p ∈ fr, p.Turns.length = b) : (fr.map numsL).map (fun y => poseL y b) = fr := by
  rw [List.map_map]
  conv => rhs; rw [← List.map_id fr]
  refine List.map_congr_left fun p hp => ?_
  have := pose_back p
  rw [h p hp] at this
  exact this
theorem rr_of {b : Nat} (h1 : 1 ≤ b) (hb : b ≤ 12) {ps : List (List F32)} (hn : ps.length ≤ 64) : Rr b (Recording.mk (b : Int) (ps.map fun y => poseL y b)) :=
  ⟨rfl, h1, hb, by simpa using hn, fun p hp => by
    obtain ⟨y, _, rfl⟩ := List.mem_map.1 hp
    exact poseL_len y b⟩

/-! The law in parts. -/
def atE (v10 : Int × Bool) (v25 v27 : Int) : Int := (IntKind.i64.wrap ((5 : Int) + ((IntKind.i64.wrap ((IntKind.i64.wrap ((256 : Int) * v25)) + v27)).tmod (IntKind.i64.wrap (v10.1 - (4 : Int))))))
def bentP (K : Nat) (v31 : Recording × Int × Bool) (bent0 : ByteArray) : Option Bool := ((impl_RecoverRecording K bent0).bind fun v61 => (impl_StoreRecording K v61.1).bind fun v63 => (ite2 (v61.2.2) (ite2 (v63.2) (ite2 ((decide (v61.2.1 ≥ v31.2.1))) (chk (0 ≤ (0 : Int) ∧ (0 : Int) ≤ v61.2.1 ∧ v61.2.1 ≤ (bent0.size : Int)) (some (v63.1.toList == (bent0.extract (0 : Int).toNat v61.2.1.toNat).toList))) (some false)) (some false)) (some false)).bind fun j69 => some j69)
def tailP (K : Nat) (a1 : List Int) (v6 : ByteArray × Bool) (v10 : Int × Bool) (v31 : Recording × Int × Bool) (at0 : Int) : Option Bool := (ite2 ((at0 == v10.1)) (some (v31.2.1 == v10.1)) (chk (0 ≤ at0 ∧ at0 < (v6.1.size : Int)) ((laws_r8At K a1 (2 : Int) (255 : Int)).bind fun v55 => chk (∀ x ∈ ([(bits .xor .u8 (bt v6.1 at0.toNat) (IntKind.u8.wrap (IntKind.i64.wrap ((1 : Int) + v55))))]), 0 ≤ x ∧ x < 256) (chk ((((v6.1.extract (0 : Int).toNat at0.toNat).size + (strOf ([(bits .xor .u8 (bt v6.1 at0.toNat) (IntKind.u8.wrap (IntKind.i64.wrap ((1 : Int) + v55))))])).size : Nat) : Int) ≤ 9223372036854775807) (chk (0 ≤ (IntKind.i64.wrap (at0 + (1 : Int))) ∧ (IntKind.i64.wrap (at0 + (1 : Int))) ≤ (v6.1.size : Int) ∧ (v6.1.size : Int) ≤ (v6.1.size : Int)) (chk (((((v6.1.extract (0 : Int).toNat at0.toNat) ++ (strOf ([(bits .xor .u8 (bt v6.1 at0.toNat) (IntKind.u8.wrap (IntKind.i64.wrap ((1 : Int) + v55))))]))).size + (v6.1.extract (IntKind.i64.wrap (at0 + (1 : Int))).toNat (v6.1.size : Int).toNat).size : Nat) : Int) ≤ 9223372036854775807) (bentP K v31 (((v6.1.extract (0 : Int).toNat at0.toNat) ++ (strOf ([(bits .xor .u8 (bt v6.1 at0.toNat) (IntKind.u8.wrap (IntKind.i64.wrap ((1 : Int) + v55))))]))) ++ (v6.1.extract (IntKind.i64.wrap (at0 + (1 : Int))).toNat (v6.1.size : Int).toNat)))))))))
def cutP (K : Nat) (a1 : List Int) (v4 : Recording) (v6 : ByteArray × Bool) (v10 : Int × Bool) (at0 : Int) : Option Bool := (chk (0 ≤ (0 : Int) ∧ (0 : Int) ≤ at0 ∧ at0 ≤ (v6.1.size : Int)) ((impl_RecoverRecording K (v6.1.extract (0 : Int).toNat at0.toNat)).bind fun v31 => (impl_StoreRecording K v31.1).bind fun v33 => (ite2 ((!v31.2.2)) (some true) (ite2 ((!v33.2)) (some true) (ite2 ((decide (v31.2.1 > at0))) (some true) (chk (0 ≤ (0 : Int) ∧ (0 : Int) ≤ v31.2.1 ∧ v31.2.1 ≤ (v6.1.size : Int)) (ite2 ((!(v33.1.toList == (v6.1.extract (0 : Int).toNat v31.2.1.toNat).toList))) (some true) (some (decide ((v31.1.Frames.length : Int) > (v4.Frames.length : Int))))))))).bind fun j40 => ite2 (j40) (some false) (ite2 ((decide ((v31.1.Frames.length : Int) < (v4.Frames.length : Int)))) ((impl_SliceFrames K v4 (0 : Int) (IntKind.i64.wrap ((v31.1.Frames.length : Int) + (1 : Int)))).bind fun v44 => (impl_StoredSize K v44.1).bind fun v46 => (ite2 ((!v44.2)) (some true) (ite2 ((!v46.2)) (some true) (some (decide (v46.1 ≤ at0))))).bind fun j50 => ite2 (j50) (some false) (tailP K a1 v6 v10 v31 at0)) (tailP K a1 v6 v10 v31 at0))))
theorem law_parts (K : Nat) (a0 a1 : List Int) : laws_FnRecorded K a0 a1 = ((laws_r8Long K a0 a1).bind fun v1 => ite2 (v1) (some true) ((spec_R8Recording K a0).bind fun v4 => (impl_StoreRecording K v4).bind fun v6 => (impl_LoadRecording K v6.1).bind fun v8 => (impl_StoredSize K v4).bind fun v10 => (ite2 ((!v6.2)) (some true) (ite2 ((!v8.2)) (some true) (ite2 ((!v10.2)) (some true) ((impl_ValidRecording K v4).bind fun v15 => ite2 ((!v15)) (some true) ((impl_SameRecording K v8.1 v4).bind fun v18 => ite2 ((!v18)) (some true) (ite2 (((v6.1.size : Int) != v10.1)) (some true) (some (decide (v10.1 < (5 : Int)))))))))).bind fun j22 => ite2 (j22) (some false) ((laws_r8At K a1 (0 : Int) (256 : Int)).bind fun v25 => (laws_r8At K a1 (1 : Int) (256 : Int)).bind fun v27 => chk ((IntKind.i64.wrap (v10.1 - (4 : Int))) ≠ 0) (cutP K a1 v4 v6 v10 (atE v10 v25 v27))))) := rfl

theorem bent_eq {K b : Nat} (hK : 3000000 < K) (h1 : 1 ≤ b) (hb : b ≤ 12) {B : ByteArray} (hB : B.size ≤ 1048576) {l1 : List Int} {x1 : List F32} {p1 : List (List F32)} (s1 : Sto K (head0 b) (zero0 b) p1 l1 x1) (hp : Pre B l1) (hn : p1.length ≤ 64) (v31 : Recording × Int × Bool) (hv : v31.2.1 = (l1.length : Int)) : bentP K v31 B = some true := by
  have hz : (zero0 b).length = 3 + 4 * b := by simp [zero0]
  obtain ⟨qs, a', x2, g1, g2, g3, g4, g5⟩ := recover_from hK h1 hb hB s1 hp hn
  have st3 : impl_StoreRecording K (Recording.mk (b : Int) (qs.map fun y => poseL y b)) = some (strOf (bytesOf (B.extract 0 a')), true) :=
    store_eq hK (rr_of h1 hb g5) (by
      show Sto K (head0 b) (zero0 b) ((qs.map fun y => poseL y b).map numsL) _ x2
      rw [back_map (fun y hy => by rw [(g2.lens.2 y hy), hz])]; exact g2)
  unfold bentP
  rw [g1, bind_of, st3, bind_of, hv]
  rw [ite2_true, ite2_true, decide_eq_true (show ((a' : Nat) : Int) ≥ (l1.length : Int) by omega), ite2_true, chk_pos (show 0 ≤ (0 : Int) ∧ (0 : Int) ≤ ((a' : Nat) : Int) ∧ ((a' : Nat) : Int) ≤ (B.size : Int) by omega)]
  show (some ((strOf (bytesOf (B.extract 0 a'))).toList == (B.extract 0 ((a' : Nat) : Int).toNat).toList)).bind _ = _
  rw [Int.toNat_natCast, strOf_bytesOf, beq_self_eq_true]; rfl
theorem rec_true (a c : List Int) (ha : Byt a) (hc : Byt c) : ∃ K, laws_FnRecorded K a c = some true := by
  refine ⟨3000001, ?_⟩
  generalize hKe : 3000001 = K
  have hK : 3000000 < K := by omega
  rw [law_parts]
  unfold laws_r8Long
  cases hlong : ite2 (decide ((a.length : Int) > 48)) (some true) (some (decide ((c.length : Int) > 48))) with
  | none => revert hlong; unfold ite2; split <;> intro h <;> cases h
  | some g =>
  rw [bind_of, bind_of]
  cases g with
  | true => rfl
  | false =>
  rw [ite2_false]
  obtain ⟨r, hr, hd⟩ := recording_drawn (K := K) (by omega) ha
  obtain ⟨b, hb⟩ := Int.eq_ofNat_of_zero_le (show 0 ≤ r.Bones by have := hd.bones; omega)
  have hbb := hd.bones
  have rr : Rr b r := ⟨hb, by omega, by omega, by have := hd.frames; omega, fun p hp => by have := hd.turns p hp; omega⟩
  have hz : (zero0 b).length = 3 + 4 * b := by simp [zero0]
  have hfl := hd.frames
  have hps : ∀ y ∈ r.Frames.map numsL, y.length = 3 + 4 * b := fun y hy => by
    obtain ⟨p, hp, rfl⟩ := List.mem_map.1 hy
    exact nums_len (rr.turns p hp)
  obtain ⟨l', x', hst⟩ := Sto.ex (K := K) hK (r.Frames.map numsL) (head0 b) (zero0 b) (head0_in b) (by rw [head0_len]; simp; omega) (by omega) (fun y hy => by rw [hz]; exact hps y hy)
  have hlong' := hst.long (by omega)
  rw [head0_len, List.length_map] at hlong'
  have hS := strOf_size l'
  have hin : InB l' := hst.inb (head0_in b)
  have st1 : impl_StoreRecording K r = some (strOf l', true) := store_eq hK rr hst
  have hpS : Pre (strOf l') l' := pre_self
  generalize strOf l' = S at hS st1 hpS
  have hss : S.size ≤ 1048576 := by omega
  have rc1 := recover_upto hK rr.b1 rr.b12 hss hst hpS (by simp; omega) (.inl (by omega))
  have rmk : Recording.mk (b : Int) ((r.Frames.map numsL).map fun y => poseL y b) = r := by
    rw [posed_map rr.turns, ← hb]
  rw [rmk] at rc1
  have ld1 : impl_LoadRecording K S = some (r, true) := by
    unfold impl_LoadRecording
    rw [rc1, bind_of, Bool.not_true, ite2_false, show ((l'.length : Int) != (S.size : Int)) = false by rw [hS, bne_self_eq_false], bind_of, ite2_false]
  have sz1 : impl_StoredSize K r = some ((S.size : Int), true) := by
    unfold impl_StoredSize
    rw [st1]; rfl
  rw [hr, bind_of, st1, bind_of]
  rw [show (S, true).1 = S from rfl, ld1, bind_of, sz1, bind_of]
  have hj : (ite2 (!true) (some true) (ite2 (!true) (some true) (ite2 (!true) (some true) ((impl_ValidRecording K r).bind fun v15 => ite2 (!v15) (some true) ((impl_SameRecording K r r).bind fun v18 => ite2 (!v18) (some true) (ite2 ((S.size : Int) != (S.size : Int)) (some true) (some (decide ((S.size : Int) < 5))))))))) = some false := by
    rw [rr.valid (show 100 < K by omega), bind_of, sameR_refl (show 100 < K by omega) hd, bind_of, bne_self_eq_false, decide_eq_false (show ¬ ((S.size : Int) < 5) by omega)]; rfl
  refine (congrArg (fun z => Option.bind z _) hj).trans ?_
  show (some false).bind _ = _
  rw [bind_of, ite2_false]
  obtain ⟨v25, e25, q1, q2⟩ := r8At_rng (K := K) hc 0 256 (by omega) (by omega)
  obtain ⟨v27, e27, q3, q4⟩ := r8At_rng (K := K) hc 1 256 (by omega) (by omega)
  obtain ⟨v55, e55, q5, q6⟩ := r8At_rng (K := K) hc 2 255 (by omega) (by omega)
  rw [e25, bind_of, e27, bind_of]
  obtain ⟨A, hA, A1, A2⟩ : ∃ A : Nat, atE ((S.size : Int), true) v25 v27 = (A : Int) ∧ 5 ≤ A ∧ A ≤ S.size := by
    unfold atE
    show ∃ A : Nat, IntKind.i64.wrap ((5 : Int) + ((IntKind.i64.wrap ((IntKind.i64.wrap ((256 : Int) * v25)) + v27)).tmod (IntKind.i64.wrap ((S.size : Int) - (4 : Int))))) = (A : Int) ∧ 5 ≤ A ∧ A ≤ S.size
    have w1 : IntKind.i64.wrap ((256 : Int) * v25) = 256 * v25 := wrap_in (by omega) (by omega)
    have w2 : IntKind.i64.wrap (256 * v25 + v27) = 256 * v25 + v27 := wrap_in (by omega) (by omega)
    have w3 : IntKind.i64.wrap ((S.size : Int) - 4) = (S.size : Int) - 4 := wrap_in (by omega) (by omega)
    rw [w1, w2, w3]
    by_cases h5 : S.size = 5
    · have e : (256 * v25 + v27).tmod ((S.size : Int) - 4) = 0 := by rw [h5]; exact Int.tmod_one _
      rw [e]
      exact ⟨5, by decide, by omega, by omega⟩
    · have := tmod_in (x := 256 * v25 + v27) (n := (S.size : Int) - 4) (by omega) (by omega)
      rw [wrap_in (by omega) (by omega)]
      exact ⟨(5 + (256 * v25 + v27).tmod ((S.size : Int) - 4)).toNat, by omega, by omega, by omega⟩
  rw [chk_pos (show IntKind.i64.wrap ((S.size : Int) - 4) ≠ 0 by rw [wrap_in (by omega) (by omega)]; omega), hA]
  obtain ⟨p1, p2, l1, x1, hpp, s1, s2, hl1, hcut⟩ := hst.cut A (by rw [head0_len]; exact A1)
  have hplen : p1.length + p2.length = r.Frames.length := by have := congrArg List.length hpp; simp at this; omega
  obtain ⟨rest, hrest⟩ := s2.grow
  have hp1 : Pre S l1 := by rw [hrest] at hpS; exact hpS.left
  have hps1 : ∀ y ∈ p1, y.length = 3 + 4 * b := fun y hy => hps y (by rw [hpp]; exact List.mem_append_left _ hy)
  have hfew : (S.extract 0 A).size ≤ l1.length ∨ ((S.extract 0 A).size : Int) < (l1.length : Int) + 1 + 5 * bt (S.extract 0 A) l1.length + 2 := by
    rw [ByteArray.size_extract]
    rcases hcut with ⟨_, e⟩ | ⟨y, p3, l2, _, hr2, hlt, s3⟩
    · left; rw [e]; omega
    · by_cases hAl : A ≤ l1.length
      · left; omega
      · right
        obtain ⟨r3, hr3⟩ := s3.grow
        have hp2 : Pre S l2 := by rw [hr3] at hpS; exact hpS.left
        have hcnt := (held_of hr2 (s1.inb (head0_in b)) (by have := s1.lens.1; omega) hp2).cnt
        have hb2 := bt_extract S (a := 0) (b := A) (i := l1.length) (by omega) (by omega)
        rw [Nat.zero_add] at hb2
        rw [hb2, hcnt]
        have := hr2.long
        omega
  have rc2 := recover_upto hK rr.b1 rr.b12 (s := S.extract 0 A) (by rw [ByteArray.size_extract]; omega) s1 (hp1.cut hl1 A2) (by omega) hfew
  have st2 : impl_StoreRecording K (Recording.mk (b : Int) (p1.map fun y => poseL y b)) = some (strOf l1, true) :=
    store_eq hK (rr_of rr.b1 rr.b12 (by omega)) (l' := l1) (xs' := x1) (by
      show Sto K (head0 b) (zero0 b) ((p1.map fun y => poseL y b).map numsL) l1 x1
      rw [back_map hps1]; exact s1)
  have hx8 := xor_u8 (bt S A) (IntKind.u8.wrap (IntKind.i64.wrap ((1 : Int) + v55)))
  have tail : ∀ v31 : Recording × Int × Bool, v31.2.1 = (l1.length : Int) → tailP K c (S, true) ((S.size : Int), true) v31 (A : Int) = some true := by
    intro v31 hv
    unfold tailP
    rw [hv]
    show ite2 ((A : Int) == (S.size : Int)) (some ((l1.length : Int) == (S.size : Int))) (chk (0 ≤ (A : Int) ∧ (A : Int) < (S.size : Int)) _) = _
    by_cases hAS : A = S.size
    · have e1 : ((A : Int) == (S.size : Int)) = true := by rw [beq_iff_eq]; omega
      rw [e1, ite2_true]
      have e2 : l1.length = S.size := by
        rcases hcut with ⟨_, e⟩ | ⟨y, p3, l2, _, hr2, hlt, s3⟩
        · rw [e]; omega
        · have h3 := (s3.long (by have h4 := hr2.len; have h5 := s1.lens.1; omega)).2
          omega
      rw [e2, beq_self_eq_true]
    · have e1 : ((A : Int) == (S.size : Int)) = false := by rw [beq_eq_false_iff_ne]; omega
      have wA : IntKind.i64.wrap ((A : Int) + 1) = ((A + 1 : Nat) : Int) := by rw [wrap_in (by omega) (by omega)]; omega
      have chk8 : ∀ x ∈ [bits .xor .u8 (bt S A) (IntKind.u8.wrap (IntKind.i64.wrap ((1 : Int) + v55)))], 0 ≤ x ∧ x < 256 := fun x hx => by
        rw [List.mem_singleton.1 hx]; exact hx8
      rw [e1, ite2_false, chk_pos (by omega), e55, bind_of]
      show chk (∀ x ∈ [bits .xor .u8 (bt S (A : Int).toNat) (IntKind.u8.wrap (IntKind.i64.wrap ((1 : Int) + v55)))], 0 ≤ x ∧ x < 256) _ = _
      rw [Int.toNat_natCast, wA, chk_pos chk8]
      show chk ((((S.extract 0 A).size + (strOf ([bits .xor .u8 (bt S A) (IntKind.u8.wrap (IntKind.i64.wrap ((1 : Int) + v55)))])).size : Nat) : Int) ≤ 9223372036854775807) (chk (0 ≤ ((A + 1 : Nat) : Int) ∧ ((A + 1 : Nat) : Int) ≤ (S.size : Int) ∧ (S.size : Int) ≤ (S.size : Int)) (chk (((((S.extract 0 A) ++ (strOf ([bits .xor .u8 (bt S A) (IntKind.u8.wrap (IntKind.i64.wrap ((1 : Int) + v55)))]))).size + (S.extract ((A + 1 : Nat) : Int).toNat (S.size : Int).toNat).size : Nat) : Int) ≤ 9223372036854775807) (bentP K v31 (((S.extract 0 A) ++ (strOf ([bits .xor .u8 (bt S A) (IntKind.u8.wrap (IntKind.i64.wrap ((1 : Int) + v55)))]))) ++ (S.extract ((A + 1 : Nat) : Int).toNat (S.size : Int).toNat))))) = _
      have z1 : (S.extract 0 A).size = A := by rw [ByteArray.size_extract]; omega
      have z2 : (strOf [bits .xor .u8 (bt S A) (IntKind.u8.wrap (IntKind.i64.wrap ((1 : Int) + v55)))]).size = 1 := by rw [strOf_size]; rfl
      have z3 : (S.extract ((A + 1 : Nat) : Int).toNat (S.size : Int).toNat).size = S.size - (A + 1) := by rw [ByteArray.size_extract, Int.toNat_natCast, Int.toNat_natCast]; omega
      rw [chk_pos (by rw [z1, z2]; omega), chk_pos (by omega), chk_pos (by rw [ByteArray.size_append, z1, z2, z3]; omega)]
      exact bent_eq hK rr.b1 rr.b12 (by rw [ByteArray.size_append, ByteArray.size_append, z1, z2, z3]; omega) s1 (hp1.cut hl1 A2).more.more (by omega) v31 hv
  unfold cutP
  rw [show (S, true).1 = S from rfl, show ((0 : Int).toNat) = 0 from rfl, Int.toNat_natCast, chk_pos (by omega), rc2, bind_of, st2, bind_of]
  have hj2 : (ite2 (!true) (some true) (ite2 (!true) (some true) (ite2 (decide ((l1.length : Int) > (A : Int))) (some true) (chk (0 ≤ (0 : Int) ∧ (0 : Int) ≤ (l1.length : Int) ∧ (l1.length : Int) ≤ (S.size : Int)) (ite2 (!((strOf l1).toList == (S.extract 0 (l1.length : Int).toNat).toList)) (some true) (some (decide (((p1.map fun y => poseL y b).length : Int) > (r.Frames.length : Int))))))))) = some false := by
    rw [decide_eq_false (show ¬ ((l1.length : Int) > (A : Int)) by omega), chk_pos (by omega), Int.toNat_natCast, hp1.2, beq_self_eq_true, List.length_map, decide_eq_false (show ¬ ((p1.length : Int) > (r.Frames.length : Int)) by omega)]; rfl
  refine (congrArg (fun z => Option.bind z _) hj2).trans ?_
  show (some false).bind _ = _
  rw [bind_of, ite2_false, tail _ rfl]
  show ite2 (decide (((p1.map fun y => poseL y b).length : Int) < (r.Frames.length : Int))) ((impl_SliceFrames K r 0 (IntKind.i64.wrap (((p1.map fun y => poseL y b).length : Int) + 1))).bind _) _ = _
  rw [List.length_map]
  by_cases hlt : p1.length < r.Frames.length
  · rw [decide_eq_true (show (p1.length : Int) < (r.Frames.length : Int) by omega), ite2_true]
    rcases hcut with ⟨e, _⟩ | ⟨y, p3, l2, e, hr2, hAl, s3⟩
    · rw [e] at hplen; simp at hplen; omega
    · have w1 : IntKind.i64.wrap ((p1.length : Int) + 1) = ((p1.length + 1 : Nat) : Int) := by rw [wrap_in (by omega) (by omega)]; omega
      have sl := slice_of (K := K) (by omega) hd 0 (p1.length + 1) (by omega)
      rw [List.drop_zero] at sl
      have rr4 : Rr b (Recording.mk r.Bones (r.Frames.take (p1.length + 1))) := by
        refine ⟨hb, rr.b1, rr.b12, ?_, fun p hp => rr.turns p (List.mem_of_mem_take hp)⟩
        show (r.Frames.take (p1.length + 1)).length ≤ 64
        simp
        omega
      have st4 : impl_StoreRecording K (Recording.mk r.Bones (r.Frames.take (p1.length + 1))) = some (strOf l2, true) :=
        store_eq hK rr4 (l' := l2) (xs' := y) (by
          show Sto K (head0 b) (zero0 b) ((r.Frames.take (p1.length + 1)).map numsL) l2 y
          rw [List.map_take, hpp, e, List.take_append, List.take_of_length_le (by omega), show p1.length + 1 - p1.length = 1 by omega]
          exact s1.snoc hr2)
      have sz4 : impl_StoredSize K (Recording.mk r.Bones (r.Frames.take (p1.length + 1))) = some ((l2.length : Int), true) := by
        unfold impl_StoredSize
        rw [st4, bind_of, strOf_size]
      rw [w1, show (0 : Int) = ((0 : Nat) : Int) from rfl, sl, bind_of, sz4, bind_of]
      rw [Bool.not_true, ite2_false, ite2_false, decide_eq_false (show ¬ ((l2.length : Int) ≤ (A : Int)) by omega), bind_of, ite2_false]
  · rw [decide_eq_false (show ¬ ((p1.length : Int) < (r.Frames.length : Int)) by omega), ite2_false]
theorem law_FnRecorded (a b : List Int) (ha : a.length ≤ maxLen ∧ ∀ x ∈ a, (Lit.int .u8 x).wf = true) (hb : b.length ≤ maxLen ∧ ∀ x ∈ b, (Lit.int .u8 x).wf = true) : ∃ K, laws_FnRecorded K a b = some true := by
  have byt : ∀ {c : List Int}, (∀ x ∈ c, (Lit.int .u8 x).wf = true) → Byt c := fun h x hx => by
    have := h x hx
    simp only [Lit.wf, Bool.and_eq_true, decide_eq_true_eq] at this
    have e1 : IntKind.u8.min = 0 := by decide
    have e2 : IntKind.u8.max = 255 := by decide
    omega
  exact rec_true a b (byt ha.2) (byt hb.2)

end Go.Fw
