import Derived.Test.YtalegkgonbmaoaaDoorReader
import Derived.BigRegion
import Derived.BigQuiet
import Derived.Deep.QuietTactic
import Derived.Deep.DeepCutAuto
/- The reader's method digit. -/
set_option linter.unusedVariables false
namespace Go.Proofs.YtalegkgonbmaoaaDoor
open Go.RowKit
def digitsL : List UInt8 := [48, 49, 50, 51, 52, 53, 54, 55, 56, 57, 97, 98, 99, 100, 101, 102]
def lowerN (n : Nat) : Nat := if 65 ≤ n ∧ n ≤ 70 then n + 32 else n
theorem hex_fin : ∀ n : Fin 256, Lib.indexByte digitsL (lowerN n.val).toUInt8 = match hexv (UInt8.ofNat n.val) with | none => -1 | some v => (v : Int) := by decide +kernel
theorem hex_idx (c : UInt8) : Lib.indexByte digitsL (lowerN c.toNat).toUInt8 = match hexv c with | none => -1 | some v => (v : Int) := by
  have := hex_fin ⟨c.toNat, c.toNat_lt⟩
  simpa using this
theorem rput_z (B b : Nat) (p v : Value) (s : St) (r : Nat) (z : Int) (hz : z = (r : Int)) (w : World) (h : RAt B b p v s w) (hr : r ≤ 2147483647) (hlen : s.out.length ≤ 1000000000) (hBw : B ≤ w.heap.size) :
    Calls Tryd.prog 64 #[.pointer (some ⟨b, 0, none⟩), .int .i32 z] w fun e w' => e = .returned (.tuple #[]) ∧ Below B w w' ∧ ∃ p v, RAt B b p v (putS s r) w' := by
  subst hz
  exact rput_any B b p v s r w h hr hlen hBw
theorem RAt.drewN {B b : Nat} {p v : Value} {s : St} {w : World} (h : RAt B b p v s w) (k : Nat) : RAt B b p v s (w.drewN k) :=
  ⟨BIn.hB h, show w.heap[b]? = _ from BIn.blk h, BIn.c0 h, BIn.c1 h, BIn.hp h, own_below (BIn.own h) (below_drewN (Below.refl _ _) k), BIn.hT h⟩
theorem RAt.drew {B b : Nat} {p v : Value} {s : St} {w : World} (h : RAt B b p v s w) : RAt B b p v s w.drew := h.drewN 1
theorem digitS_eq {s : St} {c : UInt8} {k N M : Nat} (hk : hexv c = some k) (hN : s.n * 16 + k = N) (hM : s.many + 1 = M) : digitS s c =
    if digitBad s.state M (N * 16 ^ (4 - M)) then .bad 41
    else if M < 4 then .ok { s with many := M, n := N }
    else if s.state = 6 then .ok (putS { s with many := M, n := N } (65536 + (s.first - 55296) * 1024 + N - 56320))
    else if 55296 ≤ N ∧ N < 56320 then .ok { s with state := 4, first := N, many := M, n := N }
    else .ok (putS { s with many := M, n := N } N) := by
  unfold digitS
  rw [hk]
  simp only [hN, hM]
set_option maxRecDepth 100000 in
set_option maxHeartbeats 1000000 in
theorem digit_none (B b : Nat) (s : St) (c : UInt8) (w : World) (hk : hexv c = none) :
    Calls Tryd.prog 57 #[.pointer (some ⟨b, 0, none⟩), .int .u8 (c.toNat : Int)] w fun e w' => e = .returned (.int .i64 (errOf (digitS s c) : Int)) ∧ Left B b (digitS s c) w w' := by
  have hO : digitS s c = .bad 41 := by unfold digitS; rw [hk]
  rw [hO]
  have hx := hex_idx c
  have hc := c.toNat_lt
  by_cases hu : 65 ≤ c.toNat ∧ c.toNat ≤ 70
  · have cI := fun w => Tryd.strings_IndexByte ⟨digitsL.toArray⟩ ((c.toNat : Int) + 32) w
    rw [lowerN, if_pos hu, hk] at hx
    rw [show ((c.toNat : Int) + 32).toNat = c.toNat + 32 by omega] at cI
    simp only [hx] at cI
    have h1 : (65 : Int) ≤ (c.toNat : Int) := by omega
    have h2 : (c.toNat : Int) ≤ 70 := by omega
    clear hx hu hO
    go_enter Tryd.func57, Tryd.ntmps57
    go_wp2_with (go_at_call 49; refine (cI _).mono ?_; rintro e w1 ⟨rfl, hw⟩; rw [hw]; clear hw)
    go_ret
    exact ⟨rfl, Left.bad (Below.refl B w)⟩
  · have cI := fun w => Tryd.strings_IndexByte ⟨digitsL.toArray⟩ (c.toNat : Int) w
    rw [lowerN, if_neg hu, hk] at hx
    simp only [Int.toNat_natCast, hx] at cI
    clear hx hO
    by_cases h1 : (65 : Int) ≤ (c.toNat : Int)
    · have h2 : ¬ ((c.toNat : Int) ≤ 70) := by omega
      clear hu
      go_enter Tryd.func57, Tryd.ntmps57
      go_wp2_with (go_at_call 49; refine (cI _).mono ?_; rintro e w1 ⟨rfl, hw⟩; rw [hw]; clear hw)
      go_ret
      exact ⟨rfl, Left.bad (Below.refl B w)⟩
    · clear hu
      go_enter Tryd.func57, Tryd.ntmps57
      go_wp2_with (go_at_call 49; refine (cI _).mono ?_; rintro e w1 ⟨rfl, hw⟩; rw [hw]; clear hw)
      go_ret
      exact ⟨rfl, Left.bad (Below.refl B w)⟩
theorem or_add (n k : Nat) (hn : n < 4096) (hk : k < 16) : bits .or .i32 ((n : Int) * 16) (k : Int) = (n : Int) * 16 + (k : Int) :=
  bits_join .i32 31 (by decide) wraps_i32 4 ((n : Int) * 16) (k : Int) (by omega) (by omega) (by omega) (by omega) (by omega) (by omega)
set_option maxRecDepth 100000 in
set_option maxHeartbeats 1000000 in
theorem digit_3_0 (B b : Nat) (p v : Value) (s : St) (c : UInt8) (w : World) (h : RAt B b p v s w) (hi : Inv s) (hst : 3 = s.state) (hm : 0 = s.many) (k : Nat) (hk : hexv c = some k) (hlen : s.out.length ≤ 1000000000) (hBw : B ≤ w.heap.size) :
    Calls Tryd.prog 57 #[.pointer (some ⟨b, 0, none⟩), .int .u8 (c.toNat : Int)] w fun e w' => e = .returned (.int .i64 (errOf (digitS s c) : Int)) ∧ Left B b (digitS s c) w w' := by
  obtain ⟨st, out, rune, mny, n, F⟩ := s
  simp only at hst hm hlen
  subst hst
  subst hm
  have hkl := hexv_lt hk
  have HBb := Lib.hid (BIn.hB h)
  have f0 := h.f0
  have f4 := h.f4
  have f5 := h.f5
  have f6 := h.f6
  have z0 := h.fz 0
  have z4 := h.fz 4
  have z5 := h.fz 5
  have z6 := h.fz 6
  simp only at f0 f4 f5 f6
  have hn := (hi.many (by simp)).2
  have H := Lib.hid h
  have HL := Lib.hid hlen
  simp only [Nat.reducePow] at hn
  obtain ⟨N, hN⟩ : ∃ N, n * 16 + k = N := ⟨_, rfl⟩
  have eN : (n : Int) * 16 + (k : Int) = (N : Int) := by omega
  have HN := Lib.hid hN
  have hNl : N < 16 := by omega
  have hor : bits .or .i32 ((n : Int) * 16) (k : Int) = (n : Int) * 16 + (k : Int) := or_add n k (by omega) hkl
  obtain ⟨O, hO⟩ : ∃ O, digitS ⟨3, out, rune, 0, n, F⟩ c = O := ⟨_, rfl⟩
  rw [hO]
  have hx := hex_idx c
  clear h hlen hi hN
  have cI := fun w => Tryd.strings_IndexByte ⟨digitsL.toArray⟩ ((lowerN c.toNat : Nat) : Int) w
  rw [hk] at hx
  simp only [Int.toNat_natCast, hx] at cI
  clear hx
  go_enter Tryd.func57, Tryd.ntmps57
  have hcl := c.toNat_lt
  obtain ⟨bb, hbb⟩ : ∃ bb, decide (65 ≤ c.toNat ∧ c.toNat ≤ 70) = bb := ⟨_, rfl⟩
  have HBB := Lib.hid hbb
  clear hbb
  go_upto_region 1 with fail
  go_cut [13] (fun c13 wx => c13 = .bool bb ∧ wx = w)
  case first =>
    by_cases h1 : (65 : Int) ≤ (c.toNat : Int)
    · by_cases h2 : (c.toNat : Int) ≤ 70
      · have e : bb = true := HBB.out.symm.trans (decide_eq_true (by omega))
        subst e
        go_wp2_with fail
        go_meet
        exact ⟨rfl, rfl⟩
      · have e : bb = false := HBB.out.symm.trans (decide_eq_false (by omega))
        subst e
        go_wp2_with fail
        go_meet
        exact ⟨rfl, rfl⟩
    · have e : bb = false := HBB.out.symm.trans (decide_eq_false (by omega))
      subst e
      go_wp2_with fail
      go_meet
      exact ⟨rfl, rfl⟩
  case rest =>
    obtain ⟨rfl, hwc⟩ := hcut
    rw [hwc]
    clear hwc
    go_upto_if 13 with fail
    go_cut [1] (fun c1 wx => c1 = .int .u8 ((lowerN c.toNat : Nat) : Int) ∧ wx = w)
    case first =>
      cases bb with
      | true =>
        have hu := of_decide_eq_true HBB.out
        have e := Lib.hid (show ((lowerN c.toNat : Nat) : Int) = (c.toNat : Int) + 32 by unfold lowerN; rw [if_pos hu]; omega)
        have h2 : (c.toNat : Int) ≤ 70 := by omega
        clear hu
        go_wp2_with fail
        go_meet
        exact ⟨congrArg (Value.int .u8) e.out.symm, rfl⟩
      | false =>
        have hu := of_decide_eq_false HBB.out
        have e := Lib.hid (show ((lowerN c.toNat : Nat) : Int) = (c.toNat : Int) by unfold lowerN; rw [if_neg hu])
        clear hu
        go_wp2_with fail
        go_meet
        exact ⟨congrArg (Value.int .u8) e.out.symm, rfl⟩
    case rest =>
      obtain ⟨rfl, hwc⟩ := hcut
      rw [hwc]
      clear hwc
      generalize ((lowerN c.toNat : Nat) : Int) = c1 at cI ⊢
      go_wp2_with (go_at_call 49; refine (cI _).mono ?_; rintro e w1 ⟨rfl, hw⟩; rw [hw]; clear hw)
      go_region
      obtain ⟨w2, hw2⟩ : ∃ w2, (w.setCell ⟨b, 5, none⟩ (.int .i32 (N : Int))).setCell ⟨b, 4, none⟩ (.int .i64 1) = w2 := ⟨_, rfl⟩
      have h2 : RAt B b p v ⟨3, out, rune, 1, N, F⟩ w2 := by rw [← hw2]; exact (H.out.setN N).setMany 1
      have hb2 : Below B w w2 := by rw [← hw2]; exact below_set (below_set (Below.refl B w) HBb.out _ _) HBb.out _ _
      first | rw [hw2] | (rw [show ((w.setCell ⟨b, 5, none⟩ (.int .i32 (N : Int))).setCell ⟨b, 4, none⟩ (.int .i64 1)).drew = w2.drew by rw [hw2]])
      clear hw2 f0 f4 f5 f6 z0 z4 z5 z6 eN
      have f0 := h2.f0
      have f4 := h2.f4
      have f5 := h2.f5
      have f6 := h2.f6
      have z0 := h2.fz 0
      have z4 := h2.fz 4
      have z5 := h2.fz 5
      have z6 := h2.fz 6
      have HB := Lib.hid (show Below B w w2.drew.drew from Below.drew (Below.drew hb2))
      have HBw := Lib.hid (show B ≤ w2.drew.drew.heap.size by show B ≤ w2.heap.size; have := hb2.size; omega)
      have H2 := Lib.hid h2.drew
      simp only at f0 f4 f5 f6
      clear h2 hb2
      go_wp2
      go_region
      rw [digitS_eq (s := ⟨3, out, rune, 0, n, F⟩) (N := N) (M := 1) hk HN.out rfl, if_neg (by simp only [digitBad, isLow, Nat.reduceSub, Nat.reducePow, true_and]; omega), if_pos (by decide)] at hO
      subst hO
      go_wp2
      go_ret
      exact ⟨rfl, Left.ok HB.out H2.out.drew⟩
set_option maxRecDepth 100000 in
set_option maxHeartbeats 1000000 in
theorem digit_3_1 (B b : Nat) (p v : Value) (s : St) (c : UInt8) (w : World) (h : RAt B b p v s w) (hi : Inv s) (hst : 3 = s.state) (hm : 1 = s.many) (k : Nat) (hk : hexv c = some k) (hlen : s.out.length ≤ 1000000000) (hBw : B ≤ w.heap.size) :
    Calls Tryd.prog 57 #[.pointer (some ⟨b, 0, none⟩), .int .u8 (c.toNat : Int)] w fun e w' => e = .returned (.int .i64 (errOf (digitS s c) : Int)) ∧ Left B b (digitS s c) w w' := by
  obtain ⟨st, out, rune, mny, n, F⟩ := s
  simp only at hst hm hlen
  subst hst
  subst hm
  have hkl := hexv_lt hk
  have HBb := Lib.hid (BIn.hB h)
  have f0 := h.f0
  have f4 := h.f4
  have f5 := h.f5
  have f6 := h.f6
  have z0 := h.fz 0
  have z4 := h.fz 4
  have z5 := h.fz 5
  have z6 := h.fz 6
  simp only at f0 f4 f5 f6
  have hn := (hi.many (by simp)).2
  have H := Lib.hid h
  have HL := Lib.hid hlen
  simp only [Nat.reducePow] at hn
  obtain ⟨N, hN⟩ : ∃ N, n * 16 + k = N := ⟨_, rfl⟩
  have eN : (n : Int) * 16 + (k : Int) = (N : Int) := by omega
  have HN := Lib.hid hN
  have hNl : N < 256 := by omega
  have hor : bits .or .i32 ((n : Int) * 16) (k : Int) = (n : Int) * 16 + (k : Int) := or_add n k (by omega) hkl
  obtain ⟨O, hO⟩ : ∃ O, digitS ⟨3, out, rune, 1, n, F⟩ c = O := ⟨_, rfl⟩
  rw [hO]
  have hx := hex_idx c
  clear h hlen hi hN
  have cI := fun w => Tryd.strings_IndexByte ⟨digitsL.toArray⟩ ((lowerN c.toNat : Nat) : Int) w
  rw [hk] at hx
  simp only [Int.toNat_natCast, hx] at cI
  clear hx
  go_enter Tryd.func57, Tryd.ntmps57
  have hcl := c.toNat_lt
  obtain ⟨bb, hbb⟩ : ∃ bb, decide (65 ≤ c.toNat ∧ c.toNat ≤ 70) = bb := ⟨_, rfl⟩
  have HBB := Lib.hid hbb
  clear hbb
  go_upto_region 1 with fail
  go_cut [13] (fun c13 wx => c13 = .bool bb ∧ wx = w)
  case first =>
    by_cases h1 : (65 : Int) ≤ (c.toNat : Int)
    · by_cases h2 : (c.toNat : Int) ≤ 70
      · have e : bb = true := HBB.out.symm.trans (decide_eq_true (by omega))
        subst e
        go_wp2_with fail
        go_meet
        exact ⟨rfl, rfl⟩
      · have e : bb = false := HBB.out.symm.trans (decide_eq_false (by omega))
        subst e
        go_wp2_with fail
        go_meet
        exact ⟨rfl, rfl⟩
    · have e : bb = false := HBB.out.symm.trans (decide_eq_false (by omega))
      subst e
      go_wp2_with fail
      go_meet
      exact ⟨rfl, rfl⟩
  case rest =>
    obtain ⟨rfl, hwc⟩ := hcut
    rw [hwc]
    clear hwc
    go_upto_if 13 with fail
    go_cut [1] (fun c1 wx => c1 = .int .u8 ((lowerN c.toNat : Nat) : Int) ∧ wx = w)
    case first =>
      cases bb with
      | true =>
        have hu := of_decide_eq_true HBB.out
        have e := Lib.hid (show ((lowerN c.toNat : Nat) : Int) = (c.toNat : Int) + 32 by unfold lowerN; rw [if_pos hu]; omega)
        have h2 : (c.toNat : Int) ≤ 70 := by omega
        clear hu
        go_wp2_with fail
        go_meet
        exact ⟨congrArg (Value.int .u8) e.out.symm, rfl⟩
      | false =>
        have hu := of_decide_eq_false HBB.out
        have e := Lib.hid (show ((lowerN c.toNat : Nat) : Int) = (c.toNat : Int) by unfold lowerN; rw [if_neg hu])
        clear hu
        go_wp2_with fail
        go_meet
        exact ⟨congrArg (Value.int .u8) e.out.symm, rfl⟩
    case rest =>
      obtain ⟨rfl, hwc⟩ := hcut
      rw [hwc]
      clear hwc
      generalize ((lowerN c.toNat : Nat) : Int) = c1 at cI ⊢
      go_wp2_with (go_at_call 49; refine (cI _).mono ?_; rintro e w1 ⟨rfl, hw⟩; rw [hw]; clear hw)
      go_region
      obtain ⟨w2, hw2⟩ : ∃ w2, (w.setCell ⟨b, 5, none⟩ (.int .i32 (N : Int))).setCell ⟨b, 4, none⟩ (.int .i64 2) = w2 := ⟨_, rfl⟩
      have h2 : RAt B b p v ⟨3, out, rune, 2, N, F⟩ w2 := by rw [← hw2]; exact (H.out.setN N).setMany 2
      have hb2 : Below B w w2 := by rw [← hw2]; exact below_set (below_set (Below.refl B w) HBb.out _ _) HBb.out _ _
      first | rw [hw2] | (rw [show ((w.setCell ⟨b, 5, none⟩ (.int .i32 (N : Int))).setCell ⟨b, 4, none⟩ (.int .i64 2)).drew = w2.drew by rw [hw2]])
      clear hw2 f0 f4 f5 f6 z0 z4 z5 z6 eN
      have f0 := h2.f0
      have f4 := h2.f4
      have f5 := h2.f5
      have f6 := h2.f6
      have z0 := h2.fz 0
      have z4 := h2.fz 4
      have z5 := h2.fz 5
      have z6 := h2.fz 6
      have HB := Lib.hid (show Below B w w2.drew.drew from Below.drew (Below.drew hb2))
      have HBw := Lib.hid (show B ≤ w2.drew.drew.heap.size by show B ≤ w2.heap.size; have := hb2.size; omega)
      have H2 := Lib.hid h2.drew
      simp only at f0 f4 f5 f6
      clear h2 hb2
      go_wp2
      go_region
      by_cases q1 : N * 256 < 56320
      · have q1z : ¬ ((56320 : Int) ≤ (N : Int) * 256) := by omega
        rw [digitS_eq (s := ⟨3, out, rune, 1, n, F⟩) (N := N) (M := 2) hk HN.out rfl, if_neg (by simp only [digitBad, isLow, Nat.reduceSub, Nat.reducePow, true_and]; omega), if_pos (by decide)] at hO
        subst hO
        go_wp2
        go_ret
        exact ⟨rfl, Left.ok HB.out H2.out.drew⟩
      · have q1z : (56320 : Int) ≤ (N : Int) * 256 := by omega
        by_cases q2 : N * 256 < 57344
        · have q2z : (N : Int) * 256 < 57344 := by omega
          rw [digitS_eq (s := ⟨3, out, rune, 1, n, F⟩) (N := N) (M := 2) hk HN.out rfl, if_pos (by simp only [digitBad, isLow, Nat.reduceSub, Nat.reducePow, true_and]; omega)] at hO
          subst hO
          go_wp2
          go_ret
          exact ⟨rfl, Left.bad HB.out⟩
        · have q2z : ¬ ((N : Int) * 256 < 57344) := by omega
          rw [digitS_eq (s := ⟨3, out, rune, 1, n, F⟩) (N := N) (M := 2) hk HN.out rfl, if_neg (by simp only [digitBad, isLow, Nat.reduceSub, Nat.reducePow, true_and]; omega), if_pos (by decide)] at hO
          subst hO
          go_wp2
          go_ret
          exact ⟨rfl, Left.ok HB.out H2.out.drew⟩
set_option maxRecDepth 100000 in
set_option maxHeartbeats 1000000 in
theorem digit_3_2 (B b : Nat) (p v : Value) (s : St) (c : UInt8) (w : World) (h : RAt B b p v s w) (hi : Inv s) (hst : 3 = s.state) (hm : 2 = s.many) (k : Nat) (hk : hexv c = some k) (hlen : s.out.length ≤ 1000000000) (hBw : B ≤ w.heap.size) :
    Calls Tryd.prog 57 #[.pointer (some ⟨b, 0, none⟩), .int .u8 (c.toNat : Int)] w fun e w' => e = .returned (.int .i64 (errOf (digitS s c) : Int)) ∧ Left B b (digitS s c) w w' := by
  obtain ⟨st, out, rune, mny, n, F⟩ := s
  simp only at hst hm hlen
  subst hst
  subst hm
  have hkl := hexv_lt hk
  have HBb := Lib.hid (BIn.hB h)
  have f0 := h.f0
  have f4 := h.f4
  have f5 := h.f5
  have f6 := h.f6
  have z0 := h.fz 0
  have z4 := h.fz 4
  have z5 := h.fz 5
  have z6 := h.fz 6
  simp only at f0 f4 f5 f6
  have hn := (hi.many (by simp)).2
  have H := Lib.hid h
  have HL := Lib.hid hlen
  simp only [Nat.reducePow] at hn
  obtain ⟨N, hN⟩ : ∃ N, n * 16 + k = N := ⟨_, rfl⟩
  have eN : (n : Int) * 16 + (k : Int) = (N : Int) := by omega
  have HN := Lib.hid hN
  have hNl : N < 4096 := by omega
  have hor : bits .or .i32 ((n : Int) * 16) (k : Int) = (n : Int) * 16 + (k : Int) := or_add n k (by omega) hkl
  obtain ⟨O, hO⟩ : ∃ O, digitS ⟨3, out, rune, 2, n, F⟩ c = O := ⟨_, rfl⟩
  rw [hO]
  have hx := hex_idx c
  clear h hlen hi hN
  have cI := fun w => Tryd.strings_IndexByte ⟨digitsL.toArray⟩ ((lowerN c.toNat : Nat) : Int) w
  rw [hk] at hx
  simp only [Int.toNat_natCast, hx] at cI
  clear hx
  go_enter Tryd.func57, Tryd.ntmps57
  have hcl := c.toNat_lt
  obtain ⟨bb, hbb⟩ : ∃ bb, decide (65 ≤ c.toNat ∧ c.toNat ≤ 70) = bb := ⟨_, rfl⟩
  have HBB := Lib.hid hbb
  clear hbb
  go_upto_region 1 with fail
  go_cut [13] (fun c13 wx => c13 = .bool bb ∧ wx = w)
  case first =>
    by_cases h1 : (65 : Int) ≤ (c.toNat : Int)
    · by_cases h2 : (c.toNat : Int) ≤ 70
      · have e : bb = true := HBB.out.symm.trans (decide_eq_true (by omega))
        subst e
        go_wp2_with fail
        go_meet
        exact ⟨rfl, rfl⟩
      · have e : bb = false := HBB.out.symm.trans (decide_eq_false (by omega))
        subst e
        go_wp2_with fail
        go_meet
        exact ⟨rfl, rfl⟩
    · have e : bb = false := HBB.out.symm.trans (decide_eq_false (by omega))
      subst e
      go_wp2_with fail
      go_meet
      exact ⟨rfl, rfl⟩
  case rest =>
    obtain ⟨rfl, hwc⟩ := hcut
    rw [hwc]
    clear hwc
    go_upto_if 13 with fail
    go_cut [1] (fun c1 wx => c1 = .int .u8 ((lowerN c.toNat : Nat) : Int) ∧ wx = w)
    case first =>
      cases bb with
      | true =>
        have hu := of_decide_eq_true HBB.out
        have e := Lib.hid (show ((lowerN c.toNat : Nat) : Int) = (c.toNat : Int) + 32 by unfold lowerN; rw [if_pos hu]; omega)
        have h2 : (c.toNat : Int) ≤ 70 := by omega
        clear hu
        go_wp2_with fail
        go_meet
        exact ⟨congrArg (Value.int .u8) e.out.symm, rfl⟩
      | false =>
        have hu := of_decide_eq_false HBB.out
        have e := Lib.hid (show ((lowerN c.toNat : Nat) : Int) = (c.toNat : Int) by unfold lowerN; rw [if_neg hu])
        clear hu
        go_wp2_with fail
        go_meet
        exact ⟨congrArg (Value.int .u8) e.out.symm, rfl⟩
    case rest =>
      obtain ⟨rfl, hwc⟩ := hcut
      rw [hwc]
      clear hwc
      generalize ((lowerN c.toNat : Nat) : Int) = c1 at cI ⊢
      go_wp2_with (go_at_call 49; refine (cI _).mono ?_; rintro e w1 ⟨rfl, hw⟩; rw [hw]; clear hw)
      go_region
      obtain ⟨w2, hw2⟩ : ∃ w2, (w.setCell ⟨b, 5, none⟩ (.int .i32 (N : Int))).setCell ⟨b, 4, none⟩ (.int .i64 3) = w2 := ⟨_, rfl⟩
      have h2 : RAt B b p v ⟨3, out, rune, 3, N, F⟩ w2 := by rw [← hw2]; exact (H.out.setN N).setMany 3
      have hb2 : Below B w w2 := by rw [← hw2]; exact below_set (below_set (Below.refl B w) HBb.out _ _) HBb.out _ _
      first | rw [hw2] | (rw [show ((w.setCell ⟨b, 5, none⟩ (.int .i32 (N : Int))).setCell ⟨b, 4, none⟩ (.int .i64 3)).drew = w2.drew by rw [hw2]])
      clear hw2 f0 f4 f5 f6 z0 z4 z5 z6 eN
      have f0 := h2.f0
      have f4 := h2.f4
      have f5 := h2.f5
      have f6 := h2.f6
      have z0 := h2.fz 0
      have z4 := h2.fz 4
      have z5 := h2.fz 5
      have z6 := h2.fz 6
      have HB := Lib.hid (show Below B w w2.drew.drew from Below.drew (Below.drew hb2))
      have HBw := Lib.hid (show B ≤ w2.drew.drew.heap.size by show B ≤ w2.heap.size; have := hb2.size; omega)
      have H2 := Lib.hid h2.drew
      simp only at f0 f4 f5 f6
      clear h2 hb2
      go_wp2
      go_region
      by_cases q1 : N * 16 < 56320
      · have q1z : ¬ ((56320 : Int) ≤ (N : Int) * 16) := by omega
        rw [digitS_eq (s := ⟨3, out, rune, 2, n, F⟩) (N := N) (M := 3) hk HN.out rfl, if_neg (by simp only [digitBad, isLow, Nat.reduceSub, Nat.reducePow, true_and]; omega), if_pos (by decide)] at hO
        subst hO
        go_wp2
        go_ret
        exact ⟨rfl, Left.ok HB.out H2.out.drew⟩
      · have q1z : (56320 : Int) ≤ (N : Int) * 16 := by omega
        by_cases q2 : N * 16 < 57344
        · have q2z : (N : Int) * 16 < 57344 := by omega
          rw [digitS_eq (s := ⟨3, out, rune, 2, n, F⟩) (N := N) (M := 3) hk HN.out rfl, if_pos (by simp only [digitBad, isLow, Nat.reduceSub, Nat.reducePow, true_and]; omega)] at hO
          subst hO
          go_wp2
          go_ret
          exact ⟨rfl, Left.bad HB.out⟩
        · have q2z : ¬ ((N : Int) * 16 < 57344) := by omega
          rw [digitS_eq (s := ⟨3, out, rune, 2, n, F⟩) (N := N) (M := 3) hk HN.out rfl, if_neg (by simp only [digitBad, isLow, Nat.reduceSub, Nat.reducePow, true_and]; omega), if_pos (by decide)] at hO
          subst hO
          go_wp2
          go_ret
          exact ⟨rfl, Left.ok HB.out H2.out.drew⟩
set_option maxRecDepth 100000 in
set_option maxHeartbeats 1000000 in
theorem digit_3_3 (B b : Nat) (p v : Value) (s : St) (c : UInt8) (w : World) (h : RAt B b p v s w) (hi : Inv s) (hst : 3 = s.state) (hm : 3 = s.many) (k : Nat) (hk : hexv c = some k) (hlen : s.out.length ≤ 1000000000) (hBw : B ≤ w.heap.size) :
    Calls Tryd.prog 57 #[.pointer (some ⟨b, 0, none⟩), .int .u8 (c.toNat : Int)] w fun e w' => e = .returned (.int .i64 (errOf (digitS s c) : Int)) ∧ Left B b (digitS s c) w w' := by
  obtain ⟨st, out, rune, mny, n, F⟩ := s
  simp only at hst hm hlen
  subst hst
  subst hm
  have hkl := hexv_lt hk
  have HBb := Lib.hid (BIn.hB h)
  have f0 := h.f0
  have f4 := h.f4
  have f5 := h.f5
  have f6 := h.f6
  have z0 := h.fz 0
  have z4 := h.fz 4
  have z5 := h.fz 5
  have z6 := h.fz 6
  simp only at f0 f4 f5 f6
  have hn := (hi.many (by simp)).2
  have H := Lib.hid h
  have HL := Lib.hid hlen
  simp only [Nat.reducePow] at hn
  obtain ⟨N, hN⟩ : ∃ N, n * 16 + k = N := ⟨_, rfl⟩
  have eN : (n : Int) * 16 + (k : Int) = (N : Int) := by omega
  have HN := Lib.hid hN
  have hNl : N < 65536 := by omega
  have hor : bits .or .i32 ((n : Int) * 16) (k : Int) = (n : Int) * 16 + (k : Int) := or_add n k (by omega) hkl
  obtain ⟨O, hO⟩ : ∃ O, digitS ⟨3, out, rune, 3, n, F⟩ c = O := ⟨_, rfl⟩
  rw [hO]
  have hx := hex_idx c
  clear h hlen hi hN
  have cI := fun w => Tryd.strings_IndexByte ⟨digitsL.toArray⟩ ((lowerN c.toNat : Nat) : Int) w
  rw [hk] at hx
  simp only [Int.toNat_natCast, hx] at cI
  clear hx
  go_enter Tryd.func57, Tryd.ntmps57
  have hcl := c.toNat_lt
  obtain ⟨bb, hbb⟩ : ∃ bb, decide (65 ≤ c.toNat ∧ c.toNat ≤ 70) = bb := ⟨_, rfl⟩
  have HBB := Lib.hid hbb
  clear hbb
  go_upto_region 1 with fail
  go_cut [13] (fun c13 wx => c13 = .bool bb ∧ wx = w)
  case first =>
    by_cases h1 : (65 : Int) ≤ (c.toNat : Int)
    · by_cases h2 : (c.toNat : Int) ≤ 70
      · have e : bb = true := HBB.out.symm.trans (decide_eq_true (by omega))
        subst e
        go_wp2_with fail
        go_meet
        exact ⟨rfl, rfl⟩
      · have e : bb = false := HBB.out.symm.trans (decide_eq_false (by omega))
        subst e
        go_wp2_with fail
        go_meet
        exact ⟨rfl, rfl⟩
    · have e : bb = false := HBB.out.symm.trans (decide_eq_false (by omega))
      subst e
      go_wp2_with fail
      go_meet
      exact ⟨rfl, rfl⟩
  case rest =>
    obtain ⟨rfl, hwc⟩ := hcut
    rw [hwc]
    clear hwc
    go_upto_if 13 with fail
    go_cut [1] (fun c1 wx => c1 = .int .u8 ((lowerN c.toNat : Nat) : Int) ∧ wx = w)
    case first =>
      cases bb with
      | true =>
        have hu := of_decide_eq_true HBB.out
        have e := Lib.hid (show ((lowerN c.toNat : Nat) : Int) = (c.toNat : Int) + 32 by unfold lowerN; rw [if_pos hu]; omega)
        have h2 : (c.toNat : Int) ≤ 70 := by omega
        clear hu
        go_wp2_with fail
        go_meet
        exact ⟨congrArg (Value.int .u8) e.out.symm, rfl⟩
      | false =>
        have hu := of_decide_eq_false HBB.out
        have e := Lib.hid (show ((lowerN c.toNat : Nat) : Int) = (c.toNat : Int) by unfold lowerN; rw [if_neg hu])
        clear hu
        go_wp2_with fail
        go_meet
        exact ⟨congrArg (Value.int .u8) e.out.symm, rfl⟩
    case rest =>
      obtain ⟨rfl, hwc⟩ := hcut
      rw [hwc]
      clear hwc
      generalize ((lowerN c.toNat : Nat) : Int) = c1 at cI ⊢
      go_wp2_with (go_at_call 49; refine (cI _).mono ?_; rintro e w1 ⟨rfl, hw⟩; rw [hw]; clear hw)
      go_region
      obtain ⟨w2, hw2⟩ : ∃ w2, (w.setCell ⟨b, 5, none⟩ (.int .i32 (N : Int))).setCell ⟨b, 4, none⟩ (.int .i64 4) = w2 := ⟨_, rfl⟩
      have h2 : RAt B b p v ⟨3, out, rune, 4, N, F⟩ w2 := by rw [← hw2]; exact (H.out.setN N).setMany 4
      have hb2 : Below B w w2 := by rw [← hw2]; exact below_set (below_set (Below.refl B w) HBb.out _ _) HBb.out _ _
      first | rw [hw2] | (rw [show ((w.setCell ⟨b, 5, none⟩ (.int .i32 (N : Int))).setCell ⟨b, 4, none⟩ (.int .i64 4)).drew = w2.drew by rw [hw2]])
      clear hw2 f0 f4 f5 f6 z0 z4 z5 z6 eN
      have f0 := h2.f0
      have f4 := h2.f4
      have f5 := h2.f5
      have f6 := h2.f6
      have z0 := h2.fz 0
      have z4 := h2.fz 4
      have z5 := h2.fz 5
      have z6 := h2.fz 6
      have HB := Lib.hid (show Below B w w2.drew.drew from Below.drew (Below.drew hb2))
      have HBw := Lib.hid (show B ≤ w2.drew.drew.heap.size by show B ≤ w2.heap.size; have := hb2.size; omega)
      have H2 := Lib.hid h2.drew
      simp only at f0 f4 f5 f6
      clear h2 hb2
      go_wp2
      go_region
      by_cases q1 : N < 56320
      · have q1z : ¬ ((56320 : Int) ≤ (N : Int)) := by omega
        by_cases q3 : 55296 ≤ N
        · have q3z : (55296 : Int) ≤ (N : Int) := by omega
          have q4z : (N : Int) < 56320 := by omega
          rw [digitS_eq (s := ⟨3, out, rune, 3, n, F⟩) (N := N) (M := 4) hk HN.out rfl, if_neg (by simp only [digitBad, isLow, Nat.reduceSub, Nat.reducePow, true_and]; omega), if_neg (by decide), if_neg (show ¬ ((3 : Nat) = 6) by decide)] at hO
          rw [if_pos (by omega)] at hO
          subst hO
          go_wp2
          go_ret
          exact ⟨rfl, Left.ok (below_set (below_set HB.out HBb.out _ _) HBb.out _ _) ((H2.out.drew.setState 4).setFirst N)⟩
        · have q3z : ¬ ((55296 : Int) ≤ (N : Int)) := by omega
          rw [digitS_eq (s := ⟨3, out, rune, 3, n, F⟩) (N := N) (M := 4) hk HN.out rfl, if_neg (by simp only [digitBad, isLow, Nat.reduceSub, Nat.reducePow, true_and]; omega), if_neg (by decide), if_neg (show ¬ ((3 : Nat) = 6) by decide)] at hO
          rw [if_neg (by omega)] at hO
          subst hO
          go_upto_region 11 with fail
          go_wp2_with (go_at_call 64; refine (rput_z B b p v _ N _ rfl _ H2.out.drew (by omega) HL.out HBw.out).mono ?_; rintro e w5 ⟨rfl, hb5, p', v', h5⟩)
          go_ret
          exact ⟨rfl, Left.ok (HB.out.trans hb5) h5⟩
      · have q1z : (56320 : Int) ≤ (N : Int) := by omega
        by_cases q2 : N < 57344
        · have q2z : (N : Int) < 57344 := by omega
          rw [digitS_eq (s := ⟨3, out, rune, 3, n, F⟩) (N := N) (M := 4) hk HN.out rfl, if_pos (by simp only [digitBad, isLow, Nat.reduceSub, Nat.reducePow, true_and]; omega)] at hO
          subst hO
          go_wp2
          go_ret
          exact ⟨rfl, Left.bad HB.out⟩
        · have q2z : ¬ ((N : Int) < 57344) := by omega
          have q3z : (55296 : Int) ≤ (N : Int) := by omega
          have q4z : ¬ ((N : Int) < 56320) := by omega
          rw [digitS_eq (s := ⟨3, out, rune, 3, n, F⟩) (N := N) (M := 4) hk HN.out rfl, if_neg (by simp only [digitBad, isLow, Nat.reduceSub, Nat.reducePow, true_and]; omega), if_neg (by decide), if_neg (show ¬ ((3 : Nat) = 6) by decide)] at hO
          rw [if_neg (by omega)] at hO
          subst hO
          go_upto_region 11 with fail
          go_wp2_with (go_at_call 64; refine (rput_z B b p v _ N _ rfl _ H2.out.drew (by omega) HL.out HBw.out).mono ?_; rintro e w5 ⟨rfl, hb5, p', v', h5⟩)
          go_ret
          exact ⟨rfl, Left.ok (HB.out.trans hb5) h5⟩
set_option maxRecDepth 100000 in
set_option maxHeartbeats 1000000 in
theorem digit_6_0 (B b : Nat) (p v : Value) (s : St) (c : UInt8) (w : World) (h : RAt B b p v s w) (hi : Inv s) (hst : 6 = s.state) (hm : 0 = s.many) (k : Nat) (hk : hexv c = some k) (hlen : s.out.length ≤ 1000000000) (hBw : B ≤ w.heap.size) :
    Calls Tryd.prog 57 #[.pointer (some ⟨b, 0, none⟩), .int .u8 (c.toNat : Int)] w fun e w' => e = .returned (.int .i64 (errOf (digitS s c) : Int)) ∧ Left B b (digitS s c) w w' := by
  obtain ⟨st, out, rune, mny, n, F⟩ := s
  simp only at hst hm hlen
  subst hst
  subst hm
  have hkl := hexv_lt hk
  have HBb := Lib.hid (BIn.hB h)
  have f0 := h.f0
  have f4 := h.f4
  have f5 := h.f5
  have f6 := h.f6
  have z0 := h.fz 0
  have z4 := h.fz 4
  have z5 := h.fz 5
  have z6 := h.fz 6
  simp only at f0 f4 f5 f6
  have hn := (hi.many (by simp)).2
  have hfi := hi.first (by simp)
  have H := Lib.hid h
  have HL := Lib.hid hlen
  simp only at hfi
  simp only [Nat.reducePow] at hn
  obtain ⟨N, hN⟩ : ∃ N, n * 16 + k = N := ⟨_, rfl⟩
  have eN : (n : Int) * 16 + (k : Int) = (N : Int) := by omega
  have HN := Lib.hid hN
  have hNl : N < 16 := by omega
  have hor : bits .or .i32 ((n : Int) * 16) (k : Int) = (n : Int) * 16 + (k : Int) := or_add n k (by omega) hkl
  obtain ⟨O, hO⟩ : ∃ O, digitS ⟨6, out, rune, 0, n, F⟩ c = O := ⟨_, rfl⟩
  rw [hO]
  have hx := hex_idx c
  clear h hlen hi hN
  have cI := fun w => Tryd.strings_IndexByte ⟨digitsL.toArray⟩ ((lowerN c.toNat : Nat) : Int) w
  rw [hk] at hx
  simp only [Int.toNat_natCast, hx] at cI
  clear hx
  go_enter Tryd.func57, Tryd.ntmps57
  have hcl := c.toNat_lt
  obtain ⟨bb, hbb⟩ : ∃ bb, decide (65 ≤ c.toNat ∧ c.toNat ≤ 70) = bb := ⟨_, rfl⟩
  have HBB := Lib.hid hbb
  clear hbb
  go_upto_region 1 with fail
  go_cut [13] (fun c13 wx => c13 = .bool bb ∧ wx = w)
  case first =>
    by_cases h1 : (65 : Int) ≤ (c.toNat : Int)
    · by_cases h2 : (c.toNat : Int) ≤ 70
      · have e : bb = true := HBB.out.symm.trans (decide_eq_true (by omega))
        subst e
        go_wp2_with fail
        go_meet
        exact ⟨rfl, rfl⟩
      · have e : bb = false := HBB.out.symm.trans (decide_eq_false (by omega))
        subst e
        go_wp2_with fail
        go_meet
        exact ⟨rfl, rfl⟩
    · have e : bb = false := HBB.out.symm.trans (decide_eq_false (by omega))
      subst e
      go_wp2_with fail
      go_meet
      exact ⟨rfl, rfl⟩
  case rest =>
    obtain ⟨rfl, hwc⟩ := hcut
    rw [hwc]
    clear hwc
    go_upto_if 13 with fail
    go_cut [1] (fun c1 wx => c1 = .int .u8 ((lowerN c.toNat : Nat) : Int) ∧ wx = w)
    case first =>
      cases bb with
      | true =>
        have hu := of_decide_eq_true HBB.out
        have e := Lib.hid (show ((lowerN c.toNat : Nat) : Int) = (c.toNat : Int) + 32 by unfold lowerN; rw [if_pos hu]; omega)
        have h2 : (c.toNat : Int) ≤ 70 := by omega
        clear hu
        go_wp2_with fail
        go_meet
        exact ⟨congrArg (Value.int .u8) e.out.symm, rfl⟩
      | false =>
        have hu := of_decide_eq_false HBB.out
        have e := Lib.hid (show ((lowerN c.toNat : Nat) : Int) = (c.toNat : Int) by unfold lowerN; rw [if_neg hu])
        clear hu
        go_wp2_with fail
        go_meet
        exact ⟨congrArg (Value.int .u8) e.out.symm, rfl⟩
    case rest =>
      obtain ⟨rfl, hwc⟩ := hcut
      rw [hwc]
      clear hwc
      generalize ((lowerN c.toNat : Nat) : Int) = c1 at cI ⊢
      go_wp2_with (go_at_call 49; refine (cI _).mono ?_; rintro e w1 ⟨rfl, hw⟩; rw [hw]; clear hw)
      go_region
      obtain ⟨w2, hw2⟩ : ∃ w2, (w.setCell ⟨b, 5, none⟩ (.int .i32 (N : Int))).setCell ⟨b, 4, none⟩ (.int .i64 1) = w2 := ⟨_, rfl⟩
      have h2 : RAt B b p v ⟨6, out, rune, 1, N, F⟩ w2 := by rw [← hw2]; exact (H.out.setN N).setMany 1
      have hb2 : Below B w w2 := by rw [← hw2]; exact below_set (below_set (Below.refl B w) HBb.out _ _) HBb.out _ _
      first | rw [hw2] | (rw [show ((w.setCell ⟨b, 5, none⟩ (.int .i32 (N : Int))).setCell ⟨b, 4, none⟩ (.int .i64 1)).drew = w2.drew by rw [hw2]])
      clear hw2 f0 f4 f5 f6 z0 z4 z5 z6 eN
      have f0 := h2.f0
      have f4 := h2.f4
      have f5 := h2.f5
      have f6 := h2.f6
      have z0 := h2.fz 0
      have z4 := h2.fz 4
      have z5 := h2.fz 5
      have z6 := h2.fz 6
      have HB := Lib.hid (show Below B w w2.drew.drew from Below.drew (Below.drew hb2))
      have HBw := Lib.hid (show B ≤ w2.drew.drew.heap.size by show B ≤ w2.heap.size; have := hb2.size; omega)
      have H2 := Lib.hid h2.drew
      simp only at f0 f4 f5 f6
      clear h2 hb2
      go_wp2
      go_region
      by_cases q1 : N * 4096 = 53248
      · have q1z : (N : Int) * 4096 = 53248 := by omega
        rw [digitS_eq (s := ⟨6, out, rune, 0, n, F⟩) (N := N) (M := 1) hk HN.out rfl, if_neg (by simp only [digitBad, isLow, Nat.reduceSub, Nat.reducePow, true_and]; omega), if_pos (by decide)] at hO
        subst hO
        go_wp2
        go_ret
        exact ⟨rfl, Left.ok HB.out H2.out.drew⟩
      · have q1z : ¬ ((N : Int) * 4096 = 53248) := by omega
        rw [digitS_eq (s := ⟨6, out, rune, 0, n, F⟩) (N := N) (M := 1) hk HN.out rfl, if_pos (by simp only [digitBad, isLow, Nat.reduceSub, Nat.reducePow, true_and]; omega)] at hO
        subst hO
        go_wp2
        go_ret
        exact ⟨rfl, Left.bad HB.out⟩
set_option maxRecDepth 100000 in
set_option maxHeartbeats 1000000 in
theorem digit_6_1 (B b : Nat) (p v : Value) (s : St) (c : UInt8) (w : World) (h : RAt B b p v s w) (hi : Inv s) (hst : 6 = s.state) (hm : 1 = s.many) (k : Nat) (hk : hexv c = some k) (hlen : s.out.length ≤ 1000000000) (hBw : B ≤ w.heap.size) :
    Calls Tryd.prog 57 #[.pointer (some ⟨b, 0, none⟩), .int .u8 (c.toNat : Int)] w fun e w' => e = .returned (.int .i64 (errOf (digitS s c) : Int)) ∧ Left B b (digitS s c) w w' := by
  obtain ⟨st, out, rune, mny, n, F⟩ := s
  simp only at hst hm hlen
  subst hst
  subst hm
  have hkl := hexv_lt hk
  have HBb := Lib.hid (BIn.hB h)
  have f0 := h.f0
  have f4 := h.f4
  have f5 := h.f5
  have f6 := h.f6
  have z0 := h.fz 0
  have z4 := h.fz 4
  have z5 := h.fz 5
  have z6 := h.fz 6
  simp only at f0 f4 f5 f6
  have hn := (hi.many (by simp)).2
  have hfi := hi.first (by simp)
  have H := Lib.hid h
  have HL := Lib.hid hlen
  simp only at hfi
  simp only [Nat.reducePow] at hn
  obtain ⟨N, hN⟩ : ∃ N, n * 16 + k = N := ⟨_, rfl⟩
  have eN : (n : Int) * 16 + (k : Int) = (N : Int) := by omega
  have HN := Lib.hid hN
  have hNl : N < 256 := by omega
  have hor : bits .or .i32 ((n : Int) * 16) (k : Int) = (n : Int) * 16 + (k : Int) := or_add n k (by omega) hkl
  obtain ⟨O, hO⟩ : ∃ O, digitS ⟨6, out, rune, 1, n, F⟩ c = O := ⟨_, rfl⟩
  rw [hO]
  have hx := hex_idx c
  clear h hlen hi hN
  have cI := fun w => Tryd.strings_IndexByte ⟨digitsL.toArray⟩ ((lowerN c.toNat : Nat) : Int) w
  rw [hk] at hx
  simp only [Int.toNat_natCast, hx] at cI
  clear hx
  go_enter Tryd.func57, Tryd.ntmps57
  have hcl := c.toNat_lt
  obtain ⟨bb, hbb⟩ : ∃ bb, decide (65 ≤ c.toNat ∧ c.toNat ≤ 70) = bb := ⟨_, rfl⟩
  have HBB := Lib.hid hbb
  clear hbb
  go_upto_region 1 with fail
  go_cut [13] (fun c13 wx => c13 = .bool bb ∧ wx = w)
  case first =>
    by_cases h1 : (65 : Int) ≤ (c.toNat : Int)
    · by_cases h2 : (c.toNat : Int) ≤ 70
      · have e : bb = true := HBB.out.symm.trans (decide_eq_true (by omega))
        subst e
        go_wp2_with fail
        go_meet
        exact ⟨rfl, rfl⟩
      · have e : bb = false := HBB.out.symm.trans (decide_eq_false (by omega))
        subst e
        go_wp2_with fail
        go_meet
        exact ⟨rfl, rfl⟩
    · have e : bb = false := HBB.out.symm.trans (decide_eq_false (by omega))
      subst e
      go_wp2_with fail
      go_meet
      exact ⟨rfl, rfl⟩
  case rest =>
    obtain ⟨rfl, hwc⟩ := hcut
    rw [hwc]
    clear hwc
    go_upto_if 13 with fail
    go_cut [1] (fun c1 wx => c1 = .int .u8 ((lowerN c.toNat : Nat) : Int) ∧ wx = w)
    case first =>
      cases bb with
      | true =>
        have hu := of_decide_eq_true HBB.out
        have e := Lib.hid (show ((lowerN c.toNat : Nat) : Int) = (c.toNat : Int) + 32 by unfold lowerN; rw [if_pos hu]; omega)
        have h2 : (c.toNat : Int) ≤ 70 := by omega
        clear hu
        go_wp2_with fail
        go_meet
        exact ⟨congrArg (Value.int .u8) e.out.symm, rfl⟩
      | false =>
        have hu := of_decide_eq_false HBB.out
        have e := Lib.hid (show ((lowerN c.toNat : Nat) : Int) = (c.toNat : Int) by unfold lowerN; rw [if_neg hu])
        clear hu
        go_wp2_with fail
        go_meet
        exact ⟨congrArg (Value.int .u8) e.out.symm, rfl⟩
    case rest =>
      obtain ⟨rfl, hwc⟩ := hcut
      rw [hwc]
      clear hwc
      generalize ((lowerN c.toNat : Nat) : Int) = c1 at cI ⊢
      go_wp2_with (go_at_call 49; refine (cI _).mono ?_; rintro e w1 ⟨rfl, hw⟩; rw [hw]; clear hw)
      go_region
      obtain ⟨w2, hw2⟩ : ∃ w2, (w.setCell ⟨b, 5, none⟩ (.int .i32 (N : Int))).setCell ⟨b, 4, none⟩ (.int .i64 2) = w2 := ⟨_, rfl⟩
      have h2 : RAt B b p v ⟨6, out, rune, 2, N, F⟩ w2 := by rw [← hw2]; exact (H.out.setN N).setMany 2
      have hb2 : Below B w w2 := by rw [← hw2]; exact below_set (below_set (Below.refl B w) HBb.out _ _) HBb.out _ _
      first | rw [hw2] | (rw [show ((w.setCell ⟨b, 5, none⟩ (.int .i32 (N : Int))).setCell ⟨b, 4, none⟩ (.int .i64 2)).drew = w2.drew by rw [hw2]])
      clear hw2 f0 f4 f5 f6 z0 z4 z5 z6 eN
      have f0 := h2.f0
      have f4 := h2.f4
      have f5 := h2.f5
      have f6 := h2.f6
      have z0 := h2.fz 0
      have z4 := h2.fz 4
      have z5 := h2.fz 5
      have z6 := h2.fz 6
      have HB := Lib.hid (show Below B w w2.drew.drew from Below.drew (Below.drew hb2))
      have HBw := Lib.hid (show B ≤ w2.drew.drew.heap.size by show B ≤ w2.heap.size; have := hb2.size; omega)
      have H2 := Lib.hid h2.drew
      simp only at f0 f4 f5 f6
      clear h2 hb2
      go_wp2
      go_region
      by_cases q1 : N * 256 < 56320
      · have q1z : ¬ ((56320 : Int) ≤ (N : Int) * 256) := by omega
        rw [digitS_eq (s := ⟨6, out, rune, 1, n, F⟩) (N := N) (M := 2) hk HN.out rfl, if_pos (by simp only [digitBad, isLow, Nat.reduceSub, Nat.reducePow, true_and]; omega)] at hO
        subst hO
        go_wp2
        go_ret
        exact ⟨rfl, Left.bad HB.out⟩
      · have q1z : (56320 : Int) ≤ (N : Int) * 256 := by omega
        by_cases q2 : N * 256 < 57344
        · have q2z : (N : Int) * 256 < 57344 := by omega
          rw [digitS_eq (s := ⟨6, out, rune, 1, n, F⟩) (N := N) (M := 2) hk HN.out rfl, if_neg (by simp only [digitBad, isLow, Nat.reduceSub, Nat.reducePow, true_and]; omega), if_pos (by decide)] at hO
          subst hO
          go_wp2
          go_ret
          exact ⟨rfl, Left.ok HB.out H2.out.drew⟩
        · have q2z : ¬ ((N : Int) * 256 < 57344) := by omega
          rw [digitS_eq (s := ⟨6, out, rune, 1, n, F⟩) (N := N) (M := 2) hk HN.out rfl, if_pos (by simp only [digitBad, isLow, Nat.reduceSub, Nat.reducePow, true_and]; omega)] at hO
          subst hO
          go_wp2
          go_ret
          exact ⟨rfl, Left.bad HB.out⟩
set_option maxRecDepth 100000 in
set_option maxHeartbeats 1000000 in
theorem digit_6_2 (B b : Nat) (p v : Value) (s : St) (c : UInt8) (w : World) (h : RAt B b p v s w) (hi : Inv s) (hst : 6 = s.state) (hm : 2 = s.many) (k : Nat) (hk : hexv c = some k) (hlen : s.out.length ≤ 1000000000) (hBw : B ≤ w.heap.size) :
    Calls Tryd.prog 57 #[.pointer (some ⟨b, 0, none⟩), .int .u8 (c.toNat : Int)] w fun e w' => e = .returned (.int .i64 (errOf (digitS s c) : Int)) ∧ Left B b (digitS s c) w w' := by
  obtain ⟨st, out, rune, mny, n, F⟩ := s
  simp only at hst hm hlen
  subst hst
  subst hm
  have hkl := hexv_lt hk
  have HBb := Lib.hid (BIn.hB h)
  have f0 := h.f0
  have f4 := h.f4
  have f5 := h.f5
  have f6 := h.f6
  have z0 := h.fz 0
  have z4 := h.fz 4
  have z5 := h.fz 5
  have z6 := h.fz 6
  simp only at f0 f4 f5 f6
  have hn := (hi.many (by simp)).2
  have hfi := hi.first (by simp)
  have H := Lib.hid h
  have HL := Lib.hid hlen
  simp only at hfi
  simp only [Nat.reducePow] at hn
  obtain ⟨N, hN⟩ : ∃ N, n * 16 + k = N := ⟨_, rfl⟩
  have eN : (n : Int) * 16 + (k : Int) = (N : Int) := by omega
  have HN := Lib.hid hN
  have hNl : N < 4096 := by omega
  have hor : bits .or .i32 ((n : Int) * 16) (k : Int) = (n : Int) * 16 + (k : Int) := or_add n k (by omega) hkl
  obtain ⟨O, hO⟩ : ∃ O, digitS ⟨6, out, rune, 2, n, F⟩ c = O := ⟨_, rfl⟩
  rw [hO]
  have hx := hex_idx c
  clear h hlen hi hN
  have cI := fun w => Tryd.strings_IndexByte ⟨digitsL.toArray⟩ ((lowerN c.toNat : Nat) : Int) w
  rw [hk] at hx
  simp only [Int.toNat_natCast, hx] at cI
  clear hx
  go_enter Tryd.func57, Tryd.ntmps57
  have hcl := c.toNat_lt
  obtain ⟨bb, hbb⟩ : ∃ bb, decide (65 ≤ c.toNat ∧ c.toNat ≤ 70) = bb := ⟨_, rfl⟩
  have HBB := Lib.hid hbb
  clear hbb
  go_upto_region 1 with fail
  go_cut [13] (fun c13 wx => c13 = .bool bb ∧ wx = w)
  case first =>
    by_cases h1 : (65 : Int) ≤ (c.toNat : Int)
    · by_cases h2 : (c.toNat : Int) ≤ 70
      · have e : bb = true := HBB.out.symm.trans (decide_eq_true (by omega))
        subst e
        go_wp2_with fail
        go_meet
        exact ⟨rfl, rfl⟩
      · have e : bb = false := HBB.out.symm.trans (decide_eq_false (by omega))
        subst e
        go_wp2_with fail
        go_meet
        exact ⟨rfl, rfl⟩
    · have e : bb = false := HBB.out.symm.trans (decide_eq_false (by omega))
      subst e
      go_wp2_with fail
      go_meet
      exact ⟨rfl, rfl⟩
  case rest =>
    obtain ⟨rfl, hwc⟩ := hcut
    rw [hwc]
    clear hwc
    go_upto_if 13 with fail
    go_cut [1] (fun c1 wx => c1 = .int .u8 ((lowerN c.toNat : Nat) : Int) ∧ wx = w)
    case first =>
      cases bb with
      | true =>
        have hu := of_decide_eq_true HBB.out
        have e := Lib.hid (show ((lowerN c.toNat : Nat) : Int) = (c.toNat : Int) + 32 by unfold lowerN; rw [if_pos hu]; omega)
        have h2 : (c.toNat : Int) ≤ 70 := by omega
        clear hu
        go_wp2_with fail
        go_meet
        exact ⟨congrArg (Value.int .u8) e.out.symm, rfl⟩
      | false =>
        have hu := of_decide_eq_false HBB.out
        have e := Lib.hid (show ((lowerN c.toNat : Nat) : Int) = (c.toNat : Int) by unfold lowerN; rw [if_neg hu])
        clear hu
        go_wp2_with fail
        go_meet
        exact ⟨congrArg (Value.int .u8) e.out.symm, rfl⟩
    case rest =>
      obtain ⟨rfl, hwc⟩ := hcut
      rw [hwc]
      clear hwc
      generalize ((lowerN c.toNat : Nat) : Int) = c1 at cI ⊢
      go_wp2_with (go_at_call 49; refine (cI _).mono ?_; rintro e w1 ⟨rfl, hw⟩; rw [hw]; clear hw)
      go_region
      obtain ⟨w2, hw2⟩ : ∃ w2, (w.setCell ⟨b, 5, none⟩ (.int .i32 (N : Int))).setCell ⟨b, 4, none⟩ (.int .i64 3) = w2 := ⟨_, rfl⟩
      have h2 : RAt B b p v ⟨6, out, rune, 3, N, F⟩ w2 := by rw [← hw2]; exact (H.out.setN N).setMany 3
      have hb2 : Below B w w2 := by rw [← hw2]; exact below_set (below_set (Below.refl B w) HBb.out _ _) HBb.out _ _
      first | rw [hw2] | (rw [show ((w.setCell ⟨b, 5, none⟩ (.int .i32 (N : Int))).setCell ⟨b, 4, none⟩ (.int .i64 3)).drew = w2.drew by rw [hw2]])
      clear hw2 f0 f4 f5 f6 z0 z4 z5 z6 eN
      have f0 := h2.f0
      have f4 := h2.f4
      have f5 := h2.f5
      have f6 := h2.f6
      have z0 := h2.fz 0
      have z4 := h2.fz 4
      have z5 := h2.fz 5
      have z6 := h2.fz 6
      have HB := Lib.hid (show Below B w w2.drew.drew from Below.drew (Below.drew hb2))
      have HBw := Lib.hid (show B ≤ w2.drew.drew.heap.size by show B ≤ w2.heap.size; have := hb2.size; omega)
      have H2 := Lib.hid h2.drew
      simp only at f0 f4 f5 f6
      clear h2 hb2
      go_wp2
      go_region
      by_cases q1 : N * 16 < 56320
      · have q1z : ¬ ((56320 : Int) ≤ (N : Int) * 16) := by omega
        rw [digitS_eq (s := ⟨6, out, rune, 2, n, F⟩) (N := N) (M := 3) hk HN.out rfl, if_pos (by simp only [digitBad, isLow, Nat.reduceSub, Nat.reducePow, true_and]; omega)] at hO
        subst hO
        go_wp2
        go_ret
        exact ⟨rfl, Left.bad HB.out⟩
      · have q1z : (56320 : Int) ≤ (N : Int) * 16 := by omega
        by_cases q2 : N * 16 < 57344
        · have q2z : (N : Int) * 16 < 57344 := by omega
          rw [digitS_eq (s := ⟨6, out, rune, 2, n, F⟩) (N := N) (M := 3) hk HN.out rfl, if_neg (by simp only [digitBad, isLow, Nat.reduceSub, Nat.reducePow, true_and]; omega), if_pos (by decide)] at hO
          subst hO
          go_wp2
          go_ret
          exact ⟨rfl, Left.ok HB.out H2.out.drew⟩
        · have q2z : ¬ ((N : Int) * 16 < 57344) := by omega
          rw [digitS_eq (s := ⟨6, out, rune, 2, n, F⟩) (N := N) (M := 3) hk HN.out rfl, if_pos (by simp only [digitBad, isLow, Nat.reduceSub, Nat.reducePow, true_and]; omega)] at hO
          subst hO
          go_wp2
          go_ret
          exact ⟨rfl, Left.bad HB.out⟩
set_option maxRecDepth 100000 in
set_option maxHeartbeats 1000000 in
theorem digit_6_3 (B b : Nat) (p v : Value) (s : St) (c : UInt8) (w : World) (h : RAt B b p v s w) (hi : Inv s) (hst : 6 = s.state) (hm : 3 = s.many) (k : Nat) (hk : hexv c = some k) (hlen : s.out.length ≤ 1000000000) (hBw : B ≤ w.heap.size) :
    Calls Tryd.prog 57 #[.pointer (some ⟨b, 0, none⟩), .int .u8 (c.toNat : Int)] w fun e w' => e = .returned (.int .i64 (errOf (digitS s c) : Int)) ∧ Left B b (digitS s c) w w' := by
  obtain ⟨st, out, rune, mny, n, F⟩ := s
  simp only at hst hm hlen
  subst hst
  subst hm
  have hkl := hexv_lt hk
  have HBb := Lib.hid (BIn.hB h)
  have f0 := h.f0
  have f4 := h.f4
  have f5 := h.f5
  have f6 := h.f6
  have z0 := h.fz 0
  have z4 := h.fz 4
  have z5 := h.fz 5
  have z6 := h.fz 6
  simp only at f0 f4 f5 f6
  have hn := (hi.many (by simp)).2
  have hfi := hi.first (by simp)
  have H := Lib.hid h
  have HL := Lib.hid hlen
  simp only at hfi
  simp only [Nat.reducePow] at hn
  obtain ⟨N, hN⟩ : ∃ N, n * 16 + k = N := ⟨_, rfl⟩
  have eN : (n : Int) * 16 + (k : Int) = (N : Int) := by omega
  have HN := Lib.hid hN
  have hNl : N < 65536 := by omega
  have hor : bits .or .i32 ((n : Int) * 16) (k : Int) = (n : Int) * 16 + (k : Int) := or_add n k (by omega) hkl
  obtain ⟨O, hO⟩ : ∃ O, digitS ⟨6, out, rune, 3, n, F⟩ c = O := ⟨_, rfl⟩
  rw [hO]
  have hx := hex_idx c
  clear h hlen hi hN
  have cI := fun w => Tryd.strings_IndexByte ⟨digitsL.toArray⟩ ((lowerN c.toNat : Nat) : Int) w
  rw [hk] at hx
  simp only [Int.toNat_natCast, hx] at cI
  clear hx
  go_enter Tryd.func57, Tryd.ntmps57
  have hcl := c.toNat_lt
  obtain ⟨bb, hbb⟩ : ∃ bb, decide (65 ≤ c.toNat ∧ c.toNat ≤ 70) = bb := ⟨_, rfl⟩
  have HBB := Lib.hid hbb
  clear hbb
  go_upto_region 1 with fail
  go_cut [13] (fun c13 wx => c13 = .bool bb ∧ wx = w)
  case first =>
    by_cases h1 : (65 : Int) ≤ (c.toNat : Int)
    · by_cases h2 : (c.toNat : Int) ≤ 70
      · have e : bb = true := HBB.out.symm.trans (decide_eq_true (by omega))
        subst e
        go_wp2_with fail
        go_meet
        exact ⟨rfl, rfl⟩
      · have e : bb = false := HBB.out.symm.trans (decide_eq_false (by omega))
        subst e
        go_wp2_with fail
        go_meet
        exact ⟨rfl, rfl⟩
    · have e : bb = false := HBB.out.symm.trans (decide_eq_false (by omega))
      subst e
      go_wp2_with fail
      go_meet
      exact ⟨rfl, rfl⟩
  case rest =>
    obtain ⟨rfl, hwc⟩ := hcut
    rw [hwc]
    clear hwc
    go_upto_if 13 with fail
    go_cut [1] (fun c1 wx => c1 = .int .u8 ((lowerN c.toNat : Nat) : Int) ∧ wx = w)
    case first =>
      cases bb with
      | true =>
        have hu := of_decide_eq_true HBB.out
        have e := Lib.hid (show ((lowerN c.toNat : Nat) : Int) = (c.toNat : Int) + 32 by unfold lowerN; rw [if_pos hu]; omega)
        have h2 : (c.toNat : Int) ≤ 70 := by omega
        clear hu
        go_wp2_with fail
        go_meet
        exact ⟨congrArg (Value.int .u8) e.out.symm, rfl⟩
      | false =>
        have hu := of_decide_eq_false HBB.out
        have e := Lib.hid (show ((lowerN c.toNat : Nat) : Int) = (c.toNat : Int) by unfold lowerN; rw [if_neg hu])
        clear hu
        go_wp2_with fail
        go_meet
        exact ⟨congrArg (Value.int .u8) e.out.symm, rfl⟩
    case rest =>
      obtain ⟨rfl, hwc⟩ := hcut
      rw [hwc]
      clear hwc
      generalize ((lowerN c.toNat : Nat) : Int) = c1 at cI ⊢
      go_wp2_with (go_at_call 49; refine (cI _).mono ?_; rintro e w1 ⟨rfl, hw⟩; rw [hw]; clear hw)
      go_region
      obtain ⟨w2, hw2⟩ : ∃ w2, (w.setCell ⟨b, 5, none⟩ (.int .i32 (N : Int))).setCell ⟨b, 4, none⟩ (.int .i64 4) = w2 := ⟨_, rfl⟩
      have h2 : RAt B b p v ⟨6, out, rune, 4, N, F⟩ w2 := by rw [← hw2]; exact (H.out.setN N).setMany 4
      have hb2 : Below B w w2 := by rw [← hw2]; exact below_set (below_set (Below.refl B w) HBb.out _ _) HBb.out _ _
      first | rw [hw2] | (rw [show ((w.setCell ⟨b, 5, none⟩ (.int .i32 (N : Int))).setCell ⟨b, 4, none⟩ (.int .i64 4)).drew = w2.drew by rw [hw2]])
      clear hw2 f0 f4 f5 f6 z0 z4 z5 z6 eN
      have f0 := h2.f0
      have f4 := h2.f4
      have f5 := h2.f5
      have f6 := h2.f6
      have z0 := h2.fz 0
      have z4 := h2.fz 4
      have z5 := h2.fz 5
      have z6 := h2.fz 6
      have HB := Lib.hid (show Below B w w2.drew.drew from Below.drew (Below.drew hb2))
      have HBw := Lib.hid (show B ≤ w2.drew.drew.heap.size by show B ≤ w2.heap.size; have := hb2.size; omega)
      have H2 := Lib.hid h2.drew
      simp only at f0 f4 f5 f6
      clear h2 hb2
      go_wp2
      go_region
      by_cases q1 : N < 56320
      · have q1z : ¬ ((56320 : Int) ≤ (N : Int)) := by omega
        rw [digitS_eq (s := ⟨6, out, rune, 3, n, F⟩) (N := N) (M := 4) hk HN.out rfl, if_pos (by simp only [digitBad, isLow, Nat.reduceSub, Nat.reducePow, true_and]; omega)] at hO
        subst hO
        go_wp2
        go_ret
        exact ⟨rfl, Left.bad HB.out⟩
      · have q1z : (56320 : Int) ≤ (N : Int) := by omega
        by_cases q2 : N < 57344
        · have q2z : (N : Int) < 57344 := by omega
          rw [digitS_eq (s := ⟨6, out, rune, 3, n, F⟩) (N := N) (M := 4) hk HN.out rfl, if_neg (by simp only [digitBad, isLow, Nat.reduceSub, Nat.reducePow, true_and]; omega), if_neg (by decide), if_pos rfl] at hO
          subst hO
          go_wp2
          go_region_with (refine (rput_z B b p v _ (65536 + (F - 55296) * 1024 + N - 56320) _ (by simp only [IntKind.wrap_i32]; omega) _ (H2.out.drew.drewN _) (by omega) HL.out HBw.out).mono ?_; rintro e w5 ⟨rfl, hb5, p', v', h5⟩)
          all_goals
            go_wp2
            go_ret
            exact ⟨rfl, Left.ok (HB.out.trans ((below_drewN (Below.refl B _) _).trans hb5)) h5⟩
        · have q2z : ¬ ((N : Int) < 57344) := by omega
          rw [digitS_eq (s := ⟨6, out, rune, 3, n, F⟩) (N := N) (M := 4) hk HN.out rfl, if_pos (by simp only [digitBad, isLow, Nat.reduceSub, Nat.reducePow, true_and]; omega)] at hO
          subst hO
          go_wp2
          go_ret
          exact ⟨rfl, Left.bad HB.out⟩
end Go.Proofs.YtalegkgonbmaoaaDoor
