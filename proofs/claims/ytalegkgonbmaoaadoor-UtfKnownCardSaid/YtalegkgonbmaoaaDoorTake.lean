import Derived.Test.YtalegkgonbmaoaaDoorDigit
import Derived.Test.YtalegkgonbmaoaaDoorPlain
/- The reader's methods escape, begin, take. -/
set_option linter.unusedVariables false
namespace Go.Proofs.YtalegkgonbmaoaaDoor
open Go.RowKit
def marksL : List UInt8 := [34, 92, 47, 98, 102, 110, 114, 116]
theorem esc_fin : ∀ n : Fin 256, UInt8.ofNat n.val = 34 ∨ UInt8.ofNat n.val = 92 ∨ UInt8.ofNat n.val = 47 ∨ UInt8.ofNat n.val = 98 ∨ UInt8.ofNat n.val = 102 ∨ UInt8.ofNat n.val = 110 ∨ UInt8.ofNat n.val = 114 ∨ UInt8.ofNat n.val = 116 ∨ ((escv (UInt8.ofNat n.val)).isNone = true ∧ Lib.indexByte marksL (UInt8.ofNat n.val) = -1) := by decide +kernel
theorem esc_cases (c : UInt8) : c = 34 ∨ c = 92 ∨ c = 47 ∨ c = 98 ∨ c = 102 ∨ c = 110 ∨ c = 114 ∨ c = 116 ∨ (escv c = none ∧ Lib.indexByte marksL c = -1) := by
  have := esc_fin ⟨c.toNat, c.toNat_lt⟩
  simpa using this
set_option maxRecDepth 100000 in
set_option maxHeartbeats 1000000 in
theorem escape_34 (B b : Nat) (p v : Value) (s : St) (w : World) (h : RAt B b p v s w) (hlen : s.out.length ≤ 1000000000) (hBw : B ≤ w.heap.size) :
    Calls Tryd.prog 56 #[.pointer (some ⟨b, 0, none⟩), .int .u8 34] w fun e w' => e = .returned (.int .i64 (errOf (escapeS s 34) : Int)) ∧ Left B b (escapeS s 34) w w' := by
  have hO : escapeS s 34 = .ok (putS s 34) := rfl
  rw [hO]
  have cI := fun w => Tryd.strings_IndexByte ⟨marksL.toArray⟩ 34 w
  have e : Lib.indexByte (⟨marksL.toArray⟩ : ByteArray).data.toList (34 : Int).toNat.toUInt8 = 0 := by decide
  rw [e] at cI
  have hi : (⟨#[34, 92, 47, 8, 12, 10, 13, 9]⟩ : ByteArray)[0]'(by decide) = (34 : UInt8) := rfl
  clear hO e
  go_enter Tryd.func56, Tryd.ntmps56
  go_wp2_with (first | (go_at_call 49; refine (cI _).mono ?_; rintro e w1 ⟨rfl, hw⟩; rw [hw]; clear hw) | (go_at_call 64; refine (rput_z B b p v _ 34 _ (by rfl) _ h (by omega) hlen hBw).mono ?_; rintro e w5 ⟨rfl, hb5, p', v', h5⟩))
  go_ret
  exact ⟨rfl, Left.ok hb5 h5⟩
set_option maxRecDepth 100000 in
set_option maxHeartbeats 1000000 in
theorem escape_92 (B b : Nat) (p v : Value) (s : St) (w : World) (h : RAt B b p v s w) (hlen : s.out.length ≤ 1000000000) (hBw : B ≤ w.heap.size) :
    Calls Tryd.prog 56 #[.pointer (some ⟨b, 0, none⟩), .int .u8 92] w fun e w' => e = .returned (.int .i64 (errOf (escapeS s 92) : Int)) ∧ Left B b (escapeS s 92) w w' := by
  have hO : escapeS s 92 = .ok (putS s 92) := rfl
  rw [hO]
  have cI := fun w => Tryd.strings_IndexByte ⟨marksL.toArray⟩ 92 w
  have e : Lib.indexByte (⟨marksL.toArray⟩ : ByteArray).data.toList (92 : Int).toNat.toUInt8 = 1 := by decide
  rw [e] at cI
  have hi : (⟨#[34, 92, 47, 8, 12, 10, 13, 9]⟩ : ByteArray)[1]'(by decide) = (92 : UInt8) := rfl
  clear hO e
  go_enter Tryd.func56, Tryd.ntmps56
  go_wp2_with (first | (go_at_call 49; refine (cI _).mono ?_; rintro e w1 ⟨rfl, hw⟩; rw [hw]; clear hw) | (go_at_call 64; refine (rput_z B b p v _ 92 _ (by rfl) _ h (by omega) hlen hBw).mono ?_; rintro e w5 ⟨rfl, hb5, p', v', h5⟩))
  go_ret
  exact ⟨rfl, Left.ok hb5 h5⟩
set_option maxRecDepth 100000 in
set_option maxHeartbeats 1000000 in
theorem escape_47 (B b : Nat) (p v : Value) (s : St) (w : World) (h : RAt B b p v s w) (hlen : s.out.length ≤ 1000000000) (hBw : B ≤ w.heap.size) :
    Calls Tryd.prog 56 #[.pointer (some ⟨b, 0, none⟩), .int .u8 47] w fun e w' => e = .returned (.int .i64 (errOf (escapeS s 47) : Int)) ∧ Left B b (escapeS s 47) w w' := by
  have hO : escapeS s 47 = .ok (putS s 47) := rfl
  rw [hO]
  have cI := fun w => Tryd.strings_IndexByte ⟨marksL.toArray⟩ 47 w
  have e : Lib.indexByte (⟨marksL.toArray⟩ : ByteArray).data.toList (47 : Int).toNat.toUInt8 = 2 := by decide
  rw [e] at cI
  have hi : (⟨#[34, 92, 47, 8, 12, 10, 13, 9]⟩ : ByteArray)[2]'(by decide) = (47 : UInt8) := rfl
  clear hO e
  go_enter Tryd.func56, Tryd.ntmps56
  go_wp2_with (first | (go_at_call 49; refine (cI _).mono ?_; rintro e w1 ⟨rfl, hw⟩; rw [hw]; clear hw) | (go_at_call 64; refine (rput_z B b p v _ 47 _ (by rfl) _ h (by omega) hlen hBw).mono ?_; rintro e w5 ⟨rfl, hb5, p', v', h5⟩))
  go_ret
  exact ⟨rfl, Left.ok hb5 h5⟩
set_option maxRecDepth 100000 in
set_option maxHeartbeats 1000000 in
theorem escape_98 (B b : Nat) (p v : Value) (s : St) (w : World) (h : RAt B b p v s w) (hlen : s.out.length ≤ 1000000000) (hBw : B ≤ w.heap.size) :
    Calls Tryd.prog 56 #[.pointer (some ⟨b, 0, none⟩), .int .u8 98] w fun e w' => e = .returned (.int .i64 (errOf (escapeS s 98) : Int)) ∧ Left B b (escapeS s 98) w w' := by
  have hO : escapeS s 98 = .ok (putS s 8) := rfl
  rw [hO]
  have cI := fun w => Tryd.strings_IndexByte ⟨marksL.toArray⟩ 98 w
  have e : Lib.indexByte (⟨marksL.toArray⟩ : ByteArray).data.toList (98 : Int).toNat.toUInt8 = 3 := by decide
  rw [e] at cI
  have hi : (⟨#[34, 92, 47, 8, 12, 10, 13, 9]⟩ : ByteArray)[3]'(by decide) = (8 : UInt8) := rfl
  clear hO e
  go_enter Tryd.func56, Tryd.ntmps56
  go_wp2_with (first | (go_at_call 49; refine (cI _).mono ?_; rintro e w1 ⟨rfl, hw⟩; rw [hw]; clear hw) | (go_at_call 64; refine (rput_z B b p v _ 8 _ (by rfl) _ h (by omega) hlen hBw).mono ?_; rintro e w5 ⟨rfl, hb5, p', v', h5⟩))
  go_ret
  exact ⟨rfl, Left.ok hb5 h5⟩
set_option maxRecDepth 100000 in
set_option maxHeartbeats 1000000 in
theorem escape_102 (B b : Nat) (p v : Value) (s : St) (w : World) (h : RAt B b p v s w) (hlen : s.out.length ≤ 1000000000) (hBw : B ≤ w.heap.size) :
    Calls Tryd.prog 56 #[.pointer (some ⟨b, 0, none⟩), .int .u8 102] w fun e w' => e = .returned (.int .i64 (errOf (escapeS s 102) : Int)) ∧ Left B b (escapeS s 102) w w' := by
  have hO : escapeS s 102 = .ok (putS s 12) := rfl
  rw [hO]
  have cI := fun w => Tryd.strings_IndexByte ⟨marksL.toArray⟩ 102 w
  have e : Lib.indexByte (⟨marksL.toArray⟩ : ByteArray).data.toList (102 : Int).toNat.toUInt8 = 4 := by decide
  rw [e] at cI
  have hi : (⟨#[34, 92, 47, 8, 12, 10, 13, 9]⟩ : ByteArray)[4]'(by decide) = (12 : UInt8) := rfl
  clear hO e
  go_enter Tryd.func56, Tryd.ntmps56
  go_wp2_with (first | (go_at_call 49; refine (cI _).mono ?_; rintro e w1 ⟨rfl, hw⟩; rw [hw]; clear hw) | (go_at_call 64; refine (rput_z B b p v _ 12 _ (by rfl) _ h (by omega) hlen hBw).mono ?_; rintro e w5 ⟨rfl, hb5, p', v', h5⟩))
  go_ret
  exact ⟨rfl, Left.ok hb5 h5⟩
set_option maxRecDepth 100000 in
set_option maxHeartbeats 1000000 in
theorem escape_110 (B b : Nat) (p v : Value) (s : St) (w : World) (h : RAt B b p v s w) (hlen : s.out.length ≤ 1000000000) (hBw : B ≤ w.heap.size) :
    Calls Tryd.prog 56 #[.pointer (some ⟨b, 0, none⟩), .int .u8 110] w fun e w' => e = .returned (.int .i64 (errOf (escapeS s 110) : Int)) ∧ Left B b (escapeS s 110) w w' := by
  have hO : escapeS s 110 = .ok (putS s 10) := rfl
  rw [hO]
  have cI := fun w => Tryd.strings_IndexByte ⟨marksL.toArray⟩ 110 w
  have e : Lib.indexByte (⟨marksL.toArray⟩ : ByteArray).data.toList (110 : Int).toNat.toUInt8 = 5 := by decide
  rw [e] at cI
  have hi : (⟨#[34, 92, 47, 8, 12, 10, 13, 9]⟩ : ByteArray)[5]'(by decide) = (10 : UInt8) := rfl
  clear hO e
  go_enter Tryd.func56, Tryd.ntmps56
  go_wp2_with (first | (go_at_call 49; refine (cI _).mono ?_; rintro e w1 ⟨rfl, hw⟩; rw [hw]; clear hw) | (go_at_call 64; refine (rput_z B b p v _ 10 _ (by rfl) _ h (by omega) hlen hBw).mono ?_; rintro e w5 ⟨rfl, hb5, p', v', h5⟩))
  go_ret
  exact ⟨rfl, Left.ok hb5 h5⟩
set_option maxRecDepth 100000 in
set_option maxHeartbeats 1000000 in
theorem escape_114 (B b : Nat) (p v : Value) (s : St) (w : World) (h : RAt B b p v s w) (hlen : s.out.length ≤ 1000000000) (hBw : B ≤ w.heap.size) :
    Calls Tryd.prog 56 #[.pointer (some ⟨b, 0, none⟩), .int .u8 114] w fun e w' => e = .returned (.int .i64 (errOf (escapeS s 114) : Int)) ∧ Left B b (escapeS s 114) w w' := by
  have hO : escapeS s 114 = .ok (putS s 13) := rfl
  rw [hO]
  have cI := fun w => Tryd.strings_IndexByte ⟨marksL.toArray⟩ 114 w
  have e : Lib.indexByte (⟨marksL.toArray⟩ : ByteArray).data.toList (114 : Int).toNat.toUInt8 = 6 := by decide
  rw [e] at cI
  have hi : (⟨#[34, 92, 47, 8, 12, 10, 13, 9]⟩ : ByteArray)[6]'(by decide) = (13 : UInt8) := rfl
  clear hO e
  go_enter Tryd.func56, Tryd.ntmps56
  go_wp2_with (first | (go_at_call 49; refine (cI _).mono ?_; rintro e w1 ⟨rfl, hw⟩; rw [hw]; clear hw) | (go_at_call 64; refine (rput_z B b p v _ 13 _ (by rfl) _ h (by omega) hlen hBw).mono ?_; rintro e w5 ⟨rfl, hb5, p', v', h5⟩))
  go_ret
  exact ⟨rfl, Left.ok hb5 h5⟩
set_option maxRecDepth 100000 in
set_option maxHeartbeats 1000000 in
theorem escape_116 (B b : Nat) (p v : Value) (s : St) (w : World) (h : RAt B b p v s w) (hlen : s.out.length ≤ 1000000000) (hBw : B ≤ w.heap.size) :
    Calls Tryd.prog 56 #[.pointer (some ⟨b, 0, none⟩), .int .u8 116] w fun e w' => e = .returned (.int .i64 (errOf (escapeS s 116) : Int)) ∧ Left B b (escapeS s 116) w w' := by
  have hO : escapeS s 116 = .ok (putS s 9) := rfl
  rw [hO]
  have cI := fun w => Tryd.strings_IndexByte ⟨marksL.toArray⟩ 116 w
  have e : Lib.indexByte (⟨marksL.toArray⟩ : ByteArray).data.toList (116 : Int).toNat.toUInt8 = 7 := by decide
  rw [e] at cI
  have hi : (⟨#[34, 92, 47, 8, 12, 10, 13, 9]⟩ : ByteArray)[7]'(by decide) = (9 : UInt8) := rfl
  clear hO e
  go_enter Tryd.func56, Tryd.ntmps56
  go_wp2_with (first | (go_at_call 49; refine (cI _).mono ?_; rintro e w1 ⟨rfl, hw⟩; rw [hw]; clear hw) | (go_at_call 64; refine (rput_z B b p v _ 9 _ (by rfl) _ h (by omega) hlen hBw).mono ?_; rintro e w5 ⟨rfl, hb5, p', v', h5⟩))
  go_ret
  exact ⟨rfl, Left.ok hb5 h5⟩
set_option maxRecDepth 100000 in
set_option maxHeartbeats 1000000 in
theorem escape_any (B b : Nat) (p v : Value) (s : St) (c : UInt8) (w : World) (h : RAt B b p v s w) (hlen : s.out.length ≤ 1000000000) (hBw : B ≤ w.heap.size) :
    Calls Tryd.prog 56 #[.pointer (some ⟨b, 0, none⟩), .int .u8 (c.toNat : Int)] w fun e w' => e = .returned (.int .i64 (errOf (escapeS s c) : Int)) ∧ Left B b (escapeS s c) w w' := by
  rcases esc_cases c with rfl | rfl | rfl | rfl | rfl | rfl | rfl | rfl | ⟨he, hx⟩
  · exact escape_34 B b p v s w h hlen hBw
  · exact escape_92 B b p v s w h hlen hBw
  · exact escape_47 B b p v s w h hlen hBw
  · exact escape_98 B b p v s w h hlen hBw
  · exact escape_102 B b p v s w h hlen hBw
  · exact escape_110 B b p v s w h hlen hBw
  · exact escape_114 B b p v s w h hlen hBw
  · exact escape_116 B b p v s w h hlen hBw
  · have cI := fun w => Tryd.strings_IndexByte ⟨marksL.toArray⟩ (c.toNat : Int) w
    simp only [Int.toNat_natCast] at cI
    rw [show c.toNat.toUInt8 = c by simp, hx] at cI
    have hO : escapeS s c = if c.toNat = 117 then .ok { s with state := 3, many := 0, n := 0 } else .bad 41 := by unfold escapeS; rw [he]
    rw [hO]
    clear hx he hO
    have z0 := h.fz 0
    have z4 := h.fz 4
    have z5 := h.fz 5
    have f0 := h.f0
    have f4 := h.f4
    have f5 := h.f5
    have hB := BIn.hB h
    have H := Lib.hid h
    clear h
    by_cases hc : c.toNat = 117
    · rw [if_pos hc]
      have hcz : (c.toNat : Int) = 117 := by omega
      rw [hcz] at cI
      clear hc
      go_enter Tryd.func56, Tryd.ntmps56
      go_wp2_with (go_at_call 49; refine (cI _).mono ?_; rintro e w1 ⟨rfl, hw⟩; rw [hw]; clear hw)
      go_ret
      exact ⟨rfl, Left.ok (below_set (below_set (below_set (Below.refl B w) hB _ _) hB _ _) hB _ _) (((H.out.setState 3).setMany 0).setN 0)⟩
    · rw [if_neg hc]
      have hcz : ¬ ((c.toNat : Int) = 117) := by omega
      clear hc
      go_enter Tryd.func56, Tryd.ntmps56
      go_wp2_with (go_at_call 49; refine (cI _).mono ?_; rintro e w1 ⟨rfl, hw⟩; rw [hw]; clear hw)
      go_ret
      exact ⟨rfl, Left.bad (Below.refl B w)⟩
set_option maxRecDepth 100000 in
set_option maxHeartbeats 1000000 in
theorem begin_any (B b : Nat) (p v : Value) (s : St) (c : UInt8) (w : World) (h : RAt B b p v s w) (hT : Lib.Utf8Tabs 0 1 w) (hB2 : 2 ≤ B) (hlen : s.out.length ≤ 1000000000) (hru : s.rune.length ≤ 1000000000) (hBw : B ≤ w.heap.size) :
    Calls Tryd.prog 55 #[.pointer (some ⟨b, 0, none⟩), .int .u8 (c.toNat : Int)] w fun e w' => e = .returned (.int .i64 (errOf (beginS s c) : Int)) ∧ Left B b (beginS s c) w w' := by
  have cP := plain_any B b p v s c w h hT hB2 hlen hru hBw
  have z0 := h.fz 0
  have f0 := h.f0
  have f3 := h.f3
  have hB := BIn.hB h
  have H := Lib.hid h
  clear h
  unfold beginS
  by_cases hr : s.rune = []
  · rw [hr] at f3
    rw [if_neg (by simp [hr])]
    clear hr hru
    by_cases h1 : c.toNat = 34
    · rw [if_pos h1]
      have h1z : (c.toNat : Int) = 34 := by omega
      clear h1 cP
      go_enter Tryd.func55, Tryd.ntmps55
      go_wp2
      go_ret
      exact ⟨rfl, Left.ok (below_set (Below.refl B w) hB _ _) (H.out.setState 7)⟩
    · rw [if_neg h1]
      have h1z : ¬ ((c.toNat : Int) = 34) := by omega
      by_cases h2 : c.toNat = 92
      · rw [if_pos h2]
        have h2z : (c.toNat : Int) = 92 := by omega
        clear h1 h2 h1z cP
        go_enter Tryd.func55, Tryd.ntmps55
        go_wp2
        go_ret
        exact ⟨rfl, Left.ok (below_set (Below.refl B w) hB _ _) (H.out.setState 2)⟩
      · rw [if_neg h2]
        have h2z : ¬ ((c.toNat : Int) = 92) := by omega
        by_cases h3 : c.toNat < 32
        · rw [if_pos h3]
          have h3z : (c.toNat : Int) < 32 := by omega
          clear h1 h2 h3 cP
          go_enter Tryd.func55, Tryd.ntmps55
          go_wp2
          go_ret
          exact ⟨rfl, Left.bad (Below.refl B w)⟩
        · rw [if_neg h3]
          have h3z : ¬ ((c.toNat : Int) < 32) := by omega
          clear h1 h2 h3
          go_enter Tryd.func55, Tryd.ntmps55
          go_wp2_with (go_at_call 63; refine cP.mono ?_; rintro e w1 ⟨rfl, hL⟩)
          go_ret
          exact ⟨rfl, hL⟩
  · rw [if_pos hr]
    have hne : s.rune.isEmpty = false := by cases hq : s.rune with
      | nil => exact absurd hq hr
      | cons _ _ => rfl
    clear hr
    go_enter Tryd.func55, Tryd.ntmps55
    go_wp2_with (go_at_call 63; refine cP.mono ?_; rintro e w1 ⟨rfl, hL⟩)
    go_ret
    exact ⟨rfl, hL⟩
theorem digit_any (B b : Nat) (p v : Value) (s : St) (c : UInt8) (w : World) (h : RAt B b p v s w) (hi : Inv s) (hst : s.state = 3 ∨ s.state = 6) (hlen : s.out.length ≤ 1000000000) (hBw : B ≤ w.heap.size) :
    Calls Tryd.prog 57 #[.pointer (some ⟨b, 0, none⟩), .int .u8 (c.toNat : Int)] w fun e w' => e = .returned (.int .i64 (errOf (digitS s c) : Int)) ∧ Left B b (digitS s c) w w' := by
  cases hk : hexv c with
  | none => exact digit_none B b s c w hk
  | some k =>
    have hm := (hi.many hst).1
    rcases (show s.many = 0 ∨ s.many = 1 ∨ s.many = 2 ∨ s.many = 3 by omega) with h0 | h0 | h0 | h0 <;> rcases hst with h3 | h3
    · exact digit_3_0 B b p v s c w h hi h3.symm h0.symm k hk hlen hBw
    · exact digit_6_0 B b p v s c w h hi h3.symm h0.symm k hk hlen hBw
    · exact digit_3_1 B b p v s c w h hi h3.symm h0.symm k hk hlen hBw
    · exact digit_6_1 B b p v s c w h hi h3.symm h0.symm k hk hlen hBw
    · exact digit_3_2 B b p v s c w h hi h3.symm h0.symm k hk hlen hBw
    · exact digit_6_2 B b p v s c w h hi h3.symm h0.symm k hk hlen hBw
    · exact digit_3_3 B b p v s c w h hi h3.symm h0.symm k hk hlen hBw
    · exact digit_6_3 B b p v s c w h hi h3.symm h0.symm k hk hlen hBw
set_option maxRecDepth 100000 in
set_option maxHeartbeats 1000000 in
theorem take_any (B b : Nat) (p v : Value) (s : St) (c : UInt8) (w : World) (h : RAt B b p v s w) (hi : Inv s) (hT : Lib.Utf8Tabs 0 1 w) (hB2 : 2 ≤ B) (hlen : s.out.length ≤ 1000000000) (hru : s.rune.length ≤ 1000000000) (hBw : B ≤ w.heap.size) :
    Calls Tryd.prog 42 #[.pointer (some ⟨b, 0, none⟩), .int .u8 (c.toNat : Int)] w fun e w' => e = .returned (.int .i64 (errOf (stepS s c) : Int)) ∧ Left B b (stepS s c) w w' := by
  have f0 := h.f0
  have h6 := hi.st
  unfold stepS
  rcases (show s.state = 0 ∨ s.state = 1 ∨ s.state = 2 ∨ s.state = 4 ∨ s.state = 5 ∨ s.state = 3 ∨ s.state = 6 by omega) with h0 | h0 | h0 | h0 | h0 | h0 | h0
  · have cC := want_any B b p v s c 34 1 w h
    rw [if_pos h0]
    rw [h0] at f0
    clear h0 h6 hi h hT
    go_enter Tryd.func42, Tryd.ntmps42
    go_wp2_with (go_at_call 54; refine cC.mono ?_; rintro e w1 ⟨rfl, hL⟩)
    go_ret
    exact ⟨rfl, hL⟩
  · have cC := begin_any B b p v s c w h hT hB2 hlen hru hBw
    rw [if_neg (show ¬ (s.state = 0) by omega)]; rw [if_pos h0]
    rw [h0] at f0
    clear h0 h6 hi h hT
    go_enter Tryd.func42, Tryd.ntmps42
    go_wp2_with (go_at_call 55; refine cC.mono ?_; rintro e w1 ⟨rfl, hL⟩)
    go_ret
    exact ⟨rfl, hL⟩
  · have cC := escape_any B b p v s c w h hlen hBw
    rw [if_neg (show ¬ (s.state = 0) by omega)]; rw [if_neg (show ¬ (s.state = 1) by omega)]; rw [if_pos h0]
    rw [h0] at f0
    clear h0 h6 hi h hT
    go_enter Tryd.func42, Tryd.ntmps42
    go_wp2_with (go_at_call 56; refine cC.mono ?_; rintro e w1 ⟨rfl, hL⟩)
    go_ret
    exact ⟨rfl, hL⟩
  · have cC := want_any B b p v s c 92 5 w h
    rw [if_neg (show ¬ (s.state = 0) by omega)]; rw [if_neg (show ¬ (s.state = 1) by omega)]; rw [if_neg (show ¬ (s.state = 2) by omega)]; rw [if_pos h0]
    rw [h0] at f0
    clear h0 h6 hi h hT
    go_enter Tryd.func42, Tryd.ntmps42
    go_wp2_with (go_at_call 54; refine cC.mono ?_; rintro e w1 ⟨rfl, hL⟩)
    go_ret
    exact ⟨rfl, hL⟩
  · have cC := want_any B b p v s c 117 6 w h
    rw [if_neg (show ¬ (s.state = 0) by omega)]; rw [if_neg (show ¬ (s.state = 1) by omega)]; rw [if_neg (show ¬ (s.state = 2) by omega)]; rw [if_neg (show ¬ (s.state = 4) by omega)]; rw [if_pos h0]
    rw [h0] at f0
    clear h0 h6 hi h hT
    go_enter Tryd.func42, Tryd.ntmps42
    go_wp2_with (go_at_call 54; refine cC.mono ?_; rintro e w1 ⟨rfl, hL⟩)
    go_ret
    exact ⟨rfl, hL⟩
  · have cC := digit_any B b p v s c w h hi (Or.inl h0) hlen hBw
    rw [if_neg (show ¬ (s.state = 0) by omega)]; rw [if_neg (show ¬ (s.state = 1) by omega)]; rw [if_neg (show ¬ (s.state = 2) by omega)]; rw [if_neg (show ¬ (s.state = 4) by omega)]; rw [if_neg (show ¬ (s.state = 5) by omega)]
    rw [h0] at f0
    clear h0 h6 hi h hT
    go_enter Tryd.func42, Tryd.ntmps42
    go_wp2_with (go_at_call 57; refine cC.mono ?_; rintro e w1 ⟨rfl, hL⟩)
    go_ret
    exact ⟨rfl, hL⟩
  · have cC := digit_any B b p v s c w h hi (Or.inr h0) hlen hBw
    rw [if_neg (show ¬ (s.state = 0) by omega)]; rw [if_neg (show ¬ (s.state = 1) by omega)]; rw [if_neg (show ¬ (s.state = 2) by omega)]; rw [if_neg (show ¬ (s.state = 4) by omega)]; rw [if_neg (show ¬ (s.state = 5) by omega)]
    rw [h0] at f0
    clear h0 h6 hi h hT
    go_enter Tryd.func42, Tryd.ntmps42
    go_wp2_with (go_at_call 57; refine cC.mono ?_; rintro e w1 ⟨rfl, hL⟩)
    go_ret
    exact ⟨rfl, hL⟩
end Go.Proofs.YtalegkgonbmaoaaDoor
