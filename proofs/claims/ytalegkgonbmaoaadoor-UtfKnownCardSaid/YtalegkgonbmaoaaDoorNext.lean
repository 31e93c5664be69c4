import Derived.Test.YtalegkgonbmaoaaDoorShelf
import Derived.Test.YtalegkgonbmaoaaDoorMem
import Derived.Test.YtalegkgonbmaoaaDoorPure
import Derived.BigQuiet
import Derived.Deep.QuietTactic
/- utf.Next, utf.Put, unicode/utf8.FullRuneInString: what they answer. -/
set_option linter.unusedVariables false
namespace Go.Proofs.YtalegkgonbmaoaaDoor
open Go.RowKit
theorem decodeGo_list (l : List UInt8) : Lib.decodeGo ⟨l.toArray⟩ = if l = [] then (65533, 0) else Lib.decodeL l := by
  unfold Lib.decodeGo Lib.decodeL
  cases l <;> simp [ByteArray.size]
theorem tabs_below {B : Nat} {w w' : World} (h : Lib.Utf8Tabs 0 1 w) (hB : 2 ≤ B) (hb : Below B w w') : Lib.Utf8Tabs 0 1 w' :=
  ⟨fun c hc => (hb.cell (show 0 < B by omega)).trans (h.1 c hc), fun i hi => ⟨(hb.cell (show 1 < B by omega)).trans (h.2 i hi).1, (hb.cell (show 1 < B by omega)).trans (h.2 i hi).2⟩⟩
def nextV (l : List UInt8) : Value :=
  match nxt l with
  | none => .tuple #[.int .i32 0, .int .i64 0, .bool false]
  | some p => .tuple #[.int .i32 (p.1 : Int), .int .i64 (p.2 : Int), .bool true]
set_option maxRecDepth 100000 in
set_option maxHeartbeats 400000 in
theorem next_any (l : List UInt8) (w : World) (hT : Lib.Utf8Tabs 0 1 w) : Calls Tryd.prog 19 #[.string ⟨l.toArray⟩] w fun e w' => e = .returned (nextV l) ∧ Below w.heap.size w w' := by
  have cD := Tryd.utf8_DecodeRuneInString ⟨l.toArray⟩ w hT
  rw [decodeGo_list] at cD
  unfold nextV nxt
  by_cases h0 : l = []
  · rw [if_pos h0] at cD ⊢
    subst h0
    replace cD : Calls Tryd.prog 36 #[.string ⟨#[]⟩] w fun e w' => e = .returned (.tuple #[.int .i32 65533, .int .i64 0]) ∧ Below w.heap.size w w' := cD
    go_enter Tryd.func19, Tryd.ntmps19
    go_wp2_with (go_at_call 36; refine cD.mono ?_; rintro e w' ⟨rfl, hb⟩)
    go_ret3
    exact ⟨rfl, hb⟩
  · rw [if_neg h0] at cD ⊢
    have hw := Lib.decodeL_width l
    by_cases h1 : (Lib.decodeL l).1 = 65533 ∧ (Lib.decodeL l).2 = 1
    · rw [if_pos h1]
      rw [h1.1, h1.2] at cD
      replace cD : Calls Tryd.prog 36 #[.string ⟨l.toArray⟩] w fun e w' => e = .returned (.tuple #[.int .i32 65533, .int .i64 1]) ∧ Below w.heap.size w w' := cD
      clear h1 hw
      go_enter Tryd.func19, Tryd.ntmps19
      go_wp2_with (go_at_call 36; refine cD.mono ?_; rintro e w' ⟨rfl, hb⟩)
      go_ret3
      exact ⟨rfl, hb⟩
    · rw [if_neg h1]
      generalize Lib.decodeL l = P at cD hw h1 ⊢
      obtain ⟨R, K⟩ := P
      simp only at cD hw h1 ⊢
      by_cases h2 : R = 65533
      · subst h2
        replace cD : Calls Tryd.prog 36 #[.string ⟨l.toArray⟩] w fun e w' => e = .returned (.tuple #[.int .i32 65533, .int .i64 (K : Int)]) ∧ Below w.heap.size w w' := cD
        have hk : ¬ ((K : Int) < 2) := by omega
        go_enter Tryd.func19, Tryd.ntmps19
        go_wp2_with (go_at_call 36; refine cD.mono ?_; rintro e w' ⟨rfl, hb⟩)
        go_ret3
        exact ⟨rfl, hb⟩
      · have hk : ¬ ((R : Int) = 65533) := by omega
        go_enter Tryd.func19, Tryd.ntmps19
        go_wp2_with (go_at_call 36; refine cD.mono ?_; rintro e w' ⟨rfl, hb⟩)
        go_ret3
        exact ⟨rfl, hb⟩
def putV (r : Int) : Value := .tuple #[.string ⟨(putZ r).1.toArray⟩, .bool (putZ r).2]
theorem encode_list (r : Int) (h : Lib.validRune r = true) : Utf8.encode r = ⟨(Lib.encodeRune r).toArray⟩ := by
  simp only [Lib.validRune, decide_eq_true_eq] at h
  unfold Utf8.encode
  have hv : Utf8.valid r = true := by simp [Utf8.valid]; omega
  simp only [hv, if_true]
  unfold Lib.encodeRune
  by_cases h1 : r ≤ 127
  · rw [Lib.encodeRuneZ_one (by omega) h1, if_pos (by omega)]
    rfl
  · rw [if_neg (by omega)]
    by_cases h2 : r ≤ 2047
    · rw [Lib.encodeRuneZ_two (by omega) h2, if_pos (by omega)]
      simp only [List.map_cons, List.map_nil]
      have e1 : (192 + r / 64).toNat = 192 + r.toNat / 64 := by omega
      have e2 : (128 + r % 64).toNat = 128 + r.toNat % 64 := by omega
      rw [e1, e2]
    · rw [if_neg (by omega)]
      by_cases h3 : r ≤ 65535
      · rw [Lib.encodeRuneZ_three (by omega), if_pos (by omega)]
        simp only [List.map_cons, List.map_nil]
        have e1 : (224 + r / 4096).toNat = 224 + r.toNat / 4096 := by omega
        have e2 : (128 + r / 64 % 64).toNat = 128 + r.toNat / 64 % 64 := by omega
        have e3 : (128 + r % 64).toNat = 128 + r.toNat % 64 := by omega
        rw [e1, e2, e3]
      · rw [if_neg (by omega), Lib.encodeRuneZ_four (by omega) (by omega)]
        simp only [List.map_cons, List.map_nil]
        have e1 : (240 + r / 262144).toNat = 240 + r.toNat / 262144 := by omega
        have e4 : (128 + r / 4096 % 64).toNat = 128 + r.toNat / 4096 % 64 := by omega
        have e2 : (128 + r / 64 % 64).toNat = 128 + r.toNat / 64 % 64 := by omega
        have e3 : (128 + r % 64).toNat = 128 + r.toNat % 64 := by omega
        rw [e1, e2, e3, e4]
set_option maxRecDepth 100000 in
set_option maxHeartbeats 400000 in
theorem put_any (r : Int) (w : World) : Calls Tryd.prog 21 #[.int .i32 r] w fun e w' => e = .returned (putV r) ∧ w' = w := by
  have cV := Tryd.utf8_ValidRune r w
  unfold putV putZ
  cases hv : Lib.validRune r with
  | false =>
    rw [hv] at cV
    go_enter Tryd.func21, Tryd.ntmps21
    go_wp2_with (go_at_call 38; refine cV.mono ?_; rintro e w' ⟨rfl, hb⟩; rw [hb])
    go_ret2
    exact ⟨rfl, rfl⟩
  | true =>
    have he := encode_list r hv
    rw [hv] at cV
    go_enter Tryd.func21, Tryd.ntmps21
    go_wp2_with (go_at_call 38; refine cV.mono ?_; rintro e w' ⟨rfl, hb⟩; rw [hb])
    go_ret2
    first | exact ⟨rfl, rfl⟩ | (rw [he]; exact ⟨rfl, rfl⟩)
end Go.Proofs.YtalegkgonbmaoaaDoor
