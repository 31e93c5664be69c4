import Derived.Test.YtalegkgonbmaoaaDoorNext
import Derived.Laws.RangeString
import Derived.Laws.RangeAny
import Derived.Lib.OthersKept
import Derived.BigRegion
import Derived.BigQuiet
import Derived.Deep.QuietTactic
/- strings.IndexRune in the eight bytes that have a short escape, at a scalar value that is no ASCII: -1. -/
set_option linter.unusedVariables false
set_option linter.unusedSimpArgs false
namespace Go.Proofs.YtalegkgonbmaoaaDoor
open Go.RowKit
def meantL : List UInt8 := [34, 92, 47, 8, 12, 10, 13, 9]
theorem idx2_fin : ∀ n : Fin 256, 128 ≤ n.val → Lib.indexByte [47, 8, 12, 10, 13, 9] (UInt8.ofNat n.val) = -1 := by decide +kernel
set_option maxRecDepth 100000 in
set_option maxHeartbeats 1000000 in
theorem indexRune_2 (r : Int) (w : World) (h0 : 128 ≤ r) (hv : Lib.validRune r = true) (hf : ¬ r = 65533) (h3 : r ≤ 2047) :
    Calls Tryd.prog 32 #[.string ⟨#[34, 92, 47, 8, 12, 10, 13, 9]⟩, .int .i32 r] w fun e w' => e = .returned (.int .i64 (-1)) ∧ Below w.heap.size w w' := by
  have he := encode_list r hv
  have cV := Tryd.utf8_ValidRune r
  rw [hv] at cV
  simp only [Lib.validRune, decide_eq_true_eq] at hv
  have h1 : ¬ (r < 128) := by omega
  have h2 : (0 : Int) ≤ r := by omega
  have cI := fun w => Tryd.strings_IndexByte ⟨#[47, 8, 12, 10, 13, 9]⟩ (128 + r % 64) w
  have hx := idx2_fin ⟨(128 + r % 64).toNat, by omega⟩ (by show 128 ≤ (128 + r % 64).toNat; omega)
  have e : Lib.indexByte (⟨#[47, 8, 12, 10, 13, 9]⟩ : ByteArray).data.toList (128 + r % 64).toNat.toUInt8 = -1 := hx
  rw [e] at cI
  unfold Lib.encodeRune at he
  rw [Lib.encodeRuneZ_two h0 h3] at he
  obtain ⟨a, ha⟩ : ∃ a, (192 + r / 64).toNat.toUInt8 = a := ⟨_, rfl⟩
  obtain ⟨b, hb⟩ : ∃ b, (128 + r % 64).toNat.toUInt8 = b := ⟨_, rfl⟩
  have hbn : ((b.toNat : Nat) : Int) = 128 + r % 64 := by rw [← hb]; simp; omega
  have he' : Utf8.encode r = ⟨#[a, b]⟩ := by rw [he]; simp only [List.map_cons, List.map_nil, ha, hb]
  rw [← hbn] at cI
  have hb128 : 128 ≤ b.toNat := by omega
  have hw2 : IntKind.i64.wrap 2 = 2 := by decide
  have hex : (⟨#[34, 92, 47, 8, 12, 10, 13, 9]⟩ : ByteArray).extract 2 8 = ⟨#[47, 8, 12, 10, 13, 9]⟩ := rfl
  have cI' : ∀ w, Calls Tryd.prog 49 #[.string ⟨#[47, 8, 12, 10, 13, 9]⟩, .int .u8 ((((⟨#[a, b]⟩ : ByteArray)[1]'(by show 1 < 2; omega)).toNat : Nat) : Int)] w fun e w' => e = .returned (.int .i64 (-1)) ∧ w' = w := cI
  have hneq : (((((⟨#[34, 92, 47, 8, 12, 10, 13, 9]⟩ : ByteArray)[1]'(by decide)).toNat : Nat) : Int) != ((((⟨#[a, b]⟩ : ByteArray)[1]'(by show 1 < 2; omega)).toNat : Nat) : Int)) = true := by
    show (((92 : Nat) : Int) != ((b.toNat : Nat) : Int)) = true
    simp [bne]; omega
  clear he hx e h3 ha hb hbn hb128 cI
  go_enter Tryd.func32, Tryd.ntmps32
  go_wp2_with (go_at_call 38; refine (cV _).mono ?_; rintro e w1 ⟨rfl, hw⟩; rw [hw]; clear hw)
  go_step3
  go_wp2
  refine wp_loop_rounds 2 ?_
  rw [rounds_succ]
  go_wp2
  go_step3
  go_wp2
  go_quiet (fail)
  obtain ⟨w1, hw1⟩ : ∃ w1, w.drewN nq = w1 := ⟨_, rfl⟩
  have hb1 : Below w.heap.size w w1 := by rw [← hw1]; exact below_drewN (Below.refl _ _) _
  rw [hw1]
  clear hw1
  go_wp2
  go_quiet (first | (go_at_call 49; refine Calls.quiet_of_same (cI' _)))
  go_wp2
  simp only [Exit.noGoto, Exit.inBlock, Exit.then]
  go_ret
  exact ⟨rfl, below_drewN hb1 _⟩
theorem idx3_fin : ∀ n : Fin 256, 128 ≤ n.val → Lib.indexByte [8, 12, 10, 13, 9] (UInt8.ofNat n.val) = -1 := by decide +kernel
set_option maxRecDepth 100000 in
set_option maxHeartbeats 1000000 in
theorem indexRune_3 (r : Int) (w : World) (h0 : 128 ≤ r) (hv : Lib.validRune r = true) (hf : ¬ r = 65533) (h3 : 2048 ≤ r) (h4 : r ≤ 65535) :
    Calls Tryd.prog 32 #[.string ⟨#[34, 92, 47, 8, 12, 10, 13, 9]⟩, .int .i32 r] w fun e w' => e = .returned (.int .i64 (-1)) ∧ Below w.heap.size w w' := by
  have he := encode_list r hv
  have cV := Tryd.utf8_ValidRune r
  rw [hv] at cV
  simp only [Lib.validRune, decide_eq_true_eq] at hv
  have h1 : ¬ (r < 128) := by omega
  have h2 : (0 : Int) ≤ r := by omega
  have cI := fun w => Tryd.strings_IndexByte ⟨#[8, 12, 10, 13, 9]⟩ (128 + r % 64) w
  have hx := idx3_fin ⟨(128 + r % 64).toNat, by omega⟩ (by show 128 ≤ (128 + r % 64).toNat; omega)
  have e : Lib.indexByte (⟨#[8, 12, 10, 13, 9]⟩ : ByteArray).data.toList (128 + r % 64).toNat.toUInt8 = -1 := hx
  rw [e] at cI
  unfold Lib.encodeRune at he
  rw [Lib.encodeRuneZ_three (by omega)] at he
  obtain ⟨a, ha⟩ : ∃ a, (224 + r / 4096).toNat.toUInt8 = a := ⟨_, rfl⟩
  obtain ⟨b, hb⟩ : ∃ b, (128 + r / 64 % 64).toNat.toUInt8 = b := ⟨_, rfl⟩
  obtain ⟨c, hc⟩ : ∃ c, (128 + r % 64).toNat.toUInt8 = c := ⟨_, rfl⟩
  have hbn : ((c.toNat : Nat) : Int) = 128 + r % 64 := by rw [← hc]; simp; omega
  have he' : Utf8.encode r = ⟨#[a, b, c]⟩ := by rw [he]; simp only [List.map_cons, List.map_nil, ha, hb, hc]
  rw [← hbn] at cI
  have hb128 : 128 ≤ c.toNat := by omega
  have hw2 : IntKind.i64.wrap 3 = 3 := by decide
  have hex : (⟨#[34, 92, 47, 8, 12, 10, 13, 9]⟩ : ByteArray).extract 3 8 = ⟨#[8, 12, 10, 13, 9]⟩ := rfl
  have cI' : ∀ w, Calls Tryd.prog 49 #[.string ⟨#[8, 12, 10, 13, 9]⟩, .int .u8 ((((⟨#[a, b, c]⟩ : ByteArray)[2]'(by show 2 < 3; omega)).toNat : Nat) : Int)] w fun e w' => e = .returned (.int .i64 (-1)) ∧ w' = w := cI
  have hneq : (((((⟨#[34, 92, 47, 8, 12, 10, 13, 9]⟩ : ByteArray)[2]'(by decide)).toNat : Nat) : Int) != ((((⟨#[a, b, c]⟩ : ByteArray)[2]'(by show 2 < 3; omega)).toNat : Nat) : Int)) = true := by
    show (((47 : Nat) : Int) != ((c.toNat : Nat) : Int)) = true
    simp [bne]; omega
  clear he hx e h3 ha hb hc h4 hbn hb128 cI
  go_enter Tryd.func32, Tryd.ntmps32
  go_wp2_with (go_at_call 38; refine (cV _).mono ?_; rintro e w1 ⟨rfl, hw⟩; rw [hw]; clear hw)
  go_step3
  go_wp2
  refine wp_loop_rounds 2 ?_
  rw [rounds_succ]
  go_wp2
  go_step3
  go_wp2
  go_quiet (fail)
  obtain ⟨w1, hw1⟩ : ∃ w1, w.drewN nq = w1 := ⟨_, rfl⟩
  have hb1 : Below w.heap.size w w1 := by rw [← hw1]; exact below_drewN (Below.refl _ _) _
  rw [hw1]
  clear hw1
  go_wp2
  go_quiet (first | (go_at_call 49; refine Calls.quiet_of_same (cI' _)))
  go_wp2
  simp only [Exit.noGoto, Exit.inBlock, Exit.then]
  go_ret
  exact ⟨rfl, below_drewN hb1 _⟩
theorem idx4_fin : ∀ n : Fin 256, 128 ≤ n.val → Lib.indexByte [12, 10, 13, 9] (UInt8.ofNat n.val) = -1 := by decide +kernel
set_option maxRecDepth 100000 in
set_option maxHeartbeats 1000000 in
theorem indexRune_4 (r : Int) (w : World) (h0 : 128 ≤ r) (hv : Lib.validRune r = true) (hf : ¬ r = 65533) (h3 : 65536 ≤ r) :
    Calls Tryd.prog 32 #[.string ⟨#[34, 92, 47, 8, 12, 10, 13, 9]⟩, .int .i32 r] w fun e w' => e = .returned (.int .i64 (-1)) ∧ Below w.heap.size w w' := by
  have he := encode_list r hv
  have cV := Tryd.utf8_ValidRune r
  rw [hv] at cV
  simp only [Lib.validRune, decide_eq_true_eq] at hv
  have h1 : ¬ (r < 128) := by omega
  have h2 : (0 : Int) ≤ r := by omega
  have cI := fun w => Tryd.strings_IndexByte ⟨#[12, 10, 13, 9]⟩ (128 + r % 64) w
  have hx := idx4_fin ⟨(128 + r % 64).toNat, by omega⟩ (by show 128 ≤ (128 + r % 64).toNat; omega)
  have e : Lib.indexByte (⟨#[12, 10, 13, 9]⟩ : ByteArray).data.toList (128 + r % 64).toNat.toUInt8 = -1 := hx
  rw [e] at cI
  unfold Lib.encodeRune at he
  rw [Lib.encodeRuneZ_four (by omega) (by omega)] at he
  obtain ⟨a, ha⟩ : ∃ a, (240 + r / 262144).toNat.toUInt8 = a := ⟨_, rfl⟩
  obtain ⟨b, hb⟩ : ∃ b, (128 + r / 4096 % 64).toNat.toUInt8 = b := ⟨_, rfl⟩
  obtain ⟨c, hc⟩ : ∃ c, (128 + r / 64 % 64).toNat.toUInt8 = c := ⟨_, rfl⟩
  obtain ⟨d, hd⟩ : ∃ d, (128 + r % 64).toNat.toUInt8 = d := ⟨_, rfl⟩
  have hbn : ((d.toNat : Nat) : Int) = 128 + r % 64 := by rw [← hd]; simp; omega
  have he' : Utf8.encode r = ⟨#[a, b, c, d]⟩ := by rw [he]; simp only [List.map_cons, List.map_nil, ha, hb, hc, hd]
  rw [← hbn] at cI
  have hb128 : 128 ≤ d.toNat := by omega
  have hw2 : IntKind.i64.wrap 4 = 4 := by decide
  have hex : (⟨#[34, 92, 47, 8, 12, 10, 13, 9]⟩ : ByteArray).extract 4 8 = ⟨#[12, 10, 13, 9]⟩ := rfl
  have cI' : ∀ w, Calls Tryd.prog 49 #[.string ⟨#[12, 10, 13, 9]⟩, .int .u8 ((((⟨#[a, b, c, d]⟩ : ByteArray)[3]'(by show 3 < 4; omega)).toNat : Nat) : Int)] w fun e w' => e = .returned (.int .i64 (-1)) ∧ w' = w := cI
  have hneq : (((((⟨#[34, 92, 47, 8, 12, 10, 13, 9]⟩ : ByteArray)[3]'(by decide)).toNat : Nat) : Int) != ((((⟨#[a, b, c, d]⟩ : ByteArray)[3]'(by show 3 < 4; omega)).toNat : Nat) : Int)) = true := by
    show (((8 : Nat) : Int) != ((d.toNat : Nat) : Int)) = true
    simp [bne]; omega
  clear he hx e h3 ha hb hc hd hbn hb128 cI
  go_enter Tryd.func32, Tryd.ntmps32
  go_wp2_with (go_at_call 38; refine (cV _).mono ?_; rintro e w1 ⟨rfl, hw⟩; rw [hw]; clear hw)
  go_step3
  go_wp2
  refine wp_loop_rounds 2 ?_
  rw [rounds_succ]
  go_wp2
  go_step3
  go_wp2
  go_quiet (fail)
  obtain ⟨w1, hw1⟩ : ∃ w1, w.drewN nq = w1 := ⟨_, rfl⟩
  have hb1 : Below w.heap.size w w1 := by rw [← hw1]; exact below_drewN (Below.refl _ _) _
  rw [hw1]
  clear hw1
  go_wp2
  go_quiet (first | (go_at_call 49; refine Calls.quiet_of_same (cI' _)))
  go_wp2
  simp only [Exit.noGoto, Exit.inBlock, Exit.then]
  go_ret
  exact ⟨rfl, below_drewN hb1 _⟩
set_option maxRecDepth 100000 in
set_option maxHeartbeats 1000000 in
theorem indexRune_fffd (w : World) :
    Calls Tryd.prog 32 #[.string ⟨#[34, 92, 47, 8, 12, 10, 13, 9]⟩, .int .i32 65533] w fun e w' => e = .returned (.int .i64 (-1)) ∧ Below w.heap.size w w' := by
  have hrg := @run_range_string Tryd.prog
  go_enter Tryd.func32, Tryd.ntmps32
  go_wp2
  go_loopw [4] (fun _ wr => ∃ pos : Nat, wr = w.iter ⟨#[34, 92, 47, 8, 12, 10, 13, 9]⟩ pos ∧ pos ≤ 8) (fun _ wr => 8 - wr.iterPos w.heap.size)
  case atStart => exact ⟨0, rfl, by omega⟩
  case round =>
    obtain ⟨pos, rfl, hp⟩ := hrel
    rcases (show pos = 8 ∨ pos = 0 ∨ pos = 1 ∨ pos = 2 ∨ pos = 3 ∨ pos = 4 ∨ pos = 5 ∨ pos = 6 ∨ pos = 7 by omega) with rfl | rfl | rfl | rfl | rfl | rfl | rfl | rfl | rfl
    · have hnx := fun ty => run_next_end (P := Tryd.prog) w ⟨#[34, 92, 47, 8, 12, 10, 13, 9]⟩ 8 ty (by decide)
      go_wp2
      go_ret
      exact ⟨rfl, (Below.refl _ _).alloc (Nat.le_refl _) _⟩
    · have hnx : ∀ ty, (Instr.next (.pointer (some ⟨w.heap.size, 0, none⟩)) true ty).run Tryd.prog (w.iter ⟨#[34, 92, 47, 8, 12, 10, 13, 9]⟩ 0) = .ok (.tuple #[.bool true, .int .i64 0, .int .i32 34]) (w.iter ⟨#[34, 92, 47, 8, 12, 10, 13, 9]⟩ 1) := fun ty => run_next_ascii (P := Tryd.prog) w ⟨#[34, 92, 47, 8, 12, 10, 13, 9]⟩ 0 ty (by decide) (by decide)
      go_wp2
      go_roundw
      case rel => exact ⟨1, rfl, by omega⟩
      case measure => simp [World.iterPos, World.iter_heap]
    · have hnx : ∀ ty, (Instr.next (.pointer (some ⟨w.heap.size, 0, none⟩)) true ty).run Tryd.prog (w.iter ⟨#[34, 92, 47, 8, 12, 10, 13, 9]⟩ 1) = .ok (.tuple #[.bool true, .int .i64 1, .int .i32 92]) (w.iter ⟨#[34, 92, 47, 8, 12, 10, 13, 9]⟩ 2) := fun ty => run_next_ascii (P := Tryd.prog) w ⟨#[34, 92, 47, 8, 12, 10, 13, 9]⟩ 1 ty (by decide) (by decide)
      go_wp2
      go_roundw
      case rel => exact ⟨2, rfl, by omega⟩
      case measure => simp [World.iterPos, World.iter_heap]
    · have hnx : ∀ ty, (Instr.next (.pointer (some ⟨w.heap.size, 0, none⟩)) true ty).run Tryd.prog (w.iter ⟨#[34, 92, 47, 8, 12, 10, 13, 9]⟩ 2) = .ok (.tuple #[.bool true, .int .i64 2, .int .i32 47]) (w.iter ⟨#[34, 92, 47, 8, 12, 10, 13, 9]⟩ 3) := fun ty => run_next_ascii (P := Tryd.prog) w ⟨#[34, 92, 47, 8, 12, 10, 13, 9]⟩ 2 ty (by decide) (by decide)
      go_wp2
      go_roundw
      case rel => exact ⟨3, rfl, by omega⟩
      case measure => simp [World.iterPos, World.iter_heap]
    · have hnx : ∀ ty, (Instr.next (.pointer (some ⟨w.heap.size, 0, none⟩)) true ty).run Tryd.prog (w.iter ⟨#[34, 92, 47, 8, 12, 10, 13, 9]⟩ 3) = .ok (.tuple #[.bool true, .int .i64 3, .int .i32 8]) (w.iter ⟨#[34, 92, 47, 8, 12, 10, 13, 9]⟩ 4) := fun ty => run_next_ascii (P := Tryd.prog) w ⟨#[34, 92, 47, 8, 12, 10, 13, 9]⟩ 3 ty (by decide) (by decide)
      go_wp2
      go_roundw
      case rel => exact ⟨4, rfl, by omega⟩
      case measure => simp [World.iterPos, World.iter_heap]
    · have hnx : ∀ ty, (Instr.next (.pointer (some ⟨w.heap.size, 0, none⟩)) true ty).run Tryd.prog (w.iter ⟨#[34, 92, 47, 8, 12, 10, 13, 9]⟩ 4) = .ok (.tuple #[.bool true, .int .i64 4, .int .i32 12]) (w.iter ⟨#[34, 92, 47, 8, 12, 10, 13, 9]⟩ 5) := fun ty => run_next_ascii (P := Tryd.prog) w ⟨#[34, 92, 47, 8, 12, 10, 13, 9]⟩ 4 ty (by decide) (by decide)
      go_wp2
      go_roundw
      case rel => exact ⟨5, rfl, by omega⟩
      case measure => simp [World.iterPos, World.iter_heap]
    · have hnx : ∀ ty, (Instr.next (.pointer (some ⟨w.heap.size, 0, none⟩)) true ty).run Tryd.prog (w.iter ⟨#[34, 92, 47, 8, 12, 10, 13, 9]⟩ 5) = .ok (.tuple #[.bool true, .int .i64 5, .int .i32 10]) (w.iter ⟨#[34, 92, 47, 8, 12, 10, 13, 9]⟩ 6) := fun ty => run_next_ascii (P := Tryd.prog) w ⟨#[34, 92, 47, 8, 12, 10, 13, 9]⟩ 5 ty (by decide) (by decide)
      go_wp2
      go_roundw
      case rel => exact ⟨6, rfl, by omega⟩
      case measure => simp [World.iterPos, World.iter_heap]
    · have hnx : ∀ ty, (Instr.next (.pointer (some ⟨w.heap.size, 0, none⟩)) true ty).run Tryd.prog (w.iter ⟨#[34, 92, 47, 8, 12, 10, 13, 9]⟩ 6) = .ok (.tuple #[.bool true, .int .i64 6, .int .i32 13]) (w.iter ⟨#[34, 92, 47, 8, 12, 10, 13, 9]⟩ 7) := fun ty => run_next_ascii (P := Tryd.prog) w ⟨#[34, 92, 47, 8, 12, 10, 13, 9]⟩ 6 ty (by decide) (by decide)
      go_wp2
      go_roundw
      case rel => exact ⟨7, rfl, by omega⟩
      case measure => simp [World.iterPos, World.iter_heap]
    · have hnx : ∀ ty, (Instr.next (.pointer (some ⟨w.heap.size, 0, none⟩)) true ty).run Tryd.prog (w.iter ⟨#[34, 92, 47, 8, 12, 10, 13, 9]⟩ 7) = .ok (.tuple #[.bool true, .int .i64 7, .int .i32 9]) (w.iter ⟨#[34, 92, 47, 8, 12, 10, 13, 9]⟩ 8) := fun ty => run_next_ascii (P := Tryd.prog) w ⟨#[34, 92, 47, 8, 12, 10, 13, 9]⟩ 7 ty (by decide) (by decide)
      go_wp2
      go_roundw
      case rel => exact ⟨8, rfl, by omega⟩
      case measure => simp [World.iterPos, World.iter_heap]
theorem indexRune_high (r : Int) (w : World) (h0 : 128 ≤ r) (hv : Lib.validRune r = true) :
    Calls Tryd.prog 32 #[.string ⟨#[34, 92, 47, 8, 12, 10, 13, 9]⟩, .int .i32 r] w fun e w' => e = .returned (.int .i64 (-1)) ∧ Below w.heap.size w w' := by
  by_cases hf : r = 65533
  · subst hf; exact indexRune_fffd w
  · by_cases h3 : r ≤ 2047
    · exact indexRune_2 r w h0 hv hf h3
    · by_cases h4 : r ≤ 65535
      · exact indexRune_3 r w h0 hv hf (by omega) h4
      · exact indexRune_4 r w h0 hv hf (by omega)
end Go.Proofs.YtalegkgonbmaoaaDoor
