import Derived.Test.YtcoboifdmpeelaaGets
import Derived.Test.YtcoboifdmpeelaaPlace
namespace Go.Proofs.Ytcoboifdmpeelaa
open Go.RowKit
def headsL : List (List UInt8) := [[], [90], [90, 103], [90, 104], [90, 109, 57], [90, 109, 56], [90, 103, 61], [90, 109, 56, 61], [90, 103, 61, 61], [90, 109, 57, 118, 90, 109, 56], [90, 43], [47, 119], [47, 119, 61], [61]]
def headCells : Array Value := #[.string ⟨#[]⟩, .string ⟨#[90]⟩, .string ⟨#[90, 103]⟩, .string ⟨#[90, 104]⟩, .string ⟨#[90, 109, 57]⟩, .string ⟨#[90, 109, 56]⟩, .string ⟨#[90, 103, 61]⟩, .string ⟨#[90, 109, 56, 61]⟩, .string ⟨#[90, 103, 61, 61]⟩, .string ⟨#[90, 109, 57, 118, 90, 109, 56]⟩, .string ⟨#[90, 43]⟩, .string ⟨#[47, 119]⟩, .string ⟨#[47, 119, 61]⟩, .string ⟨#[61]⟩]
theorem head_cell (w : World) (j : Nat) (h : j < 14) : ∃ s : ByteArray, s.size ≤ 10 ∧ (w.alloc (.cells headCells 9)).cell? ⟨w.heap.size, j, none⟩ = some (.string s) := by
  rw [cell_of_row _ _ _ _ 9 (0, 0) (heap_alloc_last _ _)]
  have : j = 0 ∨ j = 1 ∨ j = 2 ∨ j = 3 ∨ j = 4 ∨ j = 5 ∨ j = 6 ∨ j = 7 ∨ j = 8 ∨ j = 9 ∨ j = 10 ∨ j = 11 ∨ j = 12 ∨ j = 13 := by omega
  rcases this with rfl | rfl | rfl | rfl | rfl | rfl | rfl | rfl | rfl | rfl | rfl | rfl | rfl | rfl <;> exact ⟨_, by decide, rfl⟩
theorem u8_wf (k : Int) (h0 : 0 ≤ k) (h : k < 256) : (Lit.int .u8 k).wf = true := by
  simp [Lit.wf, IntKind.min, IntKind.max, IntKind.bits, IntKind.signed]; omega
theorem isInts_lit (w : World) (zs : List Int) (h : ∀ z ∈ zs, 0 ≤ z ∧ z < 256) (hl : zs.length ≤ 100) : IsInts .u8 (w.alloc (.cells (zs.map (Value.int .u8)).toArray 5)) (some ⟨w.heap.size, 0, none⟩) zs.length zs.length zs := by
  refine ⟨by simpa using rdL w (zs.map (Value.int .u8)) 5, Nat.le_refl _, by unfold maxLen; omega, fun z hz => u8_wf z (h z hz).1 (h z hz).2⟩
theorem one_str (w : World) (k : Nat) (h : k < 256) : (convert 22 9 (.slice (some ⟨w.heap.size, 0, none⟩) 1 1)).run Try.prog (w.alloc (.cells #[.int .u8 (k : Int)] 5)) = .ok (.string ⟨#[UInt8.ofNat k]⟩) (w.alloc (.cells #[.int .u8 (k : Int)] 5)) := by
  have e : Lib.byteCells [UInt8.ofNat k] = [.int .u8 (k : Int)] := by
    simp only [Lib.byteCells, List.map, UInt8.toNat_ofNat']
    rw [Nat.mod_eq_of_lt (by omega)]
  exact run_str (c := 1) (l := [UInt8.ofNat k]) (by rw [e]; exact rdL w [.int .u8 (k : Int)] 5)
theorem keep_cell {w w' : World} {b o : Nat} {v : Value} (hb : Below w.heap.size w w') (h : b < w.heap.size) (g : w.cell? ⟨b, o, none⟩ = some v) : w'.cell? ⟨b, o, none⟩ = some v := (hb.cell (p := ⟨b, o, none⟩) h).trans g
theorem sz1 (x : UInt8) : (ByteArray.mk #[x]).size = 1 := rfl
theorem sz2 (x y : UInt8) : (ByteArray.mk #[x, y]).size = 2 := rfl
theorem size_max (n : Nat) (h : n ≤ 1000) : n ≤ maxLen := by unfold maxLen; omega
set_option maxRecDepth 100000 in
set_option maxHeartbeats 8000000 in
theorem b64Known_walk (w : World) : Calls Try.prog 10 #[] w fun e w' => e = .returned (.bool true) ∧ Below w.heap.size w w' := by
  go_enter Try.func10, Try.ntmps10
  go_wp2
  go_loopw [2] (fun c wr => ∃ k : Nat, k ≤ 256 ∧ c = .int .i64 k ∧ Below (w.heap.size + 1) (w.alloc (.cells headCells 9)) wr) (fun c _ => 256 - (intOf c).toNat)
  case atStart => exact ⟨0, by omega, rfl, Below.refl _ _⟩
  case round =>
    obtain ⟨k, hk, rfl, hb⟩ := hrel
    obtain ⟨wo, rfl⟩ : ∃ wo : World, wo = wr := ⟨_, rfl⟩
    have hz := hb.size
    by_cases hlt : k < 256
    · have e1 := one_str wo k hlt
      have hlt2 : (k : Int) < 256 := by omega
      go_wp2
      have hb0 : Below (w.heap.size + 1) (w.alloc (.cells headCells 9)) (wo.alloc (.cells #[.int .u8 (k : Int)] 5)) := hb.alloc (by simpa using hz) _
      clear e1 hb hz
      generalize wo.alloc (.cells #[.int .u8 (k : Int)] 5) = w1 at hb0 ⊢
      go_loopw [4] (fun i wr => ∃ j : Nat, j ≤ 14 ∧ i = .int .i64 j ∧ Below (w.heap.size + 1) (w.alloc (.cells headCells 9)) wr) (fun i _ => 14 - (intOf i).toNat)
      case atStart => exact ⟨0, by omega, rfl, hb0⟩
      case round =>
        obtain ⟨j, hj, rfl, hb⟩ := hrel
        have hz := hb.size
        by_cases hltj : j < 14
        · obtain ⟨h, hh, hc⟩ := head_cell w j hltj
          have g := (hb.cell (p := ⟨w.heap.size, j, none⟩) (by simp)).trans hc
          have hk := Below.refl wr.heap.size wr
          have hz' : w.heap.size < wr.heap.size := by simp at hz; omega
          clear hc
          have G0 := Lib.hid g
          go_wp2_with (first
            | (go_at_call 4; (refine (b64Gets_walk _ _ (size_max _ (by simp only [ByteArray.size_append, sz1, sz2]; omega))).mono ?_; rintro e w2 ⟨rfl, hb2⟩; replace hk := below_then hk hb2; clear hb2; have g2 := keep_cell hk hz' G0.out))
            | (go_at_call 9; refine (b64Place_walk _ _ _ (size_max _ (by simp only [ByteArray.size_append, sz1]; omega)) (size_max _ (by decide))).mono ?_; rintro e w2 ⟨rfl, hb2⟩; replace hk := below_then hk hb2; clear hb2))
          go_roundw
          case rel => exact ⟨j + 1, by omega, by go_num, hb.trans (hk.mono (by simpa using hz))⟩
          case measure => simp [intOf]; omega
        · obtain rfl : j = 14 := by omega
          go_wp2
          obtain ⟨wp, rfl⟩ : ∃ wp : World, wp = wr := ⟨_, rfl⟩
          go_loopw [5] (fun i wr => ∃ x : Nat, x ≤ 262 ∧ i = .int .i64 x ∧ Below (w.heap.size + 1) (w.alloc (.cells headCells 9)) wr) (fun i _ => 300 - (intOf i).toNat)
          case atStart => exact ⟨0, by omega, rfl, hb⟩
          case round =>
            obtain ⟨x, hx, rfl, hb⟩ := hrel
            have hz := hb.size
            by_cases hltx : x < 256
            · have hltx2 : (x : Int) < 256 := by omega
              have hk := Below.refl wr.heap.size wr
              have hi2 := Lib.hid (fun w0 : World => isInts_lit w0 [(k : Int), (x : Int)] (by intro z hz; simp at hz; omega) (by simp))
              have hi3 := Lib.hid (fun w0 : World => isInts_lit w0 [(k : Int), (x : Int), ((k : Int) + (x : Int)) % 256] (by intro z hz; simp at hz; omega) (by simp))
              go_wp2_with (first
                | (go_at_call 5; refine (b64Back_walk _ 2 2 _ _ (hi2.out _)).mono ?_; rintro e w2 ⟨rfl, hb2⟩; replace hk := below_then (below_alloc hk _) hb2; clear hb2)
                | (go_at_call 3; refine (b64Puts_walk _ 3 3 _ _ (hi3.out _)).mono ?_; rintro e w2 ⟨rfl, hb2⟩; replace hk := below_then (below_alloc hk _) hb2; clear hb2))
              go_roundw
              case rel => (repeat apply Exists.intro); exact ⟨⟨x + 7, by omega, rfl, hb.trans (hk.mono (by simpa using hz))⟩, rfl⟩
              case measure => simp [intOf]; omega
            · have hltx2 : ¬ (x : Int) < 256 := by omega
              go_wp2
              go_roundw
              case rel => exact ⟨k + 1, by omega, by go_num, hb⟩
              case measure => simp [intOf]; omega
    · obtain rfl : k = 256 := by omega
      have hk := (Below.refl w.heap.size w).alloc (Nat.le_refl _) (.cells headCells 9)
      replace hk := hk.trans (hb.mono (by omega))
      go_wp2_with (first
        | (go_at_call 15; refine (works_any _).mono ?_; rintro e w1 ⟨rfl, hb⟩; replace hk := below_then hk hb; clear hb)
        | (go_at_call 3; refine (b64Puts_walk none 0 0 [] _ ⟨Rd.none_ _ _ _, Nat.le_refl _, Nat.zero_le _, fun z hz => by cases hz⟩).mono ?_; rintro e w2 ⟨rfl, hb2⟩; replace hk := below_then hk hb2; clear hb2)
        | (go_at_call 4; refine (b64Gets_walk _ _ (size_max _ (by decide))).mono ?_; rintro e w2 ⟨rfl, hb2⟩; replace hk := below_then hk hb2; clear hb2))
      go_ret
      exact ⟨rfl, hk⟩
end Go.Proofs.Ytcoboifdmpeelaa
