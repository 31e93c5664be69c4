import Derived.Test.YtalegkgonbmaoaaDoorTells
import Derived.Test.YtalegkgonbmaoaaDoorReads
import Derived.BigQuiet
import Derived.BigRegion
import Derived.Deep.QuietTactic
import Derived.Deep.DeepCutAuto
/- The law UtfKnown: its walk. -/
set_option linter.unusedVariables false
set_option linter.unusedSimpArgs false
namespace Go.Proofs.YtalegkgonbmaoaaDoor
open Go.RowKit
def headCells : Array Value := #[.string ⟨#[]⟩, .string ⟨#[97]⟩, .string ⟨#[193]⟩, .string ⟨#[194]⟩, .string ⟨#[224]⟩, .string ⟨#[224, 159]⟩, .string ⟨#[224, 160]⟩, .string ⟨#[236, 128]⟩, .string ⟨#[237]⟩, .string ⟨#[237, 159]⟩, .string ⟨#[238, 128]⟩, .string ⟨#[240]⟩, .string ⟨#[240, 143]⟩, .string ⟨#[240, 144]⟩, .string ⟨#[240, 144, 128]⟩, .string ⟨#[244]⟩, .string ⟨#[244, 143]⟩, .string ⟨#[244, 143, 191]⟩, .string ⟨#[245]⟩, .string ⟨#[92]⟩, .string ⟨#[92, 117]⟩, .string ⟨#[92, 117, 48]⟩, .string ⟨#[92, 117, 100]⟩, .string ⟨#[92, 117, 68]⟩, .string ⟨#[92, 117, 100, 56]⟩, .string ⟨#[92, 117, 100, 98]⟩, .string ⟨#[92, 117, 100, 56, 102]⟩, .string ⟨#[92, 117, 100, 56, 51, 100]⟩, .string ⟨#[92, 117, 100, 56, 51, 100, 92]⟩, .string ⟨#[92, 117, 100, 56, 51, 100, 92, 117]⟩, .string ⟨#[92, 117, 100, 56, 51, 100, 92, 117, 100]⟩, .string ⟨#[92, 117, 100, 56, 51, 100, 92, 117, 100, 99]⟩, .string ⟨#[92, 117, 100, 56, 51, 100, 92, 117, 100, 102, 48]⟩]
def endCells : Array Value := #[.int .i32 (-2147483648), .int .i32 (-1), .int .i32 0, .int .i32 127, .int .i32 128, .int .i32 2047, .int .i32 2048, .int .i32 55295, .int .i32 55296, .int .i32 57343, .int .i32 57344, .int .i32 65535, .int .i32 65536, .int .i32 1114111, .int .i32 1114112, .int .i32 2147483647]
theorem head_at : ∀ j : Nat, j < 33 → ∃ s : ByteArray, s.size ≤ 20 ∧ headCells[j]? = some (.string s)
  | 0, _ => ⟨_, by decide, rfl⟩
  | 1, _ => ⟨_, by decide, rfl⟩
  | 2, _ => ⟨_, by decide, rfl⟩
  | 3, _ => ⟨_, by decide, rfl⟩
  | 4, _ => ⟨_, by decide, rfl⟩
  | 5, _ => ⟨_, by decide, rfl⟩
  | 6, _ => ⟨_, by decide, rfl⟩
  | 7, _ => ⟨_, by decide, rfl⟩
  | 8, _ => ⟨_, by decide, rfl⟩
  | 9, _ => ⟨_, by decide, rfl⟩
  | 10, _ => ⟨_, by decide, rfl⟩
  | 11, _ => ⟨_, by decide, rfl⟩
  | 12, _ => ⟨_, by decide, rfl⟩
  | 13, _ => ⟨_, by decide, rfl⟩
  | 14, _ => ⟨_, by decide, rfl⟩
  | 15, _ => ⟨_, by decide, rfl⟩
  | 16, _ => ⟨_, by decide, rfl⟩
  | 17, _ => ⟨_, by decide, rfl⟩
  | 18, _ => ⟨_, by decide, rfl⟩
  | 19, _ => ⟨_, by decide, rfl⟩
  | 20, _ => ⟨_, by decide, rfl⟩
  | 21, _ => ⟨_, by decide, rfl⟩
  | 22, _ => ⟨_, by decide, rfl⟩
  | 23, _ => ⟨_, by decide, rfl⟩
  | 24, _ => ⟨_, by decide, rfl⟩
  | 25, _ => ⟨_, by decide, rfl⟩
  | 26, _ => ⟨_, by decide, rfl⟩
  | 27, _ => ⟨_, by decide, rfl⟩
  | 28, _ => ⟨_, by decide, rfl⟩
  | 29, _ => ⟨_, by decide, rfl⟩
  | 30, _ => ⟨_, by decide, rfl⟩
  | 31, _ => ⟨_, by decide, rfl⟩
  | 32, _ => ⟨_, by decide, rfl⟩
  | n + 33, h => absurd h (by omega)
theorem end_at : ∀ j : Nat, j < 16 → ∃ r : Int, (Lit.int .i32 r).wf = true ∧ (Utf8.encode r).size ≤ 20 ∧ endCells[j]? = some (.int .i32 r)
  | 0, _ => ⟨_, by decide, by decide, rfl⟩
  | 1, _ => ⟨_, by decide, by decide, rfl⟩
  | 2, _ => ⟨_, by decide, by decide, rfl⟩
  | 3, _ => ⟨_, by decide, by decide, rfl⟩
  | 4, _ => ⟨_, by decide, by decide, rfl⟩
  | 5, _ => ⟨_, by decide, by decide, rfl⟩
  | 6, _ => ⟨_, by decide, by decide, rfl⟩
  | 7, _ => ⟨_, by decide, by decide, rfl⟩
  | 8, _ => ⟨_, by decide, by decide, rfl⟩
  | 9, _ => ⟨_, by decide, by decide, rfl⟩
  | 10, _ => ⟨_, by decide, by decide, rfl⟩
  | 11, _ => ⟨_, by decide, by decide, rfl⟩
  | 12, _ => ⟨_, by decide, by decide, rfl⟩
  | 13, _ => ⟨_, by decide, by decide, rfl⟩
  | 14, _ => ⟨_, by decide, by decide, rfl⟩
  | 15, _ => ⟨_, by decide, by decide, rfl⟩
  | n + 16, h => absurd h (by omega)
theorem head_cell (w : World) (j : Nat) (h : j < 33) : ∃ s : ByteArray, s.size ≤ 20 ∧ (w.alloc (.cells headCells 9)).cell? ⟨w.heap.size, j, none⟩ = some (.string s) := by
  obtain ⟨s, h1, h2⟩ := head_at j h
  exact ⟨s, h1, by rw [cell_of_row _ _ _ _ 9 (0, 0) (heap_alloc_last _ _)]; exact h2⟩
theorem end_cell (w : World) (j : Nat) (h : j < 16) : ∃ r : Int, (Lit.int .i32 r).wf = true ∧ (Utf8.encode r).size ≤ 20 ∧ (w.alloc (.cells endCells 21)).cell? ⟨w.heap.size, j, none⟩ = some (.int .i32 r) := by
  obtain ⟨r, h1, h2, h3⟩ := end_at j h
  exact ⟨r, h1, h2, by rw [cell_of_row _ _ _ _ 21 (0, 0) (heap_alloc_last _ _)]; exact h3⟩
theorem one_byte (w : World) (k : Nat) (h : k < 256) : (convert 48 9 (.slice (some ⟨w.heap.size, 0, none⟩) 1 1)).run Tryd.prog (w.alloc (.cells #[.int .u8 (k : Int)] 5)) = .ok (.string ⟨[UInt8.ofNat k].toArray⟩) (w.alloc (.cells #[.int .u8 (k : Int)] 5)) := by
  have e : (Lib.byteCells [UInt8.ofNat k]) = [.int .u8 (k : Int)] := by
    simp only [Lib.byteCells, List.map, UInt8.toNat_ofNat']
    rw [Nat.mod_eq_of_lt (by omega)]
  exact bytes_str w [UInt8.ofNat k] 1 rfl #[.int .u8 (k : Int)] (by rw [e])
theorem keep_cell {w w' : World} {b o : Nat} {v : Value} (hb : Below w.heap.size w w') (h : b < w.heap.size) (g : w.cell? ⟨b, o, none⟩ = some v) : w'.cell? ⟨b, o, none⟩ = some v := (hb.cell (p := ⟨b, o, none⟩) h).trans g
theorem sz1 (x : UInt8) : (ByteArray.mk #[x]).size = 1 := rfl
theorem sz2 (x y : UInt8) : (ByteArray.mk #[x, y]).size = 2 := rfl
theorem sz4 (x y z t : UInt8) : (ByteArray.mk #[x, y, z, t]).size = 4 := rfl
theorem size_max (n : Nat) (h : n ≤ 1000) : n ≤ maxLen := by unfold maxLen; omega
theorem wf32 (k : Int) (h0 : -2147483648 ≤ k) (h : k ≤ 2147483647) : (Lit.int .i32 k).wf = true := by
  simp [Lit.wf, IntKind.min, IntKind.max, IntKind.bits, IntKind.signed]; omega
set_option maxRecDepth 100000 in
set_option maxHeartbeats 20000000 in
theorem utfKnown_walk (w : World) (hT : Lib.Utf8Tabs 0 1 w) (h2 : 2 ≤ w.heap.size) : Calls Tryd.prog 10 #[] w fun e w' => e = .returned (.bool true) ∧ Below w.heap.size w w' := by
  have cR : ∀ (s : ByteArray) (wx : World), s.size ≤ 1000 → Below w.heap.size w wx → Calls Tryd.prog 6 #[.string s] wx fun e w' => e = .returned (.bool true) ∧ Below wx.heap.size wx w' := fun s wx hs hb => utfReads_walk s wx (size_max _ hs) (tabs_below hT h2 hb) (Nat.le_trans h2 hb.size)
  have cT : ∀ (s : ByteArray) (r : Int) (wx : World), s.size ≤ 1000 → (Lit.int .i32 r).wf = true → Below w.heap.size w wx → Calls Tryd.prog 5 #[.string s, .int .i32 r] wx fun e w' => e = .returned (.bool true) ∧ Below wx.heap.size wx w' := fun s r wx hs hr hb => utfTells_walk s r wx (size_max _ hs) hr (tabs_below hT h2 hb) (Nat.le_trans h2 hb.size)
  have cK : ∀ wx : World, Below w.heap.size w wx → Calls Tryd.prog 16 #[] wx fun e w' => e = .returned (.bool true) ∧ Below wx.heap.size wx w' := fun wx hb => works_any wx (tabs_below hT h2 hb) (Nat.le_trans h2 hb.size)
  replace cR := Lib.hid cR
  replace cT := Lib.hid cT
  replace cK := Lib.hid cK
  clear hT h2
  go_enter Tryd.func10, Tryd.ntmps10
  go_wp2
  have hst : Below w.heap.size w (w.alloc (.cells headCells 9)) := (Below.refl _ w).alloc (Nat.le_refl _) _
  go_loopw [2] (fun c wr => ∃ k : Nat, k ≤ 256 ∧ c = .int .i64 k ∧ Below (w.heap.size + 1) (w.alloc (.cells headCells 9)) wr) (fun c _ => 256 - (intOf c).toNat)
  case atStart => exact ⟨0, by omega, rfl, Below.refl _ _⟩
  case round =>
    obtain ⟨k, hk, rfl, hb⟩ := hrel
    obtain ⟨wo, rfl⟩ : ∃ wo : World, wo = wr := ⟨_, rfl⟩
    have hz := hb.size
    by_cases hlt : k < 256
    · have e1 := one_byte wo k hlt
      have hlt2 : (k : Int) < 256 := by omega
      have hk0 : (0 : Int) ≤ (k : Int) := by omega
      have hwr : IntKind.u8.wrap (k : Int) = (k : Int) := by simp only [IntKind.wrap_u8]; omega
      go_wp2
      have hb0 : Below (w.heap.size + 1) (w.alloc (.cells headCells 9)) (wo.alloc (.cells #[.int .u8 (k : Int)] 5)) := hb.alloc (by simpa using hz) _
      clear e1 hb hz hwr
      generalize wo.alloc (.cells #[.int .u8 (k : Int)] 5) = w1 at hb0 ⊢
      have wfa : (Lit.int .i32 (k : Int)).wf = true := wf32 _ (by omega) (by omega)
      have wfb : (Lit.int .i32 (55280 + (k : Int))).wf = true := wf32 _ (by omega) (by omega)
      have wfc : (Lit.int .i32 (1113984 + (k : Int))).wf = true := wf32 _ (by omega) (by omega)
      have wa : IntKind.i32.wrap (k : Int) = (k : Int) := by simp only [IntKind.wrap_i32]; omega
      have wb : IntKind.i32.wrap (55280 + (k : Int)) = 55280 + (k : Int) := by simp only [IntKind.wrap_i32]; omega
      have wc : IntKind.i32.wrap (1113984 + (k : Int)) = 1113984 + (k : Int) := by simp only [IntKind.wrap_i32]; omega
      obtain ⟨B, hB⟩ : ∃ B : ByteArray, (⟨[UInt8.ofNat k].toArray⟩ : ByteArray) = B := ⟨_, rfl⟩
      have hBs : B.size = 1 := by rw [← hB]; rfl
      try rw [hB]
      clear hB
      go_loopw [4] (fun i wr => ∃ j : Nat, j ≤ 33 ∧ i = .int .i64 j ∧ Below (w.heap.size + 1) (w.alloc (.cells headCells 9)) wr) (fun i _ => 33 - (intOf i).toNat)
      case atStart => exact ⟨0, by omega, rfl, hb0⟩
      case round =>
        obtain ⟨j, hj, rfl, hb⟩ := hrel
        have hz := hb.size
        by_cases hltj : j < 33
        · obtain ⟨h, hh, hc⟩ := head_cell w j hltj
          have g := (hb.cell (p := ⟨w.heap.size, j, none⟩) (by simp)).trans hc
          have hk := Below.refl wr.heap.size wr
          have hz' : w.heap.size < wr.heap.size := by simp at hz; omega
          have HW := Lib.hid (hst.trans (hb.mono (by omega)))
          clear hc
          have G0 := Lib.hid g
          go_wp2_with (first
            | (go_at_call 6; (refine (cR.out _ _ (by simp only [ByteArray.size_append, sz1, sz4]; omega) (HW.out.trans (hk.mono HW.out.size))).mono ?_; rintro e w2 ⟨rfl, hb2⟩; replace hk := below_then hk hb2; clear hb2; have g2 := keep_cell hk hz' G0.out))
            | (go_at_call 5; (refine (cT.out _ _ _ (by simp only [ByteArray.size_append, sz1, sz2]; omega) (by assumption) (HW.out.trans (hk.mono HW.out.size))).mono ?_; rintro e w2 ⟨rfl, hb2⟩; replace hk := below_then hk hb2; clear hb2; have g2 := keep_cell hk hz' G0.out)))
          go_roundw
          case rel => exact ⟨j + 1, by omega, by go_num, hb.trans (hk.mono (by simpa using hz))⟩
          case measure => simp [intOf]; omega
        · obtain rfl : j = 33 := by omega
          go_wp2
          go_roundw
          case rel => exact ⟨k + 1, by omega, by go_num, hb⟩
          case measure => simp [intOf]; omega
    · obtain rfl : k = 256 := by omega
      rw [show ((256 : Nat) : Int) = 256 from rfl]
      have hk : Below w.heap.size w wo := hst.trans (hb.mono (by omega))
      clear hb hlt hz hst
      go_wp2
      have hst : Below w.heap.size w (wo.alloc (.cells endCells 21)) := hk.alloc hk.size _
      go_loopw [6] (fun i wr => ∃ j : Nat, j ≤ 16 ∧ i = .int .i64 j ∧ Below (wo.heap.size + 1) (wo.alloc (.cells endCells 21)) wr) (fun i _ => 16 - (intOf i).toNat)
      case atStart => exact ⟨0, by omega, rfl, Below.refl _ _⟩
      case round =>
        obtain ⟨j, hj, rfl, hb⟩ := hrel
        have hz := hb.size
        have hw' := hk.size
        by_cases hltj : j < 16
        · obtain ⟨r, hr, hre, hc⟩ := end_cell wo j hltj
          have g := (hb.cell (p := ⟨wo.heap.size, j, none⟩) (by simp)).trans hc
          have hq := Below.refl wr.heap.size wr
          have hz' : wo.heap.size < wr.heap.size := by simp at hz; omega
          have HW := Lib.hid (hst.trans (hb.mono (by omega)))
          clear hc
          have G0 := Lib.hid g
          go_wp2_with (first
            | (go_at_call 6; (refine (cR.out _ _ (by omega) (HW.out.trans (hq.mono HW.out.size))).mono ?_; rintro e w2 ⟨rfl, hb2⟩; replace hq := below_then hq hb2; clear hb2; have g2 := keep_cell hq hz' G0.out))
            | (go_at_call 5; (refine (cT.out _ _ _ (by decide) (by assumption) (HW.out.trans (hq.mono HW.out.size))).mono ?_; rintro e w2 ⟨rfl, hb2⟩; replace hq := below_then hq hb2; clear hb2; have g2 := keep_cell hq hz' G0.out)))
          go_roundw
          case rel => exact ⟨j + 1, by omega, by go_num, hb.trans (hq.mono (by simpa using hz))⟩
          case measure => simp [intOf]; omega
        · obtain rfl : j = 16 := by omega
          have hq : Below w.heap.size w wr := hst.trans (hb.mono (by omega))
          go_wp2_with (go_at_call 16; refine (cK.out _ hq).mono ?_; rintro e w1 ⟨rfl, hb1⟩; replace hq := below_then hq hb1; clear hb1)
          go_ret
          exact ⟨rfl, hq⟩
end Go.Proofs.YtalegkgonbmaoaaDoor
