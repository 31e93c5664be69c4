import Derived.Test.YteoggaioleckhaaSuchA
import Derived.Deep.Cut
import Derived.Deep.RegionWith
/- tree.such: a class of kinds. -/
set_option linter.unusedVariables false
set_option linter.unusedSimpArgs false
namespace Go.Proofs.Yteoggaioleckhaa
open Go.RowKit

set_option maxRecDepth 100000 in
set_option maxHeartbeats 16000000 in
theorem suchc_c (k n u : Int) (s : List UInt8) (A : Option Addr) (c : Nat) (keys : List (List UInt8)) (B : Option Addr) (d : Nat) (l : List NT) (w : World) (P : Int) (hk0 : ¬ k < 1) (hk1 : ¬ 17 < k) (k2 : ¬ k = 2) (k17 : ¬ k = 17) (k15 : ¬ k = 15) (k16 : ¬ k = 16)
    (HU : Hid (usesV k = 2)) (HP : Hid (partV k = P)) (hU : ∀ w, Calls Try.prog 37 #[.int .i64 k] w fun e w' => e = .returned (.int .i64 2) ∧ w' = w) (hP : ∀ w, Calls Try.prog 38 #[.int .i64 k] w fun e w' => e = .returned (.int .i64 P) ∧ w' = w)
    (hC : ∀ (b : Nat) wx, wx.cell? ⟨b, 0, none⟩ = some (.int .i64 P) → Below w.heap.size w wx → b < wx.heap.size → Calls Try.prog 40 #[.slice B l.length d, .func (.func 39) #[] #[.pointer (some ⟨b, 0, none⟩)]] wx fun e w' => e = .returned (.bool ((ptL l).any (otherV P))) ∧ Below wx.heap.size wx w') :
    Calls Try.prog 25 #[.agg #[.int .i64 k, .int .i64 n, .int .u64 u, .string ⟨s.toArray⟩, .slice A keys.length c, .slice B l.length d]] w fun e w' => e = .returned (.bool (suchP (.mk k n u s keys (ptL l)))) ∧ Below w.heap.size w w' := by
  have m1 : bits BinOp.and IntKind.i64 2 1 = 0 := by decide
  have m2 : bits BinOp.and IntKind.i64 2 2 = 2 := by decide
  have m4 : bits BinOp.and IntKind.i64 2 4 = 0 := by decide
  have m8 : bits BinOp.and IntKind.i64 2 8 = 0 := by decide
  obtain ⟨R, hR⟩ : ∃ R, suchP (.mk k n u s keys (ptL l)) = R := ⟨_, rfl⟩
  rw [hR]
  have HR := Lib.hid hR
  clear hR
  obtain ⟨V, hV⟩ : ∃ V, (ptL l).any (otherV P) = V := ⟨_, rfl⟩
  rw [hV] at hC
  have HV := Lib.hid hV
  clear hV
  obtain ⟨W, hW⟩ : ∃ W, ((w.alloc (.cells #[.int .i64 k, .int .i64 n, .int .u64 u, .string ⟨s.toArray⟩, .slice A keys.length c, .slice B l.length d] 26)).alloc (.cells #[.int .i64 P] 3)).drew = W := ⟨_, rfl⟩
  have hblk : W.heap[w.heap.size]? = some (.cells #[.int .i64 k, .int .i64 n, .int .u64 u, .string ⟨s.toArray⟩, .slice A keys.length c, .slice B l.length d] 26 (0, 0)) := by rw [← hW]; exact (Below.heap_alloc _ _ _ (by simp)).trans (heap_alloc_new w _)
  have c0 : W.cell? ⟨w.heap.size, 0, none⟩ = some (.int .i64 k) := by rw [cell_of_row _ _ _ _ _ _ hblk]; rfl
  have c1 : W.cell? ⟨w.heap.size, 1, none⟩ = some (.int .i64 n) := by rw [cell_of_row _ _ _ _ _ _ hblk]; rfl
  have c2 : W.cell? ⟨w.heap.size, 2, none⟩ = some (.int .u64 u) := by rw [cell_of_row _ _ _ _ _ _ hblk]; rfl
  have c3 : W.cell? ⟨w.heap.size, 3, none⟩ = some (.string ⟨s.toArray⟩) := by rw [cell_of_row _ _ _ _ _ _ hblk]; rfl
  have c4 : W.cell? ⟨w.heap.size, 4, none⟩ = some (.slice A keys.length c) := by rw [cell_of_row _ _ _ _ _ _ hblk]; rfl
  have c5 : W.cell? ⟨w.heap.size, 5, none⟩ = some (.slice B l.length d) := by rw [cell_of_row _ _ _ _ _ _ hblk]; rfl
  have hbW : Below w.heap.size w W := by rw [← hW]; exact (((Below.refl _ w).alloc (Nat.le_refl _) _).alloc (by simp) _).drew
  have hsW : w.heap.size + 1 < W.heap.size := by rw [← hW]; simp
  have hcP : W.cell? ⟨w.heap.size + 1, 0, none⟩ = some (.int .i64 P) := by
    rw [← hW]
    have := heap_alloc_new (w.alloc (.cells #[.int .i64 k, .int .i64 n, .int .u64 u, .string ⟨s.toArray⟩, .slice A keys.length c, .slice B l.length d] 26)) (.cells #[.int .i64 P] 3)
    rw [World.size_alloc] at this
    exact (cell_of_row _ _ _ _ _ _ this)
  have hCW := hC _ W hcP hbW hsW
  have HBW := Lib.hid hbW
  clear hblk hcP hC hbW hsW
  have HW := Lib.hid hW
  clear hW
  go_enter Try.func25, Try.ntmps25
  go_upto_region 3 with fail
  go_cut [3, 4] (fun s3 s4 wx => s3 = .int .i64 2 ∧ s4 = .pointer (some ⟨w.heap.size + 1, 0, none⟩) ∧ wx = W)
  case first =>
    clear c0 c1 c2 c3 c4 c5 hCW m1 m2 m4 m8
    go_region_with (first | (go_at_call 37; refine (hU _).mono ?_; rintro e w1 ⟨rfl, hw⟩; rw [hw]; clear hw) | (go_at_call 38; refine (hP _).mono ?_; rintro e w1 ⟨rfl, hw⟩; rw [hw]; clear hw))
    all_goals (go_wp2_with fail; go_meet; exact ⟨rfl, rfl, HW.out⟩)
  case rest =>
    obtain ⟨rfl, rfl, rfl⟩ := hcut
    clear hU hP
    go_wp2_with (go_at_call 40; refine hCW.mono ?_; rintro e w1 ⟨rfl, hb1⟩)
    all_goals try simp only [Exit.inBlock, Exit.then]
    all_goals refine bodyPost_ret (results_tmp rfl _ _ _) rfl ?_
    all_goals first
      | exact bool_abs (b := !s.isEmpty) (by assumption) (by assumption)
      | exact bool_abs (b := n != 0) (by assumption) (by assumption)
      | exact bool_abs (b := u != 0) (by assumption) (by assumption)
      | exact absurd (show 0 < keys.length by assumption) (by assumption)
      | exact ⟨by rw [← HR.out, such_n (by rw [HU.out]; decide) (by assumption)]; rfl, HBW.out⟩
      | exact ⟨by rw [← HR.out, such_s (by rw [HU.out]; decide) (by assumption)]; rfl, HBW.out⟩
      | exact ⟨by rw [← HR.out, such_k (by rw [HU.out]; decide) (by assumption)]; rfl, HBW.out⟩
      | exact ⟨by rw [← HR.out, such_ok (by omega) (by omega) (.inr (by first | assumption | omega)) (.inl HU.out) (.inr (by first | assumption | omega)) (.inr (by first | assumption | omega)) (.inl (by omega)) (.inl (by omega)) (.inl (by omega)), HP.out, HV.out]; rfl, HBW.out.trans (hb1.mono HBW.out.size)⟩
set_option maxRecDepth 100000 in
set_option maxHeartbeats 16000000 in
theorem suchc_d (k n u : Int) (s : List UInt8) (A : Option Addr) (c : Nat) (keys : List (List UInt8)) (B : Option Addr) (d : Nat) (l : List NT) (w : World) (P : Int) (hk0 : ¬ k < 1) (hk1 : ¬ 17 < k) (k2 : ¬ k = 2) (k17 : ¬ k = 17) (k15 : ¬ k = 15) (k16 : ¬ k = 16)
    (HU : Hid (usesV k = 4)) (HP : Hid (partV k = P)) (hU : ∀ w, Calls Try.prog 37 #[.int .i64 k] w fun e w' => e = .returned (.int .i64 4) ∧ w' = w) (hP : ∀ w, Calls Try.prog 38 #[.int .i64 k] w fun e w' => e = .returned (.int .i64 P) ∧ w' = w)
    (hC : ∀ (b : Nat) wx, wx.cell? ⟨b, 0, none⟩ = some (.int .i64 P) → Below w.heap.size w wx → b < wx.heap.size → Calls Try.prog 40 #[.slice B l.length d, .func (.func 39) #[] #[.pointer (some ⟨b, 0, none⟩)]] wx fun e w' => e = .returned (.bool ((ptL l).any (otherV P))) ∧ Below wx.heap.size wx w') :
    Calls Try.prog 25 #[.agg #[.int .i64 k, .int .i64 n, .int .u64 u, .string ⟨s.toArray⟩, .slice A keys.length c, .slice B l.length d]] w fun e w' => e = .returned (.bool (suchP (.mk k n u s keys (ptL l)))) ∧ Below w.heap.size w w' := by
  have m1 : bits BinOp.and IntKind.i64 4 1 = 0 := by decide
  have m2 : bits BinOp.and IntKind.i64 4 2 = 0 := by decide
  have m4 : bits BinOp.and IntKind.i64 4 4 = 4 := by decide
  have m8 : bits BinOp.and IntKind.i64 4 8 = 0 := by decide
  obtain ⟨R, hR⟩ : ∃ R, suchP (.mk k n u s keys (ptL l)) = R := ⟨_, rfl⟩
  rw [hR]
  have HR := Lib.hid hR
  clear hR
  obtain ⟨V, hV⟩ : ∃ V, (ptL l).any (otherV P) = V := ⟨_, rfl⟩
  rw [hV] at hC
  have HV := Lib.hid hV
  clear hV
  obtain ⟨W, hW⟩ : ∃ W, ((w.alloc (.cells #[.int .i64 k, .int .i64 n, .int .u64 u, .string ⟨s.toArray⟩, .slice A keys.length c, .slice B l.length d] 26)).alloc (.cells #[.int .i64 P] 3)).drew = W := ⟨_, rfl⟩
  have hblk : W.heap[w.heap.size]? = some (.cells #[.int .i64 k, .int .i64 n, .int .u64 u, .string ⟨s.toArray⟩, .slice A keys.length c, .slice B l.length d] 26 (0, 0)) := by rw [← hW]; exact (Below.heap_alloc _ _ _ (by simp)).trans (heap_alloc_new w _)
  have c0 : W.cell? ⟨w.heap.size, 0, none⟩ = some (.int .i64 k) := by rw [cell_of_row _ _ _ _ _ _ hblk]; rfl
  have c1 : W.cell? ⟨w.heap.size, 1, none⟩ = some (.int .i64 n) := by rw [cell_of_row _ _ _ _ _ _ hblk]; rfl
  have c2 : W.cell? ⟨w.heap.size, 2, none⟩ = some (.int .u64 u) := by rw [cell_of_row _ _ _ _ _ _ hblk]; rfl
  have c3 : W.cell? ⟨w.heap.size, 3, none⟩ = some (.string ⟨s.toArray⟩) := by rw [cell_of_row _ _ _ _ _ _ hblk]; rfl
  have c4 : W.cell? ⟨w.heap.size, 4, none⟩ = some (.slice A keys.length c) := by rw [cell_of_row _ _ _ _ _ _ hblk]; rfl
  have c5 : W.cell? ⟨w.heap.size, 5, none⟩ = some (.slice B l.length d) := by rw [cell_of_row _ _ _ _ _ _ hblk]; rfl
  have hbW : Below w.heap.size w W := by rw [← hW]; exact (((Below.refl _ w).alloc (Nat.le_refl _) _).alloc (by simp) _).drew
  have hsW : w.heap.size + 1 < W.heap.size := by rw [← hW]; simp
  have hcP : W.cell? ⟨w.heap.size + 1, 0, none⟩ = some (.int .i64 P) := by
    rw [← hW]
    have := heap_alloc_new (w.alloc (.cells #[.int .i64 k, .int .i64 n, .int .u64 u, .string ⟨s.toArray⟩, .slice A keys.length c, .slice B l.length d] 26)) (.cells #[.int .i64 P] 3)
    rw [World.size_alloc] at this
    exact (cell_of_row _ _ _ _ _ _ this)
  have hCW := hC _ W hcP hbW hsW
  have HBW := Lib.hid hbW
  clear hblk hcP hC hbW hsW
  have HW := Lib.hid hW
  clear hW
  go_enter Try.func25, Try.ntmps25
  go_upto_region 3 with fail
  go_cut [3, 4] (fun s3 s4 wx => s3 = .int .i64 4 ∧ s4 = .pointer (some ⟨w.heap.size + 1, 0, none⟩) ∧ wx = W)
  case first =>
    clear c0 c1 c2 c3 c4 c5 hCW m1 m2 m4 m8
    go_region_with (first | (go_at_call 37; refine (hU _).mono ?_; rintro e w1 ⟨rfl, hw⟩; rw [hw]; clear hw) | (go_at_call 38; refine (hP _).mono ?_; rintro e w1 ⟨rfl, hw⟩; rw [hw]; clear hw))
    all_goals (go_wp2_with fail; go_meet; exact ⟨rfl, rfl, HW.out⟩)
  case rest =>
    obtain ⟨rfl, rfl, rfl⟩ := hcut
    clear hU hP
    go_wp2_with (go_at_call 40; refine hCW.mono ?_; rintro e w1 ⟨rfl, hb1⟩)
    all_goals try simp only [Exit.inBlock, Exit.then]
    all_goals refine bodyPost_ret (results_tmp rfl _ _ _) rfl ?_
    all_goals first
      | exact bool_abs (b := !s.isEmpty) (by assumption) (by assumption)
      | exact bool_abs (b := n != 0) (by assumption) (by assumption)
      | exact bool_abs (b := u != 0) (by assumption) (by assumption)
      | exact absurd (show 0 < keys.length by assumption) (by assumption)
      | exact ⟨by rw [← HR.out, such_n (by rw [HU.out]; decide) (by assumption)]; rfl, HBW.out⟩
      | exact ⟨by rw [← HR.out, such_u (by rw [HU.out]; decide) (by assumption)]; rfl, HBW.out⟩
      | exact ⟨by rw [← HR.out, such_k (by rw [HU.out]; decide) (by assumption)]; rfl, HBW.out⟩
      | exact ⟨by rw [← HR.out, such_ok (by omega) (by omega) (.inr (by first | assumption | omega)) (.inr (by first | assumption | omega)) (.inl HU.out) (.inr (by first | assumption | omega)) (.inl (by omega)) (.inl (by omega)) (.inl (by omega)), HP.out, HV.out]; rfl, HBW.out.trans (hb1.mono HBW.out.size)⟩
end Go.Proofs.Yteoggaioleckhaa
