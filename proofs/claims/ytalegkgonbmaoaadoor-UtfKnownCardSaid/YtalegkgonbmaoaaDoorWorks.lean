import Derived.Test.YtalegkgonbmaoaaDoorQuote
import Derived.Test.YtalegkgonbmaoaaDoorUnq
/- The statements' helpers comes, reads, fails, and the examples of the chapter. -/
set_option linter.unusedVariables false
set_option linter.unusedSimpArgs false
namespace Go.Proofs.YtalegkgonbmaoaaDoor
open Go.RowKit
set_option maxRecDepth 100000 in
set_option maxHeartbeats 1000000 in
theorem reads_true (l want : List UInt8) (n : Nat) (hA : unq l = (want, n, 0, 0)) (w : World) (hT : Lib.Utf8Tabs 0 1 w) (h2 : 2 ≤ w.heap.size) (hl : l.length ≤ 1000000) :
    Calls Tryd.prog 14 #[.string ⟨l.toArray⟩, .string ⟨want.toArray⟩, .int .i64 (n : Int)] w fun e w' => e = .returned (.bool true) ∧ Below w.heap.size w w' := by
  have cU := unquote_any l w hT h2 hl
  rw [hA] at cU
  simp only [ansV] at cU
  clear hA
  go_enter Tryd.func14, Tryd.ntmps14
  go_wp2_with (go_at_call 26; refine cU.mono ?_; rintro e w1 ⟨rfl, hb⟩)
  go_ret
  exact ⟨rfl, hb⟩
set_option maxRecDepth 100000 in
set_option maxHeartbeats 1000000 in
theorem fails_true (l : List UInt8) (k e : Nat) (hA : unq l = ([], 0, k, e)) (w : World) (hT : Lib.Utf8Tabs 0 1 w) (h2 : 2 ≤ w.heap.size) (hl : l.length ≤ 1000000) :
    Calls Tryd.prog 18 #[.string ⟨l.toArray⟩, .int .i64 (k : Int), .int .i64 (e : Int)] w fun x w' => x = .returned (.bool true) ∧ Below w.heap.size w w' := by
  have cU := unquote_any l w hT h2 hl
  rw [hA] at cU
  simp only [ansV] at cU
  clear hA
  go_enter Tryd.func18, Tryd.ntmps18
  go_wp2_with (go_at_call 26; refine cU.mono ?_; rintro e w1 ⟨rfl, hb⟩)
  go_ret
  exact ⟨rfl, hb⟩
set_option maxRecDepth 100000 in
set_option maxHeartbeats 1000000 in
theorem comes_some (l : List UInt8) (r n : Nat) (hA : nxt l = some (r, n)) (hn : 0 < n) (w : World) (hT : Lib.Utf8Tabs 0 1 w) :
    Calls Tryd.prog 35 #[.string ⟨l.toArray⟩, .int .i32 (r : Int), .int .i64 (n : Int)] w fun x w' => x = .returned (.bool true) ∧ Below w.heap.size w w' := by
  have cN := next_any l w hT
  unfold nextV at cN
  rw [hA] at cN
  simp only at cN
  have hnz : (0 : Int) < (n : Int) := by omega
  clear hA
  go_enter Tryd.func35, Tryd.ntmps35
  go_wp2_with (go_at_call 19; refine cN.mono ?_; rintro e w1 ⟨rfl, hb⟩)
  go_ret
  exact ⟨rfl, hb⟩
set_option maxRecDepth 100000 in
set_option maxHeartbeats 1000000 in
theorem comes_none (l : List UInt8) (hA : nxt l = none) (w : World) (hT : Lib.Utf8Tabs 0 1 w) :
    Calls Tryd.prog 35 #[.string ⟨l.toArray⟩, .int .i32 0, .int .i64 0] w fun x w' => x = .returned (.bool true) ∧ Below w.heap.size w w' := by
  have cN := next_any l w hT
  unfold nextV at cN
  rw [hA] at cN
  simp only at cN
  clear hA
  go_enter Tryd.func35, Tryd.ntmps35
  go_wp2_with (go_at_call 19; refine cN.mono ?_; rintro e w1 ⟨rfl, hb⟩)
  go_ret
  exact ⟨rfl, hb⟩
theorem put_at (r : Int) (l : List UInt8) (b : Bool) (h : putZ r = (l, b)) (w : World) : Calls Tryd.prog 21 #[.int .i32 r] w fun e w' => e = .returned (.tuple #[.string ⟨l.toArray⟩, .bool b]) ∧ Below w.heap.size w w' := by
  refine (put_any r w).mono ?_
  rintro e w' ⟨rfl, hw⟩
  exact ⟨by unfold putV; rw [h], by rw [hw]; exact Below.refl _ _⟩
theorem quote_at (l r : List UInt8) (k : Nat) (h : quoteA l = (r, k)) (w : World) (hT : Lib.Utf8Tabs 0 1 w) (hl : l.length ≤ 1000000) : Calls Tryd.prog 13 #[.string ⟨l.toArray⟩] w fun e w' => e = .returned (.tuple #[.string ⟨r.toArray⟩, .int .i64 (k : Int)]) ∧ Below w.heap.size w w' := by
  have := quote_any l w hT hl
  rw [h] at this
  exact this
theorem ex1 : putZ 228 = ([195, 164], true) := by decide +kernel
theorem ex2 : putZ 57343 = ([], false) := by decide +kernel
theorem ex3 : quoteA [97, 34, 98, 10, 31] = ([34, 97, 92, 34, 98, 92, 110, 92, 117, 48, 48, 49, 102, 34], 0) := by decide +kernel
theorem ex4 : quoteA [195] = ([], 40) := by decide +kernel
theorem ex5 : nxt [226, 130, 172, 65] = some (8364, 3) := by decide +kernel
theorem ex6 : nxt [226, 130] = none := by decide +kernel
theorem ex7 : nxt [128] = none := by decide +kernel
theorem ex8 : unq [34, 92, 117, 48, 48, 101, 52, 92, 47, 34, 122] = ([195, 164, 47], 10, 0, 0) := by decide +kernel
theorem ex9 : unq [34, 97, 98] = ([], 0, 3, 3) := by decide +kernel
theorem ex10 : unq [34, 92, 117, 68, 56, 51, 68, 92, 117, 68, 69, 48, 48, 34] = ([240, 159, 152, 128], 14, 0, 0) := by decide +kernel
theorem ex11 : unq [] = ([], 0, 0, 3) := by decide +kernel
theorem ex12 : unq [34, 97, 92, 120, 34] = ([], 0, 3, 41) := by decide +kernel
theorem ex13 : unq [34, 92, 117, 100, 101, 48, 48, 34] = ([], 0, 4, 41) := by decide +kernel
theorem ex14 : unq [34, 92, 117, 100, 56, 51, 100, 120, 34] = ([], 0, 7, 41) := by decide +kernel
theorem ex15 : unq [34, 195, 34] = ([], 0, 2, 40) := by decide +kernel
theorem ex16 : unq [34, 195, 10] = ([], 0, 2, 40) := by decide +kernel
theorem ex17 : unq [34, 255] = ([], 0, 1, 40) := by decide +kernel
theorem ex18 : unq [34, 10] = ([], 0, 1, 41) := by decide +kernel
theorem ex19 : unq [97] = ([], 0, 0, 41) := by decide +kernel
set_option maxRecDepth 100000 in
set_option maxHeartbeats 4000000 in
theorem works_any (w : World) (hT : Lib.Utf8Tabs 0 1 w) (h2 : 2 ≤ w.heap.size) : Calls Tryd.prog 16 #[] w fun e w' => e = .returned (.bool true) ∧ Below w.heap.size w w' := by
  have c1 : ∀ wx, Below w.heap.size w wx → Calls Tryd.prog 21 #[.int .i32 228] wx (fun x w' => x = .returned (.tuple #[.string ⟨#[195, 164]⟩, .bool true]) ∧ Below w.heap.size w w') := fun wx hb => (put_at 228 [195, 164] true ex1 wx).mono fun x w' h => ⟨h.1, hb.trans (h.2.mono hb.size)⟩
  have c2 : ∀ wx, Below w.heap.size w wx → Calls Tryd.prog 21 #[.int .i32 57343] wx (fun x w' => x = .returned (.tuple #[.string ⟨#[]⟩, .bool false]) ∧ Below w.heap.size w w') := fun wx hb => (put_at 57343 [] false ex2 wx).mono fun x w' h => ⟨h.1, hb.trans (h.2.mono hb.size)⟩
  have c3 : ∀ wx, Below w.heap.size w wx → Calls Tryd.prog 13 #[.string ⟨#[97, 34, 98, 10, 31]⟩] wx (fun x w' => x = .returned (.tuple #[.string ⟨#[34, 97, 92, 34, 98, 92, 110, 92, 117, 48, 48, 49, 102, 34]⟩, .int .i64 0]) ∧ Below w.heap.size w w') := fun wx hb => (quote_at [97, 34, 98, 10, 31] [34, 97, 92, 34, 98, 92, 110, 92, 117, 48, 48, 49, 102, 34] 0 ex3 wx (tabs_below hT h2 hb) (by decide)).mono fun x w' h => ⟨h.1, hb.trans (h.2.mono hb.size)⟩
  have c4 : ∀ wx, Below w.heap.size w wx → Calls Tryd.prog 13 #[.string ⟨#[195]⟩] wx (fun x w' => x = .returned (.tuple #[.string ⟨#[]⟩, .int .i64 40]) ∧ Below w.heap.size w w') := fun wx hb => (quote_at [195] [] 40 ex4 wx (tabs_below hT h2 hb) (by decide)).mono fun x w' h => ⟨h.1, hb.trans (h.2.mono hb.size)⟩
  have c5 : ∀ wx, Below w.heap.size w wx → Calls Tryd.prog 35 #[.string ⟨#[226, 130, 172, 65]⟩, .int .i32 8364, .int .i64 3] wx (fun x w' => x = .returned (.bool true) ∧ Below w.heap.size w w') := fun wx hb => (comes_some [226, 130, 172, 65] 8364 3 ex5 (by decide) wx (tabs_below hT h2 hb)).mono fun x w' h => ⟨h.1, hb.trans (h.2.mono hb.size)⟩
  have c6 : ∀ wx, Below w.heap.size w wx → Calls Tryd.prog 35 #[.string ⟨#[226, 130]⟩, .int .i32 0, .int .i64 0] wx (fun x w' => x = .returned (.bool true) ∧ Below w.heap.size w w') := fun wx hb => (comes_none [226, 130] ex6 wx (tabs_below hT h2 hb)).mono fun x w' h => ⟨h.1, hb.trans (h.2.mono hb.size)⟩
  have c7 : ∀ wx, Below w.heap.size w wx → Calls Tryd.prog 35 #[.string ⟨#[128]⟩, .int .i32 0, .int .i64 0] wx (fun x w' => x = .returned (.bool true) ∧ Below w.heap.size w w') := fun wx hb => (comes_none [128] ex7 wx (tabs_below hT h2 hb)).mono fun x w' h => ⟨h.1, hb.trans (h.2.mono hb.size)⟩
  have c8 : ∀ wx, Below w.heap.size w wx → Calls Tryd.prog 14 #[.string ⟨#[34, 92, 117, 48, 48, 101, 52, 92, 47, 34, 122]⟩, .string ⟨#[195, 164, 47]⟩, .int .i64 10] wx (fun x w' => x = .returned (.bool true) ∧ Below w.heap.size w w') := fun wx hb => (reads_true [34, 92, 117, 48, 48, 101, 52, 92, 47, 34, 122] [195, 164, 47] 10 ex8 wx (tabs_below hT h2 hb) (Nat.le_trans h2 hb.size) (by decide)).mono fun x w' h => ⟨h.1, hb.trans (h.2.mono hb.size)⟩
  have c9 : ∀ wx, Below w.heap.size w wx → Calls Tryd.prog 18 #[.string ⟨#[34, 97, 98]⟩, .int .i64 3, .int .i64 3] wx (fun x w' => x = .returned (.bool true) ∧ Below w.heap.size w w') := fun wx hb => (fails_true [34, 97, 98] 3 3 ex9 wx (tabs_below hT h2 hb) (Nat.le_trans h2 hb.size) (by decide)).mono fun x w' h => ⟨h.1, hb.trans (h.2.mono hb.size)⟩
  have c10 : ∀ wx, Below w.heap.size w wx → Calls Tryd.prog 14 #[.string ⟨#[34, 92, 117, 68, 56, 51, 68, 92, 117, 68, 69, 48, 48, 34]⟩, .string ⟨#[240, 159, 152, 128]⟩, .int .i64 14] wx (fun x w' => x = .returned (.bool true) ∧ Below w.heap.size w w') := fun wx hb => (reads_true [34, 92, 117, 68, 56, 51, 68, 92, 117, 68, 69, 48, 48, 34] [240, 159, 152, 128] 14 ex10 wx (tabs_below hT h2 hb) (Nat.le_trans h2 hb.size) (by decide)).mono fun x w' h => ⟨h.1, hb.trans (h.2.mono hb.size)⟩
  have c11 : ∀ wx, Below w.heap.size w wx → Calls Tryd.prog 18 #[.string ⟨#[]⟩, .int .i64 0, .int .i64 3] wx (fun x w' => x = .returned (.bool true) ∧ Below w.heap.size w w') := fun wx hb => (fails_true [] 0 3 ex11 wx (tabs_below hT h2 hb) (Nat.le_trans h2 hb.size) (by decide)).mono fun x w' h => ⟨h.1, hb.trans (h.2.mono hb.size)⟩
  have c12 : ∀ wx, Below w.heap.size w wx → Calls Tryd.prog 18 #[.string ⟨#[34, 97, 92, 120, 34]⟩, .int .i64 3, .int .i64 41] wx (fun x w' => x = .returned (.bool true) ∧ Below w.heap.size w w') := fun wx hb => (fails_true [34, 97, 92, 120, 34] 3 41 ex12 wx (tabs_below hT h2 hb) (Nat.le_trans h2 hb.size) (by decide)).mono fun x w' h => ⟨h.1, hb.trans (h.2.mono hb.size)⟩
  have c13 : ∀ wx, Below w.heap.size w wx → Calls Tryd.prog 18 #[.string ⟨#[34, 92, 117, 100, 101, 48, 48, 34]⟩, .int .i64 4, .int .i64 41] wx (fun x w' => x = .returned (.bool true) ∧ Below w.heap.size w w') := fun wx hb => (fails_true [34, 92, 117, 100, 101, 48, 48, 34] 4 41 ex13 wx (tabs_below hT h2 hb) (Nat.le_trans h2 hb.size) (by decide)).mono fun x w' h => ⟨h.1, hb.trans (h.2.mono hb.size)⟩
  have c14 : ∀ wx, Below w.heap.size w wx → Calls Tryd.prog 18 #[.string ⟨#[34, 92, 117, 100, 56, 51, 100, 120, 34]⟩, .int .i64 7, .int .i64 41] wx (fun x w' => x = .returned (.bool true) ∧ Below w.heap.size w w') := fun wx hb => (fails_true [34, 92, 117, 100, 56, 51, 100, 120, 34] 7 41 ex14 wx (tabs_below hT h2 hb) (Nat.le_trans h2 hb.size) (by decide)).mono fun x w' h => ⟨h.1, hb.trans (h.2.mono hb.size)⟩
  have c15 : ∀ wx, Below w.heap.size w wx → Calls Tryd.prog 18 #[.string ⟨#[34, 195, 34]⟩, .int .i64 2, .int .i64 40] wx (fun x w' => x = .returned (.bool true) ∧ Below w.heap.size w w') := fun wx hb => (fails_true [34, 195, 34] 2 40 ex15 wx (tabs_below hT h2 hb) (Nat.le_trans h2 hb.size) (by decide)).mono fun x w' h => ⟨h.1, hb.trans (h.2.mono hb.size)⟩
  have c16 : ∀ wx, Below w.heap.size w wx → Calls Tryd.prog 18 #[.string ⟨#[34, 195, 10]⟩, .int .i64 2, .int .i64 40] wx (fun x w' => x = .returned (.bool true) ∧ Below w.heap.size w w') := fun wx hb => (fails_true [34, 195, 10] 2 40 ex16 wx (tabs_below hT h2 hb) (Nat.le_trans h2 hb.size) (by decide)).mono fun x w' h => ⟨h.1, hb.trans (h.2.mono hb.size)⟩
  have c17 : ∀ wx, Below w.heap.size w wx → Calls Tryd.prog 18 #[.string ⟨#[34, 255]⟩, .int .i64 1, .int .i64 40] wx (fun x w' => x = .returned (.bool true) ∧ Below w.heap.size w w') := fun wx hb => (fails_true [34, 255] 1 40 ex17 wx (tabs_below hT h2 hb) (Nat.le_trans h2 hb.size) (by decide)).mono fun x w' h => ⟨h.1, hb.trans (h.2.mono hb.size)⟩
  have c18 : ∀ wx, Below w.heap.size w wx → Calls Tryd.prog 18 #[.string ⟨#[34, 10]⟩, .int .i64 1, .int .i64 41] wx (fun x w' => x = .returned (.bool true) ∧ Below w.heap.size w w') := fun wx hb => (fails_true [34, 10] 1 41 ex18 wx (tabs_below hT h2 hb) (Nat.le_trans h2 hb.size) (by decide)).mono fun x w' h => ⟨h.1, hb.trans (h.2.mono hb.size)⟩
  have c19 : ∀ wx, Below w.heap.size w wx → Calls Tryd.prog 18 #[.string ⟨#[97]⟩, .int .i64 0, .int .i64 41] wx (fun x w' => x = .returned (.bool true) ∧ Below w.heap.size w w') := fun wx hb => (fails_true [97] 0 41 ex19 wx (tabs_below hT h2 hb) (Nat.le_trans h2 hb.size) (by decide)).mono fun x w' h => ⟨h.1, hb.trans (h.2.mono hb.size)⟩
  have hg := Below.refl w.heap.size w
  clear hT h2
  go_enter Tryd.func16, Tryd.ntmps16
  go_wp2_with (first | (go_at_call 21; with_reducible refine (c1 _ hg).mono ?_; clear hg; rintro x1 wx ⟨rfl, hg⟩) | (go_at_call 21; with_reducible refine (c2 _ hg).mono ?_; clear hg; rintro x1 wx ⟨rfl, hg⟩) | (go_at_call 13; with_reducible refine (c3 _ hg).mono ?_; clear hg; rintro x1 wx ⟨rfl, hg⟩) | (go_at_call 13; with_reducible refine (c4 _ hg).mono ?_; clear hg; rintro x1 wx ⟨rfl, hg⟩) | (go_at_call 35; with_reducible refine (c5 _ hg).mono ?_; clear hg; rintro x1 wx ⟨rfl, hg⟩) | (go_at_call 35; with_reducible refine (c6 _ hg).mono ?_; clear hg; rintro x1 wx ⟨rfl, hg⟩) | (go_at_call 35; with_reducible refine (c7 _ hg).mono ?_; clear hg; rintro x1 wx ⟨rfl, hg⟩) | (go_at_call 14; with_reducible refine (c8 _ hg).mono ?_; clear hg; rintro x1 wx ⟨rfl, hg⟩) | (go_at_call 18; with_reducible refine (c9 _ hg).mono ?_; clear hg; rintro x1 wx ⟨rfl, hg⟩) | (go_at_call 14; with_reducible refine (c10 _ hg).mono ?_; clear hg; rintro x1 wx ⟨rfl, hg⟩) | (go_at_call 18; with_reducible refine (c11 _ hg).mono ?_; clear hg; rintro x1 wx ⟨rfl, hg⟩) | (go_at_call 18; with_reducible refine (c12 _ hg).mono ?_; clear hg; rintro x1 wx ⟨rfl, hg⟩) | (go_at_call 18; with_reducible refine (c13 _ hg).mono ?_; clear hg; rintro x1 wx ⟨rfl, hg⟩) | (go_at_call 18; with_reducible refine (c14 _ hg).mono ?_; clear hg; rintro x1 wx ⟨rfl, hg⟩) | (go_at_call 18; with_reducible refine (c15 _ hg).mono ?_; clear hg; rintro x1 wx ⟨rfl, hg⟩) | (go_at_call 18; with_reducible refine (c16 _ hg).mono ?_; clear hg; rintro x1 wx ⟨rfl, hg⟩) | (go_at_call 18; with_reducible refine (c17 _ hg).mono ?_; clear hg; rintro x1 wx ⟨rfl, hg⟩) | (go_at_call 18; with_reducible refine (c18 _ hg).mono ?_; clear hg; rintro x1 wx ⟨rfl, hg⟩) | (go_at_call 18; with_reducible refine (c19 _ hg).mono ?_; clear hg; rintro x1 wx ⟨rfl, hg⟩))
  go_ret
  exact ⟨rfl, hg⟩
end Go.Proofs.YtalegkgonbmaoaaDoor
