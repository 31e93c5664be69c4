import Derived.Test.YteoggaioleckhaaCut
/- The reference's Cut and the statements' few. -/
set_option linter.unusedVariables false
set_option linter.unusedSimpArgs false
namespace Go.Proofs.Yteoggaioleckhaa
open Go.RowKit
theorem Fr.grown {B : Nat} {w w' : World} {t : NT} {r : Nat} (h : Fr B w t) (hg : w.grownBy w' (some r)) (hr : r < B) : Fr B w' t := h.kept hg (fun g e => by injection e with e; subst e; exact Fr.off hr h)
theorem Is.grown' {B : Nat} {w w' : World} {t : NT} {r : Nat} (h : Is w t) (hf : Fr B w t) (hg : w.grownBy w' (some r)) (hr : r < B) : Is w' t := h.grown hg (fun g e => by injection e with e; subst e; exact Fr.off hr hf)
set_option maxRecDepth 100000 in
set_option maxHeartbeats 4000000 in
theorem cutAll_any (t : NT) (w : World) (hI : Inn w t) : Calls Try.prog 23 #[t.val, .int .i64 120, .int .i64 60] w fun e w' => (∃ t', e = .returned t'.val ∧ t'.pt = fewP t.pt ∧ Is w' t' ∧ KSm t' ∧ Fr w.heap.size w' t') ∧ Below w.heap.size w w' := by
  have hc := fun (w' : World) (R : Nat) hB hR hr => cut_any w t w' 119 R hI hB hR hr (by decide)
  have hI0 := hI
  obtain ⟨k, n, u, s, kv, keys, lv, kids⟩ := t
  rw [Inn] at hI0
  obtain ⟨_, ⟨A, c, rfl, _⟩, ⟨B, d, rfl, _⟩, _⟩ := hI0
  rw [val_mk] at hc ⊢
  have HC := Lib.hid hc
  clear hc hI
  have hs0 : (((w.alloc (.cells #[.int .i64 k, .int .i64 n, .int .u64 u, .string ⟨s.toArray⟩, .slice A keys.length c, .slice B kids.length d] 26)).alloc (.cells #[.int .i64 0, .int .i64 0, .int .u64 0, .string ⟨#[]⟩, .slice none 0 0, .slice none 0 0] 26)).alloc (.cells #[.int .i64 119, .int .i64 60] 58)).heap.size = w.heap.size + 3 := by simp
  have hb0 : Below w.heap.size w (((w.alloc (.cells #[.int .i64 k, .int .i64 n, .int .u64 u, .string ⟨s.toArray⟩, .slice A keys.length c, .slice B kids.length d] 26)).alloc (.cells #[.int .i64 0, .int .i64 0, .int .u64 0, .string ⟨#[]⟩, .slice none 0 0, .slice none 0 0] 26)).alloc (.cells #[.int .i64 119, .int .i64 60] 58)) := (((Below.refl _ w).alloc (Nat.le_refl _) _).alloc (by simp) _).alloc (by simp; omega) _
  have hx1 := heap_alloc_new (w.alloc (.cells #[.int .i64 k, .int .i64 n, .int .u64 u, .string ⟨s.toArray⟩, .slice A keys.length c, .slice B kids.length d] 26)) (.cells #[.int .i64 0, .int .i64 0, .int .u64 0, .string ⟨#[]⟩, .slice none 0 0, .slice none 0 0] 26)
  rw [World.size_alloc] at hx1
  have hx2 := heap_alloc_new ((w.alloc (.cells #[.int .i64 k, .int .i64 n, .int .u64 u, .string ⟨s.toArray⟩, .slice A keys.length c, .slice B kids.length d] 26)).alloc (.cells #[.int .i64 0, .int .i64 0, .int .u64 0, .string ⟨#[]⟩, .slice none 0 0, .slice none 0 0] 26)) (.cells #[.int .i64 119, .int .i64 60] 58)
  rw [World.size_alloc, World.size_alloc] at hx2
  replace hx1 := (Below.heap_alloc ((w.alloc (.cells #[.int .i64 k, .int .i64 n, .int .u64 u, .string ⟨s.toArray⟩, .slice A keys.length c, .slice B kids.length d] 26)).alloc (.cells #[.int .i64 0, .int .i64 0, .int .u64 0, .string ⟨#[]⟩, .slice none 0 0, .slice none 0 0] 26)) (.cells #[.int .i64 119, .int .i64 60] 58) (w.heap.size + 1) (by simp)).trans hx1
  have HX := Lib.hid (And.intro hs0 (And.intro hb0 (And.intro hx1 hx2)))
  clear hs0 hb0 hx1 hx2
  go_enter Try.func23, Try.ntmps23
  go_wp2_with (go_at_call 34; refine (HC.out _ _ HX.out.2.1 (by omega) HX.out.2.2.2).mono ?_; rintro e w3 ⟨⟨t', rfl, ht'1, ht'2, ht'4, ht'3⟩, hr3, hg3⟩; obtain ⟨k3, n3, u3, s3, kv3, ks3, lv3, l3⟩ := t'; have hI3 := ht'2; rw [Is] at hI3; obtain ⟨_, ⟨A3, cc3, rfl, _⟩, ⟨B3, d3, rfl, _⟩, _⟩ := hI3; rw [val_mk]; have hy2 : w3.heap[w.heap.size + 1]? = some (.cells #[.int .i64 0, .int .i64 0, .int .u64 0, .string ⟨#[]⟩, .slice none 0 0, .slice none 0 0] 26 (0, 0)) := (hg3.block _ (by rw [HX.out.1]; omega) (fun e => by injection e with e; omega)).trans HX.out.2.2.1; have HT := Lib.hid (And.intro ht'1 (And.intro ht'2 (And.intro ht'3 (And.intro ht'4 (And.intro hg3 hy2))))); have g0 := frozen_of_row w3 (w.heap.size + 1) 0 _ _ hy2; have g1 := frozen_of_row w3 (w.heap.size + 1) 1 _ _ hy2; have g2 := frozen_of_row w3 (w.heap.size + 1) 2 _ _ hy2; have g3 := frozen_of_row w3 (w.heap.size + 1) 3 _ _ hy2; have g4 := frozen_of_row w3 (w.heap.size + 1) 4 _ _ hy2; have g5 := frozen_of_row w3 (w.heap.size + 1) 5 _ _ hy2; obtain ⟨b0, b1, b2, b3, b4, b5⟩ := sixC (s := []) hy2; clear ht'1 ht'2 ht'3 ht'4 hg3 hr3 hy2)
  obtain ⟨q1, q2, q3, q4, q5, q6⟩ := HT.out
  obtain ⟨hs0, hb0, hx1, hx2⟩ := HX.out
  obtain ⟨hz6, hg6⟩ := six_set q6 (.int .i64 k3) (.int .i64 n3) (.int .u64 u3) (.string ⟨s3.toArray⟩) (.slice A3 ks3.length cc3) (.slice B3 l3.length d3)
  obtain ⟨W6, hW6⟩ : ∃ W6, (((((w3.setCell ⟨w.heap.size + 1, 0, none⟩ (.int .i64 k3)).setCell ⟨w.heap.size + 1, 1, none⟩ (.int .i64 n3)).setCell ⟨w.heap.size + 1, 2, none⟩ (.int .u64 u3)).setCell ⟨w.heap.size + 1, 3, none⟩ (.string ⟨s3.toArray⟩)).setCell ⟨w.heap.size + 1, 4, none⟩ (.slice A3 ks3.length cc3)).setCell ⟨w.heap.size + 1, 5, none⟩ (.slice B3 l3.length d3) = W6 := ⟨_, rfl⟩
  rw [hW6] at hz6 hg6 ⊢
  clear hW6
  (try simp only [Exit.inBlock, Exit.then])
  refine bodyPost_ret (results_cell_row rfl _ _ (w.heap.size + 1) 26 _ (0, 0) _ rfl hz6 Try.underlying26 rfl info26) rfl ?_
  refine ⟨⟨_, rfl, q1, q2.grown' q3 hg6 (by rw [hs0]; omega), q4, (q3.grown hg6 (by rw [hs0]; omega)).mono (by rw [hs0]; omega)⟩, ?_⟩
  have h1 := hb0.grown q5 hb0.size (fun i e => by injection e with e; omega)
  exact h1.grown hg6 h1.size (fun i e => by injection e with e; omega)
set_option maxRecDepth 100000 in
set_option maxHeartbeats 4000000 in
theorem few_any (t : NT) (w : World) (hI : Inn w t) : Calls Try.prog 8 #[t.val] w fun e w' => (∃ t', e = .returned t'.val ∧ t'.pt = fewP t.pt ∧ Is w' t' ∧ KSm t' ∧ Fr w.heap.size w' t') ∧ Below w.heap.size w w' := by
  have hI0 := hI
  have hc := fun (w' : World) (hb : Below w.heap.size w w') => cutAll_any t w' (hI.below hb)
  obtain ⟨k, n, u, s, kv, keys, lv, kids⟩ := t
  rw [Inn] at hI0
  obtain ⟨_, ⟨A, c, rfl, _⟩, ⟨B, d, rfl, _⟩, _⟩ := hI0
  rw [val_mk] at hc ⊢
  have HC := Lib.hid hc
  clear hc hI
  have hs0 : ((w.alloc (.cells #[.int .i64 k, .int .i64 n, .int .u64 u, .string ⟨s.toArray⟩, .slice A keys.length c, .slice B kids.length d] 26)).alloc (.cells #[.int .i64 0, .int .i64 0, .int .u64 0, .string ⟨#[]⟩, .slice none 0 0, .slice none 0 0] 26)).heap.size = w.heap.size + 2 := by simp
  have hb0 : Below w.heap.size w ((w.alloc (.cells #[.int .i64 k, .int .i64 n, .int .u64 u, .string ⟨s.toArray⟩, .slice A keys.length c, .slice B kids.length d] 26)).alloc (.cells #[.int .i64 0, .int .i64 0, .int .u64 0, .string ⟨#[]⟩, .slice none 0 0, .slice none 0 0] 26)) := ((Below.refl _ w).alloc (Nat.le_refl _) _).alloc (by simp) _
  have hx1 := heap_alloc_new (w.alloc (.cells #[.int .i64 k, .int .i64 n, .int .u64 u, .string ⟨s.toArray⟩, .slice A keys.length c, .slice B kids.length d] 26)) (.cells #[.int .i64 0, .int .i64 0, .int .u64 0, .string ⟨#[]⟩, .slice none 0 0, .slice none 0 0] 26)
  rw [World.size_alloc] at hx1
  have HX := Lib.hid (And.intro hs0 (And.intro hb0 hx1))
  clear hs0 hb0 hx1
  go_enter Try.func8, Try.ntmps8
  go_wp2_with (go_at_call 23; refine (HC.out _ HX.out.2.1).mono ?_; rintro e w3 ⟨⟨t', rfl, ht'1, ht'2, ht'4, ht'3⟩, hg3⟩; obtain ⟨k3, n3, u3, s3, kv3, ks3, lv3, l3⟩ := t'; have hI3 := ht'2; rw [Is] at hI3; obtain ⟨_, ⟨A3, cc3, rfl, _⟩, ⟨B3, d3, rfl, _⟩, _⟩ := hI3; rw [val_mk]; have hy2 : w3.heap[w.heap.size + 1]? = some (.cells #[.int .i64 0, .int .i64 0, .int .u64 0, .string ⟨#[]⟩, .slice none 0 0, .slice none 0 0] 26 (0, 0)) := (hg3.block _ (by rw [HX.out.1]; omega)).trans HX.out.2.2; have HT := Lib.hid (And.intro ht'1 (And.intro ht'2 (And.intro ht'3 (And.intro ht'4 (And.intro hg3 hy2))))); have g0 := frozen_of_row w3 (w.heap.size + 1) 0 _ _ hy2; have g1 := frozen_of_row w3 (w.heap.size + 1) 1 _ _ hy2; have g2 := frozen_of_row w3 (w.heap.size + 1) 2 _ _ hy2; have g3 := frozen_of_row w3 (w.heap.size + 1) 3 _ _ hy2; have g4 := frozen_of_row w3 (w.heap.size + 1) 4 _ _ hy2; have g5 := frozen_of_row w3 (w.heap.size + 1) 5 _ _ hy2; obtain ⟨b0, b1, b2, b3, b4, b5⟩ := sixC (s := []) hy2; clear ht'1 ht'2 ht'3 ht'4 hg3 hy2)
  obtain ⟨q1, q2, q3, q4, q5, q6⟩ := HT.out
  obtain ⟨hs0, hb0, hx1⟩ := HX.out
  obtain ⟨hz6, hg6⟩ := six_set q6 (.int .i64 k3) (.int .i64 n3) (.int .u64 u3) (.string ⟨s3.toArray⟩) (.slice A3 ks3.length cc3) (.slice B3 l3.length d3)
  obtain ⟨W6, hW6⟩ : ∃ W6, (((((w3.setCell ⟨w.heap.size + 1, 0, none⟩ (.int .i64 k3)).setCell ⟨w.heap.size + 1, 1, none⟩ (.int .i64 n3)).setCell ⟨w.heap.size + 1, 2, none⟩ (.int .u64 u3)).setCell ⟨w.heap.size + 1, 3, none⟩ (.string ⟨s3.toArray⟩)).setCell ⟨w.heap.size + 1, 4, none⟩ (.slice A3 ks3.length cc3)).setCell ⟨w.heap.size + 1, 5, none⟩ (.slice B3 l3.length d3) = W6 := ⟨_, rfl⟩
  rw [hW6] at hz6 hg6 ⊢
  clear hW6
  (try simp only [Exit.inBlock, Exit.then])
  refine bodyPost_ret (results_cell_row rfl _ _ (w.heap.size + 1) 26 _ (0, 0) _ rfl hz6 Try.underlying26 rfl info26) rfl ?_
  refine ⟨⟨_, rfl, q1, q2.grown' q3 hg6 (by rw [hs0]; omega), q4, (q3.grown hg6 (by rw [hs0]; omega)).mono (by rw [hs0]; omega)⟩, ?_⟩
  have h1 := hb0.trans (q5.mono hb0.size)
  exact h1.grown hg6 h1.size (fun i e => by injection e with e; omega)
end Go.Proofs.Yteoggaioleckhaa
