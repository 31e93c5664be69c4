import Derived.Test.YteoggaioleckhaaMany
set_option linter.unusedVariables false
set_option linter.unusedSimpArgs false
namespace Go.Proofs.Yteoggaioleckhaa
open Go.RowKit
theorem heap_setCells (b k : Nat) (hk : k ≠ b) : ∀ (vs : List Value) (o : Nat) (w : World), (w.setCells b o vs).heap[k]? = w.heap[k]?
  | [], _, _ => rfl
  | v :: r, o, w => by
    rw [World.setCells, heap_setCells b k hk r (o + 1) _]
    exact Below.heap_setCell w ⟨b, o, none⟩ v k hk
set_option maxRecDepth 100000 in
set_option maxHeartbeats 2000000 in
theorem treeNodes_walk (many : Int) (w : World) (hwf : (Lit.int .i64 many).wf = true) : Calls Try.prog 5 #[.int .i64 many] w fun e w' => e = .returned (.bool true) ∧ Below w.heap.size w w' := by
  obtain ⟨m, hm, hm5⟩ : ∃ m : Nat, many % 5001 = (m : Int) ∧ m ≤ 5000 := ⟨(many % 5001).toNat, by omega, by omega⟩
  have cB := bring_any many 5001 (by decide) (by decide)
  rw [hm] at cB
  obtain ⟨i0, hi, hz1, hz2, hz3⟩ : ∃ i0 : TypeInfo, Try.prog.info? 26 = some i0 ∧ i0.zero = some (.agg #[.int .i64 0, .int .i64 0, .int .u64 0, .string ⟨#[]⟩, .slice none 0 0, .slice none 0 0]) ∧ i0.size = 6 ∧ i0.bytes = 88 := by
      cases h : Try.prog.info? 26 with
      | none => have := info26f; rw [h] at this; cases this
      | some i0 =>
        have := info26f
        rw [h] at this
        simp only [Option.map_some, Option.some.injEq, Prod.mk.injEq] at this
        exact ⟨i0, rfl, this.1, this.2.1, this.2.2⟩
  have hmk : ∀ w : World, (Instr.makeSlice 24 (.int .i64 (m : Int)) (.int .i64 (m : Int))).run Try.prog w = .ok (.slice (some ⟨w.heap.size, 0, none⟩) m m) (w.alloc (.cells (madeCells #[.int .i64 0, .int .i64 0, .int .u64 0, .string ⟨#[]⟩, .slice none 0 0, .slice none 0 0] (m * 6)) 26)) := fun w => by
    have := run_make (P := Try.prog) w 24 26 i0 _ Try.underlying24 hi hz1 .i64 .i64 (m : Int) (m : Int) (by omega) (Int.le_refl _) (by rw [hz3]; omega) (by omega)
    rw [hz2, Int.toNat_natCast] at this
    exact this
  clear hi hz1 hz2 hz3
  obtain ⟨MC, hMC⟩ : ∃ MC, madeCells #[.int .i64 0, .int .i64 0, .int .u64 0, .string ⟨#[]⟩, .slice none 0 0, .slice none 0 0] (m * 6) = MC := ⟨_, rfl⟩
  have hMs : MC.size = m * 6 := by rw [← hMC]; exact size_madeCells _ _
  rw [hMC] at hmk
  replace hMs := Lib.hid hMs
  clear hMC hm
  go_enter Try.func5, Try.ntmps5
  go_wp2_with (first | (go_at_call 14; refine (cB _).mono ?_; rintro e w1 ⟨rfl, rfl⟩) | (go_at_call 16; refine (vec_any _ _ _ [] _).mono ?_; rintro e w1 ⟨rfl, hb⟩; unfold vecT; rw [val_mk]))
  rename_i W0 Q0 KK hKK
  have hsz : W0.heap.size + 1 ≤ w1.heap.size := by have := hb.size; simpa using this
  have hM := (Below.heap_alloc w1 (.cells #[.int .i64 10, .int .i64 0, .int .u64 0, .string ⟨#[]⟩, .slice none 0 0, .slice (some ⟨W0.heap.size, 0, none⟩) m m] 26) W0.heap.size (by omega)).trans ((hb.block W0.heap.size (by simp)).trans (heap_alloc_new W0 (.cells MC 26)))
  have hB := heap_alloc_new w1 (.cells #[.int .i64 10, .int .i64 0, .int .u64 0, .string ⟨#[]⟩, .slice none 0 0, .slice (some ⟨W0.heap.size, 0, none⟩) m m] 26)
  have hU : Up W0 (w1.alloc (.cells #[.int .i64 10, .int .i64 0, .int .u64 0, .string ⟨#[]⟩, .slice none 0 0, .slice (some ⟨W0.heap.size, 0, none⟩) m m] 26)) := Up.trans (Up.alloc _ _) (Up.trans hb (Up.alloc _ _))
  have hs2 : w1.heap.size < (w1.alloc (.cells #[.int .i64 10, .int .i64 0, .int .u64 0, .string ⟨#[]⟩, .slice none 0 0, .slice (some ⟨W0.heap.size, 0, none⟩) m m] 26)).heap.size := by simp
  have hth : (w1.alloc (.cells #[.int .i64 10, .int .i64 0, .int .u64 0, .string ⟨#[]⟩, .slice none 0 0, .slice (some ⟨W0.heap.size, 0, none⟩) m m] 26)).there W0.heap.size 0 (m * 6) := fun j hj => ⟨by rw [cell_of_row _ _ _ _ _ _ hM, Nat.zero_add, Array.getElem?_eq_getElem (by rw [hMs.out]; exact hj)]; rfl, frozen_of_row _ _ _ _ _ hM⟩
  obtain ⟨B4, hB4⟩ : ∃ B4, w1.heap.size = B4 := ⟨_, rfl⟩
  obtain ⟨M, hMM⟩ : ∃ M, W0.heap.size = M := ⟨_, rfl⟩
  obtain ⟨W1, hW1⟩ : ∃ W1, w1.alloc (.cells #[.int .i64 10, .int .i64 0, .int .u64 0, .string ⟨#[]⟩, .slice none 0 0, .slice (some ⟨W0.heap.size, 0, none⟩) m m] 26) = W1 := ⟨_, rfl⟩
  rw [hW1] at hB hU hs2 hth ⊢
  clear hW1
  unfold Up at hU
  rw [hMM] at hB hU hth hsz ⊢
  rw [hB4] at hB hs2 hsz ⊢
  have HW := Lib.hid (And.intro hth (And.intro hB (And.intro hU (And.intro hs2 hsz))))
  clear hth hB hU hs2 hsz hM hb hB4 hmk cB
  have hmz : (m : Int) ≤ 5000 := by omega
  go_loopw [5] (fun v wr => ∃ j : Nat, j ≤ m ∧ v = .int .i64 (j : Int) ∧ (∀ i, i < j → wr.rangeAt M (i * 6) (numT (i : Int)).cells) ∧ wr.there M 0 (m * 6) ∧ wr.heap[B4]? = some (.cells #[.int .i64 10, .int .i64 0, .int .u64 0, .string ⟨#[]⟩, .slice none 0 0, .slice (some ⟨M, 0, none⟩) m m] 26 (0, 0)) ∧ Below M W0 wr ∧ B4 < wr.heap.size) (fun v _ => m - (intOf v).toNat)
  case atStart => exact ⟨0, by omega, rfl, fun i hi => absurd hi (by omega), HW.out.1, HW.out.2.1, HW.out.2.2.1, HW.out.2.2.2.1⟩
  case round =>
    obtain ⟨j, hj, rfl, h1, h2, h3, h4, h5⟩ := hrel
    have HR := Lib.hid (And.intro h1 (And.intro h2 (And.intro h3 (And.intro h4 h5))))
    have HW' := HW
    by_cases hlt : j < m
    · obtain ⟨c0, c1, c2, c3, c4, c5⟩ := sixC (s := []) h3
      clear h1 h2 h3 h4 h5 c0 c1 c2 c3 c4
      go_upto_region 6 with fail
      have c5 : wr.cell? ⟨B4, 5, none⟩ = some (.slice (some ⟨M, 0, none⟩) m m) := by assumption
      haveI : Nonempty (InS fun w' : World => w'.cell? ⟨B4, 5, none⟩ = some (.slice (some ⟨M, 0, none⟩) m m)) := ⟨⟨wr, c5⟩⟩
      have GS : ∀ q : InS fun w' : World => w'.cell? ⟨B4, 5, none⟩ = some (.slice (some ⟨M, 0, none⟩) m m), q.it.cell? ⟨B4, 5, none⟩ = some (.slice (some ⟨M, 0, none⟩) m m) := fun q => q.ok
      refine wp_region_held_seq (fun w' : World => w'.cell? ⟨B4, 5, none⟩ = some (.slice (some ⟨M, 0, none⟩) m m)) [(0, false), (1, false), (2, false), (3, false), (4, true), (5, false), (6, true)] (fun i => i == 4 || i == 6) (by kernel_rfl) (by kernel_rfl) (by kernel_rfl) rfl c5 ?_
      repeat (refine held_read rfl rfl ?_; simp only [List.getElem_toArray, List.getElem_cons_zero, List.getElem_cons_succ]; go_big_quiet_step (fail); refine wpQuiet_nil ?_; show wpHeld _ _ _ _ _ _ _)
      refine held_call 17 #[.int .i64 (j : Int)] rfl (by kernel_rfl) (by kernel_rfl) (D := fun v w5 => v = .agg (numT (j : Int)).cells.toArray ∧ Below wr.drew.heap.size wr.drew w5) ((num_any _ _).mono fun e w5 ⟨he, hb⟩ => ⟨_, he, ⟨rfl, hb⟩, (hb.cell (p := ⟨B4, 5, none⟩) HR.out.2.2.2.2).trans c5⟩) ?_
      rintro v5 w5 ⟨rfl, hb5⟩ hs5
      simp only [List.getElem_toArray, List.getElem_cons_zero, List.getElem_cons_succ, Act.put, List.setIfInBounds_toArray, List.set_cons_succ, List.set_cons_zero]
      refine held_read rfl rfl ?_
      simp only [List.getElem_toArray, List.getElem_cons_zero, List.getElem_cons_succ]
      go_big_quiet_step (fail)
      refine wpQuiet_nil ?_
      show wpHeld _ _ _ _ _ _ _
      have hBM : M < wr.heap.size := by have := HR.out.2.2.2.1.size; have := HW'.out.2.2.2.2; have := HR.out.2.2.2.2; omega
      have hb5' : Below wr.heap.size wr w5 := Below.trans (below_drew_ wr) (hb5.mono (Nat.le_refl _))
      have hth5 : w5.there M 0 (m * 6) := fun k hk => by
        obtain ⟨g1, g2⟩ := HR.out.2.1 k hk
        have hc := hb5'.cell (p := ⟨M, 0 + k, none⟩) hBM
        exact ⟨by rw [hc]; exact g1, by rw [World.frozen?, hb5'.block M hBM]; exact g2⟩
      have hthj : w5.there M (j * 6) 6 := fun k hk => by
        have := hth5 (j * 6 + k) (by omega)
        rwa [Nat.zero_add] at this
      have hs6 : (w5.setCells M (j * 6) (numT (j : Int)).cells).cell? ⟨B4, 5, none⟩ = some (.slice (some ⟨M, 0, none⟩) m m) := by
        rw [World.cell?_setCells_out M _ _ w5 ⟨B4, 5, none⟩ (fun e => by exfalso; have e : B4 = M := e; have := HW'.out.2.2.2.2; omega)]
        exact hs5
      refine held_store 26 (.tmp 22) (.tmp 21) rfl rfl rfl M (j * 6) (numT (j : Int)).cells.toArray rfl rfl hthj (by rw [List.size_toArray, cells_len]; exact info26) (by first | kernel_rfl | simp [numT, NT.cells, Value.oneCell']) hs6 ?_
      simp only [List.getElem_toArray, List.getElem_cons_zero, List.getElem_cons_succ, Act.put]
      refine held_nilEnd ?_
      intro _
      have hs5' : w5.heap.size ≤ (w5.setCells M (j * 6) (numT (j : Int)).cells).heap.size := (below_setCells M (Nat.le_refl M) _ _ _ (Below.refl M w5)).size
      have HN := Lib.hid (And.intro (show ∀ i, i < j + 1 → (w5.setCells M (j * 6) (numT (j : Int)).cells).rangeAt M (i * 6) (numT (i : Int)).cells from fun i hi => by
        by_cases hij : i = j
        · subst hij; exact World.rangeAt_setCells_same w5 M (i * 6) _ (by rw [cells_len]; exact hthj)
        · refine World.rangeAt_setCells_apart (fun k v hv => ?_) M (j * 6) _ (Or.inr (Or.inl (by rw [cells_len]; omega)))
          rw [hb5'.cell (p := ⟨M, i * 6 + k, none⟩) hBM]
          exact HR.out.1 i (by omega) k v hv) (And.intro (World.there_setCells hth5 M (j * 6) (numT (j : Int)).cells) (And.intro ((heap_setCells M B4 (by have := HW'.out.2.2.2.2; omega) (numT (j : Int)).cells (j * 6) w5).trans ((hb5'.block B4 HR.out.2.2.2.2).trans HR.out.2.2.1)) (And.intro (below_setCells M (Nat.le_refl M) (numT (j : Int)).cells (j * 6) w5 (HR.out.2.2.2.1.trans (hb5'.mono (Nat.le_of_lt hBM)))) (show B4 < (w5.setCells M (j * 6) (numT (j : Int)).cells).heap.size by have := HR.out.2.2.2.2; have := hb5'.size; omega)))))
      obtain ⟨W6, hW6⟩ : ∃ W6, w5.setCells M (j * 6) (numT (j : Int)).cells = W6 := ⟨_, rfl⟩
      show Exit.inBlock 1 _ _ _ (w5.setCells M (j * 6) (numT (j : Int)).cells)
      rw [hW6] at HN ⊢
      clear hs6 hth5 hthj hb5' hb5 hs5 hs5' hW6 GS c5
      go_wp2
      go_roundw
      case rel => exact ⟨j + 1, by omega, by simp, HN.out⟩
      case measure => simp [intOf]; omega
    · obtain rfl : j = m := by omega
      obtain ⟨c0, c1, c2, c3, c4, c5⟩ := sixC (s := []) h3
      have hBM : M < wr.heap.size := by have := HR.out.2.2.2.1.size; have := HW'.out.2.2.2.2; have := HR.out.2.2.2.2; omega
      have hTr := nums_trees j hBM h1 hm5
      have hT := is_vec (c := j) hTr.row (by rw [nums_len]; omega) hTr.is
      rw [nums_len] at hT
      have hTk : KSm (vecT (.slice (some ⟨M, 0, none⟩) j j) (nums j)) := ksm_vec (by rw [nums_len]; omega) hTr.small
      have hTp : (vecT (.slice (some ⟨M, 0, none⟩) j j) (nums j)).pt = manyP j := by unfold vecT manyP; rw [NT.pt, nums_pt]
      have HT := Lib.hid (And.intro hT (And.intro hTk hTp))
      have hTv : (vecT (.slice (some ⟨M, 0, none⟩) j j) (nums j)).val = .agg #[.int .i64 10, .int .i64 0, .int .u64 0, .string ⟨#[]⟩, .slice none 0 0, .slice (some ⟨M, 0, none⟩) j j] := rfl
      have hlen : (preP 0 (manyP j)).length ≤ 1000000 := by rw [many_len]; omega
      clear h1 h2 h3 h4 h5 hTr hBM
      by_cases h4 : 4096 ≤ j
      · have hck : checkP (manyP j) = 5 := by rw [many_check, if_pos h4]
        have hc9 := check_any (manyP j) _ wr hTp hT hTk hlen
        rw [hck, hTv] at hc9
        clear hT hTk hTp
        go_wp2_with (first
          | (go_at_call 9; refine hc9.mono ?_; clear hc9; rintro e w5 ⟨rfl, hu5⟩; have hx5 := (hu5.block B4 HR.out.2.2.2.2).trans HR.out.2.2.1; obtain ⟨g0, g1, g2, g3, g4, g5⟩ := sixC (s := []) hx5; have hc18 := size_any _ w5 (HT.out.1.below hu5) HT.out.2.1 (by rw [preT_len, HT.out.2.2]; exact hlen); rw [preT_len, HT.out.2.2, many_len, hTv] at hc18; have HU5 := Lib.hid hu5; clear hu5 hx5)
          | (go_at_call 18; refine hc18.mono ?_; clear hc18; rintro e w6 ⟨rfl, hu6⟩; have HU6 := Lib.hid hu6; clear hu6)
          | (go_at_call 12; refine (works_any _).mono ?_; rintro e w7 ⟨rfl, hu7⟩; have HU7 := Lib.hid hu7; clear hu7))
        go_ret
        exact ⟨rfl, by rw [hMM]; exact HR.out.2.2.2.1.trans ((Up.trans HU5.out (Up.trans HU6.out HU7.out)).mono (by have := HR.out.2.2.2.1.size; omega))⟩
      · have hck : checkP (manyP j) = 0 := by rw [many_check, if_neg h4]
        have hc9 := check_any (manyP j) _ wr hTp hT hTk hlen
        rw [hck, hTv] at hc9
        clear hT hTk hTp
        go_wp2_with (first
          | (go_at_call 9; refine hc9.mono ?_; clear hc9; rintro e w5 ⟨rfl, hu5⟩; have hx5 := (hu5.block B4 HR.out.2.2.2.2).trans HR.out.2.2.1; obtain ⟨g0, g1, g2, g3, g4, g5⟩ := sixC (s := []) hx5; have hc18 := size_any _ w5 (HT.out.1.below hu5) HT.out.2.1 (by rw [preT_len, HT.out.2.2]; exact hlen); rw [preT_len, HT.out.2.2, many_len, hTv] at hc18; have HU5 := Lib.hid hu5; clear hu5 hx5)
          | (go_at_call 18; refine hc18.mono ?_; clear hc18; rintro e w6 ⟨rfl, hu6⟩; have HU6 := Lib.hid hu6; clear hu6)
          | (go_at_call 12; refine (works_any _).mono ?_; rintro e w7 ⟨rfl, hu7⟩; have HU7 := Lib.hid hu7; clear hu7))
        go_ret
        exact ⟨rfl, by rw [hMM]; exact HR.out.2.2.2.1.trans ((Up.trans HU5.out (Up.trans HU6.out HU7.out)).mono (by have := HR.out.2.2.2.1.size; omega))⟩
end Go.Proofs.Yteoggaioleckhaa
