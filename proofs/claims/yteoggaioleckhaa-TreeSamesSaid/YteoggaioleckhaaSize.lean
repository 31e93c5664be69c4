import Derived.Test.YteoggaioleckhaaWalk
/- tree.Size, tree.Deep. -/
set_option linter.unusedVariables false
set_option linter.unusedSimpArgs false
namespace Go.Proofs.Yteoggaioleckhaa
open Go.RowKit Go.Shelf
attribute [local go_sem] Oper.semAt_some
set_option maxRecDepth 100000 in
set_option maxHeartbeats 2000000 in
theorem size_any (t : NT) (w : World) (ht : Is w t) (hk : KSm t) (hlen : (preT 0 t).length ≤ 1000000) :
    Calls Try.prog 18 #[t.val] w fun e w' => e = .returned (.int .i64 ((preT 0 t).length : Int)) ∧ Below w.heap.size w w' := by
  obtain ⟨k, nn, u, s, kv, keys, lv, kids⟩ := t
  obtain ⟨T, hT⟩ : ∃ T, NT.mk k nn u s kv keys lv kids = T := ⟨_, rfl⟩
  have hI := ht
  rw [Is] at hI
  obtain ⟨_, ⟨A, c, rfl, _⟩, ⟨B, d, rfl, _⟩, _⟩ := hI
  rw [val_mk]
  have hv : T.cells.toArray = #[.int .i64 k, .int .i64 nn, .int .u64 u, .string ⟨s.toArray⟩, .slice A keys.length c, .slice B kids.length d] := by rw [← hT]; rfl
  rw [hT] at ht hk hlen ⊢
  refine (callsIn_wide (n := 3)).1 ?_
  refine callsIn_of_wp_marks Try.func18 rfl trivial ?_ rfl
  simp only [Try.ntmps18, List.size_toArray, List.length_cons, List.length_nil, Nat.reduceAdd, Nat.reduceSub, Array.replicate_succ, Array.replicate_zero, List.push_toArray, List.append_toArray, List.nil_append, List.cons_append]
  gi_wp2_with ((try refine ⟨trivial, ?_⟩); gi_at_call 24; refine (walked_in Fence.wide _ trivial rfl _ _ _ _ _ _ _).mono ?_; rintro e w' ⟨rfl, rfl⟩)
  have bS := (Boxed.new (w.alloc (.cells #[.int .i64 k, .int .i64 nn, .int .u64 u, .string ⟨s.toArray⟩, .slice A keys.length c, .slice B kids.length d] 26)) 3 (.int .i64 0)).alloc (.cells #[.int .i64 k, .int .i64 nn, .int .u64 u, .string ⟨s.toArray⟩, .slice A keys.length c, .slice B kids.length d] 26)
  have hbx := heap_alloc_new ((w.alloc (.cells #[.int .i64 k, .int .i64 nn, .int .u64 u, .string ⟨s.toArray⟩, .slice A keys.length c, .slice B kids.length d] 26)).alloc (.cells #[.int .i64 0] 3)) (.cells #[.int .i64 k, .int .i64 nn, .int .u64 u, .string ⟨s.toArray⟩, .slice A keys.length c, .slice B kids.length d] 26)
  simp only [World.size_alloc] at bS hbx
  have hB0 : Below w.heap.size w (((w.alloc (.cells #[.int .i64 k, .int .i64 nn, .int .u64 u, .string ⟨s.toArray⟩, .slice A keys.length c, .slice B kids.length d] 26)).alloc (.cells #[.int .i64 0] 3)).alloc (.cells #[.int .i64 k, .int .i64 nn, .int .u64 u, .string ⟨s.toArray⟩, .slice A keys.length c, .slice B kids.length d] 26)) := (((Below.refl _ w).alloc (Nat.le_refl _) _).alloc (by simp) _).alloc (by simp; omega) _
  have hsz : (((w.alloc (.cells #[.int .i64 k, .int .i64 nn, .int .u64 u, .string ⟨s.toArray⟩, .slice A keys.length c, .slice B kids.length d] 26)).alloc (.cells #[.int .i64 0] 3)).alloc (.cells #[.int .i64 k, .int .i64 nn, .int .u64 u, .string ⟨s.toArray⟩, .slice A keys.length c, .slice B kids.length d] 26)).heap.size = w.heap.size + 3 := by simp
  obtain ⟨W0, hW0⟩ : ∃ W0, ((w.alloc (.cells #[.int .i64 k, .int .i64 nn, .int .u64 u, .string ⟨s.toArray⟩, .slice A keys.length c, .slice B kids.length d] 26)).alloc (.cells #[.int .i64 0] 3)).alloc (.cells #[.int .i64 k, .int .i64 nn, .int .u64 u, .string ⟨s.toArray⟩, .slice A keys.length c, .slice B kids.length d] 26) = W0 := ⟨_, rfl⟩
  rw [hW0] at bS hbx hB0 hsz ⊢
  clear hW0
  rw [← hv] at hbx
  refine wpIn_rangeFunc_ownF rfl (by omega) (gf := 35) (lb := #[.pointer (some ⟨w.heap.size + 1 + 1, 0, none⟩)]) rfl trivial (enters_of Try.func35 (by kernel_rfl) rfl)
    (walked_stops Fence.wide rfl 2 trivial trivial rfl w W0.heap.size (w.heap.size + 1 + 1) T W0 ht hk hlen (by omega) (by omega) hB0 (Nat.le_refl _) hbx) kp_t (kp_b (by omega)) (Below.refl _ _) (fun _ => rfl)
    (fun pre W => Boxed W (w.heap.size + 1) 3 (.int .i64 (pre.length : Int)) ∧ Below w.heap.size w W)
    (fun _ _ _ => False)
    (OwnFrom.and (Own.from (boxed_own _ _ _) _) (ownFrom_below (Nat.le_refl _) (by omega)))
    (fun _ _ _ _ _ hs _ _ => hs)
    ⟨bS, hB0⟩
    (fun x => { tmps := #[.agg #[.int .i64 k, .int .i64 nn, .int .u64 u, .string ⟨s.toArray⟩, .slice A keys.length c, .slice B kids.length d], .pointer (some ⟨w.heap.size, 0, none⟩), .pointer (some ⟨w.heap.size + 1, 0, none⟩), .agg #[.int .i64 k, .int .i64 nn, .int .u64 u, .string ⟨s.toArray⟩, .slice A keys.length c, .slice B kids.length d], .func (.func 35) #[] #[.pointer (some ⟨w.heap.size + 1 + 1, 0, none⟩)], .int .i64 (x.1.1 : Int), x.1.2.val, undef, undef, undef], defers := [] }) ?assign ?body ?done ?stop
  case assign =>
    intro l x W K hK
    have e : (#[5, 6].zip (encL x)) = #[((5 : Nat), Value.int .i64 (x.1.1 : Int)), (6, x.1.2.val)] := by apply Array.ext'; simp [encL]
    rw [e]
    gi_wp2
    exact hK
  case body =>
    rintro l pre x W ⟨bS1, hB1⟩ hlt
    have cS := bS1.cell
    have fS := bS1.frozen
    have hle : (pre.length : Int) ≤ 1000000 := by omega
    have hl0 : (0 : Int) ≤ (pre.length : Int) := by omega
    gi_wp2
    exact ⟨KeepsOthers.setCell _ _ _, Kp.setCell W (w.heap.size + 1) 0 _ (by omega) (by omega), by
      have := bS1.set (.int .i64 ((pre.length : Int) + 1))
      simpa using this, hB1.setCell (p := ⟨w.heap.size + 1, 0, none⟩) (by simp) _⟩
  case done =>
    rintro D ys W hD hS ⟨bS1, hB1⟩ hK
    have hyl : ys.length = (preT 0 T).length := by rw [← hS]; simp [valsL]
    have cS := bS1.cell
    have fS := bS1.frozen
    gi_wp2
    have hK' := (KeepsOthers.setCell W ⟨w.heap.size + 1, 0, none⟩ (.int .i64 ((preT 0 T).length : Int))).same D _ hK rfl
    refine ⟨by simp, .inl ⟨_, _, rfl, run_takeDeferred hK', ?_⟩⟩
    have hc5 := cell_kept (bS1.set (.int .i64 ((preT 0 T).length : Int))).cell (grownBy_putObj' _ D (.deferred none)) (fun r e => by cases e; exact ⟨_, hK', rfl⟩)
    refine ⟨.int .i64 ((preT 0 T).length : Int), ?_, rfl, (hB1.setCell (p := ⟨w.heap.size + 1, 0, none⟩) (by simp) _).trans (belowK_b (w := w) (Nat.le_refl _) _ D _ _ (by omega) hK' rfl rfl)⟩
    simp [results, Try.f18, go_sem, hc5]
  case stop =>
    rintro D c pre W _ _ h _
    exact h.elim
def deepL (l : List (Nat × NT)) : Nat := l.foldl (fun m x => max m (x.1 + 1)) 0
theorem deepL_append (l : List (Nat × NT)) {w : World} {N : Nat} (x : Lv w N) : deepL (l ++ valsL [x]) = max (deepL l) (x.1.1 + 1) := by
  unfold deepL valsL
  rw [List.foldl_append]; rfl
set_option maxRecDepth 100000 in
set_option maxHeartbeats 2000000 in
theorem deep_any (t : NT) (w : World) (ht : Is w t) (hk : KSm t) (hlen : (preT 0 t).length ≤ 1000000) :
    Calls Try.prog 15 #[t.val] w fun e w' => e = .returned (.int .i64 (deepL (preT 0 t) : Int)) ∧ Below w.heap.size w w' := by
  obtain ⟨k, nn, u, s, kv, keys, lv, kids⟩ := t
  obtain ⟨T, hT⟩ : ∃ T, NT.mk k nn u s kv keys lv kids = T := ⟨_, rfl⟩
  have hI := ht
  rw [Is] at hI
  obtain ⟨_, ⟨A, c, rfl, _⟩, ⟨B, d, rfl, _⟩, _⟩ := hI
  rw [val_mk]
  have hv : T.cells.toArray = #[.int .i64 k, .int .i64 nn, .int .u64 u, .string ⟨s.toArray⟩, .slice A keys.length c, .slice B kids.length d] := by rw [← hT]; rfl
  rw [hT] at ht hk hlen ⊢
  refine (callsIn_wide (n := 3)).1 ?_
  refine callsIn_of_wp_marks Try.func15 rfl trivial ?_ rfl
  simp only [Try.ntmps15, List.size_toArray, List.length_cons, List.length_nil, Nat.reduceAdd, Nat.reduceSub, Array.replicate_succ, Array.replicate_zero, List.push_toArray, List.append_toArray, List.nil_append, List.cons_append]
  gi_wp2_with ((try refine ⟨trivial, ?_⟩); gi_at_call 24; refine (walked_in Fence.wide _ trivial rfl _ _ _ _ _ _ _).mono ?_; rintro e w' ⟨rfl, rfl⟩)
  have bS := (Boxed.new (w.alloc (.cells #[.int .i64 k, .int .i64 nn, .int .u64 u, .string ⟨s.toArray⟩, .slice A keys.length c, .slice B kids.length d] 26)) 3 (.int .i64 0)).alloc (.cells #[.int .i64 k, .int .i64 nn, .int .u64 u, .string ⟨s.toArray⟩, .slice A keys.length c, .slice B kids.length d] 26)
  have hbx := heap_alloc_new ((w.alloc (.cells #[.int .i64 k, .int .i64 nn, .int .u64 u, .string ⟨s.toArray⟩, .slice A keys.length c, .slice B kids.length d] 26)).alloc (.cells #[.int .i64 0] 3)) (.cells #[.int .i64 k, .int .i64 nn, .int .u64 u, .string ⟨s.toArray⟩, .slice A keys.length c, .slice B kids.length d] 26)
  simp only [World.size_alloc] at bS hbx
  have hB0 : Below w.heap.size w (((w.alloc (.cells #[.int .i64 k, .int .i64 nn, .int .u64 u, .string ⟨s.toArray⟩, .slice A keys.length c, .slice B kids.length d] 26)).alloc (.cells #[.int .i64 0] 3)).alloc (.cells #[.int .i64 k, .int .i64 nn, .int .u64 u, .string ⟨s.toArray⟩, .slice A keys.length c, .slice B kids.length d] 26)) := (((Below.refl _ w).alloc (Nat.le_refl _) _).alloc (by simp) _).alloc (by simp; omega) _
  have hsz : (((w.alloc (.cells #[.int .i64 k, .int .i64 nn, .int .u64 u, .string ⟨s.toArray⟩, .slice A keys.length c, .slice B kids.length d] 26)).alloc (.cells #[.int .i64 0] 3)).alloc (.cells #[.int .i64 k, .int .i64 nn, .int .u64 u, .string ⟨s.toArray⟩, .slice A keys.length c, .slice B kids.length d] 26)).heap.size = w.heap.size + 3 := by simp
  obtain ⟨W0, hW0⟩ : ∃ W0, ((w.alloc (.cells #[.int .i64 k, .int .i64 nn, .int .u64 u, .string ⟨s.toArray⟩, .slice A keys.length c, .slice B kids.length d] 26)).alloc (.cells #[.int .i64 0] 3)).alloc (.cells #[.int .i64 k, .int .i64 nn, .int .u64 u, .string ⟨s.toArray⟩, .slice A keys.length c, .slice B kids.length d] 26) = W0 := ⟨_, rfl⟩
  rw [hW0] at bS hbx hB0 hsz ⊢
  clear hW0
  rw [← hv] at hbx
  refine wpIn_rangeFunc_ownF rfl (by omega) (gf := 35) (lb := #[.pointer (some ⟨w.heap.size + 1 + 1, 0, none⟩)]) rfl trivial (enters_of Try.func35 (by kernel_rfl) rfl)
    (walked_stops Fence.wide rfl 2 trivial trivial rfl w W0.heap.size (w.heap.size + 1 + 1) T W0 ht hk hlen (by omega) (by omega) hB0 (Nat.le_refl _) hbx) kp_t (kp_b (by omega)) (Below.refl _ _) (fun _ => rfl)
    (fun pre W => Boxed W (w.heap.size + 1) 3 (.int .i64 (deepL (valsL pre) : Int)) ∧ deepL (valsL pre) ≤ 1000001 ∧ Below w.heap.size w W)
    (fun _ _ _ => False)
    (OwnFrom.and (Own.from (boxed_own _ _ _) _) (OwnFrom.and (ownFrom_pure _ _) (ownFrom_below (Nat.le_refl _) (by omega))))
    (fun _ _ _ _ _ hs _ _ => hs)
    ⟨bS, by simp [valsL, deepL], hB0⟩
    (fun x => { tmps := #[.agg #[.int .i64 k, .int .i64 nn, .int .u64 u, .string ⟨s.toArray⟩, .slice A keys.length c, .slice B kids.length d], .pointer (some ⟨w.heap.size, 0, none⟩), .pointer (some ⟨w.heap.size + 1, 0, none⟩), .int .i64 (x.1.1 : Int), .agg #[.int .i64 k, .int .i64 nn, .int .u64 u, .string ⟨s.toArray⟩, .slice A keys.length c, .slice B kids.length d], .func (.func 35) #[] #[.pointer (some ⟨w.heap.size + 1 + 1, 0, none⟩)], .int .i64 (x.1.1 : Int), x.1.2.val, undef, undef, undef, undef, undef], defers := [] }) ?assign ?body ?done ?stop
  case assign =>
    intro l x W K hK
    have e : (#[6, 7].zip (encL x)) = #[((6 : Nat), Value.int .i64 (x.1.1 : Int)), (7, x.1.2.val)] := by apply Array.ext'; simp [encL]
    rw [e]
    gi_wp2
    exact hK
  case body =>
    rintro l pre x W ⟨bS1, hdp, hB1⟩ hlt
    have cS := bS1.cell
    have fS := bS1.frozen
    have hx := x.2.2
    obtain ⟨y, hy⟩ : ∃ y, x.1.1 = y := ⟨_, rfl⟩
    obtain ⟨m, hm⟩ : ∃ m, deepL (valsL pre) = m := ⟨_, rfl⟩
    have hsn : deepL (valsL (pre ++ [x])) = max m (y + 1) := by rw [valsL_append, deepL_append, hm]; show max m (x.1.1 + 1) = _; rw [hy]
    obtain ⟨z, hz⟩ : ∃ z, max m (y + 1) = z := ⟨_, rfl⟩
    rw [hz] at hsn
    rw [hy] at hx ⊢
    rw [hm] at cS hdp
    have hy2 : (y : Int) ≤ 1000000 := by omega
    have hzm : max (m : Int) ((y : Int) + 1) = (z : Int) := by omega
    have HS := Lib.hid (And.intro hsn (show z ≤ 1000001 by omega))
    have HB := Lib.hid (And.intro bS1 hB1)
    clear hsn hz hx bS1 hB1 hm
    gi_wp2
    exact ⟨KeepsOthers.setCell _ _ _, Kp.setCell W (w.heap.size + 1) 0 _ (by omega) (by omega), by rw [HS.out.1]; exact HB.out.1.set _, by rw [HS.out.1]; exact HS.out.2, HB.out.2.setCell (p := ⟨w.heap.size + 1, 0, none⟩) (by simp) _⟩
  case done =>
    rintro D ys W hD hS ⟨bS1, _, hB1⟩ hK
    rw [hS] at bS1
    have cS := bS1.cell
    have fS := bS1.frozen
    gi_wp2
    have hK' := (KeepsOthers.setCell W ⟨w.heap.size + 1, 0, none⟩ (.int .i64 (deepL (preT 0 T) : Int))).same D _ hK rfl
    refine ⟨by simp, .inl ⟨_, _, rfl, run_takeDeferred hK', ?_⟩⟩
    have hc5 := cell_kept (bS1.set (.int .i64 (deepL (preT 0 T) : Int))).cell (grownBy_putObj' _ D (.deferred none)) (fun r e => by cases e; exact ⟨_, hK', rfl⟩)
    refine ⟨.int .i64 (deepL (preT 0 T) : Int), ?_, rfl, (hB1.setCell (p := ⟨w.heap.size + 1, 0, none⟩) (by simp) _).trans (belowK_b (w := w) (Nat.le_refl _) _ D _ _ (by omega) hK' rfl rfl)⟩
    simp [results, Try.f15, go_sem, hc5]
  case stop =>
    rintro D c pre W _ _ h _
    exact h.elim
end Go.Proofs.Yteoggaioleckhaa
