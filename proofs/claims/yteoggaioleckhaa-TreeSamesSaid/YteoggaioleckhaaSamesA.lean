import Derived.Test.YteoggaioleckhaaFree4
import Derived.Test.YteoggaioleckhaaSpoil
import Derived.Test.YteoggaioleckhaaParts
import Derived.Deep.MidRow
/- TreeSames' first drawn region: two cuts and two boxes, then two stores. -/
set_option linter.unusedVariables false
set_option linter.unusedSimpArgs false
namespace Go.Proofs.Yteoggaioleckhaa
open Go.RowKit
mutual
theorem blk_off {g : Nat} : ∀ {t : NT}, ¬ g ∈ blk t → Off g t
  | .mk k n u s kv keys lv l, h => by
    rw [blk] at h
    rw [Off]
    refine ⟨fun h0 e => h (List.mem_append.2 (Or.inl (own_mem (by omega) e))), fun h0 e => h (List.mem_append.2 (Or.inr (List.mem_append.2 (Or.inl (own_mem (by omega) e))))), blkL_off fun hg => h (List.mem_append.2 (Or.inr (List.mem_append.2 (Or.inr hg))))⟩
theorem blkL_off {g : Nat} : ∀ {l : List NT}, ¬ g ∈ blkL l → OffL g l
  | [], _ => by rw [OffL]; trivial
  | t :: l, h => by
    rw [blkL] at h
    rw [OffL]
    exact ⟨blk_off fun hg => h (List.mem_append.2 (Or.inl hg)), blkL_off fun hg => h (List.mem_append.2 (Or.inr hg))⟩
end
noncomputable def opsS : Array Oper := (Try.f6.body.bind (regionIn 60 1)).getD #[]
theorem keepS {a0 a : Act} {ops : Array Oper} (hK : FrKeep ops a0 a) (t : Tmp) (h : (ops.all fun o => o.dst != some t) = true) : a.eval (.tmp t) = a0.eval (.tmp t) := hK.2.2 t fun i o hi hd => by
  rw [Array.all_eq_true] at h
  obtain ⟨h1, h2⟩ := Array.getElem?_eq_some_iff.1 hi
  have := h i h1
  rw [h2, hd] at this
  simp at this
/-- A cut tree, its blocks from lo to hi. -/
def CutIn (p : PT) (lo hi : Nat) (v : Value) (w : World) : Prop := ∃ x : NT, v = x.val ∧ x.pt = p ∧ Is w x ∧ KSm x ∧ Fr lo w x ∧ ∀ g ∈ blk x, g < hi
def BoxIn (B lo hi : Nat) (v : Value) (w : World) : Prop := v = .pointer (some ⟨lo, 0, none⟩) ∧ lo < hi ∧ B ≤ lo ∧ w.heap[lo]? = some (.cells zeroN.cells 26 (0, 0))
def tabS (B : Nat) (a b : NT) : Nat → Nat → Nat → Value → World → Prop
  | 0, _, _, v, _ => v = a.val
  | 1, lo, hi, v, w => CutIn (fewP a.pt) lo hi v w
  | 2, _, _, v, _ => v = b.val
  | 3, lo, hi, v, w => CutIn (fewP b.pt) lo hi v w
  | 4, lo, hi, v, w => BoxIn B lo hi v w
  | 5, lo, hi, v, w => BoxIn B lo hi v w
  | _, _, _, _, _ => True
theorem CutIn.up {p : PT} {lo hi : Nat} {v : Value} {w w' : World} (h : CutIn p lo hi v w) (hb : Up w w') : CutIn p lo hi v w' := by
  obtain ⟨x, h1, h2, h3, h4, h5, h6⟩ := h
  exact ⟨x, h1, h2, h3.below hb, h4, h5.below hb, h6⟩
theorem BoxIn.up {B lo hi : Nat} {v : Value} {w w' : World} (h : BoxIn B lo hi v w) (hb : Up w w') : BoxIn B lo hi v w' :=
  ⟨h.1, h.2.1, h.2.2.1, (hb.block lo (Array.getElem?_eq_some_iff.1 h.2.2.2).1).trans h.2.2.2⟩
theorem tabS_up {B : Nat} {a b : NT} : ∀ (i lo hi : Nat) (v : Value) (w w' : World), tabS B a b i lo hi v w → Up w w' → tabS B a b i lo hi v w' := by
  intro i lo hi v w w' h hb
  unfold tabS at h ⊢
  split at h <;> first
    | exact h
    | exact CutIn.up h hb
    | exact BoxIn.up h hb
    | trivial
theorem cutIn_of {t : NT} {w w' : World} {v : Value} {e : Ending} (h : (∃ t', e = .returned t'.val ∧ t'.pt = fewP t.pt ∧ Is w' t' ∧ KSm t' ∧ Fr w.heap.size w' t')) : ∃ v, e = .returned v ∧ CutIn (fewP t.pt) w.heap.size w'.heap.size v w' := by
  obtain ⟨x, h1, h2, h3, h4, h5⟩ := h
  exact ⟨_, h1, x, rfl, h2, h3, h4, h5, is_blk_lt h3⟩
theorem there6 {w : World} {b : Nat} {cs : Array Value} {T : TypeId} (h : w.heap[b]? = some (.cells cs T (0, 0))) (hs : cs.size = 6) : w.there b 0 6 := fun j hj => ⟨by
  rw [cell_of_row _ _ _ _ _ _ h, Nat.zero_add, Array.getElem?_eq_getElem (by omega)]; rfl, frozen_of_row _ _ _ _ _ h⟩
set_option maxRecDepth 100000 in
set_option maxHeartbeats 2000000 in
theorem sames_region (a0 : Act) (W : World) (Q : Exit → Act → World → Prop) (s1 s2 : Nat) (ta tb : NT) (hn : a0.tmps.size = 48)
    (h2 : a0.eval (.tmp 2) = .pointer (some ⟨s1, 0, none⟩)) (h3 : a0.eval (.tmp 3) = .pointer (some ⟨s2, 0, none⟩))
    (hx : W.heap[s1]? = some (.cells ta.cells.toArray 26 (0, 0))) (hy : W.heap[s2]? = some (.cells tb.cells.toArray 26 (0, 0))) (hIa : Inn W ta) (hIb : Inn W tb)
    (hQ : ∀ a w b5 b6 (x y : NT), Up W w → FrKeep opsS a0 a → a.eval (.tmp 5) = .pointer (some ⟨b5, 0, none⟩) → a.eval (.tmp 6) = .pointer (some ⟨b6, 0, none⟩) → W.heap.size ≤ b5 → W.heap.size ≤ b6 → w.heap[b5]? = some (.cells x.cells.toArray 26 (0, 0)) → w.heap[b6]? = some (.cells y.cells.toArray 26 (0, 0)) → x.pt = fewP ta.pt → y.pt = fewP tb.pt → Is w x → Is w y → KSm x → KSm y → Q .normal a w) : (Code.region 1 opsS true).wp Try.prog Q a0 W := by
  have hS1 := (Array.getElem?_eq_some_iff.1 hx).1
  have hS2 := (Array.getElem?_eq_some_iff.1 hy).1
  refine wp_region_apart 48 6 (fun w => Up W w) Up (tabS W.heap.size ta tb) rfl hn (by kernel_rfl) (by kernel_rfl) tabS_up (fun w w' h => h.size) (below_drew_ W) ?_ ?_
  · intro i o hlt hi'
    by_cases hi0 : i = 0
    · subst hi0
      have h : some _ = some o := hi'
      injection h with h
      subst h
      intro a w hS hk hd
      exact step_load rfl ((hk 2 (by kernel_rfl)).trans h2) ((hS.block s1 hS1).trans hx) ⟨rfl, hS, Up.refl w⟩
    by_cases hi1 : i = 1
    · subst hi1
      have h : some _ = some o := hi'
      injection h with h
      subst h
      intro a w hS hk hd
      obtain ⟨_, _, hv⟩ := hd 0 8 (by kernel_rfl)
      have v8 : a.eval (.tmp 8) = ta.val := hv
      refine step_calls 8 #[ta.val] (by rw [eval_over v8]; kernel_rfl) ?_
      refine (few_any ta w (hIa.below hS)).mono fun e w' ⟨hr, hb⟩ => ?_
      obtain ⟨v, he, hc⟩ := cutIn_of (v := undef) hr
      exact ⟨v, he, hc, Up.trans hS hb, hb⟩
    by_cases hi2 : i = 2
    · subst hi2
      have h : some _ = some o := hi'
      injection h with h
      subst h
      intro a w hS hk hd
      exact step_load rfl ((hk 3 (by kernel_rfl)).trans h3) ((hS.block s2 hS2).trans hy) ⟨rfl, hS, Up.refl w⟩
    by_cases hi3 : i = 3
    · subst hi3
      have h : some _ = some o := hi'
      injection h with h
      subst h
      intro a w hS hk hd
      obtain ⟨_, _, hv⟩ := hd 2 10 (by kernel_rfl)
      have v10 : a.eval (.tmp 10) = tb.val := hv
      refine step_calls 8 #[tb.val] (by rw [eval_over v10]; kernel_rfl) ?_
      refine (few_any tb w (hIb.below hS)).mono fun e w' ⟨hr, hb⟩ => ?_
      obtain ⟨v, he, hc⟩ := cutIn_of (v := undef) hr
      exact ⟨v, he, hc, Up.trans hS hb, hb⟩
    by_cases hi4 : i = 4
    · subst hi4
      have h : some _ = some o := hi'
      injection h with h
      subst h
      intro a w hS hk hd
      exact step_val (u := .pointer (some ⟨w.heap.size, 0, none⟩)) (w' := w.alloc (.cells zeroN.cells 26)) (by kernel_rfl) ⟨⟨rfl, by simp, hS.size, heap_alloc_new w _⟩, Up.trans hS (Up.alloc w _), Up.alloc w _⟩
    by_cases hi5 : i = 5
    · subst hi5
      have h : some _ = some o := hi'
      injection h with h
      subst h
      intro a w hS hk hd
      exact step_val (u := .pointer (some ⟨w.heap.size, 0, none⟩)) (w' := w.alloc (.cells zeroN.cells 26)) (by kernel_rfl) ⟨⟨rfl, by simp, hS.size, heap_alloc_new w _⟩, Up.trans hS (Up.alloc w _), Up.alloc w _⟩
    omega
  · intro a w o o' ho ho' hS hK ⟨lo, hi, hall, hap⟩
    obtain ⟨q5, ho5, hd5⟩ := dst_get (show (opsS[4]?.bind (·.dst)) = some 5 by kernel_rfl)
    obtain ⟨q6, ho6, hd6⟩ := dst_get (show (opsS[5]?.bind (·.dst)) = some 6 by kernel_rfl)
    obtain ⟨q9, ho9, hd9⟩ := dst_get (show (opsS[1]?.bind (·.dst)) = some 9 by kernel_rfl)
    obtain ⟨q11, ho11, hd11⟩ := dst_get (show (opsS[3]?.bind (·.dst)) = some 11 by kernel_rfl)
    obtain ⟨⟨v5, hlt5, hB5, hh5⟩, _⟩ : BoxIn W.heap.size (lo 4) (hi 4) (a.eval (.tmp 5)) w ∧ _ := hall 4 q5 5 (by omega) ho5 hd5
    obtain ⟨⟨v6, hlt6, hB6, hh6⟩, _⟩ : BoxIn W.heap.size (lo 5) (hi 5) (a.eval (.tmp 6)) w ∧ _ := hall 5 q6 6 (by omega) ho6 hd6
    obtain ⟨⟨x, v9, hx1, hx2, hx3, hx4, hx5⟩, _⟩ : CutIn (fewP ta.pt) (lo 1) (hi 1) (a.eval (.tmp 9)) w ∧ _ := hall 1 q9 9 (by omega) ho9 hd9
    obtain ⟨⟨y, v11, hy1, hy2, hy3, hy4, hy5⟩, _⟩ : CutIn (fewP tb.pt) (lo 3) (hi 3) (a.eval (.tmp 11)) w ∧ _ := hall 3 q11 11 (by omega) ho11 hd11
    have h56 : lo 4 ≠ lo 5 := by have := hap 4 5 (by omega) (by omega) trivial trivial (by omega); omega
    have off : ∀ (i j : Nat) (z : NT), (i = 1 ∨ i = 3) → (j = 4 ∨ j = 5) → lo j < hi j → (∀ g ∈ blk z, g < hi i) → Fr (lo i) w z → Off (lo j) z := by
      intro i j z hi1 hj1 hlt h5 h4
      refine blk_off fun hg => ?_
      have h6 := h5 _ hg
      have h7 := fr_blk_ge h4 _ hg
      have := hap i j (by omega) (by omega) trivial trivial (by omega)
      omega
    have o15 := off 1 4 x (by omega) (by omega) hlt5 hx5 hx4
    have o16 := off 1 5 x (by omega) (by omega) hlt6 hx5 hx4
    have o35 := off 3 4 y (by omega) (by omega) hlt5 hy5 hy4
    have o36 := off 3 5 y (by omega) (by omega) hlt6 hy5 hy4
    have h : some _ = some o := ho
    injection h with h
    subst h
    have h' : some _ = some o' := ho'
    injection h' with h'
    subst h'
    obtain ⟨k, n, u, s, kv, ks, lv, l⟩ := x
    obtain ⟨k', n', u', s', kv', ks', lv', l'⟩ := y
    have hIx := hx2
    have hIy := hy2
    rw [Is] at hIx hIy
    obtain ⟨_, ⟨A, c, rfl, _⟩, ⟨B, d, rfl, _⟩, _⟩ := hIx
    obtain ⟨_, ⟨A', c', rfl, _⟩, ⟨B', d', rfl, _⟩, _⟩ := hIy
    rw [val_mk] at v9 v11
    have hs5 := six_set (show w.heap[lo 4]? = some (.cells #[.int .i64 0, .int .i64 0, .int .u64 0, .string ⟨#[]⟩, .slice none 0 0, .slice none 0 0] 26 (0, 0)) from hh5) (.int .i64 k) (.int .i64 n) (.int .u64 u) (.string ⟨s.toArray⟩) (.slice A ks.length c) (.slice B l.length d)
    refine wp_store_mid 26 (.tmp 5) (.tmp 9) (by kernel_rfl) (lo 4) 0 #[.int .i64 k, .int .i64 n, .int .u64 u, .string ⟨s.toArray⟩, .slice A ks.length c, .slice B l.length d] v5 v9 (there6 hh5 rfl) info26 (by kernel_rfl) ?_
    obtain ⟨w1, hw1⟩ : ∃ w1, w.setCells (lo 4) 0 (#[.int .i64 k, .int .i64 n, .int .u64 u, .string ⟨s.toArray⟩, .slice A ks.length c, .slice B l.length d] : Array Value).toList = w1 := ⟨_, rfl⟩
    have hs5a : w1.heap[lo 4]? = some (.cells #[.int .i64 k, .int .i64 n, .int .u64 u, .string ⟨s.toArray⟩, .slice A ks.length c, .slice B l.length d] 26 (0, 0)) := by rw [← hw1]; exact hs5.1
    have hs5b : w.grownBy w1 (some (lo 4)) := by rw [← hw1]; exact hs5.2
    rw [hw1]
    clear hs5 hw1
    have hh6a : w1.heap[lo 5]? = some (.cells #[.int .i64 0, .int .i64 0, .int .u64 0, .string ⟨#[]⟩, .slice none 0 0, .slice none 0 0] 26 (0, 0)) := (hs5b.block _ (Array.getElem?_eq_some_iff.1 hh6).1 (fun e => by injection e with e; exact h56 e.symm)).trans hh6
    have hs6 := six_set hh6a (.int .i64 k') (.int .i64 n') (.int .u64 u') (.string ⟨s'.toArray⟩) (.slice A' ks'.length c') (.slice B' l'.length d')
    refine wp_store_mid 26 (.tmp 6) (.tmp 11) (by kernel_rfl) (lo 5) 0 #[.int .i64 k', .int .i64 n', .int .u64 u', .string ⟨s'.toArray⟩, .slice A' ks'.length c', .slice B' l'.length d'] v6 v11 (there6 hh6a rfl) info26 (by kernel_rfl) ?_
    obtain ⟨w2, hw2⟩ : ∃ w2, w1.setCells (lo 5) 0 (#[.int .i64 k', .int .i64 n', .int .u64 u', .string ⟨s'.toArray⟩, .slice A' ks'.length c', .slice B' l'.length d'] : Array Value).toList = w2 := ⟨_, rfl⟩
    have hs6a : w2.heap[lo 5]? = some (.cells #[.int .i64 k', .int .i64 n', .int .u64 u', .string ⟨s'.toArray⟩, .slice A' ks'.length c', .slice B' l'.length d'] 26 (0, 0)) := by rw [← hw2]; exact hs6.1
    have hs6b : w1.grownBy w2 (some (lo 5)) := by rw [← hw2]; exact hs6.2
    rw [hw2]
    clear hs6 hw2
    have g5 : ∀ (g : Nat) (z : NT), Off (lo 4) z → some (lo 4) = some g → Off g z := fun g z ho e => by injection e with e; subst e; exact ho
    have g6 : ∀ (g : Nat) (z : NT), Off (lo 5) z → some (lo 5) = some g → Off g z := fun g z ho e => by injection e with e; subst e; exact ho
    have hup : Up W w2 := (Below.grown (Below.grown hS hs5b hS.size (fun i e => by injection e with e; omega)) hs6b (Nat.le_trans hS.size hs5b.size) (fun i e => by injection e with e; omega))
    exact hQ _ w2 (lo 4) (lo 5) (NT.mk k n u s (.slice A ks.length c) ks (.slice B l.length d) l) (NT.mk k' n' u' s' (.slice A' ks'.length c') ks' (.slice B' l'.length d') l') hup ⟨hK.1, hK.2.1, hK.2.2⟩ v5 v6 hB5 hB6 ((hs6b.block _ (Array.getElem?_eq_some_iff.1 hs5a).1 (fun e => by injection e with e; exact h56 e)).trans hs5a) hs6a hx1 hy1 ((hx2.grown hs5b (fun g e => g5 g _ o15 e)).grown hs6b (fun g e => g6 g _ o16 e)) ((hy2.grown hs5b (fun g e => g5 g _ o35 e)).grown hs6b (fun g e => g6 g _ o36 e)) hx3 hy3
end Go.Proofs.Yteoggaioleckhaa
