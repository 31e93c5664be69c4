import Derived.Test.YteoggaioleckhaaWalk
import Derived.Test.YteoggaioleckhaaKeyed
/- tree.Check. -/
set_option linter.unusedVariables false
set_option linter.unusedSimpArgs false
namespace Go.Proofs.Yteoggaioleckhaa
open Go.RowKit Go.Shelf
attribute [local go_sem] Oper.semAt_some
theorem six {W : World} {b : Nat} {k n u : Int} {s : List UInt8} {kv lv : Value} (h : W.heap[b]? = some (.cells #[.int .i64 k, .int .i64 n, .int .u64 u, .string ⟨s.toArray⟩, kv, lv] 26 (0, 0))) :
    W.cell? ⟨b, 0, none⟩ = some (.int .i64 k) ∧ W.cell? ⟨b, 1, none⟩ = some (.int .i64 n) ∧ W.cell? ⟨b, 2, none⟩ = some (.int .u64 u) ∧ W.cell? ⟨b, 3, none⟩ = some (.string ⟨s.toArray⟩) ∧ W.cell? ⟨b, 4, none⟩ = some kv ∧ W.cell? ⟨b, 5, none⟩ = some lv := by
  refine ⟨?_, ?_, ?_, ?_, ?_, ?_⟩ <;> rw [cell_of_row _ _ _ _ _ _ h] <;> rfl
theorem ownFrom_size {β : Type} (B m : Nat) : OwnFrom B (fun (_ : β) W => m ≤ W.heap.size) := fun _ X Y row hs hg _ => Nat.le_trans hs hg.size
theorem keepsFrom_of_below {B : Nat} {W W' : World} (h : Below W.heap.size W W') : KeepsFrom B W W' :=
  ⟨h.size, fun k o _ h0 _ => (h.block k (Array.getElem?_eq_some_iff.1 h0).1).trans h0⟩
theorem own_block {B b : Nat} {W W' : World} {row : Option Nat} {cs : Array Value} {T : TypeId} {fr : Nat × Nat} (h : W.heap[b]? = some (.cells cs T fr)) (hg : W.grownBy W' row) (hr : ∀ r, row = some r → B ≤ r ∧ ∃ o : Obj, W.heap[r]? = some o ∧ o.isCells = false) : W'.heap[b]? = some (.cells cs T fr) :=
  (hg.block b (Array.getElem?_eq_some_iff.1 h).1 (fun e => by obtain ⟨_, o, ho, hc⟩ := hr b e.symm; rw [h] at ho; cases ho; cases hc)).trans h
theorem keysP_le : ∀ (r had : List (List UInt8)), keysP had r ≤ 100
  | [], had => by rw [keysP]; omega
  | k :: r, had => by
    rw [keysP]
    split
    · omega
    · split
      · omega
      · exact keysP_le r _
theorem keyedP_le (t : PT) : keyedP t ≤ 100 := by
  obtain ⟨k, n, u, s, keys, l⟩ := t
  rw [keyedP]
  split
  · omega
  · exact keysP_le _ _
def ptsL (l : List (Nat × NT)) : List (Nat × PT) := l.map (fun x => (x.1, x.2.pt))
theorem ptsL_append (a b : List (Nat × NT)) : ptsL (a ++ b) = ptsL a ++ ptsL b := List.map_append ..
/-- The first error behind one more node. -/
theorem first_snoc {w : World} {N : Nat} (pre : List (Lv w N)) (x : Lv w N) (h : firstP 0 (ptsL (valsL pre)) = 0) : firstP 0 (ptsL (valsL (pre ++ [x]))) = errP pre.length (x.1.1, x.1.2.pt) := by
  rw [valsL_append, ptsL_append, firstP_append, if_pos h]
  have hl : 0 + (ptsL (valsL pre)).length = pre.length := by simp [ptsL, valsL]
  rw [hl]
  show firstP pre.length [(x.1.1, x.1.2.pt)] = _
  rw [firstP, firstP]
  split
  · rename_i h; rw [h]
  · rfl
theorem first_prefix {a b : List (Nat × NT)} (h : a <+: b) (hne : firstP 0 (ptsL a) ≠ 0) : firstP 0 (ptsL b) = firstP 0 (ptsL a) := by
  obtain ⟨r, rfl⟩ := h
  rw [ptsL_append, firstP_append, if_neg hne]
set_option maxRecDepth 100000 in
set_option maxHeartbeats 4000000 in
theorem check_of (hsuch : ∀ (t : NT) (w : World), Is w t → Calls Try.prog 25 #[t.val] w fun e w' => e = .returned (.bool (suchP t.pt)) ∧ Below w.heap.size w w') (t : NT) (w : World) (ht : Is w t) (hk : KSm t) (hlen : (preT 0 t).length ≤ 1000000) :
    Calls Try.prog 9 #[t.val] w fun e w' => e = .returned (.int .i64 (firstP 0 (ptsL (preT 0 t)) : Int)) ∧ Below w.heap.size w w' := by
  obtain ⟨k, nn, u, s, kv, keys, lv, kids⟩ := t
  obtain ⟨T, hT⟩ : ∃ T, NT.mk k nn u s kv keys lv kids = T := ⟨_, rfl⟩
  have hI := ht
  rw [Is] at hI
  obtain ⟨_, ⟨A, c, rfl, _⟩, ⟨B, d, rfl, _⟩, _⟩ := hI
  rw [val_mk]
  have hv : T.cells.toArray = #[.int .i64 k, .int .i64 nn, .int .u64 u, .string ⟨s.toArray⟩, .slice A keys.length c, .slice B kids.length d] := by rw [← hT]; rfl
  rw [hT] at ht hk hlen ⊢
  obtain ⟨R0, hR0⟩ : ∃ R0, firstP 0 (ptsL (preT 0 T)) = R0 := ⟨_, rfl⟩
  rw [hR0]
  replace hR0 := Lib.hid hR0
  refine (callsIn_wide (n := 3)).1 ?_
  refine callsIn_of_wp_marks Try.func9 rfl trivial ?_ rfl
  simp only [Try.ntmps9, List.size_toArray, List.length_cons, List.length_nil, Nat.reduceAdd, Nat.reduceSub, Array.replicate_succ, Array.replicate_zero, List.push_toArray, List.append_toArray, List.nil_append, List.cons_append]
  gi_wp2_with ((try refine ⟨trivial, ?_⟩); gi_at_call 24; refine (walked_in Fence.wide _ trivial rfl _ _ _ _ _ _ _).mono ?_; rintro e w' ⟨rfl, rfl⟩)
  have bE := ((Boxed.new (w.alloc (.cells #[.int .i64 k, .int .i64 nn, .int .u64 u, .string ⟨s.toArray⟩, .slice A keys.length c, .slice B kids.length d] 26)) 28 (.int .i64 0)).alloc (.cells #[.int .i64 0] 3)).alloc (.cells #[.int .i64 k, .int .i64 nn, .int .u64 u, .string ⟨s.toArray⟩, .slice A keys.length c, .slice B kids.length d] 26)
  have bN := (Boxed.new ((w.alloc (.cells #[.int .i64 k, .int .i64 nn, .int .u64 u, .string ⟨s.toArray⟩, .slice A keys.length c, .slice B kids.length d] 26)).alloc (.cells #[.int .i64 0] 28)) 3 (.int .i64 0)).alloc (.cells #[.int .i64 k, .int .i64 nn, .int .u64 u, .string ⟨s.toArray⟩, .slice A keys.length c, .slice B kids.length d] 26)
  have hbx := heap_alloc_new (((w.alloc (.cells #[.int .i64 k, .int .i64 nn, .int .u64 u, .string ⟨s.toArray⟩, .slice A keys.length c, .slice B kids.length d] 26)).alloc (.cells #[.int .i64 0] 28)).alloc (.cells #[.int .i64 0] 3)) (.cells #[.int .i64 k, .int .i64 nn, .int .u64 u, .string ⟨s.toArray⟩, .slice A keys.length c, .slice B kids.length d] 26)
  simp only [World.size_alloc] at bE bN hbx
  have hB0 : Below w.heap.size w ((((w.alloc (.cells #[.int .i64 k, .int .i64 nn, .int .u64 u, .string ⟨s.toArray⟩, .slice A keys.length c, .slice B kids.length d] 26)).alloc (.cells #[.int .i64 0] 28)).alloc (.cells #[.int .i64 0] 3)).alloc (.cells #[.int .i64 k, .int .i64 nn, .int .u64 u, .string ⟨s.toArray⟩, .slice A keys.length c, .slice B kids.length d] 26)) := ((((Below.refl _ w).alloc (Nat.le_refl _) _).alloc (by simp) _).alloc (by simp; omega) _).alloc (by simp; omega) _
  have hsz : ((((w.alloc (.cells #[.int .i64 k, .int .i64 nn, .int .u64 u, .string ⟨s.toArray⟩, .slice A keys.length c, .slice B kids.length d] 26)).alloc (.cells #[.int .i64 0] 28)).alloc (.cells #[.int .i64 0] 3)).alloc (.cells #[.int .i64 k, .int .i64 nn, .int .u64 u, .string ⟨s.toArray⟩, .slice A keys.length c, .slice B kids.length d] 26)).heap.size = w.heap.size + 4 := by simp
  obtain ⟨W0, hW0⟩ : ∃ W0, (((w.alloc (.cells #[.int .i64 k, .int .i64 nn, .int .u64 u, .string ⟨s.toArray⟩, .slice A keys.length c, .slice B kids.length d] 26)).alloc (.cells #[.int .i64 0] 28)).alloc (.cells #[.int .i64 0] 3)).alloc (.cells #[.int .i64 k, .int .i64 nn, .int .u64 u, .string ⟨s.toArray⟩, .slice A keys.length c, .slice B kids.length d] 26) = W0 := ⟨_, rfl⟩
  rw [hW0] at bE bN hbx hB0 hsz ⊢
  clear hW0
  rw [← hv] at hbx
  refine wpIn_rangeFunc_ownH rfl (by omega) (gf := 35) (lb := #[.pointer (some ⟨w.heap.size + 1 + 1 + 1, 0, none⟩)]) rfl trivial (enters_of Try.func35 (by kernel_rfl) rfl)
    (walked_stops Fence.wide rfl 2 trivial trivial rfl w W0.heap.size (w.heap.size + 1 + 1 + 1) T W0 ht hk hlen (by omega) (by omega) hB0 (Nat.le_refl _) hbx) kp_t (kp_b (by omega)) (Below.refl _ _) (fun _ => rfl)
    (fun pre W => (Boxed W (w.heap.size + 1 + 1) 3 (.int .i64 (pre.length : Int)) ∧ Boxed W (w.heap.size + 1) 28 (.int .i64 0)) ∧ firstP 0 (ptsL (valsL pre)) = 0 ∧ w.heap.size + 4 ≤ W.heap.size ∧ Below w.heap.size w W)
    (fun c pre W => (c = .ret ∧ firstP 0 (ptsL (valsL pre)) ≠ 0) ∧ Boxed W (w.heap.size + 1) 28 (.int .i64 (firstP 0 (ptsL (valsL pre)) : Int)) ∧ Below w.heap.size w W)
    (OwnFrom.and (OwnFrom.and (Own.from (boxed_own _ _ _) _) (Own.from (boxed_own _ _ _) _)) (OwnFrom.and (ownFrom_pure _ _) (OwnFrom.and (ownFrom_size _ _) (ownFrom_below (Nat.le_refl _) (by omega)))))
    (fun c => OwnFrom.and (ownFrom_pure _ _) (OwnFrom.and (Own.from (boxed_own _ _ _) _) (ownFrom_below (Nat.le_refl _) (by omega))))
    ⟨⟨bN, bE⟩, by simp [valsL, ptsL, firstP], by omega, hB0⟩
    (fun x a' W => ∃ Bx, w.heap.size + 4 ≤ Bx ∧ W.heap[Bx]? = some (.cells x.1.2.cells.toArray 26 (0, 0)) ∧ a' = { tmps := #[.agg #[.int .i64 k, .int .i64 nn, .int .u64 u, .string ⟨s.toArray⟩, .slice A keys.length c, .slice B kids.length d], .pointer (some ⟨w.heap.size, 0, none⟩), .pointer (some ⟨w.heap.size + 1, 0, none⟩), .pointer (some ⟨w.heap.size + 1 + 1, 0, none⟩), .int .i64 (x.1.1 : Int), .pointer (some ⟨Bx, 0, none⟩), undef, .agg #[.int .i64 k, .int .i64 nn, .int .u64 u, .string ⟨s.toArray⟩, .slice A keys.length c, .slice B kids.length d], .func (.func 35) #[] #[.pointer (some ⟨w.heap.size + 1 + 1 + 1, 0, none⟩)], .int .i64 (x.1.1 : Int), x.1.2.val, undef, undef, undef, undef, undef, undef, undef, undef, undef, undef, undef, undef, undef, undef, undef, undef, undef], defers := [] })
    (fun x a' _ X Y row hs hg hr => by obtain ⟨Bx, h1, h2, h3⟩ := hs; exact ⟨Bx, h1, own_block h2 hg hr, h3⟩)
    ?assign ?body ?done ?stop
  case assign =>
    rintro l pre ⟨⟨dx, ⟨k', n', u', s', kv', ks', lv', l'⟩⟩, ⟨hx1, hxk⟩, hx2⟩ W K ⟨⟨bN1, bE1⟩, hf, hs4, hB1⟩ hK
    have hx1' := hx1
    rw [Is] at hx1'
    obtain ⟨_, ⟨A', c', rfl, _⟩, ⟨B', d', rfl, _⟩, _⟩ := hx1'
    have e : (#[9, 10].zip (encL (⟨(dx, NT.mk k' n' u' s' (.slice A' ks'.length c') ks' (.slice B' l'.length d') l'), ⟨hx1, hxk⟩, hx2⟩ : Lv w 1000000))) = #[((9 : Nat), Value.int .i64 (dx : Int)), (10, .agg #[.int .i64 k', .int .i64 n', .int .u64 u', .string ⟨s'.toArray⟩, .slice A' ks'.length c', .slice B' l'.length d'])] := by apply Array.ext'; simp [encL, val_mk]
    rw [e]
    have hK2 := hK _ _ ((KeepsOthers.alloc W (.cells #[.int .i64 k', .int .i64 n', .int .u64 u', .string ⟨s'.toArray⟩, .slice A' ks'.length c', .slice B' l'.length d'] 26)).from _) (Kp.alloc _ hB1.size) ⟨⟨bN1.alloc _, bE1.alloc _⟩, hf, by simp; omega, hB1.alloc hB1.size _⟩ ⟨W.heap.size, hs4, heap_alloc_new W _, rfl⟩
    gi_wp2
    exact hK2
  case body =>
    rintro l pre ⟨⟨dx, t'⟩, ⟨hx1, hxk⟩, hx2⟩ a' W hl0 ⟨r, hr⟩ ⟨⟨bN1, bE1⟩, hf, hs4, hB1⟩ ⟨Bx, hBx, hblk, rfl⟩ hlt
    rw [hsz]
    have hsn := first_snoc pre ⟨(dx, t'), ⟨hx1, hxk⟩, hx2⟩ hf
    simp only at hx1 hx2 hblk hsn ⊢
    obtain ⟨R, hR⟩ : ∃ R, firstP 0 (ptsL (valsL (pre ++ [⟨(dx, t'), ⟨hx1, hxk⟩, hx2⟩]))) = R := ⟨_, rfl⟩
    rw [hR] at hsn
    unfold errP at hsn
    have hpl : (pre ++ [(⟨(dx, t'), ⟨hx1, hxk⟩, hx2⟩ : Lv w 1000000)]).length = pre.length + 1 := by simp
    obtain ⟨pr, hpr⟩ : ∃ pr, pre ++ [(⟨(dx, t'), ⟨hx1, hxk⟩, hx2⟩ : Lv w 1000000)] = pr := ⟨_, rfl⟩
    rw [hpr] at hR hpl ⊢
    obtain ⟨m, hm⟩ : ∃ m, pre.length = m := ⟨_, rfl⟩
    rw [hm] at hsn bN1 hpl hlt
    obtain ⟨W2, hW2⟩ : ∃ W2, W.setCell ⟨w.heap.size + 1 + 1, 0, none⟩ (.int .i64 ((m : Int) + 1)) = W2 := ⟨_, rfl⟩
    have bN2 : Boxed W2 (w.heap.size + 1 + 1) 3 (.int .i64 (((m + 1 : Nat)) : Int)) := by rw [← hW2]; simpa using bN1.set (.int .i64 ((m : Int) + 1))
    have bE2 : Boxed W2 (w.heap.size + 1) 28 (.int .i64 0) := by rw [← hW2]; exact bE1.other (by omega) _
    have hblk2 : W2.heap[Bx]? = some (.cells t'.cells.toArray 26 (0, 0)) := by rw [← hW2]; exact (Below.heap_setCell W ⟨w.heap.size + 1 + 1, 0, none⟩ _ Bx (by show Bx ≠ w.heap.size + 1 + 1; omega)).trans hblk
    have hkf2 : KeepsFrom W0.heap.size W W2 := by rw [← hW2]; exact (KeepsOthers.setCell _ _ _).from _
    have hkp2 : Kp w.heap.size W0.heap.size W W2 := by rw [← hW2]; exact Kp.setCell W _ 0 _ (by omega) (by omega)
    have hB2 : Below w.heap.size w W2 := hB1.trans hkp2.below
    rw [hsz] at hkf2 hkp2
    have hs42 : w.heap.size + 4 ≤ W2.heap.size := Nat.le_trans hs4 hkf2.size
    have cN := bN1.cell
    have fN := bN1.frozen
    have cN2 := bN2.cell
    have cE2 := bE2.cell
    have fE2 := bE2.frozen
    have hxI := hx1.below hB2
    have hS := hsuch t' W2 hxI
    have hKy := fun (wx : World) (hb : Below W2.heap.size W2 wx) => keyed_any t' wx (hxI.below hb)
    have hxI2 := hx1
    obtain ⟨k', n', u', s', kv', ks', lv', l'⟩ := t'
    rw [Is] at hxI2
    obtain ⟨_, ⟨A', c', rfl, _⟩, ⟨B', d', rfl, _⟩, _⟩ := hxI2
    rw [val_mk] at hS hKy ⊢
    have hblk3 : W2.heap[Bx]? = some (.cells #[.int .i64 k', .int .i64 n', .int .u64 u', .string ⟨s'.toArray⟩, .slice A' ks'.length c', .slice B' l'.length d'] 26 (0, 0)) := hblk2
    obtain ⟨c0, c1, c2, c3, c4, c5⟩ := six hblk3
    have hm0 : (m : Int) ≤ 1000000 := by omega
    have hd0 : (dx : Int) ≤ 1000000 := by omega
    have cN2' : W2.cell? ⟨w.heap.size + 1 + 1, 0, none⟩ = some (.int .i64 ((m : Int) + 1)) := by rw [cN2]; simp
    obtain ⟨PT', hPT⟩ : ∃ PT', (NT.mk k' n' u' s' (.slice A' ks'.length c') ks' (.slice B' l'.length d') l').pt = PT' := ⟨_, rfl⟩
    rw [hPT] at hsn hS hKy
    have HA := Lib.hid (And.intro hkf2 (And.intro hkp2 (And.intro hB2 hs42)))
    have HBX := Lib.hid (And.intro bN2 (And.intro bE2 hblk3))
    have HPL := Lib.hid hpl
    have HR := Lib.hid hR
    have HL := Lib.hid (And.intro hBx (show Bx < W2.heap.size from (Array.getElem?_eq_some_iff.1 hblk3).1))
    clear hblk hblk2 hblk3 hxI hx1 hxk hx2 hPT hR hpl hkf2 hkp2 hB2 hs42 bN1 bN2 bE1 bE2 hf hB1 hs4 hr hm hpr cN2
    have hret : ∀ (v : Nat) (W3 : World), R = v → ¬ v = 0 → Below W2.heap.size W2 W3 → KeepsFrom (w.heap.size + 4) W (W3.setCell ⟨w.heap.size + 1, 0, none⟩ (.int .i64 (v : Int))) ∧ ((¬ firstP 0 (ptsL (valsL pr)) = 0) ∧ Boxed (W3.setCell ⟨w.heap.size + 1, 0, none⟩ (.int .i64 (v : Int))) (w.heap.size + 1) 28 (.int .i64 (firstP 0 (ptsL (valsL pr)) : Int)) ∧ Below w.heap.size w (W3.setCell ⟨w.heap.size + 1, 0, none⟩ (.int .i64 (v : Int)))) := by
      intro v W3 hv0 hv1 hb3
      have hlt3 : w.heap.size + 1 < W2.heap.size := by have := HA.out.2.2.2; omega
      have bE3 : Boxed W3 (w.heap.size + 1) 28 (.int .i64 0) := (hb3.block _ hlt3).trans HBX.out.2.1
      refine ⟨HA.out.1.trans ((keepsFrom_of_below hb3).trans ((KeepsOthers.setCell _ _ _).from _)), by rw [HR.out, hv0]; exact hv1, by rw [HR.out, hv0]; exact bE3.set _, ((HA.out.2.2.1).trans (hb3.mono (by have := HA.out.2.2.2; omega))).setCell (p := ⟨w.heap.size + 1, 0, none⟩) (by simp) _⟩
    have HRET := Lib.hid hret
    clear hret
    have h1' : 1 ≤ 3 - 1 - 1 := by omega
    by_cases h1 : 4096 < m + 1
    · rw [if_pos h1] at hsn
      have q1 : (4096 : Int) < (m : Int) + 1 := by omega
      have HSN := Lib.hid hsn
      clear h1 hsn hS hKy
      gi_wp2
      obtain ⟨r1, r2, r3, r4⟩ := HRET.out 5 _ HSN.out (by omega) (Below.refl _ _)
      exact ⟨r1, ⟨rfl, r2⟩, r3, r4⟩
    · rw [if_neg h1] at hsn
      have q1 : ¬ ((4096 : Int) < (m : Int) + 1) := by omega
      clear h1
      by_cases h2 : 64 ≤ dx
      · rw [if_pos h2] at hsn
        have q2 : (64 : Int) ≤ (dx : Int) := by omega
        have HSN := Lib.hid hsn
        clear h2 hsn hS hKy
        gi_wp2
        obtain ⟨r1, r2, r3, r4⟩ := HRET.out 61 _ HSN.out (by omega) (Below.refl _ _)
        exact ⟨r1, ⟨rfl, r2⟩, r3, r4⟩
      · rw [if_neg h2] at hsn
        have q2 : ¬ ((64 : Int) ≤ (dx : Int)) := by omega
        clear h2
        cases hs : suchP PT' with
        | false =>
          rw [hs] at hsn hS
          rw [if_pos rfl] at hsn
          have HSN := Lib.hid hsn
          clear hs hsn hKy
          gi_wp2_with ((try refine ⟨trivial, ?_⟩); gi_at_call 25; refine (CallsIn.inRound l (callsIn_wide.2 hS)).mono ?_; rintro e w1 ⟨rfl, hb1⟩; have bx3 : Boxed w1 (w.heap.size + 1) 28 (.int .i64 0) := (hb1.block _ (by have := HA.out.2.2.2; omega)).trans HBX.out.2.1; have cE3 := bx3.cell; have fE3 := bx3.frozen; clear bx3)
          obtain ⟨r1, r2, r3, r4⟩ := HRET.out 60 _ HSN.out (by omega) hb1
          exact ⟨r1, ⟨rfl, r2⟩, r3, r4⟩
        | true =>
          rw [hs] at hsn hS
          rw [if_neg (by decide)] at hsn
          obtain ⟨q, hq⟩ : ∃ q, keyedP PT' = q := ⟨_, rfl⟩
          rw [hq] at hsn hKy
          have hql : q ≤ 100 := by rw [← hq]; exact keyedP_le _
          have HSN := Lib.hid hsn
          have HKY := Lib.hid hKy
          clear hs hsn hq hKy
          by_cases hq0 : q = 0
          · have q3 : (q : Int) = 0 := by omega
            gi_wp2_with (first
              | ((try refine ⟨trivial, ?_⟩); gi_at_call 25; refine (CallsIn.inRound l (callsIn_wide.2 hS)).mono ?_; clear hS; rintro e w1 ⟨rfl, hb1⟩; obtain ⟨d0, d1, d2, d3, d4, d5⟩ := six ((hb1.block _ HL.out.2).trans HBX.out.2.2))
              | ((try refine ⟨trivial, ?_⟩); gi_at_call 26; refine (CallsIn.inRound l (callsIn_wide.2 (HKY.out _ hb1))).mono ?_; rintro e w3 ⟨rfl, hb3⟩))
            have hb := hb1.trans (hb3.mono hb1.size)
            have hlt3 := HA.out.2.2.2
            exact ⟨HA.out.1.trans (keepsFrom_of_below hb), HA.out.2.1.trans (Kp.of_below hb (by omega)), ⟨⟨by rw [HPL.out]; exact (hb.block _ (by omega)).trans HBX.out.1, (hb.block _ (by omega)).trans HBX.out.2.1⟩, by rw [HR.out, HSN.out, hq0], Nat.le_trans hlt3 hb.size, HA.out.2.2.1.trans (hb.mono (by omega))⟩⟩
          · have q3 : ¬ ((q : Int) = 0) := by omega
            have q4 : (q : Int) ≤ 100 := by omega
            gi_wp2_with (first
              | ((try refine ⟨trivial, ?_⟩); gi_at_call 25; refine (CallsIn.inRound l (callsIn_wide.2 hS)).mono ?_; clear hS; rintro e w1 ⟨rfl, hb1⟩; obtain ⟨d0, d1, d2, d3, d4, d5⟩ := six ((hb1.block _ HL.out.2).trans HBX.out.2.2))
              | ((try refine ⟨trivial, ?_⟩); gi_at_call 26; refine (CallsIn.inRound l (callsIn_wide.2 (HKY.out _ hb1))).mono ?_; rintro e w3 ⟨rfl, hb3⟩; have bx3 : Boxed w3 (w.heap.size + 1) 28 (.int .i64 0) := ((hb1.trans (hb3.mono hb1.size)).block _ (by have := HA.out.2.2.2; omega)).trans HBX.out.2.1; have cE3 := bx3.cell; have fE3 := bx3.frozen; clear bx3))
            obtain ⟨r1, r2, r3, r4⟩ := HRET.out q _ HSN.out hq0 (hb1.trans (hb3.mono hb1.size))
            exact ⟨r1, ⟨rfl, r2⟩, r3, r4⟩
  case done =>
    rintro D ys W hD hS ⟨⟨bN1, bE1⟩, hf, hs4, hB1⟩ hK
    rw [hS, hR0.out] at hf
    have cE := bE1.cell
    have fE := bE1.frozen
    have HR0 := Lib.hid hf
    clear hf
    gi_wp2
    have hK' := (KeepsOthers.setCell W ⟨w.heap.size + 1, 0, none⟩ (.int .i64 0)).same D _ hK rfl
    refine ⟨by simp, .inl ⟨_, _, rfl, run_takeDeferred hK', ?_⟩⟩
    have hc5 := cell_kept (bE1.set (.int .i64 0)).cell (grownBy_putObj' _ D (.deferred none)) (fun r e => by cases e; exact ⟨_, hK', rfl⟩)
    refine ⟨.int .i64 0, ?_, by rw [HR0.out]; rfl, (hB1.setCell (p := ⟨w.heap.size + 1, 0, none⟩) (by simp) _).trans (belowK_b (w := w) (Nat.le_refl _) _ D _ _ (by omega) hK' rfl rfl)⟩
    simp [results, Try.f9, go_sem, hc5]
  case stop =>
    rintro D c pre W hD hpre ⟨⟨rfl, hne⟩, bE1, hB1⟩ hK
    have hfp := first_prefix hpre hne
    rw [hR0.out] at hfp
    have HFP := Lib.hid hfp
    clear hfp
    gi_wp2
    refine ⟨by simp, .inl ⟨_, _, rfl, run_takeDeferred hK, ?_⟩⟩
    have hc5 := cell_kept bE1.cell (grownBy_putObj' _ D (.deferred none)) (fun r e => by cases e; exact ⟨_, hK, rfl⟩)
    refine ⟨.int .i64 (firstP 0 (ptsL (valsL pre)) : Int), ?_, by rw [HFP.out], hB1.trans (belowK_b (w := w) (Nat.le_refl _) W D _ _ (by omega) hK rfl rfl)⟩
    simp [results, Try.f9, go_sem, hc5]
end Go.Proofs.Yteoggaioleckhaa
