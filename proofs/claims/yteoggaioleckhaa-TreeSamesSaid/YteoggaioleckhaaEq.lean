import Derived.Test.YteoggaioleckhaaMem3
import Derived.Test.YteoggaioleckhaaQuiet
/- The reference's EqTexts, EqNode. -/
set_option linter.unusedVariables false
set_option linter.unusedSimpArgs false
namespace Go.Proofs.Yteoggaioleckhaa
open Go.RowKit
theorem cell_str {w : World} {b o : Nat} {ks : List (List UInt8)} (h : Rd w 1 (some ⟨b, o, none⟩) ks.length (ks.map strv)) {j : Nat} {x : List UInt8} (hx : ks[j]? = some x) : w.cell? ⟨b, o + j, none⟩ = some (.string ⟨x.toArray⟩) := by
  have hj : j < ks.length := by
    rcases Nat.lt_or_ge j ks.length with h | h
    · exact h
    · rw [List.getElem?_eq_none h] at hx; cases hx
  obtain ⟨b', o', e, _, hc⟩ := h.2 (by omega)
  cases e
  exact hc j _ (by rw [List.getElem?_map, hx]; rfl)
set_option maxRecDepth 100000 in
set_option maxHeartbeats 1000000 in
theorem eqTexts_any (A : Option Addr) (c : Nat) (xs : List (List UInt8)) (B : Option Addr) (d : Nat) (ys : List (List UInt8)) (w : World) (hx : Rd w 1 A xs.length (xs.map strv)) (hy : Rd w 1 B ys.length (ys.map strv)) (hl : xs.length ≤ 140737488355328) (hl2 : ys.length ≤ 140737488355328) :
    Calls Try.prog 28 #[.slice A xs.length c, .slice B ys.length d] w fun e w' => e = .returned (.bool (decide (xs = ys))) ∧ Below w.heap.size w w' := by
  by_cases hn : xs.length = ys.length
  · have hz1 : (xs.length : Int) ≤ 140737488355328 := by omega
    obtain ⟨R, hR⟩ : ∃ R, decide (xs = ys) = R := ⟨_, rfl⟩
    rw [hR]
    have HR := Lib.hid hR
    have HN := Lib.hid hn
    have hyl : (ys.length : Int) = (xs.length : Int) := by omega
    clear hR hn hl hl2
    rw [← HN.out] at hy ⊢
    clear hyl
    go_enter Try.func28, Try.ntmps28
    go_wp2
    go_loopw [5] (fun i wr => ∃ j : Nat, j ≤ xs.length ∧ i = .int .i64 (j : Int) ∧ xs.take j = ys.take j ∧ Below w.heap.size w wr) (fun i _ => xs.length - (intOf i).toNat)
    case atStart => exact ⟨0, by omega, rfl, by simp, Below.refl _ _⟩
    case round =>
      obtain ⟨j, hj, rfl, htk, hb⟩ := hrel
      have HB := Lib.hid hb
      by_cases hlt : j < xs.length
      · obtain ⟨b1, o1, hA, _⟩ := hx.at (by omega)
        obtain ⟨b2, o2, hA2, _⟩ := hy.at (by omega)
        subst hA; subst hA2
        obtain ⟨x, hxj⟩ : ∃ x, xs[j]? = some x := ⟨_, List.getElem?_eq_getElem hlt⟩
        have hlt2 : j < ys.length := by rw [← HN.out]; exact hlt
        obtain ⟨y, hyj⟩ : ∃ y, ys[j]? = some y := ⟨_, List.getElem?_eq_getElem hlt2⟩
        have c1 := cell_str (hx.below hb) hxj
        have c2 : wr.cell? ⟨b2, o2 + j, none⟩ = some (.string ⟨y.toArray⟩) := cell_str (by rw [← HN.out]; exact hy.below hb) hyj
        have g1 : xs[j]'hlt = x := by rw [List.getElem?_eq_getElem hlt] at hxj; injection hxj
        have g2 : ys[j]'hlt2 = y := by rw [List.getElem?_eq_getElem hlt2] at hyj; injection hyj
        by_cases hxy : x = y
        · subst hxy
          have HT := Lib.hid (show xs.take (j + 1) = ys.take (j + 1) by rw [List.take_succ_eq_append_getElem hlt, List.take_succ_eq_append_getElem hlt2, htk, g1, g2])
          clear htk hxj hyj g1 g2 hlt2 hb hx hy
          go_wp2
          go_quiet (fail)
          have HB2 := Lib.hid (below_drewN HB.out nq)
          generalize wr.drewN nq = w2 at HB2 ⊢
          go_wp2
          go_roundw
          case rel => exact ⟨j + 1, by omega, by simp, HT.out, HB2.out⟩
          case measure => simp [intOf]; omega
        · have hne : (x == y) = false := beq_eq_false_iff_ne.2 hxy
          have hne2 : (x != y) = true := bne_iff_ne.2 hxy
          have HF := Lib.hid (show R = false by
            rw [← HR.out]; exact decide_eq_false (fun e => hxy (by subst e; rw [g1] at g2; exact g2)))
          clear htk hxj hyj g1 g2 hlt2 hb hx hy hxy
          go_wp2
          go_quiet (fail)
          have HB2 := Lib.hid (below_drewN HB.out nq)
          generalize wr.drewN nq = w2 at HB2 ⊢
          go_wp2
          go_ret
          exact ⟨by rw [HF.out]; rfl, HB2.out⟩
      · obtain rfl : j = xs.length := by omega
        have HF := Lib.hid (show R = true by
          rw [← HR.out]; refine decide_eq_true ?_
          rw [List.take_length] at htk
          rw [htk, HN.out, List.take_length])
        clear htk hb hx hy
        go_wp2
        go_ret
        exact ⟨by rw [HF.out]; rfl, HB.out⟩
  · have hR : decide (xs = ys) = false := decide_eq_false (fun e => hn (by rw [e]))
    rw [hR]
    have hz : ((xs.length : Int) != (ys.length : Int)) = true := by rw [bne_iff_ne]; omega
    clear hR hn hl hl2 hx hy
    go_enter Try.func28, Try.ntmps28
    go_wp2
    go_ret
    exact ⟨rfl, Below.refl _ _⟩
theorem sixE {W : World} {b : Nat} {k n u : Int} {s : List UInt8} {kv lv : Value} (h : W.heap[b]? = some (.cells #[.int .i64 k, .int .i64 n, .int .u64 u, .string ⟨s.toArray⟩, kv, lv] 26 (0, 0))) :
    W.cell? ⟨b, 0, none⟩ = some (.int .i64 k) ∧ W.cell? ⟨b, 1, none⟩ = some (.int .i64 n) ∧ W.cell? ⟨b, 2, none⟩ = some (.int .u64 u) ∧ W.cell? ⟨b, 3, none⟩ = some (.string ⟨s.toArray⟩) ∧ W.cell? ⟨b, 4, none⟩ = some kv ∧ W.cell? ⟨b, 5, none⟩ = some lv := by
  refine ⟨?_, ?_, ?_, ?_, ?_, ?_⟩ <;> rw [cell_of_row _ _ _ _ _ _ h] <;> rfl
/-- Are the two trees one? -/
noncomputable def eqv (a b : PT) : Bool := @decide (a = b) (Classical.propDecidable _)
theorem eqv_true {a b : PT} (h : a = b) : eqv a b = true := by unfold eqv; exact @decide_eq_true _ (Classical.propDecidable _) h
theorem eqv_false {a b : PT} (h : ¬ a = b) : eqv a b = false := by unfold eqv; exact @decide_eq_false _ (Classical.propDecidable _) h
theorem eqv_iff {a b : PT} : eqv a b = true ↔ a = b := by
  by_cases h : a = b
  · exact ⟨fun _ => h, fun _ => eqv_true h⟩
  · exact ⟨fun e => (by rw [eqv_false h] at e; cases e), fun e => absurd e h⟩
theorem pt_inj {k n u : Int} {s : List UInt8} {kv : Value} {keys : List (List UInt8)} {lv : Value} {l : List NT} {k' n' u' : Int} {s' : List UInt8} {kv' : Value} {keys' : List (List UInt8)} {lv' : Value} {l' : List NT} :
    (NT.mk k n u s kv keys lv l).pt = (NT.mk k' n' u' s' kv' keys' lv' l').pt ↔ k = k' ∧ n = n' ∧ u = u' ∧ s = s' ∧ keys = keys' ∧ ptL l = ptL l' := by
  rw [NT.pt, NT.pt]
  constructor
  · intro h; injection h with h1 h2 h3 h4 h5 h6; exact ⟨h1, h2, h3, h4, h5, h6⟩
  · rintro ⟨rfl, rfl, rfl, rfl, rfl, h⟩; rw [h]
theorem ptL_len (l : List NT) : (ptL l).length = l.length := by rw [ptL_map, List.length_map]
theorem ptL_take (l : List NT) (j : Nat) : ptL (l.take j) = (ptL l).take j := by rw [ptL_map, ptL_map, List.map_take]
set_option maxRecDepth 100000 in
set_option maxHeartbeats 4000000 in
theorem eqNode_any (a : NT) : ∀ (b : NT) (w : World), Is w a → Is w b → Calls Try.prog 11 #[a.val, b.val] w fun e w' => e = .returned (.bool (eqv a.pt b.pt)) ∧ Below w.heap.size w w' := by
  induction a using NT.ind with
  | h k n u s kv keys lv l ih =>
    intro b w hI hJ
    obtain ⟨k', n', u', s', kv', keys', lv', l'⟩ := b
    rw [Is] at hI hJ
    obtain ⟨_, ⟨A, c, rfl, e2, e3⟩, ⟨B, d, rfl, f2, f3⟩, hl⟩ := hI
    obtain ⟨_, ⟨A', c', rfl, e2', e3'⟩, ⟨B', d', rfl, f2', f3'⟩, hl'⟩ := hJ
    have hin := pt_inj (k := k) (n := n) (u := u) (s := s) (kv := .slice A keys.length c) (keys := keys) (lv := .slice B l.length d) (l := l) (k' := k') (n' := n') (u' := u') (s' := s') (kv' := .slice A' keys'.length c') (keys' := keys') (lv' := .slice B' l'.length d') (l' := l')
    rw [val_mk, val_mk]
    have hb0 : Below w.heap.size w ((w.alloc (.cells #[.int .i64 k, .int .i64 n, .int .u64 u, .string ⟨s.toArray⟩, .slice A keys.length c, .slice B l.length d] 26)).alloc (.cells #[.int .i64 k', .int .i64 n', .int .u64 u', .string ⟨s'.toArray⟩, .slice A' keys'.length c', .slice B' l'.length d'] 26)) := ((Below.refl _ w).alloc (Nat.le_refl _) _).alloc (by simp) _
    obtain ⟨R, hR⟩ : ∃ R, eqv (NT.mk k n u s (.slice A keys.length c) keys (.slice B l.length d) l).pt (NT.mk k' n' u' s' (.slice A' keys'.length c') keys' (.slice B' l'.length d') l').pt = R := ⟨_, rfl⟩
    rw [hR]
    have hF : ¬ (k = k' ∧ n = n' ∧ u = u' ∧ s = s' ∧ keys = keys' ∧ ptL l = ptL l') → R = false := fun h => by rw [← hR]; exact eqv_false (fun e => h (hin.1 e))
    have hT : (k = k' ∧ n = n' ∧ u = u' ∧ s = s' ∧ keys = keys' ∧ ptL l = ptL l') → R = true := fun h => by rw [← hR]; exact eqv_true (hin.2 h)
    clear hin hR
    by_cases hk : k = k'
    · subst hk
      by_cases hn : n = n'
      · subst hn
        by_cases hu : u = u'
        · subst hu
          by_cases hs : s = s'
          · subst hs
            have cE := eqTexts_any A c keys A' c' keys' _ (e3.below hb0) (e3'.below hb0) e2 e2'
            by_cases hkk : keys = keys'
            · subst hkk
              rw [decide_eq_true rfl] at cE
              have hx0 := (Below.heap_alloc (w.alloc (.cells #[.int .i64 k, .int .i64 n, .int .u64 u, .string ⟨s.toArray⟩, .slice A keys.length c, .slice B l.length d] 26)) (.cells #[.int .i64 k, .int .i64 n, .int .u64 u, .string ⟨s.toArray⟩, .slice A' keys.length c', .slice B' l'.length d'] 26) w.heap.size (by simp)).trans (heap_alloc_new w (.cells #[.int .i64 k, .int .i64 n, .int .u64 u, .string ⟨s.toArray⟩, .slice A keys.length c, .slice B l.length d] 26))
              have hx1 := heap_alloc_new (w.alloc (.cells #[.int .i64 k, .int .i64 n, .int .u64 u, .string ⟨s.toArray⟩, .slice A keys.length c, .slice B l.length d] 26)) (.cells #[.int .i64 k, .int .i64 n, .int .u64 u, .string ⟨s.toArray⟩, .slice A' keys.length c', .slice B' l'.length d'] 26)
              have hs0 : ((w.alloc (.cells #[.int .i64 k, .int .i64 n, .int .u64 u, .string ⟨s.toArray⟩, .slice A keys.length c, .slice B l.length d] 26)).alloc (.cells #[.int .i64 k, .int .i64 n, .int .u64 u, .string ⟨s.toArray⟩, .slice A' keys.length c', .slice B' l'.length d'] 26)).heap.size = w.heap.size + 2 := by simp
              rw [World.size_alloc] at hx1
              obtain ⟨W0, hW0⟩ : ∃ W0, (w.alloc (.cells #[.int .i64 k, .int .i64 n, .int .u64 u, .string ⟨s.toArray⟩, .slice A keys.length c, .slice B l.length d] 26)).alloc (.cells #[.int .i64 k, .int .i64 n, .int .u64 u, .string ⟨s.toArray⟩, .slice A' keys.length c', .slice B' l'.length d'] 26) = W0 := ⟨_, rfl⟩
              have a4 : W0.cell? ⟨w.heap.size, 4, none⟩ = some (.slice A keys.length c) := by rw [← hW0, cell_of_row _ _ _ _ _ _ hx0]; rfl
              have a4' : W0.cell? ⟨w.heap.size + 1, 4, none⟩ = some (.slice A' keys.length c') := by rw [← hW0, cell_of_row _ _ _ _ _ _ hx1]; rfl
              rw [hW0] at hb0 hx0 hx1 hs0 cE
              obtain ⟨p0, p1, p2, p3, _, _⟩ := sixE hx0
              obtain ⟨q0, q1, q2, q3, _, _⟩ := sixE hx1
              have HX := Lib.hid (And.intro hx0 (And.intro hx1 (And.intro hs0 hb0)))
              clear hx0 hx1 hb0
              by_cases hll : l.length = l'.length
              · have HT := Lib.hid (And.intro hT hF)
                have HLL := Lib.hid hll
                have HIH := Lib.hid ih
                have HF3 := Lib.hid (And.intro f3 f3')
                have HL := Lib.hid (And.intro hl hl')
                have hlz : (l.length : Int) ≤ 140737488355328 := by omega
                have hzz : ((l.length : Int) != (l'.length : Int)) = false := by rw [bne_eq_false_iff_eq]; omega
                clear hF hT hll ih hl hl' f3 f3' e3 e3' f2'
                go_enter Try.func11, Try.ntmps11
                go_wp2_with (go_at_call 28; refine cE.mono ?_; clear cE; rintro e w1 ⟨rfl, hb1⟩; have x5 := cell_of_row w1 w.heap.size 5 _ _ _ ((hb1.block _ (by have := HX.out.2.2.1; omega)).trans HX.out.1); have y5 := cell_of_row w1 (w.heap.size + 1) 5 _ _ _ ((hb1.block _ (by have := HX.out.2.2.1; omega)).trans HX.out.2.1); replace x5 := x5.trans rfl; replace y5 := y5.trans rfl)
                have HB1 := Lib.hid (And.intro hb1 (And.intro x5 y5))
                clear hb1 x5 y5 p0 p1 p2 p3 q0 q1 q2 q3 a4 a4' hW0
                go_loopw [5] (fun i wr => ∃ j : Nat, j ≤ l.length ∧ i = .int .i64 (j : Int) ∧ (ptL l).take j = (ptL l').take j ∧ Below w1.heap.size w1 wr) (fun i _ => l.length - (intOf i).toNat)
                case atStart => exact ⟨0, by omega, rfl, by simp, Below.refl _ _⟩
                case round =>
                  obtain ⟨j, hj, rfl, htk, hb⟩ := hrel
                  have hw1 : w.heap.size + 1 < w1.heap.size := by have h1 := HX.out.2.2.1; have h2 := HB1.out.1.size; omega
                  have hbw : Below w.heap.size w wr := HX.out.2.2.2.trans (((HB1.out.1).mono (by have := HX.out.2.2.1; omega)).trans (hb.mono (by omega)))
                  have x5 := (hb.cell (p := ⟨w.heap.size, 5, none⟩) (by show w.heap.size < w1.heap.size; omega)).trans HB1.out.2.1
                  have y5 := (hb.cell (p := ⟨w.heap.size + 1, 5, none⟩) hw1).trans HB1.out.2.2
                  have HB := Lib.hid (And.intro hb hbw)
                  by_cases hlt : j < l.length
                  · have hlt2 : j < l'.length := by rw [← HLL.out]; exact hlt
                    obtain ⟨b1, o1, hA, hbl1⟩ := HF3.out.1.at (by omega)
                    obtain ⟨b2, o2, hA2, hbl2⟩ := HF3.out.2.at (by omega)
                    subst hA; subst hA2
                    obtain ⟨x, hxj⟩ : ∃ x, l[j]? = some x := ⟨_, List.getElem?_eq_getElem hlt⟩
                    obtain ⟨y, hyj⟩ : ∃ y, l'[j]? = some y := ⟨_, List.getElem?_eq_getElem hlt2⟩
                    have g1 : l[j]'hlt = x := by rw [List.getElem?_eq_getElem hlt] at hxj; injection hxj
                    have g2 : l'[j]'hlt2 = y := by rw [List.getElem?_eq_getElem hlt2] at hyj; injection hyj
                    have hxm : x ∈ l := g1 ▸ List.getElem_mem hlt
                    have hIx := (isL_mem HL.out.1 _ hxm).below hbw
                    have hIy := (isL_mem HL.out.2 _ (g2 ▸ List.getElem_mem hlt2 : y ∈ l')).below hbw
                    have hc := fun (v : Upw wr) => HIH.out x hxm y v.it (hIx.below v.ok) (hIy.below v.ok)
                    have htk1 : (ptL l).take (j + 1) = (ptL l).take j ++ [x.pt] := by
                      rw [ptL_map, List.take_succ_eq_append_getElem (by rw [List.length_map]; exact hlt), List.getElem_map, g1]
                    have htk2 : (ptL l').take (j + 1) = (ptL l').take j ++ [y.pt] := by
                      rw [ptL_map, List.take_succ_eq_append_getElem (by rw [List.length_map]; exact hlt2), List.getElem_map, g2]
                    obtain ⟨k1, n1, u1, s1, kv1, ks1, lv1, l1⟩ := x
                    obtain ⟨k2, n2, u2, s2, kv2, ks2, lv2, l2⟩ := y
                    have hIx0 := hIx
                    have hIy0 := hIy
                    rw [Is] at hIx0 hIy0
                    obtain ⟨_, ⟨A1, c1, rfl, _⟩, ⟨B1, d1, rfl, _⟩, _⟩ := hIx0
                    obtain ⟨_, ⟨A2, c2, rfl, _⟩, ⟨B2, d2, rfl, _⟩, _⟩ := hIy0
                    rw [val_mk, val_mk] at hc
                    obtain ⟨V, hV⟩ : ∃ V, eqv (NT.mk k1 n1 u1 s1 (.slice A1 ks1.length c1) ks1 (.slice B1 l1.length d1) l1).pt (NT.mk k2 n2 u2 s2 (.slice A2 ks2.length c2) ks2 (.slice B2 l2.length d2) l2).pt = V := ⟨_, rfl⟩
                    rw [hV] at hc
                    have hm1 := fun (v : Upw wr) => node_at6 (HF3.out.1.below (hbw.trans (v.ok.mono hbw.size))) hxj
                    have hm2 := fun (v : Upw wr) => node_at6 (HF3.out.2.below (hbw.trans (v.ok.mono hbw.size))) hyj
                    have r5 := fun (v : Upw wr) => (v.ok.cell (p := ⟨w.heap.size, 5, none⟩) (by show w.heap.size < wr.heap.size; have := hb.size; omega)).trans x5
                    have r5' := fun (v : Upw wr) => (v.ok.cell (p := ⟨w.heap.size + 1, 5, none⟩) (by show w.heap.size + 1 < wr.heap.size; have := hb.size; omega)).trans y5
                    have a0 := fun v => (hm1 v).1
                    have a1 := fun v => (hm1 v).2.1
                    have a2 := fun v => (hm1 v).2.2.1
                    have a3 := fun v => (hm1 v).2.2.2.1
                    have a4 := fun v => (hm1 v).2.2.2.2.1
                    have a5 := fun v => (hm1 v).2.2.2.2.2
                    have b0 := fun v => (hm2 v).1
                    have b1' := fun v => (hm2 v).2.1
                    have b2' := fun v => (hm2 v).2.2.1
                    have b3 := fun v => (hm2 v).2.2.2.1
                    have b4 := fun v => (hm2 v).2.2.2.2.1
                    have b5 := fun v => (hm2 v).2.2.2.2.2
                    have hjl : (j : Int) < (l.length : Int) := by omega
                    have hjl2 : (j : Int) < (l'.length : Int) := by omega
                    have HV := Lib.hid (And.intro hV (And.intro htk (And.intro htk1 htk2)))
                    have HC := Lib.hid hc
                    clear hm1 hm2 hV htk htk1 htk2 hIx hIy hxm g1 g2 hxj hyj hb hbw hc hw1
                    go_wp2
                    refine wp_region_upw (by kernel_rfl) (by kernel_rfl) ?_
                    repeat (go_big_quiet_step (with_reducible exact Calls.upw (HC.out _)))
                    refine wpQuiet_nil ?_
                    intro _ hw'
                    obtain ⟨nq, hw''⟩ := hw'
                    subst hw''
                    have hbe := HB.out.1.trans (nq.ok.mono HB.out.1.size)
                    have HBE := Lib.hid hbe
                    generalize nq.it = w9 at HBE ⊢
                    clear r5 r5' a0 a1 a2 a3 a4 a5 b0 b1' b2' b3 b4 b5 HC hbe nq x5 y5
                    obtain ⟨hV, htk, htk1, htk2⟩ := HV.out
                    cases V with
                    | true =>
                      have HK := Lib.hid (show (ptL l).take (j + 1) = (ptL l').take (j + 1) by rw [htk1, htk2, htk, eqv_iff.1 hV])
                      clear hV htk htk1 htk2
                      go_wp2
                      go_roundw
                      case rel => exact ⟨j + 1, by omega, by simp, HK.out, HBE.out⟩
                      case measure => simp [intOf]; omega
                    | false =>
                      have HR := Lib.hid (HT.out.2 (fun h => by
                        have e : (ptL l).take (j + 1) = (ptL l').take (j + 1) := by rw [h.2.2.2.2.2]
                        rw [htk1, htk2, htk] at e
                        have e2 := List.append_cancel_left e
                        injection e2 with e3 _
                        have := eqv_true e3
                        rw [hV] at this
                        cases this))
                      clear hV htk htk1 htk2
                      go_wp2
                      go_ret
                      exact ⟨by rw [HR.out]; rfl, HX.out.2.2.2.trans (((HB1.out.1).mono (by have := HX.out.2.2.1; omega)).trans (HBE.out.mono (by have h1 := HX.out.2.2.1; have h2 := HB1.out.1.size; omega)))⟩
                  · obtain rfl : j = l.length := by omega
                    have HR := Lib.hid (HT.out.1 ⟨by trivial, by trivial, by trivial, by trivial, by trivial, by
                      have h1 := htk
                      rw [show l.length = (ptL l).length from (ptL_len l).symm, List.take_length, List.take_of_length_le (by rw [ptL_len, ptL_len, HLL.out]; exact Nat.le_refl _)] at h1
                      exact h1⟩)
                    clear htk hb
                    go_wp2
                    go_ret
                    exact ⟨by rw [HR.out]; rfl, HB.out.2⟩
              · obtain rfl := hF (fun h => hll (by have := congrArg List.length h.2.2.2.2.2; rw [ptL_len, ptL_len] at this; exact this))
                have hz : ((l.length : Int) != (l'.length : Int)) = true := by rw [bne_iff_ne]; omega
                clear hF hT hll ih hl hl' f3 f3' e3 e3'
                go_enter Try.func11, Try.ntmps11
                go_wp2_with (go_at_call 28; refine cE.mono ?_; clear cE; rintro e w1 ⟨rfl, hb1⟩; have x5 := cell_of_row w1 w.heap.size 5 _ _ _ ((hb1.block _ (by have := HX.out.2.2.1; omega)).trans HX.out.1); have y5 := cell_of_row w1 (w.heap.size + 1) 5 _ _ _ ((hb1.block _ (by have := HX.out.2.2.1; omega)).trans HX.out.2.1); replace x5 := x5.trans rfl; replace y5 := y5.trans rfl)
                go_ret
                exact ⟨rfl, HX.out.2.2.2.trans (hb1.mono (by have := HX.out.2.2.1; omega))⟩
            · rw [decide_eq_false hkk] at cE
              obtain rfl := hF (fun h => hkk h.2.2.2.2.1)
              clear hF hT hkk ih hl hl' f3 f3' e3 e3'
              go_enter Try.func11, Try.ntmps11
              go_wp2_with (go_at_call 28; refine cE.mono ?_; clear cE; rintro e w1 ⟨rfl, hb1⟩)
              go_ret
              exact ⟨rfl, hb0.trans (hb1.mono hb0.size)⟩
          · obtain rfl := hF (fun h => hs h.2.2.2.1)
            have hz : (s == s') = false := beq_eq_false_iff_ne.2 hs
            have hz2 : (s != s') = true := bne_iff_ne.2 hs
            clear hF hT hs ih hl hl' f3 f3' e3 e3'
            go_enter Try.func11, Try.ntmps11
            go_wp2
            go_ret
            exact ⟨rfl, hb0⟩
        · obtain rfl := hF (fun h => hu h.2.2.1)
          have hz : (u != u') = true := bne_iff_ne.2 hu
          clear hF hT hu ih hl hl' f3 f3' e3 e3'
          go_enter Try.func11, Try.ntmps11
          go_wp2
          go_ret
          exact ⟨rfl, hb0⟩
      · obtain rfl := hF (fun h => hn h.2.1)
        have hz : (n != n') = true := bne_iff_ne.2 hn
        clear hF hT hn ih hl hl' f3 f3' e3 e3'
        go_enter Try.func11, Try.ntmps11
        go_wp2
        go_ret
        exact ⟨rfl, hb0⟩
    · obtain rfl := hF (fun h => hk h.1)
      have hz : (k != k') = true := bne_iff_ne.2 hk
      clear hF hT hk ih hl hl' f3 f3' e3 e3'
      go_enter Try.func11, Try.ntmps11
      go_wp2
      go_ret
      exact ⟨rfl, hb0⟩
end Go.Proofs.Yteoggaioleckhaa
