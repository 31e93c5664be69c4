import Derived.Test.YteoggaioleckhaaSuch
/- slices.IndexFunc, ContainsFunc at the closure of such. -/
set_option linter.unusedVariables false
set_option linter.unusedSimpArgs false
namespace Go.Proofs.Yteoggaioleckhaa
open Go.RowKit
/-- The node at its place in a row. -/
theorem node_at {w : World} {b o : Nat} {l : List NT} (h : Rd w 6 (some ⟨b, o, none⟩) l.length (l.flatMap NT.cells)) {i : Nat} {t : NT} (ht : l[i]? = some t) :
    ∀ (j : Nat) (u : Value), t.cells[j]? = some u → w.cell? ⟨b, o + (i * 6 + j), none⟩ = some u := by
  intro j u hu
  have hi : i < l.length := by
    rcases Nat.lt_or_ge i l.length with h | h
    · exact h
    · rw [List.getElem?_eq_none h] at ht; cases ht
  have key : ∀ (l : List NT) (i : Nat), l[i]? = some t → (l.flatMap NT.cells)[i * 6 + j]? = some u := by
    intro l
    induction l with
    | nil => intro i hi; cases hi
    | cons x l ih =>
      intro i hi
      rw [List.flatMap_cons]
      have hj : j < 6 := by
        rcases Nat.lt_or_ge j 6 with h | h
        · exact h
        · rw [List.getElem?_eq_none (by rw [cells_len]; exact h)] at hu; cases hu
      cases i with
      | zero =>
        injection hi with hi; subst hi
        rw [Nat.zero_mul, Nat.zero_add, List.getElem?_append_left (by rw [cells_len]; exact hj), hu]
      | succ i =>
        rw [List.getElem?_append_right (by rw [cells_len]; omega), cells_len, show (i + 1) * 6 + j - 6 = i * 6 + j by omega]
        exact ih i hi
  obtain ⟨b', o', e, hb, hc⟩ := h.2 (by omega)
  cases e
  exact hc _ _ (key l i ht)
theorem Rd.at {w : World} {sz n : Nat} {A : Option Addr} {xs : List Value} (h : Rd w sz A n xs) (hn : 0 < n) : ∃ b o, A = some ⟨b, o, none⟩ ∧ b < w.heap.size := by
  obtain ⟨b, o, e, hb, _⟩ := h.2 hn
  exact ⟨b, o, e, hb⟩
theorem node_at6 {w : World} {b o : Nat} {l : List NT} (h : Rd w 6 (some ⟨b, o, none⟩) l.length (l.flatMap NT.cells)) {i : Nat} {k n u : Int} {s : List UInt8} {kv : Value} {ks : List (List UInt8)} {lv : Value} {l' : List NT} (ht : l[i]? = some (.mk k n u s kv ks lv l')) :
    w.cell? ⟨b, o + i * 6, none⟩ = some (.int .i64 k) ∧ w.cell? ⟨b, o + i * 6 + 1, none⟩ = some (.int .i64 n) ∧ w.cell? ⟨b, o + i * 6 + 2, none⟩ = some (.int .u64 u) ∧ w.cell? ⟨b, o + i * 6 + 3, none⟩ = some (.string ⟨s.toArray⟩) ∧ w.cell? ⟨b, o + i * 6 + 4, none⟩ = some kv ∧ w.cell? ⟨b, o + i * 6 + 5, none⟩ = some lv := by
  have H := node_at h ht
  exact ⟨H 0 _ rfl, H 1 _ rfl, H 2 _ rfl, H 3 _ rfl, H 4 _ rfl, H 5 _ rfl⟩
set_option maxRecDepth 100000 in
set_option maxHeartbeats 1000000 in
theorem indexFunc_any (B : Nat) (p : Int) (A : Option Addr) (c : Nat) (l : List NT) (w : World) (hr : Rd w 6 A l.length (l.flatMap NT.cells)) (hl : l.length ≤ 140737488355328) (hc : w.cell? ⟨B, 0, none⟩ = some (.int .i64 p)) (hB : B < w.heap.size) :
    Calls Try.prog 47 #[.slice A l.length c, .func (.func 39) #[] #[.pointer (some ⟨B, 0, none⟩)]] w fun e w' => (∃ z : Int, e = .returned (.int .i64 z) ∧ -1 ≤ z ∧ z ≤ 140737488355328 ∧ decide (0 ≤ z) = (ptL l).any (otherV p)) ∧ Below w.heap.size w w' := by
  have hl2 : (l.length : Int) ≤ 140737488355328 := by omega
  go_enter Try.func47, Try.ntmps47
  go_wp2
  go_loopw [8] (fun i wr => ∃ k : Nat, k ≤ l.length ∧ i = .int .i64 (k : Int) ∧ ((ptL l).take k).any (otherV p) = false ∧ Below w.heap.size w wr) (fun i _ => l.length - (intOf i).toNat)
  case atStart => exact ⟨0, by omega, rfl, by simp, Below.refl _ _⟩
  case round =>
    obtain ⟨k, hk, rfl, hno, hb⟩ := hrel
    have HB := Lib.hid hb
    by_cases hlt : k < l.length
    · obtain ⟨b, o, rfl, hbw⟩ := hr.at (by omega)
      obtain ⟨t, ht⟩ : ∃ t, l[k]? = some t := ⟨_, List.getElem?_eq_getElem hlt⟩
      obtain ⟨k', n', u', s', kv', ks', lv', l'⟩ := t
      obtain ⟨c0, c1, c2, c3, c4, c5⟩ := node_at6 (hr.below hb) ht
      have cO := fun (wx : World) (hx : Below w.heap.size w wx) => other_any B p (.mk k' n' u' s' kv' ks' lv' l') wx ((hx.cell (p := ⟨B, 0, none⟩) hB).trans hc) (Nat.lt_of_lt_of_le hB hx.size)
      have hk1 : (ptL l)[k]? = some (NT.mk k' n' u' s' kv' ks' lv' l').pt := by rw [ptL_map, List.getElem?_map, ht]; rfl
      have hkl : k < (ptL l).length := by rw [ptL_map, List.length_map]; exact hlt
      have hg : (ptL l)[k]'hkl = (NT.mk k' n' u' s' kv' ks' lv' l').pt := by rw [List.getElem?_eq_getElem hkl] at hk1; injection hk1
      cases ho : otherV p (NT.mk k' n' u' s' kv' ks' lv' l').pt with
      | true =>
        rw [ho] at cO
        have HA := Lib.hid (show (ptL l).any (otherV p) = true from List.any_eq_true.2 ⟨_, List.getElem_mem hkl, by rw [hg]; exact ho⟩)
        clear ho hk1 hg hno ht hr
        go_wp2_with (go_at_call 39; refine (cO _ HB.out).mono ?_; rintro e w1 ⟨rfl, hb1⟩)
        go_ret
        exact ⟨⟨_, rfl, by omega, by omega, by rw [HA.out]; exact decide_eq_true (by omega)⟩, HB.out.trans (hb1.mono HB.out.size)⟩
      | false =>
        rw [ho] at cO
        have HA := Lib.hid (show ((ptL l).take (k + 1)).any (otherV p) = false by
          rw [List.take_succ_eq_append_getElem hkl, List.any_append, hno, hg]; simp [ho])
        clear ho hk1 hg hno ht
        go_wp2_with (go_at_call 39; refine (cO _ HB.out).mono ?_; rintro e w1 ⟨rfl, hb1⟩)
        go_roundw
        case rel => exact ⟨k + 1, by omega, by simp, HA.out, HB.out.trans (hb1.mono HB.out.size)⟩
        case measure => simp [intOf]; omega
    · obtain rfl : k = l.length := by omega
      have hall : (ptL l).any (otherV p) = false := by
        rw [← hno, List.take_of_length_le (by rw [ptL_map, List.length_map]; exact Nat.le_refl _)]
      have HA := Lib.hid hall
      clear hno hall
      go_wp2
      go_ret
      exact ⟨⟨_, rfl, by omega, by omega, by rw [HA.out]; rfl⟩, HB.out⟩
set_option maxRecDepth 100000 in
set_option maxHeartbeats 1000000 in
theorem contains_any (B : Nat) (p : Int) (A : Option Addr) (c : Nat) (l : List NT) (w : World) (hr : Rd w 6 A l.length (l.flatMap NT.cells)) (hl : l.length ≤ 140737488355328) (hc : w.cell? ⟨B, 0, none⟩ = some (.int .i64 p)) (hB : B < w.heap.size) :
    Calls Try.prog 40 #[.slice A l.length c, .func (.func 39) #[] #[.pointer (some ⟨B, 0, none⟩)]] w fun e w' => e = .returned (.bool ((ptL l).any (otherV p))) ∧ Below w.heap.size w w' := by
  have cI := indexFunc_any B p A c l w hr hl hc hB
  obtain ⟨V, hV⟩ : ∃ V, (ptL l).any (otherV p) = V := ⟨_, rfl⟩
  rw [hV] at cI ⊢
  go_enter Try.func40, Try.ntmps40
  go_wp2_with (go_at_call 47; refine cI.mono ?_; rintro e w1 ⟨⟨z, rfl, hz1, hz2, hz3⟩, hb⟩)
  go_ret
  exact ⟨rfl, hb⟩
end Go.Proofs.Yteoggaioleckhaa
