import Derived.Test.YtalegkgonbmaoaaDoorLit
import Derived.Test.YtalegkgonbmaoaaDoorBack
/- The laws UtfSpelt and UtfCut: their walks. -/
set_option linter.unusedVariables false
set_option linter.unusedSimpArgs false
namespace Go.Proofs.YtalegkgonbmaoaaDoor
open Go.RowKit
theorem quote_le_spell {r : Nat} (h : Sc r) (w : Int) : (quoteOne r).length ≤ (spell r w).length := by
  have h4 := (enc_len (r := r)).2
  have hq := quoteOne_len r
  unfold spell
  split
  · cases hm : markOf r with
    | some c =>
      simp only [List.length_cons, List.length_nil]
      unfold markOf at hm
      repeat' split at hm
      all_goals first | (injection hm with hm; subst_vars; decide) | cases hm
    | none =>
      simp only
      split
      · rename_i h32
        have : r ≠ 34 ∧ r ≠ 92 ∧ r ≠ 8 ∧ r ≠ 12 ∧ r ≠ 10 ∧ r ≠ 13 ∧ r ≠ 9 := by
          refine ⟨?_, ?_, ?_, ?_, ?_, ?_, ?_⟩ <;> rintro rfl <;> simp [markOf] at hm
        unfold quoteOne
        simp only [this, if_false, show ¬ (r < 32) by omega]
        exact Nat.le_refl _
      · rw [unit_len]; exact hq
  · split
    · rw [unit_len]; exact hq
    · rw [List.length_append, unit_len, unit_len]; omega
theorem quote_le_spelled (rs : List Nat) (ws : List Int) (h : ∀ r ∈ rs, Sc r) : ∀ k, k ≤ rs.length → ((rs.take k).flatMap quoteOne).length ≤ (spelled rs ws k).length
  | 0, _ => by simp
  | k + 1, hk => by
    have hg : rs.getD k 0 = rs[k]'(by omega) := by simp [List.getD, List.getElem?_eq_getElem (show k < rs.length by omega)]
    have ih := quote_le_spelled rs ws h k (by omega)
    have h1 := quote_le_spell (h _ (List.getElem_mem (show k < rs.length by omega))) (wayOf ws k)
    rw [spelled_succ, List.take_succ_eq_append_getElem (by omega), List.flatMap_append, List.length_append, List.length_append, hg]
    simp only [List.flatMap_cons, List.flatMap_nil, List.append_nil]
    omega
theorem short_le (zs ws : List Int) : ([34] ++ (runes zs).flatMap quoteOne ++ [34]).length ≤ (litL zs ws).length := by
  have := quote_le_spelled (runes zs) ws (runes_sc zs) (runes zs).length (Nat.le_refl _)
  rw [List.take_length] at this
  unfold litL
  simp only [List.length_append, List.length_cons, List.length_nil]
  omega
theorem mach_cut : ∀ (l : List UInt8) (s : St) (k : Nat) (x : List UInt8) (n : Nat), mach s l k = (x, n, 0, 0) → ∀ j, j < n - k → mach s (l.take j) k = ([], 0, k + j, 3)
  | [], s, k, x, n, h, j, _ => by simp [mach] at h
  | c :: t, s, k, x, n, h, j, hj => by
    cases j with
    | zero => simp [mach]
    | succ j =>
      rw [List.take_succ_cons, mach]
      rw [mach] at h
      cases hs : stepS s c with
      | bad e =>
        rw [hs] at h
        have := stepS_err hs
        simp only [Prod.mk.injEq] at h
        omega
      | ok s' =>
        rw [hs] at h
        simp only at h ⊢
        by_cases h7 : s'.state = 7
        · rw [if_pos h7] at h
          simp only [Prod.mk.injEq] at h
          omega
        · rw [if_neg h7] at h ⊢
          rw [mach_cut t s' (k + 1) x n h j (by omega), show k + 1 + j = k + (j + 1) by omega]
theorem unq_cut (zs ws : List Int) (j : Nat) (hj : j < (litL zs ws).length) : unq ((litL zs ws).take j) = ([], 0, j, 3) := by
  have h := unq_lit zs ws []
  rw [List.append_nil] at h
  have := mach_cut (litL zs ws) st0 0 _ _ h j (by omega)
  rw [Nat.zero_add] at this
  exact this
set_option maxRecDepth 100000 in
set_option maxHeartbeats 1000000 in
theorem utfCut_walk (A : Option Addr) (n c : Nat) (zs : List Int) (A2 : Option Addr) (n2 c2 : Nat) (ws : List Int) (x : Int) (w : World) (hA : IsInts .i64 w A n c zs) (hA2 : IsInts .i64 w A2 n2 c2 ws) (hx : (Lit.int .i64 x).wf = true) (hT : Lib.Utf8Tabs 0 1 w) (h2 : 2 ≤ w.heap.size) (hM : ∃ m, w.cell? ⟨2, 0, none⟩ = some (.int .i64 m)) (h3 : 3 ≤ w.heap.size) :
    Calls Tryd.prog 4 #[.slice A n c, .slice A2 n2 c2, .int .i64 x] w fun e w' => e = .returned (.bool true) ∧ Below w.heap.size w w' := by
  have hn : n ≤ 9223372036854775807 := by have := hA.2.1; have := hA.2.2.1; unfold maxLen at this; omega
  have hn2 : n2 ≤ 9223372036854775807 := by have := hA2.2.1; have := hA2.2.2.1; unfold maxLen at this; omega
  have cL := literal_any A n c zs A2 n2 c2 ws w hA.1 hn hA2.1 hn2 hM h3
  have hc := unq_cut zs ws
  obtain ⟨l1, l2⟩ := lit_len zs ws
  obtain ⟨L, hL⟩ : ∃ L, litL zs ws = L := ⟨_, rfl⟩
  rw [hL] at cL hc l1 l2
  have hLz : (0 : Int) < (L.length : Int) := by omega
  have hsz : (ByteArray.mk L.toArray).size = L.length := by show L.toArray.size = _; simp
  have cB := bring_any x (L.length : Int) (by omega) (by omega)
  obtain ⟨k, hk⟩ : ∃ k : Nat, x % (L.length : Int) = (k : Int) := ⟨(x % (L.length : Int)).toNat, by have := Int.emod_nonneg x (show (L.length : Int) ≠ 0 by omega); omega⟩
  have hkl : k < L.length := by have := Int.emod_lt_of_pos x hLz; omega
  rw [hk] at cB
  have cF : ∀ wx, Below w.heap.size w wx → Calls Tryd.prog 18 #[.string ⟨(L.take k).toArray⟩, .int .i64 (k : Int), .int .i64 3] wx fun e w' => e = .returned (.bool true) ∧ Below wx.heap.size wx w' := fun wx hb => fails_true (L.take k) k 3 (hc k hkl) wx (tabs_below hT h2 hb) (Nat.le_trans h2 hb.size) (by simp; omega)
  have cK := fun wx (hb : Below w.heap.size w wx) => works_any wx (tabs_below hT h2 hb) (Nat.le_trans h2 hb.size)
  have hst := str_take L k
  have hkz : (k : Int) ≤ (L.length : Int) := by omega
  have hk0 : (0 : Int) ≤ (k : Int) := by omega
  clear hA hA2 hx hT h2 hM h3 hc hL hk hkl l1 l2
  go_enter Tryd.func4, Tryd.ntmps4
  go_wp2_with (first | (go_at_call 11; refine cL.mono ?_; rintro e1 w1 ⟨rfl, hb1⟩) | (go_at_call 17; refine (cB _).mono ?_; rintro e2 w2 ⟨rfl, rfl⟩) | (go_at_call 18; refine (cF _ hb1).mono ?_; rintro e3 w3 ⟨rfl, hb3⟩; have hb13 := hb1.trans (hb3.mono hb1.size)) | (go_at_call 16; refine (cK _ hb13).mono ?_; rintro e4 w4 ⟨rfl, hb4⟩))
  go_ret
  exact ⟨rfl, hb13.trans (hb4.mono hb13.size)⟩
set_option maxRecDepth 100000 in
set_option maxHeartbeats 1000000 in
theorem utfSpelt_walk (A : Option Addr) (n c : Nat) (zs : List Int) (A2 : Option Addr) (n2 c2 : Nat) (ws : List Int) (b : ByteArray) (w : World) (hA : IsInts .i64 w A n c zs) (hA2 : IsInts .i64 w A2 n2 c2 ws) (hb : b.size ≤ maxLen) (hT : Lib.Utf8Tabs 0 1 w) (h2 : 2 ≤ w.heap.size) (hM : ∃ m, w.cell? ⟨2, 0, none⟩ = some (.int .i64 m)) (h3 : 3 ≤ w.heap.size) :
    Calls Tryd.prog 3 #[.slice A n c, .slice A2 n2 c2, .string b] w fun e w' => e = .returned (.bool true) ∧ Below w.heap.size w w' := by
  obtain ⟨lb, rfl⟩ := str_list b
  have hlb : lb.length ≤ 9223372036854775807 := by have : (ByteArray.mk lb.toArray).size = lb.length := by { show lb.toArray.size = _; simp }; unfold maxLen at hb; omega
  have cB : ∀ w, Calls Tryd.prog 15 #[.string ⟨lb.toArray⟩, .int .i64 60] w fun e w' => e = .returned (.string ⟨(lb.take 60).toArray⟩) ∧ w' = w := fun w => short_any lb 60 w hlb (by omega)
  obtain ⟨t, ht⟩ : ∃ t, lb.take 60 = t := ⟨_, rfl⟩
  have htl : t.length ≤ 60 := by rw [← ht]; simp; omega
  rw [ht] at cB
  have hn : n ≤ 9223372036854775807 := by have := hA.2.1; have := hA.2.2.1; unfold maxLen at this; omega
  have hn2 : n2 ≤ 9223372036854775807 := by have := hA2.2.1; have := hA2.2.2.1; unfold maxLen at this; omega
  have cL := literal_any A n c zs A2 n2 c2 ws w hA.1 hn hA2.1 hn2 hM h3
  have hu := unq_lit zs ws t
  have hle := short_le zs ws
  have hq := (unq_quote (runes zs) (runes_sc zs) []).1
  have hel := encs_len (runes zs)
  have hrl := runes_len zs
  obtain ⟨l1, l2⟩ := lit_len zs ws
  obtain ⟨L, hL⟩ : ∃ L, litL zs ws = L := ⟨_, rfl⟩
  obtain ⟨T, hTT⟩ : ∃ T, encs (runes zs) = T := ⟨_, rfl⟩
  obtain ⟨Q, hQQ⟩ : ∃ Q, [34] ++ (runes zs).flatMap quoteOne ++ [34] = Q := ⟨_, rfl⟩
  rw [hL] at cL hu hle l1 l2
  rw [hTT] at hu hq hel
  rw [hQQ] at hle hq
  have cX : ∀ wx, Below w.heap.size w wx → Calls Tryd.prog 12 #[.slice A n c] wx fun e w' => e = .returned (.string ⟨T.toArray⟩) ∧ w' = wx := fun wx hb => by
    have := textOf_any A n c zs wx (hA.1.below hb) hn
    rw [hTT] at this
    exact this
  have cQ : ∀ wx, Below w.heap.size w wx → Calls Tryd.prog 13 #[.string ⟨T.toArray⟩] wx fun e w' => e = .returned (.tuple #[.string ⟨Q.toArray⟩, .int .i64 0]) ∧ Below wx.heap.size wx w' := fun wx hb => quote_at T Q 0 hq wx (tabs_below hT h2 hb) (by omega)
  have cR : ∀ wx, Below w.heap.size w wx → Calls Tryd.prog 14 #[.string ⟨(L ++ t).toArray⟩, .string ⟨T.toArray⟩, .int .i64 (L.length : Int)] wx fun e w' => e = .returned (.bool true) ∧ Below wx.heap.size wx w' := fun wx hb => reads_true (L ++ t) T L.length hu wx (tabs_below hT h2 hb) (Nat.le_trans h2 hb.size) (by simp; omega)
  have cK := fun wx (hb : Below w.heap.size w wx) => works_any wx (tabs_below hT h2 hb) (Nat.le_trans h2 hb.size)
  have happ := app_list L t
  have hbd : L.length + t.length ≤ 9223372036854775807 := by omega
  have hlez : (Q.length : Int) ≤ (L.length : Int) := by omega
  clear hA hA2 hu hle hq hel hrl hL hTT hQQ ht hb hT h2 hM h3
  go_enter Tryd.func3, Tryd.ntmps3
  go_wp2_with (first | (go_at_call 11; refine cL.mono ?_; rintro e1 w1 ⟨rfl, hb1⟩) | (go_at_call 12; refine (cX _ hb1).mono ?_; rintro e2 w2 ⟨rfl, hw⟩; rw [hw]; clear hw) | (go_at_call 13; refine (cQ _ hb1).mono ?_; rintro e2 w3 ⟨rfl, hb3⟩; have hb13 := hb1.trans (hb3.mono hb1.size)) | (go_at_call 15; refine (cB _).mono ?_; rintro e4 w5 ⟨rfl, hw⟩; rw [hw]; clear hw) | (go_at_call 14; refine (cR _ hb13).mono ?_; rintro e5 w6 ⟨rfl, hb6⟩; have hb16 := hb13.trans (hb6.mono hb13.size)) | (go_at_call 16; refine (cK _ hb16).mono ?_; rintro e6 w7 ⟨rfl, hb7⟩))
  go_ret
  exact ⟨rfl, hb16.trans (hb7.mono hb16.size)⟩
end Go.Proofs.YtalegkgonbmaoaaDoor
