import Derived.Test.YtalegkgonbmaoaaDoorText
/- The law UtfBack: its walk. -/
set_option linter.unusedVariables false
set_option linter.unusedSimpArgs false
namespace Go.Proofs.YtalegkgonbmaoaaDoor
open Go.RowKit
theorem quotes_len : ∀ rs : List Nat, (rs.flatMap quoteOne).length ≤ 6 * rs.length
  | [] => by simp
  | r :: rs => by rw [List.flatMap_cons, List.length_append, List.length_cons]; have := quoteOne_len r; have := quotes_len rs; omega
set_option maxRecDepth 100000 in
set_option maxHeartbeats 1000000 in
theorem utfBack_walk (A : Option Addr) (n c : Nat) (zs : List Int) (b : ByteArray) (w : World) (hA : IsInts .i64 w A n c zs) (hb : b.size ≤ maxLen) (hT : Lib.Utf8Tabs 0 1 w) (h2 : 2 ≤ w.heap.size) :
    Calls Tryd.prog 7 #[.slice A n c, .string b] w fun e w' => e = .returned (.bool true) ∧ Below w.heap.size w w' := by
  obtain ⟨lb, rfl⟩ := str_list b
  have hlb : lb.length ≤ 9223372036854775807 := by have : (ByteArray.mk lb.toArray).size = lb.length := by { show lb.toArray.size = _; simp }; unfold maxLen at hb; omega
  have cB : ∀ w, Calls Tryd.prog 15 #[.string ⟨lb.toArray⟩, .int .i64 60] w fun e w' => e = .returned (.string ⟨(lb.take 60).toArray⟩) ∧ w' = w := fun w => short_any lb 60 w hlb (by omega)
  obtain ⟨t, ht⟩ : ∃ t, lb.take 60 = t := ⟨_, rfl⟩
  have htl : t.length ≤ 60 := by rw [← ht]; simp; omega
  rw [ht] at cB
  obtain ⟨rs, hrs⟩ : ∃ rs, runes zs = rs := ⟨_, rfl⟩
  have hsc : ∀ r ∈ rs, Sc r := by rw [← hrs]; exact runes_sc zs
  have hrl : rs.length ≤ 60 := by rw [← hrs]; exact runes_len zs
  obtain ⟨hq, hu⟩ := unq_quote rs hsc t
  have hv := valid_encs rs hsc
  have hel := encs_len rs
  have hql := quotes_len rs
  obtain ⟨T, hTT⟩ : ∃ T, encs rs = T := ⟨_, rfl⟩
  obtain ⟨Q, hQQ⟩ : ∃ Q, [34] ++ rs.flatMap quoteOne ++ [34] = Q := ⟨_, rfl⟩
  have hQl : Q.length ≤ 400 := by rw [← hQQ]; simp only [List.length_append, List.length_cons, List.length_nil]; omega
  rw [hTT] at hq hu hv hel
  rw [hQQ] at hq hu
  have hn : n ≤ 9223372036854775807 := by have := hA.2.1; have := hA.2.2.1; unfold maxLen at this; omega
  have cK := works_any w hT h2
  have cX : ∀ wx, Below w.heap.size w wx → Calls Tryd.prog 12 #[.slice A n c] wx fun e w' => e = .returned (.string ⟨T.toArray⟩) ∧ w' = wx := fun wx hb => by
    have := textOf_any A n c zs wx (hA.1.below hb) hn
    rw [hrs, hTT] at this
    exact this
  have cQ : ∀ wx, Below w.heap.size w wx → Calls Tryd.prog 13 #[.string ⟨T.toArray⟩] wx fun e w' => e = .returned (.tuple #[.string ⟨Q.toArray⟩, .int .i64 0]) ∧ Below wx.heap.size wx w' := fun wx hb => quote_at T Q 0 hq wx (tabs_below hT h2 hb) (by omega)
  have cV : ∀ wx, Below w.heap.size w wx → Calls Tryd.prog 24 #[.string ⟨T.toArray⟩] wx fun e w' => e = .returned (.bool true) ∧ Below wx.heap.size wx w' := fun wx hb => by
    have := valid_any T wx (tabs_below hT h2 hb) (by omega)
    rw [hv] at this
    exact this
  have cR : ∀ wx, Below w.heap.size w wx → Calls Tryd.prog 14 #[.string ⟨(Q ++ t).toArray⟩, .string ⟨T.toArray⟩, .int .i64 (Q.length : Int)] wx fun e w' => e = .returned (.bool true) ∧ Below wx.heap.size wx w' := fun wx hb => reads_true (Q ++ t) T Q.length hu wx (tabs_below hT h2 hb) (Nat.le_trans h2 hb.size) (by simp; omega)
  have happ := app_list Q t
  have hbd : Q.length + t.length ≤ 9223372036854775807 := by omega
  clear hA hq hu hv hel hql hTT hQQ hrs hsc hrl ht hb hT h2
  go_enter Tryd.func7, Tryd.ntmps7
  go_wp2_with (first | (go_at_call 16; refine cK.mono ?_; rintro e1 w1 ⟨rfl, hb1⟩) | (go_at_call 12; refine (cX _ hb1).mono ?_; rintro e2 w2 ⟨rfl, hw⟩; rw [hw]; clear hw) | (go_at_call 13; refine (cQ _ hb1).mono ?_; rintro e2 w3 ⟨rfl, hb3⟩; have hb13 := hb1.trans (hb3.mono hb1.size)) | (go_at_call 24; refine (cV _ hb13).mono ?_; rintro e3 w4 ⟨rfl, hb4⟩; have hb14 := hb13.trans (hb4.mono hb13.size)) | (go_at_call 15; refine (cB _).mono ?_; rintro e4 w5 ⟨rfl, hw⟩; rw [hw]; clear hw) | (go_at_call 14; refine (cR _ hb14).mono ?_; rintro e5 w6 ⟨rfl, hb6⟩))
  go_ret
  exact ⟨rfl, hb14.trans (hb6.mono hb14.size)⟩
end Go.Proofs.YtalegkgonbmaoaaDoor
