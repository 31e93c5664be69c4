import Derived.Test.YtalegkgonbmaoaaDoorRefQuote
import Derived.Test.YtalegkgonbmaoaaDoorPlace
import Derived.OpenShut
/- The law UtfTells: its walk. -/
set_option linter.unusedVariables false
set_option linter.unusedSimpArgs false
namespace Go.Proofs.YtalegkgonbmaoaaDoor
open Go.RowKit
set_option maxRecDepth 100000 in
set_option maxHeartbeats 1000000 in
theorem utfTells_walk (s : ByteArray) (r : Int) (w : World) (hs : s.size ≤ maxLen) (hr : (Lit.int .i32 r).wf = true) (hT : Lib.Utf8Tabs 0 1 w) (h2 : 2 ≤ w.heap.size) :
    Calls Tryd.prog 5 #[.string s, .int .i32 r] w fun e w' => e = .returned (.bool true) ∧ Below w.heap.size w w' := by
  obtain ⟨ls, rfl⟩ := str_list s
  have hls : ls.length ≤ 9223372036854775807 := by have : (ByteArray.mk ls.toArray).size = ls.length := by { show ls.toArray.size = _; simp }; unfold maxLen at hs; omega
  have hr0 : -2147483648 ≤ r ∧ r ≤ 2147483647 := Go.bounds_i32 hr
  have cS : ∀ w, Calls Tryd.prog 15 #[.string ⟨ls.toArray⟩, .int .i64 400] w fun e w' => e = .returned (.string ⟨(ls.take 400).toArray⟩) ∧ w' = w := fun w => short_any ls 400 w hls (by omega)
  obtain ⟨l, hl⟩ : ∃ l, ls.take 400 = l := ⟨_, rfl⟩
  have hll : l.length ≤ 400 := by rw [← hl]; simp; omega
  rw [hl] at cS
  have cN : ∀ wx, Below w.heap.size w wx → Calls Tryd.prog 19 #[.string ⟨l.toArray⟩] wx fun e w' => e = .returned (nextV l) ∧ Below wx.heap.size wx w' := fun wx hb => next_any l wx (tabs_below hT h2 hb)
  have cM : ∀ wx, Calls Tryd.prog 20 #[.string ⟨l.toArray⟩] wx fun e w' => e = .returned (nextV l) ∧ Below wx.heap.size wx w' := fun wx => refNext_any l wx (by omega)
  have cP : ∀ wx, Calls Tryd.prog 21 #[.int .i32 r] wx fun e w' => e = .returned (putV r) ∧ w' = wx := fun wx => put_any r wx
  have cO : ∀ wx, Calls Tryd.prog 22 #[.int .i32 r] wx fun e w' => e = .returned (putV r) ∧ Below wx.heap.size wx w' := fun wx => refPut_any r wx hr0.1 hr0.2
  have cQ : ∀ wx, Below w.heap.size w wx → Calls Tryd.prog 13 #[.string ⟨l.toArray⟩] wx fun e w' => e = .returned (.tuple #[.string ⟨(quoteA l).1.toArray⟩, .int .i64 ((quoteA l).2 : Int)]) ∧ Below wx.heap.size wx w' := fun wx hb => quote_any l wx (tabs_below hT h2 hb) (by omega)
  have cU : ∀ wx, Calls Tryd.prog 23 #[.string ⟨l.toArray⟩] wx fun e w' => e = .returned (.tuple #[.string ⟨(quoteA l).1.toArray⟩, .int .i64 ((quoteA l).2 : Int)]) ∧ Below wx.heap.size wx w' := fun wx => refQuote_any l wx (by omega)
  have cV : ∀ wx, Below w.heap.size w wx → Calls Tryd.prog 24 #[.string ⟨l.toArray⟩] wx fun e w' => e = .returned (.bool (Lib.validD l)) ∧ Below wx.heap.size wx w' := fun wx hb => valid_any l wx (tabs_below hT h2 hb) (by omega)
  have cW : ∀ wx, Calls Tryd.prog 25 #[.string ⟨l.toArray⟩] wx fun e w' => e = .returned (.bool (Lib.validD l)) ∧ Below wx.heap.size wx w' := fun wx => refValid_any l wx (by omega)
  have cK := fun wx (hb : Below w.heap.size w wx) => works_any wx (tabs_below hT h2 hb) (Nat.le_trans h2 hb.size)
  obtain ⟨n1, n2, n3, hnv⟩ : ∃ (n1 n2 : Nat) (n3 : Bool), nextV l = .tuple #[.int .i32 (n1 : Int), .int .i64 (n2 : Int), .bool n3] := by
    unfold nextV
    cases nxt l with
    | none => exact ⟨0, 0, false, rfl⟩
    | some p => exact ⟨p.1, p.2, true, rfl⟩
  obtain ⟨p1, p2, hpv⟩ : ∃ (p1 : List UInt8) (p2 : Bool), putV r = .tuple #[.string ⟨p1.toArray⟩, .bool p2] := ⟨_, _, rfl⟩
  obtain ⟨q1, hq1⟩ : ∃ q1, (quoteA l).1 = q1 := ⟨_, rfl⟩
  obtain ⟨q2, hq2⟩ : ∃ q2, (quoteA l).2 = q2 := ⟨_, rfl⟩
  obtain ⟨v, hv⟩ : ∃ v, Lib.validD l = v := ⟨_, rfl⟩
  rw [hnv] at cN cM
  rw [hpv] at cP cO
  rw [hq1, hq2] at cQ cU
  rw [hv] at cV cW
  clear hnv hpv hq1 hq2 hv hT h2 hs hr hr0 hl hls
  have hg := Below.refl w.heap.size w
  go_enter Tryd.func5, Tryd.ntmps5
  go_wp2_with (first | (go_at_call 15; refine (cS _).mono ?_; rintro e1 w1 ⟨rfl, hw⟩; rw [hw]; clear hw) | (go_at_call 19; refine (cN _ hg).mono ?_; rintro e1 w1 ⟨rfl, hb1⟩; replace hg := hg.trans (hb1.mono hg.size); clear hb1) | (go_at_call 20; refine (cM _).mono ?_; rintro e2 w2 ⟨rfl, hb2⟩; replace hg := hg.trans (hb2.mono hg.size); clear hb2) | (go_at_call 21; refine (cP _).mono ?_; rintro e3 w3 ⟨rfl, hw⟩; rw [hw]; clear hw) | (go_at_call 22; refine (cO _).mono ?_; rintro e4 w4 ⟨rfl, hb4⟩; replace hg := hg.trans (hb4.mono hg.size); clear hb4) | (go_at_call 13; refine (cQ _ hg).mono ?_; rintro e5 w5 ⟨rfl, hb5⟩; replace hg := hg.trans (hb5.mono hg.size); clear hb5) | (go_at_call 23; refine (cU _).mono ?_; rintro e6 w6 ⟨rfl, hb6⟩; replace hg := hg.trans (hb6.mono hg.size); clear hb6) | (go_at_call 24; refine (cV _ hg).mono ?_; rintro e7 w7 ⟨rfl, hb7⟩; replace hg := hg.trans (hb7.mono hg.size); clear hb7) | (go_at_call 25; refine (cW _).mono ?_; rintro e8 w8 ⟨rfl, hb8⟩; replace hg := hg.trans (hb8.mono hg.size); clear hb8) | (go_at_call 16; refine (cK _ hg).mono ?_; rintro e9 w9 ⟨rfl, hb9⟩; replace hg := hg.trans (hb9.mono hg.size); clear hb9))
  go_ret
  exact ⟨rfl, hg⟩
end Go.Proofs.YtalegkgonbmaoaaDoor
