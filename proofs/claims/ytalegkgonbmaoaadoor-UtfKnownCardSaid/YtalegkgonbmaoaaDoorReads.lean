import Derived.Test.YtalegkgonbmaoaaDoorRefUnq
import Derived.Test.YtalegkgonbmaoaaDoorPlace
import Derived.OpenShut
/- The law UtfReads: its walk. -/
set_option linter.unusedVariables false
set_option linter.unusedSimpArgs false
namespace Go.Proofs.YtalegkgonbmaoaaDoor
open Go.RowKit
set_option maxRecDepth 100000 in
set_option maxHeartbeats 1000000 in
theorem utfReads_walk (s : ByteArray) (w : World) (hs : s.size ≤ maxLen) (hT : Lib.Utf8Tabs 0 1 w) (h2 : 2 ≤ w.heap.size) :
    Calls Tryd.prog 6 #[.string s] w fun e w' => e = .returned (.bool true) ∧ Below w.heap.size w w' := by
  obtain ⟨ls, rfl⟩ := str_list s
  have hls : ls.length ≤ 9223372036854775807 := by have : (ByteArray.mk ls.toArray).size = ls.length := by { show ls.toArray.size = _; simp }; unfold maxLen at hs; omega
  have cS : ∀ w, Calls Tryd.prog 15 #[.string ⟨ls.toArray⟩, .int .i64 400] w fun e w' => e = .returned (.string ⟨(ls.take 400).toArray⟩) ∧ w' = w := fun w => short_any ls 400 w hls (by omega)
  obtain ⟨l, hl⟩ : ∃ l, ls.take 400 = l := ⟨_, rfl⟩
  have hll : l.length ≤ 400 := by rw [← hl]; simp; omega
  rw [hl] at cS
  have cN : ∀ wx, Below w.heap.size w wx → Calls Tryd.prog 26 #[.string ⟨l.toArray⟩] wx fun e w' => e = .returned (ansV (unq l)) ∧ Below wx.heap.size wx w' := fun wx hb => unquote_any l wx (tabs_below hT h2 hb) (Nat.le_trans h2 hb.size) (by omega)
  have cM : ∀ wx, Calls Tryd.prog 27 #[.string ⟨l.toArray⟩] wx fun e w' => e = .returned (ansV (unq l)) ∧ Below wx.heap.size wx w' := fun wx => refUnq_any l wx (by omega)
  have cK := fun wx (hb : Below w.heap.size w wx) => works_any wx (tabs_below hT h2 hb) (Nat.le_trans h2 hb.size)
  obtain ⟨⟨A1, A2, A3, A4⟩, hA⟩ : ∃ A, unq l = A := ⟨_, rfl⟩
  rw [hA] at cN cM
  unfold ansV at cN cM
  simp only at cN cM
  clear hA hT h2 hs hl hls hll
  have hg := Below.refl w.heap.size w
  go_enter Tryd.func6, Tryd.ntmps6
  go_wp2_with (first | (go_at_call 15; refine (cS _).mono ?_; rintro e1 w1 ⟨rfl, hw⟩; rw [hw]; clear hw) | (go_at_call 26; refine (cN _ hg).mono ?_; rintro e1 w1 ⟨rfl, hb1⟩; replace hg := hg.trans (hb1.mono hg.size); clear hb1) | (go_at_call 27; refine (cM _).mono ?_; rintro e2 w2 ⟨rfl, hb2⟩; replace hg := hg.trans (hb2.mono hg.size); clear hb2) | (go_at_call 16; refine (cK _ hg).mono ?_; rintro e9 w9 ⟨rfl, hb9⟩; replace hg := hg.trans (hb9.mono hg.size); clear hb9))
  go_ret
  exact ⟨rfl, hg⟩
end Go.Proofs.YtalegkgonbmaoaaDoor
