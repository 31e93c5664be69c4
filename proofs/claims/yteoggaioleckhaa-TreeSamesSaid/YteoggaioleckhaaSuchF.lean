import Derived.Test.YteoggaioleckhaaSuchB
import Derived.Test.YteoggaioleckhaaSuchC
import Derived.Test.YteoggaioleckhaaSuchD
import Derived.Test.YteoggaioleckhaaSuchE
import Derived.Deep.Cut
import Derived.Deep.RegionWith
/- tree.such: a class of kinds. -/
set_option linter.unusedVariables false
set_option linter.unusedSimpArgs false
namespace Go.Proofs.Yteoggaioleckhaa
open Go.RowKit

theorem such_any (t : NT) (w : World) (h : Is w t) : Calls Try.prog 25 #[t.val] w fun e w' => e = .returned (.bool (suchP t.pt)) ∧ Below w.heap.size w w' := by
  obtain ⟨k, n, u, s, kv, keys, lv, l⟩ := t
  rw [Is] at h
  obtain ⟨⟨hk, hn, hu, hs, _⟩, ⟨A, c, rfl, e2, e3⟩, ⟨B, d, rfl, f2, f3⟩, hl⟩ := h
  rw [NT.pt]
  by_cases hr : 1 ≤ k ∧ k ≤ 17
  · have cU := fun w => uses_any k hr.1 hr.2 w
    have cP := fun w => part_any k hr.1 hr.2 w
    have cC := fun (b : Nat) (wx : World) (hc : wx.cell? ⟨b, 0, none⟩ = some (.int .i64 (partV k))) (hb : Below w.heap.size w wx) (hlt : b < wx.heap.size) => contains_any b (partV k) B d l wx (f3.below hb) f2 hc hlt
    have k0 : ¬ k < 1 := by omega
    have k1 : ¬ 17 < k := by omega
    have hC : (k = 2) ∨ (k = 3 ∨ k = 8) ∨ (k = 4 ∨ k = 9) ∨ (k = 5 ∨ k = 6 ∨ k = 7) ∨ (k = 17) ∨ (k = 15) ∨ (k = 16) ∨ (k = 1 ∨ k = 10 ∨ k = 11 ∨ k = 12 ∨ k = 13 ∨ k = 14) := by omega
    rcases hC with h | h | h | h | h | h | h | h
    · subst h; exact suchc_a n u s A c keys B d l w _ (Lib.hid rfl) (Lib.hid rfl) cU cP cC
    · have hU : usesV k = 1 := by unfold usesV; (repeat' split) <;> omega
      rw [hU] at cU
      exact suchc_b k n u s A c keys B d l w _ k0 k1 (by omega) (by omega) (by omega) (by omega) (Lib.hid hU) (Lib.hid rfl) cU cP cC
    · have hU : usesV k = 2 := by unfold usesV; (repeat' split) <;> omega
      rw [hU] at cU
      exact suchc_c k n u s A c keys B d l w _ k0 k1 (by omega) (by omega) (by omega) (by omega) (Lib.hid hU) (Lib.hid rfl) cU cP cC
    · have hU : usesV k = 4 := by unfold usesV; (repeat' split) <;> omega
      rw [hU] at cU
      exact suchc_d k n u s A c keys B d l w _ k0 k1 (by omega) (by omega) (by omega) (by omega) (Lib.hid hU) (Lib.hid rfl) cU cP cC
    · subst h; exact suchc_e n u s A c keys B d l w _ (Lib.hid rfl) (Lib.hid rfl) cU cP cC
    · subst h; exact suchc_f n u s A c keys B d l w _ (Lib.hid rfl) (Lib.hid rfl) cU cP cC
    · subst h; exact suchc_g n u s A c keys B d l w _ (Lib.hid rfl) (Lib.hid rfl) cU cP cC
    · have hU : usesV k = 0 := by unfold usesV; (repeat' split) <;> omega
      rw [hU] at cU
      exact suchc_h k n u s A c keys B d l w _ k0 k1 (by omega) (by omega) (by omega) (by omega) (Lib.hid hU) (Lib.hid rfl) cU cP cC
  · have hf : suchP (.mk k n u s keys (ptL l)) = false := by simp [suchP, hr]
    rw [hf]
    have hb : Below w.heap.size w (w.alloc (.cells #[.int .i64 k, .int .i64 n, .int .u64 u, .string ⟨s.toArray⟩, .slice A keys.length c, .slice B l.length d] 26)) := (Below.refl _ w).alloc (Nat.le_refl _) _
    clear hf e3 f3 hl
    unfold NT.val NT.cells
    simp only [List.toArray]
    by_cases h1 : k < 1
    · clear hr
      go_enter Try.func25, Try.ntmps25
      go_wp2
      go_ret
      exact ⟨rfl, hb⟩
    · have h17 : 17 < k := by omega
      clear hr
      go_enter Try.func25, Try.ntmps25
      go_wp2
      go_ret
      exact ⟨rfl, hb⟩
end Go.Proofs.Yteoggaioleckhaa
