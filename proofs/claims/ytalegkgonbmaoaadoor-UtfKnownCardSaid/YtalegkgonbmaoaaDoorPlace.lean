import Derived.Test.YtalegkgonbmaoaaDoorMach
import Derived.Test.YtalegkgonbmaoaaDoorWorks
/- The law UtfPlace: its walk. -/
set_option linter.unusedVariables false
set_option linter.unusedSimpArgs false
namespace Go.Proofs.YtalegkgonbmaoaaDoor
open Go.RowKit
theorem str_list (s : ByteArray) : ∃ l : List UInt8, s = ⟨l.toArray⟩ := ⟨s.data.toList, by simp⟩
set_option maxRecDepth 100000 in
set_option maxHeartbeats 1000000 in
theorem short_any (l : List UInt8) (k : Nat) (w : World) (hl : l.length ≤ 9223372036854775807) (hk : k ≤ 1000000) :
    Calls Tryd.prog 15 #[.string ⟨l.toArray⟩, .int .i64 (k : Int)] w fun e w' => e = .returned (.string ⟨(l.take k).toArray⟩) ∧ w' = w := by
  have hsz : (ByteArray.mk l.toArray).size = l.length := by show l.toArray.size = _; simp
  by_cases h : l.length ≤ k
  · have hm : min (l.length : Int) (k : Int) = (l.length : Int) := by omega
    have hst := str_take l l.length
    rw [List.take_of_length_le (Nat.le_refl _)] at hst
    rw [List.take_of_length_le h]
    have hz : (l.length : Int) ≤ (k : Int) := by omega
    go_enter Tryd.func15, Tryd.ntmps15
    go_wp2
    go_ret
    exact ⟨rfl, rfl⟩
  · have hm : min (l.length : Int) (k : Int) = (k : Int) := by omega
    have hst := str_take l k
    have hz : (k : Int) ≤ (l.length : Int) := by omega
    have hk0 : (0 : Int) ≤ (k : Int) := by omega
    go_enter Tryd.func15, Tryd.ntmps15
    go_wp2
    go_ret
    exact ⟨rfl, rfl⟩
set_option maxRecDepth 100000 in
set_option maxHeartbeats 600000 in
theorem utfPlace_walk (s b : ByteArray) (w : World) (hs : s.size ≤ maxLen) (hb : b.size ≤ maxLen) (hT : Lib.Utf8Tabs 0 1 w) (h2 : 2 ≤ w.heap.size) :
    Calls Tryd.prog 8 #[.string s, .string b] w fun e w' => e = .returned (.bool true) ∧ Below w.heap.size w w' := by
  obtain ⟨ls, rfl⟩ := str_list s
  obtain ⟨lb, rfl⟩ := str_list b
  have hls : ls.length ≤ 9223372036854775807 := by have : (ByteArray.mk ls.toArray).size = ls.length := by { show ls.toArray.size = _; simp }; unfold maxLen at hs; omega
  have hlb : lb.length ≤ 9223372036854775807 := by have : (ByteArray.mk lb.toArray).size = lb.length := by { show lb.toArray.size = _; simp }; unfold maxLen at hb; omega
  have cS : ∀ w, Calls Tryd.prog 15 #[.string ⟨ls.toArray⟩, .int .i64 300] w fun e w' => e = .returned (.string ⟨(ls.take 300).toArray⟩) ∧ w' = w := fun w => short_any ls 300 w hls (by omega)
  have cB : ∀ w, Calls Tryd.prog 15 #[.string ⟨lb.toArray⟩, .int .i64 60] w fun e w' => e = .returned (.string ⟨(lb.take 60).toArray⟩) ∧ w' = w := fun w => short_any lb 60 w hlb (by omega)
  obtain ⟨l, hl⟩ : ∃ l, ls.take 300 = l := ⟨_, rfl⟩
  obtain ⟨t, ht⟩ : ∃ t, lb.take 60 = t := ⟨_, rfl⟩
  have hll : l.length ≤ 300 := by rw [← hl]; simp; omega
  have htl : t.length ≤ 60 := by rw [← ht]; simp; omega
  rw [hl] at cS
  rw [ht] at cB
  have cU := unquote_any l w hT h2 (by omega)
  have hsz : (ByteArray.mk l.toArray).size = l.length := by show l.toArray.size = _; simp
  cases hA : unq l with
  | mk x r =>
  obtain ⟨n, a, e⟩ := r
  rw [hA] at cU
  simp only [ansV] at cU
  have cK := fun wx (hb : Below w.heap.size w wx) => (works_any wx (tabs_below hT h2 hb) (Nat.le_trans h2 hb.size))
  by_cases he : e = 0
  · subst he
    obtain ⟨rfl, hn2, hnl⟩ := unq_ok hA
    have hz2 : (2 : Int) ≤ (n : Int) := by omega
    have hzl : (n : Int) ≤ (l.length : Int) := by omega
    clear hA hs hb hls hlb hl ht
    have hT' := Lib.hid hT
    clear hT
    go_enter Tryd.func8, Tryd.ntmps8
    go_wp2_with (first | (go_at_call 15; first | (with_reducible refine (cS _).mono ?_; rintro e1 w1 ⟨rfl, hw⟩; rw [hw]; clear hw) | (with_reducible refine (cB _).mono ?_; rintro e1 w1 ⟨rfl, hw⟩; rw [hw]; clear hw)) | (go_at_call 26; refine cU.mono ?_; rintro e1 w1 ⟨rfl, hb1⟩) | (go_at_call 16; refine (cK _ hb1).mono ?_; rintro e2 w2 ⟨rfl, hb2⟩))
    go_ret
    exact ⟨rfl, hb1.trans (hb2.mono hb1.size)⟩
  · obtain ⟨rfl, rfl, hal, h3, hp, hq⟩ := unq_bad hA he
    have cF := fun wx (hb : Below w.heap.size w wx) => fails_true (l.take a) a 3 hp wx (tabs_below hT h2 hb) (Nat.le_trans h2 hb.size) (by simp; omega)
    have hez : ¬ ((e : Int) = 0) := by omega
    have haz : ¬ ((a : Int) < 0) := by omega
    have hazl : ¬ ((l.length : Int) < (a : Int)) := by omega
    have hazl2 : (a : Int) ≤ (l.length : Int) := by omega
    have ha0 : (0 : Int) ≤ (a : Int) := by omega
    have hst := str_take l a
    by_cases hend : a = l.length
    · obtain rfl := h3.2 hend
      subst hend
      simp only [List.take_length] at cF hst
      clear hA hs hb hls hlb hl ht hp hq
      have hT' := Lib.hid hT
      clear hT
      go_enter Tryd.func8, Tryd.ntmps8
      go_wp2_with (first | (go_at_call 15; first | (with_reducible refine (cS _).mono ?_; rintro e1 w1 ⟨rfl, hw⟩; rw [hw]; clear hw) | (with_reducible refine (cB _).mono ?_; rintro e1 w1 ⟨rfl, hw⟩; rw [hw]; clear hw)) | (go_at_call 26; refine cU.mono ?_; rintro e1 w1 ⟨rfl, hb1⟩) | (go_at_call 18; refine (cF _ hb1).mono ?_; rintro e3 w3 ⟨rfl, hb3⟩) | (go_at_call 16; refine (cK _ (hb1.trans (hb3.mono hb1.size))).mono ?_; rintro e2 w2 ⟨rfl, hb2⟩))
      go_ret
      exact ⟨rfl, (hb1.trans (hb3.mono hb1.size)).trans (hb2.mono (hb1.trans (hb3.mono hb1.size)).size)⟩
    · have he3 : ¬ e = 3 := fun h => hend (h3.1 h)
      have he3z : ¬ ((e : Int) = 3) := by omega
      have hendz : ¬ ((a : Int) = (l.length : Int)) := by omega
      have hbe : ((e : Int) == 3) = false := by simp; omega
      have hba : ((a : Int) == (l.length : Int)) = false := by simp; omega
      have hmx : min (a + 1) l.length + t.length ≤ 9223372036854775807 := by omega
      have hst1 := str_take l (a + 1)
      have happ := app_list (l.take (a + 1)) t
      have cF : ∀ wx, Below w.heap.size w wx → Calls Tryd.prog 18 #[.string ⟨(l.take a).toArray⟩, .int .i64 (a : Int), .int .i64 3] wx fun e w' => e = .returned (.bool true) ∧ Below wx.heap.size wx w' := cF
      have cG := fun wx (hb : Below w.heap.size w wx) => fails_true (l.take (a + 1) ++ t) a e (hq (by omega) t) wx (tabs_below hT h2 hb) (Nat.le_trans h2 hb.size) (by simp; omega)
      have hw1 : IntKind.i64.wrap ((a : Int) + 1) = (a : Int) + 1 := by simp only [IntKind.wrap_i64]; omega
      have ha1 : (0 : Int) ≤ (a : Int) + 1 := by omega
      have ha2 : (a : Int) + 1 ≤ (l.length : Int) := by omega
      have ht1 : ((a : Int) + 1).toNat = a + 1 := by omega
      clear hA hs hb hls hlb hl ht hp hq
      have hT' := Lib.hid hT
      clear hT
      go_enter Tryd.func8, Tryd.ntmps8
      go_wp2_with (first | (go_at_call 15; first | (with_reducible refine (cS _).mono ?_; rintro e1 w1 ⟨rfl, hw⟩; rw [hw]; clear hw) | (with_reducible refine (cB _).mono ?_; rintro e1 w1 ⟨rfl, hw⟩; rw [hw]; clear hw)) | (go_at_call 26; refine cU.mono ?_; rintro e1 w1 ⟨rfl, hb1⟩) | (go_at_call 18; first | (with_reducible refine (cF _ hb1).mono ?_; rintro e3 w3 ⟨rfl, hb3⟩; have hb13 := hb1.trans (hb3.mono hb1.size)) | (with_reducible refine (cG _ hb13).mono ?_; rintro e4 w4 ⟨rfl, hb4⟩; have hb14 := hb13.trans (hb4.mono hb13.size))) | (go_at_call 16; refine (cK _ hb14).mono ?_; rintro e2 w2 ⟨rfl, hb2⟩))
      go_ret
      exact ⟨rfl, hb14.trans (hb2.mono hb14.size)⟩
end Go.Proofs.YtalegkgonbmaoaaDoor
