import Derived.Test.YteoggaioleckhaaFree2
import Derived.Test.YteoggaioleckhaaRead
/- The reference's Short and Texts. -/
set_option linter.unusedVariables false
set_option linter.unusedSimpArgs false
namespace Go.Proofs.Yteoggaioleckhaa
open Go.RowKit
theorem str_take' (l : List UInt8) (k : Nat) : (ByteArray.mk l.toArray).extract 0 k = ⟨(l.take k).toArray⟩ := by
  apply ByteArray.ext
  rw [ByteArray.data_extract]
  simp
theorem infoS : (Try.prog.info? 9).map (fun i => (i.zero, i.size, i.bytes)) = some (some (.string ByteArray.empty), 1, 16) := by kernel_rfl
set_option maxHeartbeats 1000000 in
theorem short_any (l : List UInt8) (k : Nat) (w : World) :
    Calls Try.prog 45 #[.string ⟨l.toArray⟩, .int .i64 (k : Int)] w fun e w' => e = .returned (.string ⟨(l.take k).toArray⟩) ∧ w = w' := by
  by_cases h : k < l.length
  · have e1 := Lib.hid (str_take' l k)
    have hm : min (l.length : Int) (k : Int) = (k : Int) := by omega
    go_enter Try.func45, Try.ntmps45
    go_wp2
    all_goals
      go_ret
      exact ⟨by rw [← e1.out]; rfl, rfl⟩
  · have e1 := Lib.hid (show (ByteArray.mk l.toArray).extract 0 l.length = ⟨(l.take k).toArray⟩ by rw [str_take', List.take_length, List.take_of_length_le (by omega)])
    have hm : min (l.length : Int) (k : Int) = (l.length : Int) := by omega
    have h' : ¬ (k : Int) < (l.length : Int) := by omega
    go_enter Try.func45, Try.ntmps45
    go_wp2
    all_goals
      go_ret
      exact ⟨by rw [← e1.out]; rfl, rfl⟩
def cutK (l : List (List UInt8)) : List (List UInt8) := (l.take 64).map (·.take 60)
theorem cutK_len (l : List (List UInt8)) : (cutK l).length = min 64 l.length := by simp [cutK]
set_option maxRecDepth 100000 in
set_option maxHeartbeats 4000000 in
theorem texts_any (A : Option Addr) (n c : Nat) (l : List (List UInt8)) (w : World) (h : Rd w 1 A n (l.map strv)) (hn : n ≤ 9223372036854775807) :
    Calls Try.prog 46 #[.slice A n c, .int .i64 64, .int .i64 60] w fun e w' => (∃ v, e = .returned v ∧ w'.ownsRow w.heap.size 9 1 v (cutK l).length ((cutK l).map strv)) ∧ Below w.heap.size w w' := by
  obtain ⟨iS, hiS, hzS, hsS, hbS⟩ : ∃ i0 : TypeInfo, Try.prog.info? 9 = some i0 ∧ i0.zero = some (.string ByteArray.empty) ∧ i0.size = 1 ∧ i0.bytes = 16 := by
      cases h : Try.prog.info? 9 with
      | none => have := infoS; rw [h] at this; cases this
      | some i0 =>
        have := infoS
        rw [h] at this
        simp only [Option.map_some, Option.some.injEq, Prod.mk.injEq] at this
        exact ⟨i0, rfl, this.1, this.2.1, this.2.2⟩
  have hl : l.length = n := by have := h.1; simpa using this
  have h60 := cutK_len l
  obtain ⟨m, hm⟩ : ∃ m, (cutK l).length = m := ⟨_, rfl⟩
  have hmn : m = min 64 n := by rw [← hm, h60, hl]
  have htk : (cutK l).take m = cutK l := by rw [← hm, List.take_length]
  rw [hm]
  have HM := Lib.hid (And.intro hm (And.intro hmn (And.intro hl htk)))
  have hm1 : m ≤ 64 := by omega
  have hm2 : m ≤ n := by omega
  clear hm hmn hl htk h60
  go_enter Try.func46, Try.ntmps46
  go_wp2
  go_loopw [7, 8] (fun v i wr => ∃ k : Nat, k ≤ m ∧ i = .int .i64 k ∧ wr.ownsRow w.heap.size 9 1 v k (((cutK l).take k).map strv) ∧ Below w.heap.size w wr) (fun _ i _ => m - (intOf i).toNat)
  case atStart => exact ⟨0, by omega, rfl, World.ownsRow_nil _ _ _ _, Below.refl _ _⟩
  case round =>
    obtain ⟨k, hk, rfl, hown, hb⟩ := hrel
    by_cases hlt : k < m
    · obtain ⟨x, hx⟩ : ∃ x, l[k]? = some x := ⟨_, List.getElem?_eq_getElem (by have := HM.out.2.2.1; omega)⟩
      obtain ⟨b, of, hA', hbl, hcell⟩ := (h.below hb).2 (by omega)
      subst hA'
      have g1 := hcell k (strv x) (by simp [hx])
      unfold strv at g1
      have hkx : (cutK l)[k]? = some (x.take 60) := by
        have : k < 64 := by omega
        simp [cutK, List.getElem?_map, this, hx]
      have HK := Lib.hid (show ((cutK l).take (k + 1)).map strv = ((cutK l).take k).map strv ++ [.string ⟨(x.take 60).toArray⟩] by rw [List.take_add_one, hkx]; simp [strv])
      have hsx := Lib.hid (fun w0 : World => short_any x 60 w0)
      have hn1 : (k : Int) < (n : Int) := by omega
      have hn2 : (k : Int) < 64 := by omega
      clear hcell hx hkx
      generalize x.take 60 = y at *
      go_wp2_with (first
        | (go_at_call 45; refine (hsx.out _).mono ?_; rintro e w4 ⟨rfl, rfl⟩)
        | (at_builtin; refine wpList_append_one rfl w _ _ _ 23 rfl w.heap.size 9 iS (.string ByteArray.empty) 16 Try.underlying23 hiS hzS hsS hbS rfl _ k _ rfl hown _ rfl rfl (by omega) (by omega) hb (Nat.le_refl _) ?_; intro v5 w5 hown5 hb5))
      go_roundw
      case rel => exact ⟨k + 1, by omega, by go_num, by rw [HK.out]; exact hown5, hb5⟩
      case measure => simp [intOf]; omega
    · obtain rfl : k = m := by omega
      rw [HM.out.2.2.2] at hown
      by_cases hkn : k < n
      · have hkn1 : (k : Int) < (n : Int) := by omega
        have hk60 : ¬ (k : Int) < 64 := by have := HM.out.2.1; omega
        go_wp2
        go_ret
        exact ⟨⟨_, rfl, hown⟩, hb⟩
      · have hkn1 : ¬ (k : Int) < (n : Int) := by omega
        go_wp2
        go_ret
        exact ⟨⟨_, rfl, hown⟩, hb⟩
end Go.Proofs.Yteoggaioleckhaa
