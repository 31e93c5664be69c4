import Derived.Test.YtalegkgonbmaoaaDoorNext
import Derived.Shelf.Unicode.ValidAny
/- unicode/utf8.FullRuneInString: what it answers. -/
set_option linter.unusedVariables false
namespace Go.Proofs.YtalegkgonbmaoaaDoor
open Go.RowKit
theorem full_eq (s : ByteArray) (h0 : 0 < s.size) : full s.data.toList = decide (Lib.firstT (s.get! 0).toNat % 8 ≤ s.size ∨ (1 < s.size ∧ ((s.get! 1).toNat < Lib.accLo (Lib.firstT (s.get! 0).toNat / 16) ∨ Lib.accHi (Lib.firstT (s.get! 0).toNat / 16) < (s.get! 1).toNat)) ∨ (2 < s.size ∧ ((s.get! 2).toNat < 128 ∨ 191 < (s.get! 2).toNat))) := by
  unfold full
  have hne : s.data.toList ≠ [] := fun h => by rw [Lib.size_eq, h] at h0; simp at h0
  rw [Lib.getD_get!', Lib.getD_get!', Lib.getD_get!', ← Lib.size_eq]
  simp [hne]
set_option maxHeartbeats 1000000 in
set_option maxRecDepth 1000000 in
theorem full_any' (t : ByteArray) (w : World) (hT : Lib.Utf8Tabs 0 1 w) :
    Calls Tryd.prog 68 #[.string t] w fun e w' => e = .returned (.bool (full t.data.toList)) ∧ Below w.heap.size w w' := by
  by_cases h0 : 0 < t.size
  · rw [full_eq t h0]
    have h0z : (0 : Int) < (t.size : Int) := by omega
    have h0e : ¬ ((t.size : Int) = 0) := by omega
    obtain ⟨x0, hx0⟩ : ∃ x0, t.get! 0 = x0 := ⟨_, rfl⟩
    have hs0 : t[0]'(by omega) = x0 := by rw [← hx0]; exact (Utf8W.get!_of_lt t 0 (by omega)).symm
    have hx0lt : x0.toNat < 256 := x0.toNat_lt
    obtain ⟨x1, hx1⟩ : ∃ x1, t.get! 1 = x1 := ⟨_, rfl⟩
    obtain ⟨x2, hx2⟩ : ∃ x2, t.get! 2 = x2 := ⟨_, rfl⟩
    have l1 := x1.toNat_lt; have l2 := x2.toNat_lt
    have hc0 := hT.1 x0.toNat hx0lt
    have hXlt : Lib.firstT x0.toNat < 256 := by rcases Lib.firstT_cases x0.toNat with h | h | h | h | h | h | h | h | h <;> omega
    rw [hx0, hx1, hx2]
    obtain ⟨X, hX⟩ : ∃ X, Lib.firstT x0.toNat = X := ⟨_, rfl⟩
    rw [hX] at hc0 hXlt ⊢
    have h7 := and7 ⟨X, hXlt⟩
    simp only at h7
    have ha0 : w.cell? ⟨1, X / 16 * 2, none⟩ = some (.int .u8 (Lib.accLo (X / 16))) := by rw [Nat.mul_comm]; exact (hT.2 (X / 16) (by omega)).1
    have ha1 : w.cell? ⟨1, X / 16 * 2 + 1, none⟩ = some (.int .u8 (Lib.accHi (X / 16))) := by rw [Nat.mul_comm]; exact (hT.2 (X / 16) (by omega)).2
    obtain ⟨LO, hLO⟩ : ∃ LO, Lib.accLo (X / 16) = LO := ⟨_, rfl⟩
    obtain ⟨HI, hHI⟩ : ∃ HI, Lib.accHi (X / 16) = HI := ⟨_, rfl⟩
    rw [hLO] at ha0 ⊢
    rw [hHI] at ha1 ⊢
    obtain ⟨SZ, hSZ⟩ : ∃ SZ, X % 8 = SZ := ⟨_, rfl⟩
    rw [hSZ] at h7 ⊢
    have hSZz : (X : Int) % 8 = (SZ : Int) := by omega
    have hq1 : ∀ h : 1 < t.size, t[1]'h = x1 := fun h => by rw [← hx1]; exact (Utf8W.get!_of_lt t 1 h).symm
    have hq2 : ∀ h : 2 < t.size, t[2]'h = x2 := fun h => by rw [← hx2]; exact (Utf8W.get!_of_lt t 2 h).symm
    clear hT hX hLO hHI hx0 hx1 hx2
    by_cases q : SZ ≤ t.size
    · have qz : (SZ : Int) ≤ (t.size : Int) := by omega
      rw [decide_eq_true (Or.inl q)]
      go_enter Tryd.func68, Tryd.ntmps68
      go_wp2
      all_goals (go_ret; exact ⟨rfl, Below.refl _ _⟩)
    · have qz : ¬ ((SZ : Int) ≤ (t.size : Int)) := by omega
      by_cases q1 : 1 < t.size
      · have q1z : (1 : Int) < (t.size : Int) := by omega
        have hs1 : t[1]'(by omega) = x1 := hq1 (by omega)
        by_cases q2 : x1.toNat < LO
        · have q2z : (x1.toNat : Int) < (LO : Int) := by omega
          go_enter Tryd.func68, Tryd.ntmps68
          go_wp2
          go_quiet (fail)
          go_wp2
          all_goals (go_ret; exact ⟨by first | rfl | exact congrArg (fun b => Ending.returned (Value.bool b)) (decide_eq_true (p := SZ ≤ t.size ∨ (1 < t.size ∧ (x1.toNat < LO ∨ HI < x1.toNat)) ∨ (2 < t.size ∧ (x2.toNat < 128 ∨ 191 < x2.toNat))) (by omega)).symm, below_drewNv ((Below.refl _ _).alloc (Nat.le_refl _) _) _⟩)
        · have q2z : ¬ ((x1.toNat : Int) < (LO : Int)) := by omega
          by_cases q3 : HI < x1.toNat
          · have q3z : (HI : Int) < (x1.toNat : Int) := by omega
            go_enter Tryd.func68, Tryd.ntmps68
            go_wp2
            go_quiet (fail)
            go_wp2
            all_goals (go_ret; exact ⟨by first | rfl | exact congrArg (fun b => Ending.returned (Value.bool b)) (decide_eq_true (p := SZ ≤ t.size ∨ (1 < t.size ∧ (x1.toNat < LO ∨ HI < x1.toNat)) ∨ (2 < t.size ∧ (x2.toNat < 128 ∨ 191 < x2.toNat))) (by omega)).symm, below_drewNv ((Below.refl _ _).alloc (Nat.le_refl _) _) _⟩)
          · have q3z : ¬ ((HI : Int) < (x1.toNat : Int)) := by omega
            by_cases q4 : 2 < t.size
            · have q4z : (2 : Int) < (t.size : Int) := by omega
              have hs2 : t[2]'(by omega) = x2 := hq2 (by omega)
              by_cases q5 : x2.toNat < 128
              · have q5z : (x2.toNat : Int) < 128 := by omega
                go_enter Tryd.func68, Tryd.ntmps68
                go_wp2
                go_quiet (fail)
                go_wp2
                all_goals (go_ret; exact ⟨by first | rfl | exact congrArg (fun b => Ending.returned (Value.bool b)) (decide_eq_true (p := SZ ≤ t.size ∨ (1 < t.size ∧ (x1.toNat < LO ∨ HI < x1.toNat)) ∨ (2 < t.size ∧ (x2.toNat < 128 ∨ 191 < x2.toNat))) (by omega)).symm, below_drewNv ((Below.refl _ _).alloc (Nat.le_refl _) _) _⟩)
              · have q5z : ¬ ((x2.toNat : Int) < 128) := by omega
                by_cases q6 : 191 < x2.toNat
                · have q6z : (191 : Int) < (x2.toNat : Int) := by omega
                  go_enter Tryd.func68, Tryd.ntmps68
                  go_wp2
                  go_quiet (fail)
                  go_wp2
                  all_goals (go_ret; exact ⟨by first | rfl | exact congrArg (fun b => Ending.returned (Value.bool b)) (decide_eq_true (p := SZ ≤ t.size ∨ (1 < t.size ∧ (x1.toNat < LO ∨ HI < x1.toNat)) ∨ (2 < t.size ∧ (x2.toNat < 128 ∨ 191 < x2.toNat))) (by omega)).symm, below_drewNv ((Below.refl _ _).alloc (Nat.le_refl _) _) _⟩)
                · have q6z : ¬ ((191 : Int) < (x2.toNat : Int)) := by omega
                  go_enter Tryd.func68, Tryd.ntmps68
                  go_wp2
                  go_quiet (fail)
                  go_wp2
                  all_goals (go_ret; exact ⟨by first | rfl | exact congrArg (fun b => Ending.returned (Value.bool b)) (decide_eq_false (p := SZ ≤ t.size ∨ (1 < t.size ∧ (x1.toNat < LO ∨ HI < x1.toNat)) ∨ (2 < t.size ∧ (x2.toNat < 128 ∨ 191 < x2.toNat))) (by omega)).symm, below_drewNv ((Below.refl _ _).alloc (Nat.le_refl _) _) _⟩)
            · have q4z : ¬ ((2 : Int) < (t.size : Int)) := by omega
              go_enter Tryd.func68, Tryd.ntmps68
              go_wp2
              go_quiet (fail)
              go_wp2
              all_goals (go_ret; exact ⟨by first | rfl | exact congrArg (fun b => Ending.returned (Value.bool b)) (decide_eq_false (p := SZ ≤ t.size ∨ (1 < t.size ∧ (x1.toNat < LO ∨ HI < x1.toNat)) ∨ (2 < t.size ∧ (x2.toNat < 128 ∨ 191 < x2.toNat))) (by omega)).symm, below_drewNv ((Below.refl _ _).alloc (Nat.le_refl _) _) _⟩)
      · have q1z : ¬ ((1 : Int) < (t.size : Int)) := by omega
        have q2z : ¬ ((2 : Int) < (t.size : Int)) := by omega
        have q1b : decide ((1 : Int) < (t.size : Int)) = false := decide_eq_false q1z
        clear hq1 hq2
        go_enter Tryd.func68, Tryd.ntmps68
        go_wp2
        go_quiet (fail)
        go_wp2
        all_goals (go_ret; exact ⟨by first | rfl | (simp [show ¬ (2 < t.size) by omega]; done) | exact congrArg (fun b => Ending.returned (Value.bool b)) (decide_eq_false (p := SZ ≤ t.size ∨ (1 < t.size ∧ (x1.toNat < LO ∨ HI < x1.toNat)) ∨ (2 < t.size ∧ (x2.toNat < 128 ∨ 191 < x2.toNat))) (by omega)).symm, below_drewNv ((Below.refl _ _).alloc (Nat.le_refl _) _) _⟩)
  · have hz : (t.size : Int) = 0 := by omega
    have hf : full t.data.toList = false := by
      have : t.data.toList = [] := List.eq_nil_of_length_eq_zero (by rw [← Lib.size_eq]; omega)
      rw [this]; rfl
    rw [hf]
    go_enter Tryd.func68, Tryd.ntmps68
    go_wp2
    all_goals (go_ret; exact ⟨rfl, Below.refl _ _⟩)
theorem full_any (l : List UInt8) (w : World) (hT : Lib.Utf8Tabs 0 1 w) : Calls Tryd.prog 68 #[.string ⟨l.toArray⟩] w fun e w' => e = .returned (.bool (full l)) ∧ Below w.heap.size w w' := by
  have := full_any' ⟨l.toArray⟩ w hT
  simpa using this
end Go.Proofs.YtalegkgonbmaoaaDoor
