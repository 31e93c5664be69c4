import Derived.Test.YtmepbafmocjnaaaRows
import Derived.Test.YtmepbafmocjnaaaShelf
import Derived.Test.YtmepbafmocjnaaaPlain
import Derived.WalkSpells
import Derived.WalkLawsBesides
import Derived.Lib.Hide
/- What the functions of package width, and of its reference, return. -/
namespace Go.Proofs.Ytmepbafmocjnaaa
open Go.RowKit
theorem below_then {w w1 w2 : World} (h : Below w.heap.size w w1) (h1 : Below w1.heap.size w1 w2) : Below w.heap.size w w2 := h.trans (h1.mono h.size)
theorem ret_i64 {a b : Int} (h : a = b) : Ending.returned (.int .i64 a) = Ending.returned (.int .i64 b) := by rw [h]
theorem ret_2 {a b c d : Int} (h : a = b) (h' : c = d) : Ending.returned (.tuple #[.int .i64 a, .int .i64 c]) = Ending.returned (.tuple #[.int .i64 b, .int .i64 d]) := by rw [h, h']
theorem notW {x : Int} (h : isW x = false) : (x == 1) = false ∧ (x == 2) = false ∧ (x == 4) = false ∧ (x == 8) = false ∧ pcode x = 0 ∧ codeE x = 2 := by
  have hx := h
  simp only [isW, decide_eq_false_iff_not, not_or] at h
  obtain ⟨a, b, c, d⟩ := h
  exact ⟨by simp [a], by simp [b], by simp [c], by simp [d], by simp [pcode, b, c, d], by simp [codeE, hx]⟩
theorem beq_symm_no {a b : Int} (h : (a == b) = false) : (b == a) = false := by
  simp only [beq_eq_false_iff_ne] at h ⊢; exact fun e => h e.symm
theorem isW_cases {x : Int} (h : isW x = true) : x = 1 ∨ x = 2 ∨ x = 4 ∨ x = 8 := by simpa [isW] using h
set_option maxHeartbeats 1600000 in
theorem code_any (x : Int) (w : World) : Calls Try.prog 10 #[.int .i64 x] w fun e w' => e = .returned (.tuple #[.int .i64 (pcode x), .int .i64 (codeE x)]) ∧ w = w' := by
  cases h : isW x
  · obtain ⟨x1, x2, x4, x8, p, c⟩ := notW h
    rw [p, c]
    clear p c
    go_enter Try.func10, Try.ntmps10
    go_wp2
    refine wp_loop_rounds 5 ?_
    rw [rounds_succ]
    go_wp2
    rw [rounds_succ]
    go_wp2
    rw [rounds_succ]
    go_wp2
    rw [rounds_succ]
    go_wp2
    rw [rounds_succ]
    go_wp2
    go_ret2
    exact ⟨rfl, rfl⟩
  · rcases isW_cases h with rfl | rfl | rfl | rfl
    · clear h
      go_enter Try.func10, Try.ntmps10
      go_wp2
      refine wp_loop_rounds 1 ?_
      rw [rounds_succ]
      go_wp2
      go_ret2
      exact ⟨rfl, rfl⟩
    · clear h
      go_enter Try.func10, Try.ntmps10
      go_wp2
      refine wp_loop_rounds 2 ?_
      rw [rounds_succ]
      go_wp2
      rw [rounds_succ]
      go_wp2
      go_ret2
      exact ⟨rfl, rfl⟩
    · clear h
      go_enter Try.func10, Try.ntmps10
      go_wp2
      refine wp_loop_rounds 3 ?_
      rw [rounds_succ]
      go_wp2
      rw [rounds_succ]
      go_wp2
      rw [rounds_succ]
      go_wp2
      go_ret2
      exact ⟨rfl, rfl⟩
    · clear h
      go_enter Try.func10, Try.ntmps10
      go_wp2
      refine wp_loop_rounds 4 ?_
      rw [rounds_succ]
      go_wp2
      rw [rounds_succ]
      go_wp2
      rw [rounds_succ]
      go_wp2
      rw [rounds_succ]
      go_wp2
      go_ret2
      exact ⟨rfl, rfl⟩
theorem isC_cases {x : Int} (h : isC x = true) : x = 0 ∨ x = 1 ∨ x = 2 ∨ x = 3 := by simp [isC] at h; omega
set_option maxHeartbeats 800000 in
theorem back_any (c : Int) (w : World) : Calls Try.prog 12 #[.int .i64 c] w fun e w' => e = .returned (.tuple #[.int .i64 (backW c), .int .i64 (backE c)]) ∧ w = w' := by
  cases h : isC c
  · have e1 : backE c = 2 := by simp [backE, h]
    have e2 : backW c = 0 := by simp only [isC, decide_eq_false_iff_not] at h; unfold backW; rw [if_neg (by omega), if_neg (by omega), if_neg (by omega), if_neg (by omega)]
    rw [e1, e2]
    clear e1 e2
    simp only [isC, decide_eq_false_iff_not] at h
    by_cases h0 : c < 0
    · go_enter Try.func12, Try.ntmps12
      go_wp2
      go_ret2
      exact ⟨rfl, rfl⟩
    · have h1 : 4 ≤ c := by omega
      clear h
      go_enter Try.func12, Try.ntmps12
      go_wp2
      go_ret2
      exact ⟨rfl, rfl⟩
  · rcases isC_cases h with rfl | rfl | rfl | rfl
    all_goals
      clear h
      go_enter Try.func12, Try.ntmps12
      go_wp2
      go_ret2
      exact ⟨rfl, rfl⟩
set_option maxHeartbeats 800000 in
theorem rback_any (c : Int) (w : World) : Calls Try.prog 13 #[.int .i64 c] w fun e w' => e = .returned (.tuple #[.int .i64 (backW c), .int .i64 (backE c)]) ∧ Below w.heap.size w w' := by
  cases h : isC c
  · have e1 : backE c = 2 := by simp [backE, h]
    have e2 : backW c = 0 := by simp only [isC, decide_eq_false_iff_not] at h; unfold backW; rw [if_neg (by omega), if_neg (by omega), if_neg (by omega), if_neg (by omega)]
    rw [e1, e2]
    clear e1 e2
    simp only [isC, decide_eq_false_iff_not] at h
    by_cases h0 : c < 0
    · go_enter Try.func13, Try.ntmps13
      go_wp2
      go_ret2
      exact ⟨rfl, Below.refl _ _⟩
    · have h1 : 3 < c := by omega
      clear h
      go_enter Try.func13, Try.ntmps13
      go_wp2
      go_ret2
      exact ⟨rfl, Below.refl _ _⟩
  · rcases isC_cases h with rfl | rfl | rfl | rfl
    all_goals
      clear h
      go_enter Try.func13, Try.ntmps13
      go_wp2
      go_ret2
      exact ⟨rfl, (Below.refl _ _).alloc (Nat.le_refl _) _⟩
set_option maxHeartbeats 1600000 in
theorem rcode_any (x : Int) (w : World) : Calls Try.prog 11 #[.int .i64 x] w fun e w' => e = .returned (.tuple #[.int .i64 (pcode x), .int .i64 (codeE x)]) ∧ Below w.heap.size w w' := by
  have k0 : backW 0 = 1 := rfl
  have k1 : backW 1 = 2 := rfl
  have k2 : backW 2 = 4 := rfl
  have k3 : backW 3 = 8 := rfl
  cases h : isW x
  · obtain ⟨x1, x2, x4, x8, p, c⟩ := notW h
    replace x1 := beq_symm_no x1
    replace x2 := beq_symm_no x2
    replace x4 := beq_symm_no x4
    replace x8 := beq_symm_no x8
    rw [p, c]
    clear p c
    go_enter Try.func11, Try.ntmps11
    go_wp2
    refine wp_loop_rounds 5 ?_
    rw [rounds_succ]
    go_wp2_with (go_at_call 13; refine (rback_any _ _).mono ?_; rintro e w' ⟨rfl, hb⟩)
    rw [rounds_succ]
    go_wp2_with (go_at_call 13; refine (rback_any _ _).mono ?_; rintro e w' ⟨rfl, hb⟩)
    rw [rounds_succ]
    go_wp2_with (go_at_call 13; refine (rback_any _ _).mono ?_; rintro e w' ⟨rfl, hb⟩)
    rw [rounds_succ]
    go_wp2_with (go_at_call 13; refine (rback_any _ _).mono ?_; rintro e w' ⟨rfl, hb⟩)
    rw [rounds_succ]
    go_wp2_with (go_at_call 13; refine (rback_any _ _).mono ?_; rintro e w' ⟨rfl, hb⟩)
    go_ret2
    exact ⟨rfl, by repeat (first | exact Below.refl _ _ | (refine below_then ?_ (by assumption)))⟩
  · rcases isW_cases h with rfl | rfl | rfl | rfl
    · clear h
      go_enter Try.func11, Try.ntmps11
      go_wp2
      refine wp_loop_rounds 1 ?_
      rw [rounds_succ]
      go_wp2_with (go_at_call 13; refine (rback_any _ _).mono ?_; rintro e w' ⟨rfl, hb⟩)
      go_ret2
      exact ⟨rfl, by repeat (first | exact Below.refl _ _ | (refine below_then ?_ (by assumption)))⟩
    · clear h
      go_enter Try.func11, Try.ntmps11
      go_wp2
      refine wp_loop_rounds 2 ?_
      rw [rounds_succ]
      go_wp2_with (go_at_call 13; refine (rback_any _ _).mono ?_; rintro e w' ⟨rfl, hb⟩)
      rw [rounds_succ]
      go_wp2_with (go_at_call 13; refine (rback_any _ _).mono ?_; rintro e w' ⟨rfl, hb⟩)
      go_ret2
      exact ⟨rfl, by repeat (first | exact Below.refl _ _ | (refine below_then ?_ (by assumption)))⟩
    · clear h
      go_enter Try.func11, Try.ntmps11
      go_wp2
      refine wp_loop_rounds 3 ?_
      rw [rounds_succ]
      go_wp2_with (go_at_call 13; refine (rback_any _ _).mono ?_; rintro e w' ⟨rfl, hb⟩)
      rw [rounds_succ]
      go_wp2_with (go_at_call 13; refine (rback_any _ _).mono ?_; rintro e w' ⟨rfl, hb⟩)
      rw [rounds_succ]
      go_wp2_with (go_at_call 13; refine (rback_any _ _).mono ?_; rintro e w' ⟨rfl, hb⟩)
      go_ret2
      exact ⟨rfl, by repeat (first | exact Below.refl _ _ | (refine below_then ?_ (by assumption)))⟩
    · clear h
      go_enter Try.func11, Try.ntmps11
      go_wp2
      refine wp_loop_rounds 4 ?_
      rw [rounds_succ]
      go_wp2_with (go_at_call 13; refine (rback_any _ _).mono ?_; rintro e w' ⟨rfl, hb⟩)
      rw [rounds_succ]
      go_wp2_with (go_at_call 13; refine (rback_any _ _).mono ?_; rintro e w' ⟨rfl, hb⟩)
      rw [rounds_succ]
      go_wp2_with (go_at_call 13; refine (rback_any _ _).mono ?_; rintro e w' ⟨rfl, hb⟩)
      rw [rounds_succ]
      go_wp2_with (go_at_call 13; refine (rback_any _ _).mono ?_; rintro e w' ⟨rfl, hb⟩)
      go_ret2
      exact ⟨rfl, by repeat (first | exact Below.refl _ _ | (refine below_then ?_ (by assumption)))⟩
end Go.Proofs.Ytmepbafmocjnaaa
