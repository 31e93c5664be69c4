import Derived.Test.YtmepbafmocjnaaaLeast
namespace Go.Proofs.Ytmepbafmocjnaaa
open Go.RowKit
theorem ofW_mono {a b : Int} (h : a ≤ b) : ofW a ≤ ofW b := by
  unfold ofW
  by_cases a1 : a < 256
  · rw [if_pos a1]; split; omega; split; omega; split <;> omega
  · rw [if_neg a1, if_neg (show ¬ b < 256 by omega)]
    by_cases a2 : a < 65536
    · rw [if_pos a2]; split; omega; split <;> omega
    · rw [if_neg a2, if_neg (show ¬ b < 65536 by omega)]
      by_cases a3 : a < 4294967296
      · rw [if_pos a3]; split <;> omega
      · rw [if_neg a3, if_neg (show ¬ b < 4294967296 by omega)]; omega
theorem oiW_mono {a b : Int} (h0 : 0 ≤ a) (h : a ≤ b) (hb : b < 9223372036854775808) : oiW a ≤ oiW b := by
  have ha := oi_cases (n := a) (by omega) (by omega)
  have hb := oi_cases (n := b) (by omega) (by omega)
  omega
theorem oiW_flip {a : Int} (h0 : 0 ≤ a) (hb : a < 9223372036854775808) : (oiW (-a - 1) == oiW a) = true := by
  have ha := oi_cases (n := a) (by omega) (by omega)
  have hb := oi_cases (n := -a - 1) (by omega) (by omega)
  rw [beq_iff_eq]
  omega
theorem oiW_of {a : Int} (h0 : 0 ≤ a) (hb : a < 9223372036854775808) : (oiW a == ofW a) = true ∨ ((oiW a == ofW a) = false ∧ (oiW a == 2 * ofW a) = true) := by
  have ha := oi_cases (n := a) (by omega) (by omega)
  have hb := of_cases (u := a) (by omega) (by omega)
  by_cases h : oiW a = ofW a
  · exact Or.inl (beq_iff_eq.2 h)
  · refine Or.inr ⟨beq_eq_false_iff_ne.2 h, beq_iff_eq.2 ?_⟩
    omega
theorem ofW_bd (a : Int) : 1 ≤ ofW a ∧ ofW a ≤ 8 := by unfold ofW; split; omega; split; omega; split <;> omega
set_option maxHeartbeats 1600000 in
theorem grows (u v p q : Int) (w : World) (hp : min u v = p) (hq : max u v = q) (p0 : 0 ≤ p) (p1 : p < 18446744073709551616) (q0 : 0 ≤ q) (q1 : q < 18446744073709551616) (f1 : ofW p ≤ ofW q) (f2 : oiW (p / 2) ≤ oiW (q / 2)) (f3 : (oiW (-(p / 2) - 1) == oiW (p / 2)) = true)
   (f4 : (oiW (p / 2) == ofW (p / 2)) = true ∨ ((oiW (p / 2) == ofW (p / 2)) = false ∧ (oiW (p / 2) == 2 * ofW (p / 2)) = true)) (b0 : 1 ≤ ofW (p / 2)) (b1 : ofW (p / 2) ≤ 8) :
    Calls Try.prog 6 #[.int .u64 u, .int .u64 v] w fun e w' => e = .returned (.bool true) ∧ Below w.heap.size w w' := by
  rcases f4 with f4 | ⟨f4, f5⟩
  all_goals
    go_enter Try.func6, Try.ntmps6
    go_wp2_with (first
      | (go_at_call 14; refine (of_any _ (by omega) (by omega) _).mono ?_; rintro e w' ⟨rfl, rfl⟩)
      | (go_at_call 16; refine (ofInt_any _ (by omega) (by omega) _).mono ?_; rintro e w' ⟨rfl, rfl⟩)
      | (go_at_call 18; refine (works_any _).mono ?_; rintro e w' ⟨rfl, hb⟩))
    go_ret
    exact ⟨rfl, by repeat (first | exact Below.refl _ _ | (refine below_then ?_ (by assumption)))⟩
theorem widthGrows_walk (u v : Int) (w : World) (hu : (Lit.int .u64 u).wf = true) (hv : (Lit.int .u64 v).wf = true) :
    Calls Try.prog 6 #[.int .u64 u, .int .u64 v] w fun e w' => e = .returned (.bool true) ∧ Below w.heap.size w w' := by
  obtain ⟨u0, u1⟩ := u64_bd hu
  obtain ⟨v0, v1⟩ := u64_bd hv
  have hm : 0 ≤ min u v ∧ min u v < 18446744073709551616 ∧ min u v ≤ max u v ∧ max u v < 18446744073709551616 := by omega
  exact grows u v (min u v) (max u v) w rfl rfl hm.1 hm.2.1 (by omega) hm.2.2.2 (ofW_mono hm.2.2.1) (oiW_mono (by omega) (by omega) (by omega)) (oiW_flip (by omega) (by omega)) (oiW_of (by omega) (by omega)) (ofW_bd _).1 (ofW_bd _).2
theorem up_eq {a x : Int} (h : isW x = true) (h0 : 0 ≤ a) (h1 : a ≤ 9007199254740992) : upV a x = (a + x - 1) - (a + x - 1) % x ∧ upE a x = 0 := up_good ⟨h, h0⟩ h1
theorem w1 : isW 1 = true := rfl
theorem w2 : isW 2 = true := rfl
theorem w4 : isW 4 = true := rfl
theorem w8 : isW 8 = true := rfl
set_option maxHeartbeats 1600000 in
theorem up_bad_1 (a x : Int) (w : World) (hr : x % 4 = 0) (h : a < 0 ∨ 9007199254740992 < a) (f1 : upV a 1 = 0) (f2 : (upE a 1 != 0) = true) :
    Calls Try.prog 7 #[.int .i64 a, .int .i64 x] w fun e w' => e = .returned (.bool true) ∧ Below w.heap.size w w' := by
  by_cases h0 : a < 0
  · clear h
    go_enter Try.func7, Try.ntmps7
    go_wp2_with (first
      | (go_at_call 26; refine (bring_any _ 4 (by omega) (by omega) _).mono ?_; rintro e w' ⟨rfl, rfl⟩)
      | (go_at_call 20; refine (up_any _ _ _).mono ?_; rintro e w' ⟨rfl, rfl⟩)
      | (go_at_call 18; refine (works_any _).mono ?_; rintro e w' ⟨rfl, hb⟩))
    go_ret
    exact ⟨rfl, hb⟩
  · have h1 : 9007199254740992 < a := by omega
    clear h
    go_enter Try.func7, Try.ntmps7
    go_wp2_with (first
      | (go_at_call 26; refine (bring_any _ 4 (by omega) (by omega) _).mono ?_; rintro e w' ⟨rfl, rfl⟩)
      | (go_at_call 20; refine (up_any _ _ _).mono ?_; rintro e w' ⟨rfl, rfl⟩)
      | (go_at_call 18; refine (works_any _).mono ?_; rintro e w' ⟨rfl, hb⟩))
    go_ret
    exact ⟨rfl, hb⟩
set_option maxHeartbeats 3200000 in
theorem up_ok_1 (a x p : Int) (w : World) (hr : x % 4 = 0) (h0 : 0 ≤ a) (h1 : a ≤ 9007199254740992) (f1 : upV a 1 = p) (f2 : (upE a 1 != 0) = false) (p0 : a ≤ p) (p1 : p - a < 1) (_p2 : (p % 1 != 0) = false) (q1 : (upV p 1 != p) = false) (k1 : (upE p 1 != 0) = false) :
    Calls Try.prog 7 #[.int .i64 a, .int .i64 x] w fun e w' => e = .returned (.bool true) ∧ Below w.heap.size w w' := by
  go_enter Try.func7, Try.ntmps7
  go_wp2_with (first
    | (go_at_call 26; refine (bring_any _ 4 (by omega) (by omega) _).mono ?_; rintro e w' ⟨rfl, rfl⟩)
    | (go_at_call 20; refine (up_any _ _ _).mono ?_; rintro e w' ⟨rfl, rfl⟩)
    | (go_at_call 18; refine (works_any _).mono ?_; rintro e w' ⟨rfl, hb⟩))
  refine wp_loop_rounds 2 ?_
  rw [rounds_succ]
  go_wp2_with (first
    | (go_at_call 26; refine (bring_any _ 4 (by omega) (by omega) _).mono ?_; rintro e w' ⟨rfl, rfl⟩)
    | (go_at_call 20; refine (up_any _ _ _).mono ?_; rintro e w' ⟨rfl, rfl⟩)
    | (go_at_call 18; refine (works_any _).mono ?_; rintro e w' ⟨rfl, hb⟩))
  rw [rounds_succ]
  go_wp2_with (first
    | (go_at_call 26; refine (bring_any _ 4 (by omega) (by omega) _).mono ?_; rintro e w' ⟨rfl, rfl⟩)
    | (go_at_call 20; refine (up_any _ _ _).mono ?_; rintro e w' ⟨rfl, rfl⟩)
    | (go_at_call 18; refine (works_any _).mono ?_; rintro e w' ⟨rfl, hb⟩))
  go_ret
  exact ⟨rfl, hb⟩
set_option maxHeartbeats 1600000 in
theorem up_bad_2 (a x : Int) (w : World) (hr : x % 4 = 1) (h : a < 0 ∨ 9007199254740992 < a) (f1 : upV a 2 = 0) (f2 : (upE a 2 != 0) = true) :
    Calls Try.prog 7 #[.int .i64 a, .int .i64 x] w fun e w' => e = .returned (.bool true) ∧ Below w.heap.size w w' := by
  by_cases h0 : a < 0
  · clear h
    go_enter Try.func7, Try.ntmps7
    go_wp2_with (first
      | (go_at_call 26; refine (bring_any _ 4 (by omega) (by omega) _).mono ?_; rintro e w' ⟨rfl, rfl⟩)
      | (go_at_call 20; refine (up_any _ _ _).mono ?_; rintro e w' ⟨rfl, rfl⟩)
      | (go_at_call 18; refine (works_any _).mono ?_; rintro e w' ⟨rfl, hb⟩))
    go_ret
    exact ⟨rfl, hb⟩
  · have h1 : 9007199254740992 < a := by omega
    clear h
    go_enter Try.func7, Try.ntmps7
    go_wp2_with (first
      | (go_at_call 26; refine (bring_any _ 4 (by omega) (by omega) _).mono ?_; rintro e w' ⟨rfl, rfl⟩)
      | (go_at_call 20; refine (up_any _ _ _).mono ?_; rintro e w' ⟨rfl, rfl⟩)
      | (go_at_call 18; refine (works_any _).mono ?_; rintro e w' ⟨rfl, hb⟩))
    go_ret
    exact ⟨rfl, hb⟩
set_option maxHeartbeats 3200000 in
theorem up_ok_2 (a x p : Int) (w : World) (hr : x % 4 = 1) (h0 : 0 ≤ a) (h1 : a ≤ 9007199254740992) (f1 : upV a 2 = p) (f2 : (upE a 2 != 0) = false) (p0 : a ≤ p) (p1 : p - a < 2) (p2 : (p % 2 != 0) = false) (q1 : (upV p 1 != p) = false) (k1 : (upE p 1 != 0) = false) (j1 : upV a 1 ≤ p) (l1 : (upE a 1 != 0) = false) (q2 : (upV p 2 != p) = false) (k2 : (upE p 2 != 0) = false) :
    Calls Try.prog 7 #[.int .i64 a, .int .i64 x] w fun e w' => e = .returned (.bool true) ∧ Below w.heap.size w w' := by
  go_enter Try.func7, Try.ntmps7
  go_wp2_with (first
    | (go_at_call 26; refine (bring_any _ 4 (by omega) (by omega) _).mono ?_; rintro e w' ⟨rfl, rfl⟩)
    | (go_at_call 20; refine (up_any _ _ _).mono ?_; rintro e w' ⟨rfl, rfl⟩)
    | (go_at_call 18; refine (works_any _).mono ?_; rintro e w' ⟨rfl, hb⟩))
  refine wp_loop_rounds 3 ?_
  rw [rounds_succ]
  go_wp2_with (first
    | (go_at_call 26; refine (bring_any _ 4 (by omega) (by omega) _).mono ?_; rintro e w' ⟨rfl, rfl⟩)
    | (go_at_call 20; refine (up_any _ _ _).mono ?_; rintro e w' ⟨rfl, rfl⟩)
    | (go_at_call 18; refine (works_any _).mono ?_; rintro e w' ⟨rfl, hb⟩))
  rw [rounds_succ]
  go_wp2_with (first
    | (go_at_call 26; refine (bring_any _ 4 (by omega) (by omega) _).mono ?_; rintro e w' ⟨rfl, rfl⟩)
    | (go_at_call 20; refine (up_any _ _ _).mono ?_; rintro e w' ⟨rfl, rfl⟩)
    | (go_at_call 18; refine (works_any _).mono ?_; rintro e w' ⟨rfl, hb⟩))
  rw [rounds_succ]
  go_wp2_with (first
    | (go_at_call 26; refine (bring_any _ 4 (by omega) (by omega) _).mono ?_; rintro e w' ⟨rfl, rfl⟩)
    | (go_at_call 20; refine (up_any _ _ _).mono ?_; rintro e w' ⟨rfl, rfl⟩)
    | (go_at_call 18; refine (works_any _).mono ?_; rintro e w' ⟨rfl, hb⟩))
  go_ret
  exact ⟨rfl, hb⟩
set_option maxHeartbeats 1600000 in
theorem up_bad_4 (a x : Int) (w : World) (hr : x % 4 = 2) (h : a < 0 ∨ 9007199254740992 < a) (f1 : upV a 4 = 0) (f2 : (upE a 4 != 0) = true) :
    Calls Try.prog 7 #[.int .i64 a, .int .i64 x] w fun e w' => e = .returned (.bool true) ∧ Below w.heap.size w w' := by
  by_cases h0 : a < 0
  · clear h
    go_enter Try.func7, Try.ntmps7
    go_wp2_with (first
      | (go_at_call 26; refine (bring_any _ 4 (by omega) (by omega) _).mono ?_; rintro e w' ⟨rfl, rfl⟩)
      | (go_at_call 20; refine (up_any _ _ _).mono ?_; rintro e w' ⟨rfl, rfl⟩)
      | (go_at_call 18; refine (works_any _).mono ?_; rintro e w' ⟨rfl, hb⟩))
    go_ret
    exact ⟨rfl, hb⟩
  · have h1 : 9007199254740992 < a := by omega
    clear h
    go_enter Try.func7, Try.ntmps7
    go_wp2_with (first
      | (go_at_call 26; refine (bring_any _ 4 (by omega) (by omega) _).mono ?_; rintro e w' ⟨rfl, rfl⟩)
      | (go_at_call 20; refine (up_any _ _ _).mono ?_; rintro e w' ⟨rfl, rfl⟩)
      | (go_at_call 18; refine (works_any _).mono ?_; rintro e w' ⟨rfl, hb⟩))
    go_ret
    exact ⟨rfl, hb⟩
set_option maxHeartbeats 3200000 in
theorem up_ok_4 (a x p : Int) (w : World) (hr : x % 4 = 2) (h0 : 0 ≤ a) (h1 : a ≤ 9007199254740992) (f1 : upV a 4 = p) (f2 : (upE a 4 != 0) = false) (p0 : a ≤ p) (p1 : p - a < 4) (p2 : (p % 4 != 0) = false) (q1 : (upV p 1 != p) = false) (k1 : (upE p 1 != 0) = false) (j1 : upV a 1 ≤ p) (l1 : (upE a 1 != 0) = false) (q2 : (upV p 2 != p) = false) (k2 : (upE p 2 != 0) = false) (j2 : upV a 2 ≤ p) (l2 : (upE a 2 != 0) = false) (q4 : (upV p 4 != p) = false) (k4 : (upE p 4 != 0) = false) :
    Calls Try.prog 7 #[.int .i64 a, .int .i64 x] w fun e w' => e = .returned (.bool true) ∧ Below w.heap.size w w' := by
  go_enter Try.func7, Try.ntmps7
  go_wp2_with (first
    | (go_at_call 26; refine (bring_any _ 4 (by omega) (by omega) _).mono ?_; rintro e w' ⟨rfl, rfl⟩)
    | (go_at_call 20; refine (up_any _ _ _).mono ?_; rintro e w' ⟨rfl, rfl⟩)
    | (go_at_call 18; refine (works_any _).mono ?_; rintro e w' ⟨rfl, hb⟩))
  refine wp_loop_rounds 4 ?_
  rw [rounds_succ]
  go_wp2_with (first
    | (go_at_call 26; refine (bring_any _ 4 (by omega) (by omega) _).mono ?_; rintro e w' ⟨rfl, rfl⟩)
    | (go_at_call 20; refine (up_any _ _ _).mono ?_; rintro e w' ⟨rfl, rfl⟩)
    | (go_at_call 18; refine (works_any _).mono ?_; rintro e w' ⟨rfl, hb⟩))
  rw [rounds_succ]
  go_wp2_with (first
    | (go_at_call 26; refine (bring_any _ 4 (by omega) (by omega) _).mono ?_; rintro e w' ⟨rfl, rfl⟩)
    | (go_at_call 20; refine (up_any _ _ _).mono ?_; rintro e w' ⟨rfl, rfl⟩)
    | (go_at_call 18; refine (works_any _).mono ?_; rintro e w' ⟨rfl, hb⟩))
  rw [rounds_succ]
  go_wp2_with (first
    | (go_at_call 26; refine (bring_any _ 4 (by omega) (by omega) _).mono ?_; rintro e w' ⟨rfl, rfl⟩)
    | (go_at_call 20; refine (up_any _ _ _).mono ?_; rintro e w' ⟨rfl, rfl⟩)
    | (go_at_call 18; refine (works_any _).mono ?_; rintro e w' ⟨rfl, hb⟩))
  rw [rounds_succ]
  go_wp2_with (first
    | (go_at_call 26; refine (bring_any _ 4 (by omega) (by omega) _).mono ?_; rintro e w' ⟨rfl, rfl⟩)
    | (go_at_call 20; refine (up_any _ _ _).mono ?_; rintro e w' ⟨rfl, rfl⟩)
    | (go_at_call 18; refine (works_any _).mono ?_; rintro e w' ⟨rfl, hb⟩))
  go_ret
  exact ⟨rfl, hb⟩
set_option maxHeartbeats 1600000 in
theorem up_bad_8 (a x : Int) (w : World) (hr : x % 4 = 3) (h : a < 0 ∨ 9007199254740992 < a) (f1 : upV a 8 = 0) (f2 : (upE a 8 != 0) = true) :
    Calls Try.prog 7 #[.int .i64 a, .int .i64 x] w fun e w' => e = .returned (.bool true) ∧ Below w.heap.size w w' := by
  by_cases h0 : a < 0
  · clear h
    go_enter Try.func7, Try.ntmps7
    go_wp2_with (first
      | (go_at_call 26; refine (bring_any _ 4 (by omega) (by omega) _).mono ?_; rintro e w' ⟨rfl, rfl⟩)
      | (go_at_call 20; refine (up_any _ _ _).mono ?_; rintro e w' ⟨rfl, rfl⟩)
      | (go_at_call 18; refine (works_any _).mono ?_; rintro e w' ⟨rfl, hb⟩))
    go_ret
    exact ⟨rfl, hb⟩
  · have h1 : 9007199254740992 < a := by omega
    clear h
    go_enter Try.func7, Try.ntmps7
    go_wp2_with (first
      | (go_at_call 26; refine (bring_any _ 4 (by omega) (by omega) _).mono ?_; rintro e w' ⟨rfl, rfl⟩)
      | (go_at_call 20; refine (up_any _ _ _).mono ?_; rintro e w' ⟨rfl, rfl⟩)
      | (go_at_call 18; refine (works_any _).mono ?_; rintro e w' ⟨rfl, hb⟩))
    go_ret
    exact ⟨rfl, hb⟩
set_option maxHeartbeats 3200000 in
theorem up_ok_8 (a x p : Int) (w : World) (hr : x % 4 = 3) (h0 : 0 ≤ a) (h1 : a ≤ 9007199254740992) (f1 : upV a 8 = p) (f2 : (upE a 8 != 0) = false) (p0 : a ≤ p) (p1 : p - a < 8) (p2 : (p % 8 != 0) = false) (q1 : (upV p 1 != p) = false) (k1 : (upE p 1 != 0) = false) (j1 : upV a 1 ≤ p) (l1 : (upE a 1 != 0) = false) (q2 : (upV p 2 != p) = false) (k2 : (upE p 2 != 0) = false) (j2 : upV a 2 ≤ p) (l2 : (upE a 2 != 0) = false) (q4 : (upV p 4 != p) = false) (k4 : (upE p 4 != 0) = false) (j4 : upV a 4 ≤ p) (l4 : (upE a 4 != 0) = false) (q8 : (upV p 8 != p) = false) (k8 : (upE p 8 != 0) = false) :
    Calls Try.prog 7 #[.int .i64 a, .int .i64 x] w fun e w' => e = .returned (.bool true) ∧ Below w.heap.size w w' := by
  go_enter Try.func7, Try.ntmps7
  go_wp2_with (first
    | (go_at_call 26; refine (bring_any _ 4 (by omega) (by omega) _).mono ?_; rintro e w' ⟨rfl, rfl⟩)
    | (go_at_call 20; refine (up_any _ _ _).mono ?_; rintro e w' ⟨rfl, rfl⟩)
    | (go_at_call 18; refine (works_any _).mono ?_; rintro e w' ⟨rfl, hb⟩))
  refine wp_loop_rounds 5 ?_
  rw [rounds_succ]
  go_wp2_with (first
    | (go_at_call 26; refine (bring_any _ 4 (by omega) (by omega) _).mono ?_; rintro e w' ⟨rfl, rfl⟩)
    | (go_at_call 20; refine (up_any _ _ _).mono ?_; rintro e w' ⟨rfl, rfl⟩)
    | (go_at_call 18; refine (works_any _).mono ?_; rintro e w' ⟨rfl, hb⟩))
  rw [rounds_succ]
  go_wp2_with (first
    | (go_at_call 26; refine (bring_any _ 4 (by omega) (by omega) _).mono ?_; rintro e w' ⟨rfl, rfl⟩)
    | (go_at_call 20; refine (up_any _ _ _).mono ?_; rintro e w' ⟨rfl, rfl⟩)
    | (go_at_call 18; refine (works_any _).mono ?_; rintro e w' ⟨rfl, hb⟩))
  rw [rounds_succ]
  go_wp2_with (first
    | (go_at_call 26; refine (bring_any _ 4 (by omega) (by omega) _).mono ?_; rintro e w' ⟨rfl, rfl⟩)
    | (go_at_call 20; refine (up_any _ _ _).mono ?_; rintro e w' ⟨rfl, rfl⟩)
    | (go_at_call 18; refine (works_any _).mono ?_; rintro e w' ⟨rfl, hb⟩))
  rw [rounds_succ]
  go_wp2_with (first
    | (go_at_call 26; refine (bring_any _ 4 (by omega) (by omega) _).mono ?_; rintro e w' ⟨rfl, rfl⟩)
    | (go_at_call 20; refine (up_any _ _ _).mono ?_; rintro e w' ⟨rfl, rfl⟩)
    | (go_at_call 18; refine (works_any _).mono ?_; rintro e w' ⟨rfl, hb⟩))
  rw [rounds_succ]
  go_wp2_with (first
    | (go_at_call 26; refine (bring_any _ 4 (by omega) (by omega) _).mono ?_; rintro e w' ⟨rfl, rfl⟩)
    | (go_at_call 20; refine (up_any _ _ _).mono ?_; rintro e w' ⟨rfl, rfl⟩)
    | (go_at_call 18; refine (works_any _).mono ?_; rintro e w' ⟨rfl, hb⟩))
  go_ret
  exact ⟨rfl, hb⟩
theorem widthUp_walk (a x : Int) (w : World) (_ha : (Lit.int .i64 a).wf = true) (_hx : (Lit.int .i64 x).wf = true) :
    Calls Try.prog 7 #[.int .i64 a, .int .i64 x] w fun e w' => e = .returned (.bool true) ∧ Below w.heap.size w w' := by
  have hm : x % 4 = 0 ∨ x % 4 = 1 ∨ x % 4 = 2 ∨ x % 4 = 3 := by omega
  by_cases hb : a < 0 ∨ 9007199254740992 < a
  · have z : ∀ y, isW y = true → upV a y = 0 ∧ (upE a y != 0) = true := by
      intro y hy
      by_cases h0 : 0 ≤ a
      · obtain ⟨e1, e2⟩ := up_bad2 (a := a) ⟨hy, h0⟩ (by omega)
        exact ⟨e1, by rw [e2]; rfl⟩
      · obtain ⟨e1, e2⟩ := up_bad1 (a := a) (x := y) (fun hh => h0 hh.2)
        exact ⟨e1, by rw [e2]; rfl⟩
    rcases hm with h | h | h | h
    · exact up_bad_1 a x w h hb (z 1 w1).1 (z 1 w1).2
    · exact up_bad_2 a x w h hb (z 2 w2).1 (z 2 w2).2
    · exact up_bad_4 a x w h hb (z 4 w4).1 (z 4 w4).2
    · exact up_bad_8 a x w h hb (z 8 w8).1 (z 8 w8).2
  · have h0 : 0 ≤ a := by omega
    have h1 : a ≤ 9007199254740992 := by omega
    have n1 := up_eq w1 h0 h1
    have n2 := up_eq w2 h0 h1
    have n4 := up_eq w4 h0 h1
    have n8 := up_eq w8 h0 h1
    have zE : ∀ {b y : Int}, isW y = true → 0 ≤ b → b ≤ 9007199254740992 → (upE b y != 0) = false := by
      intro b y hy hb0 hb1
      rw [(up_eq hy hb0 hb1).2]; rfl
    have zV : ∀ {b y : Int}, isW y = true → 0 ≤ b → b ≤ 9007199254740992 → (b + y - 1) - (b + y - 1) % y = b → (upV b y != b) = false := by
      intro b y hy hb0 hb1 hh
      rw [(up_eq hy hb0 hb1).1, hh]; simp
    rcases hm with h | h | h | h
    · exact up_ok_1 a x ((a + 1 - 1) - (a + 1 - 1) % 1) w h h0 h1 n1.1 (zE w1 h0 h1) (by omega) (by omega) (bne_eq_false_iff_eq.2 (by omega))  (zV w1 (by omega) (by omega) (by omega)) (zE w1 (by omega) (by omega))
    · exact up_ok_2 a x ((a + 2 - 1) - (a + 2 - 1) % 2) w h h0 h1 n2.1 (zE w2 h0 h1) (by omega) (by omega) (bne_eq_false_iff_eq.2 (by omega)) (zV w1 (by omega) (by omega) (by omega)) (zE w1 (by omega) (by omega)) (by rw [n1.1]; omega) (zE w1 h0 h1) (zV w2 (by omega) (by omega) (by omega)) (zE w2 (by omega) (by omega))
    · exact up_ok_4 a x ((a + 4 - 1) - (a + 4 - 1) % 4) w h h0 h1 n4.1 (zE w4 h0 h1) (by omega) (by omega) (bne_eq_false_iff_eq.2 (by omega)) (zV w1 (by omega) (by omega) (by omega)) (zE w1 (by omega) (by omega)) (by rw [n1.1]; omega) (zE w1 h0 h1) (zV w2 (by omega) (by omega) (by omega)) (zE w2 (by omega) (by omega)) (by rw [n2.1]; omega) (zE w2 h0 h1) (zV w4 (by omega) (by omega) (by omega)) (zE w4 (by omega) (by omega))
    · exact up_ok_8 a x ((a + 8 - 1) - (a + 8 - 1) % 8) w h h0 h1 n8.1 (zE w8 h0 h1) (by omega) (by omega) (bne_eq_false_iff_eq.2 (by omega)) (zV w1 (by omega) (by omega) (by omega)) (zE w1 (by omega) (by omega)) (by rw [n1.1]; omega) (zE w1 h0 h1) (zV w2 (by omega) (by omega) (by omega)) (zE w2 (by omega) (by omega)) (by rw [n2.1]; omega) (zE w2 h0 h1) (zV w4 (by omega) (by omega) (by omega)) (zE w4 (by omega) (by omega)) (by rw [n4.1]; omega) (zE w4 h0 h1) (zV w8 (by omega) (by omega) (by omega)) (zE w8 (by omega) (by omega))
end Go.Proofs.Ytmepbafmocjnaaa
