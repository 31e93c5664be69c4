import Derived.Test.YtmepbafmocjnaaaCode
namespace Go.Proofs.Ytmepbafmocjnaaa
open Go.RowKit
set_option maxHeartbeats 1600000 in
theorem least_any (n : Int) (h0 : 0 ≤ n) (h1 : n ≤ 65) (w : World) : Calls Try.prog 27 #[.int .i64 n] w fun e w' => e = .returned (.int .i64 (leastW n)) ∧ w = w' := by
  by_cases c1 : n ≤ 8
  · have e : leastW n = 1 := by unfold leastW; rw [if_pos c1]
    rw [e]; clear e
    go_enter Try.func27, Try.ntmps27
    go_wp2
    refine wp_loop_rounds 1 ?_
    rw [rounds_succ]
    go_wp2
    go_ret
    exact ⟨rfl, rfl⟩
  · by_cases c2 : n ≤ 16
    · have e : leastW n = 2 := by unfold leastW; rw [if_neg c1, if_pos c2]
      rw [e]; clear e
      go_enter Try.func27, Try.ntmps27
      go_wp2
      refine wp_loop_rounds 2 ?_
      rw [rounds_succ]
      go_wp2
      rw [rounds_succ]
      go_wp2
      go_ret
      exact ⟨rfl, rfl⟩
    · by_cases c3 : n ≤ 32
      · have e : leastW n = 4 := by unfold leastW; rw [if_neg c1, if_neg c2, if_pos c3]
        rw [e]; clear e
        go_enter Try.func27, Try.ntmps27
        go_wp2
        refine wp_loop_rounds 3 ?_
        rw [rounds_succ]
        go_wp2
        rw [rounds_succ]
        go_wp2
        rw [rounds_succ]
        go_wp2
        go_ret
        exact ⟨rfl, rfl⟩
      · have e : leastW n = 8 := by unfold leastW; rw [if_neg c1, if_neg c2, if_neg c3]
        rw [e]; clear e
        by_cases c4 : n ≤ 64
        · go_enter Try.func27, Try.ntmps27
          go_wp2
          refine wp_loop_rounds 4 ?_
          rw [rounds_succ]
          go_wp2
          rw [rounds_succ]
          go_wp2
          rw [rounds_succ]
          go_wp2
          rw [rounds_succ]
          go_wp2
          go_ret
          exact ⟨rfl, rfl⟩
        · go_enter Try.func27, Try.ntmps27
          go_wp2
          refine wp_loop_rounds 5 ?_
          rw [rounds_succ]
          go_wp2
          rw [rounds_succ]
          go_wp2
          rw [rounds_succ]
          go_wp2
          rw [rounds_succ]
          go_wp2
          rw [rounds_succ]
          go_wp2
          go_ret
          exact ⟨rfl, rfl⟩
theorem bl_64 (u : Int) (h0 : 0 ≤ u) (h1 : u < 18446744073709551616) : 0 ≤ (Lib.bitLen u.toNat : Int) ∧ (Lib.bitLen u.toNat : Int) ≤ 64 := by
  have := Lib.bitLen_le u.toNat 64 (by omega) (by omega)
  omega
set_option maxHeartbeats 800000 in
theorem of_any (u : Int) (h0 : 0 ≤ u) (h1 : u < 18446744073709551616) (w : World) : Calls Try.prog 14 #[.int .u64 u] w fun e w' => e = .returned (.int .i64 (ofW u)) ∧ w = w' := by
  obtain ⟨b0, b1⟩ := bl_64 u h0 h1
  rw [← least_of u h0 h1]
  go_enter Try.func14, Try.ntmps14
  go_wp2_with (first
    | (go_at_call 28; refine (Try.bits_Len64 _ _ h0 (by omega)).mono ?_; rintro e w' ⟨rfl, rfl⟩)
    | (go_at_call 27; refine (least_any _ (by omega) (by omega) _).mono ?_; rintro e w' ⟨rfl, rfl⟩))
  go_ret
  exact ⟨rfl, rfl⟩
theorem fold_u64 (n : Int) (h0 : -9223372036854775808 ≤ n) (h1 : n < 9223372036854775808) : IntKind.u64.wrap (bits BinOp.xor IntKind.i64 n (n / 9223372036854775808)) = fold n := by
  unfold fold
  by_cases h : n < 0
  · rw [if_pos h, show n / 9223372036854775808 = -1 from by omega, xor_ones n h0 h, IntKind.wrap_u64]; omega
  · rw [if_neg h, show n / 9223372036854775808 = 0 from by omega, xor_zero n h0 h1, IntKind.wrap_u64]; omega
set_option maxHeartbeats 800000 in
theorem ofInt_any (n : Int) (h0 : -9223372036854775808 ≤ n) (h1 : n < 9223372036854775808) (w : World) : Calls Try.prog 16 #[.int .i64 n] w fun e w' => e = .returned (.int .i64 (oiW n)) ∧ w = w' := by
  have hf : 0 ≤ fold n ∧ fold n < 9223372036854775808 := by unfold fold; split <;> omega
  obtain ⟨b0, b1⟩ := bl_64 (fold n) hf.1 (by omega)
  obtain ⟨f0, f1⟩ := hf
  rw [← least_oi n h0 h1]
  go_enter Try.func16, Try.ntmps16
  go_wp2_with fail
  rw [fold_u64 n h0 h1]
  refine (Try.bits_Len64 _ _ f0 (by omega)).mono ?_
  rintro e w' ⟨rfl, rfl⟩
  go_wp2_with (go_at_call 27; refine (least_any _ (by omega) (by omega) _).mono ?_; rintro e w' ⟨rfl, rfl⟩)
  go_ret
  exact ⟨rfl, rfl⟩
set_option maxHeartbeats 800000 in
theorem fits_1 (u : Int) (b : Bool) (hb : decide (u < 256) = b) (w : World) : Calls Try.prog 29 #[.int .i64 1, .int .u64 u] w fun e w' => e = .returned (.bool b) ∧ w = w' := by
  subst hb
  go_enter Try.func29, Try.ntmps29
  go_wp2
  go_ret
  exact ⟨rfl, rfl⟩
set_option maxHeartbeats 800000 in
theorem fitsInt_1 (n : Int) (b : Bool) (hb : decide (-128 ≤ n ∧ n < 128) = b) (w : World) : Calls Try.prog 30 #[.int .i64 1, .int .i64 n] w fun e w' => e = .returned (.bool b) ∧ w = w' := by
  subst hb
  by_cases h0 : -128 ≤ n
  · by_cases h1 : n < 128
    · rw [show decide (-128 ≤ n ∧ n < 128) = true from by simp; omega]
      go_enter Try.func30, Try.ntmps30
      go_wp2
      go_ret
      exact ⟨rfl, rfl⟩
    · rw [show decide (-128 ≤ n ∧ n < 128) = false from by simp; omega]
      go_enter Try.func30, Try.ntmps30
      go_wp2
      go_ret
      exact ⟨rfl, rfl⟩
  · rw [show decide (-128 ≤ n ∧ n < 128) = false from by simp; omega]
    go_enter Try.func30, Try.ntmps30
    go_wp2
    go_ret
    exact ⟨rfl, rfl⟩
set_option maxHeartbeats 800000 in
theorem fits_2 (u : Int) (b : Bool) (hb : decide (u < 65536) = b) (w : World) : Calls Try.prog 29 #[.int .i64 2, .int .u64 u] w fun e w' => e = .returned (.bool b) ∧ w = w' := by
  subst hb
  go_enter Try.func29, Try.ntmps29
  go_wp2
  go_ret
  exact ⟨rfl, rfl⟩
set_option maxHeartbeats 800000 in
theorem fitsInt_2 (n : Int) (b : Bool) (hb : decide (-32768 ≤ n ∧ n < 32768) = b) (w : World) : Calls Try.prog 30 #[.int .i64 2, .int .i64 n] w fun e w' => e = .returned (.bool b) ∧ w = w' := by
  subst hb
  by_cases h0 : -32768 ≤ n
  · by_cases h1 : n < 32768
    · rw [show decide (-32768 ≤ n ∧ n < 32768) = true from by simp; omega]
      go_enter Try.func30, Try.ntmps30
      go_wp2
      go_ret
      exact ⟨rfl, rfl⟩
    · rw [show decide (-32768 ≤ n ∧ n < 32768) = false from by simp; omega]
      go_enter Try.func30, Try.ntmps30
      go_wp2
      go_ret
      exact ⟨rfl, rfl⟩
  · rw [show decide (-32768 ≤ n ∧ n < 32768) = false from by simp; omega]
    go_enter Try.func30, Try.ntmps30
    go_wp2
    go_ret
    exact ⟨rfl, rfl⟩
set_option maxHeartbeats 800000 in
theorem fits_4 (u : Int) (b : Bool) (hb : decide (u < 4294967296) = b) (w : World) : Calls Try.prog 29 #[.int .i64 4, .int .u64 u] w fun e w' => e = .returned (.bool b) ∧ w = w' := by
  subst hb
  go_enter Try.func29, Try.ntmps29
  go_wp2
  go_ret
  exact ⟨rfl, rfl⟩
set_option maxHeartbeats 800000 in
theorem fitsInt_4 (n : Int) (b : Bool) (hb : decide (-2147483648 ≤ n ∧ n < 2147483648) = b) (w : World) : Calls Try.prog 30 #[.int .i64 4, .int .i64 n] w fun e w' => e = .returned (.bool b) ∧ w = w' := by
  subst hb
  by_cases h0 : -2147483648 ≤ n
  · by_cases h1 : n < 2147483648
    · rw [show decide (-2147483648 ≤ n ∧ n < 2147483648) = true from by simp; omega]
      go_enter Try.func30, Try.ntmps30
      go_wp2
      go_ret
      exact ⟨rfl, rfl⟩
    · rw [show decide (-2147483648 ≤ n ∧ n < 2147483648) = false from by simp; omega]
      go_enter Try.func30, Try.ntmps30
      go_wp2
      go_ret
      exact ⟨rfl, rfl⟩
  · rw [show decide (-2147483648 ≤ n ∧ n < 2147483648) = false from by simp; omega]
    go_enter Try.func30, Try.ntmps30
    go_wp2
    go_ret
    exact ⟨rfl, rfl⟩
set_option maxHeartbeats 1600000 in
theorem rof_any (n : Int) (w : World) : Calls Try.prog 15 #[.int .u64 n] w fun e w' => e = .returned (.int .i64 (ofW n)) ∧ w = w' := by
  by_cases c1 : n < 256
  · have e : ofW n = 1 := by unfold ofW; rw [if_pos c1]
    rw [e]; clear e
    go_enter Try.func15, Try.ntmps15
    go_wp2
    refine wp_loop_rounds 1 ?_
    rw [rounds_succ]
    go_wp2_with (go_at_call 29; refine (fits_1 _ true (by simp only [decide_eq_true_eq]; omega) _).mono ?_; rintro e w' ⟨rfl, rfl⟩)
    go_ret
    exact ⟨rfl, rfl⟩
  · by_cases c2 : n < 65536
    · have e : ofW n = 2 := by unfold ofW; rw [if_neg c1, if_pos c2]
      rw [e]; clear e
      go_enter Try.func15, Try.ntmps15
      go_wp2
      refine wp_loop_rounds 2 ?_
      rw [rounds_succ]
      go_wp2_with (go_at_call 29; refine (fits_1 _ false (by simp only [decide_eq_false_iff_not]; omega) _).mono ?_; rintro e w' ⟨rfl, rfl⟩)
      rw [rounds_succ]
      go_wp2_with (go_at_call 29; refine (fits_2 _ true (by simp only [decide_eq_true_eq]; omega) _).mono ?_; rintro e w' ⟨rfl, rfl⟩)
      go_ret
      exact ⟨rfl, rfl⟩
    · by_cases c3 : n < 4294967296
      · have e : ofW n = 4 := by unfold ofW; rw [if_neg c1, if_neg c2, if_pos c3]
        rw [e]; clear e
        go_enter Try.func15, Try.ntmps15
        go_wp2
        refine wp_loop_rounds 3 ?_
        rw [rounds_succ]
        go_wp2_with (go_at_call 29; refine (fits_1 _ false (by simp only [decide_eq_false_iff_not]; omega) _).mono ?_; rintro e w' ⟨rfl, rfl⟩)
        rw [rounds_succ]
        go_wp2_with (go_at_call 29; refine (fits_2 _ false (by simp only [decide_eq_false_iff_not]; omega) _).mono ?_; rintro e w' ⟨rfl, rfl⟩)
        rw [rounds_succ]
        go_wp2_with (go_at_call 29; refine (fits_4 _ true (by simp only [decide_eq_true_eq]; omega) _).mono ?_; rintro e w' ⟨rfl, rfl⟩)
        go_ret
        exact ⟨rfl, rfl⟩
      · have e : ofW n = 8 := by unfold ofW; rw [if_neg c1, if_neg c2, if_neg c3]
        rw [e]; clear e
        go_enter Try.func15, Try.ntmps15
        go_wp2
        refine wp_loop_rounds 4 ?_
        rw [rounds_succ]
        go_wp2_with (go_at_call 29; refine (fits_1 _ false (by simp only [decide_eq_false_iff_not]; omega) _).mono ?_; rintro e w' ⟨rfl, rfl⟩)
        rw [rounds_succ]
        go_wp2_with (go_at_call 29; refine (fits_2 _ false (by simp only [decide_eq_false_iff_not]; omega) _).mono ?_; rintro e w' ⟨rfl, rfl⟩)
        rw [rounds_succ]
        go_wp2_with (go_at_call 29; refine (fits_4 _ false (by simp only [decide_eq_false_iff_not]; omega) _).mono ?_; rintro e w' ⟨rfl, rfl⟩)
        rw [rounds_succ]
        go_wp2
        go_ret
        exact ⟨rfl, rfl⟩
set_option maxHeartbeats 1600000 in
theorem rofInt_any (n : Int) (w : World) : Calls Try.prog 17 #[.int .i64 n] w fun e w' => e = .returned (.int .i64 (oiW n)) ∧ w = w' := by
  by_cases c1 : -128 ≤ n ∧ n < 128
  · have e : oiW n = 1 := by unfold oiW; rw [if_pos c1]
    rw [e]; clear e
    go_enter Try.func17, Try.ntmps17
    go_wp2
    refine wp_loop_rounds 1 ?_
    rw [rounds_succ]
    go_wp2_with (go_at_call 30; refine (fitsInt_1 _ true (by simp only [decide_eq_true_eq]; omega) _).mono ?_; rintro e w' ⟨rfl, rfl⟩)
    go_ret
    exact ⟨rfl, rfl⟩
  · by_cases c2 : -32768 ≤ n ∧ n < 32768
    · have e : oiW n = 2 := by unfold oiW; rw [if_neg c1, if_pos c2]
      rw [e]; clear e
      go_enter Try.func17, Try.ntmps17
      go_wp2
      refine wp_loop_rounds 2 ?_
      rw [rounds_succ]
      go_wp2_with (go_at_call 30; refine (fitsInt_1 _ false (by simp only [decide_eq_false_iff_not]; omega) _).mono ?_; rintro e w' ⟨rfl, rfl⟩)
      rw [rounds_succ]
      go_wp2_with (go_at_call 30; refine (fitsInt_2 _ true (by simp only [decide_eq_true_eq]; omega) _).mono ?_; rintro e w' ⟨rfl, rfl⟩)
      go_ret
      exact ⟨rfl, rfl⟩
    · by_cases c3 : -2147483648 ≤ n ∧ n < 2147483648
      · have e : oiW n = 4 := by unfold oiW; rw [if_neg c1, if_neg c2, if_pos c3]
        rw [e]; clear e
        go_enter Try.func17, Try.ntmps17
        go_wp2
        refine wp_loop_rounds 3 ?_
        rw [rounds_succ]
        go_wp2_with (go_at_call 30; refine (fitsInt_1 _ false (by simp only [decide_eq_false_iff_not]; omega) _).mono ?_; rintro e w' ⟨rfl, rfl⟩)
        rw [rounds_succ]
        go_wp2_with (go_at_call 30; refine (fitsInt_2 _ false (by simp only [decide_eq_false_iff_not]; omega) _).mono ?_; rintro e w' ⟨rfl, rfl⟩)
        rw [rounds_succ]
        go_wp2_with (go_at_call 30; refine (fitsInt_4 _ true (by simp only [decide_eq_true_eq]; omega) _).mono ?_; rintro e w' ⟨rfl, rfl⟩)
        go_ret
        exact ⟨rfl, rfl⟩
      · have e : oiW n = 8 := by unfold oiW; rw [if_neg c1, if_neg c2, if_neg c3]
        rw [e]; clear e
        go_enter Try.func17, Try.ntmps17
        go_wp2
        refine wp_loop_rounds 4 ?_
        rw [rounds_succ]
        go_wp2_with (go_at_call 30; refine (fitsInt_1 _ false (by simp only [decide_eq_false_iff_not]; omega) _).mono ?_; rintro e w' ⟨rfl, rfl⟩)
        rw [rounds_succ]
        go_wp2_with (go_at_call 30; refine (fitsInt_2 _ false (by simp only [decide_eq_false_iff_not]; omega) _).mono ?_; rintro e w' ⟨rfl, rfl⟩)
        rw [rounds_succ]
        go_wp2_with (go_at_call 30; refine (fitsInt_4 _ false (by simp only [decide_eq_false_iff_not]; omega) _).mono ?_; rintro e w' ⟨rfl, rfl⟩)
        rw [rounds_succ]
        go_wp2
        go_ret
        exact ⟨rfl, rfl⟩
set_option maxHeartbeats 800000 in
theorem wide_any (x : Int) (w : World) : Calls Try.prog 32 #[.int .i64 x] w fun e w' => e = .returned (.bool (isW x)) ∧ w = w' := by
  cases h : isW x
  · obtain ⟨x1, x2, x4, x8, p, c⟩ := notW h
    clear p c
    go_enter Try.func32, Try.ntmps32
    go_wp2
    go_ret
    exact ⟨rfl, rfl⟩
  · rcases isW_cases h with rfl | rfl | rfl | rfl
    all_goals
      clear h
      go_enter Try.func32, Try.ntmps32
      go_wp2
      go_ret
      exact ⟨rfl, rfl⟩
set_option maxHeartbeats 800000 in
theorem among_yes (x : Int) (h : isW x = true) (w : World) : Calls Try.prog 25 #[.int .i64 x] w fun e w' => e = .returned (.bool true) ∧ w = w' := by
  rcases isW_cases h with rfl | rfl | rfl | rfl
  all_goals
    clear h
    go_enter Try.func25, Try.ntmps25
    go_wp2
    go_ret
    exact ⟨rfl, rfl⟩
set_option maxHeartbeats 400000 in
theorem is_yes (n e a b : Int) (h1 : (n == a) = true) (h2 : (e == b) = true) (w : World) : Calls Try.prog 31 #[.int .i64 n, .int .i64 e, .int .i64 a, .int .i64 b] w fun e w' => e = .returned (.bool true) ∧ w = w' := by
  go_enter Try.func31, Try.ntmps31
  go_wp2
  go_ret
  exact ⟨rfl, rfl⟩
theorem bring_eq (i n : Int) (hn : 0 < n) : (i.tmod n < 0 → i % n = i.tmod n + n) ∧ (¬ i.tmod n < 0 → i % n = i.tmod n) ∧ -n < i.tmod n ∧ i.tmod n < n := by
  have h := Int.tmod_eq_emod (a := i) (b := n)
  have h1 := Int.emod_nonneg i (by omega : n ≠ 0)
  have h2 := Int.emod_lt_of_pos i hn
  have e : (n.natAbs : Int) = n := by omega
  by_cases hh : 0 ≤ i ∨ n ∣ i
  · rw [if_pos hh] at h; omega
  · rw [if_neg hh] at h
    have : ¬ (i % n = 0) := fun z => hh (Or.inr (Int.dvd_of_emod_eq_zero z))
    omega
set_option maxHeartbeats 400000 in
theorem bring_any (i n : Int) (hn : 0 < n) (hn' : n ≤ 9007199254740992) (w : World) : Calls Try.prog 26 #[.int .i64 i, .int .i64 n] w fun e w' => e = .returned (.int .i64 (i % n)) ∧ w = w' := by
  obtain ⟨b1, b2, b3, b4⟩ := bring_eq i n hn
  have hz : (n == 0) = false := by simp; omega
  by_cases h : i.tmod n < 0
  · have B := Lib.hid (b1 h)
    clear b1 b2
    go_enter Try.func26, Try.ntmps26
    go_wp2
    go_ret
    exact ⟨ret_i64 (by rw [B.out]), rfl⟩
  · have B := Lib.hid (b2 h)
    clear b1 b2
    go_enter Try.func26, Try.ntmps26
    go_wp2
    go_ret
    exact ⟨ret_i64 (by rw [B.out]), rfl⟩
end Go.Proofs.Ytmepbafmocjnaaa
