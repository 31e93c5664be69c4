import Derived.Test.YtiagpjjjggldeaaTag
namespace Go.Proofs.Ytiagpjjjggldeaa
open Go.RowKit Go.ChangeMaps
theorem leg (k : Int) (hk : (kIs k != 0) = true) {t : Int} (h : (t == k) = true) : Ending.returned (.bool true) = Ending.returned (.bool (kIs t != 0)) := by
  have := eq_of_beq h; subst this; rw [hk]
theorem legNot {t : Int} (h0 : (t == 0) = false) (h1 : (t == 1) = false) (h2 : (t == 2) = false) (h4 : (t == 4) = false) (h5 : (t == 5) = false) (h6 : (t == 6) = false) (h7 : (t == 7) = false) (h9 : (t == 9) = false) (h10 : (t == 10) = false) (h11 : (t == 11) = false) (h12 : (t == 12) = false) (h14 : (t == 14) = false) (h16 : (t == 16) = false) (h17 : (t == 17) = false) (h19 : (t == 19) = false) (h20 : (t == 20) = false) (h22 : (t == 22) = false) (h23 : (t == 23) = false) (h25 : (t == 25) = false) (h26 : (t == 26) = false) (h36 : (t == 36) = false) : Ending.returned (.bool false) = Ending.returned (.bool (kIs t != 0)) := by
  simp only [beq_eq_false_iff_ne] at h0 h1 h2 h4 h5 h6 h7 h9 h10 h11 h12 h14 h16 h17 h19 h20 h22 h23 h25 h26 h36
  have : kIs t = 0 := by unfold kIs; rw [if_neg (by omega), if_neg (by omega), if_neg (by omega)]
  rw [this]; rfl
set_option maxHeartbeats 400000 in
theorem rlegal_any (t : Int) (w : World) :
    Calls Try.prog 20 #[.int .i64 t] w fun e w' => e = .returned (.bool (kIs t != 0)) ∧ Below w.heap.size w w' := by
  go_enter Try.func20, Try.ntmps20
  go_wp2
  all_goals go_ret
  all_goals refine ⟨?_, Below.refl _ _⟩
  all_goals (first | exact leg 0 rfl ‹(t == 0) = true› | exact leg 1 rfl ‹(t == 1) = true› | exact leg 2 rfl ‹(t == 2) = true› | exact leg 4 rfl ‹(t == 4) = true› | exact leg 5 rfl ‹(t == 5) = true› | exact leg 6 rfl ‹(t == 6) = true› | exact leg 7 rfl ‹(t == 7) = true› | exact leg 9 rfl ‹(t == 9) = true› | exact leg 10 rfl ‹(t == 10) = true› | exact leg 11 rfl ‹(t == 11) = true› | exact leg 12 rfl ‹(t == 12) = true› | exact leg 14 rfl ‹(t == 14) = true› | exact leg 16 rfl ‹(t == 16) = true› | exact leg 17 rfl ‹(t == 17) = true› | exact leg 19 rfl ‹(t == 19) = true› | exact leg 20 rfl ‹(t == 20) = true› | exact leg 22 rfl ‹(t == 22) = true› | exact leg 23 rfl ‹(t == 23) = true› | exact leg 25 rfl ‹(t == 25) = true› | exact leg 26 rfl ‹(t == 26) = true› | exact leg 36 rfl ‹(t == 36) = true› | exact legNot ‹(t == 0) = false› ‹(t == 1) = false› ‹(t == 2) = false› ‹(t == 4) = false› ‹(t == 5) = false› ‹(t == 6) = false› ‹(t == 7) = false› ‹(t == 9) = false› ‹(t == 10) = false› ‹(t == 11) = false› ‹(t == 12) = false› ‹(t == 14) = false› ‹(t == 16) = false› ‹(t == 17) = false› ‹(t == 19) = false› ‹(t == 20) = false› ‹(t == 22) = false› ‹(t == 23) = false› ‹(t == 25) = false› ‹(t == 26) = false› ‹(t == 36) = false›)
theorem rinNot {t : Int} (h0 : (t == 0) = false) (h1 : (t == 1) = false) (h2 : (t == 2) = false) (h26 : (t == 26) = false) : Ending.returned (.bool false) = Ending.returned (.bool (kIs t == 1)) := by
  simp only [beq_eq_false_iff_ne] at h0 h1 h2 h26
  have e3 : (kIs t == 1) = false := by
    unfold kIs
    rw [if_neg (by omega)]
    split; rfl
    split <;> rfl
  rw [e3]
set_option maxHeartbeats 400000 in
theorem rinline_any (t : Int) (w : World) :
    Calls Try.prog 22 #[.int .i64 t] w fun e w' => e = .returned (.bool (kIs t == 1)) ∧ Below w.heap.size w w' := by
  by_cases h0 : t = 0
  · subst h0
    go_enter Try.func22, Try.ntmps22
    go_wp2
    go_ret
    exact ⟨rfl, Below.refl _ _⟩
  by_cases h1 : t = 1
  · subst h1
    go_enter Try.func22, Try.ntmps22
    go_wp2
    go_ret
    exact ⟨rfl, Below.refl _ _⟩
  by_cases h2 : t = 2
  · subst h2
    go_enter Try.func22, Try.ntmps22
    go_wp2
    go_ret
    exact ⟨rfl, Below.refl _ _⟩
  by_cases h26 : t = 26
  · subst h26
    go_enter Try.func22, Try.ntmps22
    go_wp2
    go_ret
    exact ⟨rfl, Below.refl _ _⟩
  have b0 : (t == 0) = false := beq_eq_false_iff_ne.2 h0
  have b1 : (t == 1) = false := beq_eq_false_iff_ne.2 h1
  have b2 : (t == 2) = false := beq_eq_false_iff_ne.2 h2
  have b26 : (t == 26) = false := beq_eq_false_iff_ne.2 h26
  clear h0 h1 h2 h26
  go_enter Try.func22, Try.ntmps22
  go_wp2
  go_ret
  exact ⟨rinNot b0 b1 b2 b26, Below.refl _ _⟩
theorem relNot {t : Int} (h11 : (t == 11) = false) (h12 : (t == 12) = false) (h14 : (t == 14) = false) (h36 : (t == 36) = false) (h16 : (t == 16) = false) (h19 : (t == 19) = false) (h22 : (t == 22) = false) (h17 : (t == 17) = false) (h20 : (t == 20) = false) (h23 : (t == 23) = false) : Ending.returned (.tuple #[.int .i64 0, .int .i64 0, .bool false]) = Ending.returned (.tuple #[.int .i64 (kElem t), .int .i64 (kMany t), .bool (kIs t == 3)]) := by
  simp only [beq_eq_false_iff_ne] at h11 h12 h14 h36 h16 h19 h22 h17 h20 h23
  have e1 : kElem t = 0 := by unfold kElem; rw [if_neg (by omega), if_neg (by omega), if_neg (by omega), if_neg (by omega)]
  have e2 : kMany t = 0 := by unfold kMany; rw [if_neg (by omega), if_neg (by omega), if_neg (by omega)]
  have e3 : (kIs t == 3) = false := by
    unfold kIs
    split; rfl
    split; rfl
    rw [if_neg (by omega)]; rfl
  rw [e1, e2, e3]
set_option maxHeartbeats 800000 in
theorem relem_any (t : Int) (w : World) :
    Calls Try.prog 16 #[.int .i64 t] w fun e w' => e = .returned (.tuple #[.int .i64 (kElem t), .int .i64 (kMany t), .bool (kIs t == 3)]) ∧ Below w.heap.size w w' := by
  by_cases h11 : t = 11
  · subst h11
    go_enter Try.func16, Try.ntmps16
    go_wp2
    go_ret3
    exact ⟨rfl, Below.refl _ _⟩
  by_cases h12 : t = 12
  · subst h12
    go_enter Try.func16, Try.ntmps16
    go_wp2
    go_ret3
    exact ⟨rfl, Below.refl _ _⟩
  by_cases h14 : t = 14
  · subst h14
    go_enter Try.func16, Try.ntmps16
    go_wp2
    go_ret3
    exact ⟨rfl, Below.refl _ _⟩
  by_cases h36 : t = 36
  · subst h36
    go_enter Try.func16, Try.ntmps16
    go_wp2
    go_ret3
    exact ⟨rfl, Below.refl _ _⟩
  by_cases h16 : t = 16
  · subst h16
    go_enter Try.func16, Try.ntmps16
    go_wp2
    go_ret3
    exact ⟨rfl, Below.refl _ _⟩
  by_cases h19 : t = 19
  · subst h19
    go_enter Try.func16, Try.ntmps16
    go_wp2
    go_ret3
    exact ⟨rfl, Below.refl _ _⟩
  by_cases h22 : t = 22
  · subst h22
    go_enter Try.func16, Try.ntmps16
    go_wp2
    go_ret3
    exact ⟨rfl, Below.refl _ _⟩
  by_cases h17 : t = 17
  · subst h17
    go_enter Try.func16, Try.ntmps16
    go_wp2
    go_ret3
    exact ⟨rfl, Below.refl _ _⟩
  by_cases h20 : t = 20
  · subst h20
    go_enter Try.func16, Try.ntmps16
    go_wp2
    go_ret3
    exact ⟨rfl, Below.refl _ _⟩
  by_cases h23 : t = 23
  · subst h23
    go_enter Try.func16, Try.ntmps16
    go_wp2
    go_ret3
    exact ⟨rfl, Below.refl _ _⟩
  have b11 : (t == 11) = false := beq_eq_false_iff_ne.2 h11
  have b12 : (t == 12) = false := beq_eq_false_iff_ne.2 h12
  have b14 : (t == 14) = false := beq_eq_false_iff_ne.2 h14
  have b36 : (t == 36) = false := beq_eq_false_iff_ne.2 h36
  have b16 : (t == 16) = false := beq_eq_false_iff_ne.2 h16
  have b19 : (t == 19) = false := beq_eq_false_iff_ne.2 h19
  have b22 : (t == 22) = false := beq_eq_false_iff_ne.2 h22
  have b17 : (t == 17) = false := beq_eq_false_iff_ne.2 h17
  have b20 : (t == 20) = false := beq_eq_false_iff_ne.2 h20
  have b23 : (t == 23) = false := beq_eq_false_iff_ne.2 h23
  clear h11 h12 h14 h36 h16 h19 h22 h17 h20 h23
  go_enter Try.func16, Try.ntmps16
  go_wp2
  go_ret3
  exact ⟨relNot b11 b12 b14 b36 b16 b19 b22 b17 b20 b23, Below.refl _ _⟩
theorem ret2 {a b a' b' : Value} (h1 : a = a') (h2 : b = b') : Ending.returned (.tuple #[a, b]) = Ending.returned (.tuple #[a', b']) := by rw [h1, h2]
theorem u8_eq {a b : Int} (h : a = b) : Value.int .u8 a = Value.int .u8 b := by rw [h]
set_option maxHeartbeats 800000 in
theorem rpack_any (t x : Int) (w : World) :
    Calls Try.prog 11 #[.int .i64 t, .int .i64 x] w fun e w' => e = .returned (.tuple #[.int .u8 (packC t x), .int .i64 (packE t x)]) ∧ Below w.heap.size w w' := by
  cases h : (kIs t != 0)
  · have e1 : packC t x = 0 := by simp [packC, h]
    have e2 : packE t x = 20 := by simp [packE, h]
    rw [e1, e2]
    clear e1 e2
    go_enter Try.func11, Try.ntmps11
    go_wp2_with (go_at_call 20; refine (rlegal_any _ _).mono ?_; rintro e w' ⟨rfl, hb⟩)
    go_ret2
    exact ⟨rfl, hb⟩
  · cases hx : isW x
    · have e1 : packC t x = 0 := by simp [packC, hx]
      have e2 : packE t x = 2 := by simp [packE, h, hx]
      rw [e1, e2]
      clear e1 e2
      simp only [isW, decide_eq_false_iff_not] at hx
      have x1 : ((1 : Int) == x) = false := by simp; omega
      have x2 : ((2 : Int) == x) = false := by simp; omega
      have x4 : ((4 : Int) == x) = false := by simp; omega
      have x8 : ((8 : Int) == x) = false := by simp; omega
      clear hx
      go_enter Try.func11, Try.ntmps11
      go_wp2_with (go_at_call 20; refine (rlegal_any _ _).mono ?_; rintro e w' ⟨rfl, hb⟩)
      refine wp_loop_rounds 5 ?_
      rw [rounds_succ]
      go_wp2
      rw [rounds_succ]
      go_wp2
      rw [rounds_succ]
      go_wp2
      rw [rounds_succ]
      go_wp2
      rw [rounds_succ]
      go_wp2
      go_ret2
      exact ⟨rfl, hb⟩
    · have hx' := hx
      simp only [isW, decide_eq_true_eq] at hx'
      have e1 : packC t x = 4 * t + pcode x := by simp [packC, h, hx]
      have e2 : packE t x = 0 := by simp [packE, h, hx]
      rw [e1, e2]
      obtain ⟨t0, t1⟩ := kIs_range t h
      clear e1 e2 hx
      rcases hx' with rfl | rfl | rfl | rfl
      · go_enter Try.func11, Try.ntmps11
        go_wp2_with (go_at_call 20; refine (rlegal_any _ _).mono ?_; rintro e w' ⟨rfl, hb⟩)
        refine wp_loop_rounds 1 ?_
        rw [rounds_succ]
        go_wp2
        go_ret2
        exact ⟨ret2 (u8_eq (by show _ = _ + (0 : Int); omega)) rfl, hb⟩
      · go_enter Try.func11, Try.ntmps11
        go_wp2_with (go_at_call 20; refine (rlegal_any _ _).mono ?_; rintro e w' ⟨rfl, hb⟩)
        refine wp_loop_rounds 2 ?_
        rw [rounds_succ]
        go_wp2
        rw [rounds_succ]
        go_wp2
        go_ret2
        exact ⟨ret2 (u8_eq (by show _ = _ + (1 : Int); omega)) rfl, hb⟩
      · go_enter Try.func11, Try.ntmps11
        go_wp2_with (go_at_call 20; refine (rlegal_any _ _).mono ?_; rintro e w' ⟨rfl, hb⟩)
        refine wp_loop_rounds 3 ?_
        rw [rounds_succ]
        go_wp2
        rw [rounds_succ]
        go_wp2
        rw [rounds_succ]
        go_wp2
        go_ret2
        exact ⟨ret2 (u8_eq (by show _ = _ + (2 : Int); omega)) rfl, hb⟩
      · go_enter Try.func11, Try.ntmps11
        go_wp2_with (go_at_call 20; refine (rlegal_any _ _).mono ?_; rintro e w' ⟨rfl, hb⟩)
        refine wp_loop_rounds 4 ?_
        rw [rounds_succ]
        go_wp2
        rw [rounds_succ]
        go_wp2
        rw [rounds_succ]
        go_wp2
        rw [rounds_succ]
        go_wp2
        go_ret2
        exact ⟨ret2 (u8_eq (by show _ = _ + (3 : Int); omega)) rfl, hb⟩
set_option maxHeartbeats 400000 in
theorem runpack_any (c : Int) (w : World) (c0 : 0 ≤ c) (c1 : c < 256) :
    Calls Try.prog 13 #[.int .u8 c] w fun e w' => e = .returned (.tuple #[.int .i64 (unT c), .int .i64 (unW c), .int .i64 (unE c)]) ∧ Below w.heap.size w w' := by
  cases h : (kIs (c / 4) != 0)
  · have e1 : unT c = 0 := by simp [unT, h]
    have e2 : unW c = 0 := by simp [unW, h]
    have e3 : unE c = 20 := by simp [unE, h]
    rw [e1, e2, e3]
    clear e1 e2 e3
    go_enter Try.func13, Try.ntmps13
    go_wp2_with (go_at_call 20; refine (rlegal_any _ _).mono ?_; rintro e w' ⟨rfl, hb⟩)
    go_ret3
    exact ⟨rfl, hb⟩
  · have e1 : unT c = c / 4 := by simp [unT, h]
    have e2 : unW c = wOf c := by simp [unW, h]
    have e3 : unE c = 0 := by simp [unE, h]
    rw [e1, e2, e3]
    clear e1 e2 e3
    go_enter Try.func13, Try.ntmps13
    go_wp2_with (first | (go_at_call 20; refine (rlegal_any _ _).mono ?_; rintro e w' ⟨rfl, hb⟩) | go_in)
    go_ret3
    exact ⟨ret3 rfl (by rw [← pow_wOf]; rfl) rfl, hb⟩
end Go.Proofs.Ytiagpjjjggldeaa
