import Derived.Test.YtmepbafmocjnaaaOf
namespace Go.Proofs.Ytmepbafmocjnaaa
open Go.RowKit
def upOk (a x : Int) : Bool := decide (isW x = true ∧ 0 ≤ a ∧ a ≤ 9007199254740992)
def upV (a x : Int) : Int := if upOk a x = true then (a + x - 1) - (a + x - 1) % x else 0
def upE (a x : Int) : Int := if isW x = true ∧ 0 ≤ a then (if a ≤ 9007199254740992 then 0 else 5) else 2
theorem up_bad1 {a x : Int} (h : ¬ (isW x = true ∧ 0 ≤ a)) : upV a x = 0 ∧ upE a x = 2 := by
  constructor
  · unfold upV; rw [if_neg]; simp only [upOk, decide_eq_true_eq]; intro hh; exact h ⟨hh.1, hh.2.1⟩
  · unfold upE; rw [if_neg h]
theorem up_bad2 {a x : Int} (h : isW x = true ∧ 0 ≤ a) (h' : ¬ a ≤ 9007199254740992) : upV a x = 0 ∧ upE a x = 5 := by
  constructor
  · unfold upV; rw [if_neg]; simp only [upOk, decide_eq_true_eq]; intro hh; exact h' hh.2.2
  · unfold upE; rw [if_pos h, if_neg h']
theorem up_good {a x : Int} (h : isW x = true ∧ 0 ≤ a) (h' : a ≤ 9007199254740992) : upV a x = (a + x - 1) - (a + x - 1) % x ∧ upE a x = 0 := by
  constructor
  · unfold upV; rw [if_pos]; simp only [upOk, decide_eq_true_eq]; exact ⟨h.1, h.2, h'⟩
  · unfold upE; rw [if_pos h, if_pos h']
theorem codeE_yes {x : Int} (h : isW x = true) : (codeE x != 0) = false := by simp [codeE, h]
theorem codeE_no {x : Int} (h : isW x = false) : (codeE x != 0) = true := by simp [codeE, h]
theorem mask1 (a : Int) (h0 : 0 ≤ a) (h1 : a < 9223372036854775808) : bits .andNot .i64 a 0 = a - a % 1 := andNot_mask a 0 (by omega) h0 h1
theorem mask2 (a : Int) (h0 : 0 ≤ a) (h1 : a < 9223372036854775808) : bits .andNot .i64 a 1 = a - a % 2 := andNot_mask a 1 (by omega) h0 h1
theorem mask4 (a : Int) (h0 : 0 ≤ a) (h1 : a < 9223372036854775808) : bits .andNot .i64 a 3 = a - a % 4 := andNot_mask a 2 (by omega) h0 h1
theorem mask8 (a : Int) (h0 : 0 ≤ a) (h1 : a < 9223372036854775808) : bits .andNot .i64 a 7 = a - a % 8 := andNot_mask a 3 (by omega) h0 h1
set_option maxHeartbeats 1600000 in
theorem up_any (a x : Int) (w : World) : Calls Try.prog 20 #[.int .i64 a, .int .i64 x] w fun e w' => e = .returned (.tuple #[.int .i64 (upV a x), .int .i64 (upE a x)]) ∧ w = w' := by
  cases hx : isW x
  · obtain ⟨e1, e2⟩ := up_bad1 (a := a) (x := x) (by simp [hx])
    rw [e1, e2]; clear e1 e2
    have f := codeE_no hx
    go_enter Try.func20, Try.ntmps20
    go_wp2_with (go_at_call 10; refine (code_any _ _).mono ?_; rintro e w' ⟨rfl, rfl⟩)
    go_ret2
    exact ⟨rfl, rfl⟩
  · have f := codeE_yes hx
    by_cases h0 : 0 ≤ a
    · by_cases h1 : a ≤ 9007199254740992
      · obtain ⟨e1, e2⟩ := up_good ⟨hx, h0⟩ h1
        rw [e1, e2]; clear e1 e2
        rcases isW_cases hx with rfl | rfl | rfl | rfl
        · clear hx
          go_enter Try.func20, Try.ntmps20
          go_wp2_with (go_at_call 10; refine (code_any _ _).mono ?_; rintro e w' ⟨rfl, rfl⟩)
          go_ret2
          exact ⟨ret_2 ((mask1 a (by omega) (by omega)).trans (by omega)) rfl, rfl⟩
        · clear hx
          go_enter Try.func20, Try.ntmps20
          go_wp2_with (go_at_call 10; refine (code_any _ _).mono ?_; rintro e w' ⟨rfl, rfl⟩)
          go_ret2
          exact ⟨ret_2 (by rw [← mask2 _ (by omega) (by omega)]) rfl, rfl⟩
        · clear hx
          go_enter Try.func20, Try.ntmps20
          go_wp2_with (go_at_call 10; refine (code_any _ _).mono ?_; rintro e w' ⟨rfl, rfl⟩)
          go_ret2
          exact ⟨ret_2 (by rw [← mask4 _ (by omega) (by omega)]) rfl, rfl⟩
        · clear hx
          go_enter Try.func20, Try.ntmps20
          go_wp2_with (go_at_call 10; refine (code_any _ _).mono ?_; rintro e w' ⟨rfl, rfl⟩)
          go_ret2
          exact ⟨ret_2 (by rw [← mask8 _ (by omega) (by omega)]) rfl, rfl⟩
      · obtain ⟨e1, e2⟩ := up_bad2 ⟨hx, h0⟩ h1
        rw [e1, e2]; clear e1 e2
        go_enter Try.func20, Try.ntmps20
        go_wp2_with (go_at_call 10; refine (code_any _ _).mono ?_; rintro e w' ⟨rfl, rfl⟩)
        go_ret2
        exact ⟨rfl, rfl⟩
    · obtain ⟨e1, e2⟩ := up_bad1 (a := a) (x := x) (fun h => h0 h.2)
      rw [e1, e2]; clear e1 e2
      go_enter Try.func20, Try.ntmps20
      go_wp2_with (go_at_call 10; refine (code_any _ _).mono ?_; rintro e w' ⟨rfl, rfl⟩)
      go_ret2
      exact ⟨rfl, rfl⟩
set_option maxHeartbeats 1600000 in
theorem rup_any (a x : Int) (w : World) : Calls Try.prog 21 #[.int .i64 a, .int .i64 x] w fun e w' => e = .returned (.tuple #[.int .i64 (upV a x), .int .i64 (upE a x)]) ∧ w = w' := by
  cases hx : isW x
  · obtain ⟨e1, e2⟩ := up_bad1 (a := a) (x := x) (by simp [hx])
    rw [e1, e2]; clear e1 e2
    go_enter Try.func21, Try.ntmps21
    go_wp2_with (go_at_call 32; refine (wide_any _ _).mono ?_; rintro e w' ⟨rfl, rfl⟩)
    go_ret2
    exact ⟨rfl, rfl⟩
  · by_cases h0 : 0 ≤ a
    · by_cases h1 : a ≤ 9007199254740992
      · obtain ⟨e1, e2⟩ := up_good ⟨hx, h0⟩ h1
        rw [e1, e2]; clear e1 e2
        rcases isW_cases hx with rfl | rfl | rfl | rfl
        · go_enter Try.func21, Try.ntmps21
          go_wp2_with (go_at_call 32; refine (wide_any _ _).mono ?_; rintro e w' ⟨rfl, rfl⟩)
          go_loop [0] (fun v => ∃ i : Int, a ≤ i ∧ i ≤ (a + 1 - 1) - (a + 1 - 1) % 1 ∧ v = .int .i64 i) (fun v => ((a + 1 - 1) - (a + 1 - 1) % 1 - intOf v).toNat)
          case atStart => exact ⟨a, by omega, by omega, rfl⟩
          case round =>
            obtain ⟨i, hi0, hi1, rfl⟩ := hrel
            by_cases hd : i % 1 = 0
            · have hb : (i.tmod 1 != 0) = false := by rw [Int.tmod_eq_emod_of_nonneg (by omega), hd]; rfl
              have hb' : (i % 1 != 0) = false := by rw [hd]; rfl
              have HD := Lib.hid hd
              clear hd
              go_wp2
              go_ret2
              exact ⟨ret_2 (by have := HD.out; omega) rfl, rfl⟩
            · exact absurd (Int.emod_one i) hd
        · go_enter Try.func21, Try.ntmps21
          go_wp2_with (go_at_call 32; refine (wide_any _ _).mono ?_; rintro e w' ⟨rfl, rfl⟩)
          go_loop [0] (fun v => ∃ i : Int, a ≤ i ∧ i ≤ (a + 2 - 1) - (a + 2 - 1) % 2 ∧ v = .int .i64 i) (fun v => ((a + 2 - 1) - (a + 2 - 1) % 2 - intOf v).toNat)
          case atStart => exact ⟨a, by omega, by omega, rfl⟩
          case round =>
            obtain ⟨i, hi0, hi1, rfl⟩ := hrel
            by_cases hd : i % 2 = 0
            · have hb : (i.tmod 2 != 0) = false := by rw [Int.tmod_eq_emod_of_nonneg (by omega), hd]; rfl
              have hb' : (i % 2 != 0) = false := by rw [hd]; rfl
              have HD := Lib.hid hd
              clear hd
              go_wp2
              go_ret2
              exact ⟨ret_2 (by have := HD.out; omega) rfl, rfl⟩
            · have hb : (i.tmod 2 != 0) = true := by rw [Int.tmod_eq_emod_of_nonneg (by omega)]; simp [hd]
              have hb' : (i % 2 != 0) = true := by simp [hd]
              go_wp2
              go_round
              case rel => exact ⟨i + 1, by omega, by omega, rfl⟩
              case measure => simp [intOf]; omega
        · go_enter Try.func21, Try.ntmps21
          go_wp2_with (go_at_call 32; refine (wide_any _ _).mono ?_; rintro e w' ⟨rfl, rfl⟩)
          go_loop [0] (fun v => ∃ i : Int, a ≤ i ∧ i ≤ (a + 4 - 1) - (a + 4 - 1) % 4 ∧ v = .int .i64 i) (fun v => ((a + 4 - 1) - (a + 4 - 1) % 4 - intOf v).toNat)
          case atStart => exact ⟨a, by omega, by omega, rfl⟩
          case round =>
            obtain ⟨i, hi0, hi1, rfl⟩ := hrel
            by_cases hd : i % 4 = 0
            · have hb : (i.tmod 4 != 0) = false := by rw [Int.tmod_eq_emod_of_nonneg (by omega), hd]; rfl
              have hb' : (i % 4 != 0) = false := by rw [hd]; rfl
              have HD := Lib.hid hd
              clear hd
              go_wp2
              go_ret2
              exact ⟨ret_2 (by have := HD.out; omega) rfl, rfl⟩
            · have hb : (i.tmod 4 != 0) = true := by rw [Int.tmod_eq_emod_of_nonneg (by omega)]; simp [hd]
              have hb' : (i % 4 != 0) = true := by simp [hd]
              go_wp2
              go_round
              case rel => exact ⟨i + 1, by omega, by omega, rfl⟩
              case measure => simp [intOf]; omega
        · go_enter Try.func21, Try.ntmps21
          go_wp2_with (go_at_call 32; refine (wide_any _ _).mono ?_; rintro e w' ⟨rfl, rfl⟩)
          go_loop [0] (fun v => ∃ i : Int, a ≤ i ∧ i ≤ (a + 8 - 1) - (a + 8 - 1) % 8 ∧ v = .int .i64 i) (fun v => ((a + 8 - 1) - (a + 8 - 1) % 8 - intOf v).toNat)
          case atStart => exact ⟨a, by omega, by omega, rfl⟩
          case round =>
            obtain ⟨i, hi0, hi1, rfl⟩ := hrel
            by_cases hd : i % 8 = 0
            · have hb : (i.tmod 8 != 0) = false := by rw [Int.tmod_eq_emod_of_nonneg (by omega), hd]; rfl
              have hb' : (i % 8 != 0) = false := by rw [hd]; rfl
              have HD := Lib.hid hd
              clear hd
              go_wp2
              go_ret2
              exact ⟨ret_2 (by have := HD.out; omega) rfl, rfl⟩
            · have hb : (i.tmod 8 != 0) = true := by rw [Int.tmod_eq_emod_of_nonneg (by omega)]; simp [hd]
              have hb' : (i % 8 != 0) = true := by simp [hd]
              go_wp2
              go_round
              case rel => exact ⟨i + 1, by omega, by omega, rfl⟩
              case measure => simp [intOf]; omega
      · obtain ⟨e1, e2⟩ := up_bad2 ⟨hx, h0⟩ h1
        rw [e1, e2]; clear e1 e2
        go_enter Try.func21, Try.ntmps21
        go_wp2_with (go_at_call 32; refine (wide_any _ _).mono ?_; rintro e w' ⟨rfl, rfl⟩)
        go_ret2
        exact ⟨rfl, rfl⟩
    · obtain ⟨e1, e2⟩ := up_bad1 (a := a) (x := x) (fun h => h0 h.2)
      rw [e1, e2]; clear e1 e2
      go_enter Try.func21, Try.ntmps21
      go_wp2_with (go_at_call 32; refine (wide_any _ _).mono ?_; rintro e w' ⟨rfl, rfl⟩)
      go_ret2
      exact ⟨rfl, rfl⟩
end Go.Proofs.Ytmepbafmocjnaaa
