import Derived.Test.YtmepbafmocjnaaaWorks
namespace Go.Proofs.Ytmepbafmocjnaaa
open Go.RowKit
theorem u64_bd {c : Int} (h : (Lit.int .u64 c).wf = true) : 0 ≤ c ∧ c < 18446744073709551616 := by
  simp [Lit.wf, IntKind.min, IntKind.max, IntKind.bits, IntKind.signed] at h
  omega
theorem i64_bd {c : Int} (h : (Lit.int .i64 c).wf = true) : -9223372036854775808 ≤ c ∧ c < 9223372036854775808 := by
  simp [Lit.wf, IntKind.min, IntKind.max, IntKind.bits, IntKind.signed] at h
  omega
theorem wrap_bd (n : Int) : -9223372036854775808 ≤ wrap64 n ∧ wrap64 n < 9223372036854775808 := by unfold wrap64; omega
set_option maxHeartbeats 1600000 in
theorem widthTells_walk (u x : Int) (w : World) (hu : (Lit.int .u64 u).wf = true) (_hx : (Lit.int .i64 x).wf = true) :
    Calls Try.prog 3 #[.int .u64 u, .int .i64 x] w fun e w' => e = .returned (.bool true) ∧ Below w.heap.size w w' := by
  obtain ⟨u0, u1⟩ := u64_bd hu
  clear hu
  go_enter Try.func3, Try.ntmps3
  go_wp2_with (first
      | (go_at_call 14; refine (of_any _ (by omega) (by omega) _).mono ?_; rintro e w' ⟨rfl, rfl⟩)
      | (go_at_call 15; refine (rof_any _ _).mono ?_; rintro e w' ⟨rfl, rfl⟩)
      | (go_at_call 16; refine (ofInt_any _ (wrap_bd _).1 (wrap_bd _).2 _).mono ?_; rintro e w' ⟨rfl, rfl⟩)
      | (go_at_call 16; refine (ofInt_any _ (by omega) (by omega) _).mono ?_; rintro e w' ⟨rfl, rfl⟩)
      | (go_at_call 17; refine (rofInt_any _ _).mono ?_; rintro e w' ⟨rfl, rfl⟩)
      | (go_at_call 10; refine (code_any _ _).mono ?_; rintro e w' ⟨rfl, rfl⟩)
      | (go_at_call 11; refine (rcode_any _ _).mono ?_; rintro e w' ⟨rfl, hb⟩)
      | (go_at_call 12; refine (back_any _ _).mono ?_; rintro e w' ⟨rfl, rfl⟩)
      | (go_at_call 13; refine (rback_any _ _).mono ?_; rintro e w' ⟨rfl, hb⟩)
      | (go_at_call 25; refine (among_yes _ rfl _).mono ?_; rintro e w' ⟨rfl, rfl⟩)
      | (go_at_call 18; refine (works_any _).mono ?_; rintro e w' ⟨rfl, hb⟩))
  go_ret
  exact ⟨rfl, by repeat (first | exact Below.refl _ _ | (refine below_then ?_ (by assumption)) | refine below_alloc ?_ _)⟩
theorem u_fits_1 {u : Int} (h0 : 0 ≤ u) (h1 : u < 256) : (IntKind.u64.wrap (u * 72057594037927936) / 72057594037927936 != u) = false := by
  rw [IntKind.wrap_u64, bne_eq_false_iff_eq]; omega
theorem n_fits_1 {n : Int} (h0 : -128 ≤ n) (h1 : n < 128) : (wrap64 (n * 72057594037927936) / 72057594037927936 == n) = true := by
  unfold wrap64; rw [beq_iff_eq]; omega
theorem u_fits_2 {u : Int} (h0 : 0 ≤ u) (h1 : u < 65536) : (IntKind.u64.wrap (u * 281474976710656) / 281474976710656 != u) = false := by
  rw [IntKind.wrap_u64, bne_eq_false_iff_eq]; omega
theorem u_least_2 {u : Int} (h0 : 256 ≤ u) (h1 : u < 65536) : (IntKind.u64.wrap (u * 72057594037927936) / 72057594037927936 == u) = false := by
  rw [IntKind.wrap_u64, beq_eq_false_iff_ne]; omega
theorem n_fits_2 {n : Int} (h0 : -32768 ≤ n) (h1 : n < 32768) : (wrap64 (n * 281474976710656) / 281474976710656 == n) = true := by
  unfold wrap64; rw [beq_iff_eq]; omega
theorem n_least_2 {n : Int} (h : n < -128 ∨ 128 ≤ n) (h0 : -32768 ≤ n) (h1 : n < 32768) : (wrap64 (n * 72057594037927936) / 72057594037927936 != n) = true := by
  unfold wrap64; rw [bne_iff_ne]; omega
theorem u_fits_4 {u : Int} (h0 : 0 ≤ u) (h1 : u < 4294967296) : (IntKind.u64.wrap (u * 4294967296) / 4294967296 != u) = false := by
  rw [IntKind.wrap_u64, bne_eq_false_iff_eq]; omega
theorem u_least_4 {u : Int} (h0 : 65536 ≤ u) (h1 : u < 4294967296) : (IntKind.u64.wrap (u * 281474976710656) / 281474976710656 == u) = false := by
  rw [IntKind.wrap_u64, beq_eq_false_iff_ne]; omega
theorem n_fits_4 {n : Int} (h0 : -2147483648 ≤ n) (h1 : n < 2147483648) : (wrap64 (n * 4294967296) / 4294967296 == n) = true := by
  unfold wrap64; rw [beq_iff_eq]; omega
theorem n_least_4 {n : Int} (h : n < -32768 ∨ 32768 ≤ n) (h0 : -2147483648 ≤ n) (h1 : n < 2147483648) : (wrap64 (n * 281474976710656) / 281474976710656 != n) = true := by
  unfold wrap64; rw [bne_iff_ne]; omega
theorem u_fits_8 {u : Int} (h0 : 0 ≤ u) (h1 : u < 18446744073709551616) : (IntKind.u64.wrap (u * 1) / 1 != u) = false := by
  rw [IntKind.wrap_u64, bne_eq_false_iff_eq]; omega
theorem u_least_8 {u : Int} (h0 : 4294967296 ≤ u) (h1 : u < 18446744073709551616) : (IntKind.u64.wrap (u * 4294967296) / 4294967296 == u) = false := by
  rw [IntKind.wrap_u64, beq_eq_false_iff_ne]; omega
theorem n_fits_8 {n : Int} (h0 : -9223372036854775808 ≤ n) (h1 : n < 9223372036854775808) : (wrap64 (n * 1) / 1 == n) = true := by
  unfold wrap64; rw [beq_iff_eq]; omega
theorem n_least_8 {n : Int} (h : n < -2147483648 ∨ 2147483648 ≤ n) (h0 : -9223372036854775808 ≤ n) (h1 : n < 9223372036854775808) : (wrap64 (n * 4294967296) / 4294967296 != n) = true := by
  unfold wrap64; rw [bne_iff_ne]; omega
theorem of_cases {u : Int} (h0 : 0 ≤ u) (h1 : u < 18446744073709551616) : (ofW u = 1 ∧ u < 256) ∨ (ofW u = 2 ∧ 256 ≤ u ∧ u < 65536) ∨ (ofW u = 4 ∧ 65536 ≤ u ∧ u < 4294967296) ∨ (ofW u = 8 ∧ 4294967296 ≤ u ∧ u < 18446744073709551616) := by
  unfold ofW
  by_cases c1 : u < 256
  · rw [if_pos c1]; omega
  · rw [if_neg c1]
    by_cases c2 : u < 65536
    · rw [if_pos c2]; omega
    · rw [if_neg c2]
      by_cases c3 : u < 4294967296
      · rw [if_pos c3]; omega
      · rw [if_neg c3]; omega
theorem oi_cases {n : Int} (h0 : -9223372036854775808 ≤ n) (h1 : n < 9223372036854775808) : (oiW n = 1 ∧ -128 ≤ n ∧ n < 128) ∨ (oiW n = 2 ∧ (n < -128 ∨ 128 ≤ n) ∧ -32768 ≤ n ∧ n < 32768) ∨ (oiW n = 4 ∧ (n < -32768 ∨ 32768 ≤ n) ∧ -2147483648 ≤ n ∧ n < 2147483648) ∨ (oiW n = 8 ∧ (n < -2147483648 ∨ 2147483648 ≤ n)) := by
  unfold oiW
  by_cases c1 : -128 ≤ n ∧ n < 128
  · rw [if_pos c1]; omega
  · rw [if_neg c1]
    by_cases c2 : -32768 ≤ n ∧ n < 32768
    · rw [if_pos c2]; omega
    · rw [if_neg c2]
      by_cases c3 : -2147483648 ≤ n ∧ n < 2147483648
      · rw [if_pos c3]; omega
      · rw [if_neg c3]; omega
set_option maxHeartbeats 800000 in
theorem least_1_1 (u n : Int) (w : World) (u0 : 0 ≤ u) (u1 : u < 18446744073709551616) (hn : wrap64 u = n) (n0 : -9223372036854775808 ≤ n) (n1 : n < 9223372036854775808) (e1 : ofW u = 1) (f1 : (IntKind.u64.wrap (u * 72057594037927936) / 72057594037927936 != u) = false) (e2 : oiW n = 1) (g1 : (wrap64 (n * 72057594037927936) / 72057594037927936 == n) = true) :
    Calls Try.prog 5 #[.int .u64 u] w fun e w' => e = .returned (.bool true) ∧ Below w.heap.size w w' := by
  go_enter Try.func5, Try.ntmps5
  go_wp2_with (first
    | (go_at_call 14; refine (of_any _ (by omega) (by omega) _).mono ?_; rintro e w' ⟨rfl, rfl⟩)
    | (go_at_call 16; refine (ofInt_any _ (by omega) (by omega) _).mono ?_; rintro e w' ⟨rfl, rfl⟩)
    | (go_at_call 25; refine (among_yes _ rfl _).mono ?_; rintro e w' ⟨rfl, rfl⟩)
    | (go_at_call 18; refine (works_any _).mono ?_; rintro e w' ⟨rfl, hb⟩))
  go_ret
  exact ⟨rfl, by repeat (first | exact Below.refl _ _ | (refine below_then ?_ (by assumption)))⟩
set_option maxHeartbeats 800000 in
theorem least_1_2 (u n : Int) (w : World) (u0 : 0 ≤ u) (u1 : u < 18446744073709551616) (hn : wrap64 u = n) (n0 : -9223372036854775808 ≤ n) (n1 : n < 9223372036854775808) (e1 : ofW u = 1) (f1 : (IntKind.u64.wrap (u * 72057594037927936) / 72057594037927936 != u) = false) (e2 : oiW n = 2) (g1 : (wrap64 (n * 281474976710656) / 281474976710656 == n) = true) (g2 : (wrap64 (n * 72057594037927936) / 72057594037927936 != n) = true) :
    Calls Try.prog 5 #[.int .u64 u] w fun e w' => e = .returned (.bool true) ∧ Below w.heap.size w w' := by
  go_enter Try.func5, Try.ntmps5
  go_wp2_with (first
    | (go_at_call 14; refine (of_any _ (by omega) (by omega) _).mono ?_; rintro e w' ⟨rfl, rfl⟩)
    | (go_at_call 16; refine (ofInt_any _ (by omega) (by omega) _).mono ?_; rintro e w' ⟨rfl, rfl⟩)
    | (go_at_call 25; refine (among_yes _ rfl _).mono ?_; rintro e w' ⟨rfl, rfl⟩)
    | (go_at_call 18; refine (works_any _).mono ?_; rintro e w' ⟨rfl, hb⟩))
  go_ret
  exact ⟨rfl, by repeat (first | exact Below.refl _ _ | (refine below_then ?_ (by assumption)))⟩
set_option maxHeartbeats 800000 in
theorem least_1_4 (u n : Int) (w : World) (u0 : 0 ≤ u) (u1 : u < 18446744073709551616) (hn : wrap64 u = n) (n0 : -9223372036854775808 ≤ n) (n1 : n < 9223372036854775808) (e1 : ofW u = 1) (f1 : (IntKind.u64.wrap (u * 72057594037927936) / 72057594037927936 != u) = false) (e2 : oiW n = 4) (g1 : (wrap64 (n * 4294967296) / 4294967296 == n) = true) (g2 : (wrap64 (n * 281474976710656) / 281474976710656 != n) = true) :
    Calls Try.prog 5 #[.int .u64 u] w fun e w' => e = .returned (.bool true) ∧ Below w.heap.size w w' := by
  go_enter Try.func5, Try.ntmps5
  go_wp2_with (first
    | (go_at_call 14; refine (of_any _ (by omega) (by omega) _).mono ?_; rintro e w' ⟨rfl, rfl⟩)
    | (go_at_call 16; refine (ofInt_any _ (by omega) (by omega) _).mono ?_; rintro e w' ⟨rfl, rfl⟩)
    | (go_at_call 25; refine (among_yes _ rfl _).mono ?_; rintro e w' ⟨rfl, rfl⟩)
    | (go_at_call 18; refine (works_any _).mono ?_; rintro e w' ⟨rfl, hb⟩))
  go_ret
  exact ⟨rfl, by repeat (first | exact Below.refl _ _ | (refine below_then ?_ (by assumption)))⟩
set_option maxHeartbeats 800000 in
theorem least_1_8 (u n : Int) (w : World) (u0 : 0 ≤ u) (u1 : u < 18446744073709551616) (hn : wrap64 u = n) (n0 : -9223372036854775808 ≤ n) (n1 : n < 9223372036854775808) (e1 : ofW u = 1) (f1 : (IntKind.u64.wrap (u * 72057594037927936) / 72057594037927936 != u) = false) (e2 : oiW n = 8) (_g1 : (wrap64 (n * 1) / 1 == n) = true) (g2 : (wrap64 (n * 4294967296) / 4294967296 != n) = true) :
    Calls Try.prog 5 #[.int .u64 u] w fun e w' => e = .returned (.bool true) ∧ Below w.heap.size w w' := by
  go_enter Try.func5, Try.ntmps5
  go_wp2_with (first
    | (go_at_call 14; refine (of_any _ (by omega) (by omega) _).mono ?_; rintro e w' ⟨rfl, rfl⟩)
    | (go_at_call 16; refine (ofInt_any _ (by omega) (by omega) _).mono ?_; rintro e w' ⟨rfl, rfl⟩)
    | (go_at_call 25; refine (among_yes _ rfl _).mono ?_; rintro e w' ⟨rfl, rfl⟩)
    | (go_at_call 18; refine (works_any _).mono ?_; rintro e w' ⟨rfl, hb⟩))
  go_ret
  exact ⟨rfl, by repeat (first | exact Below.refl _ _ | (refine below_then ?_ (by assumption)))⟩
set_option maxHeartbeats 800000 in
theorem least_2_1 (u n : Int) (w : World) (u0 : 0 ≤ u) (u1 : u < 18446744073709551616) (hn : wrap64 u = n) (n0 : -9223372036854775808 ≤ n) (n1 : n < 9223372036854775808) (e1 : ofW u = 2) (f1 : (IntKind.u64.wrap (u * 281474976710656) / 281474976710656 != u) = false) (f2 : (IntKind.u64.wrap (u * 72057594037927936) / 72057594037927936 == u) = false) (e2 : oiW n = 1) (g1 : (wrap64 (n * 72057594037927936) / 72057594037927936 == n) = true) :
    Calls Try.prog 5 #[.int .u64 u] w fun e w' => e = .returned (.bool true) ∧ Below w.heap.size w w' := by
  go_enter Try.func5, Try.ntmps5
  go_wp2_with (first
    | (go_at_call 14; refine (of_any _ (by omega) (by omega) _).mono ?_; rintro e w' ⟨rfl, rfl⟩)
    | (go_at_call 16; refine (ofInt_any _ (by omega) (by omega) _).mono ?_; rintro e w' ⟨rfl, rfl⟩)
    | (go_at_call 25; refine (among_yes _ rfl _).mono ?_; rintro e w' ⟨rfl, rfl⟩)
    | (go_at_call 18; refine (works_any _).mono ?_; rintro e w' ⟨rfl, hb⟩))
  go_ret
  exact ⟨rfl, by repeat (first | exact Below.refl _ _ | (refine below_then ?_ (by assumption)))⟩
set_option maxHeartbeats 800000 in
theorem least_2_2 (u n : Int) (w : World) (u0 : 0 ≤ u) (u1 : u < 18446744073709551616) (hn : wrap64 u = n) (n0 : -9223372036854775808 ≤ n) (n1 : n < 9223372036854775808) (e1 : ofW u = 2) (f1 : (IntKind.u64.wrap (u * 281474976710656) / 281474976710656 != u) = false) (f2 : (IntKind.u64.wrap (u * 72057594037927936) / 72057594037927936 == u) = false) (e2 : oiW n = 2) (g1 : (wrap64 (n * 281474976710656) / 281474976710656 == n) = true) (g2 : (wrap64 (n * 72057594037927936) / 72057594037927936 != n) = true) :
    Calls Try.prog 5 #[.int .u64 u] w fun e w' => e = .returned (.bool true) ∧ Below w.heap.size w w' := by
  go_enter Try.func5, Try.ntmps5
  go_wp2_with (first
    | (go_at_call 14; refine (of_any _ (by omega) (by omega) _).mono ?_; rintro e w' ⟨rfl, rfl⟩)
    | (go_at_call 16; refine (ofInt_any _ (by omega) (by omega) _).mono ?_; rintro e w' ⟨rfl, rfl⟩)
    | (go_at_call 25; refine (among_yes _ rfl _).mono ?_; rintro e w' ⟨rfl, rfl⟩)
    | (go_at_call 18; refine (works_any _).mono ?_; rintro e w' ⟨rfl, hb⟩))
  go_ret
  exact ⟨rfl, by repeat (first | exact Below.refl _ _ | (refine below_then ?_ (by assumption)))⟩
set_option maxHeartbeats 800000 in
theorem least_2_4 (u n : Int) (w : World) (u0 : 0 ≤ u) (u1 : u < 18446744073709551616) (hn : wrap64 u = n) (n0 : -9223372036854775808 ≤ n) (n1 : n < 9223372036854775808) (e1 : ofW u = 2) (f1 : (IntKind.u64.wrap (u * 281474976710656) / 281474976710656 != u) = false) (f2 : (IntKind.u64.wrap (u * 72057594037927936) / 72057594037927936 == u) = false) (e2 : oiW n = 4) (g1 : (wrap64 (n * 4294967296) / 4294967296 == n) = true) (g2 : (wrap64 (n * 281474976710656) / 281474976710656 != n) = true) :
    Calls Try.prog 5 #[.int .u64 u] w fun e w' => e = .returned (.bool true) ∧ Below w.heap.size w w' := by
  go_enter Try.func5, Try.ntmps5
  go_wp2_with (first
    | (go_at_call 14; refine (of_any _ (by omega) (by omega) _).mono ?_; rintro e w' ⟨rfl, rfl⟩)
    | (go_at_call 16; refine (ofInt_any _ (by omega) (by omega) _).mono ?_; rintro e w' ⟨rfl, rfl⟩)
    | (go_at_call 25; refine (among_yes _ rfl _).mono ?_; rintro e w' ⟨rfl, rfl⟩)
    | (go_at_call 18; refine (works_any _).mono ?_; rintro e w' ⟨rfl, hb⟩))
  go_ret
  exact ⟨rfl, by repeat (first | exact Below.refl _ _ | (refine below_then ?_ (by assumption)))⟩
set_option maxHeartbeats 800000 in
theorem least_2_8 (u n : Int) (w : World) (u0 : 0 ≤ u) (u1 : u < 18446744073709551616) (hn : wrap64 u = n) (n0 : -9223372036854775808 ≤ n) (n1 : n < 9223372036854775808) (e1 : ofW u = 2) (f1 : (IntKind.u64.wrap (u * 281474976710656) / 281474976710656 != u) = false) (f2 : (IntKind.u64.wrap (u * 72057594037927936) / 72057594037927936 == u) = false) (e2 : oiW n = 8) (_g1 : (wrap64 (n * 1) / 1 == n) = true) (g2 : (wrap64 (n * 4294967296) / 4294967296 != n) = true) :
    Calls Try.prog 5 #[.int .u64 u] w fun e w' => e = .returned (.bool true) ∧ Below w.heap.size w w' := by
  go_enter Try.func5, Try.ntmps5
  go_wp2_with (first
    | (go_at_call 14; refine (of_any _ (by omega) (by omega) _).mono ?_; rintro e w' ⟨rfl, rfl⟩)
    | (go_at_call 16; refine (ofInt_any _ (by omega) (by omega) _).mono ?_; rintro e w' ⟨rfl, rfl⟩)
    | (go_at_call 25; refine (among_yes _ rfl _).mono ?_; rintro e w' ⟨rfl, rfl⟩)
    | (go_at_call 18; refine (works_any _).mono ?_; rintro e w' ⟨rfl, hb⟩))
  go_ret
  exact ⟨rfl, by repeat (first | exact Below.refl _ _ | (refine below_then ?_ (by assumption)))⟩
set_option maxHeartbeats 800000 in
theorem least_4_1 (u n : Int) (w : World) (u0 : 0 ≤ u) (u1 : u < 18446744073709551616) (hn : wrap64 u = n) (n0 : -9223372036854775808 ≤ n) (n1 : n < 9223372036854775808) (e1 : ofW u = 4) (f1 : (IntKind.u64.wrap (u * 4294967296) / 4294967296 != u) = false) (f2 : (IntKind.u64.wrap (u * 281474976710656) / 281474976710656 == u) = false) (e2 : oiW n = 1) (g1 : (wrap64 (n * 72057594037927936) / 72057594037927936 == n) = true) :
    Calls Try.prog 5 #[.int .u64 u] w fun e w' => e = .returned (.bool true) ∧ Below w.heap.size w w' := by
  go_enter Try.func5, Try.ntmps5
  go_wp2_with (first
    | (go_at_call 14; refine (of_any _ (by omega) (by omega) _).mono ?_; rintro e w' ⟨rfl, rfl⟩)
    | (go_at_call 16; refine (ofInt_any _ (by omega) (by omega) _).mono ?_; rintro e w' ⟨rfl, rfl⟩)
    | (go_at_call 25; refine (among_yes _ rfl _).mono ?_; rintro e w' ⟨rfl, rfl⟩)
    | (go_at_call 18; refine (works_any _).mono ?_; rintro e w' ⟨rfl, hb⟩))
  go_ret
  exact ⟨rfl, by repeat (first | exact Below.refl _ _ | (refine below_then ?_ (by assumption)))⟩
set_option maxHeartbeats 800000 in
theorem least_4_2 (u n : Int) (w : World) (u0 : 0 ≤ u) (u1 : u < 18446744073709551616) (hn : wrap64 u = n) (n0 : -9223372036854775808 ≤ n) (n1 : n < 9223372036854775808) (e1 : ofW u = 4) (f1 : (IntKind.u64.wrap (u * 4294967296) / 4294967296 != u) = false) (f2 : (IntKind.u64.wrap (u * 281474976710656) / 281474976710656 == u) = false) (e2 : oiW n = 2) (g1 : (wrap64 (n * 281474976710656) / 281474976710656 == n) = true) (g2 : (wrap64 (n * 72057594037927936) / 72057594037927936 != n) = true) :
    Calls Try.prog 5 #[.int .u64 u] w fun e w' => e = .returned (.bool true) ∧ Below w.heap.size w w' := by
  go_enter Try.func5, Try.ntmps5
  go_wp2_with (first
    | (go_at_call 14; refine (of_any _ (by omega) (by omega) _).mono ?_; rintro e w' ⟨rfl, rfl⟩)
    | (go_at_call 16; refine (ofInt_any _ (by omega) (by omega) _).mono ?_; rintro e w' ⟨rfl, rfl⟩)
    | (go_at_call 25; refine (among_yes _ rfl _).mono ?_; rintro e w' ⟨rfl, rfl⟩)
    | (go_at_call 18; refine (works_any _).mono ?_; rintro e w' ⟨rfl, hb⟩))
  go_ret
  exact ⟨rfl, by repeat (first | exact Below.refl _ _ | (refine below_then ?_ (by assumption)))⟩
set_option maxHeartbeats 800000 in
theorem least_4_4 (u n : Int) (w : World) (u0 : 0 ≤ u) (u1 : u < 18446744073709551616) (hn : wrap64 u = n) (n0 : -9223372036854775808 ≤ n) (n1 : n < 9223372036854775808) (e1 : ofW u = 4) (f1 : (IntKind.u64.wrap (u * 4294967296) / 4294967296 != u) = false) (f2 : (IntKind.u64.wrap (u * 281474976710656) / 281474976710656 == u) = false) (e2 : oiW n = 4) (g1 : (wrap64 (n * 4294967296) / 4294967296 == n) = true) (g2 : (wrap64 (n * 281474976710656) / 281474976710656 != n) = true) :
    Calls Try.prog 5 #[.int .u64 u] w fun e w' => e = .returned (.bool true) ∧ Below w.heap.size w w' := by
  go_enter Try.func5, Try.ntmps5
  go_wp2_with (first
    | (go_at_call 14; refine (of_any _ (by omega) (by omega) _).mono ?_; rintro e w' ⟨rfl, rfl⟩)
    | (go_at_call 16; refine (ofInt_any _ (by omega) (by omega) _).mono ?_; rintro e w' ⟨rfl, rfl⟩)
    | (go_at_call 25; refine (among_yes _ rfl _).mono ?_; rintro e w' ⟨rfl, rfl⟩)
    | (go_at_call 18; refine (works_any _).mono ?_; rintro e w' ⟨rfl, hb⟩))
  go_ret
  exact ⟨rfl, by repeat (first | exact Below.refl _ _ | (refine below_then ?_ (by assumption)))⟩
set_option maxHeartbeats 800000 in
theorem least_4_8 (u n : Int) (w : World) (u0 : 0 ≤ u) (u1 : u < 18446744073709551616) (hn : wrap64 u = n) (n0 : -9223372036854775808 ≤ n) (n1 : n < 9223372036854775808) (e1 : ofW u = 4) (f1 : (IntKind.u64.wrap (u * 4294967296) / 4294967296 != u) = false) (f2 : (IntKind.u64.wrap (u * 281474976710656) / 281474976710656 == u) = false) (e2 : oiW n = 8) (_g1 : (wrap64 (n * 1) / 1 == n) = true) (g2 : (wrap64 (n * 4294967296) / 4294967296 != n) = true) :
    Calls Try.prog 5 #[.int .u64 u] w fun e w' => e = .returned (.bool true) ∧ Below w.heap.size w w' := by
  go_enter Try.func5, Try.ntmps5
  go_wp2_with (first
    | (go_at_call 14; refine (of_any _ (by omega) (by omega) _).mono ?_; rintro e w' ⟨rfl, rfl⟩)
    | (go_at_call 16; refine (ofInt_any _ (by omega) (by omega) _).mono ?_; rintro e w' ⟨rfl, rfl⟩)
    | (go_at_call 25; refine (among_yes _ rfl _).mono ?_; rintro e w' ⟨rfl, rfl⟩)
    | (go_at_call 18; refine (works_any _).mono ?_; rintro e w' ⟨rfl, hb⟩))
  go_ret
  exact ⟨rfl, by repeat (first | exact Below.refl _ _ | (refine below_then ?_ (by assumption)))⟩
set_option maxHeartbeats 800000 in
theorem least_8_1 (u n : Int) (w : World) (u0 : 0 ≤ u) (u1 : u < 18446744073709551616) (hn : wrap64 u = n) (n0 : -9223372036854775808 ≤ n) (n1 : n < 9223372036854775808) (e1 : ofW u = 8) (_f1 : (IntKind.u64.wrap (u * 1) / 1 != u) = false) (f2 : (IntKind.u64.wrap (u * 4294967296) / 4294967296 == u) = false) (e2 : oiW n = 1) (g1 : (wrap64 (n * 72057594037927936) / 72057594037927936 == n) = true) :
    Calls Try.prog 5 #[.int .u64 u] w fun e w' => e = .returned (.bool true) ∧ Below w.heap.size w w' := by
  go_enter Try.func5, Try.ntmps5
  go_wp2_with (first
    | (go_at_call 14; refine (of_any _ (by omega) (by omega) _).mono ?_; rintro e w' ⟨rfl, rfl⟩)
    | (go_at_call 16; refine (ofInt_any _ (by omega) (by omega) _).mono ?_; rintro e w' ⟨rfl, rfl⟩)
    | (go_at_call 25; refine (among_yes _ rfl _).mono ?_; rintro e w' ⟨rfl, rfl⟩)
    | (go_at_call 18; refine (works_any _).mono ?_; rintro e w' ⟨rfl, hb⟩))
  go_ret
  exact ⟨rfl, by repeat (first | exact Below.refl _ _ | (refine below_then ?_ (by assumption)))⟩
set_option maxHeartbeats 800000 in
theorem least_8_2 (u n : Int) (w : World) (u0 : 0 ≤ u) (u1 : u < 18446744073709551616) (hn : wrap64 u = n) (n0 : -9223372036854775808 ≤ n) (n1 : n < 9223372036854775808) (e1 : ofW u = 8) (_f1 : (IntKind.u64.wrap (u * 1) / 1 != u) = false) (f2 : (IntKind.u64.wrap (u * 4294967296) / 4294967296 == u) = false) (e2 : oiW n = 2) (g1 : (wrap64 (n * 281474976710656) / 281474976710656 == n) = true) (g2 : (wrap64 (n * 72057594037927936) / 72057594037927936 != n) = true) :
    Calls Try.prog 5 #[.int .u64 u] w fun e w' => e = .returned (.bool true) ∧ Below w.heap.size w w' := by
  go_enter Try.func5, Try.ntmps5
  go_wp2_with (first
    | (go_at_call 14; refine (of_any _ (by omega) (by omega) _).mono ?_; rintro e w' ⟨rfl, rfl⟩)
    | (go_at_call 16; refine (ofInt_any _ (by omega) (by omega) _).mono ?_; rintro e w' ⟨rfl, rfl⟩)
    | (go_at_call 25; refine (among_yes _ rfl _).mono ?_; rintro e w' ⟨rfl, rfl⟩)
    | (go_at_call 18; refine (works_any _).mono ?_; rintro e w' ⟨rfl, hb⟩))
  go_ret
  exact ⟨rfl, by repeat (first | exact Below.refl _ _ | (refine below_then ?_ (by assumption)))⟩
set_option maxHeartbeats 800000 in
theorem least_8_4 (u n : Int) (w : World) (u0 : 0 ≤ u) (u1 : u < 18446744073709551616) (hn : wrap64 u = n) (n0 : -9223372036854775808 ≤ n) (n1 : n < 9223372036854775808) (e1 : ofW u = 8) (_f1 : (IntKind.u64.wrap (u * 1) / 1 != u) = false) (f2 : (IntKind.u64.wrap (u * 4294967296) / 4294967296 == u) = false) (e2 : oiW n = 4) (g1 : (wrap64 (n * 4294967296) / 4294967296 == n) = true) (g2 : (wrap64 (n * 281474976710656) / 281474976710656 != n) = true) :
    Calls Try.prog 5 #[.int .u64 u] w fun e w' => e = .returned (.bool true) ∧ Below w.heap.size w w' := by
  go_enter Try.func5, Try.ntmps5
  go_wp2_with (first
    | (go_at_call 14; refine (of_any _ (by omega) (by omega) _).mono ?_; rintro e w' ⟨rfl, rfl⟩)
    | (go_at_call 16; refine (ofInt_any _ (by omega) (by omega) _).mono ?_; rintro e w' ⟨rfl, rfl⟩)
    | (go_at_call 25; refine (among_yes _ rfl _).mono ?_; rintro e w' ⟨rfl, rfl⟩)
    | (go_at_call 18; refine (works_any _).mono ?_; rintro e w' ⟨rfl, hb⟩))
  go_ret
  exact ⟨rfl, by repeat (first | exact Below.refl _ _ | (refine below_then ?_ (by assumption)))⟩
set_option maxHeartbeats 800000 in
theorem least_8_8 (u n : Int) (w : World) (u0 : 0 ≤ u) (u1 : u < 18446744073709551616) (hn : wrap64 u = n) (n0 : -9223372036854775808 ≤ n) (n1 : n < 9223372036854775808) (e1 : ofW u = 8) (_f1 : (IntKind.u64.wrap (u * 1) / 1 != u) = false) (f2 : (IntKind.u64.wrap (u * 4294967296) / 4294967296 == u) = false) (e2 : oiW n = 8) (_g1 : (wrap64 (n * 1) / 1 == n) = true) (g2 : (wrap64 (n * 4294967296) / 4294967296 != n) = true) :
    Calls Try.prog 5 #[.int .u64 u] w fun e w' => e = .returned (.bool true) ∧ Below w.heap.size w w' := by
  go_enter Try.func5, Try.ntmps5
  go_wp2_with (first
    | (go_at_call 14; refine (of_any _ (by omega) (by omega) _).mono ?_; rintro e w' ⟨rfl, rfl⟩)
    | (go_at_call 16; refine (ofInt_any _ (by omega) (by omega) _).mono ?_; rintro e w' ⟨rfl, rfl⟩)
    | (go_at_call 25; refine (among_yes _ rfl _).mono ?_; rintro e w' ⟨rfl, rfl⟩)
    | (go_at_call 18; refine (works_any _).mono ?_; rintro e w' ⟨rfl, hb⟩))
  go_ret
  exact ⟨rfl, by repeat (first | exact Below.refl _ _ | (refine below_then ?_ (by assumption)))⟩
set_option maxHeartbeats 400000 in
theorem widthLeast_walk (u : Int) (w : World) (hu : (Lit.int .u64 u).wf = true) :
    Calls Try.prog 5 #[.int .u64 u] w fun e w' => e = .returned (.bool true) ∧ Below w.heap.size w w' := by
  obtain ⟨u0, u1⟩ := u64_bd hu
  obtain ⟨n0, n1⟩ := wrap_bd u
  rcases of_cases u0 u1 with ⟨e1, a1⟩ | ⟨e1, a0, a1⟩ | ⟨e1, a0, a1⟩ | ⟨e1, a0, a1⟩
  · rcases oi_cases n0 n1 with ⟨e2, b0, b1⟩ | ⟨e2, b, b0, b1⟩ | ⟨e2, b, b0, b1⟩ | ⟨e2, b⟩
    · exact least_1_1 u _ w u0 u1 rfl n0 n1 e1 (u_fits_1 u0 a1) e2 (n_fits_1 b0 b1)
    · exact least_1_2 u _ w u0 u1 rfl n0 n1 e1 (u_fits_1 u0 a1) e2 (n_fits_2 b0 b1) (n_least_2 b b0 b1)
    · exact least_1_4 u _ w u0 u1 rfl n0 n1 e1 (u_fits_1 u0 a1) e2 (n_fits_4 b0 b1) (n_least_4 b b0 b1)
    · exact least_1_8 u _ w u0 u1 rfl n0 n1 e1 (u_fits_1 u0 a1) e2 (n_fits_8 n0 n1) (n_least_8 b n0 n1)
  · rcases oi_cases n0 n1 with ⟨e2, b0, b1⟩ | ⟨e2, b, b0, b1⟩ | ⟨e2, b, b0, b1⟩ | ⟨e2, b⟩
    · exact least_2_1 u _ w u0 u1 rfl n0 n1 e1 (u_fits_2 u0 a1) (u_least_2 a0 a1) e2 (n_fits_1 b0 b1)
    · exact least_2_2 u _ w u0 u1 rfl n0 n1 e1 (u_fits_2 u0 a1) (u_least_2 a0 a1) e2 (n_fits_2 b0 b1) (n_least_2 b b0 b1)
    · exact least_2_4 u _ w u0 u1 rfl n0 n1 e1 (u_fits_2 u0 a1) (u_least_2 a0 a1) e2 (n_fits_4 b0 b1) (n_least_4 b b0 b1)
    · exact least_2_8 u _ w u0 u1 rfl n0 n1 e1 (u_fits_2 u0 a1) (u_least_2 a0 a1) e2 (n_fits_8 n0 n1) (n_least_8 b n0 n1)
  · rcases oi_cases n0 n1 with ⟨e2, b0, b1⟩ | ⟨e2, b, b0, b1⟩ | ⟨e2, b, b0, b1⟩ | ⟨e2, b⟩
    · exact least_4_1 u _ w u0 u1 rfl n0 n1 e1 (u_fits_4 u0 a1) (u_least_4 a0 a1) e2 (n_fits_1 b0 b1)
    · exact least_4_2 u _ w u0 u1 rfl n0 n1 e1 (u_fits_4 u0 a1) (u_least_4 a0 a1) e2 (n_fits_2 b0 b1) (n_least_2 b b0 b1)
    · exact least_4_4 u _ w u0 u1 rfl n0 n1 e1 (u_fits_4 u0 a1) (u_least_4 a0 a1) e2 (n_fits_4 b0 b1) (n_least_4 b b0 b1)
    · exact least_4_8 u _ w u0 u1 rfl n0 n1 e1 (u_fits_4 u0 a1) (u_least_4 a0 a1) e2 (n_fits_8 n0 n1) (n_least_8 b n0 n1)
  · rcases oi_cases n0 n1 with ⟨e2, b0, b1⟩ | ⟨e2, b, b0, b1⟩ | ⟨e2, b, b0, b1⟩ | ⟨e2, b⟩
    · exact least_8_1 u _ w u0 u1 rfl n0 n1 e1 (u_fits_8 u0 a1) (u_least_8 a0 a1) e2 (n_fits_1 b0 b1)
    · exact least_8_2 u _ w u0 u1 rfl n0 n1 e1 (u_fits_8 u0 a1) (u_least_8 a0 a1) e2 (n_fits_2 b0 b1) (n_least_2 b b0 b1)
    · exact least_8_4 u _ w u0 u1 rfl n0 n1 e1 (u_fits_8 u0 a1) (u_least_8 a0 a1) e2 (n_fits_4 b0 b1) (n_least_4 b b0 b1)
    · exact least_8_8 u _ w u0 u1 rfl n0 n1 e1 (u_fits_8 u0 a1) (u_least_8 a0 a1) e2 (n_fits_8 n0 n1) (n_least_8 b n0 n1)
end Go.Proofs.Ytmepbafmocjnaaa
