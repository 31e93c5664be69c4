import Derived.Test.YtiagpjjjggldeaaRef
namespace Go.Proofs.Ytiagpjjjggldeaa
open Go.RowKit Go.ChangeMaps
def tT (e m : Int) : Int := if e = 1 ∧ m = 0 then 11 else if e = 2 ∧ m = 0 then 12 else if e = 4 ∧ m = 0 then 14 else if e = 1 ∧ m = 2 then 16 else if e = 2 ∧ m = 2 then 17 else if e = 1 ∧ m = 3 then 19 else if e = 2 ∧ m = 3 then 20 else if e = 1 ∧ m = 4 then 22 else if e = 2 ∧ m = 4 then 23 else if e = 26 ∧ m = 0 then 36 else 0
def tB (e m : Int) : Bool := decide ((e = 1 ∧ m = 0) ∨ (e = 2 ∧ m = 0) ∨ (e = 4 ∧ m = 0) ∨ (e = 1 ∧ m = 2) ∨ (e = 2 ∧ m = 2) ∨ (e = 1 ∧ m = 3) ∨ (e = 2 ∧ m = 3) ∨ (e = 1 ∧ m = 4) ∨ (e = 2 ∧ m = 4) ∨ (e = 26 ∧ m = 0))
theorem t_hit (k e m : Int) (h : kIs k = 3) (he : kElem k = e) (hm : kMany k = m) : tT e m = k ∧ tB e m = true := by
  subst he hm
  have h' : k = 11 ∨ k = 12 ∨ k = 14 ∨ k = 36 ∨ k = 16 ∨ k = 19 ∨ k = 22 ∨ k = 17 ∨ k = 20 ∨ k = 23 := by
    unfold kIs at h
    split at h
    · omega
    · split at h
      · omega
      · split at h
        · assumption
        · omega
  rcases h' with rfl | rfl | rfl | rfl | rfl | rfl | rfl | rfl | rfl | rfl <;> exact ⟨rfl, rfl⟩
theorem t_back (e m : Int) (h : tB e m = true) : ∃ k : Nat, k < 37 ∧ kIs k = 3 ∧ kElem k = e ∧ kMany k = m := by
  simp only [tB, decide_eq_true_eq] at h
  rcases h with ⟨rfl, rfl⟩ | ⟨rfl, rfl⟩ | ⟨rfl, rfl⟩ | ⟨rfl, rfl⟩ | ⟨rfl, rfl⟩ | ⟨rfl, rfl⟩ | ⟨rfl, rfl⟩ | ⟨rfl, rfl⟩ | ⟨rfl, rfl⟩ | ⟨rfl, rfl⟩
  · exact ⟨11, by omega, rfl, rfl, rfl⟩
  · exact ⟨12, by omega, rfl, rfl, rfl⟩
  · exact ⟨14, by omega, rfl, rfl, rfl⟩
  · exact ⟨16, by omega, rfl, rfl, rfl⟩
  · exact ⟨17, by omega, rfl, rfl, rfl⟩
  · exact ⟨19, by omega, rfl, rfl, rfl⟩
  · exact ⟨20, by omega, rfl, rfl, rfl⟩
  · exact ⟨22, by omega, rfl, rfl, rfl⟩
  · exact ⟨23, by omega, rfl, rfl, rfl⟩
  · exact ⟨36, by omega, rfl, rfl, rfl⟩
theorem t_miss (e m : Int) (h : ∀ k : Nat, k < 37 → ¬ (kIs k = 3 ∧ kElem k = e ∧ kMany k = m)) : tT e m = 0 ∧ tB e m = false := by
  have hb : tB e m = false := by
    cases hb : tB e m
    · rfl
    · obtain ⟨k, hk, hh⟩ := t_back e m hb
      exact absurd hh (h k hk)
  refine ⟨?_, hb⟩
  simp only [tB, decide_eq_false_iff_not, not_or] at hb
  obtain ⟨n0, n1, n2, n3, n4, n5, n6, n7, n8, n9⟩ := hb
  unfold tT
  rw [if_neg n0, if_neg n1, if_neg n2, if_neg n3, if_neg n4, if_neg n5, if_neg n6, if_neg n7, if_neg n8, if_neg n9]
theorem ret2b {a b : Int} {x y : Bool} (h1 : a = b) (h2 : x = y) : Ending.returned (.tuple #[.int .i64 a, .bool x]) = Ending.returned (.tuple #[.int .i64 b, .bool y]) := by rw [h1, h2]

theorem no_step {e m : Int} {k : Nat} (h : ∀ j : Nat, j < k → ¬ (kIs j = 3 ∧ kElem j = e ∧ kMany j = m)) (hn : ¬ (kIs k = 3 ∧ kElem k = e ∧ kMany k = m)) : ∀ j : Nat, j < k + 1 → ¬ (kIs j = 3 ∧ kElem j = e ∧ kMany j = m) := by
  intro j hj
  rcases Nat.lt_or_ge j k with g | g
  · exact h j g
  · obtain rfl : j = k := by omega
    exact hn
set_option maxHeartbeats 1600000 in
theorem rtyped_any (e m : Int) (w : World) :
    Calls Try.prog 18 #[.int .i64 e, .int .i64 m] w fun en w' => en = .returned (.tuple #[.int .i64 (tT e m), .bool (tB e m)]) ∧ Below w.heap.size w w' := by
  go_enter Try.func18, Try.ntmps18
  go_wp2
  go_loopw [6] (fun i wr => ∃ k : Nat, k ≤ 37 ∧ i = .int .i64 k ∧ (∀ j : Nat, j < k → ¬ (kIs j = 3 ∧ kElem j = e ∧ kMany j = m)) ∧ Below w.heap.size w wr) (fun i _ => 37 - (intOf i).toNat)
  case atStart => exact ⟨0, by omega, rfl, fun j hj => absurd hj (by omega), Below.refl _ _⟩
  case round =>
    obtain ⟨k, hk, rfl, hno, hb⟩ := hrel
    have HN := Lib.hid hno
    clear hno
    by_cases hlt : k < 37
    · cases h3 : (kIs (k : Int) == 3)
      · go_wp2_with (go_at_call 16; refine (relem_any _ _).mono ?_; rintro en w1 ⟨rfl, hb1⟩)
        go_roundw
        case rel => exact ⟨k + 1, by omega, by go_num, no_step HN.out (fun hh => by rw [hh.1] at h3; exact absurd h3 (by decide)), hb.trans (hb1.mono hb.size)⟩
        case measure => simp [intOf]; omega
      · cases he : (kElem (k : Int) == e)
        · go_wp2_with (go_at_call 16; refine (relem_any _ _).mono ?_; rintro en w1 ⟨rfl, hb1⟩)
          go_roundw
          case rel => exact ⟨k + 1, by omega, by go_num, no_step HN.out (fun hh => beq_eq_false_iff_ne.1 he hh.2.1), hb.trans (hb1.mono hb.size)⟩
          case measure => simp [intOf]; omega
        · cases hm : (kMany (k : Int) == m)
          · go_wp2_with (go_at_call 16; refine (relem_any _ _).mono ?_; rintro en w1 ⟨rfl, hb1⟩)
            go_roundw
            case rel => exact ⟨k + 1, by omega, by go_num, no_step HN.out (fun hh => beq_eq_false_iff_ne.1 hm hh.2.2), hb.trans (hb1.mono hb.size)⟩
            case measure => simp [intOf]; omega
          · go_wp2_with (go_at_call 16; refine (relem_any _ _).mono ?_; rintro en w1 ⟨rfl, hb1⟩)
            go_ret2
            have := t_hit k e m (eq_of_beq h3) (eq_of_beq he) (eq_of_beq hm)
            exact ⟨ret2b this.1.symm this.2.symm, hb.trans (hb1.mono hb.size)⟩
    · have hk37 : k = 37 := by omega
      go_wp2
      go_ret2
      have := t_miss e m (fun j hj => HN.out j (by omega))
      exact ⟨ret2b this.1.symm this.2.symm, hb⟩
end Go.Proofs.Ytiagpjjjggldeaa
