import Derived.Test.YtiagpjjjggldeaaLaws
namespace Go.Proofs.Ytiagpjjjggldeaa
open Go.RowKit Go.ChangeMaps
theorem wf_u8' {c : Int} (h0 : 0 ≤ c) (h1 : c < 256) : (Lit.int .u8 c).wf = true := by
  simp [Lit.wf, IntKind.min, IntKind.max, IntKind.bits, IntKind.signed]
  omega
theorem bring_eq (i n : Int) (hn : 0 < n) : (i.tmod n < 0 → i % n = i.tmod n + n) ∧ (¬ i.tmod n < 0 → i % n = i.tmod n) ∧ -n < i.tmod n ∧ i.tmod n < n := by
  have h := Int.tmod_eq_emod (a := i) (b := n)
  have h1 := Int.emod_nonneg i (by omega : n ≠ 0)
  have h2 := Int.emod_lt_of_pos i hn
  have e : (n.natAbs : Int) = n := by omega
  by_cases hh : 0 ≤ i ∨ n ∣ i
  · rw [if_pos hh] at h; omega
  · rw [if_neg hh] at h
    have : ¬ (i % n = 0) := fun z => hh (Or.inr (Int.dvd_of_emod_eq_zero z))
    omega
theorem ret_i64 {a b : Int} (h : a = b) : Ending.returned (.int .i64 a) = Ending.returned (.int .i64 b) := by rw [h]
set_option maxHeartbeats 400000 in
theorem bring_any (i n : Int) (hn : 0 < n) (hn' : n ≤ 9007199254740992) (w : World) : Calls Try.prog 23 #[.int .i64 i, .int .i64 n] w fun e w' => e = .returned (.int .i64 (i % n)) ∧ w = w' := by
  obtain ⟨b1, b2, b3, b4⟩ := bring_eq i n hn
  have hz : (n == 0) = false := by simp; omega
  by_cases h : i.tmod n < 0
  · have B := Lib.hid (b1 h)
    clear b1 b2
    go_enter Try.func23, Try.ntmps23
    go_wp2
    go_ret
    exact ⟨ret_i64 (by rw [B.out]), rfl⟩
  · have B := Lib.hid (b2 h)
    clear b1 b2
    go_enter Try.func23, Try.ntmps23
    go_wp2
    go_ret
    exact ⟨ret_i64 (by rw [B.out]), rfl⟩
def cnt (k : Nat) : Int := (((List.range k).filter (fun j : Nat => unE (j : Int) == 0)).length : Int)
theorem cnt_bd (k : Nat) : 0 ≤ cnt k ∧ cnt k ≤ k := by
  unfold cnt
  have := List.length_filter_le (fun j : Nat => unE (j : Int) == 0) (List.range k)
  simp at this ⊢
  omega
theorem cnt_yes {k : Nat} (h : (unE (k : Int) == 0) = true) : cnt (k + 1) = cnt k + 1 := by
  unfold cnt; rw [List.range_succ, List.filter_append]; simp [h]
theorem cnt_no {k : Nat} (h : (unE (k : Int) == 0) = false) : cnt (k + 1) = cnt k := by
  unfold cnt; rw [List.range_succ, List.filter_append]; simp [h]
theorem cnt_all : cnt 256 = 84 := by decide +kernel

def endsAt (j : Int) : Int := if j = 0 then -9223372036854775808 else if j = 1 then -1 else if j = 2 then 9223372036854775807 else if j = 3 then 4294967296 else if j = 4 then 256 else if j = 5 then 64 else 37
theorem ends_wf (j : Int) (h0 : 0 ≤ j) (h1 : j < 7) : (Lit.int .i64 (endsAt j)).wf = true := by
  have h : j = 0 ∨ j = 1 ∨ j = 2 ∨ j = 3 ∨ j = 4 ∨ j = 5 ∨ j = 6 := by omega
  rcases h with rfl | rfl | rfl | rfl | rfl | rfl | rfl <;> decide
theorem ends_cell (w : World) (j : Int) (h0 : 0 ≤ j) (h1 : j < 7) : (w.alloc (.cells #[.int .i64 (-9223372036854775808), .int .i64 (-1), .int .i64 9223372036854775807, .int .i64 4294967296, .int .i64 256, .int .i64 64, .int .i64 37] 3)).cell? ⟨w.heap.size, j.toNat, none⟩ = some (.int .i64 (endsAt j)) := by
  rw [cell_of_row _ _ _ _ 3 (0, 0) (heap_alloc_last _ _)]
  have h : j = 0 ∨ j = 1 ∨ j = 2 ∨ j = 3 ∨ j = 4 ∨ j = 5 ∨ j = 6 := by omega
  rcases h with rfl | rfl | rfl | rfl | rfl | rfl | rfl <;> rfl
theorem cells_keep {B : Nat} {w w' : World} (h : Hid (∀ j : Int, 0 ≤ j → j < 7 → w.cell? ⟨B, j.toNat, none⟩ = some (.int .i64 (endsAt j)))) (hb : Below w.heap.size w w') (hB : B < w.heap.size) :
    Hid (∀ j : Int, 0 ≤ j → j < 7 → w'.cell? ⟨B, j.toNat, none⟩ = some (.int .i64 (endsAt j))) :=
  fun j h0 h1 => (hb.cell (by exact hB)).trans (h.out j h0 h1)
set_option maxRecDepth 100000 in
set_option maxHeartbeats 4000000 in
theorem tagKnown_walk (w : World) : Calls Try.prog 9 #[] w fun e w' => e = .returned (.bool true) ∧ Below w.heap.size w w' := by
  go_enter Try.func9, Try.ntmps9
  go_wp2
  go_loopw [1, 2] (fun m i wr => ∃ k : Nat, k ≤ 256 ∧ i = .int .i64 k ∧ m = .int .i64 (cnt k) ∧ Below w.heap.size w wr) (fun _ i _ => 256 - (intOf i).toNat)
  case atStart => exact ⟨0, by omega, rfl, rfl, Below.refl _ _⟩
  case round =>
    obtain ⟨k, hk, rfl, rfl, hb0⟩ := hrel
    obtain ⟨cb0, cb1⟩ := cnt_bd k
    by_cases hlt : k < 256
    · cases h : (unE (k : Int) == 0)
      · go_wp2_with (first
          | (go_at_call 3; refine (tagPacks_walk _ _ _ _ (WalkArith.wf_i64 (by omega)) (WalkArith.wf_i64 (by omega)) (wf_u8' (by omega) (by omega))).mono ?_; rintro e w' ⟨rfl, hb⟩)
          | (go_at_call 6; refine (tagOnly_walk _ _ (wf_u8' (by omega) (by omega))).mono ?_; rintro e w' ⟨rfl, hb⟩)
          | (go_at_call 12; refine (unpack_any _ _ (by omega) (by omega)).mono ?_; rintro e w' ⟨rfl, hb⟩))
        go_roundw
        case rel => exact ⟨k + 1, by omega, by go_num, by rw [cnt_no h], below_then (below_then (below_then hb0 (by assumption)) (by assumption)) (by assumption)⟩
        case measure => simp [intOf]; omega
      · go_wp2_with (first
          | (go_at_call 3; refine (tagPacks_walk _ _ _ _ (WalkArith.wf_i64 (by omega)) (WalkArith.wf_i64 (by omega)) (wf_u8' (by omega) (by omega))).mono ?_; rintro e w' ⟨rfl, hb⟩)
          | (go_at_call 6; refine (tagOnly_walk _ _ (wf_u8' (by omega) (by omega))).mono ?_; rintro e w' ⟨rfl, hb⟩)
          | (go_at_call 12; refine (unpack_any _ _ (by omega) (by omega)).mono ?_; rintro e w' ⟨rfl, hb⟩))
        go_roundw
        case rel => exact ⟨k + 1, by omega, by go_num, by rw [cnt_yes h], below_then (below_then (below_then hb0 (by assumption)) (by assumption)) (by assumption)⟩
        case measure => simp [intOf]; omega
    · obtain rfl : k = 256 := by omega
      rw [cnt_all, show ((256 : Nat) : Int) = 256 from rfl]
      clear cb0 cb1
      go_wp2
      obtain ⟨wo, rfl⟩ : ∃ wo : World, wo = wr := ⟨_, rfl⟩
      go_loopw [7, 8] (fun i _ wr => ∃ t : Int, -2 ≤ t ∧ t ≤ 70 ∧ i = .int .i64 t ∧ (∀ j : Int, 0 ≤ j → j < 7 → wr.cell? ⟨wo.heap.size, j.toNat, none⟩ = some (.int .i64 (endsAt j))) ∧ wo.heap.size < wr.heap.size ∧ Below w.heap.size w wr) (fun i _ _ => (70 - intOf i).toNat)
      case atStart => exact ⟨-2, by omega, by omega, rfl, ends_cell wo, by simp, hb0.alloc hb0.size _⟩
      case round =>
        obtain ⟨t, ht0, ht1, rfl, hc, hsz, hb1⟩ := hrel
        have HC := Lib.hid hc
        clear hc
        obtain ⟨w1, rfl⟩ : ∃ w1 : World, w1 = wr := ⟨_, rfl⟩
        by_cases hlt : t < 70
        · go_wp2
          go_loopw [8] (fun i wr => ∃ x : Int, -1 ≤ x ∧ x ≤ 10 ∧ i = .int .i64 x ∧ (∀ j : Int, 0 ≤ j → j < 7 → wr.cell? ⟨wo.heap.size, j.toNat, none⟩ = some (.int .i64 (endsAt j))) ∧ wo.heap.size < wr.heap.size ∧ Below w.heap.size w wr) (fun i _ => (10 - intOf i).toNat)
          case atStart => exact ⟨-1, by omega, by omega, rfl, HC.out, hsz, hb1⟩
          case round =>
            obtain ⟨x, hx0, hx1, rfl, hc, hsz', hb2⟩ := hrel
            by_cases hltx : x < 10
            · have m1 : 0 ≤ t % 7 ∧ t % 7 < 7 := by omega
              have m2 : 0 ≤ x % 7 ∧ x % 7 < 7 := by omega
              obtain ⟨m10, m11⟩ := m1
              obtain ⟨m20, m21⟩ := m2
              have g1 := hc (t % 7) m10 m11
              have g2 := hc (x % 7) m20 m21
              have HC2 := Lib.hid hc
              clear hc
              go_wp2_with (first
                | (go_at_call 23; refine (bring_any _ 7 (by omega) (by omega) _).mono ?_; rintro e w' ⟨rfl, rfl⟩)
                | (go_at_call 3; refine (tagPacks_walk _ _ _ _ (WalkArith.wf_i64 (by omega)) (by first | exact WalkArith.wf_i64 (by omega) | exact ends_wf _ (by omega) (by omega)) (wf_u8' (by omega) (by omega))).mono ?_; rintro e w' ⟨rfl, hb⟩; replace g1 := (hb.cell (by exact hsz')).trans g1; replace g2 := (hb.cell (by exact hsz')).trans g2; replace HC2 := cells_keep HC2 hb hsz'; replace hsz' := Nat.lt_of_lt_of_le hsz' hb.size; replace hb2 := below_then hb2 hb; clear hb)
                | (go_at_call 4; refine (tagTells_walk _ _ _ (by first | exact WalkArith.wf_i64 (by omega) | exact ends_wf _ (by omega) (by omega)) (by first | exact WalkArith.wf_i64 (by omega) | exact ends_wf _ (by omega) (by omega))).mono ?_; rintro e w' ⟨rfl, hb⟩; replace g1 := (hb.cell (by exact hsz')).trans g1; replace g2 := (hb.cell (by exact hsz')).trans g2; replace HC2 := cells_keep HC2 hb hsz'; replace hsz' := Nat.lt_of_lt_of_le hsz' hb.size; replace hb2 := below_then hb2 hb; clear hb)
                | (go_at_call 7; refine (tagVectors_walk _ _ _ (WalkArith.wf_i64 (by omega)) (WalkArith.wf_i64 (by omega))).mono ?_; rintro e w' ⟨rfl, hb⟩; replace g1 := (hb.cell (by exact hsz')).trans g1; replace g2 := (hb.cell (by exact hsz')).trans g2; replace HC2 := cells_keep HC2 hb hsz'; replace hsz' := Nat.lt_of_lt_of_le hsz' hb.size; replace hb2 := below_then hb2 hb; clear hb)
                | (go_at_call 5; refine (tagBack_walk _ _ _ (WalkArith.wf_i64 (by omega)) (WalkArith.wf_i64 (by omega))).mono ?_; rintro e w' ⟨rfl, hb⟩; replace g1 := (hb.cell (by exact hsz')).trans g1; replace g2 := (hb.cell (by exact hsz')).trans g2; replace HC2 := cells_keep HC2 hb hsz'; replace hsz' := Nat.lt_of_lt_of_le hsz' hb.size; replace hb2 := below_then hb2 hb; clear hb))
              go_roundw
              case rel => exact ⟨x + 1, by omega, by omega, rfl, HC2.out, hsz', hb2⟩
              case measure => simp [intOf]; omega
            · have HC2 := Lib.hid hc
              clear hc
              go_wp2
              go_roundw
              case rel => exact ⟨t + 1, by omega, by omega, rfl, HC2.out, hsz', hb2⟩
              case measure => simp [intOf]; omega
        · go_wp2_with (go_at_call 14; refine (works_any _).mono ?_; rintro e w' ⟨rfl, hb⟩)
          go_ret
          exact ⟨rfl, below_then hb1 hb⟩
end Go.Proofs.Ytiagpjjjggldeaa
