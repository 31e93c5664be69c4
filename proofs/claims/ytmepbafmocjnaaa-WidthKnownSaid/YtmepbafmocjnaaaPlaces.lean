import Derived.Test.YtmepbafmocjnaaaLaws
import Derived.Test.YtmepbafmocjnaaaOpen
namespace Go.Proofs.Ytmepbafmocjnaaa
open Go.RowKit
/-- The first sixty numbers. -/
def cap60 (n : Nat) : Nat := (min (n : Int) 60).toNat
theorem cap60_le (n : Nat) : cap60 n ≤ n ∧ cap60 n ≤ 60 := by unfold cap60; omega
theorem rd60 {w : World} {A : Option Addr} {n : Nat} {zs : List Int} (h : Rd w 1 A n (zs.map (Value.int .i64))) : Rd w 1 A (min (n : Int) 60).toNat (ints (zs.take (cap60 n))) := by
  have := h.take1 (cap60_le n).1
  rw [← List.map_take] at this
  exact this
set_option maxHeartbeats 1600000 in
theorem widthPlaces_walk (A : Option Addr) (n c : Nat) (zs : List Int) (a x : Int) (w : World) (h : IsInts .i64 w A n c zs) (_ha : (Lit.int .i64 a).wf = true) (_hx : (Lit.int .i64 x).wf = true) :
    Calls Try.prog 4 #[.slice A n c, .int .i64 a, .int .i64 x] w fun e w' => e = .returned (.bool true) ∧ Below w.heap.size w w' := by
  obtain ⟨hr, hn, hc, _⟩ := h
  unfold maxLen at hc
  have h60 := rd60 hr
  have hm : (min (n : Int) 60).toNat ≤ 1000 := by omega
  clear hr
  go_enter Try.func4, Try.ntmps4
  go_wp2_with fail
  refine (copyInts_any _ _ _ _ _ h60 hm).mono ?_
  rintro e w1 ⟨⟨v, rfl, hown⟩, hb⟩
  obtain ⟨B, d, rfl, _, _⟩ := own_shape hown
  have hB := Rd.of_own hown
  have hA := h60.below hb
  clear h60 hown
  go_wp2_with (first
    | (go_at_call 20; refine (up_any _ _ _).mono ?_; rintro e w' ⟨rfl, rfl⟩)
    | (go_at_call 21; refine (rup_any _ _ _).mono ?_; rintro e w' ⟨rfl, rfl⟩)
    | (go_at_call 22; refine (max_any _ _ _ _ _ hB hm).mono ?_; rintro e w' ⟨rfl, hb'⟩; replace hA := hA.below hb'; replace hB := hB.below hb'; replace hb := below_then hb hb'; clear hb')
    | (go_at_call 23; refine (rmax_any _ _ _ _ _ hB hm).mono ?_; rintro e w' ⟨rfl, rfl⟩)
    | (go_at_call 24; refine (eqInts_same _ _ _ _ _ _ _ hB hA hm).mono ?_; rintro e w' ⟨rfl, hb'⟩; replace hb := below_then hb hb'; clear hb')
    | (go_at_call 18; refine (works_any _).mono ?_; rintro e w' ⟨rfl, hb'⟩; replace hb := below_then hb hb'; clear hb'))
  go_ret
  exact ⟨rfl, hb⟩
end Go.Proofs.Ytmepbafmocjnaaa
