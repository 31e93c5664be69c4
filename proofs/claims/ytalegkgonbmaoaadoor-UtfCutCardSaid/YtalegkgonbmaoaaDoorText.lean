import Derived.Test.YtalegkgonbmaoaaDoorItems
import Derived.Test.YtalegkgonbmaoaaDoorWorks
import Derived.Test.YtalegkgonbmaoaaDoorPlace
import Derived.Test.YtalegkgonbmaoaaDoorOpen
import Derived.IntWalk
/- The statements' helpers Bring, runeOf, textOf; the law UtfBack: its walk. -/
set_option linter.unusedVariables false
set_option linter.unusedSimpArgs false
namespace Go.Proofs.YtalegkgonbmaoaaDoor
open Go.RowKit
theorem bring_eq (i n : Int) (hn : 0 < n) : (i.tmod n < 0 → i % n = i.tmod n + n) ∧ (¬ i.tmod n < 0 → i % n = i.tmod n) ∧ -n < i.tmod n ∧ i.tmod n < n := by
  have h := Int.tmod_eq_emod (a := i) (b := n)
  have h1 := Int.emod_nonneg i (by omega : n ≠ 0)
  have h2 := Int.emod_lt_of_pos i hn
  have e : (n.natAbs : Int) = n := by omega
  by_cases hh : 0 ≤ i ∨ n ∣ i
  · rw [if_pos hh] at h; omega
  · rw [if_neg hh] at h
    have : ¬ (i % n = 0) := fun z => hh (Or.inr (Int.dvd_of_emod_eq_zero z))
    omega
theorem ret_i64 {a b : Int} (h : a = b) : Ending.returned (.int .i64 a) = .returned (.int .i64 b) := by rw [h]
set_option maxHeartbeats 400000 in
theorem bring_any (i n : Int) (hn : 0 < n) (hn' : n ≤ 9007199254740992) (w : World) : Calls Tryd.prog 17 #[.int .i64 i, .int .i64 n] w fun e w' => e = .returned (.int .i64 (i % n)) ∧ w = w' := by
  obtain ⟨b1, b2, b3, b4⟩ := bring_eq i n hn
  have hz : (n == 0) = false := by simp; omega
  by_cases h : i.tmod n < 0
  · have B := Lib.hid (b1 h)
    clear b1 b2
    go_enter Tryd.func17, Tryd.ntmps17
    go_wp2
    go_ret
    exact ⟨ret_i64 (by rw [B.out]), rfl⟩
  · have B := Lib.hid (b2 h)
    clear b1 b2
    go_enter Tryd.func17, Tryd.ntmps17
    go_wp2
    go_ret
    exact ⟨ret_i64 (by rw [B.out]), rfl⟩

/-- What runeOf makes of a number. -/
def rz (z : Int) : Nat := if 55296 ≤ z % 1112064 then (z % 1112064).toNat + 2048 else (z % 1112064).toNat
theorem rz_sc (z : Int) : Sc (rz z) := by unfold rz Sc; split <;> omega
set_option maxRecDepth 100000 in
set_option maxHeartbeats 1000000 in
theorem runeOf_any (z : Int) (w : World) : Calls Tryd.prog 28 #[.int .i64 z] w fun e w' => e = .returned (.int .i32 (rz z : Int)) ∧ w' = w := by
  have cB := bring_any z 1112064 (by omega) (by omega) w
  obtain ⟨m, hm⟩ : ∃ m, z % 1112064 = m := ⟨_, rfl⟩
  have hm0 : 0 ≤ m := by omega
  have hm1 : m < 1112064 := by omega
  unfold rz
  rw [hm] at cB ⊢
  by_cases h : 55296 ≤ m
  · rw [if_pos h]
    have e : (((m.toNat + 2048 : Nat)) : Int) = m + 2048 := by omega
    have wr : IntKind.i32.wrap (m + 2048) = m + 2048 := by simp only [IntKind.wrap_i32]; omega
    have wr2 : IntKind.i64.wrap (m + 2048) = m + 2048 := by simp only [IntKind.wrap_i64]; omega
    clear hm
    go_enter Tryd.func28, Tryd.ntmps28
    go_wp2_with (go_at_call 17; refine cB.mono ?_; rintro e1 w1 ⟨rfl, rfl⟩)
    go_ret
    exact ⟨by rw [e]; rfl, rfl⟩
  · rw [if_neg h]
    have e : ((m.toNat : Nat) : Int) = m := by omega
    have wr : IntKind.i32.wrap m = m := by simp only [IntKind.wrap_i32]; omega
    clear hm
    go_enter Tryd.func28, Tryd.ntmps28
    go_wp2_with (go_at_call 17; refine cB.mono ?_; rintro e1 w1 ⟨rfl, rfl⟩)
    go_ret
    exact ⟨by rw [e]; rfl, rfl⟩
def nums64 (zs : List Int) : List Value := zs.map (Value.int .i64)
def runes (zs : List Int) : List Nat := (zs.map rz).take 60
theorem runes_sc (zs : List Int) : ∀ r ∈ runes zs, Sc r := by
  intro r hr
  have hr := List.mem_of_mem_take hr
  simp only [List.mem_map] at hr
  obtain ⟨z, _, rfl⟩ := hr
  exact rz_sc z
theorem putZ_sc {r : Nat} (h : Sc r) : putZ (r : Int) = (Lib.encodeRune (r : Int), true) := by
  unfold putZ Lib.validRune
  unfold Sc at h
  rw [if_pos (by simp only [decide_eq_true_eq]; omega)]
theorem encs_len : ∀ rs : List Nat, (encs rs).length ≤ 4 * rs.length
  | [] => by simp [encs]
  | r :: rs => by rw [encs_cons, List.length_append, List.length_cons]; have := (enc_len (r := r)).2; have := encs_len rs; omega
theorem encs_app (a b : List Nat) : encs (a ++ b) = encs a ++ encs b := by simp [encs]
theorem runes_len (zs : List Int) : (runes zs).length ≤ 60 := by simp [runes]; omega
set_option maxRecDepth 100000 in
set_option maxHeartbeats 2000000 in
theorem textOf_any (A : Option Addr) (n c : Nat) (zs : List Int) (w : World) (hA : Rd w 1 A n (nums64 zs)) (hn : n ≤ 9223372036854775807) :
    Calls Tryd.prog 12 #[.slice A n c] w fun e w' => e = .returned (.string ⟨(encs (runes zs)).toArray⟩) ∧ w' = w := by
  have hl : zs.length = n := by have := hA.1; simpa [nums64] using this
  go_enter Tryd.func12, Tryd.ntmps12
  go_wp2
  go_loopw [3, 4] (fun s i wr => ∃ k : Nat, k ≤ n ∧ k ≤ 60 ∧ i = .int .i64 (k : Int) ∧ s = .string ⟨(encs ((zs.map rz).take k)).toArray⟩ ∧ wr = w) (fun _ i _ => 60 - (intOf i).toNat)
  case atStart => exact ⟨0, by omega, by omega, rfl, rfl, rfl⟩
  case round =>
    obtain ⟨k, hk, hk6, rfl, rfl, rfl⟩ := hrel
    by_cases hlt : k < n ∧ k < 60
    · obtain ⟨b, o, rfl, hbl, hcell⟩ := hA.2 (by omega)
      obtain ⟨z, hz⟩ : ∃ z, zs[k]? = some z := ⟨_, List.getElem?_eq_getElem (by omega)⟩
      have g := hcell k (.int .i64 z) (by simp [nums64, hz])
      have cR := runeOf_any z wr
      have cP := put_any (rz z : Int) wr
      unfold putV at cP
      rw [putZ_sc (rz_sc z)] at cP
      have hts : encs ((zs.map rz).take (k + 1)) = encs ((zs.map rz).take k) ++ Lib.encodeRune (rz z : Int) := by
        rw [List.getElem?_eq_getElem (by omega)] at hz
        injection hz with hz
        rw [List.take_succ_eq_append_getElem (by simp; omega), encs_app]
        simp [encs, hz]
      have happ := app_list (encs ((zs.map rz).take k)) (Lib.encodeRune (rz z : Int))
      have hbd : (encs ((zs.map rz).take k)).length ≤ 240 := by have := encs_len ((zs.map rz).take k); rw [List.length_take] at this; omega
      have hbd2 := (enc_len (r := rz z)).2
      rw [← hts] at happ
      have HTS := Lib.hid hts
      obtain ⟨E, hE⟩ : ∃ E, encs ((zs.map rz).take k) = E := ⟨_, rfl⟩
      obtain ⟨F, hF⟩ : ∃ F, encs ((zs.map rz).take (k + 1)) = F := ⟨_, rfl⟩
      obtain ⟨R, hR⟩ : ∃ R, Lib.encodeRune (rz z : Int) = R := ⟨_, rfl⟩
      rw [hE, hF, hR] at happ
      rw [hR] at cP hbd2
      rw [hE] at hbd
      rw [hE]
      have HF := Lib.hid hF
      have h1 : (k : Int) < (n : Int) := by omega
      have h2 : (k : Int) < 60 := by omega
      clear hcell hA hz hts hE hF hR hlt
      go_wp2_with (first | (go_at_call 28; refine cR.mono ?_; rintro e1 w1 ⟨rfl, hw⟩; rw [hw]; clear hw) | (go_at_call 21; refine cP.mono ?_; rintro e1 w1 ⟨rfl, hw⟩; rw [hw]; clear hw))
      go_roundw
      case rel => exact ⟨k + 1, by omega, by omega, by simp, by rw [HF.out], by first | rfl | trivial⟩
      case measure => simp [intOf]; omega
    · have ht : (zs.map rz).take k = runes zs := by
        unfold runes
        rcases (show k = n ∨ k = 60 by omega) with h | h
        · rw [List.take_of_length_le (by simp; omega), List.take_of_length_le (by simp; omega)]
        · rw [h]
      have HT := Lib.hid ht
      by_cases h1 : (k : Int) < (n : Int)
      · have h2 : ¬ ((k : Int) < 60) := by omega
        clear hA ht hlt
        go_wp2
        go_ret
        exact ⟨by rw [HT.out]; rfl, rfl⟩
      · clear hA ht hlt
        go_wp2
        go_ret
        exact ⟨by rw [HT.out]; rfl, rfl⟩
end Go.Proofs.YtalegkgonbmaoaaDoor
