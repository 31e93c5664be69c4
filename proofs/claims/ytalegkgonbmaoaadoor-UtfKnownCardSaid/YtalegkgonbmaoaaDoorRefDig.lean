import Derived.Test.YtalegkgonbmaoaaDoorRefQuote
import Derived.Test.YtalegkgonbmaoaaDoorItems
import Derived.BigQuiet
import Derived.Deep.QuietTactic
import Derived.Deep.DeepCutAuto
/- The reference's digit and wrong. -/
set_option linter.unusedVariables false
set_option linter.unusedSimpArgs false
namespace Go.Proofs.YtalegkgonbmaoaaDoor
open Go.RowKit
/-- A hexadecimal digit's value, or -1. -/
def hexI (c : UInt8) : Int := match hexv c with | some k => (k : Int) | none => -1
def hexU (n : Nat) : UInt8 := ([48, 49, 50, 51, 52, 53, 54, 55, 56, 57, 65, 66, 67, 68, 69, 70] : List UInt8).getD n 0
theorem hexU_fin : ∀ k : Fin 16, hexv (hexU k.val) = some k.val := by decide +kernel
theorem hexU_v (k : Nat) (h : k < 16) : hexv (hexU k) = some k := hexU_fin ⟨k, h⟩
theorem hexv_fin : ∀ c : Fin 256, ∀ k : Fin 16, hexv (UInt8.ofNat c.val) = some k.val → UInt8.ofNat c.val = hexd k.val ∨ UInt8.ofNat c.val = hexU k.val := by decide +kernel
theorem hexv_or {c : UInt8} {k : Nat} (h : hexv c = some k) : c = hexd k ∨ c = hexU k := by
  have hk := hexv_lt h
  have e : UInt8.ofNat c.toNat = c := by simp
  have := hexv_fin ⟨c.toNat, c.toNat_lt⟩ ⟨k, hk⟩
  simp only [e] at this
  exact this h
theorem small_at (i : Nat) (h : i < 16) : ∀ h' : i < (⟨#[48, 49, 50, 51, 52, 53, 54, 55, 56, 57, 97, 98, 99, 100, 101, 102]⟩ : ByteArray).size, (⟨#[48, 49, 50, 51, 52, 53, 54, 55, 56, 57, 97, 98, 99, 100, 101, 102]⟩ : ByteArray)[i]'h' = hexd i := by
  intro h'
  have : ∀ j : Fin 16, (⟨#[48, 49, 50, 51, 52, 53, 54, 55, 56, 57, 97, 98, 99, 100, 101, 102]⟩ : ByteArray)[j.val]'j.isLt = hexd j.val := by decide
  exact this ⟨i, h⟩
theorem great_at (i : Nat) (h : i < 16) : ∀ h' : i < (⟨#[48, 49, 50, 51, 52, 53, 54, 55, 56, 57, 65, 66, 67, 68, 69, 70]⟩ : ByteArray).size, (⟨#[48, 49, 50, 51, 52, 53, 54, 55, 56, 57, 65, 66, 67, 68, 69, 70]⟩ : ByteArray)[i]'h' = hexU i := by
  intro h'
  have : ∀ j : Fin 16, (⟨#[48, 49, 50, 51, 52, 53, 54, 55, 56, 57, 65, 66, 67, 68, 69, 70]⟩ : ByteArray)[j.val]'j.isLt = hexU j.val := by decide
  exact this ⟨i, h⟩
set_option maxRecDepth 100000 in
set_option maxHeartbeats 1000000 in
theorem digit65 (c : UInt8) (w : World) : Calls Tryd.prog 65 #[.int .u8 (c.toNat : Int)] w fun e w' => e = .returned (.int .i64 (hexI c)) ∧ w' = w := by
  obtain ⟨R, hR⟩ : ∃ R, hexI c = R := ⟨_, rfl⟩
  rw [hR]
  have HR := Lib.hid hR
  clear hR
  go_enter Tryd.func65, Tryd.ntmps65
  go_wp2
  go_loopw [3] (fun s wr => ∃ i : Nat, i ≤ 16 ∧ s = .int .i64 (i : Int) ∧ (∀ k, hexv c = some k → i ≤ k) ∧ wr = w) (fun s _ => 16 - (intOf s).toNat)
  case atStart => exact ⟨0, by omega, rfl, fun _ _ => by omega, rfl⟩
  case round =>
    obtain ⟨i, hi, rfl, hk, rfl⟩ := hrel
    by_cases hlt : i < 16
    · have hz : (i : Int) < 16 := by omega
      have i1 := small_at i hlt
      have i2 := great_at i hlt
      obtain ⟨a, ha⟩ : ∃ a, hexd i = a := ⟨_, rfl⟩
      obtain ⟨b, hb⟩ : ∃ b, hexU i = b := ⟨_, rfl⟩
      rw [ha] at i1
      rw [hb] at i2
      have HK := Lib.hid hk
      have hs16 : (⟨#[48, 49, 50, 51, 52, 53, 54, 55, 56, 57, 97, 98, 99, 100, 101, 102]⟩ : ByteArray).size = 16 := rfl
      have hs17 : (⟨#[48, 49, 50, 51, 52, 53, 54, 55, 56, 57, 65, 66, 67, 68, 69, 70]⟩ : ByteArray).size = 16 := rfl
      clear hk
      by_cases h1 : a = c
      · have hv : hexI c = (i : Int) := by unfold hexI; rw [← h1, ← ha, hexd_v i hlt]
        have HV := Lib.hid (HR.out.symm.trans hv)
        have hd : ((a.toNat : Int) == (c.toNat : Int)) = true := by rw [h1]; simp
        clear h1 ha hb hv hi hlt
        go_wp2
        go_ret
        exact ⟨by rw [HV.out]; rfl, rfl⟩
      · have hd : ((a.toNat : Int) == (c.toNat : Int)) = false := beq_eq_false_iff_ne.2 (fun h => h1 (UInt8.toNat_inj.1 (by omega)))
        by_cases h2 : b = c
        · have hv : hexI c = (i : Int) := by unfold hexI; rw [← h2, ← hb, hexU_v i hlt]
          have HV := Lib.hid (HR.out.symm.trans hv)
          have hd2 : ((b.toNat : Int) == (c.toNat : Int)) = true := by rw [h2]; simp
          clear h1 h2 ha hb hv hi hlt
          go_wp2
          go_ret
          exact ⟨by rw [HV.out]; rfl, rfl⟩
        · have hd2 : ((b.toNat : Int) == (c.toNat : Int)) = false := beq_eq_false_iff_ne.2 (fun h => h2 (UInt8.toNat_inj.1 (by omega)))
          have hn : ∀ k, hexv c = some k → i + 1 ≤ k := by
            intro k hk
            have := HK.out k hk
            rcases Nat.lt_or_ge i k with h | h
            · omega
            · obtain rfl : k = i := by omega
              rcases hexv_or hk with e | e
              · exact absurd (by rw [← ha, e]) h1
              · exact absurd (by rw [← hb, e]) h2
          have HN := Lib.hid hn
          clear hn h1 h2 ha hb hi HK
          go_wp2
          go_roundw
          case rel => exact ⟨i + 1, by omega, by simp, HN.out, by simp⟩
          case measure => simp [intOf]; omega
    · obtain rfl : i = 16 := by omega
      have hv : hexI c = -1 := by
        unfold hexI
        cases h : hexv c with
        | none => rfl
        | some k => have := hk k h; have := hexv_lt h; omega
      have HV := Lib.hid (HR.out.symm.trans hv)
      clear hk hv hi hlt
      go_wp2
      go_ret
      exact ⟨by rw [HV.out]; rfl, rfl⟩
/-- What the reference answers for an error at an offset. -/
def wrongV (len at' e : Nat) : Value := .tuple #[.string ⟨#[]⟩, .int .i64 0, .int .i64 (if len ≤ at' then (len : Int) else (at' : Int)), .int .i64 (if len ≤ at' then 3 else (e : Int))]
set_option maxRecDepth 100000 in
set_option maxHeartbeats 1000000 in
theorem wrong_any (l : List UInt8) (k e : Nat) (w : World) (hmax : l.length ≤ 1000000) : Calls Tryd.prog 43 #[.string ⟨l.toArray⟩, .int .i64 (k : Int), .int .i64 (e : Int)] w fun e' w' => e' = .returned (wrongV l.length k e) ∧ w' = w := by
  have hsz : (ByteArray.mk l.toArray).size = l.length := by show l.toArray.size = _; simp
  unfold wrongV
  by_cases h : l.length ≤ k
  · have hd : (l.length : Int) ≤ (k : Int) := by omega
    rw [if_pos h, if_pos h]
    clear h
    go_enter Tryd.func43, Tryd.ntmps43
    go_wp2
    refine bodyPost_ret (results_tmp4 rfl _ _ _) rfl ?_
    exact ⟨rfl, rfl⟩
  · have hd : decide ((l.length : Int) ≤ (k : Int)) = false := decide_eq_false (by omega)
    have hd2 : decide (l.length ≤ k) = false := decide_eq_false h
    rw [if_neg h, if_neg h]
    clear h
    go_enter Tryd.func43, Tryd.ntmps43
    go_wp2
    refine bodyPost_ret (results_tmp4 rfl _ _ _) rfl ?_
    exact ⟨rfl, rfl⟩
end Go.Proofs.YtalegkgonbmaoaaDoor
