import Derived.Test.YtalegkgonbmaoaaDoorMach
import Derived.Test.YtalegkgonbmaoaaDoorQuote
import Derived.Lib.ValidLaws
/- Encodings: what decodes, what is a part of one; what the machine makes of them. No program in sight. -/
set_option linter.unusedVariables false
set_option linter.unusedSimpArgs false
namespace Go.Proofs.YtalegkgonbmaoaaDoor
open Go.Lib
def Sc (r : Nat) : Prop := r < 55296 ∨ (57343 < r ∧ r ≤ 1114111)
def by8 (n : Nat) : UInt8 := UInt8.ofNat n
theorem by8_toNat (n : Nat) (h : n < 256) : (by8 n).toNat = n := by simp [by8]; omega
/-- The bytes, by arithmetic on natural numbers. -/
theorem enc1 {r : Nat} (h : r < 128) : encodeRune (r : Int) = [by8 r] := by
  unfold encodeRune; rw [encodeRuneZ_one (by omega) (by omega)]; rfl
theorem enc2 {r : Nat} (h0 : 128 ≤ r) (h1 : r < 2048) : encodeRune (r : Int) = [by8 (192 + r / 64), by8 (128 + r % 64)] := by
  unfold encodeRune; rw [encodeRuneZ_two (by omega) (by omega)]
  simp only [List.map_cons, List.map_nil]
  rw [show (192 + (r : Int) / 64).toNat = 192 + r / 64 by omega, show (128 + (r : Int) % 64).toNat = 128 + r % 64 by omega]; rfl
theorem enc3 {r : Nat} (h : Sc r) (h0 : 2048 ≤ r) (h1 : r < 65536) : encodeRune (r : Int) = [by8 (224 + r / 4096), by8 (128 + r / 64 % 64), by8 (128 + r % 64)] := by
  unfold Sc at h
  unfold encodeRune; rw [encodeRuneZ_three (by omega)]
  simp only [List.map_cons, List.map_nil]
  rw [show (224 + (r : Int) / 4096).toNat = 224 + r / 4096 by omega, show (128 + (r : Int) / 64 % 64).toNat = 128 + r / 64 % 64 by omega, show (128 + (r : Int) % 64).toNat = 128 + r % 64 by omega]; rfl
theorem enc4 {r : Nat} (h0 : 65536 ≤ r) (h1 : r ≤ 1114111) : encodeRune (r : Int) = [by8 (240 + r / 262144), by8 (128 + r / 4096 % 64), by8 (128 + r / 64 % 64), by8 (128 + r % 64)] := by
  unfold encodeRune; rw [encodeRuneZ_four (by omega) (by omega)]
  simp only [List.map_cons, List.map_nil]
  rw [show (240 + (r : Int) / 262144).toNat = 240 + r / 262144 by omega, show (128 + (r : Int) / 4096 % 64).toNat = 128 + r / 4096 % 64 by omega, show (128 + (r : Int) / 64 % 64).toNat = 128 + r / 64 % 64 by omega, show (128 + (r : Int) % 64).toNat = 128 + r % 64 by omega]; rfl
theorem dec_enc {r : Nat} (h : Sc r) (t : List UInt8) : decodeL (encodeRune (r : Int) ++ t) = (r, (encodeRune (r : Int)).length) := by
  have h' := h
  unfold Sc at h
  rw [decodeL_N]
  by_cases h1 : r < 128
  · rw [enc1 h1]
    simp only [List.cons_append, List.nil_append, List.getD_cons_zero, List.length_cons, List.length_nil]
    rw [by8_toNat _ (by omega)]
    unfold decodeN; rw [if_pos h1]
  · by_cases h2 : r < 2048
    · rw [enc2 (by omega) h2]
      simp only [List.cons_append, List.nil_append, List.getD_cons_zero, List.getD_cons_succ, List.length_cons, List.length_nil]
      rw [by8_toNat (192 + r / 64) (by omega), by8_toNat (128 + r % 64) (by omega)]
      unfold decodeN
      rw [if_neg (by omega), if_pos (by omega), if_pos (by omega)]
      apply Prod.ext <;> simp only <;> omega
    · by_cases h3 : r < 65536
      · rw [enc3 h' (by omega) h3]
        simp only [List.cons_append, List.nil_append, List.getD_cons_zero, List.getD_cons_succ, List.length_cons, List.length_nil]
        rw [by8_toNat (224 + r / 4096) (by omega), by8_toNat (128 + r / 64 % 64) (by omega), by8_toNat (128 + r % 64) (by omega)]
        unfold decodeN
        rw [if_neg (by omega), if_neg (by omega), if_pos (by omega), if_pos (by omega)]
        apply Prod.ext <;> simp only <;> omega
      · rw [enc4 (by omega) (by omega)]
        simp only [List.cons_append, List.nil_append, List.getD_cons_zero, List.getD_cons_succ, List.length_cons, List.length_nil]
        rw [by8_toNat (240 + r / 262144) (by omega), by8_toNat (128 + r / 4096 % 64) (by omega), by8_toNat (128 + r / 64 % 64) (by omega), by8_toNat (128 + r % 64) (by omega)]
        unfold decodeN
        rw [if_neg (by omega), if_neg (by omega), if_neg (by omega), if_pos (by omega), if_pos (by omega)]
        apply Prod.ext <;> simp only <;> omega
theorem enc_ne {r : Nat} : encodeRune (r : Int) ≠ [] := by
  intro h
  have h2 := Lib.runeCells_le (r : Int)
  rw [Lib.runeCells_length, h] at h2
  simp at h2
theorem enc_len {r : Nat} : 1 ≤ (encodeRune (r : Int)).length ∧ (encodeRune (r : Int)).length ≤ 4 := by
  have h2 := Lib.runeCells_le (r : Int)
  rw [Lib.runeCells_length] at h2
  exact h2
theorem nxt_enc {r : Nat} (h : Sc r) (t : List UInt8) : nxt (encodeRune (r : Int) ++ t) = some (r, (encodeRune (r : Int)).length) := by
  unfold nxt
  rw [if_neg (by simp [enc_ne]), dec_enc h t, if_neg]
  rintro ⟨h1, h2⟩
  simp only at h1 h2
  subst h1
  rw [enc3 h (by omega) (by omega)] at h2
  simp at h2
theorem lead_fin : ∀ x : Fin 256, 194 ≤ x.val → x.val ≤ 244 → 2 ≤ firstT x.val % 8 ∧ (224 ≤ x.val → 3 ≤ firstT x.val % 8) ∧ (240 ≤ x.val → 4 ≤ firstT x.val % 8) ∧ accLo (firstT x.val / 16) = (if x.val = 224 then 160 else if x.val = 240 then 144 else 128) ∧ accHi (firstT x.val / 16) = (if x.val = 237 then 159 else if x.val = 244 then 143 else 191) := by decide +kernel
theorem lead (a : UInt8) (h0 : 194 ≤ a.toNat) (h1 : a.toNat ≤ 244) : 2 ≤ firstT a.toNat % 8 ∧ (224 ≤ a.toNat → 3 ≤ firstT a.toNat % 8) ∧ (240 ≤ a.toNat → 4 ≤ firstT a.toNat % 8) ∧ accLo (firstT a.toNat / 16) = (if a.toNat = 224 then 160 else if a.toNat = 240 then 144 else 128) ∧ accHi (firstT a.toNat / 16) = (if a.toNat = 237 then 159 else if a.toNat = 244 then 143 else 191) :=
  lead_fin ⟨a.toNat, a.toNat_lt⟩ h0 h1
/-- A proper part of an encoding: neither decoded nor full. -/
theorem part1 {a : UInt8} (h0 : 194 ≤ a.toNat) (h1 : a.toNat ≤ 244) : nxt [a] = none ∧ full [a] = false := by
  constructor
  · unfold nxt
    rw [if_neg (by simp), decodeL_N, if_pos]
    simp only [List.length_cons, List.length_nil, List.getD_cons_zero]
    unfold decodeN
    rw [if_neg (by omega), if_neg (by omega), if_neg (by omega), if_neg (by omega)]
    exact ⟨rfl, rfl⟩
  · unfold full
    simp only [List.getD_cons_zero, List.length_cons, List.length_nil]
    apply decide_eq_false
    have := (lead a h0 h1).1
    omega
theorem part2 {a b : UInt8} (h0 : 224 ≤ a.toNat) (h1 : a.toNat ≤ 244) (hb : b.toNat / 64 = 2) (hr : (a.toNat = 224 → 160 ≤ b.toNat) ∧ (a.toNat = 237 → b.toNat < 160) ∧ (a.toNat = 240 → 144 ≤ b.toNat) ∧ (a.toNat = 244 → b.toNat < 144)) : nxt [a, b] = none ∧ full [a, b] = false := by
  obtain ⟨r1, r2, r3, r4⟩ := hr
  constructor
  · unfold nxt
    rw [if_neg (by simp), decodeL_N, if_pos]
    simp only [List.length_cons, List.length_nil, List.getD_cons_zero, List.getD_cons_succ]
    unfold decodeN
    rw [if_neg (by omega), if_neg (by omega), if_neg (by omega), if_neg (by omega)]
    exact ⟨rfl, rfl⟩
  · unfold full
    simp only [List.getD_cons_zero, List.getD_cons_succ, List.length_cons, List.length_nil]
    apply decide_eq_false
    obtain ⟨h2, h3, h33, h4, h5⟩ := lead a (by omega) h1
    rw [h4, h5]
    clear h4 h5
    have h3 := h3 (by omega)
    repeat' split
    all_goals omega
theorem part3 {a b c : UInt8} (h0 : 240 ≤ a.toNat) (h1 : a.toNat ≤ 244) (hb : b.toNat / 64 = 2) (hc : c.toNat / 64 = 2) (hr : (a.toNat = 240 → 144 ≤ b.toNat) ∧ (a.toNat = 244 → b.toNat < 144)) : nxt [a, b, c] = none ∧ full [a, b, c] = false := by
  obtain ⟨r3, r4⟩ := hr
  constructor
  · unfold nxt
    rw [if_neg (by simp), decodeL_N, if_pos]
    simp only [List.length_cons, List.length_nil, List.getD_cons_zero, List.getD_cons_succ]
    unfold decodeN
    rw [if_neg (by omega), if_neg (by omega), if_neg (by omega), if_neg (by omega)]
    exact ⟨rfl, rfl⟩
  · unfold full
    simp only [List.getD_cons_zero, List.getD_cons_succ, List.length_cons, List.length_nil]
    apply decide_eq_false
    obtain ⟨h2, h3, h33, h4, h5⟩ := lead a (by omega) h1
    rw [h4, h5]
    clear h4 h5
    have h3 := h33 (by omega)
    repeat' split
    all_goals omega
/-! the texts -/
def encs (rs : List Nat) : List UInt8 := rs.flatMap fun (r : Nat) => encodeRune (r : Int)
theorem encs_cons (r : Nat) (rs : List Nat) : encs (r :: rs) = encodeRune (r : Int) ++ encs rs := by simp [encs]
theorem valid_encs : ∀ rs : List Nat, (∀ r ∈ rs, Sc r) → validD (encs rs) = true
  | [], _ => rfl
  | r :: rs, h => by
    have hr := h r (by simp)
    rw [encs_cons, validD_step _ (by simp [enc_ne]), dec_enc hr, if_neg]
    · simp only [List.drop_left]
      exact valid_encs rs (fun x hx => h x (by simp [hx]))
    · have := nxt_enc hr (encs rs)
      unfold nxt at this
      rw [if_neg (by simp [enc_ne]), dec_enc hr] at this
      intro hc
      rw [if_pos hc] at this
      cases this
theorem quote_encs : ∀ rs : List Nat, (∀ r ∈ rs, Sc r) → quoteD (encs rs) = rs.flatMap quoteOne
  | [], _ => rfl
  | r :: rs, h => by
    have hr := h r (by simp)
    rw [encs_cons, quoteD_step _ (by simp [enc_ne]), dec_enc hr]
    simp only [List.drop_left, List.flatMap_cons]
    rw [quote_encs rs (fun x hx => h x (by simp [hx]))]
end Go.Proofs.YtalegkgonbmaoaaDoor
