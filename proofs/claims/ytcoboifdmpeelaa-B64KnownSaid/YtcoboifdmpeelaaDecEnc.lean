import Derived.Test.YtcoboifdmpeelaaPuts
namespace Go.Proofs.Ytcoboifdmpeelaa
open Go.RowKit
theorem nb_dg (k : Nat) (h : k < 64) : nb (dg k) = (k : Int) := by
  have : ∀ k : Fin 64, nb (dg k.val) = (k.val : Int) := by decide +kernel
  exact this ⟨k, h⟩
theorem dg_ne (k : Nat) (h : k < 64) : dg k ≠ 61 := by
  have : ∀ k : Fin 64, dg k.val ≠ 61 := by decide +kernel
  exact this ⟨k, h⟩
theorem dg_nb (c : UInt8) (h : 0 ≤ nb c) : dg (nb c).toNat = c := by
  have : ∀ c : Fin 256, 0 ≤ nb (UInt8.ofNat c.val) → dg (nb (UInt8.ofNat c.val)).toNat = UInt8.ofNat c.val := by decide +kernel
  have h2 := this ⟨c.toNat, c.toNat_lt⟩
  simpa [h] using h2
theorem tk_dg (n d k : Nat) (h : k < 64) : tk n d 0 (dg k) = some (n * 64 + k, d + 1, 0) := by
  rw [tk, nb_dg k h, if_pos ⟨by omega, rfl⟩]; simp
theorem decS_dg (n d k : Nat) (r : List UInt8) (h : k < 64) (hd : d < 3) : decS n d 0 (dg k :: r) = Res.up 1 [] (decS (n * 64 + k) (d + 1) 0 r) := by
  rw [decS, tk_dg n d k h]; simp only; rw [if_neg (by omega)]
theorem decS_dg4 (n k : Nat) (r : List UInt8) (h : k < 64) : decS n 3 0 (dg k :: r) = Res.up 1 (bsOf (n * 64 + k) 0) (decS 0 0 0 r) := by
  rw [decS, tk_dg n 3 k h]; simp only; rw [if_pos trivial, if_pos trivial]
theorem bs3_three (a b c : UInt8) : bs3 (three a b c) = [a, b, c] := by
  have := a.toNat_lt; have := b.toNat_lt; have := c.toNat_lt
  simp only [bs3, three, List.cons.injEq, and_true]
  refine ⟨?_, ?_, ?_⟩ <;> (apply UInt8.toNat_inj.1; simp only [UInt8.toNat_ofNat']; omega)
theorem tk_pad (n d p : Nat) (hd : 2 ≤ d) (h : p = 0 → n % 2 ^ (2 * (4 - d)) = 0) : tk n d p 61 = some (n, d, p + 1) := by
  rw [tk, if_neg (by rw [nb61]; omega), if_neg (by rintro (hh | hh); exact hh rfl; omega), if_neg (by rintro ⟨h1, h2⟩; exact h2 (h h1))]
theorem decS_pp (n : Nat) (h : n % 16 = 0) : decS n 2 0 [61, 61] = .ok (bsOf n 2) := by
  rw [decS, tk_pad n 2 0 (by omega) (fun _ => by simpa using h)]
  simp only
  rw [if_neg (by omega), decS, tk_pad n 2 1 (by omega) (fun hh => by omega)]
  simp only
  rw [if_pos trivial, if_neg (by omega), if_pos trivial]
  rfl
theorem decS_p (n : Nat) (h : n % 4 = 0) : decS n 3 0 [61] = .ok (bsOf n 1) := by
  rw [decS, tk_pad n 3 0 (by omega) (fun _ => by simpa using h)]
  simp only
  rw [if_pos trivial, if_neg (by omega), if_pos trivial]
theorem dec_enc : ∀ (l : List UInt8), dec (enc l) = .ok l
  | [] => rfl
  | [a] => by
    have h := three_lt a 0 0
    have ha := a.toNat_lt
    have e1 : three a 0 0 = a.toNat * 65536 := by simp [three]
    simp only [enc, dec]
    rw [decS_dg _ _ _ _ (by omega) (by omega), decS_dg _ _ _ _ (by omega) (by omega), decS_pp _ (by omega)]
    simp only [Res.up, bsOf]
    rw [show ((0 * 64 + three a 0 0 / 262144) * 64 + three a 0 0 / 4096 % 64) * 64 ^ 2 = three a 0 0 by omega]
    simp [bs3_three]
  | [a, b] => by
    have h := three_lt a b 0
    have ha := a.toNat_lt
    have hb := b.toNat_lt
    have e1 : three a b 0 = a.toNat * 65536 + b.toNat * 256 := by simp [three]
    simp only [enc, dec]
    rw [decS_dg _ _ _ _ (by omega) (by omega), decS_dg _ _ _ _ (by omega) (by omega), decS_dg _ _ _ _ (by omega) (by omega), decS_p _ (by omega)]
    simp only [Res.up, bsOf]
    rw [show (((0 * 64 + three a b 0 / 262144) * 64 + three a b 0 / 4096 % 64) * 64 + three a b 0 / 64 % 64) * 64 ^ 1 = three a b 0 by omega]
    simp [bs3_three]
  | a :: b :: c :: r => by
    have ih := dec_enc r
    have h := three_lt a b c
    simp only [enc, dec] at *
    rw [decS_dg _ _ _ _ (by omega) (by omega), decS_dg _ _ _ _ (by omega) (by omega), decS_dg _ _ _ _ (by omega) (by omega), decS_dg4 _ _ _ (by omega), ih]
    simp only [Res.up, bsOf]
    rw [show (((0 * 64 + three a b c / 262144) * 64 + three a b c / 4096 % 64) * 64 + three a b c / 64 % 64) * 64 + three a b c % 64 = three a b c by omega]
    simp [bs3_three]
end Go.Proofs.Ytcoboifdmpeelaa
