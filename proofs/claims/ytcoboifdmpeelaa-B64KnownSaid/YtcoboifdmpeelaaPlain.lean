import Derived.Test.YtcoboifdmpeelaaBuild
/- base64 in plain words, no program in sight. -/
namespace Go.Proofs.Ytcoboifdmpeelaa
open Go.RowKit
def alphaS : ByteArray := ⟨#[65, 66, 67, 68, 69, 70, 71, 72, 73, 74, 75, 76, 77, 78, 79, 80, 81, 82, 83, 84, 85, 86, 87, 88, 89, 90, 97, 98, 99, 100, 101, 102, 103, 104, 105, 106, 107, 108, 109, 110, 111, 112, 113, 114, 115, 116, 117, 118, 119, 120, 121, 122, 48, 49, 50, 51, 52, 53, 54, 55, 56, 57, 43, 47]⟩
/-- The k-th digit. -/
def dg (k : Nat) : UInt8 := alphaS.data.toList.getD k 0
def three (a b c : UInt8) : Nat := a.toNat * 65536 + b.toNat * 256 + c.toNat
def enc : List UInt8 → List UInt8
  | [] => []
  | [a] => [dg (three a 0 0 / 262144), dg (three a 0 0 / 4096 % 64), 61, 61]
  | [a, b] => [dg (three a b 0 / 262144), dg (three a b 0 / 4096 % 64), dg (three a b 0 / 64 % 64), 61]
  | a :: b :: c :: r => dg (three a b c / 262144) :: dg (three a b c / 4096 % 64) :: dg (three a b c / 64 % 64) :: dg (three a b c % 64) :: enc r
theorem three_lt (a b c : UInt8) : three a b c < 16777216 := by
  have := a.toNat_lt; have := b.toNat_lt; have := c.toNat_lt
  unfold three; omega
theorem or_i64 {x y : Int} (hx : 0 ≤ x) (hx1 : x < 281474976710656) (hm : x % 256 = 0) (hy : 0 ≤ y) (hy1 : y < 256) : bits .or .i64 x y = x + y :=
  bits_join .i64 62 (by decide) (fun n h0 h1 => by rw [IntKind.wrap_i64]; omega) 8 x y hx (by omega) (by omega) hy (by omega) (by omega)
theorem and63_i64 {x : Int} (hx : 0 ≤ x) (hx1 : x < 281474976710656) : bits .and .i64 x 63 = x % 64 :=
  bits_mask .i64 62 (by decide) (fun n h0 h1 => by rw [IntKind.wrap_i64]; omega) 6 (by decide) x hx (by omega)
theorem enc_length : ∀ (l : List UInt8), (enc l).length = (l.length + 2) / 3 * 4
  | [] => by simp [enc]
  | [_] => by simp [enc]
  | [_, _] => by simp [enc]
  | a :: b :: c :: r => by
    have := enc_length r
    simp only [enc, List.length_cons, this]
    omega
end Go.Proofs.Ytcoboifdmpeelaa
