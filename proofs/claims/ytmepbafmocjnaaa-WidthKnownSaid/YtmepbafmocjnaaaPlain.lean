import Derived.WalkKit
import Derived.Lib.BitFns
import Derived.Lib.ItoaNum
/- Plain arithmetic for the width laws: no program in sight. -/
namespace Go.Proofs.Ytmepbafmocjnaaa
open Go.RowKit
def isW (x : Int) : Bool := decide (x = 1 ∨ x = 2 ∨ x = 4 ∨ x = 8)
def pcode (x : Int) : Int := if x = 2 then 1 else if x = 4 then 2 else if x = 8 then 3 else 0
def codeE (x : Int) : Int := if isW x = true then 0 else 2
def backW (c : Int) : Int := if c = 0 then 1 else if c = 1 then 2 else if c = 2 then 4 else if c = 3 then 8 else 0
def isC (c : Int) : Bool := decide (0 ≤ c ∧ c < 4)
def backE (c : Int) : Int := if isC c = true then 0 else 2
def leastW (n : Int) : Int := if n ≤ 8 then 1 else if n ≤ 16 then 2 else if n ≤ 32 then 4 else 8
def ofW (u : Int) : Int := if u < 256 then 1 else if u < 65536 then 2 else if u < 4294967296 then 4 else 8
def oiW (n : Int) : Int := if -128 ≤ n ∧ n < 128 then 1 else if -32768 ≤ n ∧ n < 32768 then 2 else if -2147483648 ≤ n ∧ n < 2147483648 then 4 else 8
theorem pcode_range (x : Int) : 0 ≤ pcode x ∧ pcode x < 4 := by unfold pcode; split; omega; split; omega; split <;> omega
theorem bl_iff (x k : Nat) (hk : k < 64) (hx : x < 2 ^ 64) : Lib.bitLen x ≤ k ↔ x < 2 ^ k := by
  refine ⟨fun h => ?_, fun h => Lib.bitLen_le x k (by omega) h⟩
  by_cases h0 : x = 0
  · subst h0; exact Nat.two_pow_pos k
  · obtain ⟨_, _, h3⟩ := Lib.bitLenAux_bounds 64 x hx h0
    exact Nat.lt_of_lt_of_le h3 (Nat.pow_le_pow_right (by omega) h)
theorem least_of (u : Int) (h0 : 0 ≤ u) (h1 : u < 18446744073709551616) : leastW (Lib.bitLen u.toNat) = ofW u := by
  have hx : u.toNat < 2 ^ 64 := by omega
  have a1 := bl_iff u.toNat 8 (by omega) hx
  have a2 := bl_iff u.toNat 16 (by omega) hx
  have a3 := bl_iff u.toNat 32 (by omega) hx
  simp only [Nat.reducePow] at a1 a2 a3
  unfold leastW ofW
  by_cases c1 : u < 256
  · rw [if_pos c1, if_pos (by omega)]
  · rw [if_neg c1, if_neg (by omega)]
    by_cases c2 : u < 65536
    · rw [if_pos c2, if_pos (by omega)]
    · rw [if_neg c2, if_neg (by omega)]
      by_cases c3 : u < 4294967296
      · rw [if_pos c3, if_pos (by omega)]
      · rw [if_neg c3, if_neg (by omega)]
/-- The number that OfInt hands to Len64. -/
def fold (n : Int) : Int := if n < 0 then -n - 1 else n
theorem least_oi (n : Int) (h0 : -9223372036854775808 ≤ n) (h1 : n < 9223372036854775808) : leastW (1 + Lib.bitLen (fold n).toNat) = oiW n := by
  have hf : 0 ≤ fold n ∧ fold n < 9223372036854775808 := by unfold fold; split <;> omega
  have hx : (fold n).toNat < 2 ^ 64 := by omega
  have a1 := bl_iff (fold n).toNat 7 (by omega) hx
  have a2 := bl_iff (fold n).toNat 15 (by omega) hx
  have a3 := bl_iff (fold n).toNat 31 (by omega) hx
  simp only [Nat.reducePow] at a1 a2 a3
  have hd : (n < 0 ∧ fold n = -n - 1) ∨ (0 ≤ n ∧ fold n = n) := by unfold fold; split <;> omega
  unfold leastW oiW
  by_cases c1 : -128 ≤ n ∧ n < 128
  · rw [if_pos c1, if_pos (by omega)]
  · rw [if_neg c1, if_neg (by omega)]
    by_cases c2 : -32768 ≤ n ∧ n < 32768
    · rw [if_pos c2, if_pos (by omega)]
    · rw [if_neg c2, if_neg (by omega)]
      by_cases c3 : -2147483648 ≤ n ∧ n < 2147483648
      · rw [if_pos c3, if_pos (by omega)]
      · rw [if_neg c3, if_neg (by omega)]
theorem wrap_ofInt (n : Int) (h0 : -9223372036854775808 ≤ n) (h1 : n < 9223372036854775808) : IntKind.i64.wrap ((BitVec.ofInt 64 n).toNat : Int) = n := by
  rw [BitVec.toNat_ofInt, IntKind.wrap_i64]
  omega
theorem xor_zero (n : Int) (h0 : -9223372036854775808 ≤ n) (h1 : n < 9223372036854775808) : bits .xor .i64 n 0 = n := by
  have e : bits .xor .i64 n 0 = IntKind.i64.wrap ((BitVec.ofInt 64 n ^^^ BitVec.ofInt 64 0).toNat : Int) := rfl
  rw [e, show BitVec.ofInt 64 0 = 0#64 from rfl, BitVec.xor_zero]
  exact wrap_ofInt n h0 h1
theorem xor_ones (n : Int) (h0 : -9223372036854775808 ≤ n) (h1 : n < 0) : bits .xor .i64 n (-1) = -n - 1 := by
  have e : bits .xor .i64 n (-1) = IntKind.i64.wrap ((BitVec.ofInt 64 n ^^^ BitVec.ofInt 64 (-1)).toNat : Int) := rfl
  rw [e, show BitVec.ofInt 64 (-1) = BitVec.allOnes 64 from rfl, BitVec.xor_allOnes, BitVec.toNat_not, BitVec.toNat_ofInt, IntKind.wrap_i64]
  omega
theorem and_mask_sum (x m : BitVec 64) : (x &&& ~~~m) + (x &&& m) = x := by
  rw [BitVec.add_eq_or_of_and_eq_zero]
  · ext i hi
    simp only [BitVec.getElem_or, BitVec.getElem_and, BitVec.getElem_not]
    cases x[i] <;> cases m[i] <;> rfl
  · ext i hi
    simp only [BitVec.getElem_and, BitVec.getElem_not, BitVec.getElem_zero]
    cases x[i] <;> cases m[i] <;> rfl
theorem andNot_mask (a : Int) (k : Nat) (hk : k < 62) (h0 : 0 ≤ a) (h1 : a < 9223372036854775808) : bits .andNot .i64 a ((2 ^ k - 1 : Nat) : Int) = a - a % ((2 ^ k : Nat) : Int) := by
  have e : bits .andNot .i64 a ((2 ^ k - 1 : Nat) : Int) = IntKind.i64.wrap ((BitVec.ofInt 64 a &&& ~~~(BitVec.ofInt 64 ((2 ^ k - 1 : Nat) : Int))).toNat : Int) := rfl
  obtain ⟨n, rfl⟩ := Int.eq_ofNat_of_zero_le h0
  have hp : 2 ^ k < 2 ^ 62 := Nat.pow_lt_pow_right (by omega) hk
  have hp1 : 0 < 2 ^ k := Nat.two_pow_pos k
  have ea : BitVec.ofInt 64 (n : Int) = BitVec.ofNat 64 n := by simp
  have em : BitVec.ofInt 64 ((2 ^ k - 1 : Nat) : Int) = BitVec.ofNat 64 (2 ^ k - 1) := by rw [BitVec.ofInt_natCast]
  have hs := and_mask_sum (BitVec.ofNat 64 n) (BitVec.ofNat 64 (2 ^ k - 1))
  have hm : (BitVec.ofNat 64 n &&& BitVec.ofNat 64 (2 ^ k - 1)).toNat = n % 2 ^ k := by
    rw [BitVec.toNat_and, BitVec.toNat_ofNat, BitVec.toNat_ofNat, Nat.mod_eq_of_lt (by omega), Nat.mod_eq_of_lt (by omega), Nat.and_two_pow_sub_one_eq_mod]
  have hl : (BitVec.ofNat 64 n &&& ~~~(BitVec.ofNat 64 (2 ^ k - 1))).toNat ≤ n := by
    rw [BitVec.toNat_and, BitVec.toNat_ofNat, Nat.mod_eq_of_lt (by omega)]
    exact Nat.and_le_left
  have ht := congrArg BitVec.toNat hs
  have hmod : n % 2 ^ k ≤ n := Nat.mod_le _ _
  rw [BitVec.toNat_add, hm, BitVec.toNat_ofNat] at ht
  rw [e, ea, em, IntKind.wrap_i64]
  have hc : ((n : Int) % ((2 ^ k : Nat) : Int)) = ((n % 2 ^ k : Nat) : Int) := by simp
  rw [hc]
  generalize (BitVec.ofNat 64 n &&& ~~~(BitVec.ofNat 64 (2 ^ k - 1))).toNat = d at *
  generalize n % 2 ^ k = m at *
  omega
end Go.Proofs.Ytmepbafmocjnaaa
