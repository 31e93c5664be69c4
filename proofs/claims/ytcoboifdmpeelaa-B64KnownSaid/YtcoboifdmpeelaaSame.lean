import Derived.Test.YtcoboifdmpeelaaRefPut
namespace Go.Proofs.Ytcoboifdmpeelaa
theorem cons_dg {a b : Nat} {r s : List UInt8} (h1 : a = b) (h2 : r = s) : dg a :: r = dg b :: s := by rw [h1, h2]
theorem digs_cons (a b c d e f : Nat) (r : List Nat) : digs (a :: b :: c :: d :: e :: f :: r) = dg (2 * (2 * (2 * (2 * (2 * a + b) + c) + d) + e) + f) :: digs r := rfl
theorem padded_cons (a b c : UInt8) (r : List UInt8) : padded (a :: b :: c :: r) = bits8 a.toNat ++ (bits8 b.toNat ++ (bits8 c.toNat ++ padded r)) := by
  have : (6 - 8 * (r.length + 1 + 1 + 1) % 6) % 6 = (6 - 8 * r.length % 6) % 6 := by omega
  simp only [padded, bitsOf, List.flatMap_cons, List.length_cons, List.append_assoc, this]
theorem digs_24 (a b c : UInt8) (X : List Nat) : digs (bits8 a.toNat ++ (bits8 b.toNat ++ (bits8 c.toNat ++ X))) = dg (three a b c / 262144) :: dg (three a b c / 4096 % 64) :: dg (three a b c / 64 % 64) :: dg (three a b c % 64) :: digs X := by
  have := a.toNat_lt; have := b.toNat_lt; have := c.toNat_lt
  simp only [bits8, List.cons_append, List.nil_append, digs_cons, three]
  exact cons_dg (by omega) (cons_dg (by omega) (cons_dg (by omega) (cons_dg (by omega) rfl)))
theorem encR_eq : ∀ (l : List UInt8), encR l = enc l
  | [] => by simp [encR, enc, padded, bitsOf, digs]
  | [a] => by
    have := a.toNat_lt
    have e : padded [a] = bits8 a.toNat ++ List.replicate 4 0 := by simp [padded, bitsOf]
    rw [encR, e]
    simp only [bits8, List.cons_append, List.nil_append, List.replicate, digs_cons, digs, enc, three, List.length_cons, List.length_nil]
    simp only [show (0 : UInt8).toNat = 0 from rfl]
    exact cons_dg (by omega) (cons_dg (by omega) rfl)
  | [a, b] => by
    have := a.toNat_lt; have := b.toNat_lt
    have e : padded [a, b] = bits8 a.toNat ++ (bits8 b.toNat ++ List.replicate 2 0) := by simp [padded, bitsOf]
    rw [encR, e]
    simp only [bits8, List.cons_append, List.nil_append, List.replicate, digs_cons, digs, enc, three, List.length_cons, List.length_nil]
    simp only [show (0 : UInt8).toNat = 0 from rfl]
    exact cons_dg (by omega) (cons_dg (by omega) (cons_dg (by omega) rfl))
  | a :: b :: c :: r => by
    have ih := encR_eq r
    simp only [encR] at ih
    rw [encR, padded_cons, digs_24]
    simp only [List.length_cons, List.cons_append, enc]
    rw [show ((digs (padded r)).length + 1 + 1 + 1 + 1) % 4 = (digs (padded r)).length % 4 by omega, ih]
end Go.Proofs.Ytcoboifdmpeelaa
