import Derived.Test.YtcoboifdmpeelaaBytes
namespace Go.Proofs.Ytcoboifdmpeelaa
open Go.RowKit
/-- One byte taken into a group: none where it is wrong. -/
def tk (n d p : Nat) (c : UInt8) : Option (Nat × Nat × Nat) :=
  if 0 ≤ nb c ∧ p = 0 then some (n * 64 + (nb c).toNat, d + 1, p)
  else if c ≠ 61 ∨ d < 2 then none
  else if p = 0 ∧ n % 2 ^ (2 * (4 - d)) ≠ 0 then none
  else some (n, d, p + 1)
def bsOf (n p : Nat) : List UInt8 := (bs3 (n * 64 ^ p)).take (3 - p)
inductive Res where
  | ok (bs : List UInt8)
  | bad (k : Nat)
def Res.up (k : Nat) (bs : List UInt8) : Res → Res
  | .ok l => .ok (bs ++ l)
  | .bad e => .bad (k + e)
def decS : Nat → Nat → Nat → List UInt8 → Res
  | _, d, _, [] => if 0 < d then .bad 0 else .ok []
  | n, d, p, c :: r =>
    match tk n d p c with
    | none => .bad 0
    | some (n', d', p') =>
      if d' + p' = 4 then
        if p' = 0 then Res.up 1 (bsOf n' p') (decS 0 0 0 r)
        else if r = [] then .ok (bsOf n' p') else .bad 1
      else Res.up 1 [] (decS n' d' p' r)
def dec (l : List UInt8) : Res := decS 0 0 0 l
/-- What a group may hold between two bytes. -/
def Inv (n d p : Nat) : Prop := (p = 0 ∧ d ≤ 3 ∧ n < 64 ^ d) ∨ (p = 1 ∧ d = 2 ∧ n < 4096)
theorem nb_lt (c : UInt8) : nb c < 64 := by
  have h : ∀ c : Fin 256, nb (UInt8.ofNat c.val) < 64 := by decide +kernel
  have := h ⟨c.toNat, c.toNat_lt⟩
  simpa using this
theorem Inv.lt {n d p : Nat} (h : Inv n d p) : n < 262144 := by
  rcases h with ⟨_, hd, hn⟩ | ⟨_, _, hn⟩
  · exact Nat.lt_of_lt_of_le hn (Nat.pow_le_pow_right (n := 64) (by decide) hd)
  · omega
/-- What a byte leaves. -/
theorem tk_inv {n d p : Nat} {c : UInt8} {n' d' p' : Nat} (h : Inv n d p) (ht : tk n d p c = some (n', d', p')) :
    (d' + p' < 4 ∧ Inv n' d' p') ∨ (d' + p' = 4 ∧ p' = 0 ∧ n' < 16777216) ∨ (d' + p' = 4 ∧ p' = 1 ∧ n' < 262144) ∨ (d' + p' = 4 ∧ p' = 2 ∧ n' < 4096) := by
  have hb := nb_lt c
  have h3 := h.lt
  unfold tk at ht
  split at ht
  · rename_i h1
    obtain ⟨h1, rfl⟩ := h1
    injection ht with ht
    simp only [Prod.mk.injEq] at ht
    obtain ⟨rfl, rfl, rfl⟩ := ht
    rcases h with ⟨_, hd, hn⟩ | ⟨hx, _⟩
    · rcases Nat.lt_or_ge d 3 with h4 | h4
      · refine Or.inl ⟨by omega, Or.inl ⟨rfl, by omega, ?_⟩⟩
        rw [Nat.pow_succ]; omega
      · obtain rfl : d = 3 := by omega
        exact Or.inr (Or.inl ⟨rfl, rfl, by omega⟩)
    · omega
  · split at ht
    · cases ht
    · rename_i h2
      split at ht
      · cases ht
      · injection ht with ht
        simp only [Prod.mk.injEq] at ht
        obtain ⟨rfl, rfl, rfl⟩ := ht
        rcases h with ⟨rfl, hd, hn⟩ | ⟨rfl, rfl, hn⟩
        · have : d = 2 ∨ d = 3 := by omega
          rcases this with rfl | rfl
          · exact Or.inl ⟨by omega, Or.inr ⟨rfl, rfl, by simpa using hn⟩⟩
          · exact Or.inr (Or.inr (Or.inl ⟨rfl, rfl, h3⟩))
        · exact Or.inr (Or.inr (Or.inr ⟨rfl, rfl, hn⟩))
theorem take_any (g n d p : Nat) (c : UInt8) (w : World) (h : Grp w g n d p) (hi : Inv n d p) :
    Calls Try.prog 28 #[.pointer (some ⟨g, 0, none⟩), .int .u8 (c.toNat : Int)] w fun e w' =>
      ∃ b, e = .returned (.bool b) ∧ w.grownBy w' (some g) ∧ (b = true → ∃ n' d' p', tk n d p c = some (n', d', p') ∧ Grp w' g n' d' p') ∧ (b = false → tk n d p c = none) := by
  have hb := nb_lt c
  have h3 := hi.lt
  have hdp : d ≤ 3 ∧ p ≤ 1 ∧ (p = 1 → d = 2) := by rcases hi with ⟨rfl, _, _⟩ | ⟨rfl, rfl, _⟩ <;> omega
  by_cases h1 : 0 ≤ nb c ∧ p = 0
  · refine (take_digit g n d p c (nb c).toNat w h h1.2 (by omega) (by omega) h3 (by omega)).mono ?_
    rintro e w' ⟨rfl, hg, hw⟩
    exact ⟨true, rfl, hw, fun _ => ⟨_, _, _, by rw [tk, if_pos h1], hg⟩, fun hh => by cases hh⟩
  · by_cases h2 : c = 61
    · subst h2
      have e61 : ((61 : UInt8).toNat : Int) = 61 := rfl
      rw [e61]
      by_cases h4 : d < 2
      · refine (take_early g n d p w h h4).mono ?_
        rintro e w' ⟨rfl, hw⟩
        exact ⟨false, rfl, hw, (fun hh => by cases hh), fun _ => by rw [tk, if_neg h1, if_pos (Or.inr h4)]⟩
      · have h5 : ¬ ((61 : UInt8) ≠ 61 ∨ d < 2) := by rintro (hh | hh); exact hh rfl; exact h4 hh
        by_cases hp : p = 0
        · subst hp
          by_cases hr : n % 2 ^ (2 * (4 - d)) = 0
          · refine (take_pad g n d _ w h (by omega) h3 rfl hr).mono ?_
            rintro e w' ⟨rfl, hg, hw⟩
            exact ⟨true, rfl, hw, fun _ => ⟨_, _, _, by rw [tk, if_neg h1, if_neg h5, if_neg (fun hh => hh.2 hr)], hg⟩, fun hh => by cases hh⟩
          · refine (take_bits g n d _ w h (by omega) h3 rfl hr).mono ?_
            rintro e w' ⟨rfl, hw⟩
            exact ⟨false, rfl, hw, (fun hh => by cases hh), fun _ => by rw [tk, if_neg h1, if_neg h5, if_pos ⟨rfl, hr⟩]⟩
        · refine (take_pad2 g n d p w h (by omega) (by omega) (by omega)).mono ?_
          rintro e w' ⟨rfl, hg, hw⟩
          exact ⟨true, rfl, hw, fun _ => ⟨_, _, _, by rw [tk, if_neg h1, if_neg h5, if_neg (fun hh => hp hh.1)], hg⟩, fun hh => by cases hh⟩
    · have hc : c.toNat ≠ 61 := fun hh => h2 (UInt8.toNat_inj.1 (by rw [hh]; rfl))
      refine (take_other g n d p c (nb c) w h rfl (by omega) hc).mono ?_
      rintro e w' ⟨rfl, hw⟩
      exact ⟨false, rfl, hw, (fun hh => by cases hh), fun _ => by rw [tk, if_neg h1, if_pos (Or.inl h2)]⟩
end Go.Proofs.Ytcoboifdmpeelaa
