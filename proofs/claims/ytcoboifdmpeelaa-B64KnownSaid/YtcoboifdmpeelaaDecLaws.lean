import Derived.Test.YtcoboifdmpeelaaBack
/- base64: what the decoder's machine answers, in plain words, no program in sight. -/
namespace Go.Proofs.Ytcoboifdmpeelaa
open Go.RowKit
theorem up_ok {k : Nat} {bs b : List UInt8} {r : Res} (h : Res.up k bs r = .ok b) : ∃ b', r = .ok b' ∧ b = bs ++ b' := by
  cases r with
  | ok l => exact ⟨l, rfl, by simp only [Res.up, Res.ok.injEq] at h; exact h.symm⟩
  | bad e => simp [Res.up] at h
theorem up_bad {k j : Nat} {bs : List UInt8} {r : Res} (h : Res.up k bs r = .bad j) : ∃ j', r = .bad j' ∧ j = k + j' := by
  cases r with
  | ok l => simp [Res.up] at h
  | bad e => exact ⟨e, rfl, by simp only [Res.up, Res.bad.injEq] at h; exact h.symm⟩
theorem inv_nil {n d p : Nat} {b : List UInt8} (h : decS n d p [] = .ok b) : d = 0 ∧ b = [] := by
  rw [decS] at h
  split at h
  · cases h
  · simp only [Res.ok.injEq] at h
    exact ⟨by omega, h.symm⟩
theorem tk_of {n d p : Nat} {c : UInt8} {n' d' p' : Nat} (h : tk n d p c = some (n', d', p')) :
    (p = 0 ∧ p' = 0 ∧ d' = d + 1 ∧ ∃ k, k < 64 ∧ c = dg k ∧ n' = n * 64 + k) ∨ (c = 61 ∧ 2 ≤ d ∧ d' = d ∧ n' = n ∧ p' = p + 1 ∧ (p = 0 → n % 2 ^ (2 * (4 - d)) = 0)) := by
  have hb := nb_lt c
  unfold tk at h
  split at h
  · rename_i h1
    simp only [Option.some.injEq, Prod.mk.injEq] at h
    exact Or.inl ⟨h1.2, by omega, by omega, (nb c).toNat, by omega, (dg_nb c h1.1).symm, by omega⟩
  · split at h
    · cases h
    · rename_i h2
      split at h
      · cases h
      · rename_i h3
        simp only [Option.some.injEq, Prod.mk.injEq] at h
        refine Or.inr ⟨?_, by omega, by omega, by omega, by omega, fun hp => ?_⟩
        · by_cases hc : c = 61
          · exact hc
          · exact absurd (Or.inl hc) h2
        · by_cases hz : n % 2 ^ (2 * (4 - d)) = 0
          · exact hz
          · exact absurd ⟨hp, hz⟩ h3
theorem inv_d {n d : Nat} {c : UInt8} {r b : List UInt8} (hd : d < 3) (h : decS n d 0 (c :: r) = .ok b) :
    (∃ k, k < 64 ∧ c = dg k ∧ decS (n * 64 + k) (d + 1) 0 r = .ok b) ∨ (c = 61 ∧ d = 2 ∧ n % 16 = 0 ∧ decS n 2 1 r = .ok b) := by
  rw [decS] at h
  split at h
  · cases h
  · rename_i n' d' p' ht
    rcases tk_of ht with ⟨_, rfl, rfl, k, hk, hc, rfl⟩ | ⟨hc, h2, rfl, rfl, rfl, hz⟩
    · rw [if_neg (by omega)] at h
      obtain ⟨b', hb', rfl⟩ := up_ok h
      exact Or.inl ⟨k, hk, hc, hb'⟩
    · obtain rfl : d' = 2 := by omega
      rw [if_neg (by omega)] at h
      obtain ⟨b', hb', rfl⟩ := up_ok h
      exact Or.inr ⟨hc, rfl, by simpa using hz rfl, hb'⟩
theorem inv_3 {n : Nat} {c : UInt8} {r b : List UInt8} (h : decS n 3 0 (c :: r) = .ok b) :
    (∃ k, k < 64 ∧ c = dg k ∧ ∃ b', decS 0 0 0 r = .ok b' ∧ b = bsOf (n * 64 + k) 0 ++ b') ∨ (c = 61 ∧ n % 4 = 0 ∧ r = [] ∧ b = bsOf n 1) := by
  rw [decS] at h
  split at h
  · cases h
  · rename_i n' d' p' ht
    rcases tk_of ht with ⟨_, rfl, rfl, k, hk, hc, rfl⟩ | ⟨hc, h2, rfl, rfl, rfl, hz⟩
    · rw [if_pos (by omega), if_pos rfl] at h
      obtain ⟨b', hb', rfl⟩ := up_ok h
      exact Or.inl ⟨k, hk, hc, b', hb', rfl⟩
    · rw [if_pos (by omega), if_neg (by omega)] at h
      split at h
      · simp only [Res.ok.injEq] at h
        exact Or.inr ⟨hc, by simpa using hz rfl, by assumption, h.symm⟩
      · cases h
theorem inv_p {n : Nat} {c : UInt8} {r b : List UInt8} (h : decS n 2 1 (c :: r) = .ok b) : c = 61 ∧ r = [] ∧ b = bsOf n 2 := by
  rw [decS] at h
  split at h
  · cases h
  · rename_i n' d' p' ht
    rcases tk_of ht with ⟨h0, _⟩ | ⟨hc, h2, rfl, rfl, rfl, hz⟩
    · cases h0
    · rw [if_pos (by omega), if_neg (by omega)] at h
      split at h
      · simp only [Res.ok.injEq] at h
        exact ⟨hc, by assumption, h.symm⟩
      · cases h
theorem three_bs (V : Nat) (h : V < 16777216) : three (UInt8.ofNat (V / 65536)) (UInt8.ofNat (V / 256)) (UInt8.ofNat V) = V := by
  simp only [three, UInt8.toNat_ofNat']; omega
theorem three_bs2 (V : Nat) (h : V < 16777216) (h2 : V % 256 = 0) : three (UInt8.ofNat (V / 65536)) (UInt8.ofNat (V / 256)) 0 = V := by
  simp only [three, UInt8.toNat_ofNat', show (0 : UInt8).toNat = 0 from rfl]; omega
theorem three_bs1 (V : Nat) (h : V < 16777216) (h2 : V % 65536 = 0) : three (UInt8.ofNat (V / 65536)) 0 0 = V := by
  simp only [three, UInt8.toNat_ofNat', show (0 : UInt8).toNat = 0 from rfl]; omega
theorem dg_eq {a b : Nat} (h : a = b) : dg a = dg b := by rw [h]
theorem dec_ok_enc : ∀ (m : Nat) (l b : List UInt8), l.length ≤ m → decS 0 0 0 l = .ok b → enc b = l := by
  intro m
  induction m with
  | zero =>
    intro l b hl h
    obtain rfl : l = [] := List.eq_nil_of_length_eq_zero (by omega)
    rw [(inv_nil h).2]; rfl
  | succ m ih =>
    intro l b hl h
    rcases l with _ | ⟨c1, r1⟩
    · rw [(inv_nil h).2]; rfl
    rcases inv_d (by omega) h with ⟨k1, hk1, rfl, h1⟩ | ⟨_, hx, _⟩
    rotate_left
    · omega
    clear h
    rcases r1 with _ | ⟨c2, r2⟩
    · exact absurd (inv_nil h1).1 (by omega)
    rcases inv_d (by omega) h1 with ⟨k2, hk2, rfl, h2⟩ | ⟨_, hx, _⟩
    rotate_left
    · omega
    clear h1
    rcases r2 with _ | ⟨c3, r3⟩
    · exact absurd (inv_nil h2).1 (by omega)
    rcases inv_d (by omega) h2 with ⟨k3, hk3, rfl, h⟩ | ⟨rfl, _, hz, h⟩
    all_goals clear h2
    · rcases r3 with _ | ⟨c4, r4⟩
      · exact absurd (inv_nil h).1 (by omega)
      rcases inv_3 h with ⟨k4, hk4, rfl, b', hb', rfl⟩ | ⟨rfl, hz, rfl, rfl⟩
      · have e := ih r4 b' (by simp at hl; omega) hb'
        have hV : (((0 * 64 + k1) * 64 + k2) * 64 + k3) * 64 + k4 < 16777216 := by omega
        obtain ⟨V, hVe⟩ : ∃ V, V = (((0 * 64 + k1) * 64 + k2) * 64 + k3) * 64 + k4 := ⟨_, rfl⟩
        rw [← hVe] at hV ⊢
        have et := three_bs V hV
        simp only [bsOf, bs3, List.take, Nat.pow_zero, Nat.mul_one, List.cons_append, List.nil_append, enc, et, e]
        rw [dg_eq (show V / 262144 = k1 by omega), dg_eq (show V / 4096 % 64 = k2 by omega), dg_eq (show V / 64 % 64 = k3 by omega), dg_eq (show V % 64 = k4 by omega)]
      · obtain ⟨V, hVe⟩ : ∃ V, V = (((0 * 64 + k1) * 64 + k2) * 64 + k3) * 64 := ⟨_, rfl⟩
        have hV : V < 16777216 := by omega
        have et := three_bs2 V hV (by omega)
        simp only [bsOf, Nat.pow_one, ← hVe]
        simp only [bs3, List.take, enc, et]
        rw [dg_eq (show V / 262144 = k1 by omega), dg_eq (show V / 4096 % 64 = k2 by omega), dg_eq (show V / 64 % 64 = k3 by omega)]
    · rcases r3 with _ | ⟨c4, r4⟩
      · exact absurd (inv_nil h).1 (by omega)
      obtain ⟨rfl, rfl, rfl⟩ := inv_p h
      obtain ⟨V, hVe⟩ : ∃ V, V = ((0 * 64 + k1) * 64 + k2) * 4096 := ⟨_, rfl⟩
      have hV : V < 16777216 := by omega
      have et := three_bs1 V hV (by omega)
      have e2 : ((0 * 64 + k1) * 64 + k2) * 64 ^ 2 = V := by rw [hVe]
      simp only [bsOf, e2]
      simp only [bs3, List.take, enc, et]
      rw [dg_eq (show V / 262144 = k1 by omega), dg_eq (show V / 4096 % 64 = k2 by omega)]
theorem enc_app : ∀ (a b : List UInt8), a.length % 3 = 0 → enc (a ++ b) = enc a ++ enc b
  | [], b, _ => rfl
  | [_], _, h => by simp at h
  | [_, _], _, h => by simp at h
  | x :: y :: z :: r, b, h => by
    have ih := enc_app r b (by simp at h; omega)
    simp only [List.cons_append, enc, ih]
/-- Where the machine fails, it fails there whatever comes behind. -/
theorem bad_le : ∀ (l : List UInt8) (n d p k : Nat), decS n d p l = .bad k → k ≤ l.length := by
  intro l
  induction l with
  | nil =>
    intro n d p k h
    rw [decS] at h
    split at h
    · simp only [Res.bad.injEq] at h; omega
    · cases h
  | cons c r ih =>
    intro n d p k h
    rw [decS] at h
    split at h
    · simp only [Res.bad.injEq] at h; omega
    · split at h
      · split at h
        · obtain ⟨j, hj, rfl⟩ := up_bad h
          have := ih _ _ _ _ hj
          simp only [List.length_cons]; omega
        · split at h
          · cases h
          · simp only [Res.bad.injEq] at h; simp only [List.length_cons]; omega
      · obtain ⟨j, hj, rfl⟩ := up_bad h
        have := ih _ _ _ _ hj
        simp only [List.length_cons]; omega
theorem bad_behind : ∀ (l : List UInt8) (n d p k : Nat) (t : List UInt8), decS n d p l = .bad k → k < l.length → decS n d p (l.take (k + 1) ++ t) = .bad k := by
  intro l
  induction l with
  | nil => intro n d p k t h hk; exact absurd hk (by simp)
  | cons c r ih =>
    intro n d p k t h hk
    rw [decS] at h
    rw [List.take_succ_cons, List.cons_append, decS]
    split at h
    · exact h
    · split at h
      · rename_i h4
        rw [if_pos h4]
        split at h
        · rename_i hp
          rw [if_pos hp]
          obtain ⟨j, hj, rfl⟩ := up_bad h
          rw [show 1 + j = j + 1 by omega, ih _ _ _ _ t hj (by simp only [List.length_cons] at hk; omega)]
          simp only [Res.up]
          rw [Nat.add_comm]
        · rename_i hp
          rw [if_neg hp]
          split at h
          · cases h
          · rename_i hr
            simp only [Res.bad.injEq] at h
            subst h
            rw [if_neg]
            rcases r with _ | ⟨c2, r2⟩
            · exact absurd rfl hr
            · simp
      · rename_i h4
        rw [if_neg h4]
        obtain ⟨j, hj, rfl⟩ := up_bad h
        rw [show 1 + j = j + 1 by omega, ih _ _ _ _ t hj (by simp only [List.length_cons] at hk; omega)]
        simp only [Res.up]
        rw [Nat.add_comm]
def mores : List (List UInt8) := [[], [65], [61], [65, 65], [65, 61], [61, 61], [65, 65, 65], [65, 65, 61], [65, 61, 61]]
def Fit (n d p : Nat) (l : List UInt8) : Prop := ∃ m ∈ mores, ∃ b, decS n d p (l ++ m) = .ok b
theorem dg0 : dg 0 = 65 := by decide +kernel
theorem fit_nil {n d p : Nat} (h : Inv n d p) : Fit n d p [] := by
  rcases h with ⟨rfl, hd, hn⟩ | ⟨rfl, rfl, hn⟩
  · have : d = 0 ∨ d = 1 ∨ d = 2 ∨ d = 3 := by omega
    rcases this with rfl | rfl | rfl | rfl
    · exact ⟨[], by simp [mores], [], by rw [List.append_nil, decS, if_neg (by omega)]⟩
    · refine ⟨[65, 65, 65], by simp [mores], ?_⟩
      rw [← dg0, List.nil_append, decS_dg _ _ _ _ (by omega) (by omega), decS_dg _ _ _ _ (by omega) (by omega), decS_dg4 _ _ _ (by omega), decS, if_neg (by omega)]
      exact ⟨_, rfl⟩
    · refine ⟨[65, 65], by simp [mores], ?_⟩
      rw [← dg0, List.nil_append, decS_dg _ _ _ _ (by omega) (by omega), decS_dg4 _ _ _ (by omega), decS, if_neg (by omega)]
      exact ⟨_, rfl⟩
    · refine ⟨[65], by simp [mores], ?_⟩
      rw [← dg0, List.nil_append, decS_dg4 _ _ _ (by omega), decS, if_neg (by omega)]
      exact ⟨_, rfl⟩
  · refine ⟨[61], by simp [mores], ?_⟩
    rw [List.nil_append, decS, tk_pad n 2 1 (by omega) (fun hh => by omega)]
    exact ⟨_, rfl⟩
theorem bad_fit : ∀ (l : List UInt8) (n d p k : Nat), Inv n d p → decS n d p l = .bad k → Fit n d p (l.take k) := by
  intro l
  induction l with
  | nil => intro n d p k hi h; rw [List.take_nil]; exact fit_nil hi
  | cons c r ih =>
    intro n d p k hi h
    rw [decS] at h
    split at h
    · simp only [Res.bad.injEq] at h; subst h; exact fit_nil hi
    · rename_i n' d' p' ht
      have hinv := tk_inv hi ht
      split at h
      · rename_i h4
        split at h
        · rename_i hp
          obtain ⟨j, hj, rfl⟩ := up_bad h
          obtain ⟨m, hm, b, hb⟩ := ih _ _ _ _ (Or.inl ⟨rfl, by omega, by simp⟩) hj
          refine ⟨m, hm, bsOf n' p' ++ b, ?_⟩
          rw [show 1 + j = j + 1 by omega, List.take_succ_cons, List.cons_append, decS, ht]
          simp only
          rw [if_pos h4, if_pos hp, hb]
          rfl
        · rename_i hp
          split at h
          · cases h
          · simp only [Res.bad.injEq] at h
            subst h
            refine ⟨[], by simp [mores], bsOf n' p', ?_⟩
            rw [List.append_nil, List.take_succ_cons, List.take_zero, decS, ht]
            simp only
            rw [if_pos h4, if_neg hp, if_pos trivial]
      · rename_i h4
        obtain ⟨j, hj, rfl⟩ := up_bad h
        obtain ⟨m, hm, b, hb⟩ := ih _ _ _ _ (by rcases hinv with ⟨_, hh⟩ | ⟨hh, _⟩ | ⟨hh, _⟩ | ⟨hh, _⟩; exact hh; all_goals exact absurd hh h4) hj
        refine ⟨m, hm, b, ?_⟩
        rw [show 1 + j = j + 1 by omega, List.take_succ_cons, List.cons_append, decS, ht]
        simp only
        rw [if_neg h4, hb]
        rfl
/-- A prefix of an encoding. -/
theorem enc_take : ∀ (j : Nat) (l : List UInt8), 4 * j ≤ (enc l).length → (enc l).take (4 * j) = enc (l.take (3 * j)) := by
  intro j
  induction j with
  | zero => intro l _; simp [enc]
  | succ j ih =>
    intro l h
    match l, h with
    | [], h => simp [enc] at h
    | [a], h =>
      simp [enc] at h
      obtain rfl : j = 0 := by omega
      simp [enc]
    | [a, b], h =>
      simp [enc] at h
      obtain rfl : j = 0 := by omega
      simp [enc]
    | a :: b :: c :: r, h =>
      simp only [enc, List.length_cons] at h
      have := ih r (by omega)
      rw [show 4 * (j + 1) = 4 * j + 1 + 1 + 1 + 1 by omega, show 3 * (j + 1) = 3 * j + 1 + 1 + 1 by omega]
      simp only [enc, List.take_succ_cons, this]
theorem dec_cut : ∀ (k : Nat) (l : List UInt8), k ≤ (enc l).length → k % 4 ≠ 0 → decS 0 0 0 ((enc l).take k) = .bad k := by
  intro k
  induction k using Nat.strongRecOn with
  | ind k ih =>
    intro l h h4
    match l, h with
    | [], h => simp [enc] at h; omega
    | [a], h =>
      have ha := a.toNat_lt
      have h3 := three_lt a 0 0
      simp [enc] at h
      have : k = 1 ∨ k = 2 ∨ k = 3 := by omega
      have e1 : three a 0 0 = a.toNat * 65536 := by simp [three]
      rcases this with rfl | rfl | rfl
      · simp only [enc, List.take]
        rw [decS_dg _ _ _ _ (by omega) (by omega)]; rfl
      · simp only [enc, List.take]
        rw [decS_dg _ _ _ _ (by omega) (by omega), decS_dg _ _ _ _ (by omega) (by omega)]; rfl
      · simp only [enc, List.take]
        rw [decS_dg _ _ _ _ (by omega) (by omega), decS_dg _ _ _ _ (by omega) (by omega), decS, tk_pad _ _ _ (by omega) (fun _ => by omega)]; rfl
    | [a, b], h =>
      have ha := a.toNat_lt
      have h3 := three_lt a b 0
      simp [enc] at h
      have : k = 1 ∨ k = 2 ∨ k = 3 := by omega
      rcases this with rfl | rfl | rfl
      · simp only [enc, List.take]
        rw [decS_dg _ _ _ _ (by omega) (by omega)]; rfl
      · simp only [enc, List.take]
        rw [decS_dg _ _ _ _ (by omega) (by omega), decS_dg _ _ _ _ (by omega) (by omega)]; rfl
      · simp only [enc, List.take]
        rw [decS_dg _ _ _ _ (by omega) (by omega), decS_dg _ _ _ _ (by omega) (by omega), decS_dg _ _ _ _ (by omega) (by omega)]; rfl
    | a :: b :: c :: r, h =>
      have h3 := three_lt a b c
      simp only [enc, List.length_cons] at h
      rcases Nat.lt_or_ge k 4 with hk | hk
      · have : k = 1 ∨ k = 2 ∨ k = 3 := by omega
        rcases this with rfl | rfl | rfl
        · simp only [enc, List.take]
          rw [decS_dg _ _ _ _ (by omega) (by omega)]; rfl
        · simp only [enc, List.take]
          rw [decS_dg _ _ _ _ (by omega) (by omega), decS_dg _ _ _ _ (by omega) (by omega)]; rfl
        · simp only [enc, List.take]
          rw [decS_dg _ _ _ _ (by omega) (by omega), decS_dg _ _ _ _ (by omega) (by omega), decS_dg _ _ _ _ (by omega) (by omega)]; rfl
      · obtain ⟨j, rfl⟩ : ∃ j, k = j + 1 + 1 + 1 + 1 := ⟨k - 4, by omega⟩
        have e := ih j (by omega) r (by omega) (by omega)
        simp only [enc, List.take_succ_cons]
        rw [decS_dg _ _ _ _ (by omega) (by omega), decS_dg _ _ _ _ (by omega) (by omega), decS_dg _ _ _ _ (by omega) (by omega), decS_dg4 _ _ _ (by omega), e]
        simp only [Res.up]
        congr 1
        omega
end Go.Proofs.Ytcoboifdmpeelaa
