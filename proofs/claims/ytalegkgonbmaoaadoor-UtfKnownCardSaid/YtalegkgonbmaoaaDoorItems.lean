import Derived.Test.YtalegkgonbmaoaaDoorEnc
/- What the machine makes of one spelled scalar value. No program in sight. -/
set_option linter.unusedVariables false
set_option linter.unusedSimpArgs false
namespace Go.Proofs.YtalegkgonbmaoaaDoor
open Go.Lib
theorem mach_step {s s' : St} {c : UInt8} (h : stepS s c = .ok s') (h7 : s'.state ≠ 7) (t : List UInt8) (k : Nat) : mach s (c :: t) k = mach s' t (k + 1) := by
  rw [mach, h]; simp only [h7, if_false]
/-- At the start of an item, with this text so far. -/
def AtItem (s : St) (out : List UInt8) : Prop := s.state = 1 ∧ s.rune = [] ∧ s.out = out
/-- The bytes l lead from the start of an item to the start of the next, the text grown by x. -/
def Item (l x : List UInt8) : Prop := ∀ s out, AtItem s out → ∃ s', AtItem s' (out ++ x) ∧ ∀ t k, mach s (l ++ t) k = mach s' t (k + l.length)
theorem Item.nil : Item [] [] := fun s out h => ⟨s, by simpa using h, fun t k => by simp⟩
theorem Item.append {l1 l2 x1 x2 : List UInt8} (h1 : Item l1 x1) (h2 : Item l2 x2) : Item (l1 ++ l2) (x1 ++ x2) := by
  intro s out hs
  obtain ⟨s1, a1, m1⟩ := h1 s out hs
  obtain ⟨s2, a2, m2⟩ := h2 s1 _ a1
  refine ⟨s2, by rw [← List.append_assoc]; exact a2, fun t k => ?_⟩
  rw [List.append_assoc, m1, m2, List.length_append, Nat.add_assoc]
/-- A literal reads as its text. -/
theorem Item.whole {l x : List UInt8} (h : Item l x) (t : List UInt8) : unq ([34] ++ l ++ [34] ++ t) = (x, l.length + 2, 0, 0) := by
  unfold unq
  have e1 : stepS st0 34 = .ok { st0 with state := 1, many := 0, n := 0 } := rfl
  rw [show [34] ++ l ++ [34] ++ t = (34 : UInt8) :: (l ++ (34 :: t)) by simp, mach_step e1 (by decide)]
  obtain ⟨s', ⟨h1, h2, h3⟩, hm⟩ := h { st0 with state := 1, many := 0, n := 0 } [] ⟨rfl, rfl, rfl⟩
  rw [hm, mach]
  have e2 : stepS s' 34 = .ok { s' with state := 7 } := by unfold stepS; rw [h1]; simp [beginS, h2]
  rw [e2]
  simp only [if_true, h3, List.nil_append]
  simp only [Prod.mk.injEq, true_and, and_true]
  omega
/-! the items -/
theorem take_len (l : List UInt8) : l.take l.length = l := List.take_length
theorem item_short {c : UInt8} {v : Nat} (h : escv c = some v) : Item [92, c] (encodeRune (v : Int)) := by
  rintro ⟨st, o, ru, m, n, f⟩ out ⟨rfl, rfl, rfl⟩
  refine ⟨putS ⟨2, o, [], m, n, f⟩ v, ⟨rfl, rfl, rfl⟩, fun t k => ?_⟩
  simp only [List.cons_append, List.nil_append, List.length_cons, List.length_nil]
  rw [mach_step (s' := ⟨2, o, [], m, n, f⟩) rfl (by simp), mach_step (s' := putS ⟨2, o, [], m, n, f⟩ v) (by unfold stepS escapeS; simp [h]) (by simp [putS])]
theorem plain_last {o ru : List UInt8} {m n f r : Nat} {c : UInt8} (hn : nxt (ru ++ [c]) = some (r, (ru ++ [c]).length)) (hc : ru ≠ [] ∨ (c.toNat ≠ 34 ∧ c.toNat ≠ 92 ∧ ¬ c.toNat < 32)) :
    stepS ⟨1, o, ru, m, n, f⟩ c = .ok ⟨1, o ++ (ru ++ [c]), [], m, n, f⟩ := by
  have hp : plainS ⟨1, o, ru, m, n, f⟩ c = .ok ⟨1, o ++ (ru ++ [c]), [], m, n, f⟩ := by unfold plainS; simp only [hn, take_len]
  unfold stepS beginS
  simp only [Nat.reduceEqDiff, if_false, if_true]
  rcases hc with hc | ⟨h1, h2, h3⟩
  · rw [if_pos hc, hp]
  · by_cases hr : ru = []
    · rw [if_neg (by simp [hr]), if_neg h1, if_neg h2, if_neg h3, hp]
    · rw [if_pos hr, hp]
theorem plain_more {o ru : List UInt8} {m n f : Nat} {c : UInt8} (hn : nxt (ru ++ [c]) = none ∧ full (ru ++ [c]) = false) (hc : ru ≠ [] ∨ (c.toNat ≠ 34 ∧ c.toNat ≠ 92 ∧ ¬ c.toNat < 32)) :
    stepS ⟨1, o, ru, m, n, f⟩ c = .ok ⟨1, o, ru ++ [c], m, n, f⟩ := by
  have hp : plainS ⟨1, o, ru, m, n, f⟩ c = .ok ⟨1, o, ru ++ [c], m, n, f⟩ := by unfold plainS; simp only [hn.1, hn.2]; rfl
  unfold stepS beginS
  simp only [Nat.reduceEqDiff, if_false, if_true]
  rcases hc with hc | ⟨h1, h2, h3⟩
  · rw [if_pos hc, hp]
  · by_cases hr : ru = []
    · rw [if_neg (by simp [hr]), if_neg h1, if_neg h2, if_neg h3, hp]
    · rw [if_pos hr, hp]
theorem item_plain {r : Nat} (h : Sc r) (h32 : 32 ≤ r) (h34 : r ≠ 34) (h92 : r ≠ 92) : Item (encodeRune (r : Int)) (encodeRune (r : Int)) := by
  have hN := nxt_enc h []
  rw [List.append_nil] at hN
  have h' := h
  unfold Sc at h
  rintro ⟨st, o, ru, m, n, f⟩ out ⟨rfl, rfl, rfl⟩
  by_cases h1 : r < 128
  · rw [enc1 h1] at hN ⊢
    refine ⟨⟨1, o ++ [by8 r], [], m, n, f⟩, ⟨rfl, rfl, rfl⟩, fun t k => ?_⟩
    exact mach_step (plain_last (ru := []) hN (Or.inr (by rw [by8_toNat _ (by omega)]; omega))) (by simp) t k
  · by_cases h2 : r < 2048
    · rw [enc2 (by omega) h2] at hN ⊢
      have ha := by8_toNat (192 + r / 64) (by omega)
      have p1 := part1 (a := by8 (192 + r / 64)) (by omega) (by omega)
      refine ⟨⟨1, o ++ [by8 (192 + r / 64), by8 (128 + r % 64)], [], m, n, f⟩, ⟨rfl, rfl, rfl⟩, fun t k => ?_⟩
      rw [List.cons_append, mach_step (plain_more (ru := []) p1 (Or.inr (by omega))) (by simp)]
      simp only [List.nil_append, List.cons_append]
      rw [mach_step (plain_last (ru := [by8 (192 + r / 64)]) hN (Or.inl (by simp))) (by simp)]
      rfl
    · by_cases h3 : r < 65536
      · rw [enc3 h' (by omega) h3] at hN ⊢
        have ha := by8_toNat (224 + r / 4096) (by omega)
        have hb := by8_toNat (128 + r / 64 % 64) (by omega)
        have p1 := part1 (a := by8 (224 + r / 4096)) (by omega) (by omega)
        have p2 := part2 (a := by8 (224 + r / 4096)) (b := by8 (128 + r / 64 % 64)) (by omega) (by omega) (by omega) (by omega)
        refine ⟨⟨1, o ++ [by8 (224 + r / 4096), by8 (128 + r / 64 % 64), by8 (128 + r % 64)], [], m, n, f⟩, ⟨rfl, rfl, rfl⟩, fun t k => ?_⟩
        rw [List.cons_append, mach_step (plain_more (ru := []) p1 (Or.inr (by omega))) (by simp)]
        simp only [List.nil_append, List.cons_append]
        rw [mach_step (plain_more (ru := [by8 (224 + r / 4096)]) p2 (Or.inl (by simp))) (by simp)]
        simp only [List.nil_append, List.cons_append]
        rw [mach_step (plain_last (ru := [by8 (224 + r / 4096), by8 (128 + r / 64 % 64)]) hN (Or.inl (by simp))) (by simp)]
        rfl
      · rw [enc4 (by omega) (by omega)] at hN ⊢
        have ha := by8_toNat (240 + r / 262144) (by omega)
        have hb := by8_toNat (128 + r / 4096 % 64) (by omega)
        have hc := by8_toNat (128 + r / 64 % 64) (by omega)
        have p1 := part1 (a := by8 (240 + r / 262144)) (by omega) (by omega)
        have p2 := part2 (a := by8 (240 + r / 262144)) (b := by8 (128 + r / 4096 % 64)) (by omega) (by omega) (by omega) (by omega)
        have p3 := part3 (a := by8 (240 + r / 262144)) (b := by8 (128 + r / 4096 % 64)) (c := by8 (128 + r / 64 % 64)) (by omega) (by omega) (by omega) (by omega) (by omega)
        refine ⟨⟨1, o ++ [by8 (240 + r / 262144), by8 (128 + r / 4096 % 64), by8 (128 + r / 64 % 64), by8 (128 + r % 64)], [], m, n, f⟩, ⟨rfl, rfl, rfl⟩, fun t k => ?_⟩
        rw [List.cons_append, mach_step (plain_more (ru := []) p1 (Or.inr (by omega))) (by simp)]
        simp only [List.nil_append, List.cons_append]
        rw [mach_step (plain_more (ru := [by8 (240 + r / 262144)]) p2 (Or.inl (by simp))) (by simp)]
        simp only [List.nil_append, List.cons_append]
        rw [mach_step (plain_more (ru := [by8 (240 + r / 262144), by8 (128 + r / 4096 % 64)]) p3 (Or.inl (by simp))) (by simp)]
        simp only [List.nil_append, List.cons_append]
        rw [mach_step (plain_last (ru := [by8 (240 + r / 262144), by8 (128 + r / 4096 % 64), by8 (128 + r / 64 % 64)]) hN (Or.inl (by simp))) (by simp)]
        rfl
theorem d_more {st m N f k : Nat} {o : List UInt8} {d : UInt8} (hs : st = 3 ∨ st = 6) (hk : hexv d = some k) (hb : ¬ digitBad st (m + 1) ((N * 16 + k) * 16 ^ (4 - (m + 1)))) (hm : m + 1 < 4) : stepS ⟨st, o, [], m, N, f⟩ d = .ok ⟨st, o, [], m + 1, N * 16 + k, f⟩ := by
  rcases hs with rfl | rfl
  · simp only [stepS, digitS, hk]
    rw [if_neg (by decide), if_neg (by decide), if_neg (by decide), if_neg (by decide), if_neg (by decide), if_neg hb, if_pos hm]
  · simp only [stepS, digitS, hk]
    rw [if_neg (by decide), if_neg (by decide), if_neg (by decide), if_neg (by decide), if_neg (by decide), if_neg hb, if_pos hm]
theorem d_last {N f k : Nat} {o : List UInt8} {d : UInt8} (hk : hexv d = some k) (hb : ¬ digitBad 3 4 ((N * 16 + k) * 16 ^ (4 - 4))) (hh : ¬ (55296 ≤ N * 16 + k ∧ N * 16 + k < 56320)) : stepS ⟨3, o, [], 3, N, f⟩ d = .ok ⟨1, o ++ encodeRune ((N * 16 + k : Nat) : Int), [], 4, N * 16 + k, f⟩ := by
  simp only [stepS, digitS, hk]
  rw [if_neg (by decide), if_neg (by decide), if_neg (by decide), if_neg (by decide), if_neg (by decide), if_neg hb, if_neg (by decide), if_neg (by decide), if_neg hh]
  rfl
theorem d_high {N f k : Nat} {o : List UInt8} {d : UInt8} (hk : hexv d = some k) (hb : ¬ digitBad 3 4 ((N * 16 + k) * 16 ^ (4 - 4))) (hh : 55296 ≤ N * 16 + k ∧ N * 16 + k < 56320) : stepS ⟨3, o, [], 3, N, f⟩ d = .ok ⟨4, o, [], 4, N * 16 + k, N * 16 + k⟩ := by
  simp only [stepS, digitS, hk]
  rw [if_neg (by decide), if_neg (by decide), if_neg (by decide), if_neg (by decide), if_neg (by decide), if_neg hb, if_neg (by decide), if_neg (by decide), if_pos hh]
theorem d_low {N f k : Nat} {o : List UInt8} {d : UInt8} (hk : hexv d = some k) (hb : ¬ digitBad 6 4 ((N * 16 + k) * 16 ^ (4 - 4))) : stepS ⟨6, o, [], 3, N, f⟩ d = .ok ⟨1, o ++ encodeRune ((65536 + (f - 55296) * 1024 + (N * 16 + k) - 56320 : Nat) : Int), [], 4, N * 16 + k, f⟩ := by
  simp only [stepS, digitS, hk]
  rw [if_neg (by decide), if_neg (by decide), if_neg (by decide), if_neg (by decide), if_neg (by decide), if_neg hb, if_neg (by decide), if_pos trivial]
  rfl
theorem item_hex {d1 d2 d3 d4 : UInt8} {k1 k2 k3 k4 r : Nat} (h1 : hexv d1 = some k1) (h2 : hexv d2 = some k2) (h3 : hexv d3 = some k3) (h4 : hexv d4 = some k4) (hr : ((k1 * 16 + k2) * 16 + k3) * 16 + k4 = r) (hs : Sc r) : Item [92, 117, d1, d2, d3, d4] (encodeRune (r : Int)) := by
  have l1 := hexv_lt h1
  have l2 := hexv_lt h2
  have l3 := hexv_lt h3
  have l4 := hexv_lt h4
  unfold Sc at hs
  rintro ⟨st, o, ru, m, n, f⟩ out ⟨rfl, rfl, rfl⟩
  refine ⟨⟨1, o ++ encodeRune (r : Int), [], 4, r, f⟩, ⟨rfl, rfl, rfl⟩, fun t k => ?_⟩
  simp only [List.cons_append, List.nil_append, List.length_cons, List.length_nil]
  rw [mach_step (s' := ⟨2, o, [], m, n, f⟩) rfl (by simp), mach_step (s' := ⟨3, o, [], 0, 0, f⟩) rfl (by simp),
    mach_step (d_more (m := 0) (Or.inl rfl) h1 (by simp only [digitBad, isLow, Nat.reduceSub, Nat.reduceAdd, Nat.reducePow, true_and]; omega) (by decide)) (by simp),
    mach_step (d_more (m := 1) (Or.inl rfl) h2 (by simp only [digitBad, isLow, Nat.reduceSub, Nat.reduceAdd, Nat.reducePow, true_and]; omega) (by decide)) (by simp),
    mach_step (d_more (m := 2) (Or.inl rfl) h3 (by simp only [digitBad, isLow, Nat.reduceSub, Nat.reduceAdd, Nat.reducePow, true_and]; omega) (by decide)) (by simp),
    mach_step (d_last h4 (by simp only [digitBad, isLow, Nat.reduceSub, Nat.reduceAdd, Nat.reducePow, true_and]; omega) (by omega)) (by simp)]
  simp only [Nat.zero_mul, Nat.zero_add, hr]
theorem item_pair {d1 d2 d3 d4 e1 e2 e3 e4 : UInt8} {k1 k2 k3 k4 m1 m2 m3 m4 hi lo r : Nat} (h1 : hexv d1 = some k1) (h2 : hexv d2 = some k2) (h3 : hexv d3 = some k3) (h4 : hexv d4 = some k4) (g1 : hexv e1 = some m1) (g2 : hexv e2 = some m2) (g3 : hexv e3 = some m3) (g4 : hexv e4 = some m4)
    (hh : ((k1 * 16 + k2) * 16 + k3) * 16 + k4 = hi) (hl : ((m1 * 16 + m2) * 16 + m3) * 16 + m4 = lo) (h5 : 55296 ≤ hi) (h6 : hi < 56320) (h7 : 56320 ≤ lo) (h8 : lo < 57344) (hr : 65536 + (hi - 55296) * 1024 + lo - 56320 = r) : Item [92, 117, d1, d2, d3, d4, 92, 117, e1, e2, e3, e4] (encodeRune (r : Int)) := by
  have l1 := hexv_lt h1
  have l2 := hexv_lt h2
  have l3 := hexv_lt h3
  have l4 := hexv_lt h4
  have w1 := hexv_lt g1
  have w2 := hexv_lt g2
  have w3 := hexv_lt g3
  have w4 := hexv_lt g4
  rintro ⟨st, o, ru, m, n, f⟩ out ⟨rfl, rfl, rfl⟩
  refine ⟨⟨1, o ++ encodeRune (r : Int), [], 4, lo, hi⟩, ⟨rfl, rfl, rfl⟩, fun t k => ?_⟩
  simp only [List.cons_append, List.nil_append, List.length_cons, List.length_nil]
  rw [mach_step (s' := ⟨2, o, [], m, n, f⟩) rfl (by simp), mach_step (s' := ⟨3, o, [], 0, 0, f⟩) rfl (by simp),
    mach_step (d_more (m := 0) (Or.inl rfl) h1 (by simp only [digitBad, isLow, Nat.reduceSub, Nat.reduceAdd, Nat.reducePow, true_and]; omega) (by decide)) (by simp),
    mach_step (d_more (m := 1) (Or.inl rfl) h2 (by simp only [digitBad, isLow, Nat.reduceSub, Nat.reduceAdd, Nat.reducePow, true_and]; omega) (by decide)) (by simp),
    mach_step (d_more (m := 2) (Or.inl rfl) h3 (by simp only [digitBad, isLow, Nat.reduceSub, Nat.reduceAdd, Nat.reducePow, true_and]; omega) (by decide)) (by simp),
    mach_step (d_high h4 (by simp only [digitBad, isLow, Nat.reduceSub, Nat.reduceAdd, Nat.reducePow, true_and]; omega) (by omega)) (by simp)]
  simp only [Nat.zero_mul, Nat.zero_add, hh]
  rw [mach_step (s' := ⟨5, o, [], 0, 0, hi⟩) rfl (by simp), mach_step (s' := ⟨6, o, [], 0, 0, hi⟩) rfl (by simp),
    mach_step (d_more (m := 0) (Or.inr rfl) g1 (by simp only [digitBad, isLow, Nat.reduceSub, Nat.reduceAdd, Nat.reducePow, true_and]; omega) (by decide)) (by simp),
    mach_step (d_more (m := 1) (Or.inr rfl) g2 (by simp only [digitBad, isLow, Nat.reduceSub, Nat.reduceAdd, Nat.reducePow, true_and]; omega) (by decide)) (by simp),
    mach_step (d_more (m := 2) (Or.inr rfl) g3 (by simp only [digitBad, isLow, Nat.reduceSub, Nat.reduceAdd, Nat.reducePow, true_and]; omega) (by decide)) (by simp),
    mach_step (d_low g4 (by simp only [digitBad, isLow, Nat.reduceSub, Nat.reduceAdd, Nat.reducePow, true_and]; omega)) (by simp)]
  simp only [Nat.zero_mul, Nat.zero_add, hl, hr]
theorem hexd_fin2 : ∀ k : Fin 16, hexv (hexd k.val) = some k.val := by decide +kernel
theorem hexd_v (k : Nat) (h : k < 16) : hexv (hexd k) = some k := hexd_fin2 ⟨k, h⟩
theorem item_quote {r : Nat} (h : Sc r) : Item (quoteOne r) (encodeRune (r : Int)) := by
  unfold quoteOne
  by_cases h1 : r = 34
  · subst h1; exact item_short (c := 34) rfl
  rw [if_neg h1]
  by_cases h2 : r = 92
  · subst h2; exact item_short (c := 92) rfl
  rw [if_neg h2]
  by_cases h3 : r = 8
  · subst h3; exact item_short (c := 98) rfl
  rw [if_neg h3]
  by_cases h4 : r = 12
  · subst h4; exact item_short (c := 102) rfl
  rw [if_neg h4]
  by_cases h5 : r = 10
  · subst h5; exact item_short (c := 110) rfl
  rw [if_neg h5]
  by_cases h6 : r = 13
  · subst h6; exact item_short (c := 114) rfl
  rw [if_neg h6]
  by_cases h7 : r = 9
  · subst h7; exact item_short (c := 116) rfl
  rw [if_neg h7]
  by_cases h8 : r < 32
  · rw [if_pos h8]
    exact item_hex (k1 := 0) (k2 := 0) rfl rfl (hexd_v (r / 16) (by omega)) (hexd_v (r % 16) (by omega)) (by omega) h
  · rw [if_neg h8]
    exact item_plain h (by omega) h1 h2
theorem items_quote : ∀ rs : List Nat, (∀ r ∈ rs, Sc r) → Item (rs.flatMap quoteOne) (encs rs)
  | [], _ => Item.nil
  | r :: rs, h => by
    rw [encs_cons, List.flatMap_cons]
    exact (item_quote (h r (by simp))).append (items_quote rs (fun x hx => h x (by simp [hx])))
/-- The short literal of a text, whatever follows. -/
theorem unq_quote (rs : List Nat) (h : ∀ r ∈ rs, Sc r) (t : List UInt8) : quoteA (encs rs) = ([34] ++ rs.flatMap quoteOne ++ [34], 0) ∧ unq ([34] ++ rs.flatMap quoteOne ++ [34] ++ t) = (encs rs, ([34] ++ rs.flatMap quoteOne ++ [34]).length, 0, 0) := by
  constructor
  · unfold quoteA; rw [valid_encs rs h, quote_encs rs h]; rfl
  · rw [(items_quote rs h).whole t]
    simp
end Go.Proofs.YtalegkgonbmaoaaDoor
