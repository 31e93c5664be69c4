import Derived.Test.YtalegkgonbmaoaaDoorEnc
/- The order of scalar values is the byte order of their encodings. No program in sight. -/
namespace Go.Proofs.YtalegkgonbmaoaaDoor
open Go.Lib
theorem bl_cons (a b : UInt8) (x y : List UInt8) : Op.bytesLess (a :: x) (b :: y) = (decide (a < b) || (a == b && Op.bytesLess x y)) := rfl
theorem bl_lt {a b : UInt8} {x y : List UInt8} (h : a.toNat < b.toNat) : Op.bytesLess (a :: x) (b :: y) = true := by
  rw [bl_cons, decide_eq_true (UInt8.lt_iff_toNat_lt.2 h)]; rfl
theorem bl_eq {a b : UInt8} {x y : List UInt8} (h : a = b) (h2 : Op.bytesLess x y = true) : Op.bytesLess (a :: x) (b :: y) = true := by
  subst h; rw [bl_cons, h2]; simp
theorem bl_irrefl : ∀ a : List UInt8, Op.bytesLess a a = false
  | [] => rfl
  | a :: x => by rw [bl_cons, bl_irrefl x]; simp
theorem bl_asymm : ∀ a b : List UInt8, Op.bytesLess a b = true → Op.bytesLess b a = false
  | [], [], h => by cases h
  | [], _ :: _, _ => rfl
  | _ :: _, [], h => by cases h
  | a :: x, b :: y, h => by
    rw [bl_cons] at h ⊢
    simp only [Bool.or_eq_true, decide_eq_true_eq, Bool.and_eq_true, beq_iff_eq] at h
    simp only [Bool.or_eq_false_iff, decide_eq_false_iff_not, Bool.and_eq_false_iff, beq_eq_false_iff_ne]
    rcases h with h | ⟨rfl, h⟩
    · have h' := UInt8.lt_iff_toNat_lt.1 h
      refine ⟨fun hc => ?_, .inl (fun e => ?_)⟩
      · have := UInt8.lt_iff_toNat_lt.1 hc; omega
      · rw [e] at h'; omega
    · exact ⟨fun hc => by have := UInt8.lt_iff_toNat_lt.1 hc; omega, .inr (bl_asymm x y h)⟩
theorem by8_lt {m n : Nat} (hm : m < 256) (hn : n < 256) (h : m < n) : (by8 m).toNat < (by8 n).toNat := by rw [by8_toNat _ hm, by8_toNat _ hn]; exact h
theorem head_enc {r : Nat} (h : Sc r) : ∃ (a : Nat) (t : List UInt8), encodeRune (r : Int) = by8 a :: t ∧ a < 256 ∧ ((r < 128 ∧ a < 128) ∨ (128 ≤ r ∧ r < 2048 ∧ 194 ≤ a ∧ a < 224) ∨ (2048 ≤ r ∧ r < 65536 ∧ 224 ≤ a ∧ a < 240) ∨ (65536 ≤ r ∧ 240 ≤ a)) := by
  have h' := h
  unfold Sc at h
  by_cases h1 : r < 128
  · exact ⟨_, _, enc1 h1, by omega, by omega⟩
  · by_cases h2 : r < 2048
    · exact ⟨_, _, enc2 (by omega) h2, by omega, by omega⟩
    · by_cases h3 : r < 65536
      · exact ⟨_, _, enc3 h' (by omega) h3, by omega, by omega⟩
      · exact ⟨_, _, enc4 (by omega) (by omega), by omega, by omega⟩
theorem less_enc {a b : Nat} (ha : Sc a) (hb : Sc b) (h : a < b) : Op.bytesLess (encodeRune (a : Int)) (encodeRune (b : Int)) = true := by
  have ha' := ha
  have hb' := hb
  unfold Sc at ha hb
  by_cases hc : (a < 128 ↔ b < 128) ∧ (a < 2048 ↔ b < 2048) ∧ (a < 65536 ↔ b < 65536)
  · obtain ⟨c1, c2, c3⟩ := hc
    by_cases h1 : a < 128
    · rw [enc1 h1, enc1 (by omega)]
      exact bl_lt (by8_lt (by omega) (by omega) h)
    · by_cases h2 : a < 2048
      · rw [enc2 (by omega) h2, enc2 (by omega) (by omega)]
        by_cases e : a / 64 = b / 64
        · exact bl_eq (by rw [e]) (bl_lt (by8_lt (by omega) (by omega) (by omega)))
        · exact bl_lt (by8_lt (by omega) (by omega) (by omega))
      · by_cases h3 : a < 65536
        · rw [enc3 ha' (by omega) h3, enc3 hb' (by omega) (by omega)]
          by_cases e : a / 4096 = b / 4096
          · refine bl_eq (by rw [e]) ?_
            by_cases e2 : a / 64 % 64 = b / 64 % 64
            · exact bl_eq (by rw [e2]) (bl_lt (by8_lt (by omega) (by omega) (by omega)))
            · exact bl_lt (by8_lt (by omega) (by omega) (by omega))
          · exact bl_lt (by8_lt (by omega) (by omega) (by omega))
        · rw [enc4 (by omega) (by omega), enc4 (by omega) (by omega)]
          by_cases e : a / 262144 = b / 262144
          · refine bl_eq (by rw [e]) ?_
            by_cases e1 : a / 4096 % 64 = b / 4096 % 64
            · refine bl_eq (by rw [e1]) ?_
              by_cases e2 : a / 64 % 64 = b / 64 % 64
              · exact bl_eq (by rw [e2]) (bl_lt (by8_lt (by omega) (by omega) (by omega)))
              · exact bl_lt (by8_lt (by omega) (by omega) (by omega))
            · exact bl_lt (by8_lt (by omega) (by omega) (by omega))
          · exact bl_lt (by8_lt (by omega) (by omega) (by omega))
  · obtain ⟨x, s, e1, x1, x2⟩ := head_enc ha'
    obtain ⟨y, t, e2, y1, y2⟩ := head_enc hb'
    rw [e1, e2]
    exact bl_lt (by8_lt x1 y1 (by omega))
theorem order_enc {a b : Nat} (ha : Sc a) (hb : Sc b) : Op.bytesLess (encodeRune (a : Int)) (encodeRune (b : Int)) = decide (a < b) := by
  by_cases h : a < b
  · rw [less_enc ha hb h, decide_eq_true h]
  · rw [decide_eq_false h]
    by_cases e : a = b
    · subst e; exact bl_irrefl _
    · exact bl_asymm _ _ (less_enc hb ha (by omega))
end Go.Proofs.YtalegkgonbmaoaaDoor
