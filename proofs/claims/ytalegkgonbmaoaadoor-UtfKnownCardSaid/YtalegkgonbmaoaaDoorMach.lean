import Derived.Test.YtalegkgonbmaoaaDoorUnq
/- Laws of the machine. No program in sight. -/
namespace Go.Proofs.YtalegkgonbmaoaaDoor
theorem mach_ok : ∀ (l : List UInt8) (s : St) (k : Nat) (x : List UInt8) (n a : Nat), mach s l k = (x, n, a, 0) → a = 0 ∧ k + 1 ≤ n ∧ n ≤ k + l.length
  | [], s, k, x, n, a, h => by simp [mach] at h
  | c :: t, s, k, x, n, a, h => by
    rw [mach] at h
    cases hs : stepS s c with
    | bad e =>
      rw [hs] at h
      have he := stepS_err hs
      simp only [Prod.mk.injEq] at h
      omega
    | ok s' =>
      rw [hs] at h
      simp only at h
      split at h
      · simp only [Prod.mk.injEq] at h
        simp only [List.length_cons]; omega
      · obtain ⟨h1, h2, h3⟩ := mach_ok t s' (k + 1) x n a h
        simp only [List.length_cons]; omega
theorem unq_ok {l x : List UInt8} {n a : Nat} (h : unq l = (x, n, a, 0)) : a = 0 ∧ 2 ≤ n ∧ n ≤ l.length := by
  obtain ⟨h1, h2, h3⟩ := mach_ok l st0 0 x n a h
  refine ⟨h1, ?_, by omega⟩
  cases l with
  | nil => simp [unq, mach] at h
  | cons c t =>
    unfold unq at h
    rw [mach] at h
    cases hs : stepS st0 c with
    | bad e =>
      rw [hs] at h
      have he := stepS_err hs
      simp only [Prod.mk.injEq] at h
      omega
    | ok s' =>
      rw [hs] at h
      simp only at h
      have h7 : s'.state ≠ 7 := by
        unfold stepS wantS at hs
        simp only [st0, if_true] at hs
        split at hs
        · injection hs with hs; subst hs; simp
        · cases hs
      rw [if_neg h7] at h
      have := mach_ok t s' 1 x n a h
      omega
theorem mach_bad : ∀ (l : List UInt8) (s : St) (k : Nat) (x : List UInt8) (n a e : Nat), mach s l k = (x, n, a, e) → e ≠ 0 →
    x = [] ∧ n = 0 ∧ k ≤ a ∧ a ≤ k + l.length ∧ (e = 3 ↔ a = k + l.length) ∧ mach s (l.take (a - k)) k = ([], 0, a, 3) ∧ (a < k + l.length → ∀ t, mach s (l.take (a - k + 1) ++ t) k = ([], 0, a, e))
  | [], s, k, x, n, a, e, h, _ => by
    simp only [mach, Prod.mk.injEq] at h
    obtain ⟨rfl, rfl, rfl, rfl⟩ := h
    exact ⟨rfl, rfl, by omega, by simp, by simp, by simp [mach], fun h => by simp at h⟩
  | c :: t, s, k, x, n, a, e, h, he => by
    rw [mach] at h
    cases hs : stepS s c with
    | bad e' =>
      rw [hs] at h
      have he' := stepS_err hs
      simp only [Prod.mk.injEq] at h
      obtain ⟨rfl, rfl, rfl, rfl⟩ := h
      refine ⟨rfl, rfl, by omega, by simp, ?_, by simp [mach], fun _ t' => ?_⟩
      · simp only [List.length_cons]; constructor
        · intro h; omega
        · intro h; omega
      · simp only [Nat.sub_self, Nat.zero_add, List.take_succ_cons, List.take_zero, List.cons_append, List.nil_append]
        rw [mach, hs]
    | ok s' =>
      rw [hs] at h
      simp only at h
      split at h
      · simp only [Prod.mk.injEq] at h; omega
      · rename_i h7
        obtain ⟨h1, h2, h3, h4, h5, h6, h8⟩ := mach_bad t s' (k + 1) x n a e h he
        have e1 : a - k = (a - (k + 1)) + 1 := by omega
        refine ⟨h1, h2, by omega, by simp only [List.length_cons]; omega, ?_, ?_, fun hlt t' => ?_⟩
        · rw [h5]; simp only [List.length_cons]; constructor <;> intro h <;> omega
        · rw [e1, List.take_succ_cons, mach, hs]; simp only [h7, if_false]; exact h6
        · rw [e1, List.take_succ_cons, List.cons_append, mach, hs]; simp only [h7, if_false]
          exact h8 (by simp only [List.length_cons] at hlt; omega) t'
theorem unq_bad {l x : List UInt8} {n a e : Nat} (h : unq l = (x, n, a, e)) (he : e ≠ 0) : x = [] ∧ n = 0 ∧ a ≤ l.length ∧ (e = 3 ↔ a = l.length) ∧ unq (l.take a) = ([], 0, a, 3) ∧ (a < l.length → ∀ t, unq (l.take (a + 1) ++ t) = ([], 0, a, e)) := by
  obtain ⟨h1, h2, h3, h4, h5, h6, h7⟩ := mach_bad l st0 0 x n a e h he
  simp only [Nat.zero_add, Nat.sub_zero] at h4 h5 h6 h7
  exact ⟨h1, h2, h4, h5, h6, h7⟩
end Go.Proofs.YtalegkgonbmaoaaDoor
