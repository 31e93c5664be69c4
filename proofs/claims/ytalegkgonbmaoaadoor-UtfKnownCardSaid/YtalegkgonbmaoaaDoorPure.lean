import Derived.Lib.MapLaws
import Derived.Lib.RuneBytes
import Derived.Lib.DecodeN
/- What the reader and the decoder compute, in plain words over lists of bytes. No program in sight. -/
namespace Go.Proofs.YtalegkgonbmaoaaDoor
open Go.Lib
/-- The scalar value at the start, and its width. -/
def nxt (l : List UInt8) : Option (Nat × Nat) :=
  if l = [] then none else if (decodeL l).1 = 65533 ∧ (decodeL l).2 = 1 then none else some (decodeL l)
/-- utf8.FullRune. -/
def full (l : List UInt8) : Bool :=
  decide (l ≠ [] ∧ (firstT (l.getD 0 0).toNat % 8 ≤ l.length ∨ (1 < l.length ∧ ((l.getD 1 0).toNat < accLo (firstT (l.getD 0 0).toNat / 16) ∨ accHi (firstT (l.getD 0 0).toNat / 16) < (l.getD 1 0).toNat)) ∨ (2 < l.length ∧ ((l.getD 2 0).toNat < 128 ∨ 191 < (l.getD 2 0).toNat))))
/-- The reader. -/
structure St where
  state : Nat
  out : List UInt8
  rune : List UInt8
  many : Nat
  n : Nat
  first : Nat
inductive Out where
  | bad (e : Nat)
  | ok (s : St)
def hexv (c : UInt8) : Option Nat :=
  if 48 ≤ c.toNat ∧ c.toNat ≤ 57 then some (c.toNat - 48) else if 97 ≤ c.toNat ∧ c.toNat ≤ 102 then some (c.toNat - 87) else if 65 ≤ c.toNat ∧ c.toNat ≤ 70 then some (c.toNat - 55) else none
def escv (c : UInt8) : Option Nat :=
  if c.toNat = 34 then some 34 else if c.toNat = 92 then some 92 else if c.toNat = 47 then some 47 else if c.toNat = 98 then some 8 else if c.toNat = 102 then some 12
  else if c.toNat = 110 then some 10 else if c.toNat = 114 then some 13 else if c.toNat = 116 then some 9 else none
def wantS (s : St) (c : UInt8) (must next : Nat) : Out := if c.toNat = must then .ok { s with state := next, many := 0, n := 0 } else .bad 41
def plainS (s : St) (c : UInt8) : Out :=
  match nxt (s.rune ++ [c]) with
  | some p => .ok { s with out := s.out ++ (s.rune ++ [c]).take p.2, rune := [] }
  | none => if full (s.rune ++ [c]) then .bad 40 else .ok { s with rune := s.rune ++ [c] }
def beginS (s : St) (c : UInt8) : Out :=
  if s.rune ≠ [] then plainS s c
  else if c.toNat = 34 then .ok { s with state := 7 }
  else if c.toNat = 92 then .ok { s with state := 2 }
  else if c.toNat < 32 then .bad 41
  else plainS s c
def putS (s : St) (r : Nat) : St := { s with state := 1, out := s.out ++ encodeRune (r : Int) }
def escapeS (s : St) (c : UInt8) : Out :=
  match escv c with
  | some r => .ok (putS s r)
  | none => if c.toNat = 117 then .ok { s with state := 3, many := 0, n := 0 } else .bad 41
def isLow (many up : Nat) : Prop := 1 < many ∧ 56320 ≤ up ∧ up < 57344
instance (many up : Nat) : Decidable (isLow many up) := by unfold isLow; infer_instance
def digitBad (state many up : Nat) : Prop := (state = 3 ∧ isLow many up) ∨ (state = 6 ∧ ((many = 1 ∧ up ≠ 53248) ∨ (1 < many ∧ ¬ isLow many up)))
instance (state many up : Nat) : Decidable (digitBad state many up) := by unfold digitBad; infer_instance
def digitS (s : St) (c : UInt8) : Out :=
  match hexv c with
  | none => .bad 41
  | some k =>
    if digitBad s.state (s.many + 1) ((s.n * 16 + k) * 16 ^ (4 - (s.many + 1))) then .bad 41
    else if s.many + 1 < 4 then .ok { s with many := s.many + 1, n := s.n * 16 + k }
    else if s.state = 6 then .ok (putS { s with many := s.many + 1, n := s.n * 16 + k } (65536 + (s.first - 55296) * 1024 + (s.n * 16 + k) - 56320))
    else if 55296 ≤ s.n * 16 + k ∧ s.n * 16 + k < 56320 then .ok { s with state := 4, first := s.n * 16 + k, many := s.many + 1, n := s.n * 16 + k }
    else .ok (putS { s with many := s.many + 1, n := s.n * 16 + k } (s.n * 16 + k))
def stepS (s : St) (c : UInt8) : Out :=
  if s.state = 0 then wantS s c 34 1
  else if s.state = 1 then beginS s c
  else if s.state = 2 then escapeS s c
  else if s.state = 4 then wantS s c 92 5
  else if s.state = 5 then wantS s c 117 6
  else digitS s c
/-- What holds of the reader between two bytes. -/
structure Inv (s : St) : Prop where
  st : s.state ≤ 6
  many : s.state = 3 ∨ s.state = 6 → s.many < 4 ∧ s.n < 16 ^ s.many
  first : s.state = 4 ∨ s.state = 5 ∨ s.state = 6 → 55296 ≤ s.first ∧ s.first < 56320
  low : s.state = 6 → (1 ≤ s.many → 13 * 16 ^ (s.many - 1) ≤ s.n ∧ s.n < 14 * 16 ^ (s.many - 1)) ∧ (2 ≤ s.many → 220 * 16 ^ (s.many - 2) ≤ s.n ∧ s.n < 224 * 16 ^ (s.many - 2))
def st0 : St := ⟨0, [], [], 0, 0, 0⟩
/-- What Unquote answers: text, n, at, error. -/
abbrev Ans := List UInt8 × Nat × Nat × Nat
def mach : St → List UInt8 → Nat → Ans
  | _, [], k => ([], 0, k, 3)
  | s, c :: t, k =>
    match stepS s c with
    | .bad e => ([], 0, k, e)
    | .ok s' => if s'.state = 7 then (s'.out, k + 1, 0, 0) else mach s' t (k + 1)
def unq (l : List UInt8) : Ans := mach st0 l 0
/-- What Put answers. -/
def putZ (r : Int) : List UInt8 × Bool := if validRune r then (encodeRune r, true) else ([], false)
/-- What Quote writes for one scalar value. -/
def hexd (n : Nat) : UInt8 := ([48, 49, 50, 51, 52, 53, 54, 55, 56, 57, 97, 98, 99, 100, 101, 102] : List UInt8).getD n 0
def quoteOne (r : Nat) : List UInt8 :=
  if r = 34 then [92, 34] else if r = 92 then [92, 92] else if r = 8 then [92, 98] else if r = 12 then [92, 102] else if r = 10 then [92, 110] else if r = 13 then [92, 114] else if r = 9 then [92, 116]
  else if r < 32 then [92, 117, 48, 48, hexd (r / 16), hexd (r % 16)]
  else encodeRune (r : Int)
theorem st0_inv : Inv st0 := ⟨by decide, by intro h; simp [st0] at h, by intro h; simp [st0] at h, by intro h; simp [st0] at h⟩
theorem wantS_inv {s s' : St} {c : UInt8} {m k : Nat} (hs : Inv s) (hk : k = 1 ∨ (k = 5 ∧ s.state = 4) ∨ (k = 6 ∧ s.state = 5)) (h : wantS s c m k = .ok s') : Inv s' := by
  unfold wantS at h
  split at h
  · injection h with h; subst h
    refine ⟨by simp only; omega, fun _ => ⟨by simp, by simp⟩, fun h => hs.first (by simp only at h; omega), fun _ => ⟨fun h => by simp at h, fun h => by simp at h⟩⟩
  · cases h
theorem plainS_inv {s s' : St} {c : UInt8} (hs : Inv s) (h1 : s.state = 1) (h : plainS s c = .ok s') : Inv s' ∧ s'.state = 1 := by
  unfold plainS at h
  split at h
  · injection h with h; subst h
    exact ⟨⟨hs.st, hs.many, hs.first, hs.low⟩, h1⟩
  · split at h
    · cases h
    · injection h with h; subst h
      exact ⟨⟨hs.st, hs.many, hs.first, hs.low⟩, h1⟩
theorem putS_inv {s : St} {r : Nat} : Inv (putS s r) := by
  refine ⟨by simp [putS], ?_, ?_, ?_⟩ <;> intro h <;> simp [putS] at h
theorem beginS_inv {s s' : St} {c : UInt8} (hs : Inv s) (h1 : s.state = 1) (h : beginS s c = .ok s') : s'.state = 7 ∨ Inv s' := by
  unfold beginS at h
  split at h
  · exact .inr (plainS_inv hs h1 h).1
  · split at h
    · injection h with h; subst h; exact .inl rfl
    · split at h
      · injection h with h; subst h
        refine .inr ⟨by simp, ?_, ?_, ?_⟩ <;> intro h <;> simp at h
      · split at h
        · cases h
        · exact .inr (plainS_inv hs h1 h).1
theorem escapeS_inv {s s' : St} {c : UInt8} (h : escapeS s c = .ok s') : Inv s' := by
  unfold escapeS at h
  split at h
  · injection h with h; subst h; exact putS_inv
  · split at h
    · injection h with h; subst h
      refine ⟨by simp, fun _ => ⟨by simp, by simp⟩, ?_, ?_⟩ <;> intro h <;> simp at h
    · cases h
theorem hexv_lt {c : UInt8} {k : Nat} (h : hexv c = some k) : k < 16 := by
  unfold hexv at h
  repeat' split at h
  all_goals first | (injection h with h; omega) | cases h
theorem pow4 (m : Nat) (h : m < 5) : m = 0 ∨ m = 1 ∨ m = 2 ∨ m = 3 ∨ m = 4 := by omega
theorem digitS_inv {s s' : St} {c : UInt8} (hs : Inv s) (h1 : s.state = 3 ∨ s.state = 6) (h : digitS s c = .ok s') : Inv s' := by
  unfold digitS at h
  split at h
  · cases h
  · rename_i k hk
    have hk := hexv_lt hk
    obtain ⟨hm, hn⟩ := hs.many h1
    split at h
    · cases h
    · rename_i hb
      split at h
      · rename_i h4
        injection h with h; subst h
        refine ⟨hs.st, fun _ => ⟨h4, ?_⟩, hs.first, fun h6 => ?_⟩
        · simp only; rw [Nat.pow_succ]; omega
        · simp only at h6 ⊢
          have hl := hs.low h6
          simp only [digitBad, isLow, h6, not_or, not_and, Nat.reduceEqDiff, false_and, not_false_eq_true, true_and] at hb
          obtain ⟨hb1, hb2⟩ := hb
          rcases pow4 s.many (by omega) with hm' | hm' | hm' | hm' | hm' <;> rw [hm'] at hl hn hb1 hb2 h4 ⊢ <;> simp at hl hn hb1 hb2 h4 ⊢ <;> omega
      · split at h
        · injection h with h; subst h; exact putS_inv
        · split at h
          · rename_i hh
            injection h with h; subst h
            refine ⟨by simp, ?_, fun _ => hh, ?_⟩ <;> intro h <;> simp at h
          · injection h with h; subst h; exact putS_inv
theorem stepS_inv {s s' : St} {c : UInt8} (hs : Inv s) (h : stepS s c = .ok s') : s'.state = 7 ∨ Inv s' := by
  have h6 := hs.st
  unfold stepS at h
  split at h
  · exact .inr (wantS_inv hs (by omega) h)
  · split at h
    · rename_i h1
      exact beginS_inv hs h1 h
    · split at h
      · exact .inr (escapeS_inv h)
      · split at h
        · exact .inr (wantS_inv hs (by omega) h)
        · split at h
          · exact .inr (wantS_inv hs (by omega) h)
          · exact .inr (digitS_inv hs (by omega) h)
end Go.Proofs.YtalegkgonbmaoaaDoor
