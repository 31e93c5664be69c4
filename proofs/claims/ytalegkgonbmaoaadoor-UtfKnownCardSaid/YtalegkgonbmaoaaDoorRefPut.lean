import Derived.Test.YtalegkgonbmaoaaDoorEnc
import Derived.Test.YtalegkgonbmaoaaDoorPlain
/- The reference's Rune, tail, Put, long: what they answer. -/
set_option linter.unusedVariables false
set_option linter.unusedSimpArgs false
namespace Go.Proofs.YtalegkgonbmaoaaDoor
open Go.RowKit
theorem refRune_any (r : Int) (w : World) : Calls Tryd.prog 39 #[.int .i64 r] w fun e w' => e = .returned (.bool (Lib.validRune r)) ∧ w' = w := by
  unfold Lib.validRune
  by_cases h0 : 0 ≤ r
  · by_cases h1 : r ≤ 1114111
    · by_cases h2 : r < 55296
      · rw [decide_eq_true (by omega)]
        go_enter Tryd.func39, Tryd.ntmps39
        go_wp2
        go_ret
        exact ⟨rfl, rfl⟩
      · by_cases h3 : 57343 < r
        · rw [decide_eq_true (by omega)]
          have h2' : decide (r < 55296) = false := decide_eq_false h2
          clear h2
          go_enter Tryd.func39, Tryd.ntmps39
          go_wp2
          go_ret
          exact ⟨rfl, rfl⟩
        · rw [decide_eq_false (by omega)]
          have h2' : decide (r < 55296) = false := decide_eq_false h2
          have h3' : decide (57343 < r) = false := decide_eq_false h3
          clear h2 h3
          go_enter Tryd.func39, Tryd.ntmps39
          go_wp2
          go_ret
          exact ⟨rfl, rfl⟩
    · rw [decide_eq_false (by omega)]
      have h1' : decide (r ≤ 1114111) = false := decide_eq_false h1
      clear h1
      go_enter Tryd.func39, Tryd.ntmps39
      go_wp2
      go_ret
      exact ⟨rfl, rfl⟩
  · rw [decide_eq_false (by omega)]
    have h0' : decide (0 ≤ r) = false := decide_eq_false h0
    clear h0
    go_enter Tryd.func39, Tryd.ntmps39
    go_wp2
    go_ret
    exact ⟨rfl, rfl⟩
theorem tail_any (n : Nat) (a : UInt8) (ha : by8 (128 + n % 64) = a) (hn : n ≤ 100000000) (w : World) : Calls Tryd.prog 40 #[.int .i64 (n : Int)] w fun e w' => e = .returned (.int .u8 (a.toNat : Int)) ∧ w' = w := by
  have ht : (n : Int).tmod 64 = ((n % 64 : Nat) : Int) := by rw [Int.tmod_eq_emod_of_nonneg (by omega)]; rfl
  have hw : IntKind.u8.wrap (128 + ((n % 64 : Nat) : Int)) = (a.toNat : Int) := by rw [IntKind.wrap_u8, ← ha, by8_toNat _ (by omega)]; omega
  obtain ⟨m, hm⟩ : ∃ m, n % 64 = m := ⟨_, rfl⟩
  rw [hm] at ht hw
  have hem : (n : Int) % 64 = (m : Int) := by omega
  clear ha hm
  go_enter Tryd.func40, Tryd.ntmps40
  go_wp2
  go_ret
  exact ⟨rfl, rfl⟩
def tb (m : Int) : UInt8 := by8 (128 + m.toNat % 64)
theorem tail_z (m : Int) (h0 : 0 ≤ m) (h1 : m ≤ 100000000) (w : World) : Calls Tryd.prog 40 #[.int .i64 m] w fun e w' => e = .returned (.int .u8 ((tb m).toNat : Int)) ∧ w' = w := by
  obtain ⟨n, rfl⟩ : ∃ n : Nat, m = (n : Int) := ⟨m.toNat, by omega⟩
  exact tail_any n (by8 (128 + n % 64)) rfl (by omega) w
theorem bytes_str (w : World) (l : List UInt8) (n : Nat) (hn : l.length = n) (cs : Array Value) (hc : cs = (Lib.byteCells l).toArray) : (convert 48 9 (.slice (some ⟨w.heap.size, 0, none⟩) n n)).run Tryd.prog (w.alloc (.cells cs 5)) = .ok (.string ⟨l.toArray⟩) (w.alloc (.cells cs 5)) :=
  run_str (l := l) (by
    subst hc
    refine ⟨by simp [Lib.byteCells_length, hn], fun _ => ⟨w.heap.size, 0, rfl, by simp, fun k u hu => ?_⟩⟩
    rw [cell_of_row _ _ (0 + k) _ 5 (0, 0) (heap_alloc_last _ _)]
    simpa using hu)
set_option maxRecDepth 100000 in
set_option maxHeartbeats 1000000 in
theorem refPut_any (r : Int) (w : World) (h0 : -2147483648 ≤ r) (h1 : r ≤ 2147483647) : Calls Tryd.prog 22 #[.int .i32 r] w fun e w' => e = .returned (putV r) ∧ Below w.heap.size w w' := by
  have cR := refRune_any r
  unfold putV putZ
  cases hv : Lib.validRune r with
  | false =>
    rw [hv] at cR
    go_enter Tryd.func22, Tryd.ntmps22
    go_wp2_with (go_at_call 39; refine (cR _).mono ?_; rintro e w' ⟨rfl, hw⟩; rw [hw]; clear hw)
    go_ret2
    exact ⟨rfl, Below.refl _ _⟩
  | true =>
    rw [hv] at cR
    simp only [Lib.validRune, decide_eq_true_eq] at hv
    obtain ⟨n, rfl⟩ : ∃ n : Nat, r = (n : Int) := ⟨r.toNat, by omega⟩
    have hs : Sc n := by unfold Sc; omega
    have hnb := Lib.hid (show n ≤ 1114111 by omega)
    by_cases c1 : n < 128
    · have z1 : (n : Int) < 128 := by omega
      obtain ⟨a, ha⟩ : ∃ a, by8 n = a := ⟨_, rfl⟩
      have wa : IntKind.u8.wrap (n : Int) = (a.toNat : Int) := by rw [IntKind.wrap_u8, ← ha, by8_toNat _ (by omega)]; omega
      have hb := fun w => bytes_str w [a] 1 rfl #[.int .u8 (a.toNat : Int)] rfl
      have he : Lib.encodeRune (n : Int) = [a] := by rw [enc1 c1, ha]
      have HE := Lib.hid he
      clear hv hs ha he c1
      go_enter Tryd.func22, Tryd.ntmps22
      go_wp2_with (go_at_call 39; refine (cR _).mono ?_; rintro e w' ⟨rfl, hw⟩; rw [hw]; clear hw)
      go_ret2
      exact ⟨by rw [HE.out]; rfl, (Below.refl _ _).alloc (Nat.le_refl _) _⟩
    · have z1 : decide ((n : Int) < 128) = false := decide_eq_false (by omega)
      have qd : ∀ k : Nat, 0 < k → (n : Int).tdiv (k : Int) = ((n / k : Nat) : Int) := fun k hk => by rw [Int.tdiv_eq_ediv_of_nonneg (by omega)]; rfl
      have q64 : (n : Int).tdiv 64 = ((n / 64 : Nat) : Int) := qd 64 (by decide)
      have q40 : (n : Int).tdiv 4096 = ((n / 4096 : Nat) : Int) := qd 4096 (by decide)
      have q26 : (n : Int).tdiv 262144 = ((n / 262144 : Nat) : Int) := qd 262144 (by decide)
      have e64 : (n : Int) / 64 = ((n / 64 : Nat) : Int) := rfl
      have e40 : (n : Int) / 4096 = ((n / 4096 : Nat) : Int) := rfl
      have e26 : (n : Int) / 262144 = ((n / 262144 : Nat) : Int) := rfl
      by_cases c2 : n < 2048
      · have z2 : (n : Int) < 2048 := by omega
        obtain ⟨x, hx⟩ : ∃ x, n / 64 = x := ⟨_, rfl⟩
        rw [hx] at q64 e64
        obtain ⟨a, ha⟩ : ∃ a, by8 (192 + x) = a := ⟨_, rfl⟩
        obtain ⟨b, hb'⟩ : ∃ b, by8 (128 + n % 64) = b := ⟨_, rfl⟩
        have wa : IntKind.u8.wrap (192 + (x : Int)) = (a.toNat : Int) := by rw [IntKind.wrap_u8, ← ha, by8_toNat _ (by omega)]; omega
        have cT := tail_any n b hb' (by omega)
        have hb := fun w => bytes_str w [a, b] 2 rfl #[.int .u8 (a.toNat : Int), .int .u8 (b.toNat : Int)] rfl
        have he : Lib.encodeRune (n : Int) = [a, b] := by rw [enc2 (by omega) c2, hx, ha, hb']
        have HE := Lib.hid he
        clear hv hs ha he c1 c2 hx hb' q40 q26 qd e40 e26
        go_enter Tryd.func22, Tryd.ntmps22
        go_wp2_with (first | (go_at_call 39; refine (cR _).mono ?_; rintro e w' ⟨rfl, hw⟩; rw [hw]; clear hw) | (go_at_call 40; refine (cT _).mono ?_; rintro e w' ⟨rfl, hw⟩; rw [hw]; clear hw))
        go_ret2
        exact ⟨by rw [HE.out]; rfl, (Below.refl _ _).alloc (Nat.le_refl _) _⟩
      · have z2 : decide ((n : Int) < 2048) = false := decide_eq_false (by omega)
        by_cases c3 : n < 65536
        · have z3 : decide ((n : Int) < 65536) = true := decide_eq_true (by omega)
          obtain ⟨b, hb'⟩ : ∃ b, tb ((n : Int) / 64) = b := ⟨_, rfl⟩
          obtain ⟨c, hc'⟩ : ∃ c, tb (n : Int) = c := ⟨_, rfl⟩
          obtain ⟨a, ha⟩ : ∃ a, by8 (224 + n / 4096) = a := ⟨_, rfl⟩
          have wa : IntKind.u8.wrap (224 + (n : Int) / 4096) = (a.toNat : Int) := by rw [IntKind.wrap_u8, ← ha, by8_toNat _ (by omega)]; omega
          have hb := bytes_str w [a, b, c] 3 rfl #[.int .u8 (a.toNat : Int), .int .u8 (b.toNat : Int), .int .u8 (c.toNat : Int)] rfl
          have HBS := Lib.hid hb
          clear hb
          have he : Lib.encodeRune (n : Int) = [a, b, c] := by rw [enc3 hs (by omega) c3, ha, ← hb', ← hc']; rfl
          have HE := Lib.hid he
          clear hv hs ha he c1 c2 c3 q26 q40 q64 qd e26 e40 e64
          go_enter Tryd.func22, Tryd.ntmps22
          go_wp2_with (first | (go_at_call 39; refine (cR _).mono ?_; rintro e w' ⟨rfl, hw⟩; rw [hw]; clear hw) | (go_at_call 40; refine (tail_z _ (by have := hnb.out; omega) (by have := hnb.out; omega) _).mono ?_; rintro e w' ⟨rfl, hw⟩; rw [hw]; clear hw))
          rw [HBS.out]
          simp only [Result.andThen]
          rw [Oper.upon_value]
          clear z1 z2 z3 wa h0 h1 cR hb' hc'
          go_wp2
          go_ret2
          exact ⟨by rw [HE.out]; rfl, (Below.refl _ _).alloc (Nat.le_refl _) _⟩
        · have z3 : decide ((n : Int) < 65536) = false := decide_eq_false (by omega)
          obtain ⟨b, hb'⟩ : ∃ b, tb ((n : Int) / 4096) = b := ⟨_, rfl⟩
          obtain ⟨c, hc'⟩ : ∃ c, tb ((n : Int) / 64) = c := ⟨_, rfl⟩
          obtain ⟨d, hd'⟩ : ∃ d, tb (n : Int) = d := ⟨_, rfl⟩
          obtain ⟨a, ha⟩ : ∃ a, by8 (240 + n / 262144) = a := ⟨_, rfl⟩
          have wa : IntKind.u8.wrap (240 + (n : Int) / 262144) = (a.toNat : Int) := by rw [IntKind.wrap_u8, ← ha, by8_toNat _ (by omega)]; omega
          have hb := bytes_str w [a, b, c, d] 4 rfl #[.int .u8 (a.toNat : Int), .int .u8 (b.toNat : Int), .int .u8 (c.toNat : Int), .int .u8 (d.toNat : Int)] rfl
          have HBS := Lib.hid hb
          clear hb
          have he : Lib.encodeRune (n : Int) = [a, b, c, d] := by rw [enc4 (by omega) (by omega), ha, ← hb', ← hc', ← hd']; rfl
          have HE := Lib.hid he
          clear hv hs ha he c1 c2 c3 q26 q40 q64 qd e26 e40 e64
          go_enter Tryd.func22, Tryd.ntmps22
          go_wp2_with (first | (go_at_call 39; refine (cR _).mono ?_; rintro e w' ⟨rfl, hw⟩; rw [hw]; clear hw) | (go_at_call 40; refine (tail_z _ (by have := hnb.out; omega) (by have := hnb.out; omega) _).mono ?_; rintro e w' ⟨rfl, hw⟩; rw [hw]; clear hw))
          rw [HBS.out]
          simp only [Result.andThen]
          rw [Oper.upon_value]
          clear z1 z2 z3 wa h0 h1 cR hb' hc' hd'
          go_wp2
          go_ret2
          exact ⟨by rw [HE.out]; rfl, (Below.refl _ _).alloc (Nat.le_refl _) _⟩
def longN (c : Nat) : Nat := if c < 128 then 1 else if 194 ≤ c ∧ c < 224 then 2 else if 224 ≤ c ∧ c < 240 then 3 else if 240 ≤ c ∧ c < 245 then 4 else 0
theorem long_any (c : Nat) (w : World) (hc : c < 256) : Calls Tryd.prog 37 #[.int .u8 (c : Int)] w fun e w' => e = .returned (.int .i64 (longN c : Int)) ∧ w' = w := by
  have hd : ∀ k : Nat, decide ((c : Int) < (k : Int)) = decide (c < k) := fun k => by by_cases h : c < k <;> simp [h] <;> omega
  rcases (show c < 128 ∨ (128 ≤ c ∧ c < 194) ∨ (194 ≤ c ∧ c < 224) ∨ (224 ≤ c ∧ c < 240) ∨ (240 ≤ c ∧ c < 245) ∨ 245 ≤ c by omega) with h | h | h | h | h | h
  · have e : longN c = 1 := by unfold longN; rw [if_pos h]
    rw [e]
    have z : (c : Int) < 128 := by omega
    clear hd h e
    go_enter Tryd.func37, Tryd.ntmps37
    go_wp2
    go_ret
    exact ⟨rfl, rfl⟩
  · have e : longN c = 0 := by unfold longN; rw [if_neg (by omega), if_neg (by omega), if_neg (by omega), if_neg (by omega)]
    rw [e]
    have z : decide ((c : Int) < 128) = false := decide_eq_false (by omega)
    have z1 : decide ((194 : Int) ≤ (c : Int)) = false := decide_eq_false (by omega)
    have z2 : decide ((224 : Int) ≤ (c : Int)) = false := decide_eq_false (by omega)
    have z3 : decide ((240 : Int) ≤ (c : Int)) = false := decide_eq_false (by omega)
    clear hd h e
    go_enter Tryd.func37, Tryd.ntmps37
    go_wp2
    go_ret
    exact ⟨rfl, rfl⟩
  · have e : longN c = 2 := by unfold longN; rw [if_neg (by omega), if_pos h]
    rw [e]
    have z : decide ((c : Int) < 128) = false := decide_eq_false (by omega)
    have z1 : (194 : Int) ≤ (c : Int) := by omega
    have z2 : (c : Int) < 224 := by omega
    clear hd h e
    go_enter Tryd.func37, Tryd.ntmps37
    go_wp2
    go_ret
    exact ⟨rfl, rfl⟩
  · have e : longN c = 3 := by unfold longN; rw [if_neg (by omega), if_neg (by omega), if_pos h]
    rw [e]
    have z : decide ((c : Int) < 128) = false := decide_eq_false (by omega)
    have z1 : (194 : Int) ≤ (c : Int) := by omega
    have z2 : decide ((c : Int) < 224) = false := decide_eq_false (by omega)
    have z3 : (224 : Int) ≤ (c : Int) := by omega
    have z4 : (c : Int) < 240 := by omega
    clear hd h e
    go_enter Tryd.func37, Tryd.ntmps37
    go_wp2
    go_ret
    exact ⟨rfl, rfl⟩
  · have e : longN c = 4 := by unfold longN; rw [if_neg (by omega), if_neg (by omega), if_neg (by omega), if_pos h]
    rw [e]
    have z : decide ((c : Int) < 128) = false := decide_eq_false (by omega)
    have z1 : (194 : Int) ≤ (c : Int) := by omega
    have z2 : decide ((c : Int) < 224) = false := decide_eq_false (by omega)
    have z3 : (224 : Int) ≤ (c : Int) := by omega
    have z4 : decide ((c : Int) < 240) = false := decide_eq_false (by omega)
    have z5 : (240 : Int) ≤ (c : Int) := by omega
    have z6 : (c : Int) < 245 := by omega
    clear hd h e
    go_enter Tryd.func37, Tryd.ntmps37
    go_wp2
    go_ret
    exact ⟨rfl, rfl⟩
  · have e : longN c = 0 := by unfold longN; rw [if_neg (by omega), if_neg (by omega), if_neg (by omega), if_neg (by omega)]
    rw [e]
    have z : decide ((c : Int) < 128) = false := decide_eq_false (by omega)
    have z1 : (194 : Int) ≤ (c : Int) := by omega
    have z2 : decide ((c : Int) < 224) = false := decide_eq_false (by omega)
    have z3 : (224 : Int) ≤ (c : Int) := by omega
    have z4 : decide ((c : Int) < 240) = false := decide_eq_false (by omega)
    have z5 : (240 : Int) ≤ (c : Int) := by omega
    have z6 : decide ((c : Int) < 245) = false := decide_eq_false (by omega)
    clear hd h e
    go_enter Tryd.func37, Tryd.ntmps37
    go_wp2
    go_ret
    exact ⟨rfl, rfl⟩
end Go.Proofs.YtalegkgonbmaoaaDoor
