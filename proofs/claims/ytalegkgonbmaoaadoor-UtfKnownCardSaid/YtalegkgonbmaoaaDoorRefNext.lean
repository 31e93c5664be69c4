import Derived.Test.YtalegkgonbmaoaaDoorRefPut
import Derived.Test.YtalegkgonbmaoaaDoorQuote
import Derived.BigRegion
/- The reference's Next: it answers what the program's Next answers. -/
set_option linter.unusedVariables false
set_option linter.unusedSimpArgs false
namespace Go.Proofs.YtalegkgonbmaoaaDoor
open Go.RowKit
def valR (l : List UInt8) (n : Nat) : Nat :=
  if n = 1 then (l.getD 0 0).toNat
  else if n = 2 then ((l.getD 0 0).toNat - 192) * 64 + (l.getD 1 0).toNat % 64
  else if n = 3 then (((l.getD 0 0).toNat - 224) * 64 + (l.getD 1 0).toNat % 64) * 64 + (l.getD 2 0).toNat % 64
  else ((((l.getD 0 0).toNat - 240) * 64 + (l.getD 1 0).toNat % 64) * 64 + (l.getD 2 0).toNat % 64) * 64 + (l.getD 3 0).toNat % 64
theorem dec_val {l : List UInt8} (h : l ≠ []) (hv : ¬ ((Lib.decodeL l).1 = 65533 ∧ (Lib.decodeL l).2 = 1)) : longN (l.getD 0 0).toNat = (Lib.decodeL l).2 ∧ valR l (Lib.decodeL l).2 = (Lib.decodeL l).1 := by
  have k0 := (l.getD 0 0).toNat_lt
  rw [Lib.decodeL_N] at hv ⊢
  rcases Lib.decodeN_shape l.length (l.getD 0 0).toNat (l.getD 1 0).toNat (l.getD 2 0).toNat (l.getD 3 0).toNat with ⟨c, e⟩ | ⟨c1, c2, c3, cv, e⟩ | ⟨c1, c2, c3, c4, cv, cs, e⟩ | ⟨c1, c2, c3, c4, c5, cv, cw, e⟩ | e
  · rw [e]; unfold longN valR
    exact ⟨by rw [if_pos c], by rw [if_pos rfl]⟩
  · rw [e]; unfold longN valR
    exact ⟨by rw [if_neg (by omega), if_pos (by omega)], by rw [if_neg (by simp), if_pos rfl]; simp only; omega⟩
  · rw [e]; unfold longN valR
    exact ⟨by rw [if_neg (by omega), if_neg (by omega), if_pos (by omega)], by rw [if_neg (by simp), if_neg (by simp), if_pos rfl]; simp only; omega⟩
  · rw [e]; unfold longN valR
    exact ⟨by rw [if_neg (by omega), if_neg (by omega), if_neg (by omega), if_pos (by omega)], by rw [if_neg (by simp), if_neg (by simp), if_neg (by simp)]; simp only; omega⟩
  · rw [e] at hv; exact absurd ⟨rfl, rfl⟩ hv
theorem nxt_some {l : List UInt8} {r k : Nat} (h : nxt l = some (r, k)) : longN (l.getD 0 0).toNat = k ∧ valR l k = r ∧ Lib.encodeRune (r : Int) = l.take k ∧ k ≤ l.length ∧ Sc r := by
  unfold nxt at h
  split at h
  · cases h
  · rename_i h0
    split at h
    · cases h
    · rename_i hv
      injection h with h
      have e1 : (Lib.decodeL l).1 = r := by rw [h]
      have e2 : (Lib.decodeL l).2 = k := by rw [h]
      obtain ⟨a, b⟩ := dec_val h0 hv
      have c := Lib.encode_decode l h0 hv
      have d := Lib.decodeL_le l h0
      rw [e1, e2] at c
      rw [e2] at a b d
      rw [e1] at b
      refine ⟨a, b, c, d, ?_⟩
      have := Lib.decodeN_valid l.length (l.getD 0 0).toNat (l.getD 1 0).toNat (l.getD 2 0).toNat (l.getD 3 0).toNat (l.getD 0 0).toNat_lt
      rw [← Lib.decodeL_N, e1] at this
      unfold Sc; omega
theorem nxt_none1 {l : List UInt8} (h : longN (l.getD 0 0).toNat = 0 ∨ l.length < longN (l.getD 0 0).toNat) : nxt l = none := by
  cases hn : nxt l with
  | none => rfl
  | some p =>
    obtain ⟨r, k⟩ := p
    obtain ⟨a, _, _, d, _⟩ := nxt_some hn
    have := nxt_le hn
    simp only at this
    omega
theorem nxt_ref {l : List UInt8} (h0 : l ≠ []) (h1 : longN (l.getD 0 0).toNat ≤ l.length) : nxt l = if Lib.validRune (valR l (longN (l.getD 0 0).toNat) : Int) = true ∧ Lib.encodeRune (valR l (longN (l.getD 0 0).toNat) : Int) = l.take (longN (l.getD 0 0).toNat) then some (valR l (longN (l.getD 0 0).toNat), longN (l.getD 0 0).toNat) else none := by
  split
  · rename_i hc
    obtain ⟨c1, c2⟩ := hc
    have hs : Sc (valR l (longN (l.getD 0 0).toNat)) := by
      simp only [Lib.validRune, decide_eq_true_eq] at c1; unfold Sc; omega
    have := nxt_enc hs (l.drop (longN (l.getD 0 0).toNat))
    rw [c2, List.take_append_drop, List.length_take] at this
    rw [this, Nat.min_eq_left h1]
  · rename_i hc
    cases hn : nxt l with
    | none => rfl
    | some p =>
      obtain ⟨r, k⟩ := p
      obtain ⟨a, b, c, d, e⟩ := nxt_some hn
      exfalso
      apply hc
      rw [a, b]
      refine ⟨?_, c⟩
      unfold Sc at e
      simp only [Lib.validRune, decide_eq_true_eq]
      omega
set_option maxRecDepth 100000 in
set_option maxHeartbeats 1000000 in
theorem refNext_1 (l : List UInt8) (w : World) (a : UInt8) (t : List UInt8) (hl : l = a :: t) (hN : longN a.toNat = 1) (hmax : l.length ≤ 1000000) :
    Calls Tryd.prog 20 #[.string ⟨l.toArray⟩] w fun e w' => e = .returned (nextV l) ∧ Below w.heap.size w w' := by
  have hsz : (ByteArray.mk l.toArray).size = l.length := by show l.toArray.size = _; simp
  have hlen : l.length = t.length + 1 := by rw [hl]; simp
  have hx0 : ∀ h : 0 < (ByteArray.mk l.toArray).size, (ByteArray.mk l.toArray)[0]'h = a := fun h => by subst hl; rfl
  have cL : ∀ w, Calls Tryd.prog 37 #[.int .u8 (a.toNat : Int)] w fun e w' => e = .returned (.int .i64 1) ∧ w' = w := fun w => by
    have := long_any a.toNat w a.toNat_lt
    rw [hN] at this
    exact this
  have ha : 0 ≤ a.toNat ∧ a.toNat < 128 := by
    have h' := hN
    unfold longN at h'
    repeat' split at h'
    all_goals omega
  have hNx := nxt_ref (l := l) (by rw [hl]; simp) (by rw [hl]; simp [hN])
  rw [show l.getD 0 0 = a by rw [hl]; rfl, hN] at hNx
  obtain ⟨x, hx⟩ : ∃ x, a.toNat = x := ⟨_, rfl⟩
  have gx : x < 256 := by rw [← hx]; exact a.toNat_lt
  obtain ⟨v0, hv0⟩ : ∃ v0 : Nat, x - 0 = v0 := ⟨_, rfl⟩
  have hV : valR l 1 = v0 := by
    have e : valR l 1 = a.toNat := by rw [hl]; rfl
    rw [e]; omega
  rw [hV] at hNx
  rw [hx] at cL ha
  have hVb : v0 ≤ 2000000000 := by omega
  have cP := fun w => refPut_any (v0 : Int) w (by omega) (by omega)
  have e0 : (v0 : Int) = (x : Int) := by omega
  have wv : IntKind.i32.wrap (x : Int) = (x : Int) := by simp only [IntKind.wrap_i32]; omega
  obtain rfl : v0 = x := by omega
  clear e0
  have hl0 : ¬ ((l.length : Int) = 0) := by omega
  have hl2 : (1 : Int) ≤ (l.length : Int) := by omega
  have hll : decide ((l.length : Int) < 1) = false := decide_eq_false (by omega)
  have hst := str_take l 1
  have HN := Lib.hid hNx
  clear hNx hl hN hV hmax hv0
  unfold putV putZ at cP
  unfold nextV
  cases hv : Lib.validRune (v0 : Int) with
  | false =>
    rw [if_neg (by rw [hv]; simp)] at HN
    rw [HN.out]
    rw [hv] at cP
    simp only [Bool.false_eq_true, if_false] at cP
    clear hv ha
    go_enter Tryd.func20, Tryd.ntmps20
    go_wp2_with (go_at_call 37; refine (cL _).mono ?_; rintro e w' ⟨rfl, hw⟩; rw [hw]; clear hw)
    go_region
    obtain ⟨w2, hw2⟩ : ∃ w2, (w.alloc (.cells #[.int .i64 0, .int .i64 0, .int .i64 192, .int .i64 224, .int .i64 240] 3)).drew = w2 := ⟨_, rfl⟩
    have hb2 : Below w.heap.size w w2 := by rw [← hw2]; exact Below.drew ((Below.refl _ _).alloc (Nat.le_refl _) _)
    rw [hw2]
    clear hw2
    go_wp2
    refine wp_loop_rounds 2 ?_
    rw [rounds_succ]
    go_wp2_with (go_at_call 22; refine (cP _).mono ?_; rintro e w' ⟨rfl, hb3⟩)
    go_ret3
    exact ⟨rfl, hb2.trans (hb3.mono hb2.size)⟩
  | true =>
    rw [hv] at cP
    simp only [if_true] at cP
    by_cases he : Lib.encodeRune (v0 : Int) = l.take 1
    · rw [if_pos ⟨hv, he⟩] at HN
      rw [HN.out]
      rw [he] at cP
      clear hv ha he
      go_enter Tryd.func20, Tryd.ntmps20
      go_wp2_with (go_at_call 37; refine (cL _).mono ?_; rintro e w' ⟨rfl, hw⟩; rw [hw]; clear hw)
      go_region
      obtain ⟨w2, hw2⟩ : ∃ w2, (w.alloc (.cells #[.int .i64 0, .int .i64 0, .int .i64 192, .int .i64 224, .int .i64 240] 3)).drew = w2 := ⟨_, rfl⟩
      have hb2 : Below w.heap.size w w2 := by rw [← hw2]; exact Below.drew ((Below.refl _ _).alloc (Nat.le_refl _) _)
      rw [hw2]
      clear hw2
      go_wp2
      refine wp_loop_rounds 2 ?_
      rw [rounds_succ]
      go_wp2_with (go_at_call 22; refine (cP _).mono ?_; rintro e w' ⟨rfl, hb3⟩)
      go_ret3
      exact ⟨rfl, hb2.trans (hb3.mono hb2.size)⟩
    · rw [if_neg (fun h => he h.2)] at HN
      rw [HN.out]
      obtain ⟨E, hE⟩ : ∃ E, Lib.encodeRune (v0 : Int) = E := ⟨_, rfl⟩
      obtain ⟨S, hS⟩ : ∃ S, l.take 1 = S := ⟨_, rfl⟩
      rw [hE] at cP he
      rw [hS] at he hst
      have hne : (E == S) = false := beq_eq_false_iff_ne.2 he
      clear hv ha hE hS
      go_enter Tryd.func20, Tryd.ntmps20
      go_wp2_with (go_at_call 37; refine (cL _).mono ?_; rintro e w' ⟨rfl, hw⟩; rw [hw]; clear hw)
      go_region
      obtain ⟨w2, hw2⟩ : ∃ w2, (w.alloc (.cells #[.int .i64 0, .int .i64 0, .int .i64 192, .int .i64 224, .int .i64 240] 3)).drew = w2 := ⟨_, rfl⟩
      have hb2 : Below w.heap.size w w2 := by rw [← hw2]; exact Below.drew ((Below.refl _ _).alloc (Nat.le_refl _) _)
      rw [hw2]
      clear hw2
      go_wp2
      refine wp_loop_rounds 2 ?_
      rw [rounds_succ]
      go_wp2_with (go_at_call 22; refine (cP _).mono ?_; rintro e w' ⟨rfl, hb3⟩)
      go_ret3
      exact ⟨rfl, hb2.trans (hb3.mono hb2.size)⟩
set_option maxRecDepth 100000 in
set_option maxHeartbeats 1000000 in
theorem refNext_2 (l : List UInt8) (w : World) (a b : UInt8) (t : List UInt8) (hl : l = a :: b :: t) (hN : longN a.toNat = 2) (hmax : l.length ≤ 1000000) :
    Calls Tryd.prog 20 #[.string ⟨l.toArray⟩] w fun e w' => e = .returned (nextV l) ∧ Below w.heap.size w w' := by
  have hsz : (ByteArray.mk l.toArray).size = l.length := by show l.toArray.size = _; simp
  have hlen : l.length = t.length + 2 := by rw [hl]; simp
  have hx0 : ∀ h : 0 < (ByteArray.mk l.toArray).size, (ByteArray.mk l.toArray)[0]'h = a := fun h => by subst hl; rfl
  have hx1 : ∀ h : 1 < (ByteArray.mk l.toArray).size, (ByteArray.mk l.toArray)[1]'h = b := fun h => by subst hl; rfl
  have cL : ∀ w, Calls Tryd.prog 37 #[.int .u8 (a.toNat : Int)] w fun e w' => e = .returned (.int .i64 2) ∧ w' = w := fun w => by
    have := long_any a.toNat w a.toNat_lt
    rw [hN] at this
    exact this
  have ha : 194 ≤ a.toNat ∧ a.toNat < 224 := by
    have h' := hN
    unfold longN at h'
    repeat' split at h'
    all_goals omega
  have hNx := nxt_ref (l := l) (by rw [hl]; simp) (by rw [hl]; simp [hN])
  rw [show l.getD 0 0 = a by rw [hl]; rfl, hN] at hNx
  obtain ⟨x, hx⟩ : ∃ x, a.toNat = x := ⟨_, rfl⟩
  have gx : x < 256 := by rw [← hx]; exact a.toNat_lt
  obtain ⟨y, hy⟩ : ∃ y, b.toNat = y := ⟨_, rfl⟩
  have gy : y < 256 := by rw [← hy]; exact b.toNat_lt
  obtain ⟨v0, hv0⟩ : ∃ v0 : Nat, x - 192 = v0 := ⟨_, rfl⟩
  obtain ⟨m1, hm1⟩ : ∃ m1, y % 64 = m1 := ⟨_, rfl⟩
  obtain ⟨v1, hv1⟩ : ∃ v1 : Nat, 64 * v0 + m1 = v1 := ⟨_, rfl⟩
  have hV : valR l 2 = v1 := by
    have e : valR l 2 = (a.toNat - 192) * 64 + b.toNat % 64 := by rw [hl]; rfl
    rw [e]; omega
  rw [hV] at hNx
  rw [hx] at cL ha
  have hVb : v1 ≤ 2000000000 := by omega
  have cP := fun w => refPut_any (v1 : Int) w (by omega) (by omega)
  have e0 : (x : Int) - 192 = (v0 : Int) := by omega
  have e1 : 64 * (v0 : Int) + (m1 : Int) = (v1 : Int) := by omega
  have f1 : (y : Int) % 64 = (m1 : Int) := by omega
  have f1' : (y : Int).tmod 64 = (m1 : Int) := by rw [Int.tmod_eq_emod_of_nonneg (by omega)]; omega
  have w1 : IntKind.i64.wrap (64 * (v0 : Int)) = 64 * (v0 : Int) := by simp only [IntKind.wrap_i64]; omega
  have wv : IntKind.i32.wrap (v1 : Int) = (v1 : Int) := by simp only [IntKind.wrap_i32]; omega
  have hl0 : ¬ ((l.length : Int) = 0) := by omega
  have hl2 : (2 : Int) ≤ (l.length : Int) := by omega
  have hll : decide ((l.length : Int) < 2) = false := decide_eq_false (by omega)
  have hst := str_take l 2
  have HN := Lib.hid hNx
  clear hNx hl hN hV hmax hv0 hv1 hm1
  unfold putV putZ at cP
  unfold nextV
  cases hv : Lib.validRune (v1 : Int) with
  | false =>
    rw [if_neg (by rw [hv]; simp)] at HN
    rw [HN.out]
    rw [hv] at cP
    simp only [Bool.false_eq_true, if_false] at cP
    clear hv ha
    go_enter Tryd.func20, Tryd.ntmps20
    go_wp2_with (go_at_call 37; refine (cL _).mono ?_; rintro e w' ⟨rfl, hw⟩; rw [hw]; clear hw)
    go_region
    obtain ⟨w2, hw2⟩ : ∃ w2, (w.alloc (.cells #[.int .i64 0, .int .i64 0, .int .i64 192, .int .i64 224, .int .i64 240] 3)).drew = w2 := ⟨_, rfl⟩
    have hb2 : Below w.heap.size w w2 := by rw [← hw2]; exact Below.drew ((Below.refl _ _).alloc (Nat.le_refl _) _)
    rw [hw2]
    clear hw2
    go_wp2
    refine wp_loop_rounds 3 ?_
    rw [rounds_succ]
    go_wp2
    rw [rounds_succ]
    go_wp2_with (go_at_call 22; refine (cP _).mono ?_; rintro e w' ⟨rfl, hb3⟩)
    go_ret3
    exact ⟨rfl, hb2.trans (hb3.mono hb2.size)⟩
  | true =>
    rw [hv] at cP
    simp only [if_true] at cP
    by_cases he : Lib.encodeRune (v1 : Int) = l.take 2
    · rw [if_pos ⟨hv, he⟩] at HN
      rw [HN.out]
      rw [he] at cP
      clear hv ha he
      go_enter Tryd.func20, Tryd.ntmps20
      go_wp2_with (go_at_call 37; refine (cL _).mono ?_; rintro e w' ⟨rfl, hw⟩; rw [hw]; clear hw)
      go_region
      obtain ⟨w2, hw2⟩ : ∃ w2, (w.alloc (.cells #[.int .i64 0, .int .i64 0, .int .i64 192, .int .i64 224, .int .i64 240] 3)).drew = w2 := ⟨_, rfl⟩
      have hb2 : Below w.heap.size w w2 := by rw [← hw2]; exact Below.drew ((Below.refl _ _).alloc (Nat.le_refl _) _)
      rw [hw2]
      clear hw2
      go_wp2
      refine wp_loop_rounds 3 ?_
      rw [rounds_succ]
      go_wp2
      rw [rounds_succ]
      go_wp2_with (go_at_call 22; refine (cP _).mono ?_; rintro e w' ⟨rfl, hb3⟩)
      go_ret3
      exact ⟨rfl, hb2.trans (hb3.mono hb2.size)⟩
    · rw [if_neg (fun h => he h.2)] at HN
      rw [HN.out]
      obtain ⟨E, hE⟩ : ∃ E, Lib.encodeRune (v1 : Int) = E := ⟨_, rfl⟩
      obtain ⟨S, hS⟩ : ∃ S, l.take 2 = S := ⟨_, rfl⟩
      rw [hE] at cP he
      rw [hS] at he hst
      have hne : (E == S) = false := beq_eq_false_iff_ne.2 he
      clear hv ha hE hS
      go_enter Tryd.func20, Tryd.ntmps20
      go_wp2_with (go_at_call 37; refine (cL _).mono ?_; rintro e w' ⟨rfl, hw⟩; rw [hw]; clear hw)
      go_region
      obtain ⟨w2, hw2⟩ : ∃ w2, (w.alloc (.cells #[.int .i64 0, .int .i64 0, .int .i64 192, .int .i64 224, .int .i64 240] 3)).drew = w2 := ⟨_, rfl⟩
      have hb2 : Below w.heap.size w w2 := by rw [← hw2]; exact Below.drew ((Below.refl _ _).alloc (Nat.le_refl _) _)
      rw [hw2]
      clear hw2
      go_wp2
      refine wp_loop_rounds 3 ?_
      rw [rounds_succ]
      go_wp2
      rw [rounds_succ]
      go_wp2_with (go_at_call 22; refine (cP _).mono ?_; rintro e w' ⟨rfl, hb3⟩)
      go_ret3
      exact ⟨rfl, hb2.trans (hb3.mono hb2.size)⟩
set_option maxRecDepth 100000 in
set_option maxHeartbeats 1000000 in
theorem refNext_3 (l : List UInt8) (w : World) (a b c : UInt8) (t : List UInt8) (hl : l = a :: b :: c :: t) (hN : longN a.toNat = 3) (hmax : l.length ≤ 1000000) :
    Calls Tryd.prog 20 #[.string ⟨l.toArray⟩] w fun e w' => e = .returned (nextV l) ∧ Below w.heap.size w w' := by
  have hsz : (ByteArray.mk l.toArray).size = l.length := by show l.toArray.size = _; simp
  have hlen : l.length = t.length + 3 := by rw [hl]; simp
  have hx0 : ∀ h : 0 < (ByteArray.mk l.toArray).size, (ByteArray.mk l.toArray)[0]'h = a := fun h => by subst hl; rfl
  have hx1 : ∀ h : 1 < (ByteArray.mk l.toArray).size, (ByteArray.mk l.toArray)[1]'h = b := fun h => by subst hl; rfl
  have hx2 : ∀ h : 2 < (ByteArray.mk l.toArray).size, (ByteArray.mk l.toArray)[2]'h = c := fun h => by subst hl; rfl
  have cL : ∀ w, Calls Tryd.prog 37 #[.int .u8 (a.toNat : Int)] w fun e w' => e = .returned (.int .i64 3) ∧ w' = w := fun w => by
    have := long_any a.toNat w a.toNat_lt
    rw [hN] at this
    exact this
  have ha : 224 ≤ a.toNat ∧ a.toNat < 240 := by
    have h' := hN
    unfold longN at h'
    repeat' split at h'
    all_goals omega
  have hNx := nxt_ref (l := l) (by rw [hl]; simp) (by rw [hl]; simp [hN])
  rw [show l.getD 0 0 = a by rw [hl]; rfl, hN] at hNx
  obtain ⟨x, hx⟩ : ∃ x, a.toNat = x := ⟨_, rfl⟩
  have gx : x < 256 := by rw [← hx]; exact a.toNat_lt
  obtain ⟨y, hy⟩ : ∃ y, b.toNat = y := ⟨_, rfl⟩
  have gy : y < 256 := by rw [← hy]; exact b.toNat_lt
  obtain ⟨z, hz⟩ : ∃ z, c.toNat = z := ⟨_, rfl⟩
  have gz : z < 256 := by rw [← hz]; exact c.toNat_lt
  obtain ⟨v0, hv0⟩ : ∃ v0 : Nat, x - 224 = v0 := ⟨_, rfl⟩
  obtain ⟨m1, hm1⟩ : ∃ m1, y % 64 = m1 := ⟨_, rfl⟩
  obtain ⟨v1, hv1⟩ : ∃ v1 : Nat, 64 * v0 + m1 = v1 := ⟨_, rfl⟩
  obtain ⟨m2, hm2⟩ : ∃ m2, z % 64 = m2 := ⟨_, rfl⟩
  obtain ⟨v2, hv2⟩ : ∃ v2 : Nat, 64 * v1 + m2 = v2 := ⟨_, rfl⟩
  have hV : valR l 3 = v2 := by
    have e : valR l 3 = ((a.toNat - 224) * 64 + b.toNat % 64) * 64 + c.toNat % 64 := by rw [hl]; rfl
    rw [e]; omega
  rw [hV] at hNx
  rw [hx] at cL ha
  have hVb : v2 ≤ 2000000000 := by omega
  have cP := fun w => refPut_any (v2 : Int) w (by omega) (by omega)
  have e0 : (x : Int) - 224 = (v0 : Int) := by omega
  have e1 : 64 * (v0 : Int) + (m1 : Int) = (v1 : Int) := by omega
  have f1 : (y : Int) % 64 = (m1 : Int) := by omega
  have f1' : (y : Int).tmod 64 = (m1 : Int) := by rw [Int.tmod_eq_emod_of_nonneg (by omega)]; omega
  have w1 : IntKind.i64.wrap (64 * (v0 : Int)) = 64 * (v0 : Int) := by simp only [IntKind.wrap_i64]; omega
  have e2 : 64 * (v1 : Int) + (m2 : Int) = (v2 : Int) := by omega
  have f2 : (z : Int) % 64 = (m2 : Int) := by omega
  have f2' : (z : Int).tmod 64 = (m2 : Int) := by rw [Int.tmod_eq_emod_of_nonneg (by omega)]; omega
  have w2 : IntKind.i64.wrap (64 * (v1 : Int)) = 64 * (v1 : Int) := by simp only [IntKind.wrap_i64]; omega
  have wv : IntKind.i32.wrap (v2 : Int) = (v2 : Int) := by simp only [IntKind.wrap_i32]; omega
  have hl0 : ¬ ((l.length : Int) = 0) := by omega
  have hl2 : (3 : Int) ≤ (l.length : Int) := by omega
  have hll : decide ((l.length : Int) < 3) = false := decide_eq_false (by omega)
  have hst := str_take l 3
  have HN := Lib.hid hNx
  clear hNx hl hN hV hmax hv0 hv1 hv2 hm1 hm2
  unfold putV putZ at cP
  unfold nextV
  cases hv : Lib.validRune (v2 : Int) with
  | false =>
    rw [if_neg (by rw [hv]; simp)] at HN
    rw [HN.out]
    rw [hv] at cP
    simp only [Bool.false_eq_true, if_false] at cP
    clear hv ha
    go_enter Tryd.func20, Tryd.ntmps20
    go_wp2_with (go_at_call 37; refine (cL _).mono ?_; rintro e w' ⟨rfl, hw⟩; rw [hw]; clear hw)
    go_region
    obtain ⟨w2, hw2⟩ : ∃ w2, (w.alloc (.cells #[.int .i64 0, .int .i64 0, .int .i64 192, .int .i64 224, .int .i64 240] 3)).drew = w2 := ⟨_, rfl⟩
    have hb2 : Below w.heap.size w w2 := by rw [← hw2]; exact Below.drew ((Below.refl _ _).alloc (Nat.le_refl _) _)
    rw [hw2]
    clear hw2
    go_wp2
    refine wp_loop_rounds 4 ?_
    rw [rounds_succ]
    go_wp2
    rw [rounds_succ]
    go_wp2
    rw [rounds_succ]
    go_wp2_with (go_at_call 22; refine (cP _).mono ?_; rintro e w' ⟨rfl, hb3⟩)
    go_ret3
    exact ⟨rfl, hb2.trans (hb3.mono hb2.size)⟩
  | true =>
    rw [hv] at cP
    simp only [if_true] at cP
    by_cases he : Lib.encodeRune (v2 : Int) = l.take 3
    · rw [if_pos ⟨hv, he⟩] at HN
      rw [HN.out]
      rw [he] at cP
      clear hv ha he
      go_enter Tryd.func20, Tryd.ntmps20
      go_wp2_with (go_at_call 37; refine (cL _).mono ?_; rintro e w' ⟨rfl, hw⟩; rw [hw]; clear hw)
      go_region
      obtain ⟨w2, hw2⟩ : ∃ w2, (w.alloc (.cells #[.int .i64 0, .int .i64 0, .int .i64 192, .int .i64 224, .int .i64 240] 3)).drew = w2 := ⟨_, rfl⟩
      have hb2 : Below w.heap.size w w2 := by rw [← hw2]; exact Below.drew ((Below.refl _ _).alloc (Nat.le_refl _) _)
      rw [hw2]
      clear hw2
      go_wp2
      refine wp_loop_rounds 4 ?_
      rw [rounds_succ]
      go_wp2
      rw [rounds_succ]
      go_wp2
      rw [rounds_succ]
      go_wp2_with (go_at_call 22; refine (cP _).mono ?_; rintro e w' ⟨rfl, hb3⟩)
      go_ret3
      exact ⟨rfl, hb2.trans (hb3.mono hb2.size)⟩
    · rw [if_neg (fun h => he h.2)] at HN
      rw [HN.out]
      obtain ⟨E, hE⟩ : ∃ E, Lib.encodeRune (v2 : Int) = E := ⟨_, rfl⟩
      obtain ⟨S, hS⟩ : ∃ S, l.take 3 = S := ⟨_, rfl⟩
      rw [hE] at cP he
      rw [hS] at he hst
      have hne : (E == S) = false := beq_eq_false_iff_ne.2 he
      clear hv ha hE hS
      go_enter Tryd.func20, Tryd.ntmps20
      go_wp2_with (go_at_call 37; refine (cL _).mono ?_; rintro e w' ⟨rfl, hw⟩; rw [hw]; clear hw)
      go_region
      obtain ⟨w2, hw2⟩ : ∃ w2, (w.alloc (.cells #[.int .i64 0, .int .i64 0, .int .i64 192, .int .i64 224, .int .i64 240] 3)).drew = w2 := ⟨_, rfl⟩
      have hb2 : Below w.heap.size w w2 := by rw [← hw2]; exact Below.drew ((Below.refl _ _).alloc (Nat.le_refl _) _)
      rw [hw2]
      clear hw2
      go_wp2
      refine wp_loop_rounds 4 ?_
      rw [rounds_succ]
      go_wp2
      rw [rounds_succ]
      go_wp2
      rw [rounds_succ]
      go_wp2_with (go_at_call 22; refine (cP _).mono ?_; rintro e w' ⟨rfl, hb3⟩)
      go_ret3
      exact ⟨rfl, hb2.trans (hb3.mono hb2.size)⟩
set_option maxRecDepth 100000 in
set_option maxHeartbeats 1000000 in
theorem refNext_4 (l : List UInt8) (w : World) (a b c d : UInt8) (t : List UInt8) (hl : l = a :: b :: c :: d :: t) (hN : longN a.toNat = 4) (hmax : l.length ≤ 1000000) :
    Calls Tryd.prog 20 #[.string ⟨l.toArray⟩] w fun e w' => e = .returned (nextV l) ∧ Below w.heap.size w w' := by
  have hsz : (ByteArray.mk l.toArray).size = l.length := by show l.toArray.size = _; simp
  have hlen : l.length = t.length + 4 := by rw [hl]; simp
  have hx0 : ∀ h : 0 < (ByteArray.mk l.toArray).size, (ByteArray.mk l.toArray)[0]'h = a := fun h => by subst hl; rfl
  have hx1 : ∀ h : 1 < (ByteArray.mk l.toArray).size, (ByteArray.mk l.toArray)[1]'h = b := fun h => by subst hl; rfl
  have hx2 : ∀ h : 2 < (ByteArray.mk l.toArray).size, (ByteArray.mk l.toArray)[2]'h = c := fun h => by subst hl; rfl
  have hx3 : ∀ h : 3 < (ByteArray.mk l.toArray).size, (ByteArray.mk l.toArray)[3]'h = d := fun h => by subst hl; rfl
  have cL : ∀ w, Calls Tryd.prog 37 #[.int .u8 (a.toNat : Int)] w fun e w' => e = .returned (.int .i64 4) ∧ w' = w := fun w => by
    have := long_any a.toNat w a.toNat_lt
    rw [hN] at this
    exact this
  have ha : 240 ≤ a.toNat ∧ a.toNat < 245 := by
    have h' := hN
    unfold longN at h'
    repeat' split at h'
    all_goals omega
  have hNx := nxt_ref (l := l) (by rw [hl]; simp) (by rw [hl]; simp [hN])
  rw [show l.getD 0 0 = a by rw [hl]; rfl, hN] at hNx
  obtain ⟨x, hx⟩ : ∃ x, a.toNat = x := ⟨_, rfl⟩
  have gx : x < 256 := by rw [← hx]; exact a.toNat_lt
  obtain ⟨y, hy⟩ : ∃ y, b.toNat = y := ⟨_, rfl⟩
  have gy : y < 256 := by rw [← hy]; exact b.toNat_lt
  obtain ⟨z, hz⟩ : ∃ z, c.toNat = z := ⟨_, rfl⟩
  have gz : z < 256 := by rw [← hz]; exact c.toNat_lt
  obtain ⟨u, hu⟩ : ∃ u, d.toNat = u := ⟨_, rfl⟩
  have gu : u < 256 := by rw [← hu]; exact d.toNat_lt
  obtain ⟨v0, hv0⟩ : ∃ v0 : Nat, x - 240 = v0 := ⟨_, rfl⟩
  obtain ⟨m1, hm1⟩ : ∃ m1, y % 64 = m1 := ⟨_, rfl⟩
  obtain ⟨v1, hv1⟩ : ∃ v1 : Nat, 64 * v0 + m1 = v1 := ⟨_, rfl⟩
  obtain ⟨m2, hm2⟩ : ∃ m2, z % 64 = m2 := ⟨_, rfl⟩
  obtain ⟨v2, hv2⟩ : ∃ v2 : Nat, 64 * v1 + m2 = v2 := ⟨_, rfl⟩
  obtain ⟨m3, hm3⟩ : ∃ m3, u % 64 = m3 := ⟨_, rfl⟩
  obtain ⟨v3, hv3⟩ : ∃ v3 : Nat, 64 * v2 + m3 = v3 := ⟨_, rfl⟩
  have hV : valR l 4 = v3 := by
    have e : valR l 4 = (((a.toNat - 240) * 64 + b.toNat % 64) * 64 + c.toNat % 64) * 64 + d.toNat % 64 := by rw [hl]; rfl
    rw [e]; omega
  rw [hV] at hNx
  rw [hx] at cL ha
  have hVb : v3 ≤ 2000000000 := by omega
  have cP := fun w => refPut_any (v3 : Int) w (by omega) (by omega)
  have e0 : (x : Int) - 240 = (v0 : Int) := by omega
  have e1 : 64 * (v0 : Int) + (m1 : Int) = (v1 : Int) := by omega
  have f1 : (y : Int) % 64 = (m1 : Int) := by omega
  have f1' : (y : Int).tmod 64 = (m1 : Int) := by rw [Int.tmod_eq_emod_of_nonneg (by omega)]; omega
  have w1 : IntKind.i64.wrap (64 * (v0 : Int)) = 64 * (v0 : Int) := by simp only [IntKind.wrap_i64]; omega
  have e2 : 64 * (v1 : Int) + (m2 : Int) = (v2 : Int) := by omega
  have f2 : (z : Int) % 64 = (m2 : Int) := by omega
  have f2' : (z : Int).tmod 64 = (m2 : Int) := by rw [Int.tmod_eq_emod_of_nonneg (by omega)]; omega
  have w2 : IntKind.i64.wrap (64 * (v1 : Int)) = 64 * (v1 : Int) := by simp only [IntKind.wrap_i64]; omega
  have e3 : 64 * (v2 : Int) + (m3 : Int) = (v3 : Int) := by omega
  have f3 : (u : Int) % 64 = (m3 : Int) := by omega
  have f3' : (u : Int).tmod 64 = (m3 : Int) := by rw [Int.tmod_eq_emod_of_nonneg (by omega)]; omega
  have w3 : IntKind.i64.wrap (64 * (v2 : Int)) = 64 * (v2 : Int) := by simp only [IntKind.wrap_i64]; omega
  have wv : IntKind.i32.wrap (v3 : Int) = (v3 : Int) := by simp only [IntKind.wrap_i32]; omega
  have hl0 : ¬ ((l.length : Int) = 0) := by omega
  have hl2 : (4 : Int) ≤ (l.length : Int) := by omega
  have hll : decide ((l.length : Int) < 4) = false := decide_eq_false (by omega)
  have hst := str_take l 4
  have HN := Lib.hid hNx
  clear hNx hl hN hV hmax hv0 hv1 hv2 hv3 hm1 hm2 hm3
  unfold putV putZ at cP
  unfold nextV
  cases hv : Lib.validRune (v3 : Int) with
  | false =>
    rw [if_neg (by rw [hv]; simp)] at HN
    rw [HN.out]
    rw [hv] at cP
    simp only [Bool.false_eq_true, if_false] at cP
    clear hv ha
    go_enter Tryd.func20, Tryd.ntmps20
    go_wp2_with (go_at_call 37; refine (cL _).mono ?_; rintro e w' ⟨rfl, hw⟩; rw [hw]; clear hw)
    go_region
    obtain ⟨w2, hw2⟩ : ∃ w2, (w.alloc (.cells #[.int .i64 0, .int .i64 0, .int .i64 192, .int .i64 224, .int .i64 240] 3)).drew = w2 := ⟨_, rfl⟩
    have hb2 : Below w.heap.size w w2 := by rw [← hw2]; exact Below.drew ((Below.refl _ _).alloc (Nat.le_refl _) _)
    rw [hw2]
    clear hw2
    go_wp2
    refine wp_loop_rounds 5 ?_
    rw [rounds_succ]
    go_wp2
    rw [rounds_succ]
    go_wp2
    rw [rounds_succ]
    go_wp2
    rw [rounds_succ]
    go_wp2_with (go_at_call 22; refine (cP _).mono ?_; rintro e w' ⟨rfl, hb3⟩)
    go_ret3
    exact ⟨rfl, hb2.trans (hb3.mono hb2.size)⟩
  | true =>
    rw [hv] at cP
    simp only [if_true] at cP
    by_cases he : Lib.encodeRune (v3 : Int) = l.take 4
    · rw [if_pos ⟨hv, he⟩] at HN
      rw [HN.out]
      rw [he] at cP
      clear hv ha he
      go_enter Tryd.func20, Tryd.ntmps20
      go_wp2_with (go_at_call 37; refine (cL _).mono ?_; rintro e w' ⟨rfl, hw⟩; rw [hw]; clear hw)
      go_region
      obtain ⟨w2, hw2⟩ : ∃ w2, (w.alloc (.cells #[.int .i64 0, .int .i64 0, .int .i64 192, .int .i64 224, .int .i64 240] 3)).drew = w2 := ⟨_, rfl⟩
      have hb2 : Below w.heap.size w w2 := by rw [← hw2]; exact Below.drew ((Below.refl _ _).alloc (Nat.le_refl _) _)
      rw [hw2]
      clear hw2
      go_wp2
      refine wp_loop_rounds 5 ?_
      rw [rounds_succ]
      go_wp2
      rw [rounds_succ]
      go_wp2
      rw [rounds_succ]
      go_wp2
      rw [rounds_succ]
      go_wp2_with (go_at_call 22; refine (cP _).mono ?_; rintro e w' ⟨rfl, hb3⟩)
      go_ret3
      exact ⟨rfl, hb2.trans (hb3.mono hb2.size)⟩
    · rw [if_neg (fun h => he h.2)] at HN
      rw [HN.out]
      obtain ⟨E, hE⟩ : ∃ E, Lib.encodeRune (v3 : Int) = E := ⟨_, rfl⟩
      obtain ⟨S, hS⟩ : ∃ S, l.take 4 = S := ⟨_, rfl⟩
      rw [hE] at cP he
      rw [hS] at he hst
      have hne : (E == S) = false := beq_eq_false_iff_ne.2 he
      clear hv ha hE hS
      go_enter Tryd.func20, Tryd.ntmps20
      go_wp2_with (go_at_call 37; refine (cL _).mono ?_; rintro e w' ⟨rfl, hw⟩; rw [hw]; clear hw)
      go_region
      obtain ⟨w2, hw2⟩ : ∃ w2, (w.alloc (.cells #[.int .i64 0, .int .i64 0, .int .i64 192, .int .i64 224, .int .i64 240] 3)).drew = w2 := ⟨_, rfl⟩
      have hb2 : Below w.heap.size w w2 := by rw [← hw2]; exact Below.drew ((Below.refl _ _).alloc (Nat.le_refl _) _)
      rw [hw2]
      clear hw2
      go_wp2
      refine wp_loop_rounds 5 ?_
      rw [rounds_succ]
      go_wp2
      rw [rounds_succ]
      go_wp2
      rw [rounds_succ]
      go_wp2
      rw [rounds_succ]
      go_wp2_with (go_at_call 22; refine (cP _).mono ?_; rintro e w' ⟨rfl, hb3⟩)
      go_ret3
      exact ⟨rfl, hb2.trans (hb3.mono hb2.size)⟩
theorem refNext_any (l : List UInt8) (w : World) (hmax : l.length ≤ 1000000) : Calls Tryd.prog 20 #[.string ⟨l.toArray⟩] w fun e w' => e = .returned (nextV l) ∧ Below w.heap.size w w' := by
  cases l with
  | nil =>
    go_enter Tryd.func20, Tryd.ntmps20
    go_wp2
    go_ret3
    exact ⟨rfl, Below.refl _ _⟩
  | cons a t =>
    by_cases hb : longN a.toNat = 0 ∨ (a :: t).length < longN a.toNat
    · have hn := nxt_none1 (l := a :: t) hb
      unfold nextV
      rw [hn]
      have cL := fun w => long_any a.toNat w a.toNat_lt
      have hx0 : (ByteArray.mk (a :: t).toArray)[0]'(by show 0 < (a :: t).toArray.size; simp) = a := rfl
      obtain ⟨l, hl⟩ : ∃ l, a :: t = l := ⟨_, rfl⟩
      have hsz : (ByteArray.mk l.toArray).size = l.length := by show l.toArray.size = _; simp
      have hlen : l.length = t.length + 1 := by rw [← hl]; simp
      have hl0 : ¬ ((l.length : Int) = 0) := by omega
      subst hl
      obtain ⟨l, hl⟩ : ∃ l, a :: t = l := ⟨_, rfl⟩
      have hx0' : ∀ h : 0 < (ByteArray.mk l.toArray).size, (ByteArray.mk l.toArray)[0]'h = a := fun h => by subst hl; rfl
      rw [hl] at hb hsz hlen hl0 ⊢
      obtain ⟨n, hnn⟩ : ∃ n, longN a.toNat = n := ⟨_, rfl⟩
      rw [hnn] at hb cL
      clear hx0 hn hl
      rcases hb with hb | hb
      · subst hb
        go_enter Tryd.func20, Tryd.ntmps20
        go_wp2_with (go_at_call 37; refine (cL _).mono ?_; rintro e w' ⟨rfl, hw⟩; rw [hw]; clear hw)
        go_ret3
        exact ⟨rfl, Below.refl _ _⟩
      · have hn0 : ((n : Int) == 0) = false := by simp; omega
        have hz : (l.length : Int) < (n : Int) := by omega
        clear hb
        go_enter Tryd.func20, Tryd.ntmps20
        go_wp2_with (go_at_call 37; refine (cL _).mono ?_; rintro e w' ⟨rfl, hw⟩; rw [hw]; clear hw)
        go_ret3
        exact ⟨rfl, Below.refl _ _⟩
    · have hlong : longN a.toNat = 1 ∨ longN a.toNat = 2 ∨ longN a.toNat = 3 ∨ longN a.toNat = 4 := by
        have : longN a.toNat ≠ 0 := fun h => hb (.inl h)
        revert this
        unfold longN
        repeat' split
        all_goals simp
      have hln : longN a.toNat ≤ (a :: t).length := by omega
      rcases hlong with h | h | h | h
      · exact refNext_1 _ w a t rfl h hmax
      · rw [h] at hln
        cases t with
        | nil => simp at hln
        | cons b t => exact refNext_2 _ w a b t rfl h hmax
      · rw [h] at hln
        cases t with
        | nil => simp at hln
        | cons b t =>
          cases t with
          | nil => simp at hln
          | cons c t => exact refNext_3 _ w a b c t rfl h hmax
      · rw [h] at hln
        cases t with
        | nil => simp at hln
        | cons b t =>
          cases t with
          | nil => simp at hln
          | cons c t =>
            cases t with
            | nil => simp at hln
            | cons d t => exact refNext_4 _ w a b c d t rfl h hmax
end Go.Proofs.YtalegkgonbmaoaaDoor
