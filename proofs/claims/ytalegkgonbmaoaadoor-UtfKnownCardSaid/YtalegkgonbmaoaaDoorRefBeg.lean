import Derived.Test.YtalegkgonbmaoaaDoorRefDig
import Derived.Lib.MinMax
import Derived.BigQuiet
import Derived.BigRegion
import Derived.Deep.QuietTactic
import Derived.Deep.DeepCutAuto
/- The reference's Begins. -/
set_option linter.unusedVariables false
set_option linter.unusedSimpArgs false
namespace Go.Proofs.YtalegkgonbmaoaaDoor
open Go.RowKit
def leastN (n : Nat) : Nat := if n = 2 then 128 else if n = 3 then 2048 else 65536
def headN (n : Nat) : Nat := if n = 2 then 192 else if n = 3 then 224 else 240
def bgEnd (n lo hi : Nat) : Bool := decide (max lo (leastN n) ≤ min hi 1114111 ∧ (max lo (leastN n) < 55296 ∨ 57343 < min hi 1114111))
def bgLoop (p : List UInt8) (n : Nat) : Nat → Nat → Nat → Nat → Bool
  | 0, _, lo, hi => bgEnd n lo hi
  | f + 1, i, lo, hi => if i < p.length then (if (p.getD i 0).toNat < 128 ∨ 191 < (p.getD i 0).toNat then false else bgLoop p n f (i + 1) (64 * lo + (p.getD i 0).toNat - 128) (64 * hi + (p.getD i 0).toNat - 128)) else bgLoop p n f (i + 1) (64 * lo) (64 * hi + 63)
def beginsP (p : List UInt8) : Bool :=
  if longN (p.getD 0 0).toNat ≤ p.length then false else bgLoop p (longN (p.getD 0 0).toNat) (longN (p.getD 0 0).toNat - 1) 1 ((p.getD 0 0).toNat - headN (longN (p.getD 0 0).toNat)) ((p.getD 0 0).toNat - headN (longN (p.getD 0 0).toNat))
set_option maxRecDepth 100000 in
set_option maxHeartbeats 4000000 in
theorem begins_2 (l : List UInt8) (w : World) (a : UInt8) (t : List UInt8) (hl : l = a :: t) (hN : longN a.toNat = 2) (hlen : l.length < 2) :
    Calls Tryd.prog 45 #[.string ⟨l.toArray⟩] w fun e w' => e = .returned (.bool (beginsP l)) ∧ Below w.heap.size w w' := by
  have hsz : (ByteArray.mk l.toArray).size = l.length := by show l.toArray.size = _; simp
  have hx0 : ∀ h : 0 < (ByteArray.mk l.toArray).size, (ByteArray.mk l.toArray)[0]'h = a := fun h => by subst hl; rfl
  have hpos : 0 < l.length := by rw [hl]; simp
  have hz0 : (0 : Int) < (l.length : Int) := by omega
  have hlz : decide ((2 : Int) ≤ (l.length : Int)) = false := decide_eq_false (by omega)
  have hlz2 : decide (2 ≤ l.length) = false := decide_eq_false (by omega)
  have cL : ∀ w, Calls Tryd.prog 37 #[.int .u8 (a.toNat : Int)] w fun e w' => e = .returned (.int .i64 2) ∧ w' = w := fun w => by
    have := long_any a.toNat w a.toNat_lt
    rw [hN] at this
    exact this
  have ha : 192 ≤ a.toNat ∧ a.toNat < 224 := by
    have h' := hN
    unfold longN at h'
    repeat' split at h'
    all_goals omega
  obtain ⟨x, hx⟩ : ∃ x, a.toNat = x := ⟨_, rfl⟩
  obtain ⟨v0, hv0⟩ : ∃ v0 : Nat, x - 192 = v0 := ⟨_, rfl⟩
  obtain ⟨R, hR⟩ : ∃ R, bgLoop l 2 1 1 v0 v0 = R := ⟨_, rfl⟩
  have hB : beginsP l = R := by
    unfold beginsP
    rw [show l.getD 0 0 = a by rw [hl]; rfl, hN, if_neg (by omega), hx, show x - headN 2 = v0 from hv0, hR]
  rw [hB]
  rw [hx] at ha cL
  have e0 : (x : Int) - 192 = (v0 : Int) := by omega
  have hv1 : v0 < 64 := by omega
  have HR := Lib.hid (And.intro hR hv1)
  have HL := Lib.hid hlen
  have gx : x < 256 := by omega
  clear hR hB hv0 ha hN hlen hl hpos hv1
  go_enter Tryd.func45, Tryd.ntmps45
  go_wp2_with (go_at_call 37; refine (cL _).mono ?_; rintro e w' ⟨rfl, hw⟩; rw [hw]; clear hw)
  go_quiet (fail)
  go_wp2
  obtain ⟨w1, hw1⟩ : ∃ w1, (w.drewN nq).alloc (.cells #[.int .i64 0, .int .i64 0, .int .i64 192, .int .i64 224, .int .i64 240] 3) = w1 := ⟨_, rfl⟩
  have hb1 : Below w.heap.size w w1 := by rw [← hw1]; exact (below_drewN (Below.refl _ _) _).alloc (Nat.le_refl _) _
  have hcell : w1.cell? ⟨w.heap.size, 2, none⟩ = some (.int .i64 192) := by
    rw [← hw1]
    show ((w.drewN nq).alloc (.cells #[.int .i64 0, .int .i64 0, .int .i64 192, .int .i64 224, .int .i64 240] 3)).cell? ⟨(w.drewN nq).heap.size, 2, none⟩ = _
    rw [cell_of_row _ _ 2 _ 3 (0, 0) (heap_alloc_last (w.drewN nq) _)]
    rfl
  rw [hw1]
  have HB1 := Lib.hid hb1
  clear hw1 hb1
  go_quiet (fail)
  have HB2 := Lib.hid (below_drewN HB1.out nq)
  generalize w1.drewN nq = w2 at HB2 ⊢
  clear HB1 hcell cL hx0 hx e0 hlz hlz2
  go_wp2
  go_loopw [4, 5, 7] (fun s4 s5 s7 wr => ∃ i lo hi : Nat, 1 ≤ i ∧ i ≤ 2 ∧ lo ≤ hi ∧ hi < 64 ^ i ∧ s4 = .int .i64 (lo : Int) ∧ s5 = .int .i64 (hi : Int) ∧ s7 = .int .i64 (i : Int) ∧ bgLoop l 2 (2 - i) i lo hi = R ∧ Below w.heap.size w wr) (fun _ _ i _ => 2 - (intOf i).toNat)
  case atStart => exact ⟨1, v0, v0, by omega, by omega, by omega, by have := HR.out.2; omega, rfl, rfl, rfl, HR.out.1, HB2.out⟩
  case round =>
    obtain ⟨i, lo, hi, h1, hi2, hlh, hb, rfl, rfl, rfl, hR, hbl⟩ := hrel
    have HB := Lib.hid hbl
    have hib : 64 ^ i ≤ 16777216 := by
      have : 64 ^ i ≤ 64 ^ 4 := Nat.pow_le_pow_right (by omega) (by omega)
      omega
    by_cases hlt : i < 2
    · have q0 : (i : Int) < 2 := by omega
      rw [show 2 - i = (1 - i) + 1 by omega, bgLoop] at hR
      by_cases hil : i < l.length
      · obtain ⟨c, hc⟩ : ∃ c, l[i]? = some c := ⟨_, List.getElem?_eq_getElem hil⟩
        have hx : ∀ h : i < (ByteArray.mk l.toArray).size, (ByteArray.mk l.toArray)[i]'h = c := fun h => by
          rw [List.getElem?_eq_getElem hil] at hc
          injection hc
        have hg : l.getD i 0 = c := by rw [List.getD_eq_getElem?_getD, hc]; rfl
        rw [if_pos hil, hg] at hR
        have hz : (i : Int) < (l.length : Int) := by omega
        obtain ⟨y, hy⟩ : ∃ y, c.toNat = y := ⟨_, rfl⟩
        have gy : y < 256 := by rw [← hy]; exact c.toNat_lt
        rw [hy] at hR
        clear hc hg hbl
        by_cases c1 : y < 128
        · rw [if_pos (.inl c1)] at hR
          subst hR
          have d1 : (y : Int) < 128 := by omega
          clear hi2 hlh hb hib hlt hil h1
          go_wp2
          go_ret
          exact ⟨rfl, HB.out⟩
        · have d1 : decide ((y : Int) < 128) = false := decide_eq_false (by omega)
          have d1' : decide (y < 128) = false := decide_eq_false c1
          by_cases c2 : 191 < y
          · rw [if_pos (.inr c2)] at hR
            subst hR
            have d2 : (191 : Int) < (y : Int) := by omega
            clear hi2 hlh hb hib hlt hil h1 c1
            go_wp2
            go_ret
            exact ⟨rfl, HB.out⟩
          · have d2 : decide ((191 : Int) < (y : Int)) = false := decide_eq_false (by omega)
            have d2' : decide (191 < y) = false := decide_eq_false c2
            rw [if_neg (by omega)] at hR
            obtain ⟨lo2, hlo2⟩ : ∃ m : Nat, 64 * lo + y - 128 = m := ⟨_, rfl⟩
            obtain ⟨hi2', hhi2⟩ : ∃ m : Nat, 64 * hi + y - 128 = m := ⟨_, rfl⟩
            rw [hlo2, hhi2] at hR
            have f1 : 64 * (lo : Int) + (y : Int) - 128 = (lo2 : Int) := by omega
            have f2 : 64 * (hi : Int) + (y : Int) - 128 = (hi2' : Int) := by omega
            have b1 : lo ≤ 16777216 := by omega
            have b2 : hi ≤ 16777216 := by omega
            have hb' : hi2' < 64 ^ (i + 1) := by rw [Nat.pow_succ]; omega
            have HP := Lib.hid (show i + 1 ≤ 2 ∧ lo2 ≤ hi2' ∧ hi2' < 64 ^ (i + 1) ∧ bgLoop l 2 (2 - (i + 1)) (i + 1) lo2 hi2' = R from ⟨by omega, by omega, hb', by rw [show 2 - (i + 1) = 1 - i by omega]; exact hR⟩)
            clear hi2 hlh hb hib hlt hil h1 c1 c2 hR hlo2 hhi2 hb'
            go_wp2
            go_quiet (fail)
            have HB4 := Lib.hid (below_drewN HB.out nq)
            generalize wr.drewN nq = w4 at HB4 ⊢
            go_wp2
            go_roundw
            case rel => exact ⟨i + 1, lo2, hi2', by omega, HP.out.1, HP.out.2.1, HP.out.2.2.1, rfl, rfl, by simp, HP.out.2.2.2, HB4.out⟩
            case measure => have := HP.out.1; simp [intOf]; omega
      · rw [if_neg hil] at hR
        have hz : decide ((i : Int) < (l.length : Int)) = false := decide_eq_false (by omega)
        have hz2 : decide (i < l.length) = false := decide_eq_false hil
        obtain ⟨lo2, hlo2⟩ : ∃ m : Nat, 64 * lo = m := ⟨_, rfl⟩
        obtain ⟨hi2', hhi2⟩ : ∃ m : Nat, 64 * hi + 63 = m := ⟨_, rfl⟩
        rw [hlo2, hhi2] at hR
        have f1 : 64 * (lo : Int) = (lo2 : Int) := by omega
        have f2 : 64 * (hi : Int) + 63 = (hi2' : Int) := by omega
        have b1 : lo ≤ 16777216 := by omega
        have b2 : hi ≤ 16777216 := by omega
        have hb' : hi2' < 64 ^ (i + 1) := by rw [Nat.pow_succ]; omega
        have HP := Lib.hid (show i + 1 ≤ 2 ∧ lo2 ≤ hi2' ∧ hi2' < 64 ^ (i + 1) ∧ bgLoop l 2 (2 - (i + 1)) (i + 1) lo2 hi2' = R from ⟨by omega, by omega, hb', by rw [show 2 - (i + 1) = 1 - i by omega]; exact hR⟩)
        clear hi2 hlh hb hib hlt hil h1 hR hlo2 hhi2 hb' hbl
        go_wp2
        go_roundw
        case rel => exact ⟨i + 1, lo2, hi2', by omega, HP.out.1, HP.out.2.1, HP.out.2.2.1, rfl, rfl, by simp, HP.out.2.2.2, HB.out⟩
        case measure => have := HP.out.1; simp [intOf]; omega
    · obtain rfl : i = 2 := by omega
      rw [Nat.sub_self, bgLoop] at hR
      unfold bgEnd at hR
      rw [show leastN 2 = 128 from rfl] at hR
      have q0 : decide ((2 : Int) < 2) = false := rfl
      have b2 : hi ≤ 16777216 := by omega
      clear hlt hib hi2 hb h1
      obtain ⟨A, hA⟩ : ∃ A, max lo 128 = A := ⟨_, rfl⟩
      obtain ⟨B, hB⟩ : ∃ B, min hi 1114111 = B := ⟨_, rfl⟩
      rw [hA, hB] at hR
      have hA2 : max (lo : Int) 128 = (A : Int) := by omega
      have hB2 : min (hi : Int) 1114111 = (B : Int) := by omega
      clear hbl hA hB
      have HB3 := Lib.hid (HB.out.alloc HB.out.size (.cells #[.int .i64 0, .int .i64 0, .int .i64 128, .int .i64 2048, .int .i64 65536] 3))
      have hk : (A ≤ B ∧ A < 55296 ∧ true = R) ∨ (A ≤ B ∧ 55296 ≤ A ∧ 57343 < B ∧ true = R) ∨ (A ≤ B ∧ 55296 ≤ A ∧ B ≤ 57343 ∧ false = R) ∨ (B < A ∧ false = R) := by
        rw [← hR]
        by_cases k1 : A ≤ B <;> by_cases k2 : A < 55296 <;> by_cases k3 : 57343 < B <;> simp [k1, k2, k3] <;> omega
      clear hR
      rcases hk with ⟨k1, k2, rfl⟩ | ⟨k1, k2, k3, rfl⟩ | ⟨k1, k2, k3, rfl⟩ | ⟨k1, rfl⟩
      · have g1 : (A : Int) ≤ (B : Int) := by omega
        have g2 : (A : Int) < 55296 := by omega
        first
          | (exfalso; omega)
          | (clear k1 k2
             go_wp2
             go_ret
             exact ⟨rfl, HB3.out⟩)
      · have g1 : (A : Int) ≤ (B : Int) := by omega
        have g2 : decide ((A : Int) < 55296) = false := decide_eq_false (by omega)
        have g2' : decide (A < 55296) = false := decide_eq_false (by omega)
        have g3 : (57343 : Int) < (B : Int) := by omega
        clear k1 k2 k3
        go_wp2
        go_ret
        exact ⟨rfl, HB3.out⟩
      · have g1 : (A : Int) ≤ (B : Int) := by omega
        have g2 : decide ((A : Int) < 55296) = false := decide_eq_false (by omega)
        have g2' : decide (A < 55296) = false := decide_eq_false (by omega)
        have g3 : decide ((57343 : Int) < (B : Int)) = false := decide_eq_false (by omega)
        have g3' : decide (57343 < B) = false := decide_eq_false (by omega)
        clear k1 k2 k3
        go_wp2
        go_ret
        exact ⟨rfl, HB3.out⟩
      · have g1 : decide ((A : Int) ≤ (B : Int)) = false := decide_eq_false (by omega)
        have g1' : decide (A ≤ B) = false := decide_eq_false (by omega)
        clear k1
        go_wp2
        go_ret
        exact ⟨rfl, HB3.out⟩
set_option maxRecDepth 100000 in
set_option maxHeartbeats 4000000 in
theorem begins_3 (l : List UInt8) (w : World) (a : UInt8) (t : List UInt8) (hl : l = a :: t) (hN : longN a.toNat = 3) (hlen : l.length < 3) :
    Calls Tryd.prog 45 #[.string ⟨l.toArray⟩] w fun e w' => e = .returned (.bool (beginsP l)) ∧ Below w.heap.size w w' := by
  have hsz : (ByteArray.mk l.toArray).size = l.length := by show l.toArray.size = _; simp
  have hx0 : ∀ h : 0 < (ByteArray.mk l.toArray).size, (ByteArray.mk l.toArray)[0]'h = a := fun h => by subst hl; rfl
  have hpos : 0 < l.length := by rw [hl]; simp
  have hz0 : (0 : Int) < (l.length : Int) := by omega
  have hlz : decide ((3 : Int) ≤ (l.length : Int)) = false := decide_eq_false (by omega)
  have hlz2 : decide (3 ≤ l.length) = false := decide_eq_false (by omega)
  have cL : ∀ w, Calls Tryd.prog 37 #[.int .u8 (a.toNat : Int)] w fun e w' => e = .returned (.int .i64 3) ∧ w' = w := fun w => by
    have := long_any a.toNat w a.toNat_lt
    rw [hN] at this
    exact this
  have ha : 224 ≤ a.toNat ∧ a.toNat < 240 := by
    have h' := hN
    unfold longN at h'
    repeat' split at h'
    all_goals omega
  obtain ⟨x, hx⟩ : ∃ x, a.toNat = x := ⟨_, rfl⟩
  obtain ⟨v0, hv0⟩ : ∃ v0 : Nat, x - 224 = v0 := ⟨_, rfl⟩
  obtain ⟨R, hR⟩ : ∃ R, bgLoop l 3 2 1 v0 v0 = R := ⟨_, rfl⟩
  have hB : beginsP l = R := by
    unfold beginsP
    rw [show l.getD 0 0 = a by rw [hl]; rfl, hN, if_neg (by omega), hx, show x - headN 3 = v0 from hv0, hR]
  rw [hB]
  rw [hx] at ha cL
  have e0 : (x : Int) - 224 = (v0 : Int) := by omega
  have hv1 : v0 < 64 := by omega
  have HR := Lib.hid (And.intro hR hv1)
  have HL := Lib.hid hlen
  have gx : x < 256 := by omega
  clear hR hB hv0 ha hN hlen hl hpos hv1
  go_enter Tryd.func45, Tryd.ntmps45
  go_wp2_with (go_at_call 37; refine (cL _).mono ?_; rintro e w' ⟨rfl, hw⟩; rw [hw]; clear hw)
  go_quiet (fail)
  go_wp2
  obtain ⟨w1, hw1⟩ : ∃ w1, (w.drewN nq).alloc (.cells #[.int .i64 0, .int .i64 0, .int .i64 192, .int .i64 224, .int .i64 240] 3) = w1 := ⟨_, rfl⟩
  have hb1 : Below w.heap.size w w1 := by rw [← hw1]; exact (below_drewN (Below.refl _ _) _).alloc (Nat.le_refl _) _
  have hcell : w1.cell? ⟨w.heap.size, 3, none⟩ = some (.int .i64 224) := by
    rw [← hw1]
    show ((w.drewN nq).alloc (.cells #[.int .i64 0, .int .i64 0, .int .i64 192, .int .i64 224, .int .i64 240] 3)).cell? ⟨(w.drewN nq).heap.size, 3, none⟩ = _
    rw [cell_of_row _ _ 3 _ 3 (0, 0) (heap_alloc_last (w.drewN nq) _)]
    rfl
  rw [hw1]
  have HB1 := Lib.hid hb1
  clear hw1 hb1
  go_quiet (fail)
  have HB2 := Lib.hid (below_drewN HB1.out nq)
  generalize w1.drewN nq = w2 at HB2 ⊢
  clear HB1 hcell cL hx0 hx e0 hlz hlz2
  go_wp2
  go_loopw [4, 5, 7] (fun s4 s5 s7 wr => ∃ i lo hi : Nat, 1 ≤ i ∧ i ≤ 3 ∧ lo ≤ hi ∧ hi < 64 ^ i ∧ s4 = .int .i64 (lo : Int) ∧ s5 = .int .i64 (hi : Int) ∧ s7 = .int .i64 (i : Int) ∧ bgLoop l 3 (3 - i) i lo hi = R ∧ Below w.heap.size w wr) (fun _ _ i _ => 3 - (intOf i).toNat)
  case atStart => exact ⟨1, v0, v0, by omega, by omega, by omega, by have := HR.out.2; omega, rfl, rfl, rfl, HR.out.1, HB2.out⟩
  case round =>
    obtain ⟨i, lo, hi, h1, hi2, hlh, hb, rfl, rfl, rfl, hR, hbl⟩ := hrel
    have HB := Lib.hid hbl
    have hib : 64 ^ i ≤ 16777216 := by
      have : 64 ^ i ≤ 64 ^ 4 := Nat.pow_le_pow_right (by omega) (by omega)
      omega
    by_cases hlt : i < 3
    · have q0 : (i : Int) < 3 := by omega
      rw [show 3 - i = (2 - i) + 1 by omega, bgLoop] at hR
      by_cases hil : i < l.length
      · obtain ⟨c, hc⟩ : ∃ c, l[i]? = some c := ⟨_, List.getElem?_eq_getElem hil⟩
        have hx : ∀ h : i < (ByteArray.mk l.toArray).size, (ByteArray.mk l.toArray)[i]'h = c := fun h => by
          rw [List.getElem?_eq_getElem hil] at hc
          injection hc
        have hg : l.getD i 0 = c := by rw [List.getD_eq_getElem?_getD, hc]; rfl
        rw [if_pos hil, hg] at hR
        have hz : (i : Int) < (l.length : Int) := by omega
        obtain ⟨y, hy⟩ : ∃ y, c.toNat = y := ⟨_, rfl⟩
        have gy : y < 256 := by rw [← hy]; exact c.toNat_lt
        rw [hy] at hR
        clear hc hg hbl
        by_cases c1 : y < 128
        · rw [if_pos (.inl c1)] at hR
          subst hR
          have d1 : (y : Int) < 128 := by omega
          clear hi2 hlh hb hib hlt hil h1
          go_wp2
          go_ret
          exact ⟨rfl, HB.out⟩
        · have d1 : decide ((y : Int) < 128) = false := decide_eq_false (by omega)
          have d1' : decide (y < 128) = false := decide_eq_false c1
          by_cases c2 : 191 < y
          · rw [if_pos (.inr c2)] at hR
            subst hR
            have d2 : (191 : Int) < (y : Int) := by omega
            clear hi2 hlh hb hib hlt hil h1 c1
            go_wp2
            go_ret
            exact ⟨rfl, HB.out⟩
          · have d2 : decide ((191 : Int) < (y : Int)) = false := decide_eq_false (by omega)
            have d2' : decide (191 < y) = false := decide_eq_false c2
            rw [if_neg (by omega)] at hR
            obtain ⟨lo2, hlo2⟩ : ∃ m : Nat, 64 * lo + y - 128 = m := ⟨_, rfl⟩
            obtain ⟨hi2', hhi2⟩ : ∃ m : Nat, 64 * hi + y - 128 = m := ⟨_, rfl⟩
            rw [hlo2, hhi2] at hR
            have f1 : 64 * (lo : Int) + (y : Int) - 128 = (lo2 : Int) := by omega
            have f2 : 64 * (hi : Int) + (y : Int) - 128 = (hi2' : Int) := by omega
            have b1 : lo ≤ 16777216 := by omega
            have b2 : hi ≤ 16777216 := by omega
            have hb' : hi2' < 64 ^ (i + 1) := by rw [Nat.pow_succ]; omega
            have HP := Lib.hid (show i + 1 ≤ 3 ∧ lo2 ≤ hi2' ∧ hi2' < 64 ^ (i + 1) ∧ bgLoop l 3 (3 - (i + 1)) (i + 1) lo2 hi2' = R from ⟨by omega, by omega, hb', by rw [show 3 - (i + 1) = 2 - i by omega]; exact hR⟩)
            clear hi2 hlh hb hib hlt hil h1 c1 c2 hR hlo2 hhi2 hb'
            go_wp2
            go_quiet (fail)
            have HB4 := Lib.hid (below_drewN HB.out nq)
            generalize wr.drewN nq = w4 at HB4 ⊢
            go_wp2
            go_roundw
            case rel => exact ⟨i + 1, lo2, hi2', by omega, HP.out.1, HP.out.2.1, HP.out.2.2.1, rfl, rfl, by simp, HP.out.2.2.2, HB4.out⟩
            case measure => have := HP.out.1; simp [intOf]; omega
      · rw [if_neg hil] at hR
        have hz : decide ((i : Int) < (l.length : Int)) = false := decide_eq_false (by omega)
        have hz2 : decide (i < l.length) = false := decide_eq_false hil
        obtain ⟨lo2, hlo2⟩ : ∃ m : Nat, 64 * lo = m := ⟨_, rfl⟩
        obtain ⟨hi2', hhi2⟩ : ∃ m : Nat, 64 * hi + 63 = m := ⟨_, rfl⟩
        rw [hlo2, hhi2] at hR
        have f1 : 64 * (lo : Int) = (lo2 : Int) := by omega
        have f2 : 64 * (hi : Int) + 63 = (hi2' : Int) := by omega
        have b1 : lo ≤ 16777216 := by omega
        have b2 : hi ≤ 16777216 := by omega
        have hb' : hi2' < 64 ^ (i + 1) := by rw [Nat.pow_succ]; omega
        have HP := Lib.hid (show i + 1 ≤ 3 ∧ lo2 ≤ hi2' ∧ hi2' < 64 ^ (i + 1) ∧ bgLoop l 3 (3 - (i + 1)) (i + 1) lo2 hi2' = R from ⟨by omega, by omega, hb', by rw [show 3 - (i + 1) = 2 - i by omega]; exact hR⟩)
        clear hi2 hlh hb hib hlt hil h1 hR hlo2 hhi2 hb' hbl
        go_wp2
        go_roundw
        case rel => exact ⟨i + 1, lo2, hi2', by omega, HP.out.1, HP.out.2.1, HP.out.2.2.1, rfl, rfl, by simp, HP.out.2.2.2, HB.out⟩
        case measure => have := HP.out.1; simp [intOf]; omega
    · obtain rfl : i = 3 := by omega
      rw [Nat.sub_self, bgLoop] at hR
      unfold bgEnd at hR
      rw [show leastN 3 = 2048 from rfl] at hR
      have q0 : decide ((3 : Int) < 3) = false := rfl
      have b2 : hi ≤ 16777216 := by omega
      clear hlt hib hi2 hb h1
      obtain ⟨A, hA⟩ : ∃ A, max lo 2048 = A := ⟨_, rfl⟩
      obtain ⟨B, hB⟩ : ∃ B, min hi 1114111 = B := ⟨_, rfl⟩
      rw [hA, hB] at hR
      have hA2 : max (lo : Int) 2048 = (A : Int) := by omega
      have hB2 : min (hi : Int) 1114111 = (B : Int) := by omega
      clear hbl hA hB
      have HB3 := Lib.hid (HB.out.alloc HB.out.size (.cells #[.int .i64 0, .int .i64 0, .int .i64 128, .int .i64 2048, .int .i64 65536] 3))
      have hk : (A ≤ B ∧ A < 55296 ∧ true = R) ∨ (A ≤ B ∧ 55296 ≤ A ∧ 57343 < B ∧ true = R) ∨ (A ≤ B ∧ 55296 ≤ A ∧ B ≤ 57343 ∧ false = R) ∨ (B < A ∧ false = R) := by
        rw [← hR]
        by_cases k1 : A ≤ B <;> by_cases k2 : A < 55296 <;> by_cases k3 : 57343 < B <;> simp [k1, k2, k3] <;> omega
      clear hR
      rcases hk with ⟨k1, k2, rfl⟩ | ⟨k1, k2, k3, rfl⟩ | ⟨k1, k2, k3, rfl⟩ | ⟨k1, rfl⟩
      · have g1 : (A : Int) ≤ (B : Int) := by omega
        have g2 : (A : Int) < 55296 := by omega
        first
          | (exfalso; omega)
          | (clear k1 k2
             go_wp2
             go_ret
             exact ⟨rfl, HB3.out⟩)
      · have g1 : (A : Int) ≤ (B : Int) := by omega
        have g2 : decide ((A : Int) < 55296) = false := decide_eq_false (by omega)
        have g2' : decide (A < 55296) = false := decide_eq_false (by omega)
        have g3 : (57343 : Int) < (B : Int) := by omega
        clear k1 k2 k3
        go_wp2
        go_ret
        exact ⟨rfl, HB3.out⟩
      · have g1 : (A : Int) ≤ (B : Int) := by omega
        have g2 : decide ((A : Int) < 55296) = false := decide_eq_false (by omega)
        have g2' : decide (A < 55296) = false := decide_eq_false (by omega)
        have g3 : decide ((57343 : Int) < (B : Int)) = false := decide_eq_false (by omega)
        have g3' : decide (57343 < B) = false := decide_eq_false (by omega)
        clear k1 k2 k3
        go_wp2
        go_ret
        exact ⟨rfl, HB3.out⟩
      · have g1 : decide ((A : Int) ≤ (B : Int)) = false := decide_eq_false (by omega)
        have g1' : decide (A ≤ B) = false := decide_eq_false (by omega)
        clear k1
        go_wp2
        go_ret
        exact ⟨rfl, HB3.out⟩
set_option maxRecDepth 100000 in
set_option maxHeartbeats 4000000 in
theorem begins_4 (l : List UInt8) (w : World) (a : UInt8) (t : List UInt8) (hl : l = a :: t) (hN : longN a.toNat = 4) (hlen : l.length < 4) :
    Calls Tryd.prog 45 #[.string ⟨l.toArray⟩] w fun e w' => e = .returned (.bool (beginsP l)) ∧ Below w.heap.size w w' := by
  have hsz : (ByteArray.mk l.toArray).size = l.length := by show l.toArray.size = _; simp
  have hx0 : ∀ h : 0 < (ByteArray.mk l.toArray).size, (ByteArray.mk l.toArray)[0]'h = a := fun h => by subst hl; rfl
  have hpos : 0 < l.length := by rw [hl]; simp
  have hz0 : (0 : Int) < (l.length : Int) := by omega
  have hlz : decide ((4 : Int) ≤ (l.length : Int)) = false := decide_eq_false (by omega)
  have hlz2 : decide (4 ≤ l.length) = false := decide_eq_false (by omega)
  have cL : ∀ w, Calls Tryd.prog 37 #[.int .u8 (a.toNat : Int)] w fun e w' => e = .returned (.int .i64 4) ∧ w' = w := fun w => by
    have := long_any a.toNat w a.toNat_lt
    rw [hN] at this
    exact this
  have ha : 240 ≤ a.toNat ∧ a.toNat < 245 := by
    have h' := hN
    unfold longN at h'
    repeat' split at h'
    all_goals omega
  obtain ⟨x, hx⟩ : ∃ x, a.toNat = x := ⟨_, rfl⟩
  obtain ⟨v0, hv0⟩ : ∃ v0 : Nat, x - 240 = v0 := ⟨_, rfl⟩
  obtain ⟨R, hR⟩ : ∃ R, bgLoop l 4 3 1 v0 v0 = R := ⟨_, rfl⟩
  have hB : beginsP l = R := by
    unfold beginsP
    rw [show l.getD 0 0 = a by rw [hl]; rfl, hN, if_neg (by omega), hx, show x - headN 4 = v0 from hv0, hR]
  rw [hB]
  rw [hx] at ha cL
  have e0 : (x : Int) - 240 = (v0 : Int) := by omega
  have hv1 : v0 < 64 := by omega
  have HR := Lib.hid (And.intro hR hv1)
  have HL := Lib.hid hlen
  have gx : x < 256 := by omega
  clear hR hB hv0 ha hN hlen hl hpos hv1
  go_enter Tryd.func45, Tryd.ntmps45
  go_wp2_with (go_at_call 37; refine (cL _).mono ?_; rintro e w' ⟨rfl, hw⟩; rw [hw]; clear hw)
  go_quiet (fail)
  go_wp2
  obtain ⟨w1, hw1⟩ : ∃ w1, (w.drewN nq).alloc (.cells #[.int .i64 0, .int .i64 0, .int .i64 192, .int .i64 224, .int .i64 240] 3) = w1 := ⟨_, rfl⟩
  have hb1 : Below w.heap.size w w1 := by rw [← hw1]; exact (below_drewN (Below.refl _ _) _).alloc (Nat.le_refl _) _
  have hcell : w1.cell? ⟨w.heap.size, 4, none⟩ = some (.int .i64 240) := by
    rw [← hw1]
    show ((w.drewN nq).alloc (.cells #[.int .i64 0, .int .i64 0, .int .i64 192, .int .i64 224, .int .i64 240] 3)).cell? ⟨(w.drewN nq).heap.size, 4, none⟩ = _
    rw [cell_of_row _ _ 4 _ 3 (0, 0) (heap_alloc_last (w.drewN nq) _)]
    rfl
  rw [hw1]
  have HB1 := Lib.hid hb1
  clear hw1 hb1
  go_quiet (fail)
  have HB2 := Lib.hid (below_drewN HB1.out nq)
  generalize w1.drewN nq = w2 at HB2 ⊢
  clear HB1 hcell cL hx0 hx e0 hlz hlz2
  go_wp2
  go_loopw [4, 5, 7] (fun s4 s5 s7 wr => ∃ i lo hi : Nat, 1 ≤ i ∧ i ≤ 4 ∧ lo ≤ hi ∧ hi < 64 ^ i ∧ s4 = .int .i64 (lo : Int) ∧ s5 = .int .i64 (hi : Int) ∧ s7 = .int .i64 (i : Int) ∧ bgLoop l 4 (4 - i) i lo hi = R ∧ Below w.heap.size w wr) (fun _ _ i _ => 4 - (intOf i).toNat)
  case atStart => exact ⟨1, v0, v0, by omega, by omega, by omega, by have := HR.out.2; omega, rfl, rfl, rfl, HR.out.1, HB2.out⟩
  case round =>
    obtain ⟨i, lo, hi, h1, hi2, hlh, hb, rfl, rfl, rfl, hR, hbl⟩ := hrel
    have HB := Lib.hid hbl
    have hib : 64 ^ i ≤ 16777216 := by
      have : 64 ^ i ≤ 64 ^ 4 := Nat.pow_le_pow_right (by omega) (by omega)
      omega
    by_cases hlt : i < 4
    · have q0 : (i : Int) < 4 := by omega
      rw [show 4 - i = (3 - i) + 1 by omega, bgLoop] at hR
      by_cases hil : i < l.length
      · obtain ⟨c, hc⟩ : ∃ c, l[i]? = some c := ⟨_, List.getElem?_eq_getElem hil⟩
        have hx : ∀ h : i < (ByteArray.mk l.toArray).size, (ByteArray.mk l.toArray)[i]'h = c := fun h => by
          rw [List.getElem?_eq_getElem hil] at hc
          injection hc
        have hg : l.getD i 0 = c := by rw [List.getD_eq_getElem?_getD, hc]; rfl
        rw [if_pos hil, hg] at hR
        have hz : (i : Int) < (l.length : Int) := by omega
        obtain ⟨y, hy⟩ : ∃ y, c.toNat = y := ⟨_, rfl⟩
        have gy : y < 256 := by rw [← hy]; exact c.toNat_lt
        rw [hy] at hR
        clear hc hg hbl
        by_cases c1 : y < 128
        · rw [if_pos (.inl c1)] at hR
          subst hR
          have d1 : (y : Int) < 128 := by omega
          clear hi2 hlh hb hib hlt hil h1
          go_wp2
          go_ret
          exact ⟨rfl, HB.out⟩
        · have d1 : decide ((y : Int) < 128) = false := decide_eq_false (by omega)
          have d1' : decide (y < 128) = false := decide_eq_false c1
          by_cases c2 : 191 < y
          · rw [if_pos (.inr c2)] at hR
            subst hR
            have d2 : (191 : Int) < (y : Int) := by omega
            clear hi2 hlh hb hib hlt hil h1 c1
            go_wp2
            go_ret
            exact ⟨rfl, HB.out⟩
          · have d2 : decide ((191 : Int) < (y : Int)) = false := decide_eq_false (by omega)
            have d2' : decide (191 < y) = false := decide_eq_false c2
            rw [if_neg (by omega)] at hR
            obtain ⟨lo2, hlo2⟩ : ∃ m : Nat, 64 * lo + y - 128 = m := ⟨_, rfl⟩
            obtain ⟨hi2', hhi2⟩ : ∃ m : Nat, 64 * hi + y - 128 = m := ⟨_, rfl⟩
            rw [hlo2, hhi2] at hR
            have f1 : 64 * (lo : Int) + (y : Int) - 128 = (lo2 : Int) := by omega
            have f2 : 64 * (hi : Int) + (y : Int) - 128 = (hi2' : Int) := by omega
            have b1 : lo ≤ 16777216 := by omega
            have b2 : hi ≤ 16777216 := by omega
            have hb' : hi2' < 64 ^ (i + 1) := by rw [Nat.pow_succ]; omega
            have HP := Lib.hid (show i + 1 ≤ 4 ∧ lo2 ≤ hi2' ∧ hi2' < 64 ^ (i + 1) ∧ bgLoop l 4 (4 - (i + 1)) (i + 1) lo2 hi2' = R from ⟨by omega, by omega, hb', by rw [show 4 - (i + 1) = 3 - i by omega]; exact hR⟩)
            clear hi2 hlh hb hib hlt hil h1 c1 c2 hR hlo2 hhi2 hb'
            go_wp2
            go_quiet (fail)
            have HB4 := Lib.hid (below_drewN HB.out nq)
            generalize wr.drewN nq = w4 at HB4 ⊢
            go_wp2
            go_roundw
            case rel => exact ⟨i + 1, lo2, hi2', by omega, HP.out.1, HP.out.2.1, HP.out.2.2.1, rfl, rfl, by simp, HP.out.2.2.2, HB4.out⟩
            case measure => have := HP.out.1; simp [intOf]; omega
      · rw [if_neg hil] at hR
        have hz : decide ((i : Int) < (l.length : Int)) = false := decide_eq_false (by omega)
        have hz2 : decide (i < l.length) = false := decide_eq_false hil
        obtain ⟨lo2, hlo2⟩ : ∃ m : Nat, 64 * lo = m := ⟨_, rfl⟩
        obtain ⟨hi2', hhi2⟩ : ∃ m : Nat, 64 * hi + 63 = m := ⟨_, rfl⟩
        rw [hlo2, hhi2] at hR
        have f1 : 64 * (lo : Int) = (lo2 : Int) := by omega
        have f2 : 64 * (hi : Int) + 63 = (hi2' : Int) := by omega
        have b1 : lo ≤ 16777216 := by omega
        have b2 : hi ≤ 16777216 := by omega
        have hb' : hi2' < 64 ^ (i + 1) := by rw [Nat.pow_succ]; omega
        have HP := Lib.hid (show i + 1 ≤ 4 ∧ lo2 ≤ hi2' ∧ hi2' < 64 ^ (i + 1) ∧ bgLoop l 4 (4 - (i + 1)) (i + 1) lo2 hi2' = R from ⟨by omega, by omega, hb', by rw [show 4 - (i + 1) = 3 - i by omega]; exact hR⟩)
        clear hi2 hlh hb hib hlt hil h1 hR hlo2 hhi2 hb' hbl
        go_wp2
        go_roundw
        case rel => exact ⟨i + 1, lo2, hi2', by omega, HP.out.1, HP.out.2.1, HP.out.2.2.1, rfl, rfl, by simp, HP.out.2.2.2, HB.out⟩
        case measure => have := HP.out.1; simp [intOf]; omega
    · obtain rfl : i = 4 := by omega
      rw [Nat.sub_self, bgLoop] at hR
      unfold bgEnd at hR
      rw [show leastN 4 = 65536 from rfl] at hR
      have q0 : decide ((4 : Int) < 4) = false := rfl
      have b2 : hi ≤ 16777216 := by omega
      clear hlt hib hi2 hb h1
      obtain ⟨A, hA⟩ : ∃ A, max lo 65536 = A := ⟨_, rfl⟩
      obtain ⟨B, hB⟩ : ∃ B, min hi 1114111 = B := ⟨_, rfl⟩
      rw [hA, hB] at hR
      have hA2 : max (lo : Int) 65536 = (A : Int) := by omega
      have hB2 : min (hi : Int) 1114111 = (B : Int) := by omega
      clear hbl hA hB
      have HB3 := Lib.hid (HB.out.alloc HB.out.size (.cells #[.int .i64 0, .int .i64 0, .int .i64 128, .int .i64 2048, .int .i64 65536] 3))
      have hk : (A ≤ B ∧ A < 55296 ∧ true = R) ∨ (A ≤ B ∧ 55296 ≤ A ∧ 57343 < B ∧ true = R) ∨ (A ≤ B ∧ 55296 ≤ A ∧ B ≤ 57343 ∧ false = R) ∨ (B < A ∧ false = R) := by
        rw [← hR]
        by_cases k1 : A ≤ B <;> by_cases k2 : A < 55296 <;> by_cases k3 : 57343 < B <;> simp [k1, k2, k3] <;> omega
      clear hR
      rcases hk with ⟨k1, k2, rfl⟩ | ⟨k1, k2, k3, rfl⟩ | ⟨k1, k2, k3, rfl⟩ | ⟨k1, rfl⟩
      · have g1 : (A : Int) ≤ (B : Int) := by omega
        have g2 : (A : Int) < 55296 := by omega
        first
          | (exfalso; omega)
          | (clear k1 k2
             go_wp2
             go_ret
             exact ⟨rfl, HB3.out⟩)
      · have g1 : (A : Int) ≤ (B : Int) := by omega
        have g2 : decide ((A : Int) < 55296) = false := decide_eq_false (by omega)
        have g2' : decide (A < 55296) = false := decide_eq_false (by omega)
        have g3 : (57343 : Int) < (B : Int) := by omega
        clear k1 k2 k3
        go_wp2
        go_ret
        exact ⟨rfl, HB3.out⟩
      · have g1 : (A : Int) ≤ (B : Int) := by omega
        have g2 : decide ((A : Int) < 55296) = false := decide_eq_false (by omega)
        have g2' : decide (A < 55296) = false := decide_eq_false (by omega)
        have g3 : decide ((57343 : Int) < (B : Int)) = false := decide_eq_false (by omega)
        have g3' : decide (57343 < B) = false := decide_eq_false (by omega)
        clear k1 k2 k3
        go_wp2
        go_ret
        exact ⟨rfl, HB3.out⟩
      · have g1 : decide ((A : Int) ≤ (B : Int)) = false := decide_eq_false (by omega)
        have g1' : decide (A ≤ B) = false := decide_eq_false (by omega)
        clear k1
        go_wp2
        go_ret
        exact ⟨rfl, HB3.out⟩
theorem begins_any (l : List UInt8) (w : World) (h0 : l ≠ []) (hmax : l.length ≤ 1000000) :
    Calls Tryd.prog 45 #[.string ⟨l.toArray⟩] w fun e w' => e = .returned (.bool (beginsP l)) ∧ Below w.heap.size w w' := by
  obtain ⟨a, t, hl⟩ := List.exists_cons_of_ne_nil h0
  have hg : l.getD 0 0 = a := by rw [hl]; rfl
  by_cases hn : longN a.toNat ≤ l.length
  · have hB : beginsP l = false := by unfold beginsP; rw [hg, if_pos hn]
    rw [hB]
    have hsz : (ByteArray.mk l.toArray).size = l.length := by show l.toArray.size = _; simp
    have hx0 : ∀ h : 0 < (ByteArray.mk l.toArray).size, (ByteArray.mk l.toArray)[0]'h = a := fun h => by subst hl; rfl
    have hlen : l.length = t.length + 1 := by rw [hl]; simp
    have hpos : (0 : Int) < (l.length : Int) := by omega
    have cL := fun w => long_any a.toNat w a.toNat_lt
    obtain ⟨n, hnn⟩ : ∃ n, longN a.toNat = n := ⟨_, rfl⟩
    rw [hnn] at hn cL
    have q0 : (n : Int) ≤ (l.length : Int) := by omega
    clear hB hl hg hnn hn hlen
    go_enter Tryd.func45, Tryd.ntmps45
    go_wp2_with (go_at_call 37; refine (cL _).mono ?_; rintro e w' ⟨rfl, hw⟩; rw [hw]; clear hw)
    go_ret
    exact ⟨rfl, Below.refl _ _⟩
  · have hlen : l.length = t.length + 1 := by rw [hl]; simp
    have hlong : longN a.toNat = 2 ∨ longN a.toNat = 3 ∨ longN a.toNat = 4 := by
      have h2 : ¬ longN a.toNat ≤ 1 := by omega
      revert h2
      unfold longN
      repeat' split
      all_goals simp
    rcases hlong with h | h | h
    · exact begins_2 l w a t hl h (by omega)
    · exact begins_3 l w a t hl h (by omega)
    · exact begins_4 l w a t hl h (by omega)
end Go.Proofs.YtalegkgonbmaoaaDoor
