import Derived.Test.YtalegkgonbmaoaaDoorText
import Derived.BigQuiet
import Derived.Deep.QuietTactic
/- The statements' helper unit; how a scalar value is spelled. -/
set_option linter.unusedVariables false
set_option linter.unusedSimpArgs false
namespace Go.Proofs.YtalegkgonbmaoaaDoor
open Go.RowKit
def hexU (n : Nat) : UInt8 := ([48, 49, 50, 51, 52, 53, 54, 55, 56, 57, 65, 66, 67, 68, 69, 70] : List UInt8).getD n 0
def bd (up : Bool) (k : Nat) : UInt8 := if up then hexU k else hexd k
def baseL (up : Bool) : List UInt8 := if up then [48, 49, 50, 51, 52, 53, 54, 55, 56, 57, 65, 66, 67, 68, 69, 70] else [48, 49, 50, 51, 52, 53, 54, 55, 56, 57, 97, 98, 99, 100, 101, 102]
theorem hexU_fin : ∀ k : Fin 16, hexv (hexU k.val) = some k.val := by decide +kernel
theorem bd_v (up : Bool) (k : Nat) (h : k < 16) : hexv (bd up k) = some k := by
  cases up
  · exact hexd_v k h
  · exact hexU_fin ⟨k, h⟩
theorem base_fin : ∀ (up : Bool) (k : Fin 16), (⟨(baseL up).toArray⟩ : ByteArray).extract k.val (k.val + 1) = ⟨[bd up k.val].toArray⟩ := by decide +kernel
def unitS (n : Nat) (up : Bool) : List UInt8 := [92, 117, bd up (n / 4096), bd up (n / 256 % 16), bd up (n / 16 % 16), bd up (n % 16)]
theorem wraps_i64 (n : Int) (h₀ : 0 ≤ n) (h₁ : n < 2 ^ 63) : IntKind.i64.wrap n = n := by rw [IntKind.wrap_i64]; omega
theorem and15_64 (x : Int) (h0 : 0 ≤ x) (h1 : x < 9223372036854775807) : bits .and .i64 x 15 = x % 16 := bits_mask .i64 63 (by decide) wraps_i64 4 (by decide) x h0 (by omega)
set_option maxRecDepth 100000 in
set_option maxHeartbeats 1000000 in
theorem unit_any (n : Nat) (up : Bool) (w : World) (hn : n < 65536) :
    Calls Tryd.prog 30 #[.int .i64 (n : Int), .string ⟨(baseL up).toArray⟩] w fun e w' => e = .returned (.string ⟨(unitS n up).toArray⟩) ∧ Below w.heap.size w w' := by
  obtain ⟨B, hB⟩ : ∃ B : ByteArray, (⟨(baseL up).toArray⟩ : ByteArray) = B := ⟨_, rfl⟩
  have hext : ∀ k, k < 16 → B.extract k (k + 1) = ⟨[bd up k].toArray⟩ := fun k hk => by rw [← hB]; exact base_fin up ⟨k, hk⟩
  have hsz : B.size = 16 := by rw [← hB]; cases up <;> rfl
  rw [hB]
  clear hB
  unfold unitS
  obtain ⟨a, ha⟩ : ∃ a, n / 4096 = a := ⟨_, rfl⟩
  obtain ⟨b, hb⟩ : ∃ b, n / 256 % 16 = b := ⟨_, rfl⟩
  obtain ⟨c, hc⟩ : ∃ c, n / 16 % 16 = c := ⟨_, rfl⟩
  obtain ⟨d, hd⟩ : ∃ d, n % 16 = d := ⟨_, rfl⟩
  rw [ha, hb, hc, hd]
  have za : bits .and .i64 ((n : Int) / 4096) 15 = (a : Int) := by rw [and15_64 _ (by omega) (by omega)]; omega
  have zb : bits .and .i64 ((n : Int) / 256) 15 = (b : Int) := by rw [and15_64 _ (by omega) (by omega)]; omega
  have zc : bits .and .i64 ((n : Int) / 16) 15 = (c : Int) := by rw [and15_64 _ (by omega) (by omega)]; omega
  have zd : bits .and .i64 (n : Int) 15 = (d : Int) := by rw [and15_64 _ (by omega) (by omega)]; omega
  have xa := hext a (by omega)
  have xb := hext b (by omega)
  have xc := hext c (by omega)
  have xd := hext d (by omega)
  have ya : (a : Int) + 1 ≤ 16 := by omega
  have yb : (b : Int) + 1 ≤ 16 := by omega
  have yc : (c : Int) + 1 ≤ 16 := by omega
  have yd : (d : Int) + 1 ≤ 16 := by omega
  have wa : IntKind.i64.wrap ((a : Int) + 1) = (a : Int) + 1 := wraps_i64 _ (by omega) (by omega)
  have wb : IntKind.i64.wrap ((b : Int) + 1) = (b : Int) + 1 := wraps_i64 _ (by omega) (by omega)
  have wc : IntKind.i64.wrap ((c : Int) + 1) = (c : Int) + 1 := wraps_i64 _ (by omega) (by omega)
  have wd : IntKind.i64.wrap ((d : Int) + 1) = (d : Int) + 1 := wraps_i64 _ (by omega) (by omega)
  have ta : ((a : Int) + 1).toNat = a + 1 := by omega
  have tb : ((b : Int) + 1).toNat = b + 1 := by omega
  have tc : ((c : Int) + 1).toNat = c + 1 := by omega
  have td : ((d : Int) + 1).toNat = d + 1 := by omega
  have l1 : (a : Int) ≤ (a : Int) + 1 := by omega
  have l2 : (b : Int) ≤ (b : Int) + 1 := by omega
  have l3 : (c : Int) ≤ (c : Int) + 1 := by omega
  have l4 : (d : Int) ≤ (d : Int) + 1 := by omega
  have p1 := app_list [92, 117] [bd up a]
  have p2 := app_list [92, 117, bd up a] [bd up b]
  have p3 := app_list [92, 117, bd up a, bd up b] [bd up c]
  have p4 := app_list [92, 117, bd up a, bd up b, bd up c] [bd up d]
  clear ha hb hc hd hext
  go_enter Tryd.func30, Tryd.ntmps30
  go_wp2
  refine wp_loop_rounds 6 ?_
  rw [rounds_succ]
  go_wp2
  go_quiet (fail)
  obtain ⟨w1, hw1⟩ : ∃ w1, w.drewN nq = w1 := ⟨_, rfl⟩
  have hb1 : Below w.heap.size w w1 := by rw [← hw1]; exact below_drewN (Below.refl _ _) _
  rw [hw1]
  clear hw1
  go_wp2
  rw [rounds_succ]
  go_wp2
  go_quiet (fail)
  obtain ⟨w2, hw2⟩ : ∃ w2, w1.drewN nq = w2 := ⟨_, rfl⟩
  have hb2 : Below w.heap.size w w2 := by rw [← hw2]; exact below_drewN hb1 _
  rw [hw2]
  clear hw2 hb1
  go_wp2
  rw [rounds_succ]
  go_wp2
  go_quiet (fail)
  obtain ⟨w3, hw3⟩ : ∃ w3, w2.drewN nq = w3 := ⟨_, rfl⟩
  have hb3 : Below w.heap.size w w3 := by rw [← hw3]; exact below_drewN hb2 _
  rw [hw3]
  clear hw3 hb2
  go_wp2
  rw [rounds_succ]
  go_wp2
  go_quiet (fail)
  obtain ⟨w4, hw4⟩ : ∃ w4, w3.drewN nq = w4 := ⟨_, rfl⟩
  have hb4 : Below w.heap.size w w4 := by rw [← hw4]; exact below_drewN hb3 _
  rw [hw4]
  clear hw4 hb3
  go_wp2
  rw [rounds_succ]
  go_wp2
  go_ret
  exact ⟨rfl, hb4⟩
/-- The mark of a short escape. -/
def markOf (r : Nat) : Option UInt8 :=
  if r = 34 then some 34 else if r = 92 then some 92 else if r = 47 then some 47 else if r = 8 then some 98 else if r = 12 then some 102 else if r = 10 then some 110 else if r = 13 then some 114 else if r = 9 then some 116 else none
def spell (r : Nat) (way : Int) : List UInt8 :=
  if way = 2 then (match markOf r with | some c => [92, c] | none => if 32 ≤ r then Lib.encodeRune (r : Int) else unitS r false)
  else if r < 65536 then unitS r (decide (way = 1))
  else unitS (55296 + (r - 65536) / 1024) (decide (way = 1)) ++ unitS (56320 + r % 1024) (decide (way = 1))
theorem item_unit {r : Nat} (h : Sc r) (h1 : r < 65536) (up : Bool) : Item (unitS r up) (Lib.encodeRune (r : Int)) :=
  item_hex (bd_v up _ (by omega)) (bd_v up _ (by omega)) (bd_v up _ (by omega)) (bd_v up _ (by omega)) (by omega) h
theorem mark_esc {r : Nat} {c : UInt8} (h : markOf r = some c) : escv c = some r ∧ r ≠ 0 := by
  unfold markOf at h
  repeat' split at h
  all_goals first | (injection h with h; subst h; subst_vars; exact ⟨rfl, by decide⟩) | cases h
theorem item_spell {r : Nat} (h : Sc r) (way : Int) : Item (spell r way) (Lib.encodeRune (r : Int)) := by
  unfold spell
  split
  · cases hm : markOf r with
    | some c => exact item_short (mark_esc hm).1
    | none =>
      simp only
      split
      · have : r ≠ 34 ∧ r ≠ 92 := by constructor <;> rintro rfl <;> simp [markOf] at hm
        exact item_plain h (by omega) this.1 this.2
      · exact item_unit h (by omega) false
  · split
    · exact item_unit h (by omega) _
    · have h' := h
      unfold Sc at h'
      exact item_pair (bd_v _ _ (by omega)) (bd_v _ _ (by omega)) (bd_v _ _ (by omega)) (bd_v _ _ (by omega)) (bd_v _ _ (by omega)) (bd_v _ _ (by omega)) (bd_v _ _ (by omega)) (bd_v _ _ (by omega)) rfl rfl (by omega) (by omega) (by omega) (by omega) (by omega)
end Go.Proofs.YtalegkgonbmaoaaDoor
