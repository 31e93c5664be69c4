import Derived.Test.YtcoboifdmpeelaaSame
import Derived.Test.YtcoboifdmpeelaaMem2
import Derived.Deep.RegionWith
import Derived.BigQuiet
import Derived.Deep.QuietTactic
namespace Go.Proofs.Ytcoboifdmpeelaa
open Go.RowKit
def nb (c : UInt8) : Int := Lib.indexByte alphaS.data.toList c
theorem idx_any (c : UInt8) (m : Int) (hm : nb c = m) (w : World) : Calls Try.prog 33 #[.string alphaS, .int .u8 (c.toNat : Int)] w fun e w' => e = .returned (.int .i64 m) ∧ w' = w := by
  refine (Try.strings_IndexByte alphaS (c.toNat : Int) w).mono ?_
  rintro e w' ⟨rfl, rfl⟩
  refine ⟨?_, rfl⟩
  rw [← hm, nb]
  simp
/-- The group's three fields, in its block. -/
def Grp (w : World) (g : Nat) (n d p : Nat) : Prop := w.heap[g]? = some (.cells #[.int .i64 (n : Int), .int .i64 (d : Int), .int .i64 (p : Int)] 51 (0, 0))
section
variable {w : World} {g n d p : Nat} (h : Grp w g n d p)
include h
theorem Grp.c0 : w.cell? ⟨g, 0, none⟩ = some (.int .i64 n) := by rw [Lib.cell_of_heap h]; rfl
theorem Grp.c1 : w.cell? ⟨g, 1, none⟩ = some (.int .i64 d) := by rw [Lib.cell_of_heap h]; rfl
theorem Grp.c2 : w.cell? ⟨g, 2, none⟩ = some (.int .i64 p) := by rw [Lib.cell_of_heap h]; rfl
theorem Grp.put0 (m : Nat) : Grp (w.setCell ⟨g, 0, none⟩ (.int .i64 (m : Int))) g m d p := by
  unfold Grp at *
  simp [World.setCell, Array.getElem?_modify, h]
theorem Grp.put1 (m : Nat) : Grp (w.setCell ⟨g, 1, none⟩ (.int .i64 (m : Int))) g n m p := by
  unfold Grp at *
  simp [World.setCell, Array.getElem?_modify, h]
theorem Grp.put2 (m : Nat) : Grp (w.setCell ⟨g, 2, none⟩ (.int .i64 (m : Int))) g n d m := by
  unfold Grp at *
  simp [World.setCell, Array.getElem?_modify, h]
theorem Grp.fz (k : Nat) : w.frozen? ⟨g, k, none⟩ = false := Lib.frozen_of_heap h k
end
theorem wrapi_id {n : Int} (h0 : 0 ≤ n) (h1 : n < 9223372036854775808) : IntKind.i64.wrap n = n := by rw [IntKind.wrap_i64]; omega
theorem grown_set {w w' : World} {g : Nat} (h : w.grownBy w' (some g)) (k : Nat) (v : Value) : w.grownBy (w'.setCell ⟨g, k, none⟩ v) (some g) :=
  ⟨h.os, h.tape, h.output, by simpa [World.setCell] using h.size, fun j hj hk => (Below.heap_setCell _ _ _ _ (fun e => hk (by simp [e]))).trans (h.block j hj hk)⟩
theorem grown_drew' {w w' : World} {g : Nat} (h : w.grownBy w' (some g)) : w.grownBy w'.drew (some g) := ⟨h.os, h.tape, h.output, h.size, h.block⟩
theorem nb61 : nb 61 = -1 := by decide +kernel
theorem Grp.drew_ {w : World} {g n d p : Nat} (h : Grp w g n d p) : Grp w.drew g n d p := h
set_option maxRecDepth 100000 in
set_option maxHeartbeats 4000000 in
theorem take_digit (g n d p : Nat) (c : UInt8) (m : Nat) (w : World) (h : Grp w g n d p) (hp : p = 0) (hm : nb c = (m : Int)) (hm2 : m < 64) (hn : n < 262144) (hd : d < 4) :
    Calls Try.prog 28 #[.pointer (some ⟨g, 0, none⟩), .int .u8 (c.toNat : Int)] w fun e w' => e = .returned (.bool true) ∧ Grp w' g (n * 64 + m) (d + 1) p ∧ w.grownBy w' (some g) := by
  subst hp
  have eN : bits .or .i64 (IntKind.i64.wrap ((n : Int) * 64)) (m : Int) = ((n * 64 + m : Nat) : Int) := by
    rw [wrapi_id (by omega) (by omega), bits_join .i64 62 (by decide) (fun n h0 h1 => by rw [IntKind.wrap_i64]; omega) 6 _ _ (by omega) (by omega) (by omega) (by omega) (by omega) (by omega)]
    omega
  have eD : IntKind.i64.wrap ((d : Int) + 1) = ((d + 1 : Nat) : Int) := by rw [wrapi_id (by omega) (by omega)]; rfl
  have c0 := h.c0
  have c1 := h.c1
  have c2 := h.c2
  have f0 := h.fz 0
  have f1 := h.fz 1
  go_enter Try.func28, Try.ntmps28
  go_wp2_with (go_at_call 33; refine (idx_any c _ hm _).mono ?_; rintro e w' ⟨rfl, rfl⟩)
  go_region_with fail
  all_goals
    go_wp2
    go_ret
    refine ⟨rfl, ?_, ?_⟩
    · first | exact (h.put0 (n * 64 + m)).put1 (d + 1) | exact (h.put1 (d + 1)).put0 (n * 64 + m)
    · exact grown_drew' (grown_set (grown_set (World.grownBy.refl _ _) _ _) _ _)
set_option maxRecDepth 100000 in
set_option maxHeartbeats 4000000 in
theorem take_other (g n d p : Nat) (c : UInt8) (m : Int) (w : World) (h : Grp w g n d p) (hm : nb c = m) (hmp : m < 0 ∨ (0 ≤ m ∧ p ≠ 0)) (hc : c.toNat ≠ 61) :
    Calls Try.prog 28 #[.pointer (some ⟨g, 0, none⟩), .int .u8 (c.toNat : Int)] w fun e w' => e = .returned (.bool false) ∧ w.grownBy w' (some g) := by
  have c0 := h.c0
  have c1 := h.c1
  have c2 := h.c2
  have hcb : ((c.toNat : Int) != 61) = true := by simp; omega
  rcases hmp with h0 | ⟨h0, h1⟩
  · go_enter Try.func28, Try.ntmps28
    go_wp2_with (go_at_call 33; refine (idx_any c _ hm _).mono ?_; rintro e w' ⟨rfl, rfl⟩)
    go_ret
    exact ⟨rfl, World.grownBy.refl _ _⟩
  · have hpb : ((p : Int) == 0) = false := by simp; omega
    go_enter Try.func28, Try.ntmps28
    go_wp2_with (go_at_call 33; refine (idx_any c _ hm _).mono ?_; rintro e w' ⟨rfl, rfl⟩)
    go_ret
    exact ⟨rfl, World.grownBy.refl _ _⟩
set_option maxRecDepth 100000 in
set_option maxHeartbeats 4000000 in
theorem take_early (g n d p : Nat) (w : World) (h : Grp w g n d p) (hd : d < 2) :
    Calls Try.prog 28 #[.pointer (some ⟨g, 0, none⟩), .int .u8 61] w fun e w' => e = .returned (.bool false) ∧ w.grownBy w' (some g) := by
  have c0 := h.c0
  have c1 := h.c1
  have c2 := h.c2
  have hm := nb61
  obtain ⟨c, hc⟩ : ∃ c : UInt8, c = 61 := ⟨_, rfl⟩
  rw [← hc] at hm
  have e61 : (61 : Int) = (c.toNat : Int) := by rw [hc]; rfl
  have E61 := Lib.hid e61
  have hcb : ((c.toNat : Int) != 61) = false := by rw [← e61]; rfl
  rw [e61]
  clear e61 hc
  go_enter Try.func28, Try.ntmps28
  go_wp2_with (go_at_call 33; refine (idx_any c _ hm _).mono ?_; rintro e w' ⟨rfl, rfl⟩)
  go_ret
  exact ⟨rfl, World.grownBy.refl _ _⟩
end Go.Proofs.Ytcoboifdmpeelaa
