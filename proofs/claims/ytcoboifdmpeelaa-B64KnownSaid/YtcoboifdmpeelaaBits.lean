import Derived.Test.YtcoboifdmpeelaaPlain
import Derived.Test.YtcoboifdmpeelaaMem2
import Derived.BigQuiet
import Derived.Deep.QuietTactic
namespace Go.Proofs.Ytcoboifdmpeelaa
open Go.RowKit
def bits8 (x : Nat) : List Nat := [x / 128 % 2, x / 64 % 2, x / 32 % 2, x / 16 % 2, x / 8 % 2, x / 4 % 2, x / 2 % 2, x % 2]
def bitsOf (l : List UInt8) : List Nat := l.flatMap fun x => bits8 x.toNat
def nats (l : List Nat) : List Value := l.map fun (x : Nat) => Value.int .i64 (x : Int)
theorem nats_app (a b : List Nat) : nats (a ++ b) = nats a ++ nats b := by simp [nats]
theorem bitsOf_app (a b : List UInt8) : bitsOf (a ++ b) = bitsOf a ++ bitsOf b := by simp [bitsOf]
theorem nats_one (l : List Nat) : ∀ u ∈ nats l, u.oneCell' = true := by
  intro u hu; simp [nats] at hu; obtain ⟨_, _, rfl⟩ := hu; rfl
theorem info3' : (Try.prog.info? 3).map (fun i => (i.zero, i.size, i.bytes)) = some (some (.int .i64 0), 1, 8) := by kernel_rfl
set_option maxRecDepth 100000 in
set_option maxHeartbeats 8000000 in
theorem bits_any (A : Option Addr) (n c : Nat) (l : List UInt8) (w : World) (hA : Rd w 1 A n (Lib.byteCells l)) (hn : n ≤ 1000000) :
    Calls Try.prog 26 #[.slice A n c] w fun e w' => (∃ v, e = .returned v ∧ w'.ownsRow w.heap.size 3 1 v (8 * n) (nats (bitsOf l))) ∧ Below w.heap.size w w' := by
  obtain ⟨i0, hi, hz0, hz1, hz2⟩ := info_parts info3'
  have hl : l.length = n := by have := hA.1; simpa [Lib.byteCells_length] using this
  go_enter Try.func26, Try.ntmps26
  go_wp2
  go_loopw [3, 4] (fun v i wr => ∃ k : Nat, k ≤ n ∧ i = .int .i64 k ∧ wr.ownsRow w.heap.size 3 1 v (8 * k) (nats (bitsOf (l.take k))) ∧ Below w.heap.size w wr) (fun _ i _ => n - (intOf i).toNat)
  case atStart => exact ⟨0, by omega, rfl, by simpa [bitsOf, nats] using World.ownsRow_nil w w.heap.size 3 1, Below.refl _ w⟩
  case round =>
    obtain ⟨k, hk, rfl, hown, hb⟩ := hrel
    by_cases hlt : k < n
    · obtain ⟨b, o, rfl, hbl, hcell⟩ := (hA.below hb).2 (by omega)
      obtain ⟨x, hx⟩ : ∃ x, l[k]? = some x := ⟨_, List.getElem?_eq_getElem (by omega)⟩
      have g := hcell k (.int .u8 x.toNat) (by simp [Lib.byteCells, hx])
      have bx := x.toNat_lt
      obtain ⟨x', hx'⟩ : ∃ x' : Nat, x.toNat = x' := ⟨_, rfl⟩
      rw [hx'] at g bx
      clear hcell hA
      have hk' : k < l.length := by omega
      have ex : bitsOf (l.take (k + 1)) = bitsOf (l.take k) ++ bits8 x' := by
        rw [List.getElem?_eq_getElem hk'] at hx
        injection hx with hx
        rw [List.take_succ_eq_append_getElem hk', hx, bitsOf_app, ← hx']
        simp [bitsOf]
      have EX := Lib.hid ex
      clear ex hx hx' hl hk'
      have hsz := hb.size
      go_wp2
      refine wp_loop_rounds 9 ?_
      rw [rounds_succ]
      go_wp2_with (at_builtin; refine wpList_append_one rfl w _ _ _ 48 rfl w.heap.size 3 i0 (.int .i64 0) 8 Try.underlying48 hi hz0 hz1 hz2 rfl _ _ _ rfl hown _ rfl rfl (by omega) (by omega) hb (Nat.le_refl _) ?_; clear hown hb; intro v' w' hown hb)
      rw [rounds_succ]
      go_wp2_with (at_builtin; refine wpList_append_one rfl w _ _ _ 48 rfl w.heap.size 3 i0 (.int .i64 0) 8 Try.underlying48 hi hz0 hz1 hz2 rfl _ _ _ rfl hown _ rfl rfl (by omega) (by omega) hb (Nat.le_refl _) ?_; clear hown hb; intro v' w' hown hb)
      rw [rounds_succ]
      go_wp2_with (at_builtin; refine wpList_append_one rfl w _ _ _ 48 rfl w.heap.size 3 i0 (.int .i64 0) 8 Try.underlying48 hi hz0 hz1 hz2 rfl _ _ _ rfl hown _ rfl rfl (by omega) (by omega) hb (Nat.le_refl _) ?_; clear hown hb; intro v' w' hown hb)
      rw [rounds_succ]
      go_wp2_with (at_builtin; refine wpList_append_one rfl w _ _ _ 48 rfl w.heap.size 3 i0 (.int .i64 0) 8 Try.underlying48 hi hz0 hz1 hz2 rfl _ _ _ rfl hown _ rfl rfl (by omega) (by omega) hb (Nat.le_refl _) ?_; clear hown hb; intro v' w' hown hb)
      rw [rounds_succ]
      go_wp2_with (at_builtin; refine wpList_append_one rfl w _ _ _ 48 rfl w.heap.size 3 i0 (.int .i64 0) 8 Try.underlying48 hi hz0 hz1 hz2 rfl _ _ _ rfl hown _ rfl rfl (by omega) (by omega) hb (Nat.le_refl _) ?_; clear hown hb; intro v' w' hown hb)
      rw [rounds_succ]
      go_wp2_with (at_builtin; refine wpList_append_one rfl w _ _ _ 48 rfl w.heap.size 3 i0 (.int .i64 0) 8 Try.underlying48 hi hz0 hz1 hz2 rfl _ _ _ rfl hown _ rfl rfl (by omega) (by omega) hb (Nat.le_refl _) ?_; clear hown hb; intro v' w' hown hb)
      rw [rounds_succ]
      go_wp2_with (at_builtin; refine wpList_append_one rfl w _ _ _ 48 rfl w.heap.size 3 i0 (.int .i64 0) 8 Try.underlying48 hi hz0 hz1 hz2 rfl _ _ _ rfl hown _ rfl rfl (by omega) (by omega) hb (Nat.le_refl _) ?_; clear hown hb; intro v' w' hown hb)
      rw [rounds_succ]
      go_wp2_with (at_builtin; refine wpList_append_one rfl w _ _ _ 48 rfl w.heap.size 3 i0 (.int .i64 0) 8 Try.underlying48 hi hz0 hz1 hz2 rfl _ _ _ rfl hown _ rfl rfl (by omega) (by omega) hb (Nat.le_refl _) ?_; clear hown hb; intro v' w' hown hb)
      rw [rounds_succ]
      go_wp2
      go_roundw
      case rel =>
        refine ⟨k + 1, by omega, by rfl, ?_, hb⟩
        rw [EX.out, nats_app]
        simp only [List.append_assoc, List.cons_append, List.nil_append] at hown
        exact hown
      case measure => simp [intOf]; omega
    · obtain rfl : k = n := by omega
      rw [← hl, List.take_length, hl] at hown
      go_wp2
      go_ret
      exact ⟨⟨_, rfl, hown⟩, hb⟩
end Go.Proofs.Ytcoboifdmpeelaa
