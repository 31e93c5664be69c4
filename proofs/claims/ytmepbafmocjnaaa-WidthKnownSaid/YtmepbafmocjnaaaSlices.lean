import Derived.Test.YtmepbafmocjnaaaUp
import Derived.Test.YtmepbafmocjnaaaMem
import Derived.BigQuiet
import Derived.Deep.QuietTactic
namespace Go.Proofs.Ytmepbafmocjnaaa
open Go.RowKit
theorem info3 : (Try.prog.info? 3).map (fun i => (i.zero, i.size, i.bytes)) = some (some (.int .i64 0), 1, 8) := by kernel_rfl
def ints (zs : List Int) : List Value := zs.map (Value.int .i64)
theorem ints_len (zs : List Int) : (ints zs).length = zs.length := by simp [ints]
set_option maxHeartbeats 800000 in
theorem copyInts_any (A : Option Addr) (n c : Nat) (zs : List Int) (w : World) (h : Rd w 1 A n (ints zs)) (hn : n ≤ 1000) :
    Calls Try.prog 19 #[.slice A n c] w fun e w' => (∃ v, e = .returned v ∧ w'.ownsRow w.heap.size 3 1 v n (ints zs)) ∧ Below w.heap.size w w' := by
  obtain ⟨i0, hi, hz0, hz1, hz2⟩ := info_parts info3
  have hown := World.ownsRow_nil w w.heap.size 3 1
  go_enter Try.func19, Try.ntmps19
  go_wp2_with (at_builtin; refine wpList_append_rd rfl _ _ _ 30 rfl w.heap.size 3 i0 (.int .i64 0) 1 8 Try.underlying30 hi hz0 hz1 hz2 rfl (by decide) _ 0 [] rfl hown A n c (ints zs) rfl h (ints_one zs) (by unfold maxLen; omega) (by omega) (Nat.le_refl _) ?_; intro v' w1 hown1 hg)
  simp only [Nat.zero_add, List.nil_append] at hown1
  go_ret
  exact ⟨⟨_, rfl, hown1⟩, grown_below hown hg (Nat.le_refl _)⟩
set_option maxHeartbeats 800000 in
theorem eqInts_same (A B : Option Addr) (n c d : Nat) (zs : List Int) (w : World) (h : Rd w 1 A n (ints zs)) (h' : Rd w 1 B n (ints zs)) (hn : n ≤ 1000) :
    Calls Try.prog 24 #[.slice A n c, .slice B n d] w fun e w' => e = .returned (.bool true) ∧ Below w.heap.size w w' := by
  have hl : zs.length = n := by have := h.1; simpa [ints] using this
  rcases Nat.eq_zero_or_pos n with h0 | h0
  · have HL := Lib.hid hl
    clear hl
    subst h0
    go_enter Try.func24, Try.ntmps24
    go_wp2
    refine wp_loop_rounds 1 ?_
    rw [rounds_succ]
    go_wp2
    go_ret
    exact ⟨rfl, Below.refl _ _⟩
  · obtain ⟨b, o, rfl, _, hc⟩ := h.2 h0
    obtain ⟨b', o', rfl, _, hc'⟩ := h'.2 h0
    have HL := Lib.hid hl
    clear hl
    have HC := Lib.hid hc
    have HC' := Lib.hid hc'
    clear hc hc'
    have hne : ((n : Int) != (n : Int)) = false := by simp
    go_enter Try.func24, Try.ntmps24
    go_wp2
    go_loopw [5] (fun i wr => ∃ k : Nat, k ≤ n ∧ i = .int .i64 k ∧ ∃ q, w.drewN q = wr) (fun i _ => n - (intOf i).toNat)
    case atStart => exact ⟨0, by omega, rfl, 0, rfl⟩
    case round =>
      obtain ⟨k, hk, rfl, q, rfl⟩ := hrel
      by_cases hlt : k < n
      · have hx : (ints zs)[k]? = some (.int .i64 (zs.getD k 0)) := by have := HL.out; simp [ints, List.getD, show k < zs.length by omega]
        have g1 := HC.out k _ hx
        have g2 := HC'.out k _ hx
        clear hx
        go_wp2
        go_quiet (fail)
        go_wp2
        go_roundw
        case rel => exact ⟨k + 1, by omega, by go_num, q + nq, rfl⟩
        case measure => simp [intOf]; omega
      · go_wp2
        go_ret
        exact ⟨rfl, below_drewN (Below.refl _ _) _⟩
def mx (zs : List Int) : Int := zs.foldl max 1
theorem mx_step (zs : List Int) (k : Nat) (hk : k < zs.length) : mx (zs.take (k + 1)) = max (mx (zs.take k)) (zs[k]?.getD 0) := by
  unfold mx
  rw [List.take_succ_eq_append_getElem hk, List.foldl_append]
  simp [List.getElem?_eq_getElem hk]
theorem maxOf_cons (zs : List Int) : Lib.maxOf (1 :: zs) = mx zs := by
  unfold Lib.maxOf mx
  simp
set_option maxHeartbeats 800000 in
theorem rmax_any (A : Option Addr) (n c : Nat) (zs : List Int) (w : World) (h : Rd w 1 A n (ints zs)) (hn : n ≤ 1000) :
    Calls Try.prog 23 #[.slice A n c] w fun e w' => e = .returned (.int .i64 (mx zs)) ∧ w = w' := by
  have hl : zs.length = n := by have := h.1; simpa [ints] using this
  rcases Nat.eq_zero_or_pos n with h0 | h0
  · have hz : zs = [] := List.eq_nil_of_length_eq_zero (by omega)
    rw [hz]
    clear hl hz h
    subst h0
    go_enter Try.func23, Try.ntmps23
    go_wp2
    refine wp_loop_rounds 1 ?_
    rw [rounds_succ]
    go_wp2
    go_ret
    exact ⟨rfl, rfl⟩
  · obtain ⟨b, o, rfl, _, hc⟩ := h.2 h0
    have HL := Lib.hid hl
    have HC := Lib.hid hc
    clear hl hc
    go_enter Try.func23, Try.ntmps23
    go_wp2
    go_loop [3, 4] (fun m i => ∃ k : Nat, k ≤ n ∧ i = .int .i64 k ∧ m = .int .i64 (mx (zs.take k))) (fun _ i => n - (intOf i).toNat)
    case atStart => exact ⟨0, by omega, rfl, rfl⟩
    case round =>
      obtain ⟨k, hk, rfl, rfl⟩ := hrel
      by_cases hlt : k < n
      · have hx : (ints zs)[k]? = some (.int .i64 (zs.getD k 0)) := by have := HL.out; simp [ints, List.getD, show k < zs.length by omega]
        have g1 := HC.out k _ hx
        clear hx
        go_wp2
        go_round
        case rel => exact ⟨k + 1, by omega, by go_num, by rw [mx_step zs k (by have := HL.out; omega)]⟩
        case measure => simp [intOf]; omega
      · go_wp2
        go_ret
        exact ⟨ret_i64 (by rw [List.take_of_length_le (by have := HL.out; omega)]), rfl⟩
set_option maxHeartbeats 800000 in
theorem max_any (A : Option Addr) (n c : Nat) (zs : List Int) (w : World) (h : Rd w 1 A n (ints zs)) (hn : n ≤ 1000) :
    Calls Try.prog 22 #[.slice A n c] w fun e w' => e = .returned (.int .i64 (mx zs)) ∧ Below w.heap.size w w' := by
  obtain ⟨i0, hi, hz0, hz1, hz2⟩ := info_parts info3
  have hown := World.ownsRow_lit (base := w.heap.size) (e := 3) (size := 1) w #[.int .i64 1] 1 (Nat.le_refl _) (by unfold maxLen; omega) rfl
  have h1 := h.alloc (.cells #[.int .i64 1] 3)
  go_enter Try.func22, Try.ntmps22
  go_wp2_with (at_builtin; refine wpList_append_rd rfl _ _ _ 30 rfl w.heap.size 3 i0 (.int .i64 0) 1 8 Try.underlying30 hi hz0 hz1 hz2 rfl (by decide) _ 1 _ rfl hown A n c (ints zs) rfl h1 (ints_one zs) (by unfold maxLen; omega) (by omega) (by simp) ?_; intro v' w1 hown1 hg)
  obtain ⟨A', c', rfl, hc1, hc2⟩ := own_shape hown1
  obtain ⟨b, off, rfl, hb, hcell⟩ := (Rd.of_own hown1).2 (by omega)
  have hl : zs.length = n := by have := h.1; simpa [ints] using this
  go_wp2_with fail
  refine (Try.slices_Max_int b off (1 + n) c' (1 :: zs) w1 (by omega) (by simp; omega) (by omega) (fun j hj => ?_)).mono ?_
  · refine hcell j _ ?_
    simp only [ints, List.singleton_append, ← List.map_cons, List.getElem?_map, List.getD]
    rw [List.getElem?_eq_getElem hj]
    rfl
  · rintro e w' ⟨rfl, rfl⟩
    go_wp2
    go_ret
    refine ⟨ret_i64 ?_, ((Below.refl _ _).alloc (Nat.le_refl _) _).trans (grown_below hown hg (by simp))⟩
    rw [List.take_of_length_le (by simp; omega)]
    exact maxOf_cons zs
end Go.Proofs.Ytmepbafmocjnaaa
