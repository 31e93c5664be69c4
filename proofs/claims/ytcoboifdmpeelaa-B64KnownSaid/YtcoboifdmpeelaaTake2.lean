import Derived.Test.YtcoboifdmpeelaaTake
namespace Go.Proofs.Ytcoboifdmpeelaa
open Go.RowKit
theorem grown_drewN' {w w' : World} {g : Nat} (k : Nat) (h : w.grownBy w' (some g)) : w.grownBy (w'.drewN k) (some g) := ⟨h.os, h.tape, h.output, h.size, h.block⟩
theorem and15 {x : Int} (hx : 0 ≤ x) (hx1 : x < 281474976710656) : bits .and .i64 x 15 = x % 16 :=
  bits_mask .i64 62 (by decide) (fun n h0 h1 => by rw [IntKind.wrap_i64]; omega) 4 (by decide) x hx (by omega)
theorem and3 {x : Int} (hx : 0 ≤ x) (hx1 : x < 281474976710656) : bits .and .i64 x 3 = x % 4 :=
  bits_mask .i64 62 (by decide) (fun n h0 h1 => by rw [IntKind.wrap_i64]; omega) 2 (by decide) x hx (by omega)
set_option maxRecDepth 100000 in
set_option maxHeartbeats 8000000 in
theorem take_bits (g n d r : Nat) (w : World) (h : Grp w g n d 0) (hd : d = 2 ∨ d = 3) (hn : n < 262144) (hr : n % 2 ^ (2 * (4 - d)) = r) (hr0 : r ≠ 0) :
    Calls Try.prog 28 #[.pointer (some ⟨g, 0, none⟩), .int .u8 61] w fun e w' => e = .returned (.bool false) ∧ w.grownBy w' (some g) := by
  have c0 := h.c0
  have c2 : w.cell? ⟨g, 2, none⟩ = some (.int .i64 0) := h.c2
  have f2 := h.fz 2
  have hm := nb61
  obtain ⟨c, hc⟩ : ∃ c : UInt8, c = 61 := ⟨_, rfl⟩
  rw [← hc] at hm
  have e61 : (61 : Int) = (c.toNat : Int) := by rw [hc]; rfl
  have hcb : ((c.toNat : Int) != 61) = false := by rw [← e61]; rfl
  rw [e61]
  clear e61 hc
  have hrb : ((r : Int) != 0) = true := by simp; omega
  rcases hd with rfl | rfl
  · have q : bits .and .i64 (n : Int) 15 = (r : Int) := by rw [and15 (by omega) (by omega)]; simp at hr; omega
    have c1 : w.cell? ⟨g, 1, none⟩ = some (.int .i64 2) := h.c1
    clear hr
    go_enter Try.func28, Try.ntmps28
    go_wp2_with (go_at_call 33; refine (idx_any c _ hm _).mono ?_; rintro e w' ⟨rfl, rfl⟩)
    go_quiet (fail)
    all_goals
      go_wp2
      go_ret
      exact ⟨rfl, grown_drewN' _ (World.grownBy.refl _ _)⟩
  · have q : bits .and .i64 (n : Int) 3 = (r : Int) := by rw [and3 (by omega) (by omega)]; simp at hr; omega
    have c1 : w.cell? ⟨g, 1, none⟩ = some (.int .i64 3) := h.c1
    clear hr
    go_enter Try.func28, Try.ntmps28
    go_wp2_with (go_at_call 33; refine (idx_any c _ hm _).mono ?_; rintro e w' ⟨rfl, rfl⟩)
    go_quiet (fail)
    all_goals
      go_wp2
      go_ret
      exact ⟨rfl, grown_drewN' _ (World.grownBy.refl _ _)⟩
set_option maxRecDepth 100000 in
set_option maxHeartbeats 8000000 in
theorem take_pad (g n d r : Nat) (w : World) (h : Grp w g n d 0) (hd : d = 2 ∨ d = 3) (hn : n < 262144) (hr : n % 2 ^ (2 * (4 - d)) = r) (hr0 : r = 0) :
    Calls Try.prog 28 #[.pointer (some ⟨g, 0, none⟩), .int .u8 61] w fun e w' => e = .returned (.bool true) ∧ Grp w' g n d 1 ∧ w.grownBy w' (some g) := by
  have c0 := h.c0
  have c2 : w.cell? ⟨g, 2, none⟩ = some (.int .i64 0) := h.c2
  have f2 := h.fz 2
  have hm := nb61
  obtain ⟨c, hc⟩ : ∃ c : UInt8, c = 61 := ⟨_, rfl⟩
  rw [← hc] at hm
  have e61 : (61 : Int) = (c.toNat : Int) := by rw [hc]; rfl
  have hcb : ((c.toNat : Int) != 61) = false := by rw [← e61]; rfl
  rw [e61]
  clear e61 hc
  have hrb : ((r : Int) != 0) = false := by simp; omega
  clear hr0
  rcases hd with rfl | rfl
  · have q : bits .and .i64 (n : Int) 15 = (r : Int) := by rw [and15 (by omega) (by omega)]; simp at hr; omega
    have c1 : w.cell? ⟨g, 1, none⟩ = some (.int .i64 2) := h.c1
    clear hr
    go_enter Try.func28, Try.ntmps28
    go_wp2_with (go_at_call 33; refine (idx_any c _ hm _).mono ?_; rintro e w' ⟨rfl, rfl⟩)
    go_quiet (fail)
    all_goals
      go_wp2
      go_ret
      exact ⟨rfl, h.put2 1, grown_set (grown_drewN' _ (World.grownBy.refl _ _)) _ _⟩
  · have q : bits .and .i64 (n : Int) 3 = (r : Int) := by rw [and3 (by omega) (by omega)]; simp at hr; omega
    have c1 : w.cell? ⟨g, 1, none⟩ = some (.int .i64 3) := h.c1
    clear hr
    go_enter Try.func28, Try.ntmps28
    go_wp2_with (go_at_call 33; refine (idx_any c _ hm _).mono ?_; rintro e w' ⟨rfl, rfl⟩)
    go_quiet (fail)
    all_goals
      go_wp2
      go_ret
      exact ⟨rfl, h.put2 1, grown_set (grown_drewN' _ (World.grownBy.refl _ _)) _ _⟩
set_option maxRecDepth 100000 in
set_option maxHeartbeats 8000000 in
theorem take_pad2 (g n d p : Nat) (w : World) (h : Grp w g n d p) (hd : 2 ≤ d) (hp : 0 < p) (hp4 : p < 4) :
    Calls Try.prog 28 #[.pointer (some ⟨g, 0, none⟩), .int .u8 61] w fun e w' => e = .returned (.bool true) ∧ Grp w' g n d (p + 1) ∧ w.grownBy w' (some g) := by
  have c0 := h.c0
  have c1 := h.c1
  have c2 := h.c2
  have f2 := h.fz 2
  have hm := nb61
  obtain ⟨c, hc⟩ : ∃ c : UInt8, c = 61 := ⟨_, rfl⟩
  rw [← hc] at hm
  have e61 : (61 : Int) = (c.toNat : Int) := by rw [hc]; rfl
  have hcb : ((c.toNat : Int) != 61) = false := by rw [← e61]; rfl
  have hpb : ((p : Int) == 0) = false := by simp; omega
  rw [e61]
  clear e61 hc
  go_enter Try.func28, Try.ntmps28
  go_wp2_with (go_at_call 33; refine (idx_any c _ hm _).mono ?_; rintro e w' ⟨rfl, rfl⟩)
  go_quiet (fail)
  all_goals
    go_wp2
    go_ret
    exact ⟨rfl, h.put2 (p + 1), grown_set (grown_drewN' _ (World.grownBy.refl _ _)) _ _⟩
theorem whole_any (g n d p : Nat) (w : World) (h : Grp w g n d p) (hd : d ≤ 4) (hp : p ≤ 4) :
    Calls Try.prog 27 #[.pointer (some ⟨g, 0, none⟩)] w fun e w' => e = .returned (.bool (decide (d + p = 4))) ∧ ∃ k, w' = w.drewN k := by
  have c1 := h.c1
  have c2 := h.c2
  have hb : ((d : Int) + (p : Int) == 4) = decide (d + p = 4) := by
    by_cases hh : d + p = 4
    · simp [hh]; omega
    · simp [hh]; omega
  go_enter Try.func27, Try.ntmps27
  go_wp2
  go_quiet (fail)
  all_goals
    go_wp2
    go_ret
    exact ⟨rfl, _, rfl⟩
end Go.Proofs.Ytcoboifdmpeelaa
