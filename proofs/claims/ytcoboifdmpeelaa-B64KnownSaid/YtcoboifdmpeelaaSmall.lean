import Derived.Test.YtcoboifdmpeelaaGet
import Derived.Laws.IdiomStrings
namespace Go.Proofs.Ytcoboifdmpeelaa
open Go.RowKit
/-- 'string(b)'. -/
theorem run_str {A : Option Addr} {n c : Nat} {l : List UInt8} {w : World} (h : Rd w 1 A n (Lib.byteCells l)) :
    (convert 22 9 (.slice A n c)).run Try.prog w = .ok (.string ⟨l.toArray⟩) w := by
  have hl : l.length = n := by have := h.1; simpa [Lib.byteCells_length] using this
  rcases Nat.eq_zero_or_pos n with hn | hn
  · subst hn
    obtain rfl : l = [] := List.eq_nil_of_length_eq_zero hl
    rcases A with _ | a
    · rw [run_convert_bytes_string w 22 9 5 none 0 c Try.underlying22 Try.underlying5 Try.underlying9]
      rfl
    · exact run_convert_bytes_back w 22 9 5 a c [] Try.underlying22 Try.underlying5 Try.underlying9 (fun j hj => by simp at hj)
  · obtain ⟨b, o, rfl, _, hcell⟩ := h.2 hn
    rw [← hl]
    refine run_convert_bytes_back w 22 9 5 ⟨b, o, none⟩ c l Try.underlying22 Try.underlying5 Try.underlying9 (fun j hj => ?_)
    rw [spot_add]
    exact hcell j _ (by simp [Lib.byteCells, hj])
theorem str_take (l : List UInt8) (k : Nat) : (ByteArray.mk l.toArray).extract 0 k = ⟨(l.take k).toArray⟩ := by
  apply ByteArray.ext
  apply Array.ext'
  simp [List.extract_eq_take_drop]
set_option maxHeartbeats 1000000 in
theorem copyBytes_any (A : Option Addr) (n c : Nat) (l : List UInt8) (w : World) (h : Rd w 1 A n (Lib.byteCells l)) (hn : n ≤ 1000000) :
    Calls Try.prog 11 #[.slice A n c] w fun e w' => (∃ v, e = .returned v ∧ w'.ownsRow w.heap.size 5 1 v n (Lib.byteCells l)) ∧ Below w.heap.size w w' := by
  obtain ⟨i0, hi, hz0, hz1, hz2⟩ := info_parts (Try.Builder_Extra_169.infoByte : (Try.prog.info? 5).map (fun i => (i.zero, i.size, i.bytes)) = some (some (.int .u8 0), 1, 1))
  have hown := World.ownsRow_nil w w.heap.size 5 1
  go_enter Try.func11, Try.ntmps11
  go_wp2_with (at_builtin; refine wpList_append_rd rfl _ _ _ 22 rfl w.heap.size 5 i0 (.int .u8 0) 1 1 Try.underlying22 hi hz0 hz1 hz2 rfl (by decide) _ 0 [] rfl hown A n c (Lib.byteCells l) rfl h (by intro u hu; simp [Lib.byteCells] at hu; obtain ⟨_, _, rfl⟩ := hu; rfl) (by unfold maxLen; omega) (by omega) (Nat.le_refl _) ?_; intro v' w1 hown1 hg)
  go_ret
  refine ⟨⟨_, rfl, by simpa using hown1⟩, grown_below hown hg (Nat.le_refl _)⟩
set_option maxHeartbeats 1000000 in
theorem eqBytes_any (A : Option Addr) (n c : Nat) (l : List UInt8) (B : Option Addr) (m d : Nat) (r : List UInt8) (w : World) (h : Rd w 1 A n (Lib.byteCells l)) (h2 : Rd w 1 B m (Lib.byteCells r)) :
    Calls Try.prog 14 #[.slice A n c, .slice B m d] w fun e w' => e = .returned (.bool (l == r)) ∧ w = w' := by
  have e1 := run_str (c := c) h
  have e2 := run_str (c := d) h2
  go_enter Try.func14, Try.ntmps14
  go_wp2
  go_ret
  exact ⟨rfl, rfl⟩
set_option maxHeartbeats 1000000 in
theorem short_any (l : List UInt8) (k : Nat) (w : World) (hl : l.length ≤ 4611686018427387904) (hk : k ≤ 100000) :
    Calls Try.prog 16 #[.string ⟨l.toArray⟩, .int .i64 (k : Int)] w fun e w' => e = .returned (.string ⟨(l.take k).toArray⟩) ∧ w = w' := by
  go_enter Try.func16, Try.ntmps16
  go_wp2
  go_ret
  refine ⟨?_, rfl⟩
  have : (min (l.length : Int) (k : Int)).toNat = min l.length k := by omega
  show Ending.returned (.string ((ByteArray.mk l.toArray).extract 0 (min (l.length : Int) (k : Int)).toNat)) = _
  rw [this, str_take]
  congr 4
  rw [Nat.min_comm, ← List.take_take, List.take_length]
/-- Get of s, as 'got' and 'fails' see it. -/
def okOf (l b : List UInt8) : Bool := match dec l with
  | .ok bs => bs == b
  | .bad _ => false
def failsAt (l : List UInt8) (j : Int) : Bool := match dec l with
  | .ok _ => false
  | .bad k => (k : Int) == j
set_option maxHeartbeats 2000000 in
theorem got_any (l b : List UInt8) (w : World) (hl : l.length ≤ 1000000) :
    Calls Try.prog 20 #[.string ⟨l.toArray⟩, .string ⟨b.toArray⟩] w fun e w' => e = .returned (.bool (okOf l b)) ∧ Below w.heap.size w w' := by
  have hget := get_any l w hl
  unfold okOf
  cases hd : dec l with
  | ok bs =>
    rw [hd] at hget
    go_enter Try.func20, Try.ntmps20
    go_wp2_with (go_at_call 17; refine hget.mono ?_; rintro e w' ⟨⟨A, c, rfl, hc, hc', hR⟩, hb⟩; have e1 := run_str (c := c) hR; clear hget)
    all_goals
      go_ret
      exact ⟨by simp <;> first | assumption | omega, hb⟩
  | bad k =>
    rw [hd] at hget
    go_enter Try.func20, Try.ntmps20
    go_wp2_with (go_at_call 17; refine hget.mono ?_; rintro e w' ⟨rfl, hb⟩; have e1 := run_str (A := none) (n := 0) (c := 0) (l := []) (w := w') (Rd.none_ _ _ _); clear hget)
    all_goals
      go_ret
      exact ⟨by simp <;> first | assumption | omega, hb⟩
set_option maxHeartbeats 2000000 in
theorem fails_any (l : List UInt8) (j : Int) (w : World) (hl : l.length ≤ 1000000) :
    Calls Try.prog 22 #[.string ⟨l.toArray⟩, .int .i64 j] w fun e w' => e = .returned (.bool (failsAt l j)) ∧ Below w.heap.size w w' := by
  have hget := get_any l w hl
  unfold failsAt
  cases hd : dec l with
  | ok bs =>
    rw [hd] at hget
    go_enter Try.func22, Try.ntmps22
    go_wp2_with (go_at_call 17; refine hget.mono ?_; rintro e w' ⟨⟨A, c, rfl, hc, hc', hR⟩, hb⟩; clear hget)
    all_goals
      go_ret
      exact ⟨by simp <;> first | assumption | omega, hb⟩
  | bad k =>
    rw [hd] at hget
    go_enter Try.func22, Try.ntmps22
    go_wp2_with (go_at_call 17; refine hget.mono ?_; rintro e w' ⟨rfl, hb⟩; clear hget)
    all_goals
      go_ret
      exact ⟨by simp <;> first | assumption | omega, hb⟩
end Go.Proofs.Ytcoboifdmpeelaa
