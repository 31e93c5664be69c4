import Derived.Test.YteoggaioleckhaaMem
import Derived.Test.YteoggaioleckhaaMem2
import Derived.Test.YteoggaioleckhaaShelf
import Derived.BigRegion
import Derived.IntWalk
import Derived.BigQuiet
import Derived.Deep.QuietTactic
import Derived.Deep.DeepCutAuto
/- Trees in memory; the constructors num, vec, key, table. -/
set_option linter.unusedVariables false
set_option linter.unusedSimpArgs false
namespace Go.Proofs.Yteoggaioleckhaa
open Go.RowKit
/-- A node: its fields, the slices of its keys and children as values, what these hold. -/
inductive NT where
  | mk (k n u : Int) (s : List UInt8) (kv : Value) (keys : List (List UInt8)) (lv : Value) (l : List NT)
def NT.kind : NT → Int | .mk k _ _ _ _ _ _ _ => k
def NT.kids : NT → List NT | .mk _ _ _ _ _ _ _ l => l
def NT.keys : NT → List (List UInt8) | .mk _ _ _ _ _ ks _ _ => ks
def NT.cells : NT → List Value
  | .mk k n u s kv _ lv _ => [.int .i64 k, .int .i64 n, .int .u64 u, .string ⟨s.toArray⟩, kv, lv]
def NT.val (t : NT) : Value := .agg t.cells.toArray
def strv (s : List UInt8) : Value := .string ⟨s.toArray⟩
theorem cells_len (t : NT) : t.cells.length = 6 := by cases t; rfl
mutual
/-- The node lies in w. -/
def Is (w : World) : NT → Prop
  | .mk k n u s kv keys lv l =>
    ((Lit.int .i64 k).wf = true ∧ (Lit.int .i64 n).wf = true ∧ (Lit.int .u64 u).wf = true ∧ s.length ≤ 140737488355328 ∧ (∀ x ∈ keys, x.length ≤ 140737488355328)) ∧
    (∃ A c, kv = .slice A keys.length c ∧ keys.length ≤ 140737488355328 ∧ Rd w 1 A keys.length (keys.map strv)) ∧
    (∃ A c, lv = .slice A l.length c ∧ l.length ≤ 140737488355328 ∧ Rd w 6 A l.length (l.flatMap NT.cells)) ∧ IsL w l
def IsL (w : World) : List NT → Prop
  | [] => True
  | t :: l => Is w t ∧ IsL w l
end
mutual
theorem Is.below {w w' : World} (hb : Below w.heap.size w w') : ∀ {t : NT}, Is w t → Is w' t
  | .mk k n u s kv keys lv l, h => by
    rw [Is] at h ⊢
    obtain ⟨h1, ⟨A, c, e1, e2, e3⟩, ⟨B, d, f1, f2, f3⟩, hl⟩ := h
    exact ⟨h1, ⟨A, c, e1, e2, e3.below hb⟩, ⟨B, d, f1, f2, f3.below hb⟩, hl.below hb⟩
theorem IsL.below {w w' : World} (hb : Below w.heap.size w w') : ∀ {l : List NT}, IsL w l → IsL w' l
  | [], _ => by rw [IsL]; trivial
  | t :: l, h => by
    rw [IsL] at h ⊢
    exact ⟨h.1.below hb, h.2.below hb⟩
end
theorem isL_mem {w : World} : ∀ {l : List NT}, IsL w l → ∀ x ∈ l, Is w x
  | [], _, x, hx => by cases hx
  | t :: l, h, x, hx => by
    rw [IsL] at h
    rcases List.mem_cons.1 hx with rfl | hx
    · exact h.1
    · exact isL_mem h.2 x hx
theorem isL_of {w : World} : ∀ {l : List NT}, (∀ x ∈ l, Is w x) → IsL w l
  | [], _ => by rw [IsL]; trivial
  | t :: l, h => by
    rw [IsL]
    exact ⟨h t (by simp), isL_of fun x hx => h x (by simp [hx])⟩
theorem Is.alloc {w : World} {t : NT} (h : Is w t) (o : Obj) : Is (w.alloc o) t := h.below ((Below.refl _ _).alloc (Nat.le_refl _) o)
def numT (n : Int) : NT := .mk 3 n 0 [] (.slice none 0 0) [] (.slice none 0 0) []
def vecT (lv : Value) (l : List NT) : NT := .mk 10 0 0 [] (.slice none 0 0) [] lv l
def keyT (s : List UInt8) : NT := .mk 5 0 0 s (.slice none 0 0) [] (.slice none 0 0) []
def tableT (kv : Value) (ks : List (List UInt8)) (lv : Value) (l : List NT) : NT := .mk 17 0 0 [] kv ks lv l
theorem info26 : (Try.prog.info? 26).map (·.size) = some 6 := by kernel_rfl
theorem num_any (n : Int) (w : World) : Calls Try.prog 17 #[.int .i64 n] w fun e w' => e = .returned (numT n).val ∧ Below w.heap.size w w' := by
  go_enter Try.func17, Try.ntmps17
  go_wp2
  (try simp only [Exit.inBlock, Exit.then]); refine bodyPost_ret (results_cell_row rfl _ _ w.heap.size 26 _ (0, 0) _ rfl (heap_alloc_new w _) Try.underlying26 rfl info26) rfl ?_
  exact ⟨rfl, (Below.refl _ _).alloc (Nat.le_refl _) _⟩
theorem key_any (s : List UInt8) (w : World) : Calls Try.prog 29 #[.string ⟨s.toArray⟩] w fun e w' => e = .returned (keyT s).val ∧ Below w.heap.size w w' := by
  go_enter Try.func29, Try.ntmps29
  go_wp2
  (try simp only [Exit.inBlock, Exit.then]); refine bodyPost_ret (results_cell_row rfl _ _ w.heap.size 26 _ (0, 0) _ rfl (heap_alloc_new w _) Try.underlying26 rfl info26) rfl ?_
  exact ⟨rfl, (Below.refl _ _).alloc (Nat.le_refl _) _⟩
theorem vec_any (A : Option Addr) (n c : Nat) (l : List NT) (w : World) : Calls Try.prog 16 #[.slice A n c] w fun e w' => e = .returned (vecT (.slice A n c) l).val ∧ Below w.heap.size w w' := by
  go_enter Try.func16, Try.ntmps16
  go_wp2
  (try simp only [Exit.inBlock, Exit.then]); refine bodyPost_ret (results_cell_row rfl _ _ w.heap.size 26 _ (0, 0) _ rfl (heap_alloc_new w _) Try.underlying26 rfl info26) rfl ?_
  exact ⟨rfl, (Below.refl _ _).alloc (Nat.le_refl _) _⟩
theorem table_any (A : Option Addr) (n c : Nat) (ks : List (List UInt8)) (B : Option Addr) (m d : Nat) (l : List NT) (w : World) : Calls Try.prog 30 #[.slice A n c, .slice B m d] w fun e w' => e = .returned (tableT (.slice A n c) ks (.slice B m d) l).val ∧ Below w.heap.size w w' := by
  go_enter Try.func30, Try.ntmps30
  go_wp2
  (try simp only [Exit.inBlock, Exit.then]); refine bodyPost_ret (results_cell_row rfl _ _ w.heap.size 26 _ (0, 0) _ rfl (heap_alloc_new w _) Try.underlying26 rfl info26) rfl ?_
  exact ⟨rfl, (Below.refl _ _).alloc (Nat.le_refl _) _⟩
theorem bring_eq (i n : Int) (hn : 0 < n) : (i.tmod n < 0 → i % n = i.tmod n + n) ∧ (¬ i.tmod n < 0 → i % n = i.tmod n) ∧ -n < i.tmod n ∧ i.tmod n < n := by
  have h := Int.tmod_eq_emod (a := i) (b := n)
  have h1 := Int.emod_nonneg i (by omega : n ≠ 0)
  have h2 := Int.emod_lt_of_pos i hn
  have e : (n.natAbs : Int) = n := by omega
  by_cases hh : 0 ≤ i ∨ n ∣ i
  · rw [if_pos hh] at h; omega
  · rw [if_neg hh] at h
    have : ¬ (i % n = 0) := fun z => hh (Or.inr (Int.dvd_of_emod_eq_zero z))
    omega
theorem ret_i64 {a b : Int} (h : a = b) : Ending.returned (.int .i64 a) = .returned (.int .i64 b) := by rw [h]
set_option maxHeartbeats 400000 in
theorem bring_any (i n : Int) (hn : 0 < n) (hn' : n ≤ 9007199254740992) (w : World) : Calls Try.prog 14 #[.int .i64 i, .int .i64 n] w fun e w' => e = .returned (.int .i64 (i % n)) ∧ w' = w := by
  obtain ⟨b1, b2, b3, b4⟩ := bring_eq i n hn
  have hz : (n == 0) = false := by simp; omega
  by_cases h : i.tmod n < 0
  · have B := Lib.hid (b1 h)
    clear b1 b2
    go_enter Try.func14, Try.ntmps14
    go_wp2
    go_ret
    exact ⟨ret_i64 (by rw [B.out]), rfl⟩
  · have B := Lib.hid (b2 h)
    clear b1 b2
    go_enter Try.func14, Try.ntmps14
    go_wp2
    go_ret
    exact ⟨ret_i64 (by rw [B.out]), rfl⟩

end Go.Proofs.Yteoggaioleckhaa
