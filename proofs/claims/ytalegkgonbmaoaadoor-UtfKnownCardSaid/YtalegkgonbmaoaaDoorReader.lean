import Derived.Test.YtalegkgonbmaoaaDoorBuild
import Derived.Test.YtalegkgonbmaoaaDoorFull
import Derived.Test.YtalegkgonbmaoaaDoorMem
/- The reader in memory; its small methods. -/
set_option linter.unusedVariables false
namespace Go.Proofs.YtalegkgonbmaoaaDoor
open Go.RowKit
theorem BIn.set {B b o : Nat} {T : TypeId} {cs : Array Value} {p v : Value} {bs : List Value} {w : World} (h : BIn B b o T cs p v bs w) (j : Nat) (x : Value) (h0 : j ≠ o) (h1 : j ≠ o + 1) :
    BIn B b o T (cs.setIfInBounds j x) p v bs (w.setCell ⟨b, j, none⟩ x) := by
  refine ⟨h.hB, heap_setCell_same w b j cs T _ h.blk, ?_, ?_, h.hp, ?_, h.hT⟩
  · rw [Array.getElem?_setIfInBounds, if_neg h0]; exact h.c0
  · rw [Array.getElem?_setIfInBounds, if_neg h1]; exact h.c1
  · exact h.own.kept (row := some b) ⟨rfl, rfl, rfl, by simp [World.setCell], fun k _ hk => Below.heap_setCell _ _ _ _ (fun e => hk (by simp [e]))⟩ (Or.inr h.ne)
def rcells (s : St) (p v : Value) : Array Value := #[.int .i64 (s.state : Int), p, v, .string ⟨s.rune.toArray⟩, .int .i64 (s.many : Int), .int .i32 (s.n : Int), .int .i32 (s.first : Int)]
def RAt (B b : Nat) (p v : Value) (s : St) (w : World) : Prop := BIn B b 1 71 (rcells s p v) p v (Lib.byteCells s.out) w
theorem lies71 : LiesB 71 7 1 := by unfold LiesB; kernel_rfl
section
variable {B b : Nat} {p v : Value} {s : St} {w : World}
theorem RAt.f0 (h : RAt B b p v s w) : w.cell? ⟨b, 0, none⟩ = some (.int .i64 (s.state : Int)) := by rw [Lib.cell_of_heap (BIn.blk h)]; rfl
theorem RAt.f3 (h : RAt B b p v s w) : w.cell? ⟨b, 3, none⟩ = some (.string ⟨s.rune.toArray⟩) := by rw [Lib.cell_of_heap (BIn.blk h)]; rfl
theorem RAt.f4 (h : RAt B b p v s w) : w.cell? ⟨b, 4, none⟩ = some (.int .i64 (s.many : Int)) := by rw [Lib.cell_of_heap (BIn.blk h)]; rfl
theorem RAt.f5 (h : RAt B b p v s w) : w.cell? ⟨b, 5, none⟩ = some (.int .i32 (s.n : Int)) := by rw [Lib.cell_of_heap (BIn.blk h)]; rfl
theorem RAt.f6 (h : RAt B b p v s w) : w.cell? ⟨b, 6, none⟩ = some (.int .i32 (s.first : Int)) := by rw [Lib.cell_of_heap (BIn.blk h)]; rfl
theorem RAt.fz (h : RAt B b p v s w) (j : Nat) : w.frozen? ⟨b, j, none⟩ = false := BIn.frozen h j
theorem RAt.setState (h : RAt B b p v s w) (k : Nat) : RAt B b p v { s with state := k } (w.setCell ⟨b, 0, none⟩ (.int .i64 (k : Int))) := BIn.set h 0 _ (by decide) (by decide)
theorem RAt.setRune (h : RAt B b p v s w) (l : List UInt8) : RAt B b p v { s with rune := l } (w.setCell ⟨b, 3, none⟩ (.string ⟨l.toArray⟩)) := BIn.set h 3 _ (by decide) (by decide)
theorem RAt.setMany (h : RAt B b p v s w) (k : Nat) : RAt B b p v { s with many := k } (w.setCell ⟨b, 4, none⟩ (.int .i64 (k : Int))) := BIn.set h 4 _ (by decide) (by decide)
theorem RAt.setN (h : RAt B b p v s w) (k : Nat) : RAt B b p v { s with n := k } (w.setCell ⟨b, 5, none⟩ (.int .i32 (k : Int))) := BIn.set h 5 _ (by decide) (by decide)
theorem RAt.setFirst (h : RAt B b p v s w) (k : Nat) : RAt B b p v { s with first := k } (w.setCell ⟨b, 6, none⟩ (.int .i32 (k : Int))) := BIn.set h 6 _ (by decide) (by decide)
end
def errOf : Out → Nat
  | .bad e => e
  | .ok _ => 0
/-- What a method of the reader leaves: the answer o. -/
def Left (B b : Nat) (o : Out) (w w' : World) : Prop := Below B w w' ∧ ∀ s', o = .ok s' → ∃ p v, RAt B b p v s' w'
theorem Left.bad {B b e : Nat} {w w' : World} (h : Below B w w') : Left B b (.bad e) w w' := ⟨h, fun _ h => by cases h⟩
theorem Left.ok {B b : Nat} {p v : Value} {s : St} {w w' : World} (h : Below B w w') (hr : RAt B b p v s w') : Left B b (.ok s) w w' := ⟨h, fun _ h => by cases h; exact ⟨p, v, hr⟩⟩
theorem below_set {B b : Nat} {w w' : World} (h : Below B w w') (hB : B ≤ b) (j : Nat) (x : Value) : Below B w (w'.setCell ⟨b, j, none⟩ x) := h.setCell (p := ⟨b, j, none⟩) hB x
set_option maxRecDepth 100000 in
set_option maxHeartbeats 1000000 in
theorem rput_any (B b : Nat) (p v : Value) (s : St) (r : Nat) (w : World) (h : RAt B b p v s w) (hr : r ≤ 2147483647) (hlen : s.out.length ≤ 1000000000) (hBw : B ≤ w.heap.size) :
    Calls Tryd.prog 64 #[.pointer (some ⟨b, 0, none⟩), .int .i32 (r : Int)] w fun e w' => e = .returned (.tuple #[]) ∧ Below B w w' ∧ ∃ p v, RAt B b p v (putS s r) w' := by
  have cW := writeRune_any B b 1 71 _ p v _ (r : Int) (by omega) (by omega) w h lies71 (by simp [Lib.byteCells_length]; omega) hBw
  go_enter Tryd.func64, Tryd.ntmps64
  go_wp2_with (go_at_call 31; refine cW.mono ?_)
  rintro e w1 ⟨⟨x, rfl⟩, ⟨v1, h1⟩, hb1⟩
  have h2 : RAt B b (.pointer (some ⟨b, 1, none⟩)) v1 { s with out := s.out ++ Lib.encodeRune (r : Int) } w1 := by
    unfold RAt
    rw [show Lib.byteCells (s.out ++ Lib.encodeRune (r : Int)) = Lib.byteCells s.out ++ Lib.runeCells (r : Int) by rw [← Lib.byteCells_encodeRune]; simp [Lib.byteCells]]
    exact h1
  have fz := h2.fz 0
  have f0 := h2.f0
  have H2 := Lib.hid h2
  have hB := h.hB
  clear h1 h2 h cW
  go_wp2
  go_end0
  exact ⟨rfl, below_set hb1 hB _ _, _, _, H2.out.setState 1⟩
set_option maxRecDepth 100000 in
set_option maxHeartbeats 1000000 in
theorem want_any (B b : Nat) (p v : Value) (s : St) (c : UInt8) (must next : Nat) (w : World) (h : RAt B b p v s w) :
    Calls Tryd.prog 54 #[.pointer (some ⟨b, 0, none⟩), .int .u8 (c.toNat : Int), .int .u8 (must : Int), .int .i64 (next : Int)] w fun e w' => e = .returned (.int .i64 (errOf (wantS s c must next) : Int)) ∧ Left B b (wantS s c must next) w w' := by
  have hB := h.hB
  have f0 := h.f0
  have f4 := h.f4
  have f5 := h.f5
  have z0 := h.fz 0
  have z4 := h.fz 4
  have z5 := h.fz 5
  have H := Lib.hid h
  clear h
  unfold wantS
  by_cases hc : c.toNat = must
  · have hcz : (c.toNat : Int) = (must : Int) := by omega
    rw [if_pos hc]
    subst hc
    clear hcz
    go_enter Tryd.func54, Tryd.ntmps54
    go_wp2
    go_ret
    exact ⟨rfl, Left.ok (below_set (below_set (below_set (Below.refl B w) hB _ _) hB _ _) hB _ _) (((H.out.setState next).setMany 0).setN 0)⟩
  · have hcz : ¬ ((c.toNat : Int) = (must : Int)) := by omega
    rw [if_neg hc]
    clear hc
    go_enter Tryd.func54, Tryd.ntmps54
    go_wp2
    go_ret
    exact ⟨rfl, Left.bad (Below.refl B w)⟩
end Go.Proofs.YtalegkgonbmaoaaDoor
