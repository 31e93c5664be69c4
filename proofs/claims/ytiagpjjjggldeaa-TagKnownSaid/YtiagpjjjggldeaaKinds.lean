import Derived.Test.YtiagpjjjggldeaaRows
import Derived.WalkKit
import Derived.WalkSpells
import Derived.WalkLawsBesides
import Derived.Deep.MidRow
import Derived.Lib.Hide
import Derived.Deep.WholeRow
namespace Go.Proofs.Ytiagpjjjggldeaa
open Go.RowKit
def zeros : Array Value := #[.int .i64 0, .int .i64 0, .int .i64 0, .int .i64 0, .int .i64 0, .int .i64 0, .int .i64 0, .int .i64 0, .int .i64 0, .int .i64 0, .int .i64 0, .int .i64 0, .int .i64 0, .int .i64 0, .int .i64 0, .int .i64 0, .int .i64 0, .int .i64 0, .int .i64 0, .int .i64 0, .int .i64 0, .int .i64 0, .int .i64 0, .int .i64 0, .int .i64 0, .int .i64 0, .int .i64 0, .int .i64 0, .int .i64 0, .int .i64 0, .int .i64 0, .int .i64 0, .int .i64 0, .int .i64 0, .int .i64 0, .int .i64 0, .int .i64 0, .int .i64 0, .int .i64 0, .int .i64 0, .int .i64 0, .int .i64 0, .int .i64 0, .int .i64 0, .int .i64 0, .int .i64 0, .int .i64 0, .int .i64 0, .int .i64 0, .int .i64 0, .int .i64 0, .int .i64 0, .int .i64 0, .int .i64 0, .int .i64 0, .int .i64 0, .int .i64 0, .int .i64 0, .int .i64 0, .int .i64 0, .int .i64 0, .int .i64 0, .int .i64 0, .int .i64 0, .int .i64 0, .int .i64 0, .int .i64 0, .int .i64 0, .int .i64 0, .int .i64 0, .int .i64 0, .int .i64 0, .int .i64 0, .int .i64 0, .int .i64 0, .int .i64 0, .int .i64 0, .int .i64 0, .int .i64 0, .int .i64 0, .int .i64 0, .int .i64 0, .int .i64 0, .int .i64 0, .int .i64 0, .int .i64 0, .int .i64 0, .int .i64 0, .int .i64 0, .int .i64 0, .int .i64 0, .int .i64 0, .int .i64 0, .int .i64 0, .int .i64 0, .int .i64 0, .int .i64 0, .int .i64 0, .int .i64 0, .int .i64 0, .int .i64 0, .int .i64 0, .int .i64 0, .int .i64 0, .int .i64 0, .int .i64 0, .int .i64 0, .int .i64 0, .int .i64 0, .int .i64 0, .int .i64 0]
def table : Array Value := #[.int .i64 1, .int .i64 0, .int .i64 0, .int .i64 1, .int .i64 0, .int .i64 0, .int .i64 1, .int .i64 0, .int .i64 0, .int .i64 0, .int .i64 0, .int .i64 0, .int .i64 2, .int .i64 0, .int .i64 0, .int .i64 2, .int .i64 0, .int .i64 0, .int .i64 2, .int .i64 0, .int .i64 0, .int .i64 2, .int .i64 0, .int .i64 0, .int .i64 0, .int .i64 0, .int .i64 0, .int .i64 2, .int .i64 0, .int .i64 0, .int .i64 2, .int .i64 0, .int .i64 0, .int .i64 3, .int .i64 1, .int .i64 0, .int .i64 3, .int .i64 2, .int .i64 0, .int .i64 0, .int .i64 0, .int .i64 0, .int .i64 3, .int .i64 4, .int .i64 0, .int .i64 0, .int .i64 0, .int .i64 0, .int .i64 3, .int .i64 1, .int .i64 2, .int .i64 3, .int .i64 2, .int .i64 2, .int .i64 0, .int .i64 0, .int .i64 0, .int .i64 3, .int .i64 1, .int .i64 3, .int .i64 3, .int .i64 2, .int .i64 3, .int .i64 0, .int .i64 0, .int .i64 0, .int .i64 3, .int .i64 1, .int .i64 4, .int .i64 3, .int .i64 2, .int .i64 4, .int .i64 0, .int .i64 0, .int .i64 0, .int .i64 2, .int .i64 0, .int .i64 0, .int .i64 1, .int .i64 0, .int .i64 0, .int .i64 0, .int .i64 0, .int .i64 0, .int .i64 0, .int .i64 0, .int .i64 0, .int .i64 0, .int .i64 0, .int .i64 0, .int .i64 0, .int .i64 0, .int .i64 0, .int .i64 0, .int .i64 0, .int .i64 0, .int .i64 0, .int .i64 0, .int .i64 0, .int .i64 0, .int .i64 0, .int .i64 0, .int .i64 0, .int .i64 0, .int .i64 0, .int .i64 0, .int .i64 0, .int .i64 0, .int .i64 3, .int .i64 26, .int .i64 0]
theorem zero48 (w : World) : (zeroValue 48).run Try.prog w = .ok (.agg zeros) w := by kernel_rfl
theorem build48 (w : World) : (Instr.build 48 #[(0, .agg #[.int .i64 1, .int .i64 0, .int .i64 0]), (1, .agg #[.int .i64 1, .int .i64 0, .int .i64 0]), (2, .agg #[.int .i64 1, .int .i64 0, .int .i64 0]), (26, .agg #[.int .i64 1, .int .i64 0, .int .i64 0]), (4, .agg #[.int .i64 2, .int .i64 0, .int .i64 0]), (5, .agg #[.int .i64 2, .int .i64 0, .int .i64 0]), (6, .agg #[.int .i64 2, .int .i64 0, .int .i64 0]), (7, .agg #[.int .i64 2, .int .i64 0, .int .i64 0]), (9, .agg #[.int .i64 2, .int .i64 0, .int .i64 0]), (10, .agg #[.int .i64 2, .int .i64 0, .int .i64 0]), (25, .agg #[.int .i64 2, .int .i64 0, .int .i64 0]), (11, .agg #[.int .i64 3, .int .i64 1, .int .i64 0]), (12, .agg #[.int .i64 3, .int .i64 2, .int .i64 0]), (14, .agg #[.int .i64 3, .int .i64 4, .int .i64 0]), (36, .agg #[.int .i64 3, .int .i64 26, .int .i64 0]), (16, .agg #[.int .i64 3, .int .i64 1, .int .i64 2]), (19, .agg #[.int .i64 3, .int .i64 1, .int .i64 3]), (22, .agg #[.int .i64 3, .int .i64 1, .int .i64 4]), (17, .agg #[.int .i64 3, .int .i64 2, .int .i64 2]), (20, .agg #[.int .i64 3, .int .i64 2, .int .i64 3]), (23, .agg #[.int .i64 3, .int .i64 2, .int .i64 4])]).run Try.prog w = .ok (.agg table) w := by kernel_rfl
theorem size_zeros : zeros.size = 111 := by kernel_rfl
theorem size_table : table.size = 111 := by kernel_rfl
section
variable {P : Program} {ops : Array Oper} {rest : List Oper} {o : Oper} {a : Act} {Q : Exit → Act → World → Prop}
theorem wpList_val (hg : o.guard = none) (w : World) (v : Value) (w' : World) (h : (execOp a.eval o).run P w = .ok (.value v) w')
    (hK : wpList P ops Q rest (a.put o.dst v) w') : wpList P ops Q (o :: rest) a w := by
  refine wpList_plain hg fun K hK' => ?_
  unfold Oper.wp
  rw [h]
  exact hK' _ _ hK
theorem wpList_build (hg : o.guard = none) (w : World) (t : TypeId) (ps : Array (Nat × Operand)) (_hop : o.op = Op.build t ps) (v : Value) (h : (execOp a.eval o).run P w = .ok (.value v) w)
    (hK : wpList P ops Q rest (a.put o.dst v) w) : wpList P ops Q (o :: rest) a w := wpList_val hg w v w h hK
theorem wpList_store_new (hg : o.guard = none) (w : World) (t : TypeId) (x y : Operand) (hop : o.op = Op.store t x y) (c c' : Array Value) (hx : a.eval x = .pointer (some ⟨w.heap.size, 0, none⟩)) (hy : a.eval y = .agg c')
    (hi : (P.info? t).map (·.size) = some c'.size) (ho : c.size = c'.size) (h1 : c'.all (·.oneCell') = true)
    (hK : wpList P ops Q rest (a.put o.dst undef) (w.alloc (.cells c' t))) : wpList P ops Q (o :: rest) a (w.alloc (.cells c t)) := by
  refine wpList_plain hg fun K hK' => ?_
  unfold Oper.wp execOp
  simp only [hop, hx, hy, run_storeAt_new w t c c' hi ho h1, Sem.run_bind, Result.andThen]
  exact hK' _ _ hK
end

set_option maxRecDepth 100000 in
set_option maxHeartbeats 400000 in
theorem kinds_any (w : World) :
    Calls Try.prog 30 #[] w fun e w' => e = .returned (.agg table) ∧ w.alloc (.cells table 48) = w' := by
  have hz := zero48
  go_enter Try.func30, Try.ntmps30
  go_wp2_with (first
    | (refine wpList_build rfl _ 48 _ rfl (.agg table) (by kernel_rfl) ?_)
    | (refine wpList_store_new rfl w 48 _ _ rfl zeros table rfl rfl (by kernel_rfl) (by kernel_rfl) (by kernel_rfl) ?_))
  refine bodyPost_ret (v := .agg table) (results_cell_row rfl _ _ w.heap.size 48 table (0, 0) _ rfl (heap_alloc_last _ _) Try.underlying48 rfl (by kernel_rfl)) rfl ⟨rfl, rfl⟩
def kIs (t : Int) : Int := if t = 0 ∨ t = 1 ∨ t = 2 ∨ t = 26 then 1 else if t = 4 ∨ t = 5 ∨ t = 6 ∨ t = 7 ∨ t = 9 ∨ t = 10 ∨ t = 25 then 2
  else if t = 11 ∨ t = 12 ∨ t = 14 ∨ t = 36 ∨ t = 16 ∨ t = 19 ∨ t = 22 ∨ t = 17 ∨ t = 20 ∨ t = 23 then 3 else 0
def kElem (t : Int) : Int := if t = 11 ∨ t = 16 ∨ t = 19 ∨ t = 22 then 1 else if t = 12 ∨ t = 17 ∨ t = 20 ∨ t = 23 then 2 else if t = 14 then 4 else if t = 36 then 26 else 0
def kMany (t : Int) : Int := if t = 16 ∨ t = 17 then 2 else if t = 19 ∨ t = 20 then 3 else if t = 22 ∨ t = 23 then 4 else 0

theorem cases37 (t : Int) (h0 : 0 ≤ t) (h1 : t < 37) : ∃ n : Nat, n < 37 ∧ t = (n : Int) := ⟨t.toNat, by omega, by omega⟩
theorem index48 (t : Int) (h0 : 0 ≤ t) (h1 : t < 37) (w : World) : (Instr.index 48 (.agg table) (.int .i64 t)).run Try.prog w = .ok (.agg #[.int .i64 (kIs t), .int .i64 (kElem t), .int .i64 (kMany t)]) w := by
  have h : t = 0 ∨ t = 1 ∨ t = 2 ∨ t = 3 ∨ t = 4 ∨ t = 5 ∨ t = 6 ∨ t = 7 ∨ t = 8 ∨ t = 9 ∨ t = 10 ∨ t = 11 ∨ t = 12 ∨ t = 13 ∨ t = 14 ∨ t = 15 ∨ t = 16 ∨ t = 17 ∨ t = 18 ∨ t = 19 ∨ t = 20 ∨ t = 21 ∨ t = 22 ∨ t = 23 ∨ t = 24 ∨ t = 25 ∨ t = 26 ∨ t = 27 ∨ t = 28 ∨ t = 29 ∨ t = 30 ∨ t = 31 ∨ t = 32 ∨ t = 33 ∨ t = 34 ∨ t = 35 ∨ t = 36 := by omega
  rcases h with rfl | rfl | rfl | rfl | rfl | rfl | rfl | rfl | rfl | rfl | rfl | rfl | rfl | rfl | rfl | rfl | rfl | rfl | rfl | rfl | rfl | rfl | rfl | rfl | rfl | rfl | rfl | rfl | rfl | rfl | rfl | rfl | rfl | rfl | rfl | rfl | rfl <;> (clear h0 h1; show _ = _; kernel_rfl)

theorem k_low (t : Int) (h : t < 0 ∨ 37 ≤ t) : kIs t = 0 ∧ kElem t = 0 ∧ kMany t = 0 := by
  refine ⟨?_, ?_, ?_⟩
  · unfold kIs; rw [if_neg (by omega), if_neg (by omega), if_neg (by omega)]
  · unfold kElem; rw [if_neg (by omega), if_neg (by omega), if_neg (by omega), if_neg (by omega)]
  · unfold kMany; rw [if_neg (by omega), if_neg (by omega), if_neg (by omega)]
theorem results29 (w : World) (tmps : Array Value) (cs : Array Value) (g : Nat) (hs : cs.size = 3) (hp : tmps.getD 2 undef = .pointer (some ⟨g, 0, none⟩)) (hg : w.heap[g]? = some (.cells cs 45 (0, 0))) :
    (results Try.f29 tmps).run Try.prog w = .ok (.agg cs) w :=
  results_cell_row rfl _ _ g 45 cs (0, 0) _ hp hg Try.underlying45 rfl (by rw [hs]; kernel_rfl)

set_option maxRecDepth 100000 in
set_option maxHeartbeats 400000 in
theorem of_any (t : Int) (w : World) :
    Calls Try.prog 29 #[.int .i64 t] w fun e w' => e = .returned (.agg #[.int .i64 (kIs t), .int .i64 (kElem t), .int .i64 (kMany t)]) ∧ Below w.heap.size w w' := by
  by_cases h0 : t < 0
  · obtain ⟨e1, e2, e3⟩ := k_low t (Or.inl h0)
    rw [e1, e2, e3]
    clear e1 e2 e3
    go_enter Try.func29, Try.ntmps29
    go_wp2_with (go_at_call 30; refine (kinds_any _).mono ?_; rintro e w' ⟨rfl, rfl⟩)
    refine bodyPost_ret (results29 _ _ _ w.heap.size rfl rfl (heap_alloc_last _ _)) rfl ⟨rfl, ?_⟩
    exact (Below.refl _ _).alloc (Nat.le_refl _) _
  · by_cases h1 : 37 ≤ t
    · obtain ⟨e1, e2, e3⟩ := k_low t (Or.inr h1)
      rw [e1, e2, e3]
      clear e1 e2 e3
      go_enter Try.func29, Try.ntmps29
      go_wp2_with (go_at_call 30; refine (kinds_any _).mono ?_; rintro e w' ⟨rfl, rfl⟩)
      refine bodyPost_ret (results29 _ _ _ w.heap.size rfl rfl (heap_alloc_last _ _)) rfl ⟨rfl, ?_⟩
      exact (Below.refl _ _).alloc (Nat.le_refl _) _
    · have hi := index48 t (by omega) (by omega)
      go_enter Try.func29, Try.ntmps29
      go_wp2_with (go_at_call 30; refine (kinds_any _).mono ?_; rintro e w' ⟨rfl, rfl⟩)
      refine bodyPost_ret (results29 _ _ _ w.heap.size rfl rfl (heap_alloc2_old _ _ _)) rfl ⟨rfl, ?_⟩
      exact ((Below.refl _ _).alloc (Nat.le_refl _) _).alloc (by simp) _

end Go.Proofs.Ytiagpjjjggldeaa
