import Derived.Test.YteoggaioleckhaaMem
import Derived.Deep.WholeRow
/- More of memory, no program in sight: an append of one fresh element. -/
namespace Go.Proofs.Yteoggaioleckhaa
open Go.RowKit
theorem rd1 (w : World) (v : Value) (e : TypeId) : Rd (w.alloc (.cells #[v] e)) 1 (some ⟨w.heap.size, 0, none⟩) 1 [v] := by
  refine ⟨by simp, fun _ => ⟨w.heap.size, 0, rfl, by simp, fun k u hu => ?_⟩⟩
  rw [cell_of_row _ _ (0 + k) _ e (0, 0) (heap_alloc_last _ _)]
  simpa using hu
section
variable {P : Program} {ops : Array Oper} {rest : List Oper} {o : Oper} {a : Act} {Q : Exit → Act → World → Prop}
/-- 'append(v, u)': the fresh block of one, then the append onto a row of the call's own. -/
theorem wpList_append_one (hgd : o.guard = none) (w0 w : World) (s x : Operand) (t : TypeId)
    (ho : o.op = .call { callee := .builtin .append, args := #[s, x], argTypes := #[t, t] })
    (base : Nat) (e : TypeId) (i : TypeInfo) (z : Value) (bytes : Nat) (ht : P.underlying t = some (.slice e)) (hi : P.info? e = some i) (hz : i.zero = some z)
    (hsize : i.size = 1) (hby : i.bytes = bytes) (hzs : z.cells.size = 1)
    (v : Value) (n : Nat) (xs : List Value) (hs : a.eval s = v) (hown : w.ownsRow base e 1 v n xs)
    (u : Value) (hx : a.eval x = .slice (some ⟨w.heap.size, 0, none⟩) 1 1) (hu : u.oneCell' = true)
    (h63 : n + 1 ≤ 1000000000) (hby2 : bytes ≤ 1000) (hb : Below base w0 w) (hbase : base ≤ w0.heap.size)
    (h : ∀ v' w', w'.ownsRow base e 1 v' (n + 1) (xs ++ [u]) → Below base w0 w' → wpList P ops Q rest (a.put o.dst v') w') : wpList P ops Q (o :: rest) a (w.alloc (.cells #[u] e)) := by
  have hsz := hb.size
  refine wpList_append_rd hgd _ s x t ho base e i z 1 bytes ht hi hz hsize hby hzs (by decide) v n xs hs (hown.alloc _) _ 1 1 [u] hx (rd1 w u e) (by intro y hy; simp at hy; subst hy; exact hu) (by unfold maxLen; omega) (Nat.le_trans (Nat.mul_le_mul h63 hby2) (by omega)) (by simp; omega) ?_
  intro v' w' hown' hg
  exact h v' w' hown' ((hb.alloc (by omega) _).trans (grown_below (hown.alloc _) hg (by simp; omega)))
end
end Go.Proofs.Yteoggaioleckhaa
