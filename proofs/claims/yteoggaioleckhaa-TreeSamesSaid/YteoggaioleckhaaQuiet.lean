import Derived.Test.YteoggaioleckhaaMem
import Derived.Deep.Quiet
import Derived.BigQuiet
import Derived.Deep.QuietTactic
/- A region that draws its order and whose calls may make memory, but leave all that was as it was and hand back ONE value: the kit's theorem on quiet regions at the class 'Below'. No program in sight. -/
namespace Go.Proofs.Yteoggaioleckhaa
open Go.RowKit
/-- A world in which nothing of w has turned. -/
structure Upw (w : World) where
  it : World
  ok : Below w.heap.size w it
theorem below_drew_ (w : World) : Below w.heap.size w { w with drawn := w.drawn + 1 } := ⟨rfl, rfl, rfl, Nat.le_refl _, fun _ _ => rfl⟩
instance (w : World) : Nonempty (Upw w) := ⟨⟨w, Below.refl _ w⟩⟩
section
variable {P : Program}
theorem wp_region_upw {id : Nat} {Q : Exit → Act → World → Prop} {a : Act} {w : World} {l : List Oper} (hm : P.follows .mixedOrders = true) (hB : Region.lexB .any l.toArray = true)
    (h : wpQuiet P l.toArray (fun w' => ∃ n : Upw w, w' = n.it) (fun a' => ∀ w', (∃ n : Upw w, w' = n.it) → Q .normal a' w') l a) : (Code.region id l.toArray true).wp P Q a w :=
  wp_region_quiet (C := fun w' => ∃ n : Upw w, w' = n.it) hm hB ⟨⟨_, below_drew_ w⟩, rfl⟩ (by simpa using h)
theorem Calls.upw {f : FuncId} {args : Array Value} {w : World} {n : Upw w} {v : Value}
    (h : Calls P f args n.it fun e w' => e = .returned v ∧ Below n.it.heap.size n.it w') : Calls P f args n.it fun e w'' => e = .returned v ∧ ∃ m : Upw w, w'' = m.it :=
  h.mono fun _ w' ⟨he, hb⟩ => ⟨he, ⟨w', below_then n.ok hb⟩, rfl⟩
theorem Calls.upw_same {f : FuncId} {args : Array Value} {w : World} {n : Upw w} {v : Value}
    (h : Calls P f args n.it fun e w' => e = .returned v ∧ n.it = w') : Calls P f args n.it fun e w'' => e = .returned v ∧ ∃ m : Upw w, w'' = m.it :=
  h.mono fun _ _ ⟨he, hb⟩ => ⟨he, n, hb.symm⟩
theorem Calls.upw_same' {f : FuncId} {args : Array Value} {w : World} {n : Upw w} {v : Value}
    (h : Calls P f args n.it fun e w' => e = .returned v ∧ w' = n.it) : Calls P f args n.it fun e w'' => e = .returned v ∧ ∃ m : Upw w, w'' = m.it :=
  h.mono fun _ _ ⟨he, hb⟩ => ⟨he, n, hb⟩
end
theorem Rd.upw {w : World} {sz n : Nat} {A : Option Addr} {xs : List Value} (h : Rd w sz A n xs) (u : Upw w) : Rd u.it sz A n xs := h.below u.ok
end Go.Proofs.Yteoggaioleckhaa
