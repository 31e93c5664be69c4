import Derived.Test.YteoggaioleckhaaFind
import Derived.Deep.Cut
import Derived.Deep.RegionWith
/- tree.such. -/
set_option linter.unusedVariables false
set_option linter.unusedSimpArgs false
namespace Go.Proofs.Yteoggaioleckhaa
open Go.RowKit

section
variable {k n u : Int} {s : List UInt8} {keys : List (List UInt8)} {l : List PT}
theorem such_n (h : ¬ usesV k = 1) (hn : (n != 0) = true) : suchP (.mk k n u s keys l) = false := by
  have hn : n ≠ 0 := by simpa using hn
  simp [suchP, h, hn]
theorem such_u (h : ¬ usesV k = 2) (hn : (u != 0) = true) : suchP (.mk k n u s keys l) = false := by
  have hn : u ≠ 0 := by simpa using hn
  simp [suchP, h, hn]
theorem such_s (h : ¬ usesV k = 4) (hn : (!s.isEmpty) = true) : suchP (.mk k n u s keys l) = false := by
  have hn : s ≠ [] := by simpa using hn
  simp [suchP, h, hn]
theorem such_k (h : ¬ usesV k = 8) (hn : 0 < keys.length) : suchP (.mk k n u s keys l) = false := by
  simp [suchP, h, hn]
theorem such_b (h : k = 2) (h0 : (n != 0) = true) (h1 : (n != 1) = true) : suchP (.mk k n u s keys l) = false := by
  have h0 : n ≠ 0 := by simpa using h0
  have h1 : n ≠ 1 := by simpa using h1
  simp [suchP, h, h0, h1]
theorem such_b2 (h : k = 2) (h0 : (n != 0) = true ∧ (n != 1) = true) : suchP (.mk k n u s keys l) = false := such_b h h0.1 h0.2
theorem such_m (h : k = 17) (h0 : ¬ keys.length = l.length) : suchP (.mk k n u s keys l) = false := by
  simp [suchP, h, h0]
theorem such_f (h : k = 15 ∨ k = 16) (h0 : l.length < 2 ∨ 4 < l.length) : suchP (.mk k n u s keys l) = false := by
  simp [suchP, h, h0]
theorem such_ok (h0 : 1 ≤ k) (h1 : k ≤ 17) (hn : usesV k = 1 ∨ (n != 0) = false) (hu : usesV k = 2 ∨ (u != 0) = false) (hs : usesV k = 4 ∨ (!s.isEmpty) = false) (hk : usesV k = 8 ∨ ¬ 0 < keys.length) (hb : ¬ k = 2 ∨ (n != 0) = false ∨ (n != 1) = false) (hm : ¬ k = 17 ∨ keys.length = l.length) (hf : ¬ (k = 15 ∨ k = 16) ∨ ¬ (l.length < 2 ∨ 4 < l.length)) : suchP (.mk k n u s keys l) = !l.any (otherV (partV k)) := by
  have hn : usesV k = 1 ∨ n = 0 := by simpa using hn
  have hu : usesV k = 2 ∨ u = 0 := by simpa using hu
  have hs : usesV k = 4 ∨ s = [] := by simpa using hs
  have hb : ¬ k = 2 ∨ n = 0 ∨ n = 1 := by simpa using hb
  have e1 : decide (¬ (usesV k = 1) ∧ n ≠ 0) = false := decide_eq_false (fun ⟨a, b⟩ => hn.elim a b)
  have e2 : decide (¬ (usesV k = 2) ∧ u ≠ 0) = false := decide_eq_false (fun ⟨a, b⟩ => hu.elim a b)
  have e3 : decide (¬ (usesV k = 4) ∧ s ≠ []) = false := decide_eq_false (fun ⟨a, b⟩ => hs.elim a b)
  have e4 : decide (¬ (usesV k = 8) ∧ 0 < keys.length) = false := decide_eq_false (fun ⟨a, b⟩ => hk.elim a (fun c => c b))
  have e5 : decide (k = 2 ∧ n ≠ 0 ∧ n ≠ 1) = false := decide_eq_false (fun ⟨a, b, c⟩ => hb.elim (fun x => x a) (fun x => x.elim b c))
  have e6 : decide (k = 17 ∧ keys.length ≠ l.length) = false := decide_eq_false (fun ⟨a, b⟩ => hm.elim (fun x => x a) b)
  have e7 : decide ((k = 15 ∨ k = 16) ∧ (l.length < 2 ∨ 4 < l.length)) = false := decide_eq_false (fun ⟨a, b⟩ => hf.elim (fun x => x a) (fun x => x b))
  rw [suchP, e1, e2, e3, e4, e5, e6, e7, decide_eq_true ⟨h0, h1⟩]
  simp
end
theorem bool_abs {b : Bool} {p : Prop} (h : b = true) (g : b = false) : p := by rw [h] at g; cases g

end Go.Proofs.Yteoggaioleckhaa
