import Derived.Test.YteoggaioleckhaaWorks
/- A vector of many numbers, in memory and in plain words; a store of a struct in a held region. -/
set_option linter.unusedVariables false
set_option linter.unusedSimpArgs false
namespace Go.Proofs.Yteoggaioleckhaa
open Go.RowKit
def nums (m : Nat) : List NT := (List.range m).map (fun i : Nat => numT (i : Int))
theorem nums_succ (m : Nat) : nums (m + 1) = nums m ++ [numT (m : Int)] := by unfold nums; rw [List.range_succ, List.map_append]; rfl
theorem nums_len (m : Nat) : (nums m).length = m := by unfold nums; simp
theorem range_append {w : World} {b o : Nat} {xs ys : List Value} (h : w.rangeAt b o xs) (g : w.rangeAt b (o + xs.length) ys) : w.rangeAt b o (xs ++ ys) := fun j v hv => by
  by_cases hj : j < xs.length
  · rw [List.getElem?_append_left hj] at hv; exact h j v hv
  · rw [List.getElem?_append_right (by omega)] at hv
    have := g (j - xs.length) v hv
    rwa [show o + xs.length + (j - xs.length) = o + j by omega] at this
theorem flat_len (l : List NT) : (l.flatMap NT.cells).length = l.length * 6 := by
  induction l with
  | nil => rfl
  | cons t l ih => rw [List.flatMap_cons, List.length_append, cells_len, ih, List.length_cons]; omega
theorem nums_range {w : World} {b : Nat} : ∀ m : Nat, (∀ i, i < m → w.rangeAt b (i * 6) (numT (i : Int)).cells) → w.rangeAt b 0 ((nums m).flatMap NT.cells)
  | 0, _ => fun j v hv => by simp [nums] at hv
  | m + 1, h => by
    rw [nums_succ, List.flatMap_append]
    refine range_append (nums_range m fun i hi => h i (by omega)) ?_
    rw [flat_len, nums_len, Nat.zero_add]
    simpa using h m (by omega)
theorem nums_trees {w : World} {b : Nat} (m : Nat) (hb : b < w.heap.size) (h : ∀ i, i < m → w.rangeAt b (i * 6) (numT (i : Int)).cells) (hm : m ≤ 5000) : Trees w (some ⟨b, 0, none⟩) (nums m) := by
  refine ⟨⟨flat_len _, fun _ => ⟨b, 0, rfl, hb, fun k u hu => nums_range m h k u hu⟩⟩, isL_of ?_, ksmL_of ?_⟩
  · intro x hx
    unfold nums at hx
    obtain ⟨i, hi, rfl⟩ := List.mem_map.1 hx
    have := List.mem_range.1 hi
    exact is_num (by simp [Lit.wf, IntKind.min, IntKind.max, IntKind.bits, IntKind.signed]; omega)
  · intro x hx
    unfold nums at hx
    obtain ⟨i, hi, rfl⟩ := List.mem_map.1 hx
    exact ksm_num _
def manyP (m : Nat) : PT := .mk 10 0 0 [] [] ((List.range m).map (fun i : Nat => PT.mk 3 (i : Int) 0 [] [] []))
theorem nums_pt (m : Nat) : ptL (nums m) = (List.range m).map (fun i : Nat => PT.mk 3 (i : Int) 0 [] [] []) := by
  rw [ptL_map]; unfold nums; rw [List.map_map]; rfl
theorem preL_nums (l : List Nat) (d : Nat) : preL d (l.map (fun i : Nat => PT.mk 3 (i : Int) 0 [] [] [])) = l.map (fun i : Nat => (d, PT.mk 3 (i : Int) 0 [] [] [])) := by
  induction l with
  | nil => rfl
  | cons x l ih => rw [List.map_cons, preL, ih, preP, preL]; rfl
theorem pre_many (m : Nat) : preP 0 (manyP m) = (0, manyP m) :: (List.range m).map (fun i : Nat => (1, PT.mk 3 (i : Int) 0 [] [] [])) := by
  unfold manyP; rw [preP, preL_nums]
theorem many_len (m : Nat) : (preP 0 (manyP m)).length = m + 1 := by rw [pre_many]; simp
theorem first_nums : ∀ (l : List Nat) (i : Nat), i ≤ 4096 → firstP i (l.map (fun i : Nat => (1, PT.mk 3 (i : Int) 0 [] [] []))) = if 4096 < i + l.length then 5 else 0
  | [], i, h => by rw [List.map_nil, firstP, if_neg (by simp; omega)]
  | x :: l, i, h => by
    rw [List.map_cons, firstP]
    have hs : suchP (PT.mk 3 (x : Int) 0 [] [] []) = true := by simp [suchP, usesV, partV]
    by_cases hi : 4096 < i + 1
    · have e : errP i (1, PT.mk 3 (x : Int) 0 [] [] []) = 5 := by unfold errP; rw [if_pos hi]
      rw [e, if_neg (by decide), if_pos (by simp; omega)]
    · have e : errP i (1, PT.mk 3 (x : Int) 0 [] [] []) = 0 := by
        unfold errP
        rw [if_neg hi, if_neg (by simp), if_neg (by simp [hs])]
        rfl
      rw [if_pos e, first_nums l (i + 1) (by omega)]
      simp only [List.length_cons]
      rw [show i + 1 + l.length = i + (l.length + 1) by omega]
theorem many_check (m : Nat) : checkP (manyP m) = if 4096 ≤ m then 5 else 0 := by
  unfold checkP
  rw [pre_many, firstP]
  have hs : suchP (manyP m) = true := by unfold manyP; simp [suchP, usesV, partV, otherV]
  have e : errP 0 (0, manyP m) = 0 := by
    unfold errP
    rw [if_neg (by decide), if_neg (by simp), if_neg (by simp [hs])]
    rfl
  rw [if_pos e, first_nums _ 1 (by decide), List.length_range]
  by_cases h : 4096 ≤ m
  · rw [if_pos (by omega), if_pos h]
  · rw [if_neg (by omega), if_neg h]
theorem below_setCells {B : Nat} {w : World} (b : Nat) (hb : B ≤ b) : ∀ (vs : List Value) (o : Nat) (w' : World), Below B w w' → Below B w (w'.setCells b o vs)
  | [], _, _, h => h
  | v :: r, o, w', h => by
    rw [World.setCells]
    exact below_setCells b hb r (o + 1) _ (h.setCell (p := ⟨b, o, none⟩) hb v)
section
variable {P : Program} {ops : Array Oper} {S : World → Prop} {Q : Act → World → Prop}
theorem held_store {i : Nat} {o : Oper} {r : List (Nat × Bool)} {a : Act} {w : World} (ty : TypeId) (x y : Operand) (ho : ops[i]? = some o) (hop : o.op = .store ty x y) (hw : Region.wanted o (yielded ops a.tmps) = true)
    (b n : Nat) (cells : Array Value) (hx : a.eval x = .pointer (some ⟨b, n, none⟩)) (hy : a.eval y = .agg cells) (ht : w.there b n cells.size) (hi : (P.info? ty).map (·.size) = some cells.size) (h1 : cells.all (·.oneCell') = true) (hS : S (w.setCells b n cells.toList))
    (h : wpHeld P ops S Q r (a.put o.dst undef) (w.setCells b n cells.toList)) : wpHeld P ops S Q ((i, true) :: r) a w := by
  unfold wpHeld
  simp only [ho]
  rw [if_pos hw, if_pos trivial]
  refine ⟨fun v w1 => v = undef ∧ w1 = w.setCells b n cells.toList, ?_, fun v w1 ⟨e1, e2⟩ _ => by rw [e1, e2]; exact h⟩
  unfold stepAt execOp
  simp only [hop, hx, hy, Instr.storeAt, Instr.sureAddr, Sem.run_bind, Sem.run_pure, Result.andThen_ok, run_storeVar_mid w b n ty cells ht hi h1]
  exact ⟨⟨rfl, rfl⟩, hS⟩
end
end Go.Proofs.Yteoggaioleckhaa
