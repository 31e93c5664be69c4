import Derived.Test.YteoggaioleckhaaNode
/- Trees in plain words; what the package tree and the reference compute. No program in sight. -/
set_option linter.unusedVariables false
namespace Go.Proofs.Yteoggaioleckhaa
/-- A tree in plain words. -/
inductive PT where
  | mk (k n u : Int) (s : List UInt8) (keys : List (List UInt8)) (l : List PT)
def PT.kind : PT → Int | .mk k _ _ _ _ _ => k
def PT.kids : PT → List PT | .mk _ _ _ _ _ l => l
mutual
def NT.pt : NT → PT
  | .mk k n u s _ keys _ l => .mk k n u s keys (ptL l)
def ptL : List NT → List PT
  | [] => []
  | t :: l => t.pt :: ptL l
end
theorem ptL_map : ∀ l : List NT, ptL l = l.map NT.pt
  | [] => rfl
  | t :: l => by rw [ptL, List.map_cons, ptL_map l]
def usesV (k : Int) : Int := if k = 2 ∨ k = 3 ∨ k = 8 then 1 else if k = 4 ∨ k = 9 then 2 else if k = 5 ∨ k = 6 ∨ k = 7 then 4 else if k = 17 then 8 else 0
def partV (k : Int) : Int := if 1 ≤ k ∧ k ≤ 9 then -1 else if k = 11 ∨ k = 15 then 3 else if k = 12 ∨ k = 16 then 4 else if k = 13 then 5 else if k = 14 then 2 else 0
def otherV (p : Int) (x : PT) : Bool := decide (p ≠ 0 ∧ x.kind ≠ p)
/-- The rules for a node's kind. -/
def suchP : PT → Bool
  | .mk k n u s keys l =>
    decide (1 ≤ k ∧ k ≤ 17)
    && !(decide (¬ (usesV k = 1) ∧ n ≠ 0) || decide (¬ (usesV k = 2) ∧ u ≠ 0) || decide (¬ (usesV k = 4) ∧ s ≠ []) || decide (¬ (usesV k = 8) ∧ 0 < keys.length))
    && !decide (k = 2 ∧ n ≠ 0 ∧ n ≠ 1) && !decide (k = 17 ∧ keys.length ≠ l.length)
    && !decide ((k = 15 ∨ k = 16) ∧ (l.length < 2 ∨ 4 < l.length))
    && !l.any (otherV (partV k))
def zeroP (s : List UInt8) : Bool := decide ((0 : UInt8) ∈ s)
/-- The first error in a list of keys, behind these. -/
def keysP : List (List UInt8) → List (List UInt8) → Nat
  | _, [] => 0
  | had, k :: r => if zeroP k = true then 70 else if k ∈ had then 71 else keysP (had ++ [k]) r
def keyedP : PT → Nat
  | .mk k _ _ s keys _ => if k = 5 ∧ zeroP s = true then 70 else keysP [] keys
mutual
def preP : Nat → PT → List (Nat × PT)
  | d, .mk k n u s keys l => (d, .mk k n u s keys l) :: preL (d + 1) l
def preL : Nat → List PT → List (Nat × PT)
  | _, [] => []
  | d, t :: l => preP d t ++ preL d l
end
mutual
def preT : Nat → NT → List (Nat × NT)
  | d, .mk k n u s kv keys lv l => (d, .mk k n u s kv keys lv l) :: preTL (d + 1) l
def preTL : Nat → List NT → List (Nat × NT)
  | _, [] => []
  | d, t :: l => preT d t ++ preTL d l
end
mutual
theorem preT_pt : ∀ (d : Nat) (t : NT), (preT d t).map (fun x => (x.1, x.2.pt)) = preP d t.pt
  | d, .mk k n u s kv keys lv l => by rw [preT, List.map_cons, preTL_pt]; rw [NT.pt, preP]
theorem preTL_pt : ∀ (d : Nat) (l : List NT), (preTL d l).map (fun x => (x.1, x.2.pt)) = preL d (ptL l)
  | d, [] => by rw [preTL, ptL, preL]; rfl
  | d, t :: l => by rw [preTL, ptL, preL, List.map_append, preT_pt, preTL_pt]
end
/-- The error of the i-th node (the first is 0). -/
def errP (i : Nat) (x : Nat × PT) : Nat := if 4096 < i + 1 then 5 else if 64 ≤ x.1 then 61 else if suchP x.2 = false then 60 else keyedP x.2
def firstP : Nat → List (Nat × PT) → Nat
  | _, [] => 0
  | i, x :: r => if errP i x = 0 then firstP (i + 1) r else errP i x
def checkP (t : PT) : Nat := firstP 0 (preP 0 t)
def sizeP (t : PT) : Nat := (preP 0 t).length
def deepP (t : PT) : Nat := (preP 0 t).foldl (fun m x => max m (x.1 + 1)) 0
theorem firstP_append : ∀ (i : Nat) (a b : List (Nat × PT)), firstP i (a ++ b) = if firstP i a = 0 then firstP (i + a.length) b else firstP i a
  | i, [], b => by simp [firstP]
  | i, x :: a, b => by
    rw [List.cons_append, firstP, firstP]
    by_cases h : errP i x = 0
    · rw [if_pos h, if_pos h, firstP_append (i + 1) a b, List.length_cons, show i + 1 + a.length = i + (a.length + 1) by omega]
    · rw [if_neg h, if_neg h, if_neg h]
mutual
/-- All nodes of the tree lie in w. -/
theorem Is.pre {w : World} : ∀ {d : Nat} {t : NT}, Is w t → ∀ x ∈ preT d t, Is w x.2
  | d, .mk k n u s kv keys lv l, h, x, hx => by
    rw [preT] at hx
    rcases List.mem_cons.1 hx with rfl | hx
    · exact h
    · rw [Is] at h
      exact IsL.pre h.2.2.2 x hx
theorem IsL.pre {w : World} : ∀ {d : Nat} {l : List NT}, IsL w l → ∀ x ∈ preTL d l, Is w x.2
  | d, [], h, x, hx => by rw [preTL] at hx; cases hx
  | d, t :: l, h, x, hx => by
    rw [IsL] at h
    rw [preTL] at hx
    rcases List.mem_append.1 hx with hx | hx
    · exact Is.pre h.1 x hx
    · exact IsL.pre h.2 x hx
end
end Go.Proofs.Yteoggaioleckhaa
