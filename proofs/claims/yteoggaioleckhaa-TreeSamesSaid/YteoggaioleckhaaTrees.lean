import Derived.Test.YteoggaioleckhaaTexts
/- What the statements say of trees in plain words: subtrees, the cut, joined trees. No program in sight. -/
set_option linter.unusedVariables false
set_option linter.unusedSimpArgs false
namespace Go.Proofs.Yteoggaioleckhaa
/-- A node without error at its level. -/
def okP (x : Nat × PT) : Prop := x.1 < 64 ∧ suchP x.2 = true ∧ keyedP x.2 = 0
theorem errP_zero (i : Nat) (x : Nat × PT) : errP i x = 0 ↔ i + 1 ≤ 4096 ∧ okP x := by
  unfold errP okP
  by_cases h1 : 4096 < i + 1
  · rw [if_pos h1]; constructor
    · intro h; cases h
    · rintro ⟨h, _⟩; omega
  · rw [if_neg h1]
    by_cases h2 : 64 ≤ x.1
    · rw [if_pos h2]; constructor
      · intro h; cases h
      · rintro ⟨_, h, _⟩; omega
    · rw [if_neg h2]
      cases h3 : suchP x.2 with
      | false => rw [if_pos rfl]; constructor
                 · intro h; cases h
                 · rintro ⟨_, _, h, _⟩; cases h
      | true =>
        rw [if_neg (by decide)]
        constructor
        · intro h; exact ⟨by omega, by omega, rfl, h⟩
        · rintro ⟨_, _, _, h⟩; exact h
theorem firstP_zero : ∀ (l : List (Nat × PT)) (i : Nat), i + l.length ≤ 4096 → (∀ x ∈ l, okP x) → firstP i l = 0
  | [], i, _, _ => rfl
  | x :: l, i, h1, h2 => by
    rw [List.length_cons] at h1
    rw [firstP, if_pos ((errP_zero i x).2 ⟨by omega, h2 x (by simp)⟩)]
    exact firstP_zero l (i + 1) (by omega) fun y hy => h2 y (by simp [hy])
theorem firstP_ok : ∀ (l : List (Nat × PT)) (i : Nat), firstP i l = 0 → (l = [] ∨ i + l.length ≤ 4096) ∧ ∀ x ∈ l, okP x
  | [], i, _ => ⟨Or.inl rfl, fun x hx => by cases hx⟩
  | x :: l, i, h => by
    rw [firstP] at h
    by_cases h0 : errP i x = 0
    · rw [if_pos h0] at h
      have h1 := (errP_zero i x).1 h0
      obtain ⟨h2, h3⟩ := firstP_ok l (i + 1) h
      refine ⟨Or.inr ?_, fun y hy => ?_⟩
      · rcases h2 with rfl | h2
        · simp only [List.length_cons, List.length_nil]; omega
        · rw [List.length_cons]; omega
      · rcases List.mem_cons.1 hy with rfl | hy
        · exact h1.2
        · exact h3 y hy
    · rw [if_neg h0] at h; exact absurd h h0
mutual
theorem preP_shift : ∀ (d e : Nat) (t : PT), preP (d + e) t = (preP d t).map (fun x => (x.1 + e, x.2))
  | d, e, .mk k n u s keys l => by rw [preP, preP, List.map_cons, show d + e + 1 = (d + 1) + e by omega, preL_shift (d + 1) e l]
theorem preL_shift : ∀ (d e : Nat) (l : List PT), preL (d + e) l = (preL d l).map (fun x => (x.1 + e, x.2))
  | d, e, [] => by rw [preL, preL]; rfl
  | d, e, t :: l => by rw [preL, preL, List.map_append, preP_shift d e t, preL_shift d e l]
end
mutual
theorem preP_part : ∀ (d : Nat) (t : PT), ∀ x ∈ preP d t, ∃ a b, preP d t = a ++ (preP x.1 x.2 ++ b)
  | d, .mk k n u s keys l, x, hx => by
    rw [preP] at hx
    rcases List.mem_cons.1 hx with rfl | hx
    · exact ⟨[], [], by simp⟩
    · obtain ⟨a, b, h⟩ := preL_part (d + 1) l x hx
      exact ⟨(d, .mk k n u s keys l) :: a, b, by rw [preP, h]; rfl⟩
theorem preL_part : ∀ (d : Nat) (l : List PT), ∀ x ∈ preL d l, ∃ a b, preL d l = a ++ (preP x.1 x.2 ++ b)
  | d, [], x, hx => by rw [preL] at hx; cases hx
  | d, t :: l, x, hx => by
    rw [preL] at hx
    rcases List.mem_append.1 hx with hx | hx
    · obtain ⟨a, b, h⟩ := preP_part d t x hx
      exact ⟨a, b ++ preL d l, by rw [preL, h]; simp [List.append_assoc]⟩
    · obtain ⟨a, b, h⟩ := preL_part d l x hx
      exact ⟨preP d t ++ a, b, by rw [preL, h]; simp [List.append_assoc]⟩
end
theorem preP_len (d e : Nat) (t : PT) : (preP (d + e) t).length = (preP d t).length := by rw [preP_shift, List.length_map]
/-- EVERY SUBTREE OF A VALID TREE IS VALID. -/
theorem check_part {t : PT} (h : checkP t = 0) : ∀ x ∈ preP 0 t, checkP x.2 = 0 := by
  intro x hx
  obtain ⟨a, b, e⟩ := preP_part 0 t x hx
  obtain ⟨h1, h2⟩ := firstP_ok _ 0 h
  have hs : preP x.1 x.2 = (preP 0 x.2).map (fun y => (y.1 + x.1, y.2)) := by have := preP_shift 0 x.1 x.2; rwa [Nat.zero_add] at this
  have hl : (preP 0 x.2).length ≤ 4096 := by
    have e2 := congrArg List.length e
    rw [List.length_append, List.length_append, hs, List.length_map] at e2
    rcases h1 with h1 | h1
    · rw [h1] at hx; cases hx
    · omega
  refine firstP_zero _ 0 (by omega) fun y hy => ?_
  have hm : ((y.1 + x.1, y.2) : Nat × PT) ∈ preP 0 t := by
    rw [e, hs]
    exact List.mem_append.2 (Or.inr (List.mem_append.2 (Or.inl (List.mem_map.2 ⟨y, hy, rfl⟩))))
  obtain ⟨g1, g2, g3⟩ := h2 _ hm
  exact ⟨by simp only at g1; omega, g2, g3⟩
/-! The cut. -/
mutual
def cutP : PT → Nat → PT × Nat
  | .mk k n u s keys l, q => (.mk k n u (s.take 60) (cutK keys) (cutL l q).1, (cutL l q).2)
def cutL : List PT → Nat → List PT × Nat
  | [], q => ([], q)
  | t :: l, q => if q = 0 then ([], 0) else ((cutP t (q - 1)).1 :: (cutL l (cutP t (q - 1)).2).1, (cutL l (cutP t (q - 1)).2).2)
end
theorem cutL_zero (l : List PT) : cutL l 0 = ([], 0) := by
  cases l with
  | nil => rw [cutL]
  | cons t l => rw [cutL, if_pos rfl]
theorem cutL_succ (t : PT) (l : List PT) (q : Nat) : cutL (t :: l) (q + 1) = ((cutP t q).1 :: (cutL l (cutP t q).2).1, (cutL l (cutP t q).2).2) := by
  rw [cutL, if_neg (by omega), Nat.add_sub_cancel]
mutual
theorem cutP_size : ∀ (d : Nat) (t : PT) (q : Nat), (preP d (cutP t q).1).length + (cutP t q).2 ≤ q + 1
  | d, .mk k n u s keys l, q => by
    rw [cutP, preP, List.length_cons]
    have := cutL_size (d + 1) l q
    simp only
    omega
theorem cutL_size : ∀ (d : Nat) (l : List PT) (q : Nat), (preL d (cutL l q).1).length + (cutL l q).2 ≤ q
  | d, [], q => by rw [cutL, preL]; simp
  | d, t :: l, q => by
    rw [cutL]
    by_cases h : q = 0
    · rw [if_pos h, preL]; simp
    · rw [if_neg h]
      simp only
      rw [preL, List.length_append]
      have h1 := cutP_size d t (q - 1)
      have h2 := cutL_size d l (cutP t (q - 1)).2
      omega
end
theorem cutP_le (t : PT) (q : Nat) : (cutP t q).2 ≤ q := by
  cases t with
  | mk k n u s keys l => rw [cutP]; have := cutL_size 0 l q; simp only; omega
/-- The tree that 'few' hands back. -/
def fewP (t : PT) : PT := (cutP t 119).1
theorem few_size (t : PT) : (preP 0 (fewP t)).length ≤ 120 := by have := cutP_size 0 t 119; unfold fewP; omega
/-! Joined trees. -/
def vecP (l : List PT) : PT := .mk 10 0 0 [] [] l
theorem such_vec (l : List PT) : suchP (vecP l) = true := by
  unfold vecP suchP
  have h : l.any (otherV (partV 10)) = false := by
    rw [List.any_eq_false]
    intro x _
    simp [otherV, partV]
  simp [usesV, h]
theorem keyed_vec (l : List PT) : keyedP (vecP l) = 0 := by simp [vecP, keyedP, keysP]
theorem nestP_vec (n : Nat) : ∃ l, nestP n = vecP l := by
  cases n with
  | zero => exact ⟨[], rfl⟩
  | succ n => exact ⟨[nestP n], rfl⟩
theorem nest_len : ∀ (n d : Nat), (preP d (nestP n)).length = n + 1
  | 0, d => by rw [nestP, preP, preL]; rfl
  | n + 1, d => by rw [nestP, preP, preL, preL, List.append_nil, List.length_cons, nest_len n (d + 1)]
theorem nest_first : ∀ (n d i : Nat), d ≤ 64 → i + n + 1 ≤ 4096 → firstP i (preP d (nestP n)) = if d + n < 64 then 0 else 61
  | 0, d, i, hd, hi => by
    rw [nestP, preP, preL, firstP, firstP]
    by_cases h : d < 64
    · rw [if_pos ((errP_zero _ _).2 ⟨by omega, h, such_vec [], keyed_vec []⟩), if_pos (by omega)]
    · have e : errP i (d, .mk 10 0 0 [] [] []) = 61 := by unfold errP; rw [if_neg (by omega), if_pos (by show 64 ≤ d; omega)]
      rw [if_neg (by rw [e]; decide), e, if_neg (by omega)]
  | n + 1, d, i, hd, hi => by
    rw [nestP, preP, preL, preL, List.append_nil, firstP]
    by_cases h : d < 64
    · rw [if_pos ((errP_zero _ _).2 ⟨by omega, h, such_vec [nestP n], keyed_vec [nestP n]⟩), nest_first n (d + 1) (i + 1) (by omega) (by omega), show d + 1 + n = d + (n + 1) by omega]
    · have e : errP i (d, .mk 10 0 0 [] [] [nestP n]) = 61 := by unfold errP; rw [if_neg (by omega), if_pos (by show 64 ≤ d; omega)]
      rw [if_neg (by rw [e]; decide), e, if_neg (by omega)]
theorem deep_le (t : PT) : ∀ x ∈ preP 0 t, x.1 + 1 ≤ deepP t := by
  have key : ∀ (l : List (Nat × PT)) (m : Nat), m ≤ l.foldl (fun m x => max m (x.1 + 1)) m ∧ ∀ x ∈ l, x.1 + 1 ≤ l.foldl (fun m x => max m (x.1 + 1)) m := by
    intro l
    induction l with
    | nil => intro m; exact ⟨Nat.le_refl _, fun x hx => by cases hx⟩
    | cons y l ih =>
      intro m
      rw [List.foldl_cons]
      obtain ⟨h1, h2⟩ := ih (max m (y.1 + 1))
      refine ⟨by omega, fun x hx => ?_⟩
      rcases List.mem_cons.1 hx with rfl | hx
      · omega
      · exact h2 x hx
  exact (key _ 0).2
theorem nest_deep (n : Nat) : deepP (nestP n) = n + 1 := by
  have key : ∀ (n d m : Nat), m ≤ d → (preP d (nestP n)).foldl (fun m x => max m (x.1 + 1)) m = d + n + 1 := by
    intro n
    induction n with
    | zero => intro d m hm; rw [nestP, preP, preL]; simp only [List.foldl_cons, List.foldl_nil]; omega
    | succ n ih =>
      intro d m hm
      rw [nestP, preP, preL, preL, List.append_nil, List.foldl_cons, ih (d + 1) _ (by simp only; omega)]
      omega
  have := key n 0 0 (Nat.le_refl _)
  unfold deepP
  omega
/-- A VEC OF VALID TREES. -/
theorem check_join (m : Nat) (hm : m ≤ 63) (xs : List PT) (hx : ∀ x ∈ xs, checkP x = 0 ∧ deepP x < 64 ∧ (preP 0 x).length ≤ 120) (hn : xs.length ≤ 20) :
    checkP (vecP (nestP m :: xs)) = if m = 63 then 61 else 0 := by
  have hlen : ∀ l : List PT, (∀ x ∈ l, (preP 0 x).length ≤ 120) → (preL 1 l).length ≤ 120 * l.length := by
    intro l
    induction l with
    | nil => intro _; rw [preL]; simp
    | cons t l ih =>
      intro h
      rw [preL, List.length_append, List.length_cons]
      have h1 := h t (by simp)
      have h2 := ih fun x hx => h x (by simp [hx])
      have h3 := preP_len 0 1 t
      rw [Nat.zero_add] at h3
      omega
  have hall : ∀ l : List PT, (∀ x ∈ l, checkP x = 0 ∧ deepP x < 64) → ∀ y ∈ preL 1 l, okP y := by
    intro l
    induction l with
    | nil => intro _ y hy; rw [preL] at hy; cases hy
    | cons t l ih =>
      intro h y hy
      rw [preL] at hy
      rcases List.mem_append.1 hy with hy | hy
      · have hs := preP_shift 0 1 t
        rw [Nat.zero_add] at hs
        rw [hs] at hy
        obtain ⟨z, hz, rfl⟩ := List.mem_map.1 hy
        obtain ⟨g1, g2⟩ := h t (by simp)
        obtain ⟨_, f2, f3⟩ := (firstP_ok _ 0 g1).2 z hz
        have := deep_le t z hz
        exact ⟨by simp only; omega, f2, f3⟩
      · exact ih (fun x hx => h x (by simp [hx])) y hy
  have hl := hlen xs fun x h => (hx x h).2.2
  unfold checkP vecP
  rw [preP, preL, firstP, if_pos ((errP_zero _ _).2 ⟨by omega, by simp, such_vec _, keyed_vec _⟩), firstP_append, nest_first m 1 1 (by omega) (by omega)]
  by_cases h : m = 63
  · subst h; rfl
  · rw [if_pos (show 1 + m < 64 by omega), if_pos rfl, if_neg h, nest_len]
    rw [Nat.zero_add]
    exact firstP_zero _ _ (by omega) (hall xs fun x h => ⟨(hx x h).1, (hx x h).2.1⟩)
end Go.Proofs.Yteoggaioleckhaa
