import Derived.Test.YtdomplhhjkikmaaPure
/- What a pool holds that is filled from a list, in plain words. -/
namespace Go.Proofs.Ytdomplhhjkikmaa
abbrev K := List UInt8
/-- The entries after the first i strings. -/
def stE (ks : List K) : Nat → List Ent
  | 0 => []
  | i + 1 => putE (stE ks i) (ks.getD i []) i
/-- How many of them were there already. -/
def stA (ks : List K) : Nat → Nat
  | 0 => 0
  | i + 1 => stA ks i + if putN (stE ks i) (ks.getD i []) i = 71 then 1 else 0
theorem nat_ok (i : Nat) (h : i ≤ 1000000) : ¬ ((i : Int) < 0 ∨ 9007199254740991 < (i : Int)) := by omega
theorem one_not {a x : K} (h : ¬ x = a) : ([a] : List K).contains x = false := by
  rw [List.contains_cons, List.contains_nil, Bool.or_false]
  exact beq_eq_false_iff_ne.2 h
theorem stE_srt (ks : List K) : ∀ i, Srt (stE ks i)
  | 0 => List.Pairwise.nil
  | i + 1 => by
    unfold stE putE
    split
    · exact stE_srt ks i
    · split
      · exact stE_srt ks i
      · rename_i hh
        exact srt_ins _ _ _ (stE_srt ks i) (by simpa using hh)
theorem stE_len (ks : List K) : ∀ i, i ≤ 1000000 → (stE ks i).length + stA ks i = i
  | 0, _ => rfl
  | i + 1, h => by
    have ih := stE_len ks i (by omega)
    have hn := nat_ok i (by omega)
    simp only [stE, stA]
    unfold putE putN
    rw [if_neg hn, if_neg hn]
    split
    · rw [if_pos rfl]; omega
    · rw [if_neg (by decide), ins_length]; omega
theorem stE_has (ks : List K) : ∀ i, i ≤ ks.length → i ≤ 1000000 → ∀ x, has (stE ks i) x = (ks.take i).contains x
  | 0, _, _, x => by simp [stE, has]
  | i + 1, hl, h, x => by
    have ih := stE_has ks i (by omega) (by omega)
    have hn := nat_ok i (by omega)
    have hk : ks[i]? = some (ks.getD i []) := by rw [List.getD_eq_getElem?_getD, List.getElem?_eq_getElem (by omega)]; rfl
    rw [List.take_add_one, hk]
    simp only [stE]
    unfold putE
    rw [if_neg hn]
    rw [List.contains_append, Option.toList_some]
    split
    · rename_i hh
      rw [ih x]
      by_cases hx : x = ks.getD i []
      · rw [ih] at hh
        rw [hx, hh]; rfl
      · have : ([ks.getD i []] : List K).contains x = false := one_not hx
        rw [this, Bool.or_false]
    · rw [has_ins, ih x, Bool.or_comm]
      congr 1
      simp only [List.contains_cons, List.contains_nil, Bool.or_false]
      exact Bool.beq_comm
/-- The first index of a string. -/
def fst (ks : List K) (x : K) : Nat := ks.idxOf x
theorem stE_val (ks : List K) : ∀ i, i ≤ ks.length → i ≤ 1000000 → ∀ x, (ks.take i).contains x = true → val (stE ks i) x = (fst ks x : Int)
  | 0, _, _, x, h => by simp at h
  | i + 1, hl, h, x, hx => by
    have ih := stE_val ks i (by omega) (by omega)
    have hhas := stE_has ks i (by omega) (by omega)
    have hn := nat_ok i (by omega)
    have hk : ks[i]? = some (ks.getD i []) := by rw [List.getD_eq_getElem?_getD, List.getElem?_eq_getElem (by omega)]; rfl
    simp only [stE]
    unfold putE
    rw [if_neg hn]
    rw [List.take_add_one, hk, List.contains_append, Option.toList_some] at hx
    split
    · rename_i hh
      rw [hhas] at hh
      apply ih
      by_cases hxe : x = ks.getD i []
      · rw [hxe]; exact hh
      · have : ([ks.getD i []] : List K).contains x = false := one_not hxe
        rwa [this, Bool.or_false] at hx
    · rename_i hh
      have hh' : has (stE ks i) (ks.getD i []) = false := by simpa using hh
      rw [val_ins _ _ _ _ hh']
      split
      · rename_i hxe
        have hxe' : ks.getD i [] = x := by simpa using hxe
        rw [hhas, hxe'] at hh'
        have hnm : x ∉ ks.take i := by simpa using hh'
        have hi : ks[i]'(by omega) = x := by
          rw [List.getElem?_eq_getElem (by omega)] at hk
          injection hk with hk
          rw [hk, hxe']
        have hsplit : ks = ks.take i ++ x :: ks.drop (i + 1) := by
          conv => lhs; rw [← List.take_append_drop i ks, List.drop_eq_getElem_cons (by omega : i < ks.length), hi]
        unfold fst
        rw [hsplit, List.idxOf_append, if_neg hnm, List.idxOf_cons_self, List.length_take]
        omega
      · rename_i hxe
        apply ih
        have : ([ks.getD i []] : List K).contains x = false := by
          simp only [List.contains_cons, List.contains_nil, Bool.or_false]
          rw [Bool.beq_comm]
          simpa using hxe
        rwa [this, Bool.or_false] at hx
/-- Two sorted lists of the same strings are one. -/
theorem srt_ext : ∀ (l r : List K), l.Pairwise (fun a b => lt a b = true) → r.Pairwise (fun a b => lt a b = true) → (∀ x, l.contains x = r.contains x) → l = r
  | [], [], _, _, _ => rfl
  | [], b :: r, _, _, h => by have := h b; simp at this
  | a :: l, [], _, _, h => by have := h a; simp at this
  | a :: l, b :: r, hl, hr, h => by
    obtain ⟨hl1, hl2⟩ := List.pairwise_cons.1 hl
    obtain ⟨hr1, hr2⟩ := List.pairwise_cons.1 hr
    have hab : a = b := by
      have h1 := h a
      have h2 := h b
      have ha : a ∈ b :: r := by simpa using h1.symm
      have hb : b ∈ a :: l := by simpa using h2
      rcases List.mem_cons.1 ha with ha | ha
      · exact ha
      · rcases List.mem_cons.1 hb with hb | hb
        · exact hb.symm
        · have := lt_asymm (hr1 a ha)
          rw [hl1 b hb] at this
          cases this
    subst hab
    rw [srt_ext l r hl2 hr2 (fun x => ?_)]
    have hx := h x
    rw [List.contains_cons, List.contains_cons] at hx
    by_cases hxa : (x == a) = true
    · have hxa' : x = a := by simpa using hxa
      subst hxa'
      have h1 : x ∉ l := fun hm => by have := hl1 x hm; rw [lt_irrefl] at this; cases this
      have h2 : x ∉ r := fun hm => by have := hr1 x hm; rw [lt_irrefl] at this; cases this
      have e1 : l.contains x = false := by simpa using h1
      have e2 : r.contains x = false := by simpa using h2
      rw [e1, e2]
    · have hxa' : (x == a) = false := by simpa using hxa
      rwa [hxa', Bool.false_or, Bool.false_or] at hx
theorem keys_srt {E : List Ent} (h : Srt E) : (keys E).Pairwise (fun a b => lt a b = true) := by
  unfold keys
  rw [List.pairwise_map]
  exact h
end Go.Proofs.Ytdomplhhjkikmaa
