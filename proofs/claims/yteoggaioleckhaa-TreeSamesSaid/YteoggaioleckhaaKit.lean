import Derived.Test.YteoggaioleckhaaNest
import Derived.Test.YteoggaioleckhaaAt
import Derived.Test.YteoggaioleckhaaEq
import Derived.Test.YteoggaioleckhaaSize
import Derived.Test.YteoggaioleckhaaCheck
import Derived.Test.YteoggaioleckhaaSuchF
import Derived.Test.YteoggaioleckhaaFree
import Derived.Test.YteoggaioleckhaaKeyed
/- Trees that the statements build; Check and its companions said in plain words. -/
set_option linter.unusedVariables false
set_option linter.unusedSimpArgs false
namespace Go.Proofs.Yteoggaioleckhaa
open Go.RowKit
theorem rdN (w : World) (cs : List Value) (n sz : Nat) (T : TypeId) (h : cs.length = n * sz) : Rd (w.alloc (.cells cs.toArray T)) sz (some ⟨w.heap.size, 0, none⟩) n cs := by
  refine ⟨h, fun _ => ⟨w.heap.size, 0, rfl, by simp, fun k u hu => ?_⟩⟩
  rw [cell_of_row _ _ (0 + k) _ T (0, 0) (heap_alloc_last _ _)]
  simpa using hu
/-- Nothing of w has turned. -/
def Up (w w' : World) : Prop := Below w.heap.size w w'
theorem Up.refl (w : World) : Up w w := Below.refl _ _
theorem Up.trans {w w1 w2 : World} (h : Up w w1) (h1 : Up w1 w2) : Up w w2 := below_then h h1
theorem Up.alloc (w : World) (o : Obj) : Up w (w.alloc o) := (Below.refl _ w).alloc (Nat.le_refl _) o
theorem is_num {w : World} {n : Int} (h : (Lit.int .i64 n).wf = true) : Is w (numT n) := by
  unfold numT; rw [Is]
  exact ⟨⟨by decide, h, by decide, by simp, by simp⟩, ⟨none, 0, rfl, by simp, Rd.none_ _ _ _⟩, ⟨none, 0, rfl, by simp, Rd.none_ _ _ _⟩, by rw [IsL]; trivial⟩
theorem is_key {w : World} {s : List UInt8} (h : s.length ≤ 140737488355328) : Is w (keyT s) := by
  unfold keyT; rw [Is]
  exact ⟨⟨by decide, by decide, by decide, h, by simp⟩, ⟨none, 0, rfl, by simp, Rd.none_ _ _ _⟩, ⟨none, 0, rfl, by simp, Rd.none_ _ _ _⟩, by rw [IsL]; trivial⟩
theorem is_table {w : World} {A B : Option Addr} {c d : Nat} {ks : List (List UInt8)} {l : List NT} (hk : Rd w 1 A ks.length (ks.map strv)) (hkn : ks.length ≤ 140737488355328) (hkk : ∀ x ∈ ks, x.length ≤ 140737488355328) (hr : Rd w 6 B l.length (l.flatMap NT.cells)) (hn : l.length ≤ 140737488355328) (hl : IsL w l) : Is w (tableT (.slice A ks.length c) ks (.slice B l.length d) l) := by
  unfold tableT; rw [Is]
  exact ⟨⟨by decide, by decide, by decide, by simp, hkk⟩, ⟨A, c, rfl, hkn, hk⟩, ⟨B, d, rfl, hn, hr⟩, hl⟩
/-- A small tree in plain words. -/
theorem ksm_pt : ∀ {t t' : NT}, t.pt = t'.pt → KSm t → KSm t' := by
  intro t
  induction t using NT.ind with
  | h k n u s kv keys lv l ih =>
    intro t' e h
    obtain ⟨k', n', u', s', kv', keys', lv', l'⟩ := t'
    obtain ⟨_, _, _, _, e5, e6⟩ := pt_inj.1 e
    subst e5
    rw [KSm] at h ⊢
    have hl : l.length = l'.length := by have := congrArg List.length e6; rwa [ptL_len, ptL_len] at this
    refine ⟨h.1, by omega, ?_⟩
    have key : ∀ (a b : List NT), ptL a = ptL b → KSmL a → (∀ x ∈ a, x ∈ l) → KSmL b := by
      intro a
      induction a with
      | nil =>
        intro b hb _ _
        cases b with
        | nil => rw [KSmL]; trivial
        | cons y b => rw [ptL, ptL] at hb; cases hb
      | cons x a iha =>
        intro b hb hk hm
        cases b with
        | nil => rw [ptL, ptL] at hb; cases hb
        | cons y b =>
          rw [ptL, ptL] at hb
          injection hb with h1 h2
          rw [KSmL] at hk ⊢
          exact ⟨ih x (hm x (by simp)) h1 hk.1, iha b h2 hk.2 (fun z hz => hm z (by simp [hz]))⟩
    exact key l l' e6 h.2.2 (fun x hx => hx)
theorem ptsL_pre (d : Nat) (t : NT) : ptsL (preT d t) = preP d t.pt := preT_pt d t
theorem preT_len (d : Nat) (t : NT) : (preT d t).length = (preP d t.pt).length := by rw [← preT_pt, List.length_map]
/-- Check, in plain words. -/
theorem check_any (p : PT) (t : NT) (w : World) (e : t.pt = p) (ht : Is w t) (hk : KSm t) (hlen : (preP 0 p).length ≤ 1000000) :
    Calls Try.prog 9 #[t.val] w fun e w' => e = .returned (.int .i64 (checkP p : Int)) ∧ Up w w' := by
  have h := check_of such_any t w ht hk (by rw [preT_len, e]; exact hlen)
  rw [ptsL_pre, e] at h
  exact h
/-- A row of trees. -/
structure Trees (W : World) (A : Option Addr) (l : List NT) : Prop where
  row : Rd W 6 A l.length (l.flatMap NT.cells)
  is : IsL W l
  small : KSmL l
theorem Trees.up {W W' : World} {A : Option Addr} {l : List NT} (h : Trees W A l) (hb : Up W W') : Trees W' A l := ⟨h.row.below hb, IsL.below hb h.is, h.small⟩
theorem ksmL_of : ∀ {l : List NT}, (∀ x ∈ l, KSm x) → KSmL l
  | [], _ => by rw [KSmL]; trivial
  | x :: l, h => by rw [KSmL]; exact ⟨h x (by simp), ksmL_of fun y hy => h y (by simp [hy])⟩
theorem ksm_num (n : Int) : KSm (numT n) := by unfold numT; rw [KSm]; exact ⟨by simp, by simp, by rw [KSmL]; trivial⟩
theorem ksm_key (s : List UInt8) : KSm (keyT s) := by unfold keyT; rw [KSm]; exact ⟨by simp, by simp, by rw [KSmL]; trivial⟩
theorem ksm_table {kv lv : Value} {ks : List (List UInt8)} {l : List NT} (h1 : ks.length ≤ 1000000) (h2 : l.length ≤ 1000000) (h3 : KSmL l) : KSm (tableT kv ks lv l) := by
  unfold tableT; rw [KSm]; exact ⟨h1, h2, h3⟩
theorem fine_nest : checkP (nestP 63) = 0 ∧ checkP (nestP 64) = 61 := ⟨by kernel_rfl, by kernel_rfl⟩
theorem trees_new (w : World) (l : List NT) (h1 : IsL w l) (h2 : KSmL l) : Trees (w.alloc (.cells (l.flatMap NT.cells).toArray 26)) (some ⟨w.heap.size, 0, none⟩) l :=
  ⟨rdN w _ _ 6 26 (by induction l with
    | nil => rfl
    | cons t l ih => rw [List.flatMap_cons, List.length_append, cells_len, ih (by rw [IsL] at h1; exact h1.2) (by rw [KSmL] at h2; exact h2.2), List.length_cons]; omega), IsL.below (Up.alloc w _) h1, h2⟩
/-- At, in range. -/
theorem at_in (i : Nat) (x : Nat × PT) (t : NT) (w : World) (h : (preP 0 t.pt)[i]? = some x) (hi : (Lit.int .i64 (i : Int)).wf = true) (ht : Is w t) (hk : KSm t) (hkx : ∀ t' : NT, t'.pt = x.2 → KSm t') (hlen : (preP 0 t.pt).length ≤ 1000000) :
    Calls Try.prog 22 #[t.val, .int .i64 (i : Int)] w fun e w' => (∃ t', e = .returned (.tuple #[t'.val, .bool true]) ∧ t'.pt = x.2 ∧ Is w' t' ∧ KSm t' ∧ Fr w.heap.size w' t') ∧ Up w w' := by
  refine (at_any t (i : Int) w ht (by rw [preT_len]; exact hlen) hk hi).mono ?_
  rintro e w' ⟨⟨v, b, rfl, h1⟩, hb⟩
  refine ⟨?_, hb⟩
  have hlt := (List.getElem?_eq_some_iff.1 h).1
  rw [← preT_len] at hlt
  rcases h1 with ⟨rfl, j, y, t', hj, hy, rfl, e1, e2, e3⟩ | ⟨_, h2, _⟩
  · obtain rfl : j = i := by omega
    have h3 : (preP 0 t.pt)[j]? = some (y.1, y.2.pt) := by rw [← preT_pt, List.getElem?_map, hy]; rfl
    rw [h] at h3
    injection h3 with h3
    have h4 : t'.pt = x.2 := by rw [e1, h3]
    exact ⟨t', rfl, h4, e2, hkx t' h4, e3⟩
  · omega
theorem at_out (q : Int) (t : NT) (w : World) (h : ((preP 0 t.pt).length : Int) ≤ q ∨ q < 0) (hi : (Lit.int .i64 q).wf = true) (ht : Is w t) (hk : KSm t) (hlen : (preP 0 t.pt).length ≤ 1000000) :
    Calls Try.prog 22 #[t.val, .int .i64 q] w fun e w' => e = .returned (.tuple #[(NT.mk 0 0 0 [] (.slice none 0 0) [] (.slice none 0 0) []).val, .bool false]) ∧ Up w w' := by
  refine (at_any t q w ht (by rw [preT_len]; exact hlen) hk hi).mono ?_
  rintro e w' ⟨⟨v, b, rfl, h1⟩, hb⟩
  refine ⟨?_, hb⟩
  rcases h1 with ⟨rfl, j, y, t', hj, hy, rfl, e1, e2, e3⟩ | ⟨rfl, h2, rfl⟩
  · have := (List.getElem?_eq_some_iff.1 hy).1
    rw [preT_len] at this
    omega
  · rfl
def fiveP : PT := .mk 3 5 0 [] [] []
def twoP : PT := .mk 10 0 0 [] [] [fiveP, fiveP]
def bothP : PT := .mk 10 0 0 [] [] [fiveP, twoP]
theorem ksm_five {t : NT} (h : t.pt = fiveP) : KSm t := ksm_pt (t := numT 5) (h ▸ rfl) (ksm_num 5)
theorem ksm_two {t : NT} (h : t.pt = twoP) : KSm t := ksm_pt (t := vecT (.slice none 0 0) [numT 5, numT 5]) (h ▸ rfl) (ksm_vec (by simp) (ksmL_of (by simp [ksm_num])))
end Go.Proofs.Yteoggaioleckhaa
