import Derived.Test.YtdomplhhjkikmaaPlays
import Derived.Test.YtdomplhhjkikmaaOpen
import Derived.Deep.SlicePairs
/- What a slice of pairs (a text, a number) that came in reads as, and PoolPlays' walk. -/
namespace Go.Proofs.Ytdomplhhjkikmaa
open Go.ChangeShapes Go.WideShapes Go.ChangeAt Go.RowKit Go.Deep
theorem flat_split (L : List Ent) (k : Nat) (u : Value) (h : (flat L)[k]? = some u) : ∃ j e, L[j]? = some e ∧ ((k = j * 2 ∧ u = str e.1) ∨ (k = j * 2 + 1 ∧ u = .int .i64 e.2)) := by
  have hk : k < (flat L).length := (List.getElem?_eq_some_iff.1 h).1
  rw [flat_len] at hk
  have hj : k / 2 < L.length := by omega
  obtain ⟨f1, f2⟩ := flat_get L (k / 2) _ (List.getElem?_eq_getElem hj)
  refine ⟨k / 2, _, List.getElem?_eq_getElem hj, ?_⟩
  rcases Nat.mod_two_eq_zero_or_one k with h0 | h0
  · have e : k = k / 2 * 2 := by omega
    left
    refine ⟨e, ?_⟩
    rw [e] at h
    exact (Option.some.inj (f1.symm.trans h)).symm
  · have e : k = k / 2 * 2 + 1 := by omega
    right
    refine ⟨e, ?_⟩
    rw [e] at h
    exact (Option.some.inj (f2.symm.trans h)).symm
section
variable {H : Type} {enc : TypeId × Value → H} {W : World}
theorem isPairs_of {A : Option Addr} {n c : Nat} {d : DataW H} {p : List MemPlace}
    (h : DataW.Trod enc Try.prog W 0 (fun _ => true) true 22 (.slice A n c) d p) : ∃ T : List Ent, Rd W 2 A n (flat T) ∧ n ≤ c ∧ c ≤ maxLen := by
  obtain ⟨fuel, hf⟩ := h
  rcases open_slice_pairs Try.underlying22 Try.underlying29 (by kernel_rfl) rfl rfl (by kernel_rfl) (by kernel_rfl) hf with ⟨hcs, _⟩ | ⟨x, l, cp, m, q, V0, V1, D0, D1, P0, P1, hcs, _, hl, hm, hmm, _, hx⟩
  · simp [Value.cells] at hcs
    obtain ⟨rfl, rfl, rfl⟩ := hcs
    exact ⟨[], Rd.none_ _ _ _, Nat.le_refl _, Nat.zero_le _⟩
  · simp [Value.cells] at hcs
    obtain ⟨rfl, rfl, rfl⟩ := hcs
    simp only [if_true] at hmm
    subst hmm
    have each : ∀ i, i < m → ∃ e : Ent, W.cell? (x.add (i * 2)) = some (str e.1) ∧ W.cell? (x.add (i * 2 + 1)) = some (.int .i64 e.2) := by
      intro i hi
      obtain ⟨g0, g1, t0, t1⟩ := hx i hi
      obtain ⟨s, e0, _⟩ := DataW.trod_string Try.underlying9 t0
      obtain ⟨z, e1, _⟩ := DataW.trod_int Try.underlying3 t1
      simp only [List.cons.injEq, and_true] at e0 e1
      rw [e0] at g0
      rw [e1] at g1
      exact ⟨(s.data.toList, z), by rw [g0]; simp [str], g1⟩
    obtain ⟨f, hfe⟩ := choose_lt each
    refine ⟨(List.range n).map f, ⟨by rw [flat_len]; simp, fun hp => ?_⟩, hl, hm⟩
    have h0 := (hfe 0 (by omega)).1
    rw [Nat.zero_mul, show x.add 0 = x from rfl] at h0
    obtain ⟨b, off, rfl, hb⟩ := at_spot h0
    refine ⟨b, off, rfl, hb, fun k u hu => ?_⟩
    obtain ⟨j, e, he, hor⟩ := flat_split _ k u hu
    have hj : j < n := by have := (List.getElem?_eq_some_iff.1 he).1; simpa using this
    rw [List.getElem?_map, List.getElem?_range hj] at he
    simp only [Option.map_some, Option.some.injEq] at he
    subst he
    obtain ⟨g0, g1⟩ := hfe j (by omega)
    rw [spot_add] at g0 g1
    rcases hor with ⟨rfl, rfl⟩ | ⟨rfl, rfl⟩
    · exact g0
    · exact g1
end
theorem poolPlays_walk (A : Option Addr) (n c : Nat) (T : List Ent) (s : ByteArray) (w : World) (hA : Rd w 2 A n (flat T) ∧ n ≤ c ∧ c ≤ maxLen) (_hs : s.size ≤ maxLen) :
    Calls Try.prog 3 #[.slice A n c, .string s] w fun e w' => e = .returned (.bool true) ∧ Below w.heap.size w w' := by
  obtain ⟨rA, hn, hc⟩ := hA
  unfold maxLen at hc
  have := plays_core A n c T s.data.toList w rA (by omega)
  simpa using this
end Go.Proofs.Ytdomplhhjkikmaa
