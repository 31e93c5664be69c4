import Derived.Test.YteoggaioleckhaaMany
import Derived.Deep.Slices
import Derived.Test.YteoggaioleckhaaOpen
/- What a tree that came in reads as. -/
set_option linter.unusedVariables false
set_option linter.unusedSimpArgs false
namespace Go.Proofs.Yteoggaioleckhaa
open Go.ChangeShapes Go.WideShapes Go.ChangeAt Go.RowKit Go.Deep
mutual
/-- The node lies in w; its lengths are bounded by the reading alone. -/
def Inn (w : World) : NT → Prop
  | .mk k n u s kv keys lv l =>
    ((Lit.int .i64 k).wf = true ∧ (Lit.int .i64 n).wf = true ∧ (Lit.int .u64 u).wf = true ∧ s.length ≤ maxLen ∧ (∀ x ∈ keys, x.length ≤ maxLen)) ∧
    (∃ A c, kv = .slice A keys.length c ∧ keys.length ≤ maxLen ∧ Rd w 1 A keys.length (keys.map strv)) ∧
    (∃ A c, lv = .slice A l.length c ∧ l.length ≤ maxLen ∧ Rd w 6 A l.length (l.flatMap NT.cells)) ∧ InnL w l
def InnL (w : World) : List NT → Prop
  | [] => True
  | t :: l => Inn w t ∧ InnL w l
end
mutual
theorem Inn.below {w w' : World} (hb : Below w.heap.size w w') : ∀ {t : NT}, Inn w t → Inn w' t
  | .mk k n u s kv keys lv l, h => by
    rw [Inn] at h ⊢
    obtain ⟨h1, ⟨A, c, e1, e2, e3⟩, ⟨B, d, f1, f2, f3⟩, hl⟩ := h
    exact ⟨h1, ⟨A, c, e1, e2, e3.below hb⟩, ⟨B, d, f1, f2, f3.below hb⟩, hl.below hb⟩
theorem InnL.below {w w' : World} (hb : Below w.heap.size w w') : ∀ {l : List NT}, InnL w l → InnL w' l
  | [], _ => by rw [InnL]; trivial
  | t :: l, h => by
    rw [InnL] at h ⊢
    exact ⟨h.1.below hb, h.2.below hb⟩
end
theorem innL_mem {w : World} : ∀ {l : List NT}, InnL w l → ∀ x ∈ l, Inn w x
  | [], _, x, hx => by cases hx
  | t :: l, h, x, hx => by
    rw [InnL] at h
    rcases List.mem_cons.1 hx with rfl | hx
    · exact h.1
    · exact innL_mem h.2 x hx
theorem innL_of {w : World} : ∀ {l : List NT}, (∀ x ∈ l, Inn w x) → InnL w l
  | [], _ => by rw [InnL]; trivial
  | t :: l, h => by
    rw [InnL]
    exact ⟨h t (by simp), innL_of fun x hx => h x (by simp [hx])⟩
theorem list_of {p : Nat → NT → Prop} : ∀ n : Nat, (∀ i, i < n → ∃ t, p i t) → ∃ l : List NT, l.length = n ∧ ∀ i t, l[i]? = some t → p i t
  | 0, _ => ⟨[], rfl, fun i t h => by simp at h⟩
  | n + 1, h => by
    obtain ⟨l, hl, hp⟩ := list_of n fun i hi => h i (by omega)
    obtain ⟨t, ht⟩ := h n (by omega)
    refine ⟨l ++ [t], by simp [hl], fun i u hu => ?_⟩
    by_cases hi : i < n
    · rw [List.getElem?_append_left (by omega)] at hu; exact hp i u hu
    · rw [List.getElem?_append_right (by omega)] at hu
      have h0 : i - l.length = 0 := by
        have := (List.getElem?_eq_some_iff.1 hu).1
        simp at this; omega
      rw [h0] at hu
      simp at hu; subst hu
      rw [show i = n by omega]; exact ht
theorem flat_range {w : World} {b : Nat} : ∀ (l : List NT) (o : Nat), (∀ i t, l[i]? = some t → w.rangeAt b (o + i * 6) t.cells) → w.rangeAt b o (l.flatMap NT.cells)
  | [], o, _ => fun j v hv => by simp at hv
  | t :: l, o, h => by
    rw [List.flatMap_cons]
    refine range_append (by simpa using h 0 t rfl) ?_
    rw [cells_len]
    exact flat_range l (o + 6) fun i u hu => by
      have := h (i + 1) u (by simpa using hu)
      rwa [show o + (i + 1) * 6 = o + 6 + i * 6 by omega] at this
section
variable {H : Type} {enc : TypeId × Value → H} {W : World}
theorem fields26 : ∃ fs, Try.prog.underlying 26 = some (.struct fs) ∧ (fs.toList.map fun f => (f.type, f.offset)) = [(3, 0), (2, 1), (22, 2), (9, 3), (23, 4), (24, 5)] := ⟨_, Try.underlying26, by kernel_rfl⟩
theorem six_of {α : Type} {cs : List α} (h : cs.length = 6) : ∃ a b c d e f, cs = [a, b, c, d, e, f] := by
  match cs, h with
  | [a, b, c, d, e, f], _ => exact ⟨a, b, c, d, e, f, rfl⟩
theorem nodeF : ∀ (fuel : Nat) (cs : List Value) (x : DataW H × List MemPlace), DataW.trod enc Try.prog W 0 (fun _ => true) true fuel 26 cs = some x → ∃ t : NT, cs = t.cells ∧ Inn W t := by
  intro fuel
  induction fuel using Nat.strongRecOn with
  | _ fuel ih =>
  intro cs x h
  obtain ⟨fs, hfs, hft⟩ := fields26
  obtain ⟨xs, n, rfl, _, hlen, hxs, hall⟩ := DataW.trod_struct hfs h
  rw [show Try.prog.cellsOf 26 = 6 by kernel_rfl] at hlen
  obtain ⟨v0, v1, v2, v3, v4, v5, rfl⟩ := six_of hlen
  have hf : ∀ (i : Nat) (t : TypeId) (o : Nat), [((3 : TypeId), 0), (2, 1), (22, 2), (9, 3), (23, 4), (24, 5)][i]? = some (t, o) → Try.prog.cellsOf t = 1 → ∃ y, DataW.trod enc Try.prog W 0 (fun _ => true) true n t ((([v0, v1, v2, v3, v4, v5] : List Value).drop o).take 1) = some y := by
    intro i t o hi hc
    rw [← hft, List.getElem?_map] at hi
    cases hfi : fs.toList[i]? with
    | none => rw [hfi] at hi; cases hi
    | some f =>
      rw [hfi] at hi
      injection hi with hi
      injection hi with h1 h2
      subst h1; subst h2
      have := hall i f (by simpa using hfi)
      rw [hc] at this
      have hlt : i < xs.length := by rw [hxs]; simpa using (List.getElem?_eq_some_iff.1 hfi).1
      exact ⟨xs[i], by rw [this, List.getElem?_eq_getElem hlt]⟩
  obtain ⟨y0, g0⟩ := hf 0 3 0 rfl (by kernel_rfl)
  obtain ⟨y1, g1⟩ := hf 1 2 1 rfl (by kernel_rfl)
  obtain ⟨y2, g2⟩ := hf 2 22 2 rfl (by kernel_rfl)
  obtain ⟨y3, g3⟩ := hf 3 9 3 rfl (by kernel_rfl)
  obtain ⟨y4, g4⟩ := hf 4 23 4 rfl (by kernel_rfl)
  obtain ⟨y5, g5⟩ := hf 5 24 5 rfl (by kernel_rfl)
  clear hf hall hft hfs
  obtain ⟨k, e0, _, w0⟩ := DataW.trod_int Try.underlying3 g0
  obtain ⟨nn, e1, _, w1⟩ := DataW.trod_int Try.underlying2 g1
  obtain ⟨u, e2, _, w2⟩ := DataW.trod_int Try.underlying22 g2
  obtain ⟨s, e3, _, w3⟩ := DataW.trod_string Try.underlying9 g3
  simp at e0 e1 e2 e3
  subst e0; subst e1; subst e2; subst e3
  simp at g4 g5
  have hk : ∃ (A : Option Addr) (c : Nat) (keys : List (List UInt8)), v4 = .slice A keys.length c ∧ keys.length ≤ maxLen ∧ Rd W 1 A keys.length (keys.map strv) ∧ ∀ x ∈ keys, x.length ≤ maxLen := by
    rcases open_slice Try.underlying23 g4 with ⟨e, _⟩ | ⟨a, len, cap, m, n', D, Pl, e, _, hl, hm, hmm, _, hel⟩
    · simp at e; subst e
      exact ⟨none, 0, [], rfl, by simp, Rd.none_ _ _ _, by simp⟩
    · simp at e; subst e
      obtain ⟨A, c, ss, he, hs1, hs2, hs3⟩ : ∃ (A : Option Addr) (c : Nat) (ss : List ByteArray), Value.slice (some a) len cap = .slice A ss.length c ∧ Rd W 1 A ss.length (ss.map Value.string) ∧ ss.length ≤ maxLen ∧ ∀ x ∈ ss, x.size ≤ maxLen := by
        obtain ⟨ss, hss⟩ := isStrs_of (t := 23) (e := 9) (A := some a) (n := len) (c := cap) (d := y4.1) (p := y4.2) Try.underlying23 Try.underlying9 (by kernel_rfl) ⟨n, by simpa [Value.cells] using g4⟩
        obtain ⟨h1, h2, h3, h4⟩ := hss
        have hlen := h1.1
        rw [List.length_map, Nat.mul_one] at hlen
        refine ⟨some a, cap, ss, by rw [hlen], by rw [hlen]; exact h1, by omega, h4⟩
      refine ⟨A, c, ss.map (fun s => s.data.toList), by rw [List.length_map]; exact he, by rw [List.length_map]; exact hs2, ?_, ?_⟩
      · rw [List.length_map, List.map_map]
        rw [show (strv ∘ fun (s : ByteArray) => s.data.toList) = Value.string from by funext s; simp [strv]]
        exact hs1
      · intro x hx
        obtain ⟨s, hs, rfl⟩ := List.mem_map.1 hx
        have := hs3 s hs
        simpa using (show s.data.size ≤ maxLen from this)
  have hkids : ∃ (B : Option Addr) (d : Nat) (l : List NT), v5 = .slice B l.length d ∧ l.length ≤ maxLen ∧ Rd W 6 B l.length (l.flatMap NT.cells) ∧ InnL W l := by
    rcases DataW.trod_slice Try.underlying24 g5 with ⟨e, _⟩ | ⟨a, len, cap, elems, rest, n', hn', e, _, _, hl, hm, hel, hall, _⟩
    · simp at e; subst e
      exact ⟨none, 0, [], rfl, by simp, Rd.none_ _ _ _, by rw [InnL]; trivial⟩
    · simp at e; subst e
      have hex : ∀ i, i < len → ∃ t : NT, W.cells? 0 (a.add (i * 6)) 6 = some t.cells ∧ Inn W t := by
        intro i hi
        have h1 := hall i hi
        rw [show Try.prog.cellsOf 26 = 6 by kernel_rfl, List.getElem?_eq_getElem (by omega)] at h1
        obtain ⟨cs', h2, h3⟩ := Option.bind_eq_some_iff.1 h1
        obtain ⟨t, rfl, ht⟩ := ih n' (by omega) cs' _ h3
        exact ⟨t, h2, ht⟩
      obtain ⟨l, hlen2, hp⟩ := list_of len hex
      subst hlen2
      refine ⟨some a, cap, l, rfl, by omega, ⟨flat_len l, fun h0 => ?_⟩, innL_of fun t ht => ?_⟩
      · have hc0 := (World.cells?_some (hp 0 _ (List.getElem?_eq_getElem h0)).1).2.2 0 (by omega)
        rw [show l[0].cells[0]? = some (l[0].cells[0]'(by rw [cells_len]; omega)) from List.getElem?_eq_getElem _] at hc0
        have hz : (a.add (0 * 6)).add 0 = a := by unfold Addr.add; simp
        rw [hz] at hc0
        obtain ⟨b, off, rfl, hb⟩ := at_spot hc0
        refine ⟨b, off, rfl, hb, ?_⟩
        refine flat_range l off fun i t ht => ?_
        intro j v hv
        have hj : j < 6 := by have := (List.getElem?_eq_some_iff.1 hv).1; rwa [cells_len] at this
        have := (World.cells?_some (hp i t ht).1).2.2 j hj
        rw [spot_add, spot_add] at this
        rw [this, hv]
      · obtain ⟨i, hi, rfl⟩ := List.mem_iff_getElem.1 ht
        exact (hp i _ (List.getElem?_eq_getElem hi)).2
  obtain ⟨A, c, keys, rfl, q1, q2, q3⟩ := hk
  obtain ⟨B, d, l, rfl, r1, r2, r3⟩ := hkids
  refine ⟨.mk k nn u s.data.toList (.slice A keys.length c) keys (.slice B l.length d) l, by simp [NT.cells], ?_⟩
  rw [Inn]
  refine ⟨⟨w0, w1, w2, ?_, q3⟩, ⟨A, c, rfl, q1, q2⟩, ⟨B, d, rfl, r1, r2⟩, r3⟩
  simpa using (show s.data.size ≤ maxLen from w3)
/-- A node that came in. -/
theorem node_of {r : Reach} {b0 : Nat} {v : Value} {d : DataW H} {p : List MemPlace} (hv : Value.okWide Try.prog W r b0 26 v) (h : DataW.Trod enc Try.prog W 0 (fun _ => true) true 26 v d p) : ∃ t : NT, v = t.val ∧ Inn W t := by
  obtain ⟨fs, hfs, _⟩ := fields26
  obtain ⟨cs, rfl, _⟩ := okWide_struct hfs hv
  obtain ⟨fuel, hf⟩ := h
  obtain ⟨t, ht, hI⟩ := nodeF fuel _ _ hf
  refine ⟨t, ?_, hI⟩
  unfold NT.val
  rw [← ht]
  simp [Value.cells]
end
end Go.Proofs.Yteoggaioleckhaa
