import Derived.Test.YteoggaioleckhaaBlk
import Derived.Test.YteoggaioleckhaaCut
/- The reference's SpoilNode writes into the tree's own blocks alone. -/
set_option linter.unusedVariables false
set_option linter.unusedSimpArgs false
namespace Go.Proofs.Yteoggaioleckhaa
open Go.RowKit
/-- Of what was there, the blocks of this list alone have turned. -/
structure Only (bs : List Nat) (w w' : World) : Prop where
  os : w'.os = w.os
  tape : w'.tape = w.tape
  output : w'.output = w.output
  size : w.heap.size ≤ w'.heap.size
  block : ∀ k, k < w.heap.size → ¬ k ∈ bs → w'.heap[k]? = w.heap[k]?
theorem Only.of_below {bs : List Nat} {w w' : World} (h : Below w.heap.size w w') : Only bs w w' := ⟨h.os, h.tape, h.output, h.size, fun k hk _ => h.block k hk⟩
theorem Only.refl (bs : List Nat) (w : World) : Only bs w w := Only.of_below (Below.refl _ _)
theorem Only.trans {bs : List Nat} {w w1 w2 : World} (h : Only bs w w1) (g : Only bs w1 w2) : Only bs w w2 :=
  ⟨g.os.trans h.os, g.tape.trans h.tape, g.output.trans h.output, Nat.le_trans h.size g.size, fun k hk hn => (g.block k (Nat.lt_of_lt_of_le hk h.size) hn).trans (h.block k hk hn)⟩
theorem Only.mono {bs cs : List Nat} {w w' : World} (h : Only bs w w') (hs : ∀ g ∈ bs, g ∈ cs) : Only cs w w' := ⟨h.os, h.tape, h.output, h.size, fun k hk hn => h.block k hk (fun hb => hn (hs k hb))⟩
theorem Only.grown {bs : List Nat} {w w' : World} {b : Nat} (h : w.grownBy w' (some b)) (hb : b ∈ bs) : Only bs w w' := ⟨h.os, h.tape, h.output, h.size, fun k hk hn => h.block k hk (fun e => by injection e with e; subst e; exact hn hb)⟩
theorem Only.below {bs : List Nat} {B : Nat} {w w' : World} (h : Only bs w w') (hB : B ≤ w.heap.size) (hb : ∀ g ∈ bs, B ≤ g) : Below B w w' := ⟨h.os, h.tape, h.output, h.size, fun k hk => h.block k (by omega) (fun hm => by have := hb k hm; omega)⟩
theorem Only.cell {bs : List Nat} {w w' : World} (h : Only bs w w') {p : Addr} (hp : p.block < w.heap.size) (hn : ¬ p.block ∈ bs) : w'.cell? p = w.cell? p := World.cell?_of_block (w := w) (h.block p.block hp hn)
theorem Rd.only {bs : List Nat} {w w' : World} {sz n : Nat} {A : Option Addr} {c : Nat} {xs : List Value} (h : Rd w sz A n xs) (ho : Only bs w w') (hd : ∀ g ∈ ownB n (.slice A n c), ¬ g ∈ bs) : Rd w' sz A n xs := by
  refine ⟨h.1, fun hn => ?_⟩
  obtain ⟨b, off, rfl, hb, hc⟩ := h.2 hn
  have hm : ¬ b ∈ bs := hd b (own_mem (by omega) rfl)
  exact ⟨b, off, rfl, Nat.lt_of_lt_of_le hb ho.size, fun k u hu => (ho.cell (p := ⟨b, off + k, none⟩) hb hm).trans (hc k u hu)⟩
mutual
theorem Is.only {bs : List Nat} {w w' : World} (ho : Only bs w w') : ∀ {t : NT}, Is w t → (∀ g ∈ blk t, ¬ g ∈ bs) → Is w' t
  | .mk k n u s kv keys lv l, h, hd => by
    rw [Is] at h ⊢
    rw [blk] at hd
    obtain ⟨h1, ⟨A, c, rfl, e2, e3⟩, ⟨B, d, rfl, f2, f3⟩, hl⟩ := h
    exact ⟨h1, ⟨A, c, rfl, e2, e3.only (c := c) ho fun g hg => hd g (List.mem_append.2 (Or.inl hg))⟩, ⟨B, d, rfl, f2, f3.only (c := d) ho fun g hg => hd g (List.mem_append.2 (Or.inr (List.mem_append.2 (Or.inl hg))))⟩, hl.only ho fun g hg => hd g (List.mem_append.2 (Or.inr (List.mem_append.2 (Or.inr hg))))⟩
theorem IsL.only {bs : List Nat} {w w' : World} (ho : Only bs w w') : ∀ {l : List NT}, IsL w l → (∀ g ∈ blkL l, ¬ g ∈ bs) → IsL w' l
  | [], _, _ => by rw [IsL]; trivial
  | t :: l, h, hd => by
    rw [IsL] at h ⊢
    rw [blkL] at hd
    exact ⟨h.1.only ho fun g hg => hd g (List.mem_append.2 (Or.inl hg)), h.2.only ho fun g hg => hd g (List.mem_append.2 (Or.inr hg))⟩
end
mutual
theorem Fr.only {bs : List Nat} {B : Nat} {w w' : World} (ho : Only bs w w') : ∀ {t : NT}, Fr B w t → (∀ g ∈ blk t, ¬ g ∈ bs) → Fr B w' t
  | .mk k n u s kv keys lv l, h, hd => by
    rw [Fr] at h ⊢
    rw [blk] at hd
    obtain ⟨h1, h2, h3⟩ := h
    refine ⟨fun h0 => ?_, fun h0 => ?_, h3.only ho fun g hg => hd g (List.mem_append.2 (Or.inr (List.mem_append.2 (Or.inr hg))))⟩
    · obtain ⟨b, m, c, cs, T, e1, e2, e3⟩ := h1 h0
      exact ⟨b, m, c, cs, T, e1, e2, (ho.block b (Array.getElem?_eq_some_iff.1 e3).1 (hd b (List.mem_append.2 (Or.inl (own_mem (by omega) (by rw [e1]; rfl)))))).trans e3⟩
    · obtain ⟨b, m, c, cs, T, e1, e2, e3⟩ := h2 h0
      exact ⟨b, m, c, cs, T, e1, e2, (ho.block b (Array.getElem?_eq_some_iff.1 e3).1 (hd b (List.mem_append.2 (Or.inr (List.mem_append.2 (Or.inl (own_mem (by omega) (by rw [e1]; rfl)))))))).trans e3⟩
theorem FrL.only {bs : List Nat} {B : Nat} {w w' : World} (ho : Only bs w w') : ∀ {l : List NT}, FrL B w l → (∀ g ∈ blkL l, ¬ g ∈ bs) → FrL B w' l
  | [], _, _ => by rw [FrL]; trivial
  | t :: l, h, hd => by
    rw [FrL] at h ⊢
    rw [blkL] at hd
    exact ⟨h.1.only ho fun g hg => hd g (List.mem_append.2 (Or.inl hg)), h.2.only ho fun g hg => hd g (List.mem_append.2 (Or.inr hg))⟩
end
/-- A row of n elements of sz cells that may be written; from element j on it holds xs. -/
def RowFrom (w : World) (v : Value) (sz n j : Nat) (xs : List Value) : Prop := 0 < n → ∃ b c cs T, v = .slice (some ⟨b, 0, none⟩) n c ∧ w.heap[b]? = some (.cells cs T (0, 0)) ∧ ∀ k, j * sz ≤ k → k < n * sz → cs[k]? = xs[k]?
theorem RowFrom.of {w : World} {A : Option Addr} {c : Nat} {sz n : Nat} {xs : List Value} (hr : Rd w sz A n xs) (hf : 0 < n → ∃ b m c' cs T, Value.slice A n c = .slice (some ⟨b, 0, none⟩) m c' ∧ w.heap[b]? = some (.cells cs T (0, 0))) : RowFrom w (.slice A n c) sz n 0 xs := by
  intro h0
  obtain ⟨b, m, c', cs, T, e, hb⟩ := hf h0
  obtain ⟨b', off, e2, _, hc⟩ := hr.2 h0
  injection e with e _ _
  subst e
  injection e2 with e2
  injection e2 with e2 e3 _
  subst e2; subst e3
  refine ⟨b, c, cs, T, rfl, hb, fun k _ hk => ?_⟩
  have hx : xs[k]? = some (xs[k]'(by rw [hr.1]; exact hk)) := List.getElem?_eq_getElem _
  have := hc k _ hx
  rw [cell_of_row _ _ _ _ _ _ hb, Nat.zero_add] at this
  rw [this, hx]
theorem RowFrom.only {bs : List Nat} {w w' : World} {v : Value} {sz n j : Nat} {xs : List Value} (h : RowFrom w v sz n j xs) (ho : Only bs w w') (hd : ∀ g ∈ ownB n v, ¬ g ∈ bs) : RowFrom w' v sz n j xs := by
  intro h0
  obtain ⟨b, c, cs, T, rfl, hb, hc⟩ := h h0
  exact ⟨b, c, cs, T, rfl, (ho.block b (Array.getElem?_eq_some_iff.1 hb).1 (hd b (own_mem (by omega) rfl))).trans hb, hc⟩
theorem flat_get : ∀ (l : List NT) (i : Nat) (t : NT), l[i]? = some t → ∀ (j : Nat) (u : Value), t.cells[j]? = some u → (l.flatMap NT.cells)[i * 6 + j]? = some u
  | [], i, t, hi, _, _, _ => by simp at hi
  | x :: l, 0, t, hi, j, u, hu => by
    simp at hi; subst hi
    rw [List.flatMap_cons, Nat.zero_mul, Nat.zero_add, List.getElem?_append_left (List.getElem?_eq_some_iff.1 hu).1]
    exact hu
  | x :: l, i + 1, t, hi, j, u, hu => by
    rw [List.flatMap_cons, List.getElem?_append_right (by rw [cells_len]; omega), cells_len, show (i + 1) * 6 + j - 6 = i * 6 + j by omega]
    exact flat_get l i t (by simpa using hi) j u hu
theorem six_at {W : World} {b o : Nat} {cs : Array Value} {T : TypeId} (h : W.heap[b]? = some (.cells cs T (0, 0))) (a0 a1 a2 a3 a4 a5 : Value) :
    ((((((W.setCell ⟨b, o, none⟩ a0).setCell ⟨b, o + 1, none⟩ a1).setCell ⟨b, o + 2, none⟩ a2).setCell ⟨b, o + 3, none⟩ a3).setCell ⟨b, o + 4, none⟩ a4).setCell ⟨b, o + 5, none⟩ a5).heap[b]? = some (.cells ((((((cs.setIfInBounds o a0).setIfInBounds (o + 1) a1).setIfInBounds (o + 2) a2).setIfInBounds (o + 3) a3).setIfInBounds (o + 4) a4).setIfInBounds (o + 5) a5) T (0, 0)) ∧
    W.grownBy ((((((W.setCell ⟨b, o, none⟩ a0).setCell ⟨b, o + 1, none⟩ a1).setCell ⟨b, o + 2, none⟩ a2).setCell ⟨b, o + 3, none⟩ a3).setCell ⟨b, o + 4, none⟩ a4).setCell ⟨b, o + 5, none⟩ a5) (some b) := by
  refine ⟨?_, grown_trans (grown_trans (grown_trans (grown_trans (grown_trans (set_grown W b o a0) (set_grown _ b (o + 1) a1)) (set_grown _ b (o + 2) a2)) (set_grown _ b (o + 3) a3)) (set_grown _ b (o + 4) a4)) (set_grown _ b (o + 5) a5)⟩
  have h0 := heap_setCell_same W b o _ _ a0 h
  have h1 := heap_setCell_same _ b (o + 1) _ _ a1 h0
  have h2 := heap_setCell_same _ b (o + 2) _ _ a2 h1
  have h3 := heap_setCell_same _ b (o + 3) _ _ a3 h2
  have h4 := heap_setCell_same _ b (o + 4) _ _ a4 h3
  exact heap_setCell_same _ b (o + 5) _ _ a5 h4
theorem six_keep {cs : Array Value} {o k : Nat} (h : o + 6 ≤ k) (a0 a1 a2 a3 a4 a5 : Value) : ((((((cs.setIfInBounds o a0).setIfInBounds (o + 1) a1).setIfInBounds (o + 2) a2).setIfInBounds (o + 3) a3).setIfInBounds (o + 4) a4).setIfInBounds (o + 5) a5)[k]? = cs[k]? := by
  rw [Array.getElem?_setIfInBounds_ne (by omega), Array.getElem?_setIfInBounds_ne (by omega), Array.getElem?_setIfInBounds_ne (by omega), Array.getElem?_setIfInBounds_ne (by omega), Array.getElem?_setIfInBounds_ne (by omega), Array.getElem?_setIfInBounds_ne (by omega)]
theorem blkL_mem {l : List NT} {x : NT} (hx : x ∈ l) : ∀ g ∈ blk x, g ∈ blkL l := by
  induction l with
  | nil => cases hx
  | cons t l ih =>
    intro g hg
    rw [blkL]
    rcases List.mem_cons.1 hx with rfl | hx
    · exact List.mem_append.2 (Or.inl hg)
    · exact List.mem_append.2 (Or.inr (ih hx g hg))
theorem frL_mem {B : Nat} {w : World} : ∀ {l : List NT}, FrL B w l → ∀ x ∈ l, Fr B w x
  | [], _, x, hx => by cases hx
  | t :: l, h, x, hx => by
    rw [FrL] at h
    rcases List.mem_cons.1 hx with rfl | hx
    · exact h.1
    · exact frL_mem h.2 x hx
theorem blkL_take {l : List NT} {j : Nat} {x : NT} (hx : l[j]? = some x) : blkL l = blkL (l.take j) ++ (blk x ++ blkL (l.drop (j + 1))) := by
  obtain ⟨hlt, hg⟩ := List.getElem?_eq_some_iff.1 hx
  have h1 : l = l.take j ++ (x :: l.drop (j + 1)) := by rw [← hg, ← List.drop_eq_getElem_cons hlt, List.take_append_drop]
  have h2 := congrArg blkL h1
  rw [h2, blkL_append, blkL]
theorem blkL_take_succ {l : List NT} {j : Nat} {x : NT} (hx : l[j]? = some x) : blkL (l.take (j + 1)) = blkL (l.take j) ++ blk x := by
  obtain ⟨hlt, hg⟩ := List.getElem?_eq_some_iff.1 hx
  rw [List.take_succ_eq_append_getElem hlt, hg, blkL_snoc]
set_option maxRecDepth 100000 in
set_option maxHeartbeats 4000000 in
theorem spoil_any (t : NT) : ∀ (B : Nat) (w : World), Is w t → Fr B w t → (blk t).Nodup → Calls Try.prog 21 #[t.val] w fun e w' => (∃ v, e = .returned v) ∧ Only (blk t) w w' := by
  induction t using NT.ind with
  | h k n u s kv keys lv l ih =>
    intro B w hI hF hN
    have hlt := is_blk_lt hI
    have hI0 := hI
    have hF0 := hF
    rw [Is] at hI0
    rw [Fr] at hF0
    obtain ⟨_, ⟨A, c, rfl, e2, e3⟩, ⟨A2, d, rfl, f2, f3⟩, hl⟩ := hI0
    obtain ⟨hf1, hf2, hf3⟩ := hF0
    rw [val_mk]
    rw [blk] at hN hlt ⊢
    have hb0 : Below w.heap.size w (w.alloc (.cells #[.int .i64 k, .int .i64 n, .int .u64 u, .string ⟨s.toArray⟩, .slice A keys.length c, .slice A2 l.length d] 26)) := (Below.refl _ w).alloc (Nat.le_refl _) _
    have hx0 := heap_alloc_new w (.cells #[.int .i64 k, .int .i64 n, .int .u64 u, .string ⟨s.toArray⟩, .slice A keys.length c, .slice A2 l.length d] 26)
    have hs0 : (w.alloc (.cells #[.int .i64 k, .int .i64 n, .int .u64 u, .string ⟨s.toArray⟩, .slice A keys.length c, .slice A2 l.length d] 26)).heap.size = w.heap.size + 1 := by simp
    obtain ⟨W0, hW0⟩ : ∃ W0, w.alloc (.cells #[.int .i64 k, .int .i64 n, .int .u64 u, .string ⟨s.toArray⟩, .slice A keys.length c, .slice A2 l.length d] 26) = W0 := ⟨_, rfl⟩
    have hk0 : RowFrom W0 (.slice A keys.length c) 1 keys.length 0 (keys.map strv) := by
      rw [← hW0]
      refine RowFrom.of (e3.below hb0) fun h0 => ?_
      obtain ⟨b, m, c', cs, T, q1, q2, q3⟩ := hf1 h0
      exact ⟨b, m, c', cs, T, q1, (hb0.block b (Array.getElem?_eq_some_iff.1 q3).1).trans q3⟩
    have hl0 : RowFrom W0 (.slice A2 l.length d) 6 l.length 0 (l.flatMap NT.cells) := by
      rw [← hW0]
      refine RowFrom.of (f3.below hb0) fun h0 => ?_
      obtain ⟨b, m, c', cs, T, q1, q2, q3⟩ := hf2 h0
      exact ⟨b, m, c', cs, T, q1, (hb0.block b (Array.getElem?_eq_some_iff.1 q3).1).trans q3⟩
    rw [hW0] at hb0 hx0 hs0
    have hkz : (keys.length : Int) ≤ 140737488355328 := by omega
    have hlz : (l.length : Int) ≤ 140737488355328 := by omega
    have hN1 := List.nodup_append.1 hN
    have hN2 := List.nodup_append.1 hN1.2.1
    have hd1 : ∀ g, g ∈ ownB keys.length (.slice A keys.length c) → ¬ g ∈ ownB l.length (.slice A2 l.length d) ++ blkL l := fun g h1 h2 => hN1.2.2 g h1 g h2 rfl
    have hd2 : ∀ g, g ∈ ownB l.length (.slice A2 l.length d) → ¬ g ∈ blkL l := fun g h1 h2 => hN2.2.2 g h1 g h2 rfl
    have HX := Lib.hid (And.intro hx0 (And.intro hb0 hs0))
    have HL := Lib.hid (And.intro hl0 (And.intro (IsL.below hb0 hl) (FrL.kept (grown_of_below hb0) hf3 (fun g e => by cases e))))
    have HD := Lib.hid (And.intro hd1 (And.intro hd2 (And.intro hN2.2.1 hlt)))
    have HIH := Lib.hid ih
    clear hx0 hb0 hs0 hl0 hd1 hd2 hN hN1 hN2 hlt ih hI hF e2 e3 f2 f3 hl hf1 hf2 hf3
    go_enter Try.func21, Try.ntmps21
    go_wp2
    (try rw [hW0])
    clear hW0
    go_loopw [2] (fun i wr => ∃ j : Nat, j ≤ keys.length ∧ i = .int .i64 (j : Int) ∧ RowFrom wr (.slice A keys.length c) 1 keys.length j (keys.map strv) ∧ Only (ownB keys.length (.slice A keys.length c)) W0 wr) (fun i _ => keys.length - (intOf i).toNat)
    case atStart => exact ⟨0, by omega, rfl, hk0, Only.refl _ _⟩
    case round =>
      obtain ⟨j, hj, rfl, hrow, ho⟩ := hrel
      clear hk0
      have hbk : ¬ w.heap.size ∈ ownB keys.length (.slice A keys.length c) := fun h => by have := HD.out.2.2.2 _ (List.mem_append.2 (Or.inl h)); omega
      have hxr := (ho.block w.heap.size (by have := HX.out.2.2; omega) hbk).trans HX.out.1
      have x4 : wr.cell? ⟨w.heap.size, 4, none⟩ = some (.slice A keys.length c) := (cell_of_row wr w.heap.size 4 _ _ _ hxr).trans rfl
      have HO := Lib.hid (And.intro ho hxr)
      clear ho hxr hbk
      by_cases hjl : j < keys.length
      · obtain ⟨b, c', cs, T, hv, hb, hc⟩ := hrow (by omega)
        injection hv with hv _ _
        subst hv
        obtain ⟨kj, hkj⟩ : ∃ kj, keys[j]? = some kj := ⟨_, List.getElem?_eq_getElem hjl⟩
        have hcj : wr.cell? ⟨b, j, none⟩ = some (strv kj) := by
          rw [cell_of_row _ _ _ _ _ _ hb, hc j (by omega) (by omega), List.getElem?_map, hkj]; rfl
        have hfz := frozen_of_row wr b j _ _ hb
        have hnew := fun v => heap_setCell_same wr b j _ _ v hb
        have HNW := Lib.hid (And.intro hnew hc)
        have hjz : (j : Int) < (keys.length : Int) := by omega
        clear hnew hc hkj hb
        go_wp2
        go_roundw
        case rel =>
          refine ⟨j + 1, by omega, by simp, fun h0 => ⟨b, c, _, T, rfl, HNW.out.1 _, fun k hk1 hk2 => ?_⟩, HO.out.1.trans (Only.grown (set_grown wr b j _) (own_mem (by omega) rfl))⟩
          rw [Array.getElem?_setIfInBounds_ne (by omega)]
          exact HNW.out.2 k (by omega) hk2
        case measure => simp [intOf]; omega
      · obtain rfl : j = keys.length := by omega
        clear hrow
        obtain ⟨W1, hW1⟩ : ∃ W1, W1 = wr := ⟨_, rfl⟩
        have hs1 := HO.out.1.size
        have hIl : IsL wr l := IsL.only HO.out.1 HL.out.2.1 fun g hg hm => HD.out.1 g hm (List.mem_append.2 (Or.inr hg))
        have hFl : FrL B wr l := FrL.only HO.out.1 HL.out.2.2 fun g hg hm => HD.out.1 g hm (List.mem_append.2 (Or.inr hg))
        have hRl : RowFrom wr (.slice A2 l.length d) 6 l.length 0 (l.flatMap NT.cells) := HL.out.1.only HO.out.1 fun g hg hm => HD.out.1 g hm (List.mem_append.2 (Or.inl hg))
        rw [← hW1] at hIl hFl hRl HO x4 hs1 ⊢
        clear hW1
        have HLL := Lib.hid (And.intro hIl (And.intro hFl hs1))
        clear hIl hFl hs1
        go_wp2
        go_loopw [3] (fun i wr => ∃ j : Nat, j ≤ l.length ∧ i = .int .i64 (j : Int) ∧ RowFrom wr (.slice A2 l.length d) 6 l.length j (l.flatMap NT.cells) ∧ Only (ownB l.length (.slice A2 l.length d) ++ blkL (l.take j)) W1 wr) (fun i _ => l.length - (intOf i).toNat)
        case atStart => exact ⟨0, by omega, rfl, hRl, Only.refl _ _⟩
        case round =>
          obtain ⟨i, hi, rfl, hrow, ho⟩ := hrel
          clear hRl x4
          have htake : ∀ g ∈ blkL (l.take i), g ∈ blkL l := fun g hg => by rw [← List.take_append_drop i l, blkL_append]; exact List.mem_append.2 (Or.inl hg)
          have hbk : ¬ w.heap.size ∈ ownB l.length (.slice A2 l.length d) ++ blkL (l.take i) := fun h => by
            have := HD.out.2.2.2 w.heap.size (List.mem_append.2 (Or.inr (by
              rcases List.mem_append.1 h with h | h
              · exact List.mem_append.2 (Or.inl h)
              · exact List.mem_append.2 (Or.inr (htake _ h)))))
            omega
          have hxr := (ho.block w.heap.size (by have h1 := HX.out.2.2; have h2 := HLL.out.2.2; omega) hbk).trans HO.out.2
          have x5 : wr.cell? ⟨w.heap.size, 5, none⟩ = some (.slice A2 l.length d) := (cell_of_row wr w.heap.size 5 _ _ _ hxr).trans rfl
          by_cases hil : i < l.length
          · obtain ⟨b, c', cs, T, hv, hb, hc⟩ := hrow (by omega)
            injection hv with hv _ hv3
            subst hv; subst hv3
            obtain ⟨x, hx⟩ : ∃ x, l[i]? = some x := ⟨_, List.getElem?_eq_getElem hil⟩
            have hmem := List.mem_of_getElem? hx
            have hcell : ∀ (r : Nat) (v : Value), x.cells[r]? = some v → r < 6 → wr.cell? ⟨b, i * 6 + r, none⟩ = some v := fun r v hv hr => by
              rw [cell_of_row _ _ _ _ _ _ hb, hc _ (by omega) (by omega)]
              exact flat_get l i x hx r v hv
            have hsplit := blkL_take hx
            have hnd := HD.out.2.2.1
            rw [hsplit] at hnd
            have hnd1 := List.nodup_append.1 hnd
            have hnd2 := List.nodup_append.1 hnd1.2.1
            have hbm : b ∈ ownB l.length (.slice (some ⟨b, 0, none⟩) l.length d) := own_mem (by omega) rfl
            have hxd : ∀ g ∈ blk x, ¬ g ∈ ownB l.length (.slice (some ⟨b, 0, none⟩) l.length d) ++ blkL (l.take i) := fun g hg hm => by
              rcases List.mem_append.1 hm with hm | hm
              · exact HD.out.2.1 g hm (blkL_mem hmem g hg)
              · exact hnd1.2.2 g hm g (List.mem_append.2 (Or.inl hg)) rfl
            have hIx := (isL_mem HLL.out.1 _ hmem).only ho hxd
            have hFx := (frL_mem HLL.out.2.1 _ hmem).only ho hxd
            have hcall := HIH.out x hmem B wr hIx hFx hnd2.1
            have hbx : ¬ b ∈ blk x := fun h => hxd b h (List.mem_append.2 (Or.inl hbm))
            have hsx : ¬ w.heap.size ∈ blk x := fun h => by
              have := HD.out.2.2.2 w.heap.size (List.mem_append.2 (Or.inr (List.mem_append.2 (Or.inr (blkL_mem hmem _ h)))))
              omega
            have htk := blkL_take_succ hx
            obtain ⟨k', n', u', s', kv', ks', lv', l'⟩ := x
            have hI1 := hIx
            rw [Is] at hI1
            obtain ⟨_, ⟨A3, c3, rfl, _⟩, ⟨B3, d3, rfl, _⟩, _⟩ := hI1
            have c0 := hcell 0 _ rfl (by omega)
            have c1 := hcell 1 _ rfl (by omega)
            have c2 := hcell 2 _ rfl (by omega)
            have c3' := hcell 3 _ rfl (by omega)
            have c4 := hcell 4 _ rfl (by omega)
            have c5 := hcell 5 _ rfl (by omega)
            rw [Nat.add_zero] at c0
            rw [val_mk] at hcall
            have HA := Lib.hid (And.intro ho (And.intro hxr (And.intro hb (And.intro hc (And.intro hcell (And.intro hbx (And.intro hsx (And.intro htk hbm))))))))
            have HC := Lib.hid hcall
            have hiz : (i : Int) < (l.length : Int) := by omega
            clear ho hxr hb hc hcell hbx hsx htk hcall hIx hFx hxd hnd hnd1 hnd2 hsplit hmem hx htake hbk hrow
            go_wp2_with (go_at_call 21; refine HC.out.mono ?_; rintro e w3 ⟨⟨vr, rfl⟩, ho3⟩; (have hxr3 := (ho3.block w.heap.size (Array.getElem?_eq_some_iff.1 HA.out.2.1).1 HA.out.2.2.2.2.2.2.1).trans HA.out.2.1); (have hb3 := (ho3.block b (Array.getElem?_eq_some_iff.1 HA.out.2.2.1).1 HA.out.2.2.2.2.2.1).trans HA.out.2.2.1); (have x53 : w3.cell? ⟨w.heap.size, 5, none⟩ = some (.slice (some ⟨b, 0, none⟩) l.length d) := (cell_of_row w3 w.heap.size 5 _ _ _ hxr3).trans rfl); (have hcl := fun (r : Nat) (v : Value) (hv : (NT.mk k' n' u' s' (.slice A3 ks'.length c3) ks' (.slice B3 l'.length d3) l').cells[r]? = some v) (hr : r < 6) => ((cell_of_row w3 b (i * 6 + r) _ _ _ hb3).trans ((cell_of_row wr b (i * 6 + r) _ _ _ HA.out.2.2.1).symm.trans (HA.out.2.2.2.2.1 r v hv hr)))); (have y0 := hcl 0 _ rfl (by omega)); (have y1 := hcl 1 _ rfl (by omega)); (have y2 := hcl 2 _ rfl (by omega)); (have y3 := hcl 3 _ rfl (by omega)); (have y4 := hcl 4 _ rfl (by omega)); (have y5 := hcl 5 _ rfl (by omega)); rw [Nat.add_zero] at y0; (have g0 := frozen_of_row w3 b (i * 6) _ _ hb3); (have g1 := frozen_of_row w3 b (i * 6 + 1) _ _ hb3); (have g2 := frozen_of_row w3 b (i * 6 + 2) _ _ hb3); (have g3 := frozen_of_row w3 b (i * 6 + 3) _ _ hb3); (have g4 := frozen_of_row w3 b (i * 6 + 4) _ _ hb3); (have g5 := frozen_of_row w3 b (i * 6 + 5) _ _ hb3); (have HO3 := Lib.hid (And.intro ho3 (And.intro hxr3 hb3))); clear ho3 hxr3 hb3 hcl c0 c1 c2 c3' c4 c5)
            go_roundw
            case rel =>
              obtain ⟨p1, p2⟩ := six_at HO3.out.2.2 (.int .i64 (-9)) (.int .i64 0) (.int .u64 0) (.string ⟨#[115, 112, 111, 105, 108, 116]⟩) (.slice none 0 0) (.slice none 0 0)
              refine ⟨i + 1, by omega, by simp, fun h0 => ⟨b, d, _, T, rfl, p1, fun k hk1 hk2 => ?_⟩, ?_⟩
              · rw [six_keep (by omega)]
                exact HA.out.2.2.2.1 k (by omega) hk2
              · have hbm := HA.out.2.2.2.2.2.2.2.2
                have q1 := HA.out.1.mono (cs := ownB l.length (.slice (some ⟨b, 0, none⟩) l.length d) ++ blkL (l.take (i + 1))) (fun g hg => by
                  rw [HA.out.2.2.2.2.2.2.2.1]
                  rcases List.mem_append.1 hg with hg | hg
                  · exact List.mem_append.2 (Or.inl hg)
                  · exact List.mem_append.2 (Or.inr (List.mem_append.2 (Or.inl hg))))
                have q2 := HO3.out.1.mono (cs := ownB l.length (.slice (some ⟨b, 0, none⟩) l.length d) ++ blkL (l.take (i + 1))) (fun g hg => by
                  rw [HA.out.2.2.2.2.2.2.2.1]
                  exact List.mem_append.2 (Or.inr (List.mem_append.2 (Or.inr hg))))
                exact (q1.trans q2).trans (Only.grown p2 (List.mem_append.2 (Or.inl hbm)))
            case measure => simp [intOf]; omega
          · obtain rfl : i = l.length := by omega
            clear hrow
            rw [List.take_length] at ho hbk
            have HF := Lib.hid ho
            clear ho hbk htake hxr
            go_wp2
            refine Go.Great.bodyPost_end0 rfl rfl ?_
            refine ⟨⟨_, rfl⟩, ?_⟩
            have h1 : Only (ownB keys.length (.slice A keys.length c) ++ (ownB l.length (.slice A2 l.length d) ++ blkL l)) w W0 := Only.of_below HX.out.2.1
            exact (h1.trans (HO.out.1.mono fun g hg => List.mem_append.2 (Or.inl hg))).trans (HF.out.mono fun g hg => List.mem_append.2 (Or.inr hg))
end Go.Proofs.Yteoggaioleckhaa
