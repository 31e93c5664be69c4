import Derived.Test.YtalegkgonbmaoaaDoorShelf
import Derived.Test.YtalegkgonbmaoaaDoorMem
import Derived.Deep.WholeRow
/- A strings.Builder that lies in a block of the call's own at any place of it (by itself, or as a field of a struct): copyCheck, WriteString, WriteRune, String. -/
set_option linter.unusedVariables false
namespace Go.Proofs.YtalegkgonbmaoaaDoor
open Go.RowKit
structure BIn (B b o : Nat) (T : TypeId) (cs : Array Value) (p v : Value) (bs : List Value) (w : World) : Prop where
  hB : B ≤ b
  blk : w.heap[b]? = some (.cells cs T (0, 0))
  c0 : cs[o]? = some p
  c1 : cs[o + 1]? = some v
  hp : p = .pointer none ∨ p = .pointer (some ⟨b, o, none⟩)
  own : w.ownsRow B 5 1 v bs.length bs
  hT : T ≠ 5
/-- The type's layout holds a Builder at o. -/
def LiesB (T : TypeId) (n o : Nat) : Prop := liesAt Tryd.prog Tryd.prog.depth T (n / Tryd.prog.cellsOf T) o 55 1 = true
section
variable {B b o : Nat} {T : TypeId} {cs : Array Value} {p v : Value} {bs : List Value} {w : World}
theorem BIn.ne (h : BIn B b o T cs p v bs w) : v.ownBlock ≠ some b := Lib.ownBlock_ne h.own h.blk h.hT
theorem BIn.cell0 (h : BIn B b o T cs p v bs w) : w.cell? ⟨b, o, none⟩ = some p := by rw [Lib.cell_of_heap h.blk]; exact h.c0
theorem BIn.cell1 (h : BIn B b o T cs p v bs w) : w.cell? ⟨b, o + 1, none⟩ = some v := by rw [Lib.cell_of_heap h.blk]; exact h.c1
theorem BIn.shape (h : BIn B b o T cs p v bs w) : w.shape? b = some (T, cs.size) := by simp [World.shape?, h.blk]
theorem BIn.frozen (h : BIn B b o T cs p v bs w) (j : Nat) : w.frozen? ⟨b, j, none⟩ = false := Lib.frozen_of_heap h.blk j
theorem BIn.lt (h : BIn B b o T cs p v bs w) : o + 1 < cs.size := (Array.getElem?_eq_some_iff.1 h.c1).1
theorem BIn.blt (h : BIn B b o T cs p v bs w) : b < w.heap.size := by
  rcases Nat.lt_or_ge b w.heap.size with h' | h'
  · exact h'
  · have := h.blk; simp [Array.getElem?_eq_none h'] at this
theorem BIn.used (h : BIn B b o T cs p v bs w) : BIn B b o T (cs.setIfInBounds o (.pointer (some ⟨b, o, none⟩))) (.pointer (some ⟨b, o, none⟩)) v bs (w.setCell ⟨b, o, none⟩ (.pointer (some ⟨b, o, none⟩))) := by
  have hl := h.lt
  refine ⟨h.hB, heap_setCell_same w b o cs T _ h.blk, ?_, ?_, .inr rfl, ?_, h.hT⟩
  · rw [Array.getElem?_setIfInBounds]; simp; omega
  · rw [Array.getElem?_setIfInBounds]; simp [h.c1]
  · exact h.own.kept (row := some b) ⟨rfl, rfl, rfl, by simp [World.setCell], fun k _ hk => Below.heap_setCell _ _ _ _ (fun e => hk (by simp [e]))⟩ (Or.inr h.ne)
theorem BIn.put {w' : World} {v' : Value} {bs' : List Value} (h : BIn B b o T cs p v bs w) (hb : w'.heap[b]? = some (.cells cs T (0, 0))) (hown : w'.ownsRow B 5 1 v' bs'.length bs') :
    BIn B b o T (cs.setIfInBounds (o + 1) v') p v' bs' (w'.setCell ⟨b, o + 1, none⟩ v') := by
  have hl := h.lt
  have hne := Lib.ownBlock_ne hown hb h.hT
  refine ⟨h.hB, heap_setCell_same w' b (o + 1) cs T _ hb, ?_, ?_, h.hp, ?_, h.hT⟩
  · rw [Array.getElem?_setIfInBounds]; simp [h.c0]
  · rw [Array.getElem?_setIfInBounds]; simp; omega
  · exact hown.kept (row := some b) ⟨rfl, rfl, rfl, by simp [World.setCell], fun k _ hk => Below.heap_setCell _ _ _ _ (fun e => hk (by simp [e]))⟩ (Or.inr hne)
end
theorem sizeB : (Tryd.prog.info? 55).map (·.size) = some 2 := by kernel_rfl
set_option maxHeartbeats 1000000 in
set_option maxRecDepth 100000 in
theorem copyCheck_any (B b o : Nat) (T : TypeId) (cs : Array Value) (p v : Value) (bs : List Value) (w : World) (h : BIn B b o T cs p v bs w) (hl : LiesB T cs.size o) :
    Calls Tryd.prog 47 #[.pointer (some ⟨b, o, none⟩)] w fun e w' => e = .returned (.tuple #[]) ∧ BIn B b o T (cs.setIfInBounds o (.pointer (some ⟨b, o, none⟩))) (.pointer (some ⟨b, o, none⟩)) v bs w' ∧ Below B w w' := by
  obtain ⟨j, hj, hjs⟩ := Option.map_eq_some_iff.1 sizeB
  have c0 := h.cell0
  have hsh := h.shape
  have fz := h.frozen o
  have hlt := h.lt
  rcases h.hp with rfl | rfl
  · have H := Lib.hid h
    clear h
    go_enter Tryd.func47, Tryd.ntmps47
    go_wp2
    rw [Lib.run_to_unsafe w ⟨b, o, none⟩ Tryd.underlying53 Tryd.underlying89 hj (by rw [hjs]; decide) hsh (by show o < cs.size; omega)]
    simp only [Result.andThen]
    rw [Oper.upon_value]
    go_wp2
    rw [run_callFunc_extern Tryd.func61 (by kernel_rfl) (by kernel_rfl) (by kernel_rfl) (e := Extern.AbiNoEscape.same) (by kernel_rfl)]
    rw [Lib.run_noEscape]
    simp only [Result.andThen]
    rw [Oper.upon_value]
    go_wp2
    rw [Lib.run_from_unsafe w ⟨b, o, none⟩ Tryd.underlying89 Tryd.underlying53 hj hsh hl]
    simp only [Result.andThen]
    rw [Oper.upon_value]
    go_wp2
    go_end0
    exact ⟨rfl, H.out.used, (Below.refl B w).setCell (p := ⟨b, o, none⟩) H.out.hB _⟩
  · have H := Lib.hid h
    clear h
    go_enter Tryd.func47, Tryd.ntmps47
    go_wp2
    rw [Lib.run_neq_ptr_same w _ Tryd.underlying53 hj]
    go_wp2
    go_end0
    have e : cs.setIfInBounds o (.pointer (some ⟨b, o, none⟩)) = cs := by
      have := H.out.c0
      apply Array.ext_getElem?
      intro i
      rw [Array.getElem?_setIfInBounds]
      split
      · rename_i hi; subst hi; simp [this]; omega
      · rfl
    exact ⟨rfl, by rw [e]; exact H.out, Below.refl B _⟩
theorem infoByte : (Tryd.prog.info? 5).map (fun i => (i.zero, i.size, i.bytes)) = some (some (.int .u8 0), 1, 1) := by kernel_rfl
set_option maxHeartbeats 2000000 in
set_option maxRecDepth 100000 in
theorem writeString_any (B b o : Nat) (T : TypeId) (cs : Array Value) (p v : Value) (bs : List Value) (l : List UInt8) (w : World) (h : BIn B b o T cs p v bs w) (hl : LiesB T cs.size o) (hlen : bs.length + l.length ≤ 140737488355328) (hBw : B ≤ w.heap.size) :
    Calls Tryd.prog 33 #[.pointer (some ⟨b, o, none⟩), .string ⟨l.toArray⟩] w fun e w' => (∃ x, e = .returned x) ∧ (∃ v', BIn B b o T ((cs.setIfInBounds o (.pointer (some ⟨b, o, none⟩))).setIfInBounds (o + 1) v') (.pointer (some ⟨b, o, none⟩)) v' (bs ++ Lib.byteCells l) w') ∧ Below B w w' := by
  obtain ⟨i0, hi, hz0, hz1, hz2⟩ := info_parts infoByte
  have hsl : (⟨l.toArray⟩ : ByteArray).size = l.length := by simp [ByteArray.size]
  go_enter Tryd.func33, Tryd.ntmps33
  go_wp2_with (go_at_call 47; refine (copyCheck_any B b o T cs p v bs _ h hl).mono ?_)
  rintro e w1 ⟨rfl, h1, hb1⟩
  have c1 := h1.cell1
  have H1 := Lib.hid h1
  have hown := h1.own
  clear h h1
  go_wp2_with (at_builtin; refine Lib.wpList_append_own_string _ rfl _ _ 48 9 rfl B 5 i0 Tryd.underlying48 Tryd.underlying9 hi hz0 hz1 hz2 _ _ _ rfl hown ⟨l.toArray⟩ rfl ?c3 ?c4 ?c5 ?_)
  case c3 => unfold maxLen; omega
  case c4 => omega
  case c5 => have := hb1.size; omega
  intro v' w2 hown' hgrow _
  obtain ⟨ao, n', cap, rfl⟩ : ∃ ao n' cap, v' = .slice ao n' cap := by
    rcases hown'.2 with ⟨hv, _⟩ | ⟨g, cap, cur, hv, _⟩
    · exact ⟨_, _, _, hv⟩
    · exact ⟨_, _, _, hv⟩
  have hb2 := (hgrow.block b H1.out.blt (fun e => H1.out.ne e.symm)).trans H1.out.blk
  have hP := H1.out.put hb2 (bs' := bs ++ Lib.byteCells l) (by have e : Lib.strCells ⟨l.toArray⟩ = Lib.byteCells l := rfl; rw [e] at hown'; simpa [Lib.byteCells_length] using hown')
  have d1 : w2.cell? ⟨b, o + 1, none⟩ = some v := by rw [Lib.cell_of_heap hb2]; exact H1.out.c1
  have f1 : w2.frozen? ⟨b, o + 1, none⟩ = false := Lib.frozen_of_heap hb2 (o + 1)
  have HP := Lib.hid hP
  have HB := Lib.hid ((hb1.grown hgrow (by have := hb1.size; omega) (fun k hk => (hown.lt k hk).1)).setCell (p := ⟨b, o + 1, none⟩) H1.out.hB (.slice ao n' cap))
  clear hb2 hP hown' hgrow hown hb1 c1
  go_wp2
  go_ret2
  exact ⟨⟨_, rfl⟩, ⟨_, HP.out⟩, HB.out⟩
set_option maxHeartbeats 2000000 in
set_option maxRecDepth 100000 in
theorem writeRune_any (B b o : Nat) (T : TypeId) (cs : Array Value) (p v : Value) (bs : List Value) (r : Int) (hr0 : -2147483648 ≤ r) (hr1 : r ≤ 2147483647) (w : World) (h : BIn B b o T cs p v bs w) (hl : LiesB T cs.size o) (hlen : bs.length + 4 ≤ 140737488355328) (hBw : B ≤ w.heap.size) :
    Calls Tryd.prog 31 #[.pointer (some ⟨b, o, none⟩), .int .i32 r] w fun e w' => (∃ x, e = .returned x) ∧ (∃ v', BIn B b o T ((cs.setIfInBounds o (.pointer (some ⟨b, o, none⟩))).setIfInBounds (o + 1) v') (.pointer (some ⟨b, o, none⟩)) v' (bs ++ Lib.runeCells r) w') ∧ Below B w w' := by
  have hk4 := Lib.runeCells_le r
  go_enter Tryd.func31, Tryd.ntmps31
  go_wp2_with (go_at_call 47; refine (copyCheck_any B b o T cs p v bs _ h hl).mono ?_)
  rintro e w1 ⟨rfl, h1, hb1⟩
  obtain ⟨ao, cap, rfl⟩ : ∃ ao cap, v = .slice ao bs.length cap := by
    rcases h1.own.2 with ⟨hv, h0⟩ | ⟨g, cap, cur, hv, _⟩
    · exact ⟨none, 0, by rw [hv, h0]⟩
    · exact ⟨_, _, hv⟩
  have c1 := h1.cell1
  have H1 := Lib.hid h1
  have hown := h1.own
  clear h h1
  go_wp2_with (go_at_call 48; refine (Tryd.utf8_AppendRune_plain B _ bs.length bs r hr0 hr1 _ hown hlen (by have := hb1.size; omega)).mono ?_)
  rintro e w2 ⟨v', rfl, hown', o', hgrow⟩
  have hlt := H1.out.blt
  have hb2 : w2.heap[b]? = some (.cells (cs.setIfInBounds o (.pointer (some ⟨b, o, none⟩))) T (0, 0)) := by
    rw [hgrow.block b (by simp; omega) (fun e => H1.out.ne e.symm), Lib.alloc_old w1 _ b hlt]
    exact H1.out.blk
  have d1 : w2.cell? ⟨b, o + 1, none⟩ = some (.slice ao bs.length cap) := by rw [Lib.cell_of_heap hb2]; exact H1.out.c1
  have f1 : w2.frozen? ⟨b, o + 1, none⟩ = false := Lib.frozen_of_heap hb2 (o + 1)
  obtain ⟨g, cap', rfl⟩ : ∃ g cap', v' = .slice (some ⟨g, 0, none⟩) (bs.length + (Lib.runeCells r).length) cap' := by
    rcases hown'.2 with ⟨_, h0⟩ | ⟨g, cap', cur, hv, _⟩
    · omega
    · exact ⟨g, cap', hv⟩
  have HP := Lib.hid (H1.out.put hb2 (bs' := bs ++ Lib.runeCells r) (by simpa using hown'))
  have HB := Lib.hid (((hb1.alloc (by have := hb1.size; omega) o').grown hgrow (by have := hb1.size; simp; omega) (fun k hk => (hown.lt k hk).1)).setCell (p := ⟨b, o + 1, none⟩) H1.out.hB (.slice (some ⟨g, 0, none⟩) (bs.length + (Lib.runeCells r).length) cap'))
  clear hb2 hown' hgrow hown hb1 c1 hlt
  go_wp2
  have d1' := HP.out.cell1
  go_wp2
  go_ret2
  exact ⟨⟨_, rfl⟩, ⟨_, HP.out⟩, HB.out⟩
theorem cellsByte : Tryd.prog.cellsOf 5 = 1 := by kernel_rfl
set_option maxHeartbeats 2000000 in
set_option maxRecDepth 100000 in
theorem string_any (B b o : Nat) (T : TypeId) (cs : Array Value) (p v : Value) (l : List UInt8) (w : World) (h : BIn B b o T cs p v (Lib.byteCells l) w) (hBw : B ≤ w.heap.size) :
    Calls Tryd.prog 34 #[.pointer (some ⟨b, o, none⟩)] w fun e w' => e = .returned (.string ⟨l.toArray⟩) ∧ Below B w w' := by
  have hblt := h.blt
  have hown := h.own
  have hbk := h.blk
  have hc1 := h.c1
  rw [Lib.byteCells_length] at hown
  clear h
  rcases hown.2 with ⟨rfl, hz⟩ | ⟨g, cap, cur, rfl, hbg, hg, hnc, hcm, hcs, htake⟩
  · obtain rfl : l = [] := List.eq_nil_of_length_eq_zero hz
    have c1 : w.drew.cell? ⟨b, o + 1, none⟩ = some (.slice none 0 0) := by
      have : w.drew.heap[b]? = _ := hbk
      rw [Lib.cell_of_heap this]; exact hc1
    have hSD : (Builtin.unsafeSliceData_ #[48] 79 #[.slice none 0 0]).run Tryd.prog w.drew = .ok (.pointer none) w.drew := rfl
    have hUS := fun W q => Lib.run_unsafeString_none (P := Tryd.prog) W 79 3 9 q
    go_enter Tryd.func34, Tryd.ntmps34
    go_wp2
    go_region
    all_goals (go_wp2; go_ret; exact ⟨rfl, Below.drew (Below.refl B w)⟩)
  · by_cases hz : l = []
    · subst hz
      have hUS := fun W q => Lib.run_unsafeString_none (P := Tryd.prog) W 79 3 9 q
      by_cases hc0 : cap = 0
      · subst hc0
        simp only [List.length_nil] at hc1
        have c1 : w.drew.cell? ⟨b, o + 1, none⟩ = some (.slice (some ⟨g, 0, none⟩) 0 0) := by
          have : w.drew.heap[b]? = _ := hbk
          rw [Lib.cell_of_heap this]; exact hc1
        have hSD : (Builtin.unsafeSliceData_ #[48] 79 #[.slice (some ⟨g, 0, none⟩) 0 0]).run Tryd.prog w.drew = .ok (.pointer (some ⟨w.drew.heap.size, 0, none⟩)) (w.drew.alloc (.view ⟨g, 0, none⟩ 5)) :=
          Lib.run_unsafeSliceData_zero w.drew _ _ 5 Tryd.underlying79 ⟨g, 0, none⟩ 0 (5, cur.size) (by have hg' : w.drew.heap[g]? = some (.cells cur 5 (0, 0)) := hg; simp [World.shape?, hg'])
        have c2 : (w.drew.alloc (.view ⟨g, 0, none⟩ 5)).cell? ⟨b, o + 1, none⟩ = some (.slice (some ⟨g, 0, none⟩) 0 0) := by
          have : (w.drew.alloc (.view ⟨g, 0, none⟩ 5)).heap[b]? = _ := (Lib.alloc_old w.drew _ b hblt).trans hbk
          rw [Lib.cell_of_heap this]; exact hc1
        have c3 : (w.alloc (.view ⟨g, 0, none⟩ 5)).drew.cell? ⟨b, o + 1, none⟩ = some (.slice (some ⟨g, 0, none⟩) 0 0) := c2
        have c0 : w.cell? ⟨b, o + 1, none⟩ = some (.slice (some ⟨g, 0, none⟩) 0 0) := c1
        clear hown htake
        go_enter Tryd.func34, Tryd.ntmps34
        go_wp2
        go_region
        all_goals (go_wp2; go_ret; exact ⟨rfl, (Below.drew (Below.refl B w)).alloc hBw _⟩)
      · simp only [List.length_nil] at hc1
        have c1 : w.drew.cell? ⟨b, o + 1, none⟩ = some (.slice (some ⟨g, 0, none⟩) 0 cap) := by
          have : w.drew.heap[b]? = _ := hbk
          rw [Lib.cell_of_heap this]; exact hc1
        have hSD : (Builtin.unsafeSliceData_ #[48] 79 #[.slice (some ⟨g, 0, none⟩) 0 cap]).run Tryd.prog w.drew = .ok (.pointer (some ⟨g, 0, none⟩)) w.drew :=
          Lib.run_unsafeSliceData_row _ _ _ _ _ _ hc0
        clear hc0 hown htake hnc hcs
        go_enter Tryd.func34, Tryd.ntmps34
        go_wp2
        go_region
        all_goals (go_wp2; go_ret; exact ⟨rfl, Below.drew (Below.refl B w)⟩)
    · have hl0 : l.length ≠ 0 := by simpa using hz
      have c1 : w.drew.cell? ⟨b, o + 1, none⟩ = some (.slice (some ⟨g, 0, none⟩) l.length cap) := by
        have : w.drew.heap[b]? = _ := hbk
        rw [Lib.cell_of_heap this]; exact hc1
      have hSD : (Builtin.unsafeSliceData_ #[48] 79 #[.slice (some ⟨g, 0, none⟩) l.length cap]).run Tryd.prog w.drew = .ok (.pointer (some ⟨g, 0, none⟩)) w.drew :=
        Lib.run_unsafeSliceData_row _ _ _ _ _ _ (by omega)
      have hUS : (Builtin.unsafeString_ #[79, 3] 9 #[.pointer (some ⟨g, 0, none⟩), .int .i64 l.length]).run Tryd.prog w.drew = .ok (.string ⟨l.toArray⟩) (w.drew.freeze ⟨g, 0, none⟩ l.length) := by
        refine Lib.run_unsafeString_row w.drew 79 3 9 5 Tryd.underlying79 cellsByte g cur.size (by have hg' : w.drew.heap[g]? = some (.cells cur 5 (0, 0)) := hg; simp [World.shape?, hg']) l hz (by omega) (by unfold maxLen at hcm; omega) ?_
        intro j x hx
        have := hown.cells (g := g) rfl j (.int .u8 x.toNat) (by simp [Lib.byteCells, hx])
        exact this
      clear hown htake
      go_enter Tryd.func34, Tryd.ntmps34
      go_wp2
      go_region
      all_goals (go_wp2; go_ret; exact ⟨rfl, Lib.below_freeze (Below.drew (Below.refl B w)) (p := ⟨g, 0, none⟩) hbg _⟩)
end Go.Proofs.YtalegkgonbmaoaaDoor
