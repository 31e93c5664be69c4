import Derived.Test.YtalegkgonbmaoaaDoorValid
import Derived.Test.YtalegkgonbmaoaaDoorReader
import Derived.Test.YtalegkgonbmaoaaDoorIndex
import Derived.Test.YtalegkgonbmaoaaDoorPlain
import Derived.Lib.QuoteLoop
import Derived.Deep.DeepCutAuto
/- utf.Valid; a Builder's writing methods with what they leave alone above it. -/
set_option linter.unusedVariables false
set_option linter.unusedSimpArgs false
namespace Go.Proofs.YtalegkgonbmaoaaDoor
open Go.RowKit
theorem valid_any (l : List UInt8) (w : World) (hT : Lib.Utf8Tabs 0 1 w) (hl : l.length ≤ 1000000) :
    Calls Tryd.prog 24 #[.string ⟨l.toArray⟩] w fun e w' => e = .returned (.bool (Lib.validD l)) ∧ Below w.heap.size w w' := by
  have cV := Tryd.utf8_ValidString ⟨l.toArray⟩ w (by show l.toArray.size ≤ _; simp; omega) hT
  go_enter Tryd.func24, Tryd.ntmps24
  go_wp2_with (go_at_call 41; refine cV.mono ?_; rintro e w1 ⟨rfl, hb⟩)
  go_ret
  exact ⟨rfl, hb⟩
theorem lies55 : LiesB 55 2 0 := by unfold LiesB; kernel_rfl
/-- Every block that is not the builder's own stands as it stood. -/
def Oth (b : Nat) (v : Value) (w w' : World) : Prop := w.heap.size ≤ w'.heap.size ∧ ∀ j, j < w.heap.size → j ≠ b → v.ownBlock ≠ some j → w'.heap[j]? = w.heap[j]?
theorem Oth.refl (b : Nat) (v : Value) (w : World) : Oth b v w w := ⟨Nat.le_refl _, fun _ _ _ _ => rfl⟩
theorem Oth.set {b : Nat} {v : Value} {w w' : World} (h : Oth b v w w') (j : Nat) (x : Value) : Oth b v w (w'.setCell ⟨b, j, none⟩ x) :=
  ⟨by simpa [World.setCell] using h.1, fun i hi hb hv => (heap_setCell_other w' ⟨b, j, none⟩ i x hb).trans (h.2 i hi hb hv)⟩
theorem Oth.alloc {b : Nat} {v : Value} {w w' : World} (h : Oth b v w w') (o : Obj) : Oth b v w (w'.alloc o) :=
  ⟨by have := h.1; simp; omega, fun i hi hb hv => (Lib.alloc_old w' o i (by have := h.1; omega)).trans (h.2 i hi hb hv)⟩
theorem Oth.grown {b : Nat} {v : Value} {w w' w2 : World} (h : Oth b v w w') (hg : w'.grownBy w2 v.ownBlock) : Oth b v w w2 :=
  ⟨Nat.le_trans h.1 hg.size, fun i hi hb hv => (hg.block i (by have := h.1; omega) (fun e => hv e.symm)).trans (h.2 i hi hb hv)⟩
set_option maxHeartbeats 1000000 in
set_option maxRecDepth 100000 in
theorem copyCheck_o (B b o : Nat) (T : TypeId) (cs : Array Value) (p v : Value) (bs : List Value) (w : World) (h : BIn B b o T cs p v bs w) (hl : LiesB T cs.size o) :
    Calls Tryd.prog 47 #[.pointer (some ⟨b, o, none⟩)] w fun e w' => e = .returned (.tuple #[]) ∧ BIn B b o T (cs.setIfInBounds o (.pointer (some ⟨b, o, none⟩))) (.pointer (some ⟨b, o, none⟩)) v bs w' ∧ Below B w w' ∧ Oth b v w w' := by
  obtain ⟨j, hj, hjs⟩ := Option.map_eq_some_iff.1 sizeB
  have c0 := h.cell0
  have hsh := h.shape
  have fz := h.frozen o
  have hlt := h.lt
  rcases h.hp with rfl | rfl
  · have H := Lib.hid h
    clear h
    go_enter Tryd.func47, Tryd.ntmps47
    go_wp2
    rw [Lib.run_to_unsafe w ⟨b, o, none⟩ Tryd.underlying53 Tryd.underlying89 hj (by rw [hjs]; decide) hsh (by show o < cs.size; omega)]
    simp only [Result.andThen]
    rw [Oper.upon_value]
    go_wp2
    rw [run_callFunc_extern Tryd.func61 (by kernel_rfl) (by kernel_rfl) (by kernel_rfl) (e := Extern.AbiNoEscape.same) (by kernel_rfl)]
    rw [Lib.run_noEscape]
    simp only [Result.andThen]
    rw [Oper.upon_value]
    go_wp2
    rw [Lib.run_from_unsafe w ⟨b, o, none⟩ Tryd.underlying89 Tryd.underlying53 hj hsh hl]
    simp only [Result.andThen]
    rw [Oper.upon_value]
    go_wp2
    go_end0
    exact ⟨rfl, H.out.used, (Below.refl B w).setCell (p := ⟨b, o, none⟩) H.out.hB _, (Oth.refl b v w).set _ _⟩
  · have H := Lib.hid h
    clear h
    go_enter Tryd.func47, Tryd.ntmps47
    go_wp2
    rw [Lib.run_neq_ptr_same w _ Tryd.underlying53 hj]
    go_wp2
    go_end0
    have e : cs.setIfInBounds o (.pointer (some ⟨b, o, none⟩)) = cs := by
      have := H.out.c0
      apply Array.ext_getElem?
      intro i
      rw [Array.getElem?_setIfInBounds]
      split
      · rename_i hi; subst hi; simp [this]; omega
      · rfl
    exact ⟨rfl, by rw [e]; exact H.out, Below.refl B _, Oth.refl b v _⟩
set_option maxHeartbeats 2000000 in
set_option maxRecDepth 100000 in
theorem writeString_o (B b o : Nat) (T : TypeId) (cs : Array Value) (p v : Value) (bs : List Value) (l : List UInt8) (w : World) (h : BIn B b o T cs p v bs w) (hl : LiesB T cs.size o) (hlen : bs.length + l.length ≤ 140737488355328) (hBw : B ≤ w.heap.size) :
    Calls Tryd.prog 33 #[.pointer (some ⟨b, o, none⟩), .string ⟨l.toArray⟩] w fun e w' => (∃ x, e = .returned x) ∧ (∃ v', BIn B b o T ((cs.setIfInBounds o (.pointer (some ⟨b, o, none⟩))).setIfInBounds (o + 1) v') (.pointer (some ⟨b, o, none⟩)) v' (bs ++ Lib.byteCells l) w') ∧ Below B w w' ∧ Oth b v w w' := by
  obtain ⟨i0, hi, hz0, hz1, hz2⟩ := info_parts infoByte
  have hsl : (⟨l.toArray⟩ : ByteArray).size = l.length := by simp [ByteArray.size]
  go_enter Tryd.func33, Tryd.ntmps33
  go_wp2_with (go_at_call 47; refine (copyCheck_o B b o T cs p v bs _ h hl).mono ?_)
  rintro e w1 ⟨rfl, h1, hb1, ho1⟩
  have c1 := h1.cell1
  have H1 := Lib.hid h1
  have hown := h1.own
  clear h h1
  go_wp2_with (at_builtin; refine Lib.wpList_append_own_string _ rfl _ _ 48 9 rfl B 5 i0 Tryd.underlying48 Tryd.underlying9 hi hz0 hz1 hz2 _ _ _ rfl hown ⟨l.toArray⟩ rfl ?c3 ?c4 ?c5 ?_)
  case c3 => unfold maxLen; omega
  case c4 => omega
  case c5 => have := hb1.size; omega
  intro v' w2 hown' hgrow _
  obtain ⟨ao, n', cap, rfl⟩ : ∃ ao n' cap, v' = .slice ao n' cap := by
    rcases hown'.2 with ⟨hv, _⟩ | ⟨g, cap, cur, hv, _⟩
    · exact ⟨_, _, _, hv⟩
    · exact ⟨_, _, _, hv⟩
  have hb2 := (hgrow.block b H1.out.blt (fun e => H1.out.ne e.symm)).trans H1.out.blk
  have hP := H1.out.put hb2 (bs' := bs ++ Lib.byteCells l) (by have e : Lib.strCells ⟨l.toArray⟩ = Lib.byteCells l := rfl; rw [e] at hown'; simpa [Lib.byteCells_length] using hown')
  have d1 : w2.cell? ⟨b, o + 1, none⟩ = some v := by rw [Lib.cell_of_heap hb2]; exact H1.out.c1
  have f1 : w2.frozen? ⟨b, o + 1, none⟩ = false := Lib.frozen_of_heap hb2 (o + 1)
  have HP := Lib.hid hP
  have HB := Lib.hid ((hb1.grown hgrow (by have := hb1.size; omega) (fun k hk => (hown.lt k hk).1)).setCell (p := ⟨b, o + 1, none⟩) H1.out.hB (.slice ao n' cap))
  have HO := Lib.hid ((ho1.grown hgrow).set (o + 1) (.slice ao n' cap))
  clear hb2 hP hown' hgrow hown hb1 ho1 c1
  go_wp2
  go_ret2
  exact ⟨⟨_, rfl⟩, ⟨_, HP.out⟩, HB.out, HO.out⟩
set_option maxHeartbeats 2000000 in
set_option maxRecDepth 100000 in
theorem writeRune_o (B b o : Nat) (T : TypeId) (cs : Array Value) (p v : Value) (bs : List Value) (r : Int) (hr0 : -2147483648 ≤ r) (hr1 : r ≤ 2147483647) (w : World) (h : BIn B b o T cs p v bs w) (hl : LiesB T cs.size o) (hlen : bs.length + 4 ≤ 140737488355328) (hBw : B ≤ w.heap.size) :
    Calls Tryd.prog 31 #[.pointer (some ⟨b, o, none⟩), .int .i32 r] w fun e w' => (∃ x, e = .returned x) ∧ (∃ v', BIn B b o T ((cs.setIfInBounds o (.pointer (some ⟨b, o, none⟩))).setIfInBounds (o + 1) v') (.pointer (some ⟨b, o, none⟩)) v' (bs ++ Lib.runeCells r) w') ∧ Below B w w' ∧ Oth b v w w' := by
  have hk4 := Lib.runeCells_le r
  go_enter Tryd.func31, Tryd.ntmps31
  go_wp2_with (go_at_call 47; refine (copyCheck_o B b o T cs p v bs _ h hl).mono ?_)
  rintro e w1 ⟨rfl, h1, hb1, ho1⟩
  obtain ⟨ao, cap, rfl⟩ : ∃ ao cap, v = .slice ao bs.length cap := by
    rcases h1.own.2 with ⟨hv, h0⟩ | ⟨g, cap, cur, hv, _⟩
    · exact ⟨none, 0, by rw [hv, h0]⟩
    · exact ⟨_, _, hv⟩
  have c1 := h1.cell1
  have H1 := Lib.hid h1
  have hown := h1.own
  clear h h1
  go_wp2_with (go_at_call 48; refine (Tryd.utf8_AppendRune_plain B _ bs.length bs r hr0 hr1 _ hown hlen (by have := hb1.size; omega)).mono ?_)
  rintro e w2 ⟨v', rfl, hown', o', hgrow⟩
  have hlt := H1.out.blt
  have hb2 : w2.heap[b]? = some (.cells (cs.setIfInBounds o (.pointer (some ⟨b, o, none⟩))) T (0, 0)) := by
    rw [hgrow.block b (by simp; omega) (fun e => H1.out.ne e.symm), Lib.alloc_old w1 _ b hlt]
    exact H1.out.blk
  have d1 : w2.cell? ⟨b, o + 1, none⟩ = some (.slice ao bs.length cap) := by rw [Lib.cell_of_heap hb2]; exact H1.out.c1
  have f1 : w2.frozen? ⟨b, o + 1, none⟩ = false := Lib.frozen_of_heap hb2 (o + 1)
  obtain ⟨g, cap', rfl⟩ : ∃ g cap', v' = .slice (some ⟨g, 0, none⟩) (bs.length + (Lib.runeCells r).length) cap' := by
    rcases hown'.2 with ⟨_, h0⟩ | ⟨g, cap', cur, hv, _⟩
    · omega
    · exact ⟨g, cap', hv⟩
  have HP := Lib.hid (H1.out.put hb2 (bs' := bs ++ Lib.runeCells r) (by simpa using hown'))
  have HO := Lib.hid (((ho1.alloc o').grown hgrow).set (o + 1) (.slice (some ⟨g, 0, none⟩) (bs.length + (Lib.runeCells r).length) cap'))
  have HB := Lib.hid (((hb1.alloc (by have := hb1.size; omega) o').grown hgrow (by have := hb1.size; simp; omega) (fun k hk => (hown.lt k hk).1)).setCell (p := ⟨b, o + 1, none⟩) H1.out.hB (.slice (some ⟨g, 0, none⟩) (bs.length + (Lib.runeCells r).length) cap'))
  clear hb2 hown' hgrow hown hb1 ho1 c1 hlt
  go_wp2
  have d1' := HP.out.cell1
  go_wp2
  go_ret2
  exact ⟨⟨_, rfl⟩, ⟨_, HP.out⟩, HB.out, HO.out⟩
end Go.Proofs.YtalegkgonbmaoaaDoor
