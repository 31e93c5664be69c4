import Derived.Test.YteoggaioleckhaaMem3
/- tree.Copy. -/
set_option linter.unusedVariables false
set_option linter.unusedSimpArgs false
namespace Go.Proofs.Yteoggaioleckhaa
open Go.RowKit
theorem strv_map (keys : List (List UInt8)) : keys.map strv = (keys.map (fun k => (⟨k.toArray⟩ : ByteArray))).map Value.string := by simp [strv]
theorem own_split {w : World} {base : Nat} {e : TypeId} {sz n : Nat} {v : Value} {xs : List Value} (h : w.ownsRow base e sz v n xs) : ∃ A c, v = .slice A n c ∧ Rd w sz A n xs ∧ (0 < n → ∃ b m c cs T, v = .slice (some ⟨b, 0, none⟩) m c ∧ base ≤ b ∧ w.heap[b]? = some (.cells cs T (0, 0))) := by
  have h0 := h
  rcases h.2 with ⟨rfl, rfl⟩ | ⟨g, cap, cur, rfl, h1, h2, _⟩
  · exact ⟨none, 0, rfl, Rd.of_own h0, fun h => by omega⟩
  · exact ⟨_, cap, rfl, Rd.of_own h0, fun _ => ⟨g, n, cap, cur, e, rfl, h1, h2⟩⟩
set_option maxRecDepth 100000 in
set_option maxHeartbeats 1000000 in
theorem clone_any (A : Option Addr) (c : Nat) (keys : List (List UInt8)) (w : World) (hr : Rd w 1 A keys.length (keys.map strv)) (hl : keys.length ≤ 1000000) :
    Calls Try.prog 31 #[.slice A keys.length c] w fun e w' => (∃ B d, e = .returned (.slice B keys.length d) ∧ Rd w' 1 B keys.length (keys.map strv) ∧ (0 < keys.length → ∃ b m c cs T, Value.slice B keys.length d = .slice (some ⟨b, 0, none⟩) m c ∧ w.heap.size ≤ b ∧ w'.heap[b]? = some (.cells cs T (0, 0)))) ∧ Below w.heap.size w w' := by
  rcases Nat.eq_zero_or_pos keys.length with h0 | h0
  · have hk : keys = [] := List.eq_nil_of_length_eq_zero h0
    subst hk
    cases A with
    | none =>
      refine (Try.slices_Clone_string_nil 0 c w).mono ?_
      rintro e w' ⟨rfl, rfl⟩
      exact ⟨⟨none, 0, rfl, Rd.none_ _ _ _, fun h => by simp at h⟩, Below.refl _ _⟩
    | some a =>
      refine (Try.slices_Clone_string_zero a c w).mono ?_
      rintro e w' ⟨v, rfl, hown, _, hb⟩
      obtain ⟨B, d, rfl, hr2, hf⟩ := own_split hown
      exact ⟨⟨B, d, rfl, hr2, hf⟩, hb⟩
  · obtain ⟨b, o, rfl, hb, hc⟩ := hr.2 h0
    refine (Try.slices_Clone_string b o keys.length c (keys.map (fun k => (⟨k.toArray⟩ : ByteArray))) w (by simp) (by omega) (fun j hj => ?_)).mono ?_
    · rw [List.length_map] at hj
      refine hc j _ ?_
      rw [List.getElem?_map, List.getElem?_eq_getElem hj]
      simp [strv, List.getD_eq_getElem?_getD, List.getElem?_eq_getElem hj]
    · rintro e w' ⟨v, rfl, hown, _, hb⟩
      have hx : ((keys.map (fun k => (⟨k.toArray⟩ : ByteArray))).take keys.length).map Value.string = keys.map strv := by rw [strv_map, List.take_of_length_le (by simp)]
      rw [hx] at hown
      obtain ⟨B, d, rfl, hr2, hf⟩ := own_split hown
      exact ⟨⟨B, d, rfl, hr2, hf⟩, hb⟩
theorem sixC {W : World} {b : Nat} {k n u : Int} {s : List UInt8} {kv lv : Value} (h : W.heap[b]? = some (.cells #[.int .i64 k, .int .i64 n, .int .u64 u, .string ⟨s.toArray⟩, kv, lv] 26 (0, 0))) :
    W.cell? ⟨b, 0, none⟩ = some (.int .i64 k) ∧ W.cell? ⟨b, 1, none⟩ = some (.int .i64 n) ∧ W.cell? ⟨b, 2, none⟩ = some (.int .u64 u) ∧ W.cell? ⟨b, 3, none⟩ = some (.string ⟨s.toArray⟩) ∧ W.cell? ⟨b, 4, none⟩ = some kv ∧ W.cell? ⟨b, 5, none⟩ = some lv := by
  refine ⟨?_, ?_, ?_, ?_, ?_, ?_⟩ <;> rw [cell_of_row _ _ _ _ _ _ h] <;> rfl
theorem grown_trans {w w1 w2 : World} {row : Option Nat} (h : w.grownBy w1 row) (g : w1.grownBy w2 row) : w.grownBy w2 row :=
  ⟨g.os.trans h.os, g.tape.trans h.tape, g.output.trans h.output, Nat.le_trans h.size g.size, fun k hk hr => (g.block k (Nat.lt_of_lt_of_le hk h.size) hr).trans (h.block k hk hr)⟩
theorem set_grown (W : World) (b j : Nat) (v : Value) : W.grownBy (W.setCell ⟨b, j, none⟩ v) (some b) :=
  ⟨rfl, rfl, rfl, by simp [World.setCell], fun i _ hi => Below.heap_setCell W ⟨b, j, none⟩ v i (fun e => hi (by simp [e]))⟩
theorem six_set {W : World} {b : Nat} {z0 z1 z2 z3 z4 z5 : Value} (h : W.heap[b]? = some (.cells #[z0, z1, z2, z3, z4, z5] 26 (0, 0))) (a0 a1 a2 a3 a4 a5 : Value) :
    ((((((W.setCell ⟨b, 0, none⟩ a0).setCell ⟨b, 1, none⟩ a1).setCell ⟨b, 2, none⟩ a2).setCell ⟨b, 3, none⟩ a3).setCell ⟨b, 4, none⟩ a4).setCell ⟨b, 5, none⟩ a5).heap[b]? = some (.cells #[a0, a1, a2, a3, a4, a5] 26 (0, 0)) ∧
    W.grownBy ((((((W.setCell ⟨b, 0, none⟩ a0).setCell ⟨b, 1, none⟩ a1).setCell ⟨b, 2, none⟩ a2).setCell ⟨b, 3, none⟩ a3).setCell ⟨b, 4, none⟩ a4).setCell ⟨b, 5, none⟩ a5) (some b) := by
  refine ⟨?_, grown_trans (grown_trans (grown_trans (grown_trans (grown_trans (set_grown W b 0 a0) (set_grown _ b 1 a1)) (set_grown _ b 2 a2)) (set_grown _ b 3 a3)) (set_grown _ b 4 a4)) (set_grown _ b 5 a5)⟩
  have h0 := heap_setCell_same W b 0 _ _ a0 h
  have h1 := heap_setCell_same _ b 1 _ _ a1 h0
  have h2 := heap_setCell_same _ b 2 _ _ a2 h1
  have h3 := heap_setCell_same _ b 3 _ _ a3 h2
  have h4 := heap_setCell_same _ b 4 _ _ a4 h3
  exact heap_setCell_same _ b 5 _ _ a5 h4
theorem cells6 (t : NT) (w : World) (h : Is w t) : ∀ u ∈ t.cells, u.oneCell' = true := by
  obtain ⟨k, n, u, s, kv, keys, lv, l⟩ := t
  rw [Is] at h
  obtain ⟨h1, ⟨A, c, rfl, e2, e3⟩, ⟨B, d, rfl, f2, f3⟩, hl⟩ := h
  intro v hv
  simp [NT.cells] at hv
  rcases hv with rfl | rfl | rfl | rfl | rfl | rfl <;> rfl
theorem rd6 (w : World) (cs : List Value) (h : cs.length = 6) : Rd (w.alloc (.cells cs.toArray 26)) 6 (some ⟨w.heap.size, 0, none⟩) 1 cs := by
  refine ⟨by simpa using h, fun _ => ⟨w.heap.size, 0, rfl, by simp, fun k u hu => ?_⟩⟩
  rw [cell_of_row _ _ (0 + k) _ 26 (0, 0) (heap_alloc_last _ _)]
  simpa using hu
theorem info26f : (Try.prog.info? 26).map (fun i => (i.zero, i.size, i.bytes)) = some (some (.agg #[.int .i64 0, .int .i64 0, .int .u64 0, .string ⟨#[]⟩, .slice none 0 0, .slice none 0 0]), 6, 88) := by kernel_rfl
/-- The children copied so far. -/
structure Kids (B : Nat) (w : World) (v : Value) (ks : List NT) : Prop where
  own : w.ownsRow B 26 6 v ks.length (ks.flatMap NT.cells)
  is : IsL w ks
  fr : FrL B w ks
  off : ∀ g, v.ownBlock = some g → OffL g ks
theorem Kids.below {B : Nat} {w w' : World} {v : Value} {ks : List NT} (h : Kids B w v ks) (hb : Below w.heap.size w w') : Kids B w' v ks :=
  ⟨own_below h.own hb, IsL.below hb h.is, FrL.kept (grown_of_below hb) h.fr (fun g e => by cases e), h.off⟩
theorem Kids.next {B : Nat} {w w' : World} {v v' : Value} {ks : List NT} {t : NT} (h : Kids B w v ks) (ht : Is w t) (hf : Fr B w t) (ho : ∀ g, v.ownBlock = some g → Off g t) (hown : w'.ownsRow B 26 6 v' (ks.length + 1) (ks.flatMap NT.cells ++ t.cells)) (hg : w.grownBy w' v.ownBlock) (hw : Where w v v') : Kids B w' v' (ks ++ [t]) := by
  have hoff : ∀ g, v'.ownBlock = some g → OffL g (ks ++ [t]) := by
    intro g hv
    rcases hw with e | ⟨b, hb, hle⟩
    · rw [e] at hv
      exact offL_append (h.off g hv) (offL_one (ho g hv))
    · rw [hb] at hv; injection hv with hv; subst hv
      exact offL_append (IsL.off hle h.is) (offL_one (Is.off hle ht))
  refine ⟨by simpa using hown, isL_append (h.is.grown hg h.off) (isL_one (ht.grown hg ho)), frL_append (h.fr.kept hg h.off) (frL_one (hf.kept hg ho)), hoff⟩
set_option maxRecDepth 100000 in
set_option maxHeartbeats 4000000 in
theorem copy_any (t : NT) : ∀ w : World, Is w t → KSm t → Calls Try.prog 19 #[t.val] w fun e w' => (∃ t', e = .returned t'.val ∧ t'.pt = t.pt ∧ Is w' t' ∧ Fr w.heap.size w' t') ∧ Below w.heap.size w w' := by
  induction t using NT.ind with
  | h k n u s kv keys lv kids ih =>
    intro w hI hK
    have hI0 := hI
    rw [Is] at hI
    obtain ⟨h1, ⟨A, c, rfl, e2, e3⟩, ⟨B, d, rfl, f2, f3⟩, hl⟩ := hI
    rw [KSm] at hK
    obtain ⟨hk1, hk2, hk3⟩ := hK
    rw [val_mk]
    have hb0 : Below w.heap.size w ((w.alloc (.cells #[.int .i64 k, .int .i64 n, .int .u64 u, .string ⟨s.toArray⟩, .slice A keys.length c, .slice B kids.length d] 26)).alloc (.cells #[.int .i64 0, .int .i64 0, .int .u64 0, .string ⟨#[]⟩, .slice none 0 0, .slice none 0 0] 26)) := ((Below.refl _ w).alloc (Nat.le_refl _) _).alloc (by simp) _
    have hx0 := heap_alloc_new w (.cells #[.int .i64 k, .int .i64 n, .int .u64 u, .string ⟨s.toArray⟩, .slice A keys.length c, .slice B kids.length d] 26)
    have hx1 := heap_alloc_new (w.alloc (.cells #[.int .i64 k, .int .i64 n, .int .u64 u, .string ⟨s.toArray⟩, .slice A keys.length c, .slice B kids.length d] 26)) (.cells #[.int .i64 0, .int .i64 0, .int .u64 0, .string ⟨#[]⟩, .slice none 0 0, .slice none 0 0] 26)
    rw [World.size_alloc] at hx1
    replace hx0 := (Below.heap_alloc (w.alloc (.cells #[.int .i64 k, .int .i64 n, .int .u64 u, .string ⟨s.toArray⟩, .slice A keys.length c, .slice B kids.length d] 26)) (.cells #[.int .i64 0, .int .i64 0, .int .u64 0, .string ⟨#[]⟩, .slice none 0 0, .slice none 0 0] 26) w.heap.size (by simp)).trans hx0
    have hs0 : ((w.alloc (.cells #[.int .i64 k, .int .i64 n, .int .u64 u, .string ⟨s.toArray⟩, .slice A keys.length c, .slice B kids.length d] 26)).alloc (.cells #[.int .i64 0, .int .i64 0, .int .u64 0, .string ⟨#[]⟩, .slice none 0 0, .slice none 0 0] 26)).heap.size = w.heap.size + 2 := by simp
    have cC := clone_any A c keys _ (e3.below hb0) hk1
    obtain ⟨W0, hW0⟩ : ∃ W0, (w.alloc (.cells #[.int .i64 k, .int .i64 n, .int .u64 u, .string ⟨s.toArray⟩, .slice A keys.length c, .slice B kids.length d] 26)).alloc (.cells #[.int .i64 0, .int .i64 0, .int .u64 0, .string ⟨#[]⟩, .slice none 0 0, .slice none 0 0] 26) = W0 := ⟨_, rfl⟩
    rw [hW0] at hb0 hx0 hx1 hs0 cC
    have a4 : W0.cell? ⟨w.heap.size, 4, none⟩ = some (.slice A keys.length c) := by rw [cell_of_row _ _ _ _ _ _ hx0]; rfl
    have HM := Lib.hid (And.intro hx0 (And.intro hx1 (And.intro hb0 hs0)))
    clear hx0 hx1 hb0
    go_enter Try.func19, Try.ntmps19
    go_wp2_with (go_at_call 31; refine cC.mono ?_; clear cC; rintro e w1 ⟨⟨A', d', rfl, hrk, hfk⟩, hb1⟩; have hy0 := (hb1.block _ (by rw [hs0]; omega)).trans HM.out.1; have fz4 := frozen_of_row w1 w.heap.size 4 _ _ hy0; have cc4 := cell_of_row w1 w.heap.size 4 _ _ _ hy0; have hz0 := heap_setCell_same w1 w.heap.size 4 _ _ (.slice A' keys.length d') hy0; have cc5 := cell_of_row (w1.setCell ⟨w.heap.size, 4, none⟩ (.slice A' keys.length d')) w.heap.size 5 _ _ _ hz0; replace cc5 := cc5.trans rfl; replace hz0 := Lib.hid hz0; clear hy0)
    -- the world behind the keys
    have hsz1 := hb1.size
    obtain ⟨W2, hW2⟩ : ∃ W2, w1.setCell ⟨w.heap.size, 4, none⟩ (.slice A' keys.length d') = W2 := ⟨_, rfl⟩
    have hB2 : Below w.heap.size w W2 := by rw [← hW2]; exact (HM.out.2.2.1.trans (hb1.mono (by omega))).setCell (p := ⟨w.heap.size, 4, none⟩) (Nat.le_refl _) _
    have hs2 : w.heap.size + 2 ≤ W2.heap.size := by rw [← hW2]; simp; omega
    have hx2 : W2.heap[w.heap.size]? = some (.cells #[.int .i64 k, .int .i64 n, .int .u64 u, .string ⟨s.toArray⟩, .slice A' keys.length d', .slice B kids.length d] 26 (0, 0)) := by rw [← hW2]; exact hz0.out
    have hx3 : W2.heap[w.heap.size + 1]? = some (.cells #[.int .i64 0, .int .i64 0, .int .u64 0, .string ⟨#[]⟩, .slice none 0 0, .slice none 0 0] 26 (0, 0)) := by
      rw [← hW2]
      exact (Below.heap_setCell w1 ⟨w.heap.size, 4, none⟩ _ _ (by show w.heap.size + 1 ≠ w.heap.size; omega)).trans ((hb1.block _ (by omega)).trans HM.out.2.1)
    have hgk : w1.grownBy W2 (some w.heap.size) := by rw [← hW2]; exact ⟨rfl, rfl, rfl, by simp [World.setCell], fun j _ hj => Below.heap_setCell _ _ _ _ (fun e => hj (by simp [e]))⟩
    have hrk2 : Rd W2 1 A' keys.length (keys.map strv) := hrk.grown hgk fun g hg h0 => by
      injection hg with hg
      obtain ⟨b, m, c', cs, T, e, hle, _⟩ := hfk h0
      injection e with e _ _
      subst e
      intro e2; injection e2 with e2; have e2 : b = g := e2; omega
    have hfk2 : 0 < keys.length → ∃ b m c cs T, Value.slice A' keys.length d' = .slice (some ⟨b, 0, none⟩) m c ∧ w.heap.size + 2 ≤ b ∧ W2.heap[b]? = some (.cells cs T (0, 0)) := fun h0 => by
      obtain ⟨b, m, c', cs, T, e, hle, hbk⟩ := hfk h0
      exact ⟨b, m, c', cs, T, e, by omega, (hgk.block b (Array.getElem?_eq_some_iff.1 hbk).1 (fun e => by injection e with e; omega)).trans hbk⟩
    have H2 := Lib.hid (And.intro hB2 (And.intro hs2 (And.intro hx2 (And.intro hx3 (And.intro hrk2 hfk2)))))
    have H1 := Lib.hid (And.intro h1 e2)
    have HF := Lib.hid f3
    have HKL := Lib.hid (And.intro hl hk3)
    have HIH := Lib.hid ih
    have hl2 : (kids.length : Int) ≤ 1000000 := by omega
    clear hB2 hs2 hx2 hx3 hgk hrk2 hfk2 hrk hfk hz0 cc4 fz4 cc5 a4 hb1 HM hI0 e2 e3 hl f2 f3 h1 hk1 hk3 ih hs0 hsz1
    rw [hW2]
    clear hW2 hW0
    obtain ⟨i0, hi, hz1, hz2, hz3⟩ : ∃ i0 : TypeInfo, Try.prog.info? 26 = some i0 ∧ i0.zero = some (.agg #[.int .i64 0, .int .i64 0, .int .u64 0, .string ⟨#[]⟩, .slice none 0 0, .slice none 0 0]) ∧ i0.size = 6 ∧ i0.bytes = 88 := by
      cases h : Try.prog.info? 26 with
      | none => have := info26f; rw [h] at this; cases this
      | some i0 =>
        have := info26f
        rw [h] at this
        simp only [Option.map_some, Option.some.injEq, Prod.mk.injEq] at this
        exact ⟨i0, rfl, this.1, this.2.1, this.2.2⟩
    replace hi := Lib.hid hi
    replace hz1 := Lib.hid hz1
    replace hz2 := Lib.hid hz2
    replace hz3 := Lib.hid hz3
    go_loopw [3, 13] (fun v i wr => ∃ (j : Nat) (ks : List NT), j ≤ kids.length ∧ i = .int .i64 (j : Int) ∧ ptL ks = ptL (kids.take j) ∧ Kids W2.heap.size wr v ks ∧ Below W2.heap.size W2 wr) (fun _ i _ => kids.length - (intOf i).toNat)
    case atStart => exact ⟨0, [], by omega, rfl, by simp [ptL], ⟨World.ownsRow_nil _ _ _ _, by rw [IsL]; trivial, by rw [FrL]; trivial, fun g _ => by rw [OffL]; trivial⟩, Below.refl _ _⟩
    case round =>
      obtain ⟨j, ks, hj, rfl, hpt, hkd, hb⟩ := hrel
      have hbw : Below w.heap.size w wr := H2.out.1.trans (hb.mono H2.out.1.size)
      have HB := Lib.hid hb
      obtain ⟨VA, vc, hv, _, _⟩ := own_split hkd.own
      subst hv
      have hkl : ks.length ≤ kids.length := by have := congrArg List.length hpt; rw [ptL_map, ptL_map, List.length_map, List.length_map, List.length_take] at this; omega
      by_cases hlt : j < kids.length
      · obtain ⟨b, o, hA, _⟩ := HF.out.at (by omega)
        subst hA
        obtain ⟨t, ht⟩ : ∃ t, kids[j]? = some t := ⟨_, List.getElem?_eq_getElem hlt⟩
        have hg : kids[j]'hlt = t := by rw [List.getElem?_eq_getElem hlt] at ht; injection ht
        have hmem : t ∈ kids := hg ▸ List.getElem_mem hlt
        have htk : ptL (kids.take (j + 1)) = ptL (kids.take j) ++ [t.pt] := by
          rw [List.take_succ_eq_append_getElem hlt, hg, ptL_map, ptL_map, List.map_append]; rfl
        have hIt := (isL_mem HKL.out.1 _ hmem).below hbw
        have hKt := ksmL_mem HKL.out.2 _ hmem
        have hih := HIH.out t hmem
        obtain ⟨k', n', u', s', kv', ks', lv', l'⟩ := t
        have hIt0 := hIt
        rw [Is] at hIt0
        obtain ⟨_, ⟨A2, c2, rfl, _⟩, ⟨B2, d2, rfl, _⟩, _⟩ := hIt0
        obtain ⟨c0, c1, c2', c3, c4, c5⟩ := node_at6 (HF.out.below hbw) ht
        have hcall := hih _ (hIt.alloc (.cells #[.int .i64 k', .int .i64 n', .int .u64 u', .string ⟨s'.toArray⟩, .slice A2 ks'.length c2, .slice B2 l'.length d2] 26)) hKt
        rw [val_mk] at hcall
        have HKD := Lib.hid hkd
        have HTK := Lib.hid (And.intro hpt htk)
        clear hih hIt hKt hmem hg ht hkd hpt htk hbw hb
        go_wp2_with (first
          | (go_at_call 19; refine hcall.mono ?_; clear hcall; rintro e w3 ⟨⟨t', rfl, ht'1, ht'2, ht'3⟩, hb3⟩; have hkd3 := HKD.out.below (((Below.refl _ _).alloc (Nat.le_refl _) _).trans (hb3.mono (by simp))); obtain ⟨k3, n3, u3, s3, kv3, ks3, lv3, l3⟩ := t'; have hI3 := ht'2; rw [Is] at hI3; obtain ⟨_, ⟨A3, c3, rfl, _⟩, ⟨B3, d3, rfl, _⟩, _⟩ := hI3; rw [val_mk])
          | (at_builtin; refine wpList_append_where rfl _ (.tmp 17) (.tmp 20) 24 rfl W2.heap.size 26 i0 (.agg #[.int .i64 0, .int .i64 0, .int .u64 0, .string ⟨#[]⟩, .slice none 0 0, .slice none 0 0]) 6 88 Try.underlying24 hi.out hz1.out hz2.out hz3.out rfl (by decide) _ ks.length (ks.flatMap NT.cells) rfl (hkd3.own.alloc _) (some ⟨w3.heap.size, 0, none⟩) 1 1 (by decide) (NT.mk k3 n3 u3 s3 (.slice A3 ks3.length c3) ks3 (.slice B3 l3.length d3) l3).cells rfl (rd6 w3 _ rfl) (cells6 _ _ ht'2) (by unfold maxLen; omega) (by omega) (by have h1 := HB.out.size; have h2 := H2.out.2.1; have h3 := hb3.size; simp at h3 ⊢; omega) ?_; intro v' w5 hown5 hg5 hwh5))
        have hb4 : Below wr.heap.size wr (w3.alloc (.cells #[.int .i64 k3, .int .i64 n3, .int .u64 u3, .string ⟨s3.toArray⟩, .slice A3 ks3.length c3, .slice B3 l3.length d3] 26)) := (((Below.refl _ _).alloc (Nat.le_refl _) _).trans (hb3.mono (by simp))).alloc (by have h3 := hb3.size; simp at h3; omega) _
        have hbw4 := (Below.refl w3.heap.size w3).alloc (Nat.le_refl _) (.cells #[.int .i64 k3, .int .i64 n3, .int .u64 u3, .string ⟨s3.toArray⟩, .slice A3 ks3.length c3, .slice B3 l3.length d3] 26)
        have hkd4 := hkd3.below hbw4
        have hoff : ∀ g, (Value.slice VA ks.length vc).ownBlock = some g → Off g (NT.mk k3 n3 u3 s3 (.slice A3 ks3.length c3) ks3 (.slice B3 l3.length d3) l3) := fun g hv => Fr.off (by have := (HKD.out.own.lt g hv).2; simp; omega) ht'3
        have hnext := hkd4.next (ht'2.below hbw4) ((ht'3.mono (by have := HB.out.size; simp; omega)).below hbw4) hoff hown5 hg5 hwh5
        have hbel := (HB.out.trans (hb4.mono HB.out.size)).trans (grown_below hkd4.own hg5 (by have h1 := HB.out.size; have h3 := hb3.size; simp at h3 ⊢; omega))
        have HN := Lib.hid (And.intro hnext (And.intro hbel ht'1))
        clear hnext hbel hoff hkd4 hbw4 hb4 hown5 hg5 hwh5 hkd3 ht'2 ht'3 ht'1
        go_roundw
        case rel => exact ⟨j + 1, ks ++ [_], by omega, by simp, by rw [HTK.out.2, ← HTK.out.1, ptL_map, ptL_map, List.map_append, ← HN.out.2.2]; rfl, HN.out.1, HN.out.2.1⟩
        case measure => simp [intOf]; omega
      · obtain rfl : j = kids.length := by omega
        rw [List.take_length] at hpt
        have hklen : ks.length = kids.length := by have := congrArg List.length hpt; rw [ptL_map, ptL_map, List.length_map, List.length_map] at this; exact this
        have hy0 := (hb.block _ (by have := H2.out.2.1; omega)).trans H2.out.2.2.1
        have hy1 := (hb.block _ (by have := H2.out.2.1; omega)).trans H2.out.2.2.2.1
        have fz5 := frozen_of_row wr w.heap.size 5 _ _ hy0
        have cc5 := cell_of_row wr w.heap.size 5 _ _ _ hy0
        have hz0 := heap_setCell_same wr w.heap.size 5 _ _ (.slice VA ks.length vc) hy0
        obtain ⟨W3, hW3⟩ : ∃ W3, wr.setCell ⟨w.heap.size, 5, none⟩ (.slice VA ks.length vc) = W3 := ⟨_, rfl⟩
        have hz1' : W3.heap[w.heap.size]? = some (.cells #[.int .i64 k, .int .i64 n, .int .u64 u, .string ⟨s.toArray⟩, .slice A' keys.length d', .slice VA ks.length vc] 26 (0, 0)) := by rw [← hW3]; exact hz0
        obtain ⟨a0, a1, a2, a3, a4, a5⟩ := sixC hz1'
        have hy2 : W3.heap[w.heap.size + 1]? = some (.cells #[.int .i64 0, .int .i64 0, .int .u64 0, .string ⟨#[]⟩, .slice none 0 0, .slice none 0 0] 26 (0, 0)) := by rw [← hW3]; exact (Below.heap_setCell wr ⟨w.heap.size, 5, none⟩ _ _ (by show w.heap.size + 1 ≠ w.heap.size; omega)).trans hy1
        have g0 := frozen_of_row W3 (w.heap.size + 1) 0 _ _ hy2
        have g1 := frozen_of_row W3 (w.heap.size + 1) 1 _ _ hy2
        have g2 := frozen_of_row W3 (w.heap.size + 1) 2 _ _ hy2
        have g3 := frozen_of_row W3 (w.heap.size + 1) 3 _ _ hy2
        have g4 := frozen_of_row W3 (w.heap.size + 1) 4 _ _ hy2
        have g5 := frozen_of_row W3 (w.heap.size + 1) 5 _ _ hy2
        obtain ⟨b0, b1, b2, b3, b4, b5⟩ := sixC (s := []) hy2
        have HKD := Lib.hid hkd
        have HPT := Lib.hid (And.intro hpt hklen)
        have HY := Lib.hid (And.intro hz1' hy2)
        clear hz0 hz1' hy0 hy1 hy2 hkd hpt hb hbw hklen hkl
        go_wp2
        obtain ⟨hz6, hg6⟩ := six_set HY.out.2 (.int .i64 k) (.int .i64 n) (.int .u64 u) (.string ⟨s.toArray⟩) (.slice A' keys.length d') (.slice VA ks.length vc)
        obtain ⟨W6, hW6⟩ : ∃ W6, (((((W3.setCell ⟨w.heap.size + 1, 0, none⟩ (.int .i64 k)).setCell ⟨w.heap.size + 1, 1, none⟩ (.int .i64 n)).setCell ⟨w.heap.size + 1, 2, none⟩ (.int .u64 u)).setCell ⟨w.heap.size + 1, 3, none⟩ (.string ⟨s.toArray⟩)).setCell ⟨w.heap.size + 1, 4, none⟩ (.slice A' keys.length d')).setCell ⟨w.heap.size + 1, 5, none⟩ (.slice VA ks.length vc) = W6 := ⟨_, rfl⟩
        rw [hW6] at hz6 hg6 ⊢
        clear hW6
        have hgA : wr.grownBy W3 (some w.heap.size) := by rw [← hW3]; exact set_grown _ _ _ _
        obtain ⟨q1, q2, _, _, q5, q6⟩ := H2.out
        (try simp only [Exit.inBlock, Exit.then]); refine bodyPost_ret (results_cell_row rfl _ _ (w.heap.size + 1) 26 _ (0, 0) _ rfl hz6 Try.underlying26 rfl info26) rfl ?_
        have hoffA : OffL w.heap.size ks := FrL.off (by omega) HKD.out.fr
        have hoffB : OffL (w.heap.size + 1) ks := FrL.off (by omega) HKD.out.fr
        have oA : ∀ g, some w.heap.size = some g → OffL g ks := fun g e => by injection e with e; subst e; exact hoffA
        have oB : ∀ g, some (w.heap.size + 1) = some g → OffL g ks := fun g e => by injection e with e; subst e; exact hoffB
        have hRk : Rd W6 1 A' keys.length (keys.map strv) := ((q5.below HB.out).grown hgA (fun g e h0 => by
          injection e with e
          obtain ⟨b, m, c', cs, T, e1, hle, _⟩ := q6 h0
          injection e1 with e1 _ _
          subst e1
          intro e2; injection e2 with e2; have e2 : b = g := e2; omega)).grown hg6 (fun g e h0 => by
          injection e with e
          obtain ⟨b, m, c', cs, T, e1, hle, _⟩ := q6 h0
          injection e1 with e1 _ _
          subst e1
          intro e2; injection e2 with e2; have e2 : b = g := e2; omega)
        have hrow : ∀ g, (Value.slice VA ks.length vc).ownBlock = some g → W2.heap.size ≤ g := fun g e => (HKD.out.own.lt g e).1
        have hRl : Rd W6 6 VA ks.length (ks.flatMap NT.cells) := ((Rd.of_own HKD.out.own).grown hgA (fun g e h0 e2 => by
          injection e with e
          have := hrow g ((ownBlock_cap (m := ks.length) (d := ks.length)).trans e2); omega)).grown hg6 (fun g e h0 e2 => by
          injection e with e
          have := hrow g ((ownBlock_cap (m := ks.length) (d := ks.length)).trans e2); omega)
        refine ⟨⟨.mk k n u s (.slice A' keys.length d') keys (.slice VA ks.length vc) ks, rfl, ?_, ?_, ?_⟩, ?_⟩
        · rw [NT.pt, NT.pt, HPT.out.1]
        · rw [Is]
          exact ⟨H1.out.1, ⟨A', d', rfl, H1.out.2, hRk⟩, ⟨VA, vc, rfl, by have := HPT.out.2; omega, hRl⟩, (HKD.out.is.grown hgA oA).grown hg6 oB⟩
        · rw [Fr]
          refine ⟨fun h0 => ?_, fun h0 => ?_, FrL.mono (by omega) ((HKD.out.fr.kept hgA oA).kept hg6 oB)⟩
          · obtain ⟨b, m, c', cs, T, e1, hle, hbk⟩ := q6 h0
            refine ⟨b, m, c', cs, T, e1, by omega, ?_⟩
            have h3 := (HB.out.block b (Array.getElem?_eq_some_iff.1 hbk).1).trans hbk
            have h4 := (hgA.block b (Array.getElem?_eq_some_iff.1 h3).1 (fun e => by injection e with e; omega)).trans h3
            exact (hg6.block b (Array.getElem?_eq_some_iff.1 h4).1 (fun e => by injection e with e; omega)).trans h4
          · rcases HKD.out.own.2 with ⟨_, h9⟩ | ⟨g, cap, cur, e1, hle, hbk, _⟩
            · omega
            · refine ⟨g, ks.length, cap, cur, 26, e1, by omega, ?_⟩
              have h4 := (hgA.block g (Array.getElem?_eq_some_iff.1 hbk).1 (fun e => by injection e with e; omega)).trans hbk
              exact (hg6.block g (Array.getElem?_eq_some_iff.1 h4).1 (fun e => by injection e with e; omega)).trans h4
        · exact ((q1.trans (HB.out.mono q1.size)).grown hgA (Nat.le_trans q1.size HB.out.size) (fun i e => by injection e with e; omega)).grown hg6 (Nat.le_trans (Nat.le_trans q1.size HB.out.size) hgA.size) (fun i e => by injection e with e; omega)
end Go.Proofs.Yteoggaioleckhaa
