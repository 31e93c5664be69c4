import Derived.Test.YteoggaioleckhaaMem3
import Derived.Test.YteoggaioleckhaaCopy
/- The blocks of a tree; tree.Copy lays its copy in blocks without doubles. -/
set_option linter.unusedVariables false
set_option linter.unusedSimpArgs false
namespace Go.Proofs.Yteoggaioleckhaa
open Go.RowKit
/-- The block of a slice of n elements. -/
def ownB (n : Nat) (v : Value) : List Nat := if n = 0 then [] else v.ownBlock.toList
mutual
/-- The blocks of the tree's slices. -/
def blk : NT → List Nat
  | .mk k n u s kv keys lv l => ownB keys.length kv ++ (ownB l.length lv ++ blkL l)
def blkL : List NT → List Nat
  | [] => []
  | t :: l => blk t ++ blkL l
end
theorem mem_own {n : Nat} {v : Value} {g : Nat} (h : g ∈ ownB n v) : ¬ n = 0 ∧ v.ownBlock = some g := by
  unfold ownB at h
  by_cases h0 : n = 0
  · rw [if_pos h0] at h; cases h
  · rw [if_neg h0] at h
    exact ⟨h0, by simpa using h⟩
theorem own_mem {n : Nat} {v : Value} {g : Nat} (h0 : ¬ n = 0) (h : v.ownBlock = some g) : g ∈ ownB n v := by
  unfold ownB; rw [if_neg h0, h]; simp
theorem nodup_own (n : Nat) (v : Value) : (ownB n v).Nodup := by
  unfold ownB
  split
  · exact List.nodup_nil
  · cases v.ownBlock <;> simp
theorem nodup_apart {a b : List Nat} (ha : a.Nodup) (hb : b.Nodup) (h : ∀ g, g ∈ a → g ∈ b → False) : (a ++ b).Nodup := by
  rw [List.nodup_append]
  exact ⟨ha, hb, fun x hx y hy e => h x hx (e ▸ hy)⟩
mutual
theorem off_blk {g : Nat} : ∀ {t : NT}, Off g t → ¬ g ∈ blk t
  | .mk k n u s kv keys lv l, h, hg => by
    rw [Off] at h
    rw [blk] at hg
    rcases List.mem_append.1 hg with hg | hg
    · obtain ⟨h0, h1⟩ := mem_own hg
      exact h.1 (by omega) h1
    · rcases List.mem_append.1 hg with hg | hg
      · obtain ⟨h0, h1⟩ := mem_own hg
        exact h.2.1 (by omega) h1
      · exact off_blkL h.2.2 hg
theorem off_blkL {g : Nat} : ∀ {l : List NT}, OffL g l → ¬ g ∈ blkL l
  | [], _, hg => by rw [blkL] at hg; cases hg
  | t :: l, h, hg => by
    rw [OffL] at h
    rw [blkL] at hg
    rcases List.mem_append.1 hg with hg | hg
    · exact off_blk h.1 hg
    · exact off_blkL h.2 hg
end
theorem is_blk_lt {w : World} {t : NT} (h : Is w t) : ∀ g ∈ blk t, g < w.heap.size := fun g hg => by
  apply Classical.byContradiction
  intro hn
  exact off_blk (Is.off (by omega) h) hg
theorem isL_blk_lt {w : World} {l : List NT} (h : IsL w l) : ∀ g ∈ blkL l, g < w.heap.size := fun g hg => by
  apply Classical.byContradiction
  intro hn
  exact off_blkL (IsL.off (by omega) h) hg
theorem fr_blk_ge {B : Nat} {w : World} {t : NT} (h : Fr B w t) : ∀ g ∈ blk t, B ≤ g := fun g hg => by
  apply Classical.byContradiction
  intro hn
  exact off_blk (Fr.off (by omega) h) hg
theorem frL_blk_ge {B : Nat} {w : World} {l : List NT} (h : FrL B w l) : ∀ g ∈ blkL l, B ≤ g := fun g hg => by
  apply Classical.byContradiction
  intro hn
  exact off_blkL (FrL.off (by omega) h) hg
theorem blkL_append : ∀ (a b : List NT), blkL (a ++ b) = blkL a ++ blkL b
  | [], b => by rw [List.nil_append, blkL]; rfl
  | t :: a, b => by rw [List.cons_append, blkL, blkL, blkL_append a b, List.append_assoc]
theorem blkL_snoc (a : List NT) (t : NT) : blkL (a ++ [t]) = blkL a ++ blk t := by rw [blkL_append, blkL, blkL, List.append_nil]
set_option maxRecDepth 100000 in
set_option maxHeartbeats 4000000 in
theorem copyN_any (t : NT) : ∀ w : World, Is w t → KSm t → Calls Try.prog 19 #[t.val] w fun e w' => (∃ t', e = .returned t'.val ∧ t'.pt = t.pt ∧ Is w' t' ∧ Fr w.heap.size w' t' ∧ (blk t').Nodup) ∧ Below w.heap.size w w' := by
  induction t using NT.ind with
  | h k n u s kv keys lv kids ih =>
    intro w hI hK
    have hI0 := hI
    rw [Is] at hI
    obtain ⟨h1, ⟨A, c, rfl, e2, e3⟩, ⟨B, d, rfl, f2, f3⟩, hl⟩ := hI
    rw [KSm] at hK
    obtain ⟨hk1, hk2, hk3⟩ := hK
    rw [val_mk]
    have hb0 : Below w.heap.size w ((w.alloc (.cells #[.int .i64 k, .int .i64 n, .int .u64 u, .string ⟨s.toArray⟩, .slice A keys.length c, .slice B kids.length d] 26)).alloc (.cells #[.int .i64 0, .int .i64 0, .int .u64 0, .string ⟨#[]⟩, .slice none 0 0, .slice none 0 0] 26)) := ((Below.refl _ w).alloc (Nat.le_refl _) _).alloc (by simp) _
    have hx0 := heap_alloc_new w (.cells #[.int .i64 k, .int .i64 n, .int .u64 u, .string ⟨s.toArray⟩, .slice A keys.length c, .slice B kids.length d] 26)
    have hx1 := heap_alloc_new (w.alloc (.cells #[.int .i64 k, .int .i64 n, .int .u64 u, .string ⟨s.toArray⟩, .slice A keys.length c, .slice B kids.length d] 26)) (.cells #[.int .i64 0, .int .i64 0, .int .u64 0, .string ⟨#[]⟩, .slice none 0 0, .slice none 0 0] 26)
    rw [World.size_alloc] at hx1
    replace hx0 := (Below.heap_alloc (w.alloc (.cells #[.int .i64 k, .int .i64 n, .int .u64 u, .string ⟨s.toArray⟩, .slice A keys.length c, .slice B kids.length d] 26)) (.cells #[.int .i64 0, .int .i64 0, .int .u64 0, .string ⟨#[]⟩, .slice none 0 0, .slice none 0 0] 26) w.heap.size (by simp)).trans hx0
    have hs0 : ((w.alloc (.cells #[.int .i64 k, .int .i64 n, .int .u64 u, .string ⟨s.toArray⟩, .slice A keys.length c, .slice B kids.length d] 26)).alloc (.cells #[.int .i64 0, .int .i64 0, .int .u64 0, .string ⟨#[]⟩, .slice none 0 0, .slice none 0 0] 26)).heap.size = w.heap.size + 2 := by simp
    have cC := clone_any A c keys _ (e3.below hb0) hk1
    obtain ⟨W0, hW0⟩ : ∃ W0, (w.alloc (.cells #[.int .i64 k, .int .i64 n, .int .u64 u, .string ⟨s.toArray⟩, .slice A keys.length c, .slice B kids.length d] 26)).alloc (.cells #[.int .i64 0, .int .i64 0, .int .u64 0, .string ⟨#[]⟩, .slice none 0 0, .slice none 0 0] 26) = W0 := ⟨_, rfl⟩
    rw [hW0] at hb0 hx0 hx1 hs0 cC
    have a4 : W0.cell? ⟨w.heap.size, 4, none⟩ = some (.slice A keys.length c) := by rw [cell_of_row _ _ _ _ _ _ hx0]; rfl
    have HM := Lib.hid (And.intro hx0 (And.intro hx1 (And.intro hb0 hs0)))
    clear hx0 hx1 hb0
    go_enter Try.func19, Try.ntmps19
    go_wp2_with (go_at_call 31; refine cC.mono ?_; clear cC; rintro e w1 ⟨⟨A', d', rfl, hrk, hfk⟩, hb1⟩; have hy0 := (hb1.block _ (by rw [hs0]; omega)).trans HM.out.1; have fz4 := frozen_of_row w1 w.heap.size 4 _ _ hy0; have cc4 := cell_of_row w1 w.heap.size 4 _ _ _ hy0; have hz0 := heap_setCell_same w1 w.heap.size 4 _ _ (.slice A' keys.length d') hy0; have cc5 := cell_of_row (w1.setCell ⟨w.heap.size, 4, none⟩ (.slice A' keys.length d')) w.heap.size 5 _ _ _ hz0; replace cc5 := cc5.trans rfl; replace hz0 := Lib.hid hz0; clear hy0)
    -- the world behind the keys
    have hsz1 := hb1.size
    obtain ⟨W2, hW2⟩ : ∃ W2, w1.setCell ⟨w.heap.size, 4, none⟩ (.slice A' keys.length d') = W2 := ⟨_, rfl⟩
    have hB2 : Below w.heap.size w W2 := by rw [← hW2]; exact (HM.out.2.2.1.trans (hb1.mono (by omega))).setCell (p := ⟨w.heap.size, 4, none⟩) (Nat.le_refl _) _
    have hs2 : w.heap.size + 2 ≤ W2.heap.size := by rw [← hW2]; simp; omega
    have hx2 : W2.heap[w.heap.size]? = some (.cells #[.int .i64 k, .int .i64 n, .int .u64 u, .string ⟨s.toArray⟩, .slice A' keys.length d', .slice B kids.length d] 26 (0, 0)) := by rw [← hW2]; exact hz0.out
    have hx3 : W2.heap[w.heap.size + 1]? = some (.cells #[.int .i64 0, .int .i64 0, .int .u64 0, .string ⟨#[]⟩, .slice none 0 0, .slice none 0 0] 26 (0, 0)) := by
      rw [← hW2]
      exact (Below.heap_setCell w1 ⟨w.heap.size, 4, none⟩ _ _ (by show w.heap.size + 1 ≠ w.heap.size; omega)).trans ((hb1.block _ (by omega)).trans HM.out.2.1)
    have hgk : w1.grownBy W2 (some w.heap.size) := by rw [← hW2]; exact ⟨rfl, rfl, rfl, by simp [World.setCell], fun j _ hj => Below.heap_setCell _ _ _ _ (fun e => hj (by simp [e]))⟩
    have hrk2 : Rd W2 1 A' keys.length (keys.map strv) := hrk.grown hgk fun g hg h0 => by
      injection hg with hg
      obtain ⟨b, m, c', cs, T, e, hle, _⟩ := hfk h0
      injection e with e _ _
      subst e
      intro e2; injection e2 with e2; have e2 : b = g := e2; omega
    have hfk2 : 0 < keys.length → ∃ b m c cs T, Value.slice A' keys.length d' = .slice (some ⟨b, 0, none⟩) m c ∧ w.heap.size + 2 ≤ b ∧ W2.heap[b]? = some (.cells cs T (0, 0)) := fun h0 => by
      obtain ⟨b, m, c', cs, T, e, hle, hbk⟩ := hfk h0
      exact ⟨b, m, c', cs, T, e, by omega, (hgk.block b (Array.getElem?_eq_some_iff.1 hbk).1 (fun e => by injection e with e; omega)).trans hbk⟩
    have H2 := Lib.hid (And.intro hB2 (And.intro hs2 (And.intro hx2 (And.intro hx3 (And.intro hrk2 hfk2)))))
    have H1 := Lib.hid (And.intro h1 e2)
    have HF := Lib.hid f3
    have HKL := Lib.hid (And.intro hl hk3)
    have HIH := Lib.hid ih
    have hl2 : (kids.length : Int) ≤ 1000000 := by omega
    clear hB2 hs2 hx2 hx3 hgk hrk2 hfk2 hrk hfk hz0 cc4 fz4 cc5 a4 hb1 HM hI0 e2 e3 hl f2 f3 h1 hk1 hk3 ih hs0 hsz1
    rw [hW2]
    clear hW2 hW0
    obtain ⟨i0, hi, hz1, hz2, hz3⟩ : ∃ i0 : TypeInfo, Try.prog.info? 26 = some i0 ∧ i0.zero = some (.agg #[.int .i64 0, .int .i64 0, .int .u64 0, .string ⟨#[]⟩, .slice none 0 0, .slice none 0 0]) ∧ i0.size = 6 ∧ i0.bytes = 88 := by
      cases h : Try.prog.info? 26 with
      | none => have := info26f; rw [h] at this; cases this
      | some i0 =>
        have := info26f
        rw [h] at this
        simp only [Option.map_some, Option.some.injEq, Prod.mk.injEq] at this
        exact ⟨i0, rfl, this.1, this.2.1, this.2.2⟩
    replace hi := Lib.hid hi
    replace hz1 := Lib.hid hz1
    replace hz2 := Lib.hid hz2
    replace hz3 := Lib.hid hz3
    go_loopw [3, 13] (fun v i wr => ∃ (j : Nat) (ks : List NT), j ≤ kids.length ∧ i = .int .i64 (j : Int) ∧ ptL ks = ptL (kids.take j) ∧ Kids W2.heap.size wr v ks ∧ Below W2.heap.size W2 wr ∧ (blkL ks).Nodup) (fun _ i _ => kids.length - (intOf i).toNat)
    case atStart => exact ⟨0, [], by omega, rfl, by simp [ptL], ⟨World.ownsRow_nil _ _ _ _, by rw [IsL]; trivial, by rw [FrL]; trivial, fun g _ => by rw [OffL]; trivial⟩, Below.refl _ _, by rw [blkL]; exact List.nodup_nil⟩
    case round =>
      obtain ⟨j, ks, hj, rfl, hpt, hkd, hb, hnd⟩ := hrel
      have HND := Lib.hid hnd
      clear hnd
      have hbw : Below w.heap.size w wr := H2.out.1.trans (hb.mono H2.out.1.size)
      have HB := Lib.hid hb
      obtain ⟨VA, vc, hv, _, _⟩ := own_split hkd.own
      subst hv
      have hkl : ks.length ≤ kids.length := by have := congrArg List.length hpt; rw [ptL_map, ptL_map, List.length_map, List.length_map, List.length_take] at this; omega
      by_cases hlt : j < kids.length
      · obtain ⟨b, o, hA, _⟩ := HF.out.at (by omega)
        subst hA
        obtain ⟨t, ht⟩ : ∃ t, kids[j]? = some t := ⟨_, List.getElem?_eq_getElem hlt⟩
        have hg : kids[j]'hlt = t := by rw [List.getElem?_eq_getElem hlt] at ht; injection ht
        have hmem : t ∈ kids := hg ▸ List.getElem_mem hlt
        have htk : ptL (kids.take (j + 1)) = ptL (kids.take j) ++ [t.pt] := by
          rw [List.take_succ_eq_append_getElem hlt, hg, ptL_map, ptL_map, List.map_append]; rfl
        have hIt := (isL_mem HKL.out.1 _ hmem).below hbw
        have hKt := ksmL_mem HKL.out.2 _ hmem
        have hih := HIH.out t hmem
        obtain ⟨k', n', u', s', kv', ks', lv', l'⟩ := t
        have hIt0 := hIt
        rw [Is] at hIt0
        obtain ⟨_, ⟨A2, c2, rfl, _⟩, ⟨B2, d2, rfl, _⟩, _⟩ := hIt0
        obtain ⟨c0, c1, c2', c3, c4, c5⟩ := node_at6 (HF.out.below hbw) ht
        have hcall := hih _ (hIt.alloc (.cells #[.int .i64 k', .int .i64 n', .int .u64 u', .string ⟨s'.toArray⟩, .slice A2 ks'.length c2, .slice B2 l'.length d2] 26)) hKt
        rw [val_mk] at hcall
        have HKD := Lib.hid hkd
        have HTK := Lib.hid (And.intro hpt htk)
        clear hih hIt hKt hmem hg ht hkd hpt htk hbw hb
        go_wp2_with (first
          | (go_at_call 19; refine hcall.mono ?_; clear hcall; rintro e w3 ⟨⟨t', rfl, ht'1, ht'2, ht'3, ht'4⟩, hb3⟩; replace ht'4 := Lib.hid ht'4; have hkd3 := HKD.out.below (((Below.refl _ _).alloc (Nat.le_refl _) _).trans (hb3.mono (by simp))); obtain ⟨k3, n3, u3, s3, kv3, ks3, lv3, l3⟩ := t'; have hI3 := ht'2; rw [Is] at hI3; obtain ⟨_, ⟨A3, c3, rfl, _⟩, ⟨B3, d3, rfl, _⟩, _⟩ := hI3; rw [val_mk])
          | (at_builtin; refine wpList_append_where rfl _ (.tmp 17) (.tmp 20) 24 rfl W2.heap.size 26 i0 (.agg #[.int .i64 0, .int .i64 0, .int .u64 0, .string ⟨#[]⟩, .slice none 0 0, .slice none 0 0]) 6 88 Try.underlying24 hi.out hz1.out hz2.out hz3.out rfl (by decide) _ ks.length (ks.flatMap NT.cells) rfl (hkd3.own.alloc _) (some ⟨w3.heap.size, 0, none⟩) 1 1 (by decide) (NT.mk k3 n3 u3 s3 (.slice A3 ks3.length c3) ks3 (.slice B3 l3.length d3) l3).cells rfl (rd6 w3 _ rfl) (cells6 _ _ ht'2) (by unfold maxLen; omega) (by omega) (by have h1 := HB.out.size; have h2 := H2.out.2.1; have h3 := hb3.size; simp at h3 ⊢; omega) ?_; intro v' w5 hown5 hg5 hwh5))
        have hb4 : Below wr.heap.size wr (w3.alloc (.cells #[.int .i64 k3, .int .i64 n3, .int .u64 u3, .string ⟨s3.toArray⟩, .slice A3 ks3.length c3, .slice B3 l3.length d3] 26)) := (((Below.refl _ _).alloc (Nat.le_refl _) _).trans (hb3.mono (by simp))).alloc (by have h3 := hb3.size; simp at h3; omega) _
        have hbw4 := (Below.refl w3.heap.size w3).alloc (Nat.le_refl _) (.cells #[.int .i64 k3, .int .i64 n3, .int .u64 u3, .string ⟨s3.toArray⟩, .slice A3 ks3.length c3, .slice B3 l3.length d3] 26)
        have hkd4 := hkd3.below hbw4
        have hoff : ∀ g, (Value.slice VA ks.length vc).ownBlock = some g → Off g (NT.mk k3 n3 u3 s3 (.slice A3 ks3.length c3) ks3 (.slice B3 l3.length d3) l3) := fun g hv => Fr.off (by have := (HKD.out.own.lt g hv).2; simp; omega) ht'3
        have hnext := hkd4.next (ht'2.below hbw4) ((ht'3.mono (by have := HB.out.size; simp; omega)).below hbw4) hoff hown5 hg5 hwh5
        have hbel := (HB.out.trans (hb4.mono HB.out.size)).trans (grown_below hkd4.own hg5 (by have h1 := HB.out.size; have h3 := hb3.size; simp at h3 ⊢; omega))
        have hnd2 : (blkL (ks ++ [NT.mk k3 n3 u3 s3 (.slice A3 ks3.length c3) ks3 (.slice B3 l3.length d3) l3])).Nodup := by
          rw [blkL_snoc]
          refine nodup_apart HND.out ht'4.out fun g h1 h2 => ?_
          have h3 := isL_blk_lt HKD.out.is g h1
          have h4 := fr_blk_ge ht'3 g h2
          simp at h4; omega
        have HN := Lib.hid (And.intro hnext (And.intro hbel (And.intro ht'1 hnd2)))
        clear hnext hbel hoff hkd4 hbw4 hb4 hown5 hg5 hwh5 hkd3 ht'2 ht'3 ht'1 ht'4 hnd2
        go_roundw
        case rel => exact ⟨j + 1, ks ++ [_], by omega, by simp, by rw [HTK.out.2, ← HTK.out.1, ptL_map, ptL_map, List.map_append, ← HN.out.2.2.1]; rfl, HN.out.1, HN.out.2.1, HN.out.2.2.2⟩
        case measure => simp [intOf]; omega
      · obtain rfl : j = kids.length := by omega
        rw [List.take_length] at hpt
        have hklen : ks.length = kids.length := by have := congrArg List.length hpt; rw [ptL_map, ptL_map, List.length_map, List.length_map] at this; exact this
        have hy0 := (hb.block _ (by have := H2.out.2.1; omega)).trans H2.out.2.2.1
        have hy1 := (hb.block _ (by have := H2.out.2.1; omega)).trans H2.out.2.2.2.1
        have fz5 := frozen_of_row wr w.heap.size 5 _ _ hy0
        have cc5 := cell_of_row wr w.heap.size 5 _ _ _ hy0
        have hz0 := heap_setCell_same wr w.heap.size 5 _ _ (.slice VA ks.length vc) hy0
        obtain ⟨W3, hW3⟩ : ∃ W3, wr.setCell ⟨w.heap.size, 5, none⟩ (.slice VA ks.length vc) = W3 := ⟨_, rfl⟩
        have hz1' : W3.heap[w.heap.size]? = some (.cells #[.int .i64 k, .int .i64 n, .int .u64 u, .string ⟨s.toArray⟩, .slice A' keys.length d', .slice VA ks.length vc] 26 (0, 0)) := by rw [← hW3]; exact hz0
        obtain ⟨a0, a1, a2, a3, a4, a5⟩ := sixC hz1'
        have hy2 : W3.heap[w.heap.size + 1]? = some (.cells #[.int .i64 0, .int .i64 0, .int .u64 0, .string ⟨#[]⟩, .slice none 0 0, .slice none 0 0] 26 (0, 0)) := by rw [← hW3]; exact (Below.heap_setCell wr ⟨w.heap.size, 5, none⟩ _ _ (by show w.heap.size + 1 ≠ w.heap.size; omega)).trans hy1
        have g0 := frozen_of_row W3 (w.heap.size + 1) 0 _ _ hy2
        have g1 := frozen_of_row W3 (w.heap.size + 1) 1 _ _ hy2
        have g2 := frozen_of_row W3 (w.heap.size + 1) 2 _ _ hy2
        have g3 := frozen_of_row W3 (w.heap.size + 1) 3 _ _ hy2
        have g4 := frozen_of_row W3 (w.heap.size + 1) 4 _ _ hy2
        have g5 := frozen_of_row W3 (w.heap.size + 1) 5 _ _ hy2
        obtain ⟨b0, b1, b2, b3, b4, b5⟩ := sixC (s := []) hy2
        have HKD := Lib.hid hkd
        have HPT := Lib.hid (And.intro hpt hklen)
        have HY := Lib.hid (And.intro hz1' hy2)
        clear hz0 hz1' hy0 hy1 hy2 hkd hpt hb hbw hklen hkl
        go_wp2
        obtain ⟨hz6, hg6⟩ := six_set HY.out.2 (.int .i64 k) (.int .i64 n) (.int .u64 u) (.string ⟨s.toArray⟩) (.slice A' keys.length d') (.slice VA ks.length vc)
        obtain ⟨W6, hW6⟩ : ∃ W6, (((((W3.setCell ⟨w.heap.size + 1, 0, none⟩ (.int .i64 k)).setCell ⟨w.heap.size + 1, 1, none⟩ (.int .i64 n)).setCell ⟨w.heap.size + 1, 2, none⟩ (.int .u64 u)).setCell ⟨w.heap.size + 1, 3, none⟩ (.string ⟨s.toArray⟩)).setCell ⟨w.heap.size + 1, 4, none⟩ (.slice A' keys.length d')).setCell ⟨w.heap.size + 1, 5, none⟩ (.slice VA ks.length vc) = W6 := ⟨_, rfl⟩
        rw [hW6] at hz6 hg6 ⊢
        clear hW6
        have hgA : wr.grownBy W3 (some w.heap.size) := by rw [← hW3]; exact set_grown _ _ _ _
        obtain ⟨q1, q2, _, _, q5, q6⟩ := H2.out
        (try simp only [Exit.inBlock, Exit.then]); refine bodyPost_ret (results_cell_row rfl _ _ (w.heap.size + 1) 26 _ (0, 0) _ rfl hz6 Try.underlying26 rfl info26) rfl ?_
        have hoffA : OffL w.heap.size ks := FrL.off (by omega) HKD.out.fr
        have hoffB : OffL (w.heap.size + 1) ks := FrL.off (by omega) HKD.out.fr
        have oA : ∀ g, some w.heap.size = some g → OffL g ks := fun g e => by injection e with e; subst e; exact hoffA
        have oB : ∀ g, some (w.heap.size + 1) = some g → OffL g ks := fun g e => by injection e with e; subst e; exact hoffB
        have hRk : Rd W6 1 A' keys.length (keys.map strv) := ((q5.below HB.out).grown hgA (fun g e h0 => by
          injection e with e
          obtain ⟨b, m, c', cs, T, e1, hle, _⟩ := q6 h0
          injection e1 with e1 _ _
          subst e1
          intro e2; injection e2 with e2; have e2 : b = g := e2; omega)).grown hg6 (fun g e h0 => by
          injection e with e
          obtain ⟨b, m, c', cs, T, e1, hle, _⟩ := q6 h0
          injection e1 with e1 _ _
          subst e1
          intro e2; injection e2 with e2; have e2 : b = g := e2; omega)
        have hrow : ∀ g, (Value.slice VA ks.length vc).ownBlock = some g → W2.heap.size ≤ g := fun g e => (HKD.out.own.lt g e).1
        have hRl : Rd W6 6 VA ks.length (ks.flatMap NT.cells) := ((Rd.of_own HKD.out.own).grown hgA (fun g e h0 e2 => by
          injection e with e
          have := hrow g ((ownBlock_cap (m := ks.length) (d := ks.length)).trans e2); omega)).grown hg6 (fun g e h0 e2 => by
          injection e with e
          have := hrow g ((ownBlock_cap (m := ks.length) (d := ks.length)).trans e2); omega)
        refine ⟨⟨.mk k n u s (.slice A' keys.length d') keys (.slice VA ks.length vc) ks, rfl, ?_, ?_, ?_, ?_⟩, ?_⟩
        · rw [NT.pt, NT.pt, HPT.out.1]
        · rw [Is]
          exact ⟨H1.out.1, ⟨A', d', rfl, H1.out.2, hRk⟩, ⟨VA, vc, rfl, by have := HPT.out.2; omega, hRl⟩, (HKD.out.is.grown hgA oA).grown hg6 oB⟩
        · rw [Fr]
          refine ⟨fun h0 => ?_, fun h0 => ?_, FrL.mono (by omega) ((HKD.out.fr.kept hgA oA).kept hg6 oB)⟩
          · obtain ⟨b, m, c', cs, T, e1, hle, hbk⟩ := q6 h0
            refine ⟨b, m, c', cs, T, e1, by omega, ?_⟩
            have h3 := (HB.out.block b (Array.getElem?_eq_some_iff.1 hbk).1).trans hbk
            have h4 := (hgA.block b (Array.getElem?_eq_some_iff.1 h3).1 (fun e => by injection e with e; omega)).trans h3
            exact (hg6.block b (Array.getElem?_eq_some_iff.1 h4).1 (fun e => by injection e with e; omega)).trans h4
          · rcases HKD.out.own.2 with ⟨_, h9⟩ | ⟨g, cap, cur, e1, hle, hbk, _⟩
            · omega
            · refine ⟨g, ks.length, cap, cur, 26, e1, by omega, ?_⟩
              have h4 := (hgA.block g (Array.getElem?_eq_some_iff.1 hbk).1 (fun e => by injection e with e; omega)).trans hbk
              exact (hg6.block g (Array.getElem?_eq_some_iff.1 h4).1 (fun e => by injection e with e; omega)).trans h4
        · rw [blk]
          refine nodup_apart (nodup_own _ _) (nodup_apart (nodup_own _ _) HND.out fun g h1 h2 => ?_) fun g h1 h2 => ?_
          · obtain ⟨h0, h1⟩ := mem_own h1
            exact off_blkL (HKD.out.off g h1) h2
          · obtain ⟨h0, h1⟩ := mem_own h1
            have hlt : g < W2.heap.size := by
              obtain ⟨b, m, c', cs, T, e1, hle, hbk⟩ := q6 (by omega)
              rw [e1] at h1
              injection h1 with h1
              have h1 : b = g := h1
              subst h1
              exact (Array.getElem?_eq_some_iff.1 hbk).1
            rcases List.mem_append.1 h2 with h2 | h2
            · obtain ⟨_, h2⟩ := mem_own h2
              have := (HKD.out.own.lt g h2).1
              omega
            · have := frL_blk_ge HKD.out.fr g h2
              omega
        · exact ((q1.trans (HB.out.mono q1.size)).grown hgA (Nat.le_trans q1.size HB.out.size) (fun i e => by injection e with e; omega)).grown hg6 (Nat.le_trans (Nat.le_trans q1.size HB.out.size) hgA.size) (fun i e => by injection e with e; omega)
end Go.Proofs.Yteoggaioleckhaa
