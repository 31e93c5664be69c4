import Derived.Test.YteoggaioleckhaaCutA
import Derived.Test.YteoggaioleckhaaTrees
/- The reference's cut, whole: every tree that came in, every room. -/
set_option linter.unusedVariables false
set_option linter.unusedSimpArgs false
namespace Go.Proofs.Yteoggaioleckhaa
open Go.RowKit
def CutInv (l : List PT) (q j q' : Nat) (ks : List PT) : Prop := (cutL l q).1 = ks ++ (cutL (l.drop j) q').1 ∧ (cutL l q).2 = (cutL (l.drop j) q').2 ∧ ks.length + q' ≤ q
theorem CutInv.start (l : List PT) (q : Nat) : CutInv l q 0 q [] := ⟨by simp, by simp, by simp⟩
theorem CutInv.step {l : List PT} {q j p : Nat} {ks : List PT} {t : PT} (h : CutInv l q j (p + 1) ks) (ht : l[j]? = some t) : CutInv l q (j + 1) (cutP t p).2 (ks ++ [(cutP t p).1]) := by
  obtain ⟨h1, h2, h3⟩ := h
  have hlt := (List.getElem?_eq_some_iff.1 ht)
  obtain ⟨hl, hg⟩ := hlt
  rw [List.drop_eq_getElem_cons hl, hg, cutL_succ] at h1 h2
  have := cutP_le t p
  refine ⟨?_, h2, by simp; omega⟩
  rw [h1]; simp
theorem CutInv.all {l : List PT} {q q' : Nat} {ks : List PT} (h : CutInv l q l.length q' ks) : cutL l q = (ks, q') := by
  obtain ⟨h1, h2, h3⟩ := h
  rw [List.drop_length, cutL] at h1 h2
  simp at h1 h2
  rw [← h1, ← h2]
theorem CutInv.none {l : List PT} {q j : Nat} {ks : List PT} (h : CutInv l q j 0 ks) : cutL l q = (ks, 0) := by
  obtain ⟨h1, h2, h3⟩ := h
  rw [cutL_zero] at h1 h2
  simp at h1 h2
  rw [← h1, ← h2]
theorem own_grown {w w' : World} {base : Nat} {e : TypeId} {sz n : Nat} {v : Value} {xs : List Value} {r : Nat} (h : w.ownsRow base e sz v n xs) (hg : w.grownBy w' (some r)) (hr : r < base) : w'.ownsRow base e sz v n xs := by
  refine ⟨h.1, ?_⟩
  rcases h.2 with h0 | ⟨g, cap, cur, hv, hb, hh, h1⟩
  · exact Or.inl h0
  · exact Or.inr ⟨g, cap, cur, hv, hb, (hg.block g (Array.getElem?_eq_some_iff.1 hh).1 (fun e => by injection e with e; omega)).trans hh, h1⟩
theorem Kids.grown {B : Nat} {w w' : World} {v : Value} {ks : List NT} {r : Nat} (h : Kids B w v ks) (hg : w.grownBy w' (some r)) (hr : r < B) : Kids B w' v ks :=
  ⟨own_grown h.own hg hr, h.is.grown hg (fun g e => by injection e with e; subst e; exact FrL.off hr h.fr), h.fr.kept hg (fun g e => by injection e with e; subst e; exact FrL.off hr h.fr), h.off⟩
theorem KeysAt.grown {B : Nat} {w w' : World} {v : Value} {ks : List (List UInt8)} {r : Nat} (h : KeysAt B w v ks) (hg : w.grownBy w' (some r)) (hr : r < B) : KeysAt B w' v ks := by
  obtain ⟨A, c, rfl, hrd, hf⟩ := h
  refine ⟨A, c, rfl, hrd.grown hg fun g e h0 => ?_, fun h0 => ?_⟩
  · injection e with e; subst e
    obtain ⟨b, m, c', cs, e1, e2, e3⟩ := hf h0
    injection e1 with e1 _ _
    subst e1
    intro hv; injection hv with hv; have hv : b = r := hv; omega
  · obtain ⟨b, m, c', cs, e1, e2, e3⟩ := hf h0
    exact ⟨b, m, c', cs, e1, e2, (hg.block b (Array.getElem?_eq_some_iff.1 e3).1 (fun e => by injection e with e; omega)).trans e3⟩
theorem grown_new {w w1 w2 : World} {row : Option Nat} {g : Nat} (h : w.grownBy w1 row) (h2 : w1.grownBy w2 (some g)) (hg : w.heap.size ≤ g) : w.grownBy w2 row :=
  ⟨h2.os.trans h.os, h2.tape.trans h.tape, h2.output.trans h.output, Nat.le_trans h.size h2.size, fun k hk hr => (h2.block k (Nat.lt_of_lt_of_le hk h.size) (fun e => by injection e with e; omega)).trans (h.block k hk hr)⟩
theorem grown_up {w w1 : World} {row : Option Nat} (h : Below w.heap.size w w1) : w.grownBy w1 row := ⟨h.os, h.tape, h.output, h.size, fun k hk _ => h.block k hk⟩
theorem grown_same {w w1 w2 : World} {row : Option Nat} (h : w.grownBy w1 row) (h2 : w1.grownBy w2 row) : w.grownBy w2 row := grown_trans h h2
theorem ksmL_append : ∀ {a b : List NT}, KSmL a → KSmL b → KSmL (a ++ b)
  | [], b, _, h => h
  | t :: a, b, h, g => by rw [KSmL] at h; rw [List.cons_append, KSmL]; exact ⟨h.1, ksmL_append h.2 g⟩
theorem ptL_snoc (ks : List NT) (t : NT) : ptL (ks ++ [t]) = ptL ks ++ [t.pt] := by rw [ptL_map, ptL_map, List.map_append]; rfl
theorem cutK_small (keys : List (List UInt8)) : ∀ x ∈ cutK keys, x.length ≤ 140737488355328 := by
  intro x hx
  obtain ⟨y, _, rfl⟩ := List.mem_map.1 hx
  rw [List.length_take]; omega
theorem keep_of {a0 a : Act} (hK : FrKeep opsC a0 a) (t : Tmp) (h : (opsC.all fun o => o.dst != some t) = true) : a.eval (.tmp t) = a0.eval (.tmp t) := hK.2.2 t fun i o hi hd => by
  rw [Array.all_eq_true] at h
  obtain ⟨h1, h2⟩ := Array.getElem?_eq_some_iff.1 hi
  have := h i h1
  rw [h2, hd] at this
  simp at this
set_option maxRecDepth 100000 in
theorem ext64 (a : Act) (h : a.tmps.size = 64) : a = { tmps := #[a.eval (.tmp 0), a.eval (.tmp 1), a.eval (.tmp 2), a.eval (.tmp 3), a.eval (.tmp 4), a.eval (.tmp 5), a.eval (.tmp 6), a.eval (.tmp 7), a.eval (.tmp 8), a.eval (.tmp 9), a.eval (.tmp 10), a.eval (.tmp 11), a.eval (.tmp 12), a.eval (.tmp 13), a.eval (.tmp 14), a.eval (.tmp 15), a.eval (.tmp 16), a.eval (.tmp 17), a.eval (.tmp 18), a.eval (.tmp 19), a.eval (.tmp 20), a.eval (.tmp 21), a.eval (.tmp 22), a.eval (.tmp 23), a.eval (.tmp 24), a.eval (.tmp 25), a.eval (.tmp 26), a.eval (.tmp 27), a.eval (.tmp 28), a.eval (.tmp 29), a.eval (.tmp 30), a.eval (.tmp 31), a.eval (.tmp 32), a.eval (.tmp 33), a.eval (.tmp 34), a.eval (.tmp 35), a.eval (.tmp 36), a.eval (.tmp 37), a.eval (.tmp 38), a.eval (.tmp 39), a.eval (.tmp 40), a.eval (.tmp 41), a.eval (.tmp 42), a.eval (.tmp 43), a.eval (.tmp 44), a.eval (.tmp 45), a.eval (.tmp 46), a.eval (.tmp 47), a.eval (.tmp 48), a.eval (.tmp 49), a.eval (.tmp 50), a.eval (.tmp 51), a.eval (.tmp 52), a.eval (.tmp 53), a.eval (.tmp 54), a.eval (.tmp 55), a.eval (.tmp 56), a.eval (.tmp 57), a.eval (.tmp 58), a.eval (.tmp 59), a.eval (.tmp 60), a.eval (.tmp 61), a.eval (.tmp 62), a.eval (.tmp 63)], defers := a.defers } := by
  have e : a.tmps = ((List.range 64).map fun i => a.eval (.tmp i)).toArray := by
    apply Array.ext
    · simp [h]
    · intro i h1 h2
      simp [Act.eval, Array.getD, h1]
  have e2 : ((List.range 64).map fun i => a.eval (.tmp i)).toArray = #[a.eval (.tmp 0), a.eval (.tmp 1), a.eval (.tmp 2), a.eval (.tmp 3), a.eval (.tmp 4), a.eval (.tmp 5), a.eval (.tmp 6), a.eval (.tmp 7), a.eval (.tmp 8), a.eval (.tmp 9), a.eval (.tmp 10), a.eval (.tmp 11), a.eval (.tmp 12), a.eval (.tmp 13), a.eval (.tmp 14), a.eval (.tmp 15), a.eval (.tmp 16), a.eval (.tmp 17), a.eval (.tmp 18), a.eval (.tmp 19), a.eval (.tmp 20), a.eval (.tmp 21), a.eval (.tmp 22), a.eval (.tmp 23), a.eval (.tmp 24), a.eval (.tmp 25), a.eval (.tmp 26), a.eval (.tmp 27), a.eval (.tmp 28), a.eval (.tmp 29), a.eval (.tmp 30), a.eval (.tmp 31), a.eval (.tmp 32), a.eval (.tmp 33), a.eval (.tmp 34), a.eval (.tmp 35), a.eval (.tmp 36), a.eval (.tmp 37), a.eval (.tmp 38), a.eval (.tmp 39), a.eval (.tmp 40), a.eval (.tmp 41), a.eval (.tmp 42), a.eval (.tmp 43), a.eval (.tmp 44), a.eval (.tmp 45), a.eval (.tmp 46), a.eval (.tmp 47), a.eval (.tmp 48), a.eval (.tmp 49), a.eval (.tmp 50), a.eval (.tmp 51), a.eval (.tmp 52), a.eval (.tmp 53), a.eval (.tmp 54), a.eval (.tmp 55), a.eval (.tmp 56), a.eval (.tmp 57), a.eval (.tmp 58), a.eval (.tmp 59), a.eval (.tmp 60), a.eval (.tmp 61), a.eval (.tmp 62), a.eval (.tmp 63)] := by kernel_rfl
  obtain ⟨t, d⟩ := a
  simp only at e
  rw [← e2, ← e]
set_option maxRecDepth 100000 in
set_option maxHeartbeats 4000000 in
theorem cut_any (w0 : World) (t : NT) : ∀ (w : World) (q R : Nat), Inn w0 t → Below w0.heap.size w0 w → w0.heap.size ≤ R → w.heap[R]? = some (.cells #[.int .i64 (q : Int), .int .i64 60] 58 (0, 0)) → q ≤ 1000 →
    Calls Try.prog 34 #[.pointer (some ⟨R, 0, none⟩), t.val] w fun e w' => (∃ t', e = .returned t'.val ∧ t'.pt = (cutP t.pt q).1 ∧ Is w' t' ∧ KSm t' ∧ Fr w.heap.size w' t') ∧ w'.heap[R]? = some (.cells #[.int .i64 ((cutP t.pt q).2 : Int), .int .i64 60] 58 (0, 0)) ∧ w.grownBy w' (some R) := by
  induction t using NT.ind with
  | h k n u s kv keys lv kids ih =>
    intro w q R hI hB hR hr hq
    rw [Inn] at hI
    obtain ⟨h1, ⟨A, c, rfl, e2, e3⟩, ⟨B, d, rfl, f2, f3⟩, hl⟩ := hI
    have hRs := (Array.getElem?_eq_some_iff.1 hr).1
    have hsz := hB.size
    rw [val_mk]
    have hb0 : Below w.heap.size w ((w.alloc (.cells #[.int .i64 k, .int .i64 n, .int .u64 u, .string ⟨s.toArray⟩, .slice A keys.length c, .slice B kids.length d] 26)).alloc (.cells #[.int .i64 0, .int .i64 0, .int .u64 0, .string ⟨#[]⟩, .slice none 0 0, .slice none 0 0] 26)) := ((Below.refl _ w).alloc (Nat.le_refl _) _).alloc (by simp) _
    have hx0 := heap_alloc_new w (.cells #[.int .i64 k, .int .i64 n, .int .u64 u, .string ⟨s.toArray⟩, .slice A keys.length c, .slice B kids.length d] 26)
    have hx1 := heap_alloc_new (w.alloc (.cells #[.int .i64 k, .int .i64 n, .int .u64 u, .string ⟨s.toArray⟩, .slice A keys.length c, .slice B kids.length d] 26)) (.cells #[.int .i64 0, .int .i64 0, .int .u64 0, .string ⟨#[]⟩, .slice none 0 0, .slice none 0 0] 26)
    rw [World.size_alloc] at hx1
    replace hx0 := (Below.heap_alloc (w.alloc (.cells #[.int .i64 k, .int .i64 n, .int .u64 u, .string ⟨s.toArray⟩, .slice A keys.length c, .slice B kids.length d] 26)) (.cells #[.int .i64 0, .int .i64 0, .int .u64 0, .string ⟨#[]⟩, .slice none 0 0, .slice none 0 0] 26) w.heap.size (by simp)).trans hx0
    have hs0 : ((w.alloc (.cells #[.int .i64 k, .int .i64 n, .int .u64 u, .string ⟨s.toArray⟩, .slice A keys.length c, .slice B kids.length d] 26)).alloc (.cells #[.int .i64 0, .int .i64 0, .int .u64 0, .string ⟨#[]⟩, .slice none 0 0, .slice none 0 0] 26)).heap.size = w.heap.size + 2 := by simp
    have hml : maxLen ≤ 9223372036854775807 := by unfold maxLen; decide
    have hl2 : (kids.length : Int) ≤ 9223372036854775807 := by omega
    have HI := Lib.hid (And.intro h1 (And.intro e2 (And.intro e3 (And.intro f2 (And.intro f3 hl)))))
    have HW := Lib.hid (And.intro hB (And.intro hr (And.intro hRs hsz)))
    have HIH := Lib.hid ih
    clear h1 e2 e3 f2 f3 hl hB hr hRs hsz ih
    go_enter Try.func34, Try.ntmps34
    go_upto_region 1 with fail
    obtain ⟨W0, hW0⟩ : ∃ W0, (w.alloc (.cells #[.int .i64 k, .int .i64 n, .int .u64 u, .string ⟨s.toArray⟩, .slice A keys.length c, .slice B kids.length d] 26)).alloc (.cells #[.int .i64 0, .int .i64 0, .int .u64 0, .string ⟨#[]⟩, .slice none 0 0, .slice none 0 0] 26) = W0 := ⟨_, rfl⟩
    rw [hW0] at hb0 hx0 hx1 hs0 ⊢
    clear hW0
    have hbw0 : Below w0.heap.size w0 W0 := HW.out.1.trans (hb0.mono HW.out.2.2.2)
    have hr0 := (hb0.block R HW.out.2.2.1).trans HW.out.2.1
    refine cut_region _ _ _ R w.heap.size k n u s A c keys (.slice B kids.length d) (.int .i64 q) rfl rfl rfl hx0 hr0 (HI.out.2.2.1.below hbw0) (by have := HI.out.2.1; omega) ?_
    intro a W1 b5 kv' hU hK v5 hb5 hh5 hkv
    have e0 : a.eval (.tmp 0) = .pointer (some ⟨R, 0, none⟩) := (keep_of hK 0 (by kernel_rfl)).trans (by kernel_rfl)
    have e1 : a.eval (.tmp 1) = .agg #[.int .i64 k, .int .i64 n, .int .u64 u, .string ⟨s.toArray⟩, .slice A keys.length c, .slice B kids.length d] := (keep_of hK 1 (by kernel_rfl)).trans (by kernel_rfl)
    have e2 : a.eval (.tmp 2) = undef := (keep_of hK 2 (by kernel_rfl)).trans (by kernel_rfl)
    have e3 : a.eval (.tmp 3) = .pointer (some ⟨w.heap.size, 0, none⟩) := (keep_of hK 3 (by kernel_rfl)).trans (by kernel_rfl)
    have e4 : a.eval (.tmp 4) = .pointer (some ⟨w.heap.size + 1, 0, none⟩) := (keep_of hK 4 (by kernel_rfl)).trans (by kernel_rfl)
    have e6 : a.eval (.tmp 6) = undef := (keep_of hK 6 (by kernel_rfl)).trans (by kernel_rfl)
    have e7 : a.eval (.tmp 7) = undef := (keep_of hK 7 (by kernel_rfl)).trans (by kernel_rfl)
    have e29 : a.eval (.tmp 29) = undef := (keep_of hK 29 (by kernel_rfl)).trans (by kernel_rfl)
    have e30 : a.eval (.tmp 30) = undef := (keep_of hK 30 (by kernel_rfl)).trans (by kernel_rfl)
    have e31 : a.eval (.tmp 31) = undef := (keep_of hK 31 (by kernel_rfl)).trans (by kernel_rfl)
    have e32 : a.eval (.tmp 32) = undef := (keep_of hK 32 (by kernel_rfl)).trans (by kernel_rfl)
    have e33 : a.eval (.tmp 33) = undef := (keep_of hK 33 (by kernel_rfl)).trans (by kernel_rfl)
    have e34 : a.eval (.tmp 34) = undef := (keep_of hK 34 (by kernel_rfl)).trans (by kernel_rfl)
    have e35 : a.eval (.tmp 35) = undef := (keep_of hK 35 (by kernel_rfl)).trans (by kernel_rfl)
    have e36 : a.eval (.tmp 36) = undef := (keep_of hK 36 (by kernel_rfl)).trans (by kernel_rfl)
    have e37 : a.eval (.tmp 37) = undef := (keep_of hK 37 (by kernel_rfl)).trans (by kernel_rfl)
    have e38 : a.eval (.tmp 38) = undef := (keep_of hK 38 (by kernel_rfl)).trans (by kernel_rfl)
    have e39 : a.eval (.tmp 39) = undef := (keep_of hK 39 (by kernel_rfl)).trans (by kernel_rfl)
    have e40 : a.eval (.tmp 40) = undef := (keep_of hK 40 (by kernel_rfl)).trans (by kernel_rfl)
    have e41 : a.eval (.tmp 41) = undef := (keep_of hK 41 (by kernel_rfl)).trans (by kernel_rfl)
    have e42 : a.eval (.tmp 42) = undef := (keep_of hK 42 (by kernel_rfl)).trans (by kernel_rfl)
    have e43 : a.eval (.tmp 43) = undef := (keep_of hK 43 (by kernel_rfl)).trans (by kernel_rfl)
    have e44 : a.eval (.tmp 44) = undef := (keep_of hK 44 (by kernel_rfl)).trans (by kernel_rfl)
    have e45 : a.eval (.tmp 45) = undef := (keep_of hK 45 (by kernel_rfl)).trans (by kernel_rfl)
    have e46 : a.eval (.tmp 46) = undef := (keep_of hK 46 (by kernel_rfl)).trans (by kernel_rfl)
    have e47 : a.eval (.tmp 47) = undef := (keep_of hK 47 (by kernel_rfl)).trans (by kernel_rfl)
    have e48 : a.eval (.tmp 48) = undef := (keep_of hK 48 (by kernel_rfl)).trans (by kernel_rfl)
    have e49 : a.eval (.tmp 49) = undef := (keep_of hK 49 (by kernel_rfl)).trans (by kernel_rfl)
    have e50 : a.eval (.tmp 50) = undef := (keep_of hK 50 (by kernel_rfl)).trans (by kernel_rfl)
    have e51 : a.eval (.tmp 51) = undef := (keep_of hK 51 (by kernel_rfl)).trans (by kernel_rfl)
    have e52 : a.eval (.tmp 52) = undef := (keep_of hK 52 (by kernel_rfl)).trans (by kernel_rfl)
    have e53 : a.eval (.tmp 53) = undef := (keep_of hK 53 (by kernel_rfl)).trans (by kernel_rfl)
    have e54 : a.eval (.tmp 54) = undef := (keep_of hK 54 (by kernel_rfl)).trans (by kernel_rfl)
    have e55 : a.eval (.tmp 55) = undef := (keep_of hK 55 (by kernel_rfl)).trans (by kernel_rfl)
    have e56 : a.eval (.tmp 56) = undef := (keep_of hK 56 (by kernel_rfl)).trans (by kernel_rfl)
    have e57 : a.eval (.tmp 57) = undef := (keep_of hK 57 (by kernel_rfl)).trans (by kernel_rfl)
    have e58 : a.eval (.tmp 58) = undef := (keep_of hK 58 (by kernel_rfl)).trans (by kernel_rfl)
    have e59 : a.eval (.tmp 59) = undef := (keep_of hK 59 (by kernel_rfl)).trans (by kernel_rfl)
    have e60 : a.eval (.tmp 60) = undef := (keep_of hK 60 (by kernel_rfl)).trans (by kernel_rfl)
    have e61 : a.eval (.tmp 61) = undef := (keep_of hK 61 (by kernel_rfl)).trans (by kernel_rfl)
    have e62 : a.eval (.tmp 62) = undef := (keep_of hK 62 (by kernel_rfl)).trans (by kernel_rfl)
    have e63 : a.eval (.tmp 63) = undef := (keep_of hK 63 (by kernel_rfl)).trans (by kernel_rfl)
    have hde : a.defers = [] := hK.2.1
    rw [ext64 a (hK.1.trans rfl), hde]
    simp only [v5, e0, e1, e2, e3, e4, e6, e7, e29, e30, e31, e32, e33, e34, e35, e36, e37, e38, e39, e40, e41, e42, e43, e44, e45, e46, e47, e48, e49, e50, e51, e52, e53, e54, e55, e56, e57, e58, e59, e60, e61, e62, e63]
    clear e0 e1 e2 e3 e4 e6 e7 e29 e30 e31 e32 e33 e34 e35 e36 e37 e38 e39 e40 e41 e42 e43 e44 e45 e46 e47 e48 e49 e50 e51 e52 e53 e54 e55 e56 e57 e58 e59 e60 e61 e62 e63 hde
    generalize a.eval (.tmp 8) = x8
    generalize a.eval (.tmp 9) = x9
    generalize a.eval (.tmp 10) = x10
    generalize a.eval (.tmp 11) = x11
    generalize a.eval (.tmp 12) = x12
    generalize a.eval (.tmp 13) = x13
    generalize a.eval (.tmp 14) = x14
    generalize a.eval (.tmp 15) = x15
    generalize a.eval (.tmp 16) = x16
    generalize a.eval (.tmp 17) = x17
    generalize a.eval (.tmp 18) = x18
    generalize a.eval (.tmp 19) = x19
    generalize a.eval (.tmp 20) = x20
    generalize a.eval (.tmp 21) = x21
    generalize a.eval (.tmp 22) = x22
    generalize a.eval (.tmp 23) = x23
    generalize a.eval (.tmp 24) = x24
    generalize a.eval (.tmp 25) = x25
    generalize a.eval (.tmp 26) = x26
    generalize a.eval (.tmp 27) = x27
    generalize a.eval (.tmp 28) = x28
    clear hK v5 a
    have hx2 := (hU.block _ (by omega)).trans hx0
    have hx3 := (hU.block _ (by omega)).trans hx1
    have hr1 := (hU.block R (by have := HW.out.2.2.1; omega)).trans hr0
    have hbw1 : Below w0.heap.size w0 W1 := hbw0.trans (hU.mono hbw0.size)
    have hsU := hU.size
    have hb1 : Below w.heap.size w W1 := hb0.trans (hU.mono (by omega))
    have hl5 := (Array.getElem?_eq_some_iff.1 hh5).1
    have H1 := Lib.hid (And.intro hx2 (And.intro hx3 (And.intro hr1 (And.intro hbw1 (And.intro hb1 (And.intro hh5 hkv))))))
    have HS := Lib.hid (And.intro hs0 (And.intro hsU (And.intro hb5 (And.intro hl5 (And.intro HW.out.2.2.1 hR)))))
    clear hx0 hx1 hx2 hx3 hr0 hr1 hbw0 hbw1 hb0 hb1 hs0 hsU hb5 hl5 hh5 hkv hU HW hR
    obtain ⟨i0, hi, hz1, hz2, hz3⟩ : ∃ i0 : TypeInfo, Try.prog.info? 26 = some i0 ∧ i0.zero = some (.agg #[.int .i64 0, .int .i64 0, .int .u64 0, .string ⟨#[]⟩, .slice none 0 0, .slice none 0 0]) ∧ i0.size = 6 ∧ i0.bytes = 88 := by
      cases h : Try.prog.info? 26 with
      | none => have := info26f; rw [h] at this; cases this
      | some i0 =>
        have := info26f
        rw [h] at this
        simp only [Option.map_some, Option.some.injEq, Prod.mk.injEq] at this
        exact ⟨i0, rfl, this.1, this.2.1, this.2.2⟩
    replace hi := Lib.hid hi
    replace hz1 := Lib.hid hz1
    replace hz2 := Lib.hid hz2
    replace hz3 := Lib.hid hz3
    go_wp2
    go_loopw [6, 7] (fun v i wr => ∃ (j q' : Nat) (ks : List NT), j ≤ kids.length ∧ i = .int .i64 (j : Int) ∧ CutInv (ptL kids) q j q' (ptL ks) ∧ Kids W1.heap.size wr v ks ∧ KSmL ks ∧ W1.grownBy wr (some R) ∧ wr.heap[R]? = some (.cells #[.int .i64 (q' : Int), .int .i64 60] 58 (0, 0))) (fun _ i _ => kids.length - (intOf i).toNat)
    case atStart => exact ⟨0, q, [], by omega, rfl, by rw [ptL]; exact CutInv.start _ _, ⟨World.ownsRow_nil _ _ _ _, by rw [IsL]; trivial, by rw [FrL]; trivial, fun g _ => by rw [OffL]; trivial⟩, by rw [KSmL]; trivial, grown_up (Below.refl _ _), H1.out.2.2.1⟩
    case round =>
      obtain ⟨j, q', ks, hj, rfl, hinv, hkd, hks, hg, hr⟩ := hrel
      obtain ⟨VA, vc, hv, _, _⟩ := own_split hkd.own
      subst hv
      have hlen := hinv.2.2
      rw [ptL_len] at hlen
      obtain ⟨hs0, hsU, hb5, hl5, hRw, hR0⟩ := HS.out
      have hRx : R < W1.heap.size := by omega
      have hbr : Below w0.heap.size w0 wr := H1.out.2.2.2.1.grown hg H1.out.2.2.2.1.size (fun i e => by injection e with e; omega)
      have hxr := (hg.block w.heap.size (by omega) (fun e => by injection e with e; omega)).trans H1.out.1
      have x5 : wr.cell? ⟨w.heap.size, 5, none⟩ = some (.slice B kids.length d) := (cell_of_row wr w.heap.size 5 _ _ _ hxr).trans rfl
      have r0 : wr.cell? ⟨R, 0, none⟩ = some (.int .i64 (q' : Int)) := (cell_of_row wr R 0 _ _ _ hr).trans rfl
      have fr0 := frozen_of_row wr R 0 _ _ hr
      have x5v := fun (v : Value) => (Below.heap_setCell wr ⟨R, 0, none⟩ v w.heap.size (by show w.heap.size ≠ R; omega)).trans hxr
      have x5w : ∀ v : Value, (wr.setCell ⟨R, 0, none⟩ v).cell? ⟨w.heap.size, 5, none⟩ = some (.slice B kids.length d) := fun v => (cell_of_row (wr.setCell ⟨R, 0, none⟩ v) w.heap.size 5 _ _ _ (x5v v)).trans rfl
      have HR := Lib.hid (And.intro hg (And.intro hr (And.intro hbr hRx)))
      have HINV := Lib.hid (And.intro hinv (And.intro hkd hks))
      have HSS := Lib.hid (And.intro hs0 (And.intro hsU (And.intro hb5 (And.intro hl5 (And.intro hRw hR0)))))
      clear hxr hg hr hbr x5v hinv hkd hks hs0 hsU hb5 hl5 hRw hR0 hRx
      have hway : (j < kids.length ∧ 0 < q') ∨ (j = kids.length ∨ (j < kids.length ∧ q' = 0)) := by omega
      rcases hway with ⟨hlt, hq0⟩ | hstop
      · obtain ⟨p, rfl⟩ : ∃ p, q' = p + 1 := ⟨q' - 1, by omega⟩
        obtain ⟨b, o, hA, _⟩ := HI.out.2.2.2.2.1.at (by omega)
        subst hA
        obtain ⟨t, ht⟩ : ∃ t, kids[j]? = some t := ⟨_, List.getElem?_eq_getElem hlt⟩
        have hgt : kids[j]'hlt = t := by rw [List.getElem?_eq_getElem hlt] at ht; injection ht
        have hmem : t ∈ kids := hgt ▸ List.getElem_mem hlt
        have hptj : (ptL kids)[j]? = some t.pt := by rw [ptL_map, List.getElem?_map, ht]; rfl
        have hit0 := innL_mem HI.out.2.2.2.2.2 _ hmem
        have hbA : ∀ v : Value, Below w0.heap.size w0 (wr.setCell ⟨R, 0, none⟩ v) := fun v => HR.out.2.2.1.setCell (p := ⟨R, 0, none⟩) HSS.out.2.2.2.2.2 v
        have hrA : ∀ v : Value, (wr.setCell ⟨R, 0, none⟩ v).heap[R]? = some (.cells #[v, .int .i64 60] 58 (0, 0)) := fun v => heap_setCell_same wr R 0 _ _ v HR.out.2.1
        have hcall := fun (v : Value) (hv : v = .int .i64 (p : Int)) => HIH.out t hmem (wr.setCell ⟨R, 0, none⟩ v) p R hit0 (hbA v) HSS.out.2.2.2.2.2 ((hrA v).trans (by rw [hv])) (by omega)
        have hgA : ∀ v : Value, wr.grownBy (wr.setCell ⟨R, 0, none⟩ v) (some R) := fun v => set_grown wr R 0 v
        have hstep := HINV.out.1.step hptj
        obtain ⟨k', n', u', s', kv'', ks', lv', l'⟩ := t
        have hIt0 := hit0
        rw [Inn] at hIt0
        obtain ⟨_, ⟨A2, c2, rfl, _⟩, ⟨B2, d2, rfl, _⟩, _⟩ := hIt0
        have hcc := fun (v : Value) => node_at6 (HI.out.2.2.2.2.1.below (hbA v)) ht
        have c0 := fun v => (hcc v).1
        have c1 := fun v => (hcc v).2.1
        have c2' := fun v => (hcc v).2.2.1
        have c3 := fun v => (hcc v).2.2.2.1
        have c4 := fun v => (hcc v).2.2.2.2.1
        have c5 := fun v => (hcc v).2.2.2.2.2
        rw [val_mk] at hcall
        obtain ⟨TP, hTP⟩ : ∃ TP, (NT.mk k' n' u' s' (.slice A2 ks'.length c2) ks' (.slice B2 l'.length d2) l').pt = TP := ⟨_, rfl⟩
        rw [hTP] at hcall hstep
        have HC := Lib.hid hcall
        have HST := Lib.hid hstep
        have HGA := Lib.hid hgA
        clear hcall hstep hgA hcc hbA hrA hit0 hptj hmem hgt ht hTP
        have hjl : (j : Int) < (kids.length : Int) := by omega
        have hp0 : (0 : Int) < ((p + 1 : Nat) : Int) := by omega
        have hp1 : ((p + 1 : Nat) : Int) ≤ 1000 := by omega
        go_wp2_with (first
          | (go_at_call 34; refine (HC.out _ rfl).mono ?_; rintro e w3 ⟨⟨t', rfl, ht'1, ht'2, ht'4, ht'3⟩, hr3, hg3⟩; have hkd3 := (HINV.out.2.1.grown (HGA.out (.int .i64 (p : Int))) HR.out.2.2.2).grown hg3 HR.out.2.2.2; obtain ⟨k3, n3, u3, s3, kv3, ks3, lv3, l3⟩ := t'; have hI3 := ht'2; rw [Is] at hI3; obtain ⟨_, ⟨A3, cc3, rfl, _⟩, ⟨B3, d3, rfl, _⟩, _⟩ := hI3; rw [val_mk]; have HT := Lib.hid (And.intro ht'1 (And.intro ht'2 (And.intro ht'3 (And.intro ht'4 (And.intro hr3 (And.intro hg3 hkd3)))))); clear ht'1 ht'2 ht'3 ht'4 hr3 hg3 hkd3 c0 c1 c2' c3 c4 c5)
          | (at_builtin; refine wpList_append_where rfl _ (.tmp 51) (.tmp 59) 24 rfl W1.heap.size 26 i0 (.agg #[.int .i64 0, .int .i64 0, .int .u64 0, .string ⟨#[]⟩, .slice none 0 0, .slice none 0 0]) 6 88 Try.underlying24 hi.out hz1.out hz2.out hz3.out rfl (by decide) _ ks.length (ks.flatMap NT.cells) rfl (HT.out.2.2.2.2.2.2.own.alloc _) (some ⟨w3.heap.size, 0, none⟩) 1 1 (by decide) (NT.mk k3 n3 u3 s3 (.slice A3 ks3.length cc3) ks3 (.slice B3 l3.length d3) l3).cells rfl (rd6 w3 _ rfl) (cells6 _ _ HT.out.2.1) (by unfold maxLen; omega) (by omega) (by have h1 := HR.out.1.size; have h3 := HT.out.2.2.2.2.2.1.size; simp [World.setCell] at h3 ⊢; omega) ?_; intro v' w5 hown5 hg5 hwh5))
        obtain ⟨q1, q2, q3, q4, q5, q6, q7⟩ := HT.out
        have hs1 := HR.out.1.size
        have hs3 : wr.heap.size ≤ w3.heap.size := Nat.le_trans (HGA.out (.int .i64 (p : Int))).size q6.size
        have hRlt := HR.out.2.2.2
        have hbw4 := (Below.refl w3.heap.size w3).alloc (Nat.le_refl _) (.cells #[.int .i64 k3, .int .i64 n3, .int .u64 u3, .string ⟨s3.toArray⟩, .slice A3 ks3.length cc3, .slice B3 l3.length d3] 26)
        have hkd4 := q7.below hbw4
        have hsw : (wr.setCell ⟨R, 0, none⟩ (.int .i64 (p : Int))).heap.size = wr.heap.size := by simp [World.setCell]
        have hoff : ∀ g, (Value.slice VA ks.length vc).ownBlock = some g → Off g (NT.mk k3 n3 u3 s3 (.slice A3 ks3.length cc3) ks3 (.slice B3 l3.length d3) l3) := fun g hv => Fr.off (by rw [hsw]; exact (HINV.out.2.1.own.lt g hv).2) q3
        have hnext := hkd4.next (q2.below hbw4) ((q3.mono (by rw [hsw]; exact hs1)).below hbw4) hoff hown5 hg5 hwh5
        have hgr : W1.grownBy w5 (some R) := by
          have h4 : W1.grownBy (w3.alloc (.cells #[.int .i64 k3, .int .i64 n3, .int .u64 u3, .string ⟨s3.toArray⟩, .slice A3 ks3.length cc3, .slice B3 l3.length d3] 26)) (some R) := grown_trans (grown_trans (grown_trans HR.out.1 (HGA.out _)) q6) (grown_up hbw4)
          refine ⟨hg5.os.trans h4.os, hg5.tape.trans h4.tape, hg5.output.trans h4.output, Nat.le_trans h4.size hg5.size, fun i hi hr => (hg5.block i (Nat.lt_of_lt_of_le hi h4.size) (fun e => ?_)).trans (h4.block i hi hr)⟩
          have := (hkd4.own.lt i e.symm).1
          omega
        have hr5 : w5.heap[R]? = some (.cells #[.int .i64 ((cutP TP p).2 : Int), .int .i64 60] 58 (0, 0)) := by
          refine (hg5.block R (by have := hbw4.size; omega) (fun e => ?_)).trans ((hbw4.block R (by omega)).trans q5)
          have := (hkd4.own.lt R e.symm).1
          omega
        have HN := Lib.hid (And.intro hnext (And.intro hgr (And.intro hr5 (And.intro q1 q4))))
        clear hnext hgr hr5 hoff hkd4 hbw4 hown5 hg5 hwh5 q1 q2 q3 q4 q5 q6 q7 hs1 hs3 hRlt hsw
        go_roundw
        case rel => exact ⟨j + 1, (cutP TP p).2, ks ++ [_], by omega, by simp, by rw [ptL_snoc, HN.out.2.2.2.1]; exact HST.out, HN.out.1, ksmL_append HINV.out.2.2 (by rw [KSmL, KSmL]; exact ⟨HN.out.2.2.2.2, trivial⟩), HN.out.2.1, HN.out.2.2.1⟩
        case measure => simp [intOf]; omega
      · have HFI := Lib.hid (show cutL (ptL kids) q = (ptL ks, q') by
          rcases hstop with rfl | ⟨_, rfl⟩
          · have h := HINV.out.1
            rw [← ptL_len kids] at h
            exact h.all
          · exact HINV.out.1.none)
        have hlq := hlen
        obtain ⟨A', c', hkv', hkr, hkf⟩ := H1.out.2.2.2.2.2.2
        subst hkv'
        have hle5 := HSS.out.2.2.1
        have hle0 := HSS.out.1
        have hRw := HSS.out.2.2.2.2.1
        have hl5 := HSS.out.2.2.2.1
        have hgr := HR.out.1
        have hy0 := (hgr.block b5 hl5 (fun e => by injection e with e; omega)).trans H1.out.2.2.2.2.2.1
        have hy1 := (hgr.block (w.heap.size + 1) (by omega) (fun e => by injection e with e; omega)).trans H1.out.2.1
        have fz5 := frozen_of_row wr b5 5 _ _ hy0
        have cc5 : wr.cell? ⟨b5, 5, none⟩ = some (.slice none 0 0) := (cell_of_row wr b5 5 _ _ _ hy0).trans rfl
        have hz0 := heap_setCell_same wr b5 5 _ _ (.slice VA ks.length vc) hy0
        obtain ⟨W3, hW3⟩ : ∃ W3, wr.setCell ⟨b5, 5, none⟩ (.slice VA ks.length vc) = W3 := ⟨_, rfl⟩
        have hz1' : W3.heap[b5]? = some (.cells #[.int .i64 k, .int .i64 n, .int .u64 u, .string ⟨(s.take 60).toArray⟩, .slice A' (cutK keys).length c', .slice VA ks.length vc] 26 (0, 0)) := by rw [← hW3]; exact hz0
        obtain ⟨a0, a1, a2, a3, a4, a5⟩ := sixC hz1'
        have hy2 : W3.heap[w.heap.size + 1]? = some (.cells #[.int .i64 0, .int .i64 0, .int .u64 0, .string ⟨#[]⟩, .slice none 0 0, .slice none 0 0] 26 (0, 0)) := by rw [← hW3]; exact (Below.heap_setCell wr ⟨b5, 5, none⟩ _ _ (by show w.heap.size + 1 ≠ b5; omega)).trans hy1
        have g0 := frozen_of_row W3 (w.heap.size + 1) 0 _ _ hy2
        have g1 := frozen_of_row W3 (w.heap.size + 1) 1 _ _ hy2
        have g2 := frozen_of_row W3 (w.heap.size + 1) 2 _ _ hy2
        have g3 := frozen_of_row W3 (w.heap.size + 1) 3 _ _ hy2
        have g4 := frozen_of_row W3 (w.heap.size + 1) 4 _ _ hy2
        have g5 := frozen_of_row W3 (w.heap.size + 1) 5 _ _ hy2
        obtain ⟨b0, b1, b2, b3, b4, b5'⟩ := sixC (s := []) hy2
        have hgA : wr.grownBy W3 (some b5) := by rw [← hW3]; exact set_grown _ _ _ _
        have hkvr : KeysAt W0.heap.size wr (.slice A' (cutK keys).length c') (cutK keys) := KeysAt.grown ⟨A', c', rfl, hkr, hkf⟩ hgr (by omega)
        have hkv3 := hkvr.store hgA hy0
        have hrr : W3.heap[R]? = some (.cells #[.int .i64 (q' : Int), .int .i64 60] 58 (0, 0)) := (hgA.block R (by have := hgr.size; omega) (fun e => by injection e with e; omega)).trans HR.out.2.1
        have HY := Lib.hid (And.intro hz1' (And.intro hy2 (And.intro hgA (And.intro hkv3 hrr))))
        clear hz0 hz1' hy0 hy1 hy2 hkr hkf hgA hkvr hkv3 hrr hgr x5w
        rcases hstop with rfl | ⟨hlt, rfl⟩
        all_goals
          go_wp2
          obtain ⟨hz6, hg6⟩ := six_set HY.out.2.1 (.int .i64 k) (.int .i64 n) (.int .u64 u) (.string ⟨(s.take 60).toArray⟩) (.slice A' (cutK keys).length c') (.slice VA ks.length vc)
          obtain ⟨W6, hW6⟩ : ∃ W6, (((((W3.setCell ⟨w.heap.size + 1, 0, none⟩ (.int .i64 k)).setCell ⟨w.heap.size + 1, 1, none⟩ (.int .i64 n)).setCell ⟨w.heap.size + 1, 2, none⟩ (.int .u64 u)).setCell ⟨w.heap.size + 1, 3, none⟩ (.string ⟨(s.take 60).toArray⟩)).setCell ⟨w.heap.size + 1, 4, none⟩ (.slice A' (cutK keys).length c')).setCell ⟨w.heap.size + 1, 5, none⟩ (.slice VA ks.length vc) = W6 := ⟨_, rfl⟩
          rw [hW6] at hz6 hg6 ⊢
          clear hW6
          (try simp only [Exit.inBlock, Exit.then])
          refine bodyPost_ret (results_cell_row rfl _ _ (w.heap.size + 1) 26 _ (0, 0) _ rfl hz6 Try.underlying26 rfl info26) rfl ?_
          obtain ⟨hinv, hkd, hks⟩ := HINV.out
          obtain ⟨_, _, hgA, hkv3, hrr⟩ := HY.out
          have hgr := HR.out.1
          have hkd3 := hkd.grown hgA hl5
          have hkd6 := hkd3.grown hg6 (by omega)
          have hkv6 := hkv3.grown hg6 (by omega)
          have hr6 : W6.heap[R]? = some (.cells #[.int .i64 ((cutL (ptL kids) q).2 : Int), .int .i64 60] 58 (0, 0)) := by
            rw [HFI.out]
            exact (hg6.block R (Array.getElem?_eq_some_iff.1 hrr).1 (fun e => by injection e with e; omega)).trans hrr
          have hfin : w.grownBy W6 (some R) := grown_new (grown_new (grown_same (grown_up H1.out.2.2.2.2.1) hgr) hgA (by omega)) hg6 (by omega)
          have hkl : ks.length ≤ 1000 := by omega
          refine ⟨⟨.mk k n u (s.take 60) (.slice A' (cutK keys).length c') (cutK keys) (.slice VA ks.length vc) ks, rfl, ?_, ?_, ?_, ?_⟩, ?_, hfin⟩
          · rw [NT.pt, NT.pt, cutP, HFI.out]
          · rw [Is]
            obtain ⟨w1, w2, w3, _, _⟩ := HI.out.1
            refine ⟨⟨w1, w2, w3, by rw [List.length_take]; omega, cutK_small keys⟩, ⟨A', c', rfl, by have := cutK_len keys; omega, ?_⟩, ⟨VA, vc, rfl, by omega, Rd.of_own hkd6.own⟩, hkd6.is⟩
            obtain ⟨A3, c3, e3, r3, _⟩ := hkv6
            injection e3 with e3 _ _
            subst e3
            exact r3
          · rw [KSm]
            exact ⟨by have := cutK_len keys; omega, by omega, hks⟩
          · rw [Fr]
            refine ⟨fun h0 => ?_, fun h0 => ?_, FrL.mono (by omega) hkd6.fr⟩
            · obtain ⟨A3, c3, e3, _, f3⟩ := hkv6
              obtain ⟨b, m, c4, cs, e4, e5, e6⟩ := f3 h0
              exact ⟨b, m, c4, cs, 9, e4, by omega, e6⟩
            · obtain ⟨_, _, e3, _, f3⟩ := own_split hkd6.own
              obtain ⟨b, m, c4, cs, T, e4, e5, e6⟩ := f3 h0
              exact ⟨b, m, c4, cs, T, e4, by omega, e6⟩
          · rw [NT.pt, cutP]
            exact hr6
end Go.Proofs.Yteoggaioleckhaa
