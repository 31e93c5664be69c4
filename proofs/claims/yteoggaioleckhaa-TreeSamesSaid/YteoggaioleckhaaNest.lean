import Derived.Test.YteoggaioleckhaaCopy
/- The statements' nest. -/
set_option linter.unusedVariables false
set_option linter.unusedSimpArgs false
namespace Go.Proofs.Yteoggaioleckhaa
open Go.RowKit
def nestP : Nat → PT
  | 0 => .mk 10 0 0 [] [] []
  | n + 1 => .mk 10 0 0 [] [] [nestP n]
theorem wf0 : (Lit.int .i64 0).wf = true ∧ (Lit.int .i64 10).wf = true ∧ (Lit.int .u64 0).wf = true := by decide
theorem is_vec {w : World} {A : Option Addr} {c : Nat} {l : List NT} (hr : Rd w 6 A l.length (l.flatMap NT.cells)) (hn : l.length ≤ 140737488355328) (hl : IsL w l) : Is w (vecT (.slice A l.length c) l) := by
  unfold vecT
  rw [Is]
  exact ⟨⟨by decide, by decide, by decide, by simp, by simp⟩, ⟨none, 0, rfl, by simp, Rd.none_ _ _ _⟩, ⟨A, c, rfl, hn, hr⟩, hl⟩
theorem fr_vec {B : Nat} {w : World} {A : Option Addr} {n c : Nat} {l : List NT} (h : 0 < l.length → ∃ b m c' cs T, Value.slice A n c = .slice (some ⟨b, 0, none⟩) m c' ∧ B ≤ b ∧ w.heap[b]? = some (.cells cs T (0, 0))) (hl : FrL B w l) : Fr B w (vecT (.slice A n c) l) := by
  unfold vecT
  rw [Fr]
  exact ⟨fun h => by simp at h, h, hl⟩
theorem ksm_vec {v : Value} {l : List NT} (h : l.length ≤ 1000000) (hl : KSmL l) : KSm (vecT v l) := by
  unfold vecT
  rw [KSm]
  exact ⟨by simp, h, hl⟩
set_option maxRecDepth 100000 in
set_option maxHeartbeats 2000000 in
theorem nest_any (n : Nat) (hn : n ≤ 1000) (w : World) : Calls Try.prog 13 #[.int .i64 (n : Int)] w fun e w' => (∃ t, e = .returned t.val ∧ t.pt = nestP (n - 1) ∧ Is w' t ∧ KSm t ∧ Fr w.heap.size w' t) ∧ Below w.heap.size w w' := by
  have cV := fun (A : Option Addr) (m c : Nat) (l : List NT) w => vec_any A m c l w
  have hnz : (n : Int) ≤ 1000 := by omega
  go_enter Try.func13, Try.ntmps13
  go_wp2_with (go_at_call 16; refine (cV _ _ _ [] _).mono ?_; rintro e w1 ⟨rfl, hb1⟩; unfold vecT; rw [val_mk])
  have hs1 := hb1.size
  rw [World.size_alloc] at hs1
  have hres : (w1.alloc (.cells #[.int .i64 10, .int .i64 0, .int .u64 0, .string ⟨#[]⟩, .slice none 0 0, .slice none 0 0] 26)).heap[w.heap.size]? = some (.cells #[.int .i64 0, .int .i64 0, .int .u64 0, .string ⟨#[]⟩, .slice none 0 0, .slice none 0 0] 26 (0, 0)) := (Below.heap_alloc w1 _ _ (by omega)).trans ((hb1.block _ (by simp)).trans (heap_alloc_new w _))
  have hbox := heap_alloc_new w1 (.cells #[.int .i64 10, .int .i64 0, .int .u64 0, .string ⟨#[]⟩, .slice none 0 0, .slice none 0 0] 26)
  have hbel : Below w.heap.size w (w1.alloc (.cells #[.int .i64 10, .int .i64 0, .int .u64 0, .string ⟨#[]⟩, .slice none 0 0, .slice none 0 0] 26)) := (((Below.refl _ w).alloc (Nat.le_refl _) _).trans (hb1.mono (by simp))).alloc (by omega) _
  have HS := Lib.hid (And.intro hres (And.intro hbox (And.intro hbel (show (w1.alloc (.cells #[.int .i64 10, .int .i64 0, .int .u64 0, .string ⟨#[]⟩, .slice none 0 0, .slice none 0 0] 26)).heap.size = w1.heap.size + 1 by simp))))
  have HS1 := Lib.hid hs1
  clear hres hbox hbel hb1 hs1
  obtain ⟨b1, hb1⟩ : ∃ b1, w1.heap.size = b1 := ⟨_, rfl⟩
  rw [hb1] at HS1 HS ⊢
  generalize w1.alloc (.cells #[.int .i64 10, .int .i64 0, .int .u64 0, .string ⟨#[]⟩, .slice none 0 0, .slice none 0 0] 26) = W1 at HS ⊢
  clear hb1
  go_loopw [4] (fun i wr => ∃ (j : Nat) (T : NT), 1 ≤ j ∧ (j ≤ n ∨ j = 1) ∧ i = .int .i64 (j : Int) ∧ T.pt = nestP (j - 1) ∧ Is wr T ∧ KSm T ∧ Fr (b1 + 1) wr T ∧ wr.heap[b1]? = some (.cells T.cells.toArray 26 (0, 0)) ∧ wr.heap[w.heap.size]? = some (.cells #[.int .i64 0, .int .i64 0, .int .u64 0, .string ⟨#[]⟩, .slice none 0 0, .slice none 0 0] 26 (0, 0)) ∧ Below w.heap.size w wr ∧ b1 < wr.heap.size) (fun i _ => n - (intOf i).toNat)
  case atStart => exact ⟨1, vecT (.slice none 0 0) [], by omega, by omega, rfl, rfl, is_vec (l := []) (Rd.none_ _ _ _) (by simp) (by rw [IsL]; trivial), ksm_vec (by simp) (by rw [KSmL]; trivial), fr_vec (fun h => by simp at h) (by rw [FrL]; trivial), HS.out.2.1, HS.out.1, HS.out.2.2.1, by have := HS.out.2.2.2; omega⟩
  case round =>
    obtain ⟨j, T, hj1, hjn, rfl, hpt, hI, hK, hF, hbx, hrs, hbw, hbl⟩ := hrel
    have hI0 := hI
    obtain ⟨k, nn, u, s, kv, keys, lv, l⟩ := T
    rw [Is] at hI0
    obtain ⟨_, ⟨A, c, rfl, _⟩, ⟨B, d, rfl, _⟩, _⟩ := hI0
    obtain ⟨a0, a1, a2, a3, a4, a5⟩ := sixC (show wr.heap[b1]? = some (.cells #[.int .i64 k, .int .i64 nn, .int .u64 u, .string ⟨s.toArray⟩, .slice A keys.length c, .slice B l.length d] 26 (0, 0)) from hbx)
    have HA := Lib.hid (And.intro hpt (And.intro hI (And.intro hK (And.intro hF (And.intro hbx (And.intro hrs (And.intro hbw hbl)))))))
    have hjz : (j : Int) ≤ 1000 := by omega
    have hj1z : (1 : Int) ≤ (j : Int) := by omega
    have HS1' := HS1
    by_cases hlt : j < n
    · clear hpt hI hK hF hbx hrs hbw hbl HS
      go_wp2_with (go_at_call 16; refine (cV _ _ _ [.mk k nn u s (.slice A keys.length c) keys (.slice B l.length d) l] _).mono ?_; rintro e w3 ⟨rfl, hb3⟩; unfold vecT; rw [val_mk]; have hy := (hb3.block b1 (by have := HA.out.2.2.2.2.2.2.2; simp; omega)).trans ((Below.heap_alloc wr _ _ HA.out.2.2.2.2.2.2.2).trans HA.out.2.2.2.2.1); have g0 := frozen_of_row w3 b1 0 _ _ hy; have g1 := frozen_of_row w3 b1 1 _ _ hy; have g2 := frozen_of_row w3 b1 2 _ _ hy; have g3 := frozen_of_row w3 b1 3 _ _ hy; have g4 := frozen_of_row w3 b1 4 _ _ hy; have g5 := frozen_of_row w3 b1 5 _ _ hy; obtain ⟨e0, e1, e2, e3, e4, e5⟩ := sixC (show w3.heap[b1]? = some (.cells #[.int .i64 k, .int .i64 nn, .int .u64 u, .string ⟨s.toArray⟩, .slice A keys.length c, .slice B l.length d] 26 (0, 0)) from hy); replace hy := Lib.hid hy)
      obtain ⟨hpt, hI, hK, hF, hbx, hrs, hbw, hbl⟩ := HA.out
      obtain ⟨h9, hg9⟩ := six_set hy.out (.int .i64 10) (.int .i64 0) (.int .u64 0) (.string ⟨#[]⟩) (.slice none 0 0) (.slice (some ⟨wr.heap.size, 0, none⟩) 1 1)
      obtain ⟨W9, hW9⟩ : ∃ W9, (((((w3.setCell ⟨b1, 0, none⟩ (.int .i64 10)).setCell ⟨b1, 1, none⟩ (.int .i64 0)).setCell ⟨b1, 2, none⟩ (.int .u64 0)).setCell ⟨b1, 3, none⟩ (.string ⟨#[]⟩)).setCell ⟨b1, 4, none⟩ (.slice none 0 0)).setCell ⟨b1, 5, none⟩ (.slice (some ⟨wr.heap.size, 0, none⟩) 1 1) = W9 := ⟨_, rfl⟩
      rw [hW9] at h9 hg9 ⊢
      have hIa := hI.alloc (.cells #[.int .i64 k, .int .i64 nn, .int .u64 u, .string ⟨s.toArray⟩, .slice A keys.length c, .slice B l.length d] 26)
      have hbA : Below wr.heap.size wr (wr.alloc (.cells #[.int .i64 k, .int .i64 nn, .int .u64 u, .string ⟨s.toArray⟩, .slice A keys.length c, .slice B l.length d] 26)) := (Below.refl _ _).alloc (Nat.le_refl _) _
      have hbB : Below wr.heap.size wr w3 := hbA.trans (hb3.mono (by simp))
      have hrA : Rd (wr.alloc (.cells #[.int .i64 k, .int .i64 nn, .int .u64 u, .string ⟨s.toArray⟩, .slice A keys.length c, .slice B l.length d] 26)) 6 (some ⟨wr.heap.size, 0, none⟩) 1 ([NT.mk k nn u s (.slice A keys.length c) keys (.slice B l.length d) l].flatMap NT.cells) := rd6 wr (NT.mk k nn u s (.slice A keys.length c) keys (.slice B l.length d) l).cells rfl
      have hT' := is_vec (c := 1) hrA (by simp) (isL_one hIa)
      have hF' : Fr (b1 + 1) (wr.alloc (.cells #[.int .i64 k, .int .i64 nn, .int .u64 u, .string ⟨s.toArray⟩, .slice A keys.length c, .slice B l.length d] 26)) (vecT (.slice (some ⟨wr.heap.size, 0, none⟩) 1 1) [NT.mk k nn u s (.slice A keys.length c) keys (.slice B l.length d) l]) := fr_vec (fun _ => ⟨wr.heap.size, 1, 1, _, 26, rfl, hbl, heap_alloc_new wr _⟩) (frL_one (hF.below hbA))
      have hoff : ∀ g, some b1 = some g → Off g (vecT (.slice (some ⟨wr.heap.size, 0, none⟩) 1 1) [NT.mk k nn u s (.slice A keys.length c) keys (.slice B l.length d) l]) := fun g e => by injection e with e; subst e; exact Fr.off (by omega) hF'
      have hs9 := hg9.size
      have hs3 := hbB.size
      have hs1 := HS1.out
      have HN := Lib.hid (And.intro ((hT'.below hb3).grown hg9 hoff) (And.intro ((hF'.below hb3).kept hg9 hoff) (And.intro h9 (And.intro ((hg9.block w.heap.size (by omega) (fun e => by injection e with e; omega)).trans ((hbB.block w.heap.size (by omega)).trans hrs)) ((hbw.trans (hbB.mono (by omega))).grown hg9 (by omega) (fun i e => by injection e with e; omega))))))
      clear h9 hg9 hW9 hIa hbA hrA hT' hF' hoff hI hK hF hbx hrs hbw
      go_roundw
      case rel => exact ⟨j + 1, vecT (.slice (some ⟨wr.heap.size, 0, none⟩) 1 1) [NT.mk k nn u s (.slice A keys.length c) keys (.slice B l.length d) l], by omega, by omega, by simp, by
        obtain ⟨j', rfl⟩ : ∃ j', j = j' + 1 := ⟨j - 1, by omega⟩
        unfold vecT
        rw [NT.pt, ptL, ptL, hpt]
        rfl, HN.out.1, ksm_vec (by simp) (by rw [KSmL, KSmL]; exact ⟨HA.out.2.2.1, trivial⟩), HN.out.2.1, HN.out.2.2.1, HN.out.2.2.2.1, HN.out.2.2.2.2, by omega⟩
      case measure => simp [intOf]; omega
    · have hr := Lib.hid (And.intro hrs hbw)
      have g0 := frozen_of_row wr w.heap.size 0 _ _ hrs
      have g1 := frozen_of_row wr w.heap.size 1 _ _ hrs
      have g2 := frozen_of_row wr w.heap.size 2 _ _ hrs
      have g3 := frozen_of_row wr w.heap.size 3 _ _ hrs
      have g4 := frozen_of_row wr w.heap.size 4 _ _ hrs
      have g5 := frozen_of_row wr w.heap.size 5 _ _ hrs
      obtain ⟨e0, e1, e2, e3, e4, e5⟩ := sixC (s := []) hrs
      have hjn2 : n - 1 = j - 1 := by omega
      have HJ := Lib.hid hjn2
      clear hpt hI hK hF hbx hrs hbw hbl HS hjn2
      go_wp2
      obtain ⟨hpt, hI, hK, hF, hbx, hrs, hbw, hbl⟩ := HA.out
      obtain ⟨h9, hg9⟩ := six_set hrs (.int .i64 k) (.int .i64 nn) (.int .u64 u) (.string ⟨s.toArray⟩) (.slice A keys.length c) (.slice B l.length d)
      (try simp only [Exit.inBlock, Exit.then]); refine bodyPost_ret (results_cell_row rfl _ _ w.heap.size 26 _ (0, 0) _ rfl h9 Try.underlying26 rfl info26) rfl ?_
      have hoff : ∀ g, some w.heap.size = some g → Off g (NT.mk k nn u s (.slice A keys.length c) keys (.slice B l.length d) l) := fun g e => by injection e with e; subst e; exact Fr.off (by have := HS1.out; omega) hF
      have hs1 := HS1.out
      refine ⟨⟨_, rfl, by rw [hpt, HJ.out], hI.grown hg9 hoff, hK, Fr.mono (by omega) (hF.kept hg9 hoff)⟩, hbw.grown hg9 (by omega) (fun i e => by injection e with e; omega)⟩
end Go.Proofs.Yteoggaioleckhaa
