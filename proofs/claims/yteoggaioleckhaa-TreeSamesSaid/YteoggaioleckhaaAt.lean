import Derived.Test.YteoggaioleckhaaCheck
import Derived.Test.YteoggaioleckhaaCopy
/- tree.At. -/
set_option linter.unusedVariables false
set_option linter.unusedSimpArgs false
namespace Go.Proofs.Yteoggaioleckhaa
open Go.RowKit Go.Shelf
attribute [local go_sem] Oper.semAt_some
mutual
theorem Fr.off_nc {B g : Nat} {w : World} {o : Obj} (hg : w.heap[g]? = some o) (hc : o.isCells = false) : ∀ {t : NT}, Fr B w t → Off g t
  | .mk k n u s kv keys lv l, h => by
    rw [Fr] at h
    obtain ⟨h1, h2, h3⟩ := h
    rw [Off]
    refine ⟨fun h0 => ?_, fun h0 => ?_, FrL.off_nc hg hc h3⟩
    · obtain ⟨b, m, c, cs, T, rfl, e2, e3⟩ := h1 h0
      intro e; injection e with e; have e : b = g := e; subst e; rw [hg] at e3; injection e3 with e3; subst e3; cases hc
    · obtain ⟨b, m, c, cs, T, rfl, e2, e3⟩ := h2 h0
      intro e; injection e with e; have e : b = g := e; subst e; rw [hg] at e3; injection e3 with e3; subst e3; cases hc
theorem FrL.off_nc {B g : Nat} {w : World} {o : Obj} (hg : w.heap[g]? = some o) (hc : o.isCells = false) : ∀ {l : List NT}, FrL B w l → OffL g l
  | [], _ => by rw [OffL]; trivial
  | t :: l, h => by rw [FrL] at h; rw [OffL]; exact ⟨Fr.off_nc hg hc h.1, FrL.off_nc hg hc h.2⟩
end
/-- The tree handed back. -/
structure Got (B N : Nat) (w : World) (x : NT) : Prop where
  ex : ∃ t', t'.pt = x.pt ∧ Is w t' ∧ Fr B w t' ∧ w.heap[N]? = some (.cells t'.cells.toArray 26 (0, 0))
theorem Got.own {B B' N : Nat} {W W' : World} {row : Option Nat} {x : NT} (h : Got B N W x) (hg : W.grownBy W' row) (hr : ∀ r, row = some r → B' ≤ r ∧ ∃ o : Obj, W.heap[r]? = some o ∧ o.isCells = false) : Got B N W' x := by
  obtain ⟨t', h1, h2, h3, h4⟩ := h.ex
  have ho : ∀ g, row = some g → Off g t' := fun g e => by obtain ⟨_, o, ho, hc⟩ := hr g e; exact h3.off_nc ho hc
  exact ⟨t', h1, h2.grown hg ho, h3.kept hg ho, own_block h4 hg hr⟩
set_option maxRecDepth 100000 in
set_option maxHeartbeats 600000 in
theorem at_any (t : NT) (q : Int) (w : World) (ht : Is w t) (hlen : (preT 0 t).length ≤ 1000000) (hK : KSm t) (hq : (Lit.int .i64 q).wf = true) :
    Calls Try.prog 22 #[t.val, .int .i64 q] w fun e w' => (∃ v b, e = .returned (.tuple #[v, .bool b]) ∧ ((b = true ∧ ∃ (i : Nat) (x : Nat × NT) (t' : NT), (i : Int) = q ∧ (preT 0 t)[i]? = some x ∧ v = t'.val ∧ t'.pt = x.2.pt ∧ Is w' t' ∧ Fr w.heap.size w' t') ∨ (b = false ∧ (q < 0 ∨ ((preT 0 t).length : Int) ≤ q) ∧ v = (NT.mk 0 0 0 [] (.slice none 0 0) [] (.slice none 0 0) []).val))) ∧ Below w.heap.size w w' := by
  obtain ⟨k, nn, u, s, kv, keys, lv, kids⟩ := t
  obtain ⟨T, hT⟩ : ∃ T, NT.mk k nn u s kv keys lv kids = T := ⟨_, rfl⟩
  have hI := ht
  rw [Is] at hI
  obtain ⟨_, ⟨A, c, rfl, _⟩, ⟨B, d, rfl, _⟩, _⟩ := hI
  rw [val_mk]
  have hv : T.cells.toArray = #[.int .i64 k, .int .i64 nn, .int .u64 u, .string ⟨s.toArray⟩, .slice A keys.length c, .slice B kids.length d] := by rw [← hT]; rfl
  rw [hT] at ht hlen hK ⊢
  refine (callsIn_wide (n := 3)).1 ?_
  refine callsIn_of_wp_marks Try.func22 rfl trivial ?_ rfl
  simp only [Try.ntmps22, List.size_toArray, List.length_cons, List.length_nil, Nat.reduceAdd, Nat.reduceSub, Array.replicate_succ, Array.replicate_zero, List.push_toArray, List.append_toArray, List.nil_append, List.cons_append]
  gi_wp2_with ((try refine ⟨trivial, ?_⟩); gi_at_call 24; refine (walked_in Fence.wide _ trivial rfl _ _ _ _ _ _ _).mono ?_; rintro e w' ⟨rfl, rfl⟩)
  have bQ := ((((Boxed.new (w.alloc (.cells #[.int .i64 k, .int .i64 nn, .int .u64 u, .string ⟨s.toArray⟩, .slice A keys.length c, .slice B kids.length d] 26)) 3 (.int .i64 q)).alloc (.cells #[.int .i64 0, .int .i64 0, .int .u64 0, .string ⟨#[]⟩, .slice none 0 0, .slice none 0 0] 26)).alloc (.cells #[.bool false] 4)).alloc (.cells #[.int .i64 0] 3)).alloc (.cells #[.int .i64 k, .int .i64 nn, .int .u64 u, .string ⟨s.toArray⟩, .slice A keys.length c, .slice B kids.length d] 26)
  have bR0 := heap_alloc_new ((w.alloc (.cells #[.int .i64 k, .int .i64 nn, .int .u64 u, .string ⟨s.toArray⟩, .slice A keys.length c, .slice B kids.length d] 26)).alloc (.cells #[.int .i64 q] 3)) (.cells #[.int .i64 0, .int .i64 0, .int .u64 0, .string ⟨#[]⟩, .slice none 0 0, .slice none 0 0] 26)
  have bR := (Below.heap_alloc (((((w.alloc (.cells #[.int .i64 k, .int .i64 nn, .int .u64 u, .string ⟨s.toArray⟩, .slice A keys.length c, .slice B kids.length d] 26)).alloc (.cells #[.int .i64 q] 3)).alloc (.cells #[.int .i64 0, .int .i64 0, .int .u64 0, .string ⟨#[]⟩, .slice none 0 0, .slice none 0 0] 26)).alloc (.cells #[.bool false] 4)).alloc (.cells #[.int .i64 0] 3)) (.cells #[.int .i64 k, .int .i64 nn, .int .u64 u, .string ⟨s.toArray⟩, .slice A keys.length c, .slice B kids.length d] 26) (w.heap.size + 1 + 1) (by simp)).trans ((Below.heap_alloc ((((w.alloc (.cells #[.int .i64 k, .int .i64 nn, .int .u64 u, .string ⟨s.toArray⟩, .slice A keys.length c, .slice B kids.length d] 26)).alloc (.cells #[.int .i64 q] 3)).alloc (.cells #[.int .i64 0, .int .i64 0, .int .u64 0, .string ⟨#[]⟩, .slice none 0 0, .slice none 0 0] 26)).alloc (.cells #[.bool false] 4)) (.cells #[.int .i64 0] 3) (w.heap.size + 1 + 1) (by simp)).trans (Below.heap_alloc (((w.alloc (.cells #[.int .i64 k, .int .i64 nn, .int .u64 u, .string ⟨s.toArray⟩, .slice A keys.length c, .slice B kids.length d] 26)).alloc (.cells #[.int .i64 q] 3)).alloc (.cells #[.int .i64 0, .int .i64 0, .int .u64 0, .string ⟨#[]⟩, .slice none 0 0, .slice none 0 0] 26)) (.cells #[.bool false] 4) (w.heap.size + 1 + 1) (by simp)))
  have bF := ((Boxed.new (((w.alloc (.cells #[.int .i64 k, .int .i64 nn, .int .u64 u, .string ⟨s.toArray⟩, .slice A keys.length c, .slice B kids.length d] 26)).alloc (.cells #[.int .i64 q] 3)).alloc (.cells #[.int .i64 0, .int .i64 0, .int .u64 0, .string ⟨#[]⟩, .slice none 0 0, .slice none 0 0] 26)) 4 (.bool false)).alloc (.cells #[.int .i64 0] 3)).alloc (.cells #[.int .i64 k, .int .i64 nn, .int .u64 u, .string ⟨s.toArray⟩, .slice A keys.length c, .slice B kids.length d] 26)
  have bN := (Boxed.new ((((w.alloc (.cells #[.int .i64 k, .int .i64 nn, .int .u64 u, .string ⟨s.toArray⟩, .slice A keys.length c, .slice B kids.length d] 26)).alloc (.cells #[.int .i64 q] 3)).alloc (.cells #[.int .i64 0, .int .i64 0, .int .u64 0, .string ⟨#[]⟩, .slice none 0 0, .slice none 0 0] 26)).alloc (.cells #[.bool false] 4)) 3 (.int .i64 0)).alloc (.cells #[.int .i64 k, .int .i64 nn, .int .u64 u, .string ⟨s.toArray⟩, .slice A keys.length c, .slice B kids.length d] 26)
  have hbx := heap_alloc_new (((((w.alloc (.cells #[.int .i64 k, .int .i64 nn, .int .u64 u, .string ⟨s.toArray⟩, .slice A keys.length c, .slice B kids.length d] 26)).alloc (.cells #[.int .i64 q] 3)).alloc (.cells #[.int .i64 0, .int .i64 0, .int .u64 0, .string ⟨#[]⟩, .slice none 0 0, .slice none 0 0] 26)).alloc (.cells #[.bool false] 4)).alloc (.cells #[.int .i64 0] 3)) (.cells #[.int .i64 k, .int .i64 nn, .int .u64 u, .string ⟨s.toArray⟩, .slice A keys.length c, .slice B kids.length d] 26)
  simp only [World.size_alloc] at bQ bR0 bF bN hbx
  replace bR := bR.trans bR0
  have hB0 : Below w.heap.size w ((((((w.alloc (.cells #[.int .i64 k, .int .i64 nn, .int .u64 u, .string ⟨s.toArray⟩, .slice A keys.length c, .slice B kids.length d] 26)).alloc (.cells #[.int .i64 q] 3)).alloc (.cells #[.int .i64 0, .int .i64 0, .int .u64 0, .string ⟨#[]⟩, .slice none 0 0, .slice none 0 0] 26)).alloc (.cells #[.bool false] 4)).alloc (.cells #[.int .i64 0] 3)).alloc (.cells #[.int .i64 k, .int .i64 nn, .int .u64 u, .string ⟨s.toArray⟩, .slice A keys.length c, .slice B kids.length d] 26)) := ((((((Below.refl _ w).alloc (Nat.le_refl _) _).alloc (by simp) _).alloc (by simp; omega) _).alloc (by simp; omega) _).alloc (by simp; omega) _).alloc (by simp; omega) _
  have hsz : ((((((w.alloc (.cells #[.int .i64 k, .int .i64 nn, .int .u64 u, .string ⟨s.toArray⟩, .slice A keys.length c, .slice B kids.length d] 26)).alloc (.cells #[.int .i64 q] 3)).alloc (.cells #[.int .i64 0, .int .i64 0, .int .u64 0, .string ⟨#[]⟩, .slice none 0 0, .slice none 0 0] 26)).alloc (.cells #[.bool false] 4)).alloc (.cells #[.int .i64 0] 3)).alloc (.cells #[.int .i64 k, .int .i64 nn, .int .u64 u, .string ⟨s.toArray⟩, .slice A keys.length c, .slice B kids.length d] 26)).heap.size = w.heap.size + 6 := by simp
  obtain ⟨W0, hW0⟩ : ∃ W0, ((((((w.alloc (.cells #[.int .i64 k, .int .i64 nn, .int .u64 u, .string ⟨s.toArray⟩, .slice A keys.length c, .slice B kids.length d] 26)).alloc (.cells #[.int .i64 q] 3)).alloc (.cells #[.int .i64 0, .int .i64 0, .int .u64 0, .string ⟨#[]⟩, .slice none 0 0, .slice none 0 0] 26)).alloc (.cells #[.bool false] 4)).alloc (.cells #[.int .i64 0] 3)).alloc (.cells #[.int .i64 k, .int .i64 nn, .int .u64 u, .string ⟨s.toArray⟩, .slice A keys.length c, .slice B kids.length d] 26)) = W0 := ⟨_, rfl⟩
  rw [hW0] at bQ bR bF bN hbx hB0 hsz ⊢
  clear hW0 bR0
  rw [← hv] at hbx
  refine wpIn_rangeFunc_ownH rfl (by omega) (gf := 35) (lb := #[.pointer (some ⟨w.heap.size + 1 + 1 + 1 + 1 + 1, 0, none⟩)]) rfl trivial (enters_of Try.func35 (by kernel_rfl) rfl)
    (walked_stops Fence.wide rfl 2 trivial trivial rfl w W0.heap.size (w.heap.size + 1 + 1 + 1 + 1 + 1) T W0 ht hK hlen (by omega) (by omega) hB0 (Nat.le_refl _) hbx) kp_t (kp_b (by omega)) (Below.refl _ _) (fun _ => rfl)
    (fun pre W => (Boxed W (w.heap.size + 1 + 1 + 1 + 1) 3 (.int .i64 (pre.length : Int)) ∧ Boxed W (w.heap.size + 1) 3 (.int .i64 q) ∧ Boxed W (w.heap.size + 1 + 1 + 1) 4 (.bool false) ∧ W.heap[w.heap.size + 1 + 1]? = some (.cells #[.int .i64 0, .int .i64 0, .int .u64 0, .string ⟨#[]⟩, .slice none 0 0, .slice none 0 0] 26 (0, 0))) ∧ (∀ i : Nat, i < pre.length → (i : Int) ≠ q) ∧ w.heap.size + 6 ≤ W.heap.size ∧ Below w.heap.size w W)
    (fun c pre W => (c = .ret ∧ ∃ (pre' : List (Lv w 1000000)) (x : Lv w 1000000), pre = pre' ++ [x] ∧ (pre'.length : Int) = q ∧ Got w.heap.size (w.heap.size + 1 + 1) W x.1.2) ∧ Boxed W (w.heap.size + 1 + 1 + 1) 4 (.bool true) ∧ Below w.heap.size w W)
    (fun sx X Y row hs hg hr => ⟨⟨own_block hs.1.1 hg hr, own_block hs.1.2.1 hg hr, own_block hs.1.2.2.1 hg hr, own_block hs.1.2.2.2 hg hr⟩, hs.2.1, Nat.le_trans hs.2.2.1 hg.size, (ownFrom_below (β := Unit) (Nat.le_refl _) (by omega : w.heap.size ≤ W0.heap.size)) () X Y row hs.2.2.2 hg hr⟩)
    (fun c sx X Y row hs hg hr => ⟨⟨hs.1.1, by obtain ⟨p', x', h1, h2, h3⟩ := hs.1.2; exact ⟨p', x', h1, h2, h3.own hg hr⟩⟩, own_block hs.2.1 hg hr, (ownFrom_below (β := Unit) (Nat.le_refl _) (by omega : w.heap.size ≤ W0.heap.size)) () X Y row hs.2.2 hg hr⟩)
    ⟨⟨bN, bQ, bF, bR⟩, fun i hi => by simp at hi, by omega, hB0⟩
    (fun x a' W => ∃ Bx, w.heap.size + 6 ≤ Bx ∧ W.heap[Bx]? = some (.cells x.1.2.cells.toArray 26 (0, 0)) ∧ a' = { tmps := #[.agg #[.int .i64 k, .int .i64 nn, .int .u64 u, .string ⟨s.toArray⟩, .slice A keys.length c, .slice B kids.length d], .int .i64 q, .pointer (some ⟨w.heap.size, 0, none⟩), .pointer (some ⟨w.heap.size + 1, 0, none⟩), .pointer (some ⟨w.heap.size + 1 + 1, 0, none⟩), .pointer (some ⟨w.heap.size + 1 + 1 + 1, 0, none⟩), .pointer (some ⟨w.heap.size + 1 + 1 + 1 + 1, 0, none⟩), undef, .pointer (some ⟨Bx, 0, none⟩), .agg #[.int .i64 k, .int .i64 nn, .int .u64 u, .string ⟨s.toArray⟩, .slice A keys.length c, .slice B kids.length d], .func (.func 35) #[] #[.pointer (some ⟨w.heap.size + 1 + 1 + 1 + 1 + 1, 0, none⟩)], .int .i64 (x.1.1 : Int), x.1.2.val, undef, undef, undef, undef, undef, undef, undef, undef], defers := [] })
    (fun x a' _ X Y row hs hg hr => by obtain ⟨Bx, h1, h2, h3⟩ := hs; exact ⟨Bx, h1, own_block h2 hg hr, h3⟩)
    ?assign ?body ?done ?stop
  case assign =>
    rintro l pre ⟨⟨dx, ⟨k', n', u', s', kv', ks', lv', l'⟩⟩, ⟨hx1, hxk⟩, hx2⟩ W K ⟨⟨bN1, bQ1, bF1, bR1⟩, hf, hs4, hB1⟩ hKK
    have hx1' := hx1
    rw [Is] at hx1'
    obtain ⟨_, ⟨A', c', rfl, _⟩, ⟨B', d', rfl, _⟩, _⟩ := hx1'
    have e : (#[11, 12].zip (encL (⟨(dx, NT.mk k' n' u' s' (.slice A' ks'.length c') ks' (.slice B' l'.length d') l'), ⟨hx1, hxk⟩, hx2⟩ : Lv w 1000000))) = #[((11 : Nat), Value.int .i64 (dx : Int)), (12, .agg #[.int .i64 k', .int .i64 n', .int .u64 u', .string ⟨s'.toArray⟩, .slice A' ks'.length c', .slice B' l'.length d'])] := by apply Array.ext'; simp [encL, val_mk]
    rw [e]
    have hK2 := hKK _ _ ((KeepsOthers.alloc W (.cells #[.int .i64 k', .int .i64 n', .int .u64 u', .string ⟨s'.toArray⟩, .slice A' ks'.length c', .slice B' l'.length d'] 26)).from _) (Kp.alloc _ hB1.size) ⟨⟨bN1.alloc _, bQ1.alloc _, bF1.alloc _, (Below.heap_alloc W _ _ (by omega)).trans bR1⟩, hf, by simp; omega, hB1.alloc hB1.size _⟩ ⟨W.heap.size, hs4, heap_alloc_new W _, rfl⟩
    gi_wp2
    exact hK2
  case body =>
    rintro l pre ⟨⟨dx, t'⟩, ⟨hx1, hxk⟩, hx2⟩ a' W hl0 ⟨r, hr⟩ ⟨⟨bN1, bQ1, bF1, bR1⟩, hf, hs4, hB1⟩ ⟨Bx, hBx, hblk, rfl⟩ hlt
    rw [hsz]
    simp only at hx1 hxk hx2 hblk ⊢
    obtain ⟨x0, hx0, hx0v⟩ : ∃ x0 : Lv w 1000000, (⟨(dx, t'), ⟨hx1, hxk⟩, hx2⟩ : Lv w 1000000) = x0 ∧ x0.1.2 = t' := ⟨_, rfl, rfl⟩
    obtain ⟨pr, hpr⟩ : ∃ pr, pre ++ [x0] = pr := ⟨_, rfl⟩
    rw [hx0, hpr]
    have hpl : pr.length = pre.length + 1 := by rw [← hpr]; simp
    have HPR := Lib.hid (And.intro hpr (And.intro hx0v hpl))
    obtain ⟨m, hm⟩ : ∃ m, pre.length = m := ⟨_, rfl⟩
    rw [hm] at bN1 hlt hf
    clear hx0 hx0v hpr hpl
    have cN := bN1.cell
    have fN := bN1.frozen
    have cQ := bQ1.cell
    have hm0 : (m : Int) ≤ 1000000 := by omega
    by_cases hmq : (m : Int) = q
    · subst hmq
      have hxI := hx1.below hB1
      have hC := copy_any t' W hxI hxk
      have hx0 := hx1
      obtain ⟨k', n', u', s', kv', ks', lv', l'⟩ := t'
      rw [Is] at hx0
      obtain ⟨_, ⟨A', c', rfl, _⟩, ⟨B', d', rfl, _⟩, _⟩ := hx0
      rw [val_mk] at hC ⊢
      obtain ⟨c0, c1, c2, c3, c4, c5⟩ := six (show W.heap[Bx]? = some (.cells #[.int .i64 k', .int .i64 n', .int .u64 u', .string ⟨s'.toArray⟩, .slice A' ks'.length c', .slice B' l'.length d'] 26 (0, 0)) from hblk)
      have HA := Lib.hid (And.intro bN1 (And.intro bQ1 (And.intro bF1 (And.intro bR1 (And.intro hs4 hB1)))))
      have HX := Lib.hid (And.intro hx1 (And.intro hxk hx2))
      have HM := Lib.hid hm
      clear bN1 bQ1 bF1 bR1 hB1 hx1 hxk hx2 hblk hxI hf hr hm fN
      gi_wp2_with ((try refine ⟨trivial, ?_⟩); gi_at_call 19; refine (CallsIn.inRound l (callsIn_wide.2 hC)).mono ?_; clear hC; rintro e w3 ⟨⟨t3, rfl, hp3, hi3, hf3⟩, hb3⟩; have hI3 := hi3; obtain ⟨k3, n3, u3, s3, kv3, ks3, lv3, l3⟩ := t3; rw [Is] at hI3; obtain ⟨_, ⟨A3, c3', rfl, _⟩, ⟨B3, d3, rfl, _⟩, _⟩ := hI3; rw [val_mk]; have hr3 := (hb3.block _ (by have := HA.out.2.2.2.2.1; omega)).trans HA.out.2.2.2.1; have hbf3 : Boxed w3 (w.heap.size + 1 + 1 + 1) 4 (.bool false) := (hb3.block _ (by have := HA.out.2.2.2.2.1; omega)).trans HA.out.2.2.1; have g0 := frozen_of_row w3 (w.heap.size + 1 + 1) 0 _ _ hr3; have g1 := frozen_of_row w3 (w.heap.size + 1 + 1) 1 _ _ hr3; have g2 := frozen_of_row w3 (w.heap.size + 1 + 1) 2 _ _ hr3; have g3 := frozen_of_row w3 (w.heap.size + 1 + 1) 3 _ _ hr3; have g4 := frozen_of_row w3 (w.heap.size + 1 + 1) 4 _ _ hr3; have g5 := frozen_of_row w3 (w.heap.size + 1 + 1) 5 _ _ hr3; obtain ⟨b0, b1, b2, b3, b4, b5⟩ := six (s := []) hr3; obtain ⟨h9, hg9⟩ := six_set hr3 (.int .i64 k3) (.int .i64 n3) (.int .u64 u3) (.string ⟨s3.toArray⟩) (.slice A3 ks3.length c3') (.slice B3 l3.length d3); obtain ⟨W9, hW9⟩ : ∃ W9, (((((w3.setCell ⟨w.heap.size + 1 + 1, 0, none⟩ (.int .i64 k3)).setCell ⟨w.heap.size + 1 + 1, 1, none⟩ (.int .i64 n3)).setCell ⟨w.heap.size + 1 + 1, 2, none⟩ (.int .u64 u3)).setCell ⟨w.heap.size + 1 + 1, 3, none⟩ (.string ⟨s3.toArray⟩)).setCell ⟨w.heap.size + 1 + 1, 4, none⟩ (.slice A3 ks3.length c3')).setCell ⟨w.heap.size + 1 + 1, 5, none⟩ (.slice B3 l3.length d3) = W9 := ⟨_, rfl⟩; rw [hW9] at h9 hg9; have hbf9 : Boxed W9 (w.heap.size + 1 + 1 + 1) 4 (.bool false) := hbf3.kept hg9 (fun e => by injection e with e; omega); have cF9 := hbf9.cell; have fF9 := hbf9.frozen; have H9 := Lib.hid (And.intro h9 (And.intro hg9 (And.intro hbf9 (And.intro hp3 (And.intro hi3 (And.intro hf3 hb3)))))); clear h9 hg9 hbf9 hbf3 hr3 hp3 hi3 hf3 hb3)
      obtain ⟨h9, hg9, hbf9, hp3, hi3, hf3, hb3⟩ := H9.out
      have h6 := HA.out.2.2.2.2.1
      have oA : ∀ g, some (w.heap.size + 1 + 1) = some g → Off g (NT.mk k3 n3 u3 s3 (.slice A3 ks3.length c3') ks3 (.slice B3 l3.length d3) l3) := fun g e => by injection e with e; subst e; exact Fr.off (by omega) hf3
      have oB : ∀ g, some (w.heap.size + 1 + 1 + 1) = some g → Off g (NT.mk k3 n3 u3 s3 (.slice A3 ks3.length c3') ks3 (.slice B3 l3.length d3) l3) := fun g e => by injection e with e; subst e; exact Fr.off (by omega) hf3
      have hgs := set_grown W9 (w.heap.size + 1 + 1 + 1) 0 (.bool true)
      have hblw : Below w.heap.size w w3 := HA.out.2.2.2.2.2.trans (hb3.mono (by omega))
      refine ⟨((keepsFrom_of_below hb3).trans (KeepsFrom.of_grownBy hg9 (fun j e => by injection e with e; omega))).trans ((KeepsOthers.setCell _ _ _).from _), ⟨rfl, pre, x0, HPR.out.1.symm, by rw [HM.out], ⟨_, ?_, (hi3.grown hg9 oA).grown hgs oB, (Fr.mono (by omega) ((hf3.kept hg9 oA).kept hgs oB)), (hgs.block _ (by have := (Array.getElem?_eq_some_iff.1 h9).1; exact this) (fun e => by injection e with e; omega)).trans h9⟩⟩, hbf9.set _, ?_⟩
      · rw [hp3, HPR.out.2.1]
      · exact (hblw.grown hg9 (Nat.le_trans (by omega) hb3.size) (fun j e => by injection e with e; omega)).setCell (p := ⟨w.heap.size + 1 + 1 + 1, 0, none⟩) (by show w.heap.size ≤ w.heap.size + 1 + 1 + 1; omega) _
    · have HA := Lib.hid (And.intro bN1 (And.intro bQ1 (And.intro bF1 (And.intro bR1 (And.intro hs4 (And.intro hB1 hf))))))
      have HM := Lib.hid hm
      have HQ := Lib.hid hmq
      have hmq2 : ((m : Int) == q) = false := by simpa using hmq
      obtain ⟨k', n', u', s', kv', ks', lv', l'⟩ := t'
      have hx0 := hx1
      rw [Is] at hx0
      obtain ⟨_, ⟨A', c', rfl, _⟩, ⟨B', d', rfl, _⟩, _⟩ := hx0
      rw [val_mk]
      have HX := Lib.hid (And.intro hx1 (And.intro hxk hx2))
      clear bN1 bQ1 bF1 bR1 hB1 hx1 hxk hx2 hblk hf hr hm hmq
      gi_wp2
      obtain ⟨bN1, bQ1, bF1, bR1, hs4, hB1, hf⟩ := HA.out
      refine ⟨(KeepsOthers.setCell _ _ _).from _, Kp.setCell W (w.heap.size + 1 + 1 + 1 + 1) 0 _ (by omega) (by omega), ⟨⟨?_, bQ1.other (by omega) _, bF1.other (by omega) _, (Below.heap_setCell W ⟨w.heap.size + 1 + 1 + 1 + 1, 0, none⟩ _ _ (by show w.heap.size + 1 + 1 ≠ w.heap.size + 1 + 1 + 1 + 1; omega)).trans bR1⟩, ?_, by simp [World.setCell]; exact hs4, hB1.setCell (p := ⟨w.heap.size + 1 + 1 + 1 + 1, 0, none⟩) (by show w.heap.size ≤ w.heap.size + 1 + 1 + 1 + 1; omega) _⟩⟩
      · rw [HPR.out.2.2, HM.out]
        have := bN1.set (.int .i64 ((m : Int) + 1))
        simpa using this
      · intro i hi
        rw [HPR.out.2.2, HM.out] at hi
        rcases Nat.lt_or_ge i m with h | h
        · exact hf i h
        · obtain rfl : i = m := by omega
          exact HQ.out
  case done =>
    rintro D ys W hD hS ⟨⟨bN1, bQ1, bF1, bR1⟩, hf, hs4, hB1⟩ hKD
    have hyl : ys.length = (preT 0 T).length := by rw [← hS]; simp [valsL]
    have hout : q < 0 ∨ ((preT 0 T).length : Int) ≤ q := by
      rcases Int.lt_or_le q 0 with h | h
      · exact .inl h
      · rcases Int.lt_or_le q ((preT 0 T).length : Int) with h2 | h2
        · exact absurd (by omega : (q.toNat : Int) = q) (hf q.toNat (by omega))
        · exact .inr h2
    have g0 := frozen_of_row W (w.heap.size + 1 + 1) 0 _ _ bR1
    have g1 := frozen_of_row W (w.heap.size + 1 + 1) 1 _ _ bR1
    have g2 := frozen_of_row W (w.heap.size + 1 + 1) 2 _ _ bR1
    have g3 := frozen_of_row W (w.heap.size + 1 + 1) 3 _ _ bR1
    have g4 := frozen_of_row W (w.heap.size + 1 + 1) 4 _ _ bR1
    have g5 := frozen_of_row W (w.heap.size + 1 + 1) 5 _ _ bR1
    obtain ⟨b0, b1, b2, b3, b4, b5⟩ := six (s := []) bR1
    obtain ⟨h9, hg9⟩ := six_set bR1 (.int .i64 0) (.int .i64 0) (.int .u64 0) (.string ⟨#[]⟩) (.slice none 0 0) (.slice none 0 0)
    obtain ⟨W9, hW9⟩ : ∃ W9, (((((W.setCell ⟨w.heap.size + 1 + 1, 0, none⟩ (.int .i64 0)).setCell ⟨w.heap.size + 1 + 1, 1, none⟩ (.int .i64 0)).setCell ⟨w.heap.size + 1 + 1, 2, none⟩ (.int .u64 0)).setCell ⟨w.heap.size + 1 + 1, 3, none⟩ (.string ⟨#[]⟩)).setCell ⟨w.heap.size + 1 + 1, 4, none⟩ (.slice none 0 0)).setCell ⟨w.heap.size + 1 + 1, 5, none⟩ (.slice none 0 0) = W9 := ⟨_, rfl⟩
    rw [hW9] at h9 hg9
    have hbf9 : Boxed W9 (w.heap.size + 1 + 1 + 1) 4 (.bool false) := bF1.kept hg9 (fun e => by injection e with e; omega)
    have cF9 := hbf9.cell
    have fF9 := hbf9.frozen
    have H9 := Lib.hid (And.intro h9 (And.intro hg9 (And.intro hbf9 (And.intro hB1 (And.intro hout hKD)))))
    clear h9 hg9 hbf9 bR1 bF1 bN1 bQ1 hf hS hyl hout hKD hB1
    gi_wp2
    obtain ⟨h9, hg9, hbf9, hB1, hout, hKD⟩ := H9.out
    have hDlt := (Array.getElem?_eq_some_iff.1 hKD).1
    have hK9 := (hg9.block D hDlt (fun e => by injection e with e; omega)).trans hKD
    have hK' := (KeepsOthers.setCell W9 ⟨w.heap.size + 1 + 1 + 1, 0, none⟩ (.bool false)).same D _ hK9 rfl
    refine ⟨by simp, .inl ⟨_, _, rfl, run_takeDeferred hK', ?_⟩⟩
    have hnr : ∀ r, some D = some r → 0 ≤ r ∧ ∃ o : Obj, (W9.setCell ⟨w.heap.size + 1 + 1 + 1, 0, none⟩ (.bool false)).heap[r]? = some o ∧ o.isCells = false := fun r e => by injection e with e; subst e; exact ⟨Nat.zero_le _, _, hK', rfl⟩
    have hz10 := own_block ((Below.heap_setCell W9 ⟨w.heap.size + 1 + 1 + 1, 0, none⟩ (.bool false) _ (by show w.heap.size + 1 + 1 ≠ w.heap.size + 1 + 1 + 1; omega)).trans h9) (grownBy_putObj' _ D (.deferred none)) hnr
    have hf10 := cell_kept (hbf9.set (.bool false)).cell (grownBy_putObj' _ D (.deferred none)) (fun r e => by cases e; exact ⟨_, hK', rfl⟩)
    obtain ⟨e0, e1, e2, e3, e4, e5⟩ := six (s := []) hz10
    refine ⟨.tuple #[.agg #[.int .i64 0, .int .i64 0, .int .u64 0, .string ⟨#[]⟩, .slice none 0 0, .slice none 0 0], .bool false], ?_, ⟨_, false, rfl, .inr ⟨rfl, hout, rfl⟩⟩, ?_⟩
    · simp [results, Try.f22, go_sem, hf10, e0, e1, e2, e3, e4, e5]
    · exact ((hB1.grown hg9 (by omega) (fun j e => by injection e with e; omega)).setCell (p := ⟨w.heap.size + 1 + 1 + 1, 0, none⟩) (by show w.heap.size ≤ w.heap.size + 1 + 1 + 1; omega) _).trans (belowK_b (w := w) (Nat.le_refl _) _ D _ _ (by omega) hK' rfl rfl)
  case stop =>
    rintro D c pre W hD hpre ⟨⟨rfl, pre', x, hpx, hq2, hgot⟩, bF1, hB1⟩ hKD
    obtain ⟨t', hp3, hi3, hf3, h9⟩ := hgot.ex
    gi_wp2
    refine ⟨by simp, .inl ⟨_, _, rfl, run_takeDeferred hKD, ?_⟩⟩
    have hnr : ∀ r, some D = some r → 0 ≤ r ∧ ∃ o : Obj, W.heap[r]? = some o ∧ o.isCells = false := fun r e => by injection e with e; subst e; exact ⟨Nat.zero_le _, _, hKD, rfl⟩
    have hz10 := own_block h9 (grownBy_putObj' _ D (.deferred none)) hnr
    have hf10 := cell_kept bF1.cell (grownBy_putObj' _ D (.deferred none)) (fun r e => by cases e; exact ⟨_, hKD, rfl⟩)
    have oD : ∀ g, some D = some g → Off g t' := fun g e => by obtain ⟨_, o, ho, hc⟩ := hnr g e; exact hf3.off_nc ho hc
    have hi10 := hi3.grown (grownBy_putObj' W D (.deferred none)) oD
    have hf11 := hf3.kept (grownBy_putObj' W D (.deferred none)) oD
    have hix : (preT 0 T)[pre'.length]? = some x.1 := by
      obtain ⟨r, hr⟩ := hpre
      rw [← hr, hpx, valsL_append, List.append_assoc]
      have : (valsL pre').length = pre'.length := by simp [valsL]
      rw [List.getElem?_append_right (by omega), this, Nat.sub_self]
      rfl
    have hval : t'.val = .agg t'.cells.toArray := rfl
    obtain ⟨k3, n3, u3, s3, kv3, ks3, lv3, l3⟩ := t'
    obtain ⟨e0, e1, e2, e3, e4, e5⟩ := six hz10
    refine ⟨.tuple #[.agg #[.int .i64 k3, .int .i64 n3, .int .u64 u3, .string ⟨s3.toArray⟩, kv3, lv3], .bool true], ?_, ⟨_, true, rfl, .inl ⟨rfl, pre'.length, x.1, _, hq2, hix, rfl, hp3, hi10, hf11⟩⟩, ?_⟩
    · simp [results, Try.f22, go_sem, hf10, e0, e1, e2, e3, e4, e5]
    · exact hB1.trans (belowK_b (w := w) (Nat.le_refl _) W D _ _ (by omega) hKD rfl rfl)
end Go.Proofs.Yteoggaioleckhaa
