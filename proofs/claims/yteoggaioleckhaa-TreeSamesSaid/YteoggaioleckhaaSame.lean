import Derived.Test.YteoggaioleckhaaFew
/- tree.Same: slices.Equal at strings, slices.EqualFunc at nodes. -/
set_option linter.unusedVariables false
set_option linter.unusedSimpArgs false
namespace Go.Proofs.Yteoggaioleckhaa
open Go.RowKit
theorem mk_inj {a b : List UInt8} : (ByteArray.mk a.toArray = ByteArray.mk b.toArray) ↔ a = b := by
  constructor
  · intro h; injection h with h; simpa using congrArg Array.toList h
  · rintro rfl; rfl
theorem map_mk_inj : ∀ {a b : List (List UInt8)}, (a.map (fun k => (⟨k.toArray⟩ : ByteArray)) = b.map (fun k => (⟨k.toArray⟩ : ByteArray))) ↔ a = b
  | [], [] => by simp
  | [], y :: b => by simp
  | x :: a, [] => by simp
  | x :: a, y :: b => by
    rw [List.map_cons, List.map_cons, List.cons.injEq, List.cons.injEq, mk_inj, map_mk_inj]
theorem equal_any (A : Option Addr) (c : Nat) (xs : List (List UInt8)) (B : Option Addr) (d : Nat) (ys : List (List UInt8)) (w : World) (hx : Rd w 1 A xs.length (xs.map strv)) (hy : Rd w 1 B ys.length (ys.map strv)) (hl : xs.length ≤ 140737488355328) (hl2 : ys.length ≤ 140737488355328) :
    Calls Try.prog 32 #[.slice A xs.length c, .slice B ys.length d] w fun e w' => e = .returned (.bool (decide (xs = ys))) ∧ Below w.heap.size w w' := by
  by_cases hn : xs.length = ys.length
  · rcases Nat.eq_zero_or_pos xs.length with h0 | h0
    · have e1 : xs = [] := List.eq_nil_of_length_eq_zero h0
      have e2 : ys = [] := List.eq_nil_of_length_eq_zero (by omega)
      subst e1; subst e2
      refine (Try.slices_Equal_string_empty A B c 0 d w (by decide)).mono ?_
      rintro e w' ⟨rfl, rfl⟩
      exact ⟨rfl, Below.refl _ _⟩
    · obtain ⟨b1, o1, rfl, _, hc1⟩ := hx.2 h0
      obtain ⟨b2, o2, rfl, _, hc2⟩ := hy.2 (by omega)
      have key : ∀ (ks : List (List UInt8)) (b o : Nat), (∀ (k : Nat) (u : Value), (ks.map strv)[k]? = some u → w.cell? ⟨b, o + k, none⟩ = some u) → ∀ j, j < (ks.map (fun k => (⟨k.toArray⟩ : ByteArray))).length → w.cell? ⟨b, o + j, none⟩ = some (.string ((ks.map (fun k => (⟨k.toArray⟩ : ByteArray))).getD j ByteArray.empty)) := by
        intro ks b o hc j hj
        rw [List.length_map] at hj
        refine hc j _ ?_
        rw [List.getElem?_map, List.getElem?_eq_getElem hj]
        simp [strv, List.getD_eq_getElem?_getD, List.getElem?_eq_getElem hj]
      refine (Try.slices_Equal_string b1 o1 xs.length c b2 o2 ys.length d (xs.map (fun k => (⟨k.toArray⟩ : ByteArray))) (ys.map (fun k => (⟨k.toArray⟩ : ByteArray))) w (by simp) (by simp) (by omega) (by omega) (key xs b1 o1 hc1) (key ys b2 o2 hc2)).mono ?_
      rintro e w' ⟨rfl, q, rfl⟩
      refine ⟨?_, below_drewN (Below.refl _ _) q⟩
      rw [List.take_of_length_le (by simp), List.take_of_length_le (by simp)]
      rw [decide_eq_decide.2 map_mk_inj]
  · refine (Try.slices_Equal_string_lens A B xs.length c ys.length d w hn).mono ?_
    rintro e w' ⟨rfl, rfl⟩
    exact ⟨by rw [decide_eq_false (fun e => hn (by rw [e]))], Below.refl _ _⟩
set_option maxRecDepth 100000 in
set_option maxHeartbeats 4000000 in
theorem equalFunc_any (l l' : List NT) (A : Option Addr) (c : Nat) (B : Option Addr) (d : Nat) (w : World) (R : Bool) (hr : Rd w 6 A l.length (l.flatMap NT.cells)) (hr' : Rd w 6 B l'.length (l'.flatMap NT.cells)) (hl : IsL w l) (hl' : IsL w l') (hn : l.length ≤ 140737488355328) (hn' : l'.length ≤ 140737488355328)
    (hT : ptL l = ptL l' → R = true) (hF : ¬ ptL l = ptL l' → R = false)
    (ih : ∀ x ∈ l, ∀ (b : NT) (w : World), Is w x → Is w b → Calls Try.prog 20 #[x.val, b.val] w fun e w' => e = .returned (.bool (eqv x.pt b.pt)) ∧ Below w.heap.size w w') :
    Calls Try.prog 33 #[.slice A l.length c, .slice B l'.length d, .func (.func 20) #[] #[]] w fun e w' => e = .returned (.bool R) ∧ Below w.heap.size w w' := by
  by_cases hll : l.length = l'.length
  · have hz : (l.length : Int) ≤ 140737488355328 := by omega
    have hz2 : (l'.length : Int) = (l.length : Int) := by omega
    have hzz : ((l.length : Int) != (l'.length : Int)) = false := by rw [bne_eq_false_iff_eq]; omega
    have HLL := Lib.hid hll
    have HT := Lib.hid (And.intro hT hF)
    have HR := Lib.hid (And.intro hr hr')
    have HL := Lib.hid (And.intro hl hl')
    have HIH := Lib.hid ih
    clear hr hr' hl hl' hT hF ih hn hn' hll hz2
    rw [← HLL.out] at HR hzz ⊢
    go_enter Try.func33, Try.ntmps33
    go_wp2
    go_loopw [17] (fun i wr => ∃ j : Nat, j ≤ l.length ∧ i = .int .i64 (j : Int) ∧ (ptL l).take j = (ptL l').take j ∧ Below w.heap.size w wr) (fun i _ => l.length - (intOf i).toNat)
    case atStart => exact ⟨0, by omega, rfl, by simp, Below.refl _ _⟩
    case round =>
      obtain ⟨j, hj, rfl, htk, hb⟩ := hrel
      have HB := Lib.hid hb
      by_cases hlt : j < l.length
      · have hlt2 : j < l'.length := by rw [← HLL.out]; exact hlt
        obtain ⟨b1, o1, hA, _⟩ := HR.out.1.at (by omega)
        obtain ⟨b2, o2, hA2, _⟩ := HR.out.2.at (by omega)
        subst hA; subst hA2
        obtain ⟨x, hxj⟩ : ∃ x, l[j]? = some x := ⟨_, List.getElem?_eq_getElem hlt⟩
        obtain ⟨y, hyj⟩ : ∃ y, l'[j]? = some y := ⟨_, List.getElem?_eq_getElem hlt2⟩
        have g1 : l[j]'hlt = x := by rw [List.getElem?_eq_getElem hlt] at hxj; injection hxj
        have g2 : l'[j]'hlt2 = y := by rw [List.getElem?_eq_getElem hlt2] at hyj; injection hyj
        have hxm : x ∈ l := g1 ▸ List.getElem_mem hlt
        have hIx := (isL_mem HL.out.1 _ hxm).below hb
        have hIy := (isL_mem HL.out.2 _ (g2 ▸ List.getElem_mem hlt2 : y ∈ l')).below hb
        have hc := fun (w2 : World) (h : Below wr.heap.size wr w2) => HIH.out x hxm y w2 (hIx.below h) (hIy.below h)
        have htk1 : (ptL l).take (j + 1) = (ptL l).take j ++ [x.pt] := by
          rw [ptL_map, List.take_succ_eq_append_getElem (by rw [List.length_map]; exact hlt), List.getElem_map, g1]
        have htk2 : (ptL l').take (j + 1) = (ptL l').take j ++ [y.pt] := by
          rw [ptL_map, List.take_succ_eq_append_getElem (by rw [List.length_map]; exact hlt2), List.getElem_map, g2]
        obtain ⟨k1, n1, u1, s1, kv1, ks1, lv1, l1⟩ := x
        obtain ⟨k2, n2, u2, s2, kv2, ks2, lv2, l2⟩ := y
        have hIx0 := hIx
        have hIy0 := hIy
        rw [Is] at hIx0 hIy0
        obtain ⟨_, ⟨A1, c1, rfl, _⟩, ⟨B1, d1, rfl, _⟩, _⟩ := hIx0
        obtain ⟨_, ⟨A2, c2, rfl, _⟩, ⟨B2, d2, rfl, _⟩, _⟩ := hIy0
        rw [val_mk, val_mk] at hc
        obtain ⟨V, hV⟩ : ∃ V, eqv (NT.mk k1 n1 u1 s1 (.slice A1 ks1.length c1) ks1 (.slice B1 l1.length d1) l1).pt (NT.mk k2 n2 u2 s2 (.slice A2 ks2.length c2) ks2 (.slice B2 l2.length d2) l2).pt = V := ⟨_, rfl⟩
        rw [hV] at hc
        have hbx : ∀ o, Below wr.heap.size wr (wr.alloc o) := fun o => (Below.refl _ _).alloc (Nat.le_refl _) o
        obtain ⟨a0, a1, a2, a3, a4, a5⟩ := node_at6 (HR.out.1.below hb) hxj
        have hyr : Rd w 6 (some ⟨b2, o2, none⟩) l'.length (l'.flatMap NT.cells) := by have := HR.out.2; rw [HLL.out] at this; exact this
        have hyc := fun o => node_at6 (hyr.below (hb.trans ((hbx o).mono hb.size))) hyj
        have b0 := fun o => (hyc o).1
        have b1' := fun o => (hyc o).2.1
        have b2' := fun o => (hyc o).2.2.1
        have b3 := fun o => (hyc o).2.2.2.1
        have b4 := fun o => (hyc o).2.2.2.2.1
        have b5 := fun o => (hyc o).2.2.2.2.2
        have hjl : (j : Int) < (l.length : Int) := by omega
        have HV := Lib.hid (And.intro hV (And.intro htk (And.intro htk1 htk2)))
        have HC := Lib.hid hc
        have HBX := Lib.hid (fun o1 o2 => ((Below.refl wr.heap.size wr).alloc (Nat.le_refl _) o1).alloc (by simp) o2)
        clear hV htk htk1 htk2 hIx hIy hxm g1 g2 hxj hyj hb hc hyc hbx hyr
        cases V with
        | true =>
          go_wp2_with (go_at_call 20; refine (HC.out _ (HBX.out _ _)).mono ?_; rintro e w3 ⟨rfl, hb3⟩; replace hb3 := (HBX.out _ _).trans (hb3.mono (HBX.out _ _).size))
          obtain ⟨hV, htk, htk1, htk2⟩ := HV.out
          have HK := Lib.hid (show (ptL l).take (j + 1) = (ptL l').take (j + 1) by rw [htk1, htk2, htk, eqv_iff.1 hV])
          clear hV htk htk1 htk2
          go_roundw
          case rel => exact ⟨j + 1, by omega, by simp, HK.out, HB.out.trans (hb3.mono HB.out.size)⟩
          case measure => simp [intOf]; omega
        | false =>
          obtain ⟨hV, htk, htk1, htk2⟩ := HV.out
          have HRF := Lib.hid (HT.out.2 (fun h => by
            have e : (ptL l).take (j + 1) = (ptL l').take (j + 1) := by rw [h]
            rw [htk1, htk2, htk] at e
            have e2 := List.append_cancel_left e
            injection e2 with e3 _
            have := eqv_true e3
            rw [hV] at this
            cases this))
          clear hV htk htk1 htk2
          go_wp2_with (go_at_call 20; refine (HC.out _ (HBX.out _ _)).mono ?_; rintro e w3 ⟨rfl, hb3⟩; replace hb3 := (HBX.out _ _).trans (hb3.mono (HBX.out _ _).size))
          go_ret
          exact ⟨by rw [HRF.out]; rfl, HB.out.trans (hb3.mono HB.out.size)⟩
      · obtain rfl : j = l.length := by omega
        have HRT := Lib.hid (HT.out.1 (by
          have h1 := htk
          rw [show l.length = (ptL l).length from (ptL_len l).symm, List.take_length, List.take_of_length_le (by rw [ptL_len, ptL_len, HLL.out]; exact Nat.le_refl _)] at h1
          exact h1))
        clear htk hb
        go_wp2
        go_ret
        exact ⟨by rw [HRT.out]; rfl, HB.out⟩
  · obtain rfl := hF (fun h => hll (by have := congrArg List.length h; rw [ptL_len, ptL_len] at this; exact this))
    have hz : ((l.length : Int) != (l'.length : Int)) = true := by rw [bne_iff_ne]; omega
    clear hF hT ih hl hl' hr hr'
    go_enter Try.func33, Try.ntmps33
    go_wp2
    go_ret
    exact ⟨rfl, Below.refl _ _⟩
set_option maxRecDepth 100000 in
set_option maxHeartbeats 4000000 in
theorem same_any (a : NT) : ∀ (b : NT) (w : World), Is w a → Is w b → Calls Try.prog 20 #[a.val, b.val] w fun e w' => e = .returned (.bool (eqv a.pt b.pt)) ∧ Below w.heap.size w w' := by
  induction a using NT.ind with
  | h k n u s kv keys lv l ih =>
    intro b w hI hJ
    obtain ⟨k', n', u', s', kv', keys', lv', l'⟩ := b
    rw [Is] at hI hJ
    obtain ⟨_, ⟨A, c, rfl, e2, e3⟩, ⟨B, d, rfl, f2, f3⟩, hl⟩ := hI
    obtain ⟨_, ⟨A', c', rfl, e2', e3'⟩, ⟨B', d', rfl, f2', f3'⟩, hl'⟩ := hJ
    have hin := pt_inj (k := k) (n := n) (u := u) (s := s) (kv := .slice A keys.length c) (keys := keys) (lv := .slice B l.length d) (l := l) (k' := k') (n' := n') (u' := u') (s' := s') (kv' := .slice A' keys'.length c') (keys' := keys') (lv' := .slice B' l'.length d') (l' := l')
    rw [val_mk, val_mk]
    have hb0 : Below w.heap.size w ((w.alloc (.cells #[.int .i64 k, .int .i64 n, .int .u64 u, .string ⟨s.toArray⟩, .slice A keys.length c, .slice B l.length d] 26)).alloc (.cells #[.int .i64 k', .int .i64 n', .int .u64 u', .string ⟨s'.toArray⟩, .slice A' keys'.length c', .slice B' l'.length d'] 26)) := ((Below.refl _ w).alloc (Nat.le_refl _) _).alloc (by simp) _
    have hx0 := (Below.heap_alloc (w.alloc (.cells #[.int .i64 k, .int .i64 n, .int .u64 u, .string ⟨s.toArray⟩, .slice A keys.length c, .slice B l.length d] 26)) (.cells #[.int .i64 k', .int .i64 n', .int .u64 u', .string ⟨s'.toArray⟩, .slice A' keys'.length c', .slice B' l'.length d'] 26) w.heap.size (by simp)).trans (heap_alloc_new w (.cells #[.int .i64 k, .int .i64 n, .int .u64 u, .string ⟨s.toArray⟩, .slice A keys.length c, .slice B l.length d] 26))
    have hx1 := heap_alloc_new (w.alloc (.cells #[.int .i64 k, .int .i64 n, .int .u64 u, .string ⟨s.toArray⟩, .slice A keys.length c, .slice B l.length d] 26)) (.cells #[.int .i64 k', .int .i64 n', .int .u64 u', .string ⟨s'.toArray⟩, .slice A' keys'.length c', .slice B' l'.length d'] 26)
    have hs0 : ((w.alloc (.cells #[.int .i64 k, .int .i64 n, .int .u64 u, .string ⟨s.toArray⟩, .slice A keys.length c, .slice B l.length d] 26)).alloc (.cells #[.int .i64 k', .int .i64 n', .int .u64 u', .string ⟨s'.toArray⟩, .slice A' keys'.length c', .slice B' l'.length d'] 26)).heap.size = w.heap.size + 2 := by simp
    rw [World.size_alloc] at hx1
    obtain ⟨W0, hW0⟩ : ∃ W0, (w.alloc (.cells #[.int .i64 k, .int .i64 n, .int .u64 u, .string ⟨s.toArray⟩, .slice A keys.length c, .slice B l.length d] 26)).alloc (.cells #[.int .i64 k', .int .i64 n', .int .u64 u', .string ⟨s'.toArray⟩, .slice A' keys'.length c', .slice B' l'.length d'] 26) = W0 := ⟨_, rfl⟩
    rw [hW0] at hb0 hx0 hx1 hs0
    have cE := equal_any A c keys A' c' keys' _ (e3.below hb0) (e3'.below hb0) e2 e2'
    obtain ⟨p0, p1, p2, p3, p4, p5⟩ := sixC hx0
    obtain ⟨q0, q1, q2, q3, q4, q5⟩ := sixC hx1
    obtain ⟨R, hR⟩ : ∃ R, eqv (NT.mk k n u s (.slice A keys.length c) keys (.slice B l.length d) l).pt (NT.mk k' n' u' s' (.slice A' keys'.length c') keys' (.slice B' l'.length d') l').pt = R := ⟨_, rfl⟩
    rw [hR]
    have hF : ¬ (k = k' ∧ n = n' ∧ u = u' ∧ s = s' ∧ keys = keys' ∧ ptL l = ptL l') → R = false := fun h => by rw [← hR]; exact eqv_false (fun e => h (hin.1 e))
    have hT : (k = k' ∧ n = n' ∧ u = u' ∧ s = s' ∧ keys = keys' ∧ ptL l = ptL l') → R = true := fun h => by rw [← hR]; exact eqv_true (hin.2 h)
    clear hin hR
    have HX := Lib.hid (And.intro hx0 (And.intro hx1 (And.intro hs0 hb0)))
    have HL := Lib.hid (And.intro f3 (And.intro f3' (And.intro hl (And.intro hl' (And.intro f2 f2')))))
    have HIH := Lib.hid ih
    clear hx0 hx1 hs0 hb0 f3 f3' hl hl' f2 f2' ih e3 e3'
    by_cases hk : k = k'
    · subst hk
      by_cases hn : n = n'
      · subst hn
        by_cases hu : u = u'
        · subst hu
          by_cases hs : s = s'
          · subst hs
            by_cases hkk : keys = keys'
            · subst hkk
              rw [decide_eq_true rfl] at cE
              have HTF := Lib.hid (And.intro hT hF)
              clear hT hF
              go_enter Try.func20, Try.ntmps20
              go_wp2_with (first
                | (go_at_call 32; refine cE.mono ?_; clear cE; rintro e w1 ⟨rfl, hb1⟩; have hbw := HX.out.2.2.2.trans (hb1.mono HX.out.2.2.2.size); have x5 : w1.cell? ⟨w.heap.size, 5, none⟩ = some (.slice B l.length d) := (cell_of_row w1 w.heap.size 5 _ _ _ ((hb1.block _ (by have := HX.out.2.2.1; omega)).trans HX.out.1)).trans rfl; have y5 : w1.cell? ⟨w.heap.size + 1, 5, none⟩ = some (.slice B' l'.length d') := (cell_of_row w1 (w.heap.size + 1) 5 _ _ _ ((hb1.block _ (by have := HX.out.2.2.1; omega)).trans HX.out.2.1)).trans rfl; replace hbw := Lib.hid hbw; clear hb1)
                | (go_at_call 33; refine (equalFunc_any l l' B d B' d' _ R (HL.out.1.below hbw.out) (HL.out.2.1.below hbw.out) (IsL.below hbw.out HL.out.2.2.1) (IsL.below hbw.out HL.out.2.2.2.1) HL.out.2.2.2.2.1 HL.out.2.2.2.2.2 (fun e => HTF.out.1 ⟨by trivial, by trivial, by trivial, by trivial, by trivial, e⟩) (fun e => HTF.out.2 (fun h => e h.2.2.2.2.2)) HIH.out).mono ?_; rintro e w2 ⟨rfl, hb2⟩))
              go_ret
              exact ⟨rfl, hbw.out.trans (hb2.mono hbw.out.size)⟩
            · rw [decide_eq_false hkk] at cE
              obtain rfl := hF (fun h => hkk h.2.2.2.2.1)
              clear hF hT hkk
              go_enter Try.func20, Try.ntmps20
              go_wp2_with (go_at_call 32; refine cE.mono ?_; clear cE; rintro e w1 ⟨rfl, hb1⟩)
              go_ret
              exact ⟨rfl, HX.out.2.2.2.trans (hb1.mono HX.out.2.2.2.size)⟩
          · obtain rfl := hF (fun h => hs h.2.2.2.1)
            have hz : (s == s') = false := beq_eq_false_iff_ne.2 hs
            clear hF hT hs cE
            go_enter Try.func20, Try.ntmps20
            go_wp2
            go_ret
            exact ⟨rfl, HX.out.2.2.2⟩
        · obtain rfl := hF (fun h => hu h.2.2.1)
          have hz : (u == u') = false := beq_eq_false_iff_ne.2 hu
          clear hF hT hu cE
          go_enter Try.func20, Try.ntmps20
          go_wp2
          go_ret
          exact ⟨rfl, HX.out.2.2.2⟩
      · obtain rfl := hF (fun h => hn h.2.1)
        have hz : (n == n') = false := beq_eq_false_iff_ne.2 hn
        clear hF hT hn cE
        go_enter Try.func20, Try.ntmps20
        go_wp2
        go_ret
        exact ⟨rfl, HX.out.2.2.2⟩
    · obtain rfl := hF (fun h => hk h.1)
      have hz : (k == k') = false := beq_eq_false_iff_ne.2 hk
      clear hF hT hk cE
      go_enter Try.func20, Try.ntmps20
      go_wp2
      go_ret
      exact ⟨rfl, HX.out.2.2.2⟩
end Go.Proofs.Yteoggaioleckhaa
