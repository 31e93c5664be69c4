import Derived.Test.YteoggaioleckhaaSamesB
/- The statement TreeSames: the walk. Printed by gen06samesc.py. -/
set_option linter.unusedVariables false
set_option linter.unusedSimpArgs false
namespace Go.Proofs.Yteoggaioleckhaa
open Go.RowKit
set_option maxRecDepth 100000 in
theorem ext48 (a : Act) (h : a.tmps.size = 48) : a = { tmps := #[a.eval (.tmp 0), a.eval (.tmp 1), a.eval (.tmp 2), a.eval (.tmp 3), a.eval (.tmp 4), a.eval (.tmp 5), a.eval (.tmp 6), a.eval (.tmp 7), a.eval (.tmp 8), a.eval (.tmp 9), a.eval (.tmp 10), a.eval (.tmp 11), a.eval (.tmp 12), a.eval (.tmp 13), a.eval (.tmp 14), a.eval (.tmp 15), a.eval (.tmp 16), a.eval (.tmp 17), a.eval (.tmp 18), a.eval (.tmp 19), a.eval (.tmp 20), a.eval (.tmp 21), a.eval (.tmp 22), a.eval (.tmp 23), a.eval (.tmp 24), a.eval (.tmp 25), a.eval (.tmp 26), a.eval (.tmp 27), a.eval (.tmp 28), a.eval (.tmp 29), a.eval (.tmp 30), a.eval (.tmp 31), a.eval (.tmp 32), a.eval (.tmp 33), a.eval (.tmp 34), a.eval (.tmp 35), a.eval (.tmp 36), a.eval (.tmp 37), a.eval (.tmp 38), a.eval (.tmp 39), a.eval (.tmp 40), a.eval (.tmp 41), a.eval (.tmp 42), a.eval (.tmp 43), a.eval (.tmp 44), a.eval (.tmp 45), a.eval (.tmp 46), a.eval (.tmp 47)], defers := a.defers } := by
  have e : a.tmps = ((List.range 48).map fun i => a.eval (.tmp i)).toArray := by
    apply Array.ext
    · simp [h]
    · intro i h1 h2
      simp [Act.eval, Array.getD, h1]
  have e2 : ((List.range 48).map fun i => a.eval (.tmp i)).toArray = #[a.eval (.tmp 0), a.eval (.tmp 1), a.eval (.tmp 2), a.eval (.tmp 3), a.eval (.tmp 4), a.eval (.tmp 5), a.eval (.tmp 6), a.eval (.tmp 7), a.eval (.tmp 8), a.eval (.tmp 9), a.eval (.tmp 10), a.eval (.tmp 11), a.eval (.tmp 12), a.eval (.tmp 13), a.eval (.tmp 14), a.eval (.tmp 15), a.eval (.tmp 16), a.eval (.tmp 17), a.eval (.tmp 18), a.eval (.tmp 19), a.eval (.tmp 20), a.eval (.tmp 21), a.eval (.tmp 22), a.eval (.tmp 23), a.eval (.tmp 24), a.eval (.tmp 25), a.eval (.tmp 26), a.eval (.tmp 27), a.eval (.tmp 28), a.eval (.tmp 29), a.eval (.tmp 30), a.eval (.tmp 31), a.eval (.tmp 32), a.eval (.tmp 33), a.eval (.tmp 34), a.eval (.tmp 35), a.eval (.tmp 36), a.eval (.tmp 37), a.eval (.tmp 38), a.eval (.tmp 39), a.eval (.tmp 40), a.eval (.tmp 41), a.eval (.tmp 42), a.eval (.tmp 43), a.eval (.tmp 44), a.eval (.tmp 45), a.eval (.tmp 46), a.eval (.tmp 47)] := by kernel_rfl
  obtain ⟨t, d⟩ := a
  simp only at e
  rw [← e2, ← e]

set_option maxRecDepth 100000 in
set_option maxHeartbeats 4000000 in
theorem sames_any (ta tb : NT) (w : World) (ha : Inn w ta) (hb : Inn w tb) : Calls Try.prog 6 #[ta.val, tb.val] w fun e w' => e = .returned (.bool true) ∧ Below w.heap.size w w' := by
  obtain ⟨k1, n1, u1, s1, kv, ks1, lv, l1⟩ := ta
  obtain ⟨k2, n2, u2, s2, kv', ks2, lv', l2⟩ := tb
  have ha0 := ha
  have hb0 := hb
  rw [Inn] at ha0 hb0
  obtain ⟨_, ⟨A1, c1, rfl, _⟩, ⟨B1, d1, rfl, _⟩, _⟩ := ha0
  obtain ⟨_, ⟨A2, c2, rfl, _⟩, ⟨B2, d2, rfl, _⟩, _⟩ := hb0
  rw [val_mk, val_mk]
  have hw0 : Below w.heap.size w ((w.alloc (.cells #[.int .i64 k1, .int .i64 n1, .int .u64 u1, .string ⟨s1.toArray⟩, .slice A1 ks1.length c1, .slice B1 l1.length d1] 26)).alloc (.cells #[.int .i64 k2, .int .i64 n2, .int .u64 u2, .string ⟨s2.toArray⟩, .slice A2 ks2.length c2, .slice B2 l2.length d2] 26)) := ((Below.refl _ w).alloc (Nat.le_refl _) _).alloc (by simp) _
  have hx1 := (Below.heap_alloc (w.alloc (.cells #[.int .i64 k1, .int .i64 n1, .int .u64 u1, .string ⟨s1.toArray⟩, .slice A1 ks1.length c1, .slice B1 l1.length d1] 26)) (.cells #[.int .i64 k2, .int .i64 n2, .int .u64 u2, .string ⟨s2.toArray⟩, .slice A2 ks2.length c2, .slice B2 l2.length d2] 26) w.heap.size (by simp)).trans (heap_alloc_new w (.cells #[.int .i64 k1, .int .i64 n1, .int .u64 u1, .string ⟨s1.toArray⟩, .slice A1 ks1.length c1, .slice B1 l1.length d1] 26))
  have hx2 := heap_alloc_new (w.alloc (.cells #[.int .i64 k1, .int .i64 n1, .int .u64 u1, .string ⟨s1.toArray⟩, .slice A1 ks1.length c1, .slice B1 l1.length d1] 26)) (.cells #[.int .i64 k2, .int .i64 n2, .int .u64 u2, .string ⟨s2.toArray⟩, .slice A2 ks2.length c2, .slice B2 l2.length d2] 26)
  have hs0 : ((w.alloc (.cells #[.int .i64 k1, .int .i64 n1, .int .u64 u1, .string ⟨s1.toArray⟩, .slice A1 ks1.length c1, .slice B1 l1.length d1] 26)).alloc (.cells #[.int .i64 k2, .int .i64 n2, .int .u64 u2, .string ⟨s2.toArray⟩, .slice A2 ks2.length c2, .slice B2 l2.length d2] 26)).heap.size = w.heap.size + 2 := by simp
  rw [World.size_alloc] at hx2
  have HI := Lib.hid (And.intro ha hb)
  clear ha hb
  go_enter Try.func6, Try.ntmps6
  go_upto_region 1 with fail
  obtain ⟨W0, hW0⟩ : ∃ W0, (w.alloc (.cells #[.int .i64 k1, .int .i64 n1, .int .u64 u1, .string ⟨s1.toArray⟩, .slice A1 ks1.length c1, .slice B1 l1.length d1] 26)).alloc (.cells #[.int .i64 k2, .int .i64 n2, .int .u64 u2, .string ⟨s2.toArray⟩, .slice A2 ks2.length c2, .slice B2 l2.length d2] 26) = W0 := ⟨_, rfl⟩
  rw [hW0] at hw0 hx1 hx2 hs0 ⊢
  clear hW0
  refine sames_region _ _ _ w.heap.size (w.heap.size + 1) (NT.mk k1 n1 u1 s1 (.slice A1 ks1.length c1) ks1 (.slice B1 l1.length d1) l1) (NT.mk k2 n2 u2 s2 (.slice A2 ks2.length c2) ks2 (.slice B2 l2.length d2) l2) rfl rfl rfl hx1 hx2 (HI.out.1.below hw0) (HI.out.2.below hw0) ?_
  intro a W1 b5 b6 x y hU hK v5 v6 hb5 hb6 hh5 hh6 hp5 hp6 hI5 hI6 hK5 hK6
  have e0 : a.eval (.tmp 0) = .agg #[.int .i64 k1, .int .i64 n1, .int .u64 u1, .string ⟨s1.toArray⟩, .slice A1 ks1.length c1, .slice B1 l1.length d1] := (keepS hK 0 (by kernel_rfl)).trans (by kernel_rfl)
  have e1 : a.eval (.tmp 1) = .agg #[.int .i64 k2, .int .i64 n2, .int .u64 u2, .string ⟨s2.toArray⟩, .slice A2 ks2.length c2, .slice B2 l2.length d2] := (keepS hK 1 (by kernel_rfl)).trans (by kernel_rfl)
  have e2 : a.eval (.tmp 2) = .pointer (some ⟨w.heap.size, 0, none⟩) := (keepS hK 2 (by kernel_rfl)).trans (by kernel_rfl)
  have e3 : a.eval (.tmp 3) = .pointer (some ⟨w.heap.size + 1, 0, none⟩) := (keepS hK 3 (by kernel_rfl)).trans (by kernel_rfl)
  have e4 : a.eval (.tmp 4) = .bool false := (keepS hK 4 (by kernel_rfl)).trans (by kernel_rfl)
  have e7 : a.eval (.tmp 7) = undef := (keepS hK 7 (by kernel_rfl)).trans (by kernel_rfl)
  have e12 : a.eval (.tmp 12) = undef := (keepS hK 12 (by kernel_rfl)).trans (by kernel_rfl)
  have e13 : a.eval (.tmp 13) = undef := (keepS hK 13 (by kernel_rfl)).trans (by kernel_rfl)
  have e14 : a.eval (.tmp 14) = undef := (keepS hK 14 (by kernel_rfl)).trans (by kernel_rfl)
  have e15 : a.eval (.tmp 15) = undef := (keepS hK 15 (by kernel_rfl)).trans (by kernel_rfl)
  have e16 : a.eval (.tmp 16) = undef := (keepS hK 16 (by kernel_rfl)).trans (by kernel_rfl)
  have e17 : a.eval (.tmp 17) = undef := (keepS hK 17 (by kernel_rfl)).trans (by kernel_rfl)
  have e18 : a.eval (.tmp 18) = undef := (keepS hK 18 (by kernel_rfl)).trans (by kernel_rfl)
  have e19 : a.eval (.tmp 19) = undef := (keepS hK 19 (by kernel_rfl)).trans (by kernel_rfl)
  have e20 : a.eval (.tmp 20) = undef := (keepS hK 20 (by kernel_rfl)).trans (by kernel_rfl)
  have e21 : a.eval (.tmp 21) = undef := (keepS hK 21 (by kernel_rfl)).trans (by kernel_rfl)
  have e22 : a.eval (.tmp 22) = undef := (keepS hK 22 (by kernel_rfl)).trans (by kernel_rfl)
  have e23 : a.eval (.tmp 23) = undef := (keepS hK 23 (by kernel_rfl)).trans (by kernel_rfl)
  have e24 : a.eval (.tmp 24) = undef := (keepS hK 24 (by kernel_rfl)).trans (by kernel_rfl)
  have e25 : a.eval (.tmp 25) = undef := (keepS hK 25 (by kernel_rfl)).trans (by kernel_rfl)
  have e26 : a.eval (.tmp 26) = undef := (keepS hK 26 (by kernel_rfl)).trans (by kernel_rfl)
  have e27 : a.eval (.tmp 27) = undef := (keepS hK 27 (by kernel_rfl)).trans (by kernel_rfl)
  have e28 : a.eval (.tmp 28) = undef := (keepS hK 28 (by kernel_rfl)).trans (by kernel_rfl)
  have e29 : a.eval (.tmp 29) = undef := (keepS hK 29 (by kernel_rfl)).trans (by kernel_rfl)
  have e30 : a.eval (.tmp 30) = undef := (keepS hK 30 (by kernel_rfl)).trans (by kernel_rfl)
  have e31 : a.eval (.tmp 31) = undef := (keepS hK 31 (by kernel_rfl)).trans (by kernel_rfl)
  have e32 : a.eval (.tmp 32) = undef := (keepS hK 32 (by kernel_rfl)).trans (by kernel_rfl)
  have e33 : a.eval (.tmp 33) = undef := (keepS hK 33 (by kernel_rfl)).trans (by kernel_rfl)
  have e34 : a.eval (.tmp 34) = undef := (keepS hK 34 (by kernel_rfl)).trans (by kernel_rfl)
  have e35 : a.eval (.tmp 35) = undef := (keepS hK 35 (by kernel_rfl)).trans (by kernel_rfl)
  have e36 : a.eval (.tmp 36) = undef := (keepS hK 36 (by kernel_rfl)).trans (by kernel_rfl)
  have e37 : a.eval (.tmp 37) = undef := (keepS hK 37 (by kernel_rfl)).trans (by kernel_rfl)
  have e38 : a.eval (.tmp 38) = undef := (keepS hK 38 (by kernel_rfl)).trans (by kernel_rfl)
  have e39 : a.eval (.tmp 39) = undef := (keepS hK 39 (by kernel_rfl)).trans (by kernel_rfl)
  have e40 : a.eval (.tmp 40) = undef := (keepS hK 40 (by kernel_rfl)).trans (by kernel_rfl)
  have e41 : a.eval (.tmp 41) = undef := (keepS hK 41 (by kernel_rfl)).trans (by kernel_rfl)
  have e42 : a.eval (.tmp 42) = undef := (keepS hK 42 (by kernel_rfl)).trans (by kernel_rfl)
  have e43 : a.eval (.tmp 43) = undef := (keepS hK 43 (by kernel_rfl)).trans (by kernel_rfl)
  have e44 : a.eval (.tmp 44) = undef := (keepS hK 44 (by kernel_rfl)).trans (by kernel_rfl)
  have e45 : a.eval (.tmp 45) = undef := (keepS hK 45 (by kernel_rfl)).trans (by kernel_rfl)
  have e46 : a.eval (.tmp 46) = undef := (keepS hK 46 (by kernel_rfl)).trans (by kernel_rfl)
  have e47 : a.eval (.tmp 47) = undef := (keepS hK 47 (by kernel_rfl)).trans (by kernel_rfl)
  have hde : a.defers = [] := hK.2.1
  rw [ext48 a (hK.1.trans rfl), hde]
  simp only [v5, v6, e0, e1, e2, e3, e4, e7, e12, e13, e14, e15, e16, e17, e18, e19, e20, e21, e22, e23, e24, e25, e26, e27, e28, e29, e30, e31, e32, e33, e34, e35, e36, e37, e38, e39, e40, e41, e42, e43, e44, e45, e46, e47]
  clear e0 e1 e2 e3 e4 e7 e12 e13 e14 e15 e16 e17 e18 e19 e20 e21 e22 e23 e24 e25 e26 e27 e28 e29 e30 e31 e32 e33 e34 e35 e36 e37 e38 e39 e40 e41 e42 e43 e44 e45 e46 e47 hde
  generalize a.eval (.tmp 8) = x8
  generalize a.eval (.tmp 9) = x9
  generalize a.eval (.tmp 10) = x10
  generalize a.eval (.tmp 11) = x11
  clear hK v5 v6 a
  obtain ⟨k3, n3, u3, s3, kv3, ks3, lv3, l3⟩ := x
  obtain ⟨k4, n4, u4, s4, kv4, ks4, lv4, l4⟩ := y
  have hI5a := hI5
  have hI6a := hI6
  rw [Is] at hI5a hI6a
  obtain ⟨_, ⟨A3, c3, rfl, _⟩, ⟨B3, d3, rfl, _⟩, _⟩ := hI5a
  obtain ⟨_, ⟨A4, c4, rfl, _⟩, ⟨B4, d4, rfl, _⟩, _⟩ := hI6a
  obtain ⟨a0, a1, a2, a3, a4, a5⟩ := sixC (show W1.heap[b5]? = some (.cells #[.int .i64 k3, .int .i64 n3, .int .u64 u3, .string ⟨s3.toArray⟩, .slice A3 ks3.length c3, .slice B3 l3.length d3] 26 (0, 0)) from hh5)
  have cC := copyN_any (NT.mk k3 n3 u3 s3 (.slice A3 ks3.length c3) ks3 (.slice B3 l3.length d3) l3) W1 hI5 hK5
  rw [val_mk] at cC
  have hl5 := (Array.getElem?_eq_some_iff.1 hh5).1
  have hl6 := (Array.getElem?_eq_some_iff.1 hh6).1
  have hy1 := (hU.block _ (by omega)).trans hx1
  have hy2 := (hU.block _ (by omega)).trans hx2
  have hsU := hU.size
  have hw1 : Below w.heap.size w W1 := hw0.trans (hU.mono hw0.size)
  have H1 := Lib.hid (And.intro hh5 (And.intro hh6 (And.intro hp5 (And.intro hp6 (And.intro hI5 (And.intro hI6 (And.intro hy1 (And.intro hy2 hw1))))))))
  have HS := Lib.hid (And.intro hl5 (And.intro hl6 (And.intro hs0 hsU)))
  clear hh5 hh6 hp5 hp6 hI5 hI6 hK5 hK6 hy1 hy2 hw1 hl5 hl6 hs0 hsU hx1 hx2 hw0 hU hb5 hb6
  go_upto_region 3 with (go_at_call 19; refine cC.mono ?_; clear cC; rintro e w4 ⟨⟨c, rfl, hc1, hc2, hc3, hc4⟩, hb4⟩; obtain ⟨k5, n5, u5, s5, kv5, ks5, lv5, l5⟩ := c; have hI5 := hc2; rw [Is] at hI5; obtain ⟨_, ⟨A5, c5, rfl, _⟩, ⟨B5, d5, rfl, _⟩, _⟩ := hI5; rw [val_mk]; have HC := Lib.hid (And.intro hc1 (And.intro hc2 (And.intro hc3 (And.intro hc4 hb4)))); clear hc1 hc2 hc3 hc4 hb4 a0 a1 a2 a3 a4 a5)
  have hU2 : Below W1.heap.size W1 (w4.alloc (.cells #[.int .i64 k5, .int .i64 n5, .int .u64 u5, .string ⟨s5.toArray⟩, .slice A5 ks5.length c5, .slice B5 l5.length d5] 26)) := HC.out.2.2.2.2.alloc HC.out.2.2.2.2.size _
  have hx7 := heap_alloc_new w4 (.cells #[.int .i64 k5, .int .i64 n5, .int .u64 u5, .string ⟨s5.toArray⟩, .slice A5 ks5.length c5, .slice B5 l5.length d5] 26)
  obtain ⟨W2, hW2⟩ : ∃ W2, w4.alloc (.cells #[.int .i64 k5, .int .i64 n5, .int .u64 u5, .string ⟨s5.toArray⟩, .slice A5 ks5.length c5, .slice B5 l5.length d5] 26) = W2 := ⟨_, rfl⟩
  have hc2 : Is W2 (NT.mk k5 n5 u5 s5 (.slice A5 ks5.length c5) ks5 (.slice B5 l5.length d5) l5) := by rw [← hW2]; exact HC.out.2.1.alloc _
  have hc3 : Fr W1.heap.size W2 (NT.mk k5 n5 u5 s5 (.slice A5 ks5.length c5) ks5 (.slice B5 l5.length d5) l5) := by rw [← hW2]; exact HC.out.2.2.1.below ((Below.refl _ _).alloc (Nat.le_refl _) _)
  rw [hW2] at hU2 hx7 ⊢
  clear hW2
  have H2 := Lib.hid (And.intro hU2 (And.intro hx7 (And.intro hc2 (And.intro hc3 (And.intro HC.out.1 (And.intro HC.out.2.2.2.1 HC.out.2.2.2.2.size))))))
  refine region_T _ _ _ w4.heap.size b5 b6 (NT.mk k3 n3 u3 s3 (.slice A3 ks3.length c3) ks3 (.slice B3 l3.length d3) l3) (NT.mk k4 n4 u4 s4 (.slice A4 ks4.length c4) ks4 (.slice B4 l4.length d4) l4) (NT.mk k5 n5 u5 s5 (.slice A5 ks5.length c5) ks5 (.slice B5 l5.length d5) l5) rfl rfl hx7 rfl ((hU2.block _ HS.out.1).trans H1.out.1) rfl ((hU2.block _ HS.out.2.1).trans H1.out.2.1) (H1.out.2.2.2.2.1.below hU2) (H1.out.2.2.2.2.2.1.below hU2) hc2 HC.out.1 ?_
  clear hU2 hx7 hc2 hc3
  intro a W3 hU3 hK v32
  have e0 : a.eval (.tmp 0) = .agg #[.int .i64 k1, .int .i64 n1, .int .u64 u1, .string ⟨s1.toArray⟩, .slice A1 ks1.length c1, .slice B1 l1.length d1] := (keepS hK 0 (by kernel_rfl)).trans (by kernel_rfl)
  have e1 : a.eval (.tmp 1) = .agg #[.int .i64 k2, .int .i64 n2, .int .u64 u2, .string ⟨s2.toArray⟩, .slice A2 ks2.length c2, .slice B2 l2.length d2] := (keepS hK 1 (by kernel_rfl)).trans (by kernel_rfl)
  have e2 : a.eval (.tmp 2) = .pointer (some ⟨w.heap.size, 0, none⟩) := (keepS hK 2 (by kernel_rfl)).trans (by kernel_rfl)
  have e3 : a.eval (.tmp 3) = .pointer (some ⟨w.heap.size + 1, 0, none⟩) := (keepS hK 3 (by kernel_rfl)).trans (by kernel_rfl)
  have e4 : a.eval (.tmp 4) = .bool false := (keepS hK 4 (by kernel_rfl)).trans (by kernel_rfl)
  have e5 : a.eval (.tmp 5) = .pointer (some ⟨b5, 0, none⟩) := (keepS hK 5 (by kernel_rfl)).trans (by kernel_rfl)
  have e6 : a.eval (.tmp 6) = .pointer (some ⟨b6, 0, none⟩) := (keepS hK 6 (by kernel_rfl)).trans (by kernel_rfl)
  have e7 : a.eval (.tmp 7) = .pointer (some ⟨w4.heap.size, 0, none⟩) := (keepS hK 7 (by kernel_rfl)).trans (by kernel_rfl)
  have e8 : a.eval (.tmp 8) = x8 := (keepS hK 8 (by kernel_rfl)).trans (by kernel_rfl)
  have e9 : a.eval (.tmp 9) = x9 := (keepS hK 9 (by kernel_rfl)).trans (by kernel_rfl)
  have e10 : a.eval (.tmp 10) = x10 := (keepS hK 10 (by kernel_rfl)).trans (by kernel_rfl)
  have e11 : a.eval (.tmp 11) = x11 := (keepS hK 11 (by kernel_rfl)).trans (by kernel_rfl)
  have e12 : a.eval (.tmp 12) = .agg #[.int .i64 k3, .int .i64 n3, .int .u64 u3, .string ⟨s3.toArray⟩, .slice A3 ks3.length c3, .slice B3 l3.length d3] := (keepS hK 12 (by kernel_rfl)).trans (by kernel_rfl)
  have e13 : a.eval (.tmp 13) = .agg #[.int .i64 k5, .int .i64 n5, .int .u64 u5, .string ⟨s5.toArray⟩, .slice A5 ks5.length c5, .slice B5 l5.length d5] := (keepS hK 13 (by kernel_rfl)).trans (by kernel_rfl)
  have e33 : a.eval (.tmp 33) = undef := (keepS hK 33 (by kernel_rfl)).trans (by kernel_rfl)
  have e34 : a.eval (.tmp 34) = undef := (keepS hK 34 (by kernel_rfl)).trans (by kernel_rfl)
  have e35 : a.eval (.tmp 35) = undef := (keepS hK 35 (by kernel_rfl)).trans (by kernel_rfl)
  have e36 : a.eval (.tmp 36) = undef := (keepS hK 36 (by kernel_rfl)).trans (by kernel_rfl)
  have e37 : a.eval (.tmp 37) = undef := (keepS hK 37 (by kernel_rfl)).trans (by kernel_rfl)
  have e38 : a.eval (.tmp 38) = undef := (keepS hK 38 (by kernel_rfl)).trans (by kernel_rfl)
  have e39 : a.eval (.tmp 39) = undef := (keepS hK 39 (by kernel_rfl)).trans (by kernel_rfl)
  have e40 : a.eval (.tmp 40) = undef := (keepS hK 40 (by kernel_rfl)).trans (by kernel_rfl)
  have e41 : a.eval (.tmp 41) = undef := (keepS hK 41 (by kernel_rfl)).trans (by kernel_rfl)
  have e42 : a.eval (.tmp 42) = undef := (keepS hK 42 (by kernel_rfl)).trans (by kernel_rfl)
  have e43 : a.eval (.tmp 43) = undef := (keepS hK 43 (by kernel_rfl)).trans (by kernel_rfl)
  have e44 : a.eval (.tmp 44) = undef := (keepS hK 44 (by kernel_rfl)).trans (by kernel_rfl)
  have e45 : a.eval (.tmp 45) = undef := (keepS hK 45 (by kernel_rfl)).trans (by kernel_rfl)
  have e46 : a.eval (.tmp 46) = undef := (keepS hK 46 (by kernel_rfl)).trans (by kernel_rfl)
  have e47 : a.eval (.tmp 47) = undef := (keepS hK 47 (by kernel_rfl)).trans (by kernel_rfl)
  have hde : a.defers = [] := hK.2.1
  rw [ext48 a (hK.1.trans rfl), hde]
  simp only [v32, e0, e1, e2, e3, e4, e5, e6, e7, e8, e9, e10, e11, e12, e13, e33, e34, e35, e36, e37, e38, e39, e40, e41, e42, e43, e44, e45, e46, e47]
  clear e0 e1 e2 e3 e4 e5 e6 e7 e8 e9 e10 e11 e12 e13 e33 e34 e35 e36 e37 e38 e39 e40 e41 e42 e43 e44 e45 e46 e47 hde
  generalize a.eval (.tmp 14) = y14
  generalize a.eval (.tmp 15) = y15
  generalize a.eval (.tmp 16) = y16
  generalize a.eval (.tmp 17) = y17
  generalize a.eval (.tmp 18) = y18
  generalize a.eval (.tmp 19) = y19
  generalize a.eval (.tmp 20) = y20
  generalize a.eval (.tmp 21) = y21
  generalize a.eval (.tmp 22) = y22
  generalize a.eval (.tmp 23) = y23
  generalize a.eval (.tmp 24) = y24
  generalize a.eval (.tmp 25) = y25
  generalize a.eval (.tmp 26) = y26
  generalize a.eval (.tmp 27) = y27
  generalize a.eval (.tmp 28) = y28
  generalize a.eval (.tmp 29) = y29
  generalize a.eval (.tmp 30) = y30
  generalize a.eval (.tmp 31) = y31
  clear hK v32 a
  have hx7 := (hU3.block _ (Array.getElem?_eq_some_iff.1 H2.out.2.1).1).trans H2.out.2.1
  obtain ⟨a0, a1, a2, a3, a4, a5⟩ := sixC hx7
  have cS := spoil_any (NT.mk k5 n5 u5 s5 (.slice A5 ks5.length c5) ks5 (.slice B5 l5.length d5) l5) W1.heap.size W3 (H2.out.2.2.1.below hU3) (H2.out.2.2.2.1.below hU3) H2.out.2.2.2.2.2.1
  rw [val_mk] at cS
  have HU3 := Lib.hid hU3
  clear hU3 hx7
  go_upto_region 6 with (go_at_call 21; refine cS.mono ?_; clear cS; rintro e w6 ⟨⟨vr, rfl⟩, ho⟩)
  have hU6 : Below W1.heap.size W1 w6 := (H2.out.1.trans (HU3.out.mono H2.out.1.size)).trans (ho.below (Nat.le_trans H2.out.1.size HU3.out.size) (fr_blk_ge (H2.out.2.2.2.1.below HU3.out)))
  have hw6 : Below w.heap.size w w6 := H1.out.2.2.2.2.2.2.2.2.trans (hU6.mono H1.out.2.2.2.2.2.2.2.2.size)
  refine region_U _ _ _ b5 w.heap.size b6 (w.heap.size + 1) (NT.mk k3 n3 u3 s3 (.slice A3 ks3.length c3) ks3 (.slice B3 l3.length d3) l3) (NT.mk k4 n4 u4 s4 (.slice A4 ks4.length c4) ks4 (.slice B4 l4.length d4) l4) (NT.mk k1 n1 u1 s1 (.slice A1 ks1.length c1) ks1 (.slice B1 l1.length d1) l1) (NT.mk k2 n2 u2 s2 (.slice A2 ks2.length c2) ks2 (.slice B2 l2.length d2) l2) rfl rfl ((hU6.block _ HS.out.1).trans H1.out.1) rfl ((hU6.block _ (by have h1 := HS.out.2.2.1; have h2 := HS.out.2.2.2; omega)).trans H1.out.2.2.2.2.2.2.1) rfl ((hU6.block _ HS.out.2.1).trans H1.out.2.1) rfl ((hU6.block _ (by have h1 := HS.out.2.2.1; have h2 := HS.out.2.2.2; omega)).trans H1.out.2.2.2.2.2.2.2.1) (H1.out.2.2.2.2.1.below hU6) (H1.out.2.2.2.2.2.1.below hU6) (HI.out.1.below hw6) (HI.out.2.below hw6) H1.out.2.2.1 H1.out.2.2.2.1 ?_
  intro a wz hz hK v4
  have hdf : a.defers = [] := hK.2.1
  have hfin : Below w.heap.size w wz := hw6.trans (hz.mono hw6.size)
  clear hK hz hU6 hw6
  rename_i K9 hK9
  show K9 a wz
  refine hK9 _ _ ?_
  clear hK9
  go_wp2
  (try simp only [Exit.inBlock, Exit.then])
  exact bodyPost_ret ((show (results Try.f6 a.tmps).run Try.prog wz = .ok (a.eval (.tmp 4)) wz from by kernel_rfl).trans (by rw [v4])) hdf ⟨rfl, hfin⟩
theorem treeSames_walk {H : Type} {enc : TypeId × Value → H} {r : Reach} {b0 : Nat} (va vb : Value) (W : World) (hva : Value.okWide Try.prog W r b0 26 va) {da : DataW H} {pa : List MemPlace} (ha : DataW.Trod enc Try.prog W 0 (fun _ => true) true 26 va da pa) (la : ∀ x ∈ pa, x.block < W.heap.size)
    (hvb : Value.okWide Try.prog W r b0 26 vb) {db : DataW H} {pb : List MemPlace} (hb : DataW.Trod enc Try.prog W 0 (fun _ => true) true 26 vb db pb) (lb : ∀ x ∈ pb, x.block < W.heap.size) :
    Calls Try.prog 6 #[va, vb] W fun e w' => e = .returned (.bool true) ∧ Below W.heap.size W w' := by
  obtain ⟨ta, rfl, hA⟩ := node_of hva ha
  obtain ⟨tb, rfl, hB⟩ := node_of hvb hb
  exact sames_any ta tb W hA hB
end Go.Proofs.Yteoggaioleckhaa
