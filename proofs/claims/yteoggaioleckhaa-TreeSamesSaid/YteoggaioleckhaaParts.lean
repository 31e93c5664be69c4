import Derived.Test.YteoggaioleckhaaSame
/- The statement TreeParts: the walk. -/
set_option linter.unusedVariables false
set_option linter.unusedSimpArgs false
namespace Go.Proofs.Yteoggaioleckhaa
open Go.RowKit
theorem checkP_le (p : PT) : checkP p ≤ 100 := by
  have key : ∀ (l : List (Nat × PT)) (i : Nat), firstP i l ≤ 100 := by
    intro l
    induction l with
    | nil => intro i; simp [firstP]
    | cons x l ih =>
      intro i
      rw [firstP]
      split
      · exact ih _
      · unfold errP
        have := keyedP_le x.2
        repeat' split
        all_goals omega
  exact key _ _
theorem part_len {p : PT} : ∀ x ∈ preP 0 p, (preP 0 x.2).length ≤ (preP 0 p).length := by
  intro x hx
  obtain ⟨a, b, e⟩ := preP_part 0 p x hx
  have h := congrArg List.length e
  rw [List.length_append, List.length_append] at h
  have := preP_len 0 x.1 x.2
  rw [Nat.zero_add] at this
  omega
theorem pre_zero (p : PT) : (preP 0 p)[0]? = some (0, p) := by cases p; rw [preP]; rfl
theorem part_small {t : NT} {p : PT} (e : t.pt = p) (hk : KSm t) {x : Nat × PT} (hx : x ∈ preP 0 p) : ∀ t' : NT, t'.pt = x.2 → KSm t' := by
  intro t' e'
  rw [← e, ← preT_pt] at hx
  obtain ⟨y, hy, rfl⟩ := List.mem_map.1 hx
  exact ksm_pt (t := y.2) (by rw [e']) (kid_small hk y hy)
set_option maxRecDepth 100000 in
set_option maxHeartbeats 4000000 in
theorem parts_any (t : NT) (w : World) (hI : Inn w t) : Calls Try.prog 7 #[t.val] w fun e w' => e = .returned (.bool true) ∧ Below w.heap.size w w' := by
  have hF := fun (w' : World) (hb : Below w.heap.size w w') => few_any t w' (hI.below hb)
  have hlen := few_size t.pt
  obtain ⟨p, hp⟩ : ∃ p, fewP t.pt = p := ⟨_, rfl⟩
  rw [hp] at hF hlen
  clear hp
  have hI0 := hI
  obtain ⟨k, n, u, s, kv, keys, lv, kids⟩ := t
  rw [Inn] at hI0
  obtain ⟨_, ⟨A, c, rfl, _⟩, ⟨B, d, rfl, _⟩, _⟩ := hI0
  rw [val_mk] at hF ⊢
  have HF := Lib.hid hF
  have HLEN := Lib.hid hlen
  clear hF hI hlen
  have hx0 := heap_alloc_new w (.cells #[.int .i64 k, .int .i64 n, .int .u64 u, .string ⟨s.toArray⟩, .slice A keys.length c, .slice B kids.length d] 26)
  have hb0 : Below w.heap.size w (w.alloc (.cells #[.int .i64 k, .int .i64 n, .int .u64 u, .string ⟨s.toArray⟩, .slice A keys.length c, .slice B kids.length d] 26)) := (Below.refl _ w).alloc (Nat.le_refl _) _
  have HX := Lib.hid (And.intro hx0 (And.intro hb0 (show (w.alloc (.cells #[.int .i64 k, .int .i64 n, .int .u64 u, .string ⟨s.toArray⟩, .slice A keys.length c, .slice B kids.length d] 26)).heap.size = w.heap.size + 1 by simp)))
  clear hx0 hb0
  obtain ⟨q, hck⟩ : ∃ q, checkP p = q := ⟨_, rfl⟩
  have hq100 : (q : Int) ≤ 100 := by have := checkP_le p; omega
  by_cases hq0 : q = 0
  · subst hq0
    go_enter Try.func7, Try.ntmps7
    go_wp2_with (first
    | (go_at_call 12; refine (works_any _).mono ?_; rintro e w1 ⟨rfl, hb1⟩; have hy := (hb1.block _ (by simp)).trans HX.out.1; obtain ⟨c0, c1, c2, c3, c4, c5⟩ := sixC hy; replace hb1 := HX.out.2.1.trans (hb1.mono HX.out.2.1.size); replace hb1 := Lib.hid hb1; clear hy)
    | (go_at_call 8; refine (HF.out _ hb1.out).mono ?_; rintro e w2 ⟨⟨x, rfl, hx1, hx2, hx3, hx4⟩, hb2⟩; obtain ⟨kx, nx, ux, sx, kvx, ksx, lvx, lx⟩ := x; have hI3 := hx2; rw [Is] at hI3; obtain ⟨_, ⟨A3, cc3, rfl, _⟩, ⟨B3, d3, rfl, _⟩, _⟩ := hI3; rw [val_mk]; have cK := fun (w' : World) (h : Is w' (NT.mk kx nx ux sx (.slice A3 ksx.length cc3) ksx (.slice B3 lx.length d3) lx)) => check_any p (NT.mk kx nx ux sx (.slice A3 ksx.length cc3) ksx (.slice B3 lx.length d3) lx) w' hx1 h hx3 (by have := HLEN.out; omega); rw [val_mk, hck] at cK; have cK2 := cK _ (hx2.alloc (.cells #[.int .i64 kx, .int .i64 nx, .int .u64 ux, .string ⟨sx.toArray⟩, .slice A3 ksx.length cc3, .slice B3 lx.length d3] 26)); have hbl := heap_alloc_new w2 (.cells #[.int .i64 kx, .int .i64 nx, .int .u64 ux, .string ⟨sx.toArray⟩, .slice A3 ksx.length cc3, .slice B3 lx.length d3] 26); have HT := Lib.hid (And.intro hx1 (And.intro hx2 (And.intro hx3 (And.intro hx4 (And.intro hb2 hbl))))); clear hx1 hx2 hx3 hx4 hb2 cK hbl)
    | (go_at_call 9; refine cK2.mono ?_; clear cK2; rintro e w3 ⟨rfl, hb3⟩))
    obtain ⟨q1, q2, q3, q4, q5, q6⟩ := HT.out
    have hsz2 : (w2.alloc (.cells #[.int .i64 kx, .int .i64 nx, .int .u64 ux, .string ⟨sx.toArray⟩, .slice A3 ksx.length cc3, .slice B3 lx.length d3] 26)).heap.size = w2.heap.size + 1 := by simp
    have hlt2 : w2.heap.size < w3.heap.size := by have := hb3.size; omega
    have hblk := (hb3.block w2.heap.size (by omega)).trans q6
    have hIx := (q2.alloc (.cells #[.int .i64 kx, .int .i64 nx, .int .u64 ux, .string ⟨sx.toArray⟩, .slice A3 ksx.length cc3, .slice B3 lx.length d3] 26)).below hb3
    have hw3 : Below w.heap.size w w3 := by
      have h1 := hb1.out.trans (q5.mono hb1.out.size)
      have h2 := h1.alloc h1.size (.cells #[.int .i64 kx, .int .i64 nx, .int .u64 ux, .string ⟨sx.toArray⟩, .slice A3 ksx.length cc3, .slice B3 lx.length d3] 26)
      exact h2.trans (hb3.mono h2.size)
    obtain ⟨N, hN⟩ : ∃ N, (preP 0 p).length = N := ⟨_, rfl⟩
    have hN120 : N ≤ 120 := by rw [← hN]; exact HLEN.out
    have cS := fun (w' : World) (h : Below w3.heap.size w3 w') => size_any (NT.mk kx nx ux sx (.slice A3 ksx.length cc3) ksx (.slice B3 lx.length d3) lx) w' (hIx.below h) q3 (by rw [preT_len, q1, hN]; omega)
    rw [preT_len, q1, hN, val_mk] at cS
    have cA := fun (j : Nat) (y : Nat × PT) (hy : (preP 0 p)[j]? = some y) (hj : j < N) (w' : World) (h : Below w3.heap.size w3 w') => at_in j y (NT.mk kx nx ux sx (.slice A3 ksx.length cc3) ksx (.slice B3 lx.length d3) lx) w' (by rw [q1]; exact hy) (by simp [Lit.wf, IntKind.min, IntKind.max, IntKind.bits, IntKind.signed]; omega) (hIx.below h) q3 (part_small q1 q3 (List.mem_of_getElem? hy)) (by rw [q1, hN]; omega)
    rw [val_mk] at cA
    have cM := fun (b : NT) (w' : World) (h : Below w3.heap.size w3 w') (hb : Is w' b) => same_any b (NT.mk kx nx ux sx (.slice A3 ksx.length cc3) ksx (.slice B3 lx.length d3) lx) w' hb (hIx.below h)
    rw [q1, val_mk] at cM
    have H3 := Lib.hid (And.intro hblk (And.intro hw3 hlt2))
    have HN := Lib.hid hN
    have HCK := Lib.hid hck
    have HS := Lib.hid cS
    have HAT := Lib.hid cA
    have HM := Lib.hid cM
    generalize w2.heap.size = b2 at H3 ⊢
    clear q1 q2 q3 q4 q5 q6 hsz2 hlt2 hblk hIx hw3 hN hck cS cA cM hb3 HT hb1 HF c0 c1 c2 c3 c4 c5 HX HLEN w1
    go_loopw [4] (fun i wr => ∃ j : Nat, j ≤ N ∧ i = .int .i64 (j : Int) ∧ Below w3.heap.size w3 wr) (fun i _ => N - (intOf i).toNat)
    case atStart => exact ⟨0, by omega, rfl, Below.refl _ _⟩
    case round =>
      obtain ⟨j, hj, rfl, hb⟩ := hrel
      have HB := Lib.hid hb
      obtain ⟨e0, e1, e2, e3, e4, e5⟩ := sixC ((hb.block _ H3.out.2.2).trans H3.out.1)
      by_cases hlt : j < N
      · obtain ⟨y, hy⟩ : ∃ y, (preP 0 p)[j]? = some y := ⟨_, List.getElem?_eq_getElem (by rw [HN.out]; exact hlt)⟩
        have hmem := List.mem_of_getElem? hy
        have hck2 := check_part HCK.out y hmem
        have hl2 := part_len y hmem
        rw [HN.out] at hl2
        have cA := HAT.out j y hy hlt
        have hy0 : j = 0 → y.2 = p := fun h => by subst h; rw [pre_zero] at hy; injection hy with hy; rw [← hy]
        obtain ⟨lv9, P9⟩ := y
        simp only at hck2 hl2 hy0 cA
        have HCA := Lib.hid cA
        have HP := Lib.hid (And.intro hck2 (And.intro hl2 hy0))
        clear cA hck2 hl2 hy0 hmem hy hb
        have hj1 : (j : Int) < (N : Int) := by omega
        have hj2 : (j : Int) < 130 := by omega
        have arm9 := Lib.hid (fun (w' : World) (t' : NT) (h : t'.pt = P9) (hI : Is w' t') (hk : KSm t') => check_any P9 t' w' h hI hk (by have := HP.out.2.1; omega))
        by_cases hj0 : j = 0
        · have HE := Lib.hid (HP.out.2.2 hj0)
          subst hj0
          go_wp2_with (first
            | (go_at_call 18; refine (HS.out _ HB.out).mono ?_; rintro e w4 ⟨rfl, hb4⟩; replace hb4 := Lib.hid hb4; obtain ⟨f0, f1, f2, f3, f4, f5⟩ := sixC (((HB.out.trans (hb4.out.mono HB.out.size)).block _ H3.out.2.2).trans H3.out.1))
            | (go_at_call 22; refine (HCA.out _ (HB.out.trans (hb4.out.mono HB.out.size))).mono ?_; rintro e w5 ⟨⟨t', rfl, hy1, hy2, hy3, hy4⟩, hb5⟩; obtain ⟨k9, n9, u9, s9, kv9, ks9, lv9, l9⟩ := t'; have hI9 := hy2; rw [Is] at hI9; obtain ⟨_, ⟨A9, c9, rfl, _⟩, ⟨B9, d9, rfl, _⟩, _⟩ := hI9; rw [val_mk]; have hbl5 := heap_alloc_new w5 (.cells #[.int .i64 k9, .int .i64 n9, .int .u64 u9, .string ⟨s9.toArray⟩, .slice A9 ks9.length c9, .slice B9 l9.length d9] 26); have hb5a := (hb4.out.trans (hb5.mono hb4.out.size)).alloc (by have h1 := hb4.out.size; have h2 := Below.size hb5; omega) (.cells #[.int .i64 k9, .int .i64 n9, .int .u64 u9, .string ⟨s9.toArray⟩, .slice A9 ks9.length c9, .slice B9 l9.length d9] 26); have HY := Lib.hid (And.intro hy1 (And.intro (hy2.alloc (.cells #[.int .i64 k9, .int .i64 n9, .int .u64 u9, .string ⟨s9.toArray⟩, .slice A9 ks9.length c9, .slice B9 l9.length d9] 26)) (And.intro hy3 hbl5))); replace hb5a := Lib.hid hb5a; clear hy1 hy2 hy3 hy4 hb5 hbl5)
            | (go_at_call 9; refine (arm9.out _ (NT.mk k9 n9 u9 s9 (.slice A9 ks9.length c9) ks9 (.slice B9 l9.length d9) l9) HY.out.1 HY.out.2.1 HY.out.2.2.1).mono ?_; rintro e w7 ⟨rfl, hb7⟩; rw [HP.out.1]; obtain ⟨g0, g1, g2, g3, g4, g5⟩ := sixC ((hb7.block _ (by simp)).trans HY.out.2.2.2); have hb7b := Lib.hid hb7; replace hb7 := Lib.hid (hb5a.out.trans (Below.mono hb7 hb5a.out.size)); obtain ⟨m0, m1, m2, m3, m4, m5⟩ := sixC (((HB.out.trans (hb7.out.mono HB.out.size)).block _ H3.out.2.2).trans H3.out.1))
            | (go_at_call 20; refine (HM.out (NT.mk k9 n9 u9 s9 (.slice A9 ks9.length c9) ks9 (.slice B9 l9.length d9) l9) _ (HB.out.trans (hb7.out.mono HB.out.size)) (HY.out.2.1.below hb7b.out)).mono ?_; rintro e w8 ⟨rfl, hb8⟩; rw [eqv_true (HY.out.1.trans HE.out)]))
          go_roundw
          case rel => exact ⟨1, by omega, rfl, HB.out.trans ((hb7.out.trans (hb8.mono hb7.out.size)).mono HB.out.size)⟩
          case measure => simp [intOf]; omega
        · have hjz : ¬ (j : Int) = 0 := by omega
          go_wp2_with (first
            | (go_at_call 18; refine (HS.out _ HB.out).mono ?_; rintro e w4 ⟨rfl, hb4⟩; replace hb4 := Lib.hid hb4; obtain ⟨f0, f1, f2, f3, f4, f5⟩ := sixC (((HB.out.trans (hb4.out.mono HB.out.size)).block _ H3.out.2.2).trans H3.out.1))
            | (go_at_call 22; refine (HCA.out _ (HB.out.trans (hb4.out.mono HB.out.size))).mono ?_; rintro e w5 ⟨⟨t', rfl, hy1, hy2, hy3, hy4⟩, hb5⟩; obtain ⟨k9, n9, u9, s9, kv9, ks9, lv9, l9⟩ := t'; have hI9 := hy2; rw [Is] at hI9; obtain ⟨_, ⟨A9, c9, rfl, _⟩, ⟨B9, d9, rfl, _⟩, _⟩ := hI9; rw [val_mk]; have hbl5 := heap_alloc_new w5 (.cells #[.int .i64 k9, .int .i64 n9, .int .u64 u9, .string ⟨s9.toArray⟩, .slice A9 ks9.length c9, .slice B9 l9.length d9] 26); have hb5a := (hb4.out.trans (hb5.mono hb4.out.size)).alloc (by have h1 := hb4.out.size; have h2 := Below.size hb5; omega) (.cells #[.int .i64 k9, .int .i64 n9, .int .u64 u9, .string ⟨s9.toArray⟩, .slice A9 ks9.length c9, .slice B9 l9.length d9] 26); have HY := Lib.hid (And.intro hy1 (And.intro (hy2.alloc (.cells #[.int .i64 k9, .int .i64 n9, .int .u64 u9, .string ⟨s9.toArray⟩, .slice A9 ks9.length c9, .slice B9 l9.length d9] 26)) (And.intro hy3 hbl5))); replace hb5a := Lib.hid hb5a; clear hy1 hy2 hy3 hy4 hb5 hbl5)
            | (go_at_call 9; refine (arm9.out _ (NT.mk k9 n9 u9 s9 (.slice A9 ks9.length c9) ks9 (.slice B9 l9.length d9) l9) HY.out.1 HY.out.2.1 HY.out.2.2.1).mono ?_; rintro e w7 ⟨rfl, hb7⟩; rw [HP.out.1]; obtain ⟨g0, g1, g2, g3, g4, g5⟩ := sixC ((hb7.block _ (by simp)).trans HY.out.2.2.2); have hb7b := Lib.hid hb7; replace hb7 := Lib.hid (hb5a.out.trans (Below.mono hb7 hb5a.out.size)); obtain ⟨m0, m1, m2, m3, m4, m5⟩ := sixC (((HB.out.trans (hb7.out.mono HB.out.size)).block _ H3.out.2.2).trans H3.out.1)))
          go_roundw
          case rel => exact ⟨j + 1, by omega, by simp, HB.out.trans (hb7.out.mono HB.out.size)⟩
          case measure => simp [intOf]; omega
      · obtain rfl : j = N := by omega
        have hj2 : (j : Int) < 130 := by omega
        go_wp2_with (first
            | (go_at_call 18; refine (HS.out _ HB.out).mono ?_; rintro e w4 ⟨rfl, hb4⟩))
        go_ret
        exact ⟨rfl, H3.out.2.1.trans ((HB.out.trans (hb4.mono HB.out.size)).mono H3.out.2.1.size)⟩
  · have hqz : ((q : Int) != 0) = true := by rw [bne_iff_ne]; omega
    have hqn : ¬ (q : Int) = 0 := by omega
    clear hq0
    go_enter Try.func7, Try.ntmps7
    go_wp2_with (first
    | (go_at_call 12; refine (works_any _).mono ?_; rintro e w1 ⟨rfl, hb1⟩; have hy := (hb1.block _ (by simp)).trans HX.out.1; obtain ⟨c0, c1, c2, c3, c4, c5⟩ := sixC hy; replace hb1 := HX.out.2.1.trans (hb1.mono HX.out.2.1.size); replace hb1 := Lib.hid hb1; clear hy)
    | (go_at_call 8; refine (HF.out _ hb1.out).mono ?_; rintro e w2 ⟨⟨x, rfl, hx1, hx2, hx3, hx4⟩, hb2⟩; obtain ⟨kx, nx, ux, sx, kvx, ksx, lvx, lx⟩ := x; have hI3 := hx2; rw [Is] at hI3; obtain ⟨_, ⟨A3, cc3, rfl, _⟩, ⟨B3, d3, rfl, _⟩, _⟩ := hI3; rw [val_mk]; have cK := fun (w' : World) (h : Is w' (NT.mk kx nx ux sx (.slice A3 ksx.length cc3) ksx (.slice B3 lx.length d3) lx)) => check_any p (NT.mk kx nx ux sx (.slice A3 ksx.length cc3) ksx (.slice B3 lx.length d3) lx) w' hx1 h hx3 (by have := HLEN.out; omega); rw [val_mk, hck] at cK; have cK2 := cK _ (hx2.alloc (.cells #[.int .i64 kx, .int .i64 nx, .int .u64 ux, .string ⟨sx.toArray⟩, .slice A3 ksx.length cc3, .slice B3 lx.length d3] 26)); have hbl := heap_alloc_new w2 (.cells #[.int .i64 kx, .int .i64 nx, .int .u64 ux, .string ⟨sx.toArray⟩, .slice A3 ksx.length cc3, .slice B3 lx.length d3] 26); have HT := Lib.hid (And.intro hx1 (And.intro hx2 (And.intro hx3 (And.intro hx4 (And.intro hb2 hbl))))); clear hx1 hx2 hx3 hx4 hb2 cK hbl)
    | (go_at_call 9; refine cK2.mono ?_; clear cK2; rintro e w3 ⟨rfl, hb3⟩))
    go_ret
    refine ⟨rfl, ?_⟩
    have h1 := hb1.out.trans (HT.out.2.2.2.2.1.mono hb1.out.size)
    have h2 := h1.alloc h1.size (.cells #[.int .i64 kx, .int .i64 nx, .int .u64 ux, .string ⟨sx.toArray⟩, .slice A3 ksx.length cc3, .slice B3 lx.length d3] 26)
    exact h2.trans (hb3.mono h2.size)
theorem treeParts_walk {H : Type} {enc : TypeId × Value → H} {r : Reach} {b0 : Nat} (v : Value) (W : World) (hval : Value.okWide Try.prog W r b0 26 v) {d : DataW H} {p : List MemPlace} (h : DataW.Trod enc Try.prog W 0 (fun _ => true) true 26 v d p) (lt : ∀ x ∈ p, x.block < W.heap.size) :
    Calls Try.prog 7 #[v] W fun e w' => e = .returned (.bool true) ∧ Below W.heap.size W w' := by
  obtain ⟨t, rfl, hI⟩ := node_of hval h
  exact parts_any t W hI
end Go.Proofs.Yteoggaioleckhaa
