import Derived.Test.YteoggaioleckhaaLast
set_option linter.unusedVariables false
set_option linter.unusedSimpArgs false
namespace Go.Proofs.Yteoggaioleckhaa
open Go.RowKit
theorem is_mk {w : World} {k n u : Int} {s : List UInt8} {A B : Option Addr} {c d : Nat} {ks : List (List UInt8)} {l : List NT} (h : (Lit.int .i64 k).wf = true ∧ (Lit.int .i64 n).wf = true ∧ (Lit.int .u64 u).wf = true) (hs : s.length ≤ 140737488355328) (hk : Rd w 1 A ks.length (ks.map strv)) (hkn : ks.length ≤ 140737488355328) (hkk : ∀ x ∈ ks, x.length ≤ 140737488355328) (hr : Rd w 6 B l.length (l.flatMap NT.cells)) (hn : l.length ≤ 140737488355328) (hl : IsL w l) : Is w (.mk k n u s (.slice A ks.length c) ks (.slice B l.length d) l) := by
  rw [Is]
  exact ⟨⟨h.1, h.2.1, h.2.2, hs, hkk⟩, ⟨A, c, rfl, hkn, hk⟩, ⟨B, d, rfl, hn, hr⟩, hl⟩
theorem ksm_mk {k n u : Int} {s : List UInt8} {kv lv : Value} {ks : List (List UInt8)} {l : List NT} (h1 : ks.length ≤ 1000000) (h2 : l.length ≤ 1000000) (h3 : KSmL l) : KSm (.mk k n u s kv ks lv l) := by
  rw [KSm]; exact ⟨h1, h2, h3⟩
theorem isL_nil (w : World) : IsL w [] := by rw [IsL]; trivial
theorem ksmL_nil : KSmL [] := by rw [KSmL]; trivial
set_option maxRecDepth 100000 in
set_option maxHeartbeats 2000000 in
theorem works_any (w : World) : Calls Try.prog 12 #[] w fun e w' => e = .returned (.bool true) ∧ Below w.heap.size w w' := by
  go_enter Try.func12, Try.ntmps12
  go_wp2_with (first | (go_at_call 17; refine (num_any _ _).mono ?_; rintro e w1 ⟨rfl, hb⟩; unfold numT; rw [val_mk]) | (go_at_call 29; refine (key_any _ _).mono ?_; rintro e w1 ⟨rfl, hb⟩; unfold keyT; rw [val_mk]) | (go_at_call 16; refine (vec_any _ _ _ [] _).mono ?_; rintro e w1 ⟨rfl, hb⟩; unfold vecT; rw [val_mk]) | (go_at_call 30; refine (table_any _ _ _ [] _ _ _ [] _).mono ?_; rintro e w1 ⟨rfl, hb⟩; unfold tableT; rw [val_mk]) | (go_at_call 13; refine (nest_any 64 (by omega) _).mono ?_; rintro e w1 ⟨⟨⟨k, n, u, s, kv, keys, lv, l⟩, rfl, hn1, hn2, hn3, hn4⟩, hb⟩; rw [val_mk]))
  rename_i wA hA wB hB wC hC wD hD wE hE wF hF wG hG KK hKK
  clear hn4
  have R2 := trees_new wC [numT 5, keyT [97]] (by rw [IsL, IsL, IsL]; exact ⟨is_num (by decide), is_key (by simp), trivial⟩) (ksmL_of (by simp [ksm_num, ksm_key]))
  have R3 := trees_new wF [numT 5, vecT (.slice none 0 0) []] (isL_of (by
    intro x hx
    rcases List.mem_cons.1 hx with rfl | hx
    · exact is_num (by decide)
    · rw [List.mem_singleton] at hx; subst hx
      exact is_vec (l := []) (Rd.none_ _ _ _) (by simp) (by rw [IsL]; trivial))) (ksmL_of (by
    intro x hx
    rcases List.mem_cons.1 hx with rfl | hx
    · exact ksm_num _
    · rw [List.mem_singleton] at hx; subst hx
      exact ksm_vec (by simp) (by rw [KSmL]; trivial)))
  have S3 := rdN wD (([[98], [97]] : List (List UInt8)).map strv) 2 1 9 rfl
  have T2 := is_vec (c := 2) R2.row (by simp) R2.is
  have T3 := is_table (c := 2) (d := 2) ((S3.below hE).below (Up.trans hF (Up.alloc _ _))) (by simp) (by simp) R3.row (by simp) R3.is
  have R1 := trees_new w1 [numT 5, vecT (.slice (some ⟨wC.heap.size, 0, none⟩) 2 2) [numT 5, keyT [97]], tableT (.slice (some ⟨wD.heap.size, 0, none⟩) 2 2) [[98], [97]] (.slice (some ⟨wF.heap.size, 0, none⟩) 2 2) [numT 5, vecT (.slice none 0 0) []], .mk k n u s kv keys lv l] (by
    rw [IsL, IsL, IsL, IsL, IsL]
    exact ⟨is_num (by decide), T2.below (((((Up.trans hD (Up.alloc _ _)).trans hE).trans hF).trans (Up.alloc _ _)).trans (Up.trans hG hb)), T3.below (Up.trans hG hb), hn2, trivial⟩) (by
    rw [KSmL, KSmL, KSmL, KSmL, KSmL]
    exact ⟨ksm_num _, ksm_vec (by simp) R2.small, ksm_table (by simp) (by simp) R3.small, hn3, trivial⟩)
  have U1 : Up w (w1.alloc (.cells (([numT 5, vecT (.slice (some ⟨wC.heap.size, 0, none⟩) 2 2) [numT 5, keyT [97]], tableT (.slice (some ⟨wD.heap.size, 0, none⟩) 2 2) [[98], [97]] (.slice (some ⟨wF.heap.size, 0, none⟩) 2 2) [numT 5, vecT (.slice none 0 0) []], .mk k n u s kv keys lv l] : List NT).flatMap NT.cells).toArray 26)) :=
    ((((((((Up.trans hA hB).trans hC).trans (Up.alloc _ _)).trans hD).trans (Up.alloc _ _)).trans hE).trans hF).trans (Up.alloc _ _)).trans ((Up.trans hG hb).trans (Up.alloc _ _))
  obtain ⟨L, hL⟩ : ∃ L, ([numT 5, vecT (.slice (some ⟨wC.heap.size, 0, none⟩) 2 2) [numT 5, keyT [97]], tableT (.slice (some ⟨wD.heap.size, 0, none⟩) 2 2) [[98], [97]] (.slice (some ⟨wF.heap.size, 0, none⟩) 2 2) [numT 5, vecT (.slice none 0 0) []], .mk k n u s kv keys lv l] : List NT) = L := ⟨_, rfl⟩
  have hlen : L.length = 4 := by rw [← hL]; rfl
  have hchk : ∀ t ∈ L, checkP t.pt = 0 ∧ (preP 0 t.pt).length ≤ 1000000 := by
    rw [← hL]
    intro t ht
    simp only [List.mem_cons, List.mem_nil_iff, or_false] at ht
    rcases ht with rfl | rfl | rfl | rfl
    · exact ⟨by kernel_rfl, Nat.le_trans (Nat.le_of_eq (m := 1) (by kernel_rfl)) (by decide)⟩
    · exact ⟨by kernel_rfl, Nat.le_trans (Nat.le_of_eq (m := 3) (by kernel_rfl)) (by decide)⟩
    · exact ⟨by kernel_rfl, Nat.le_trans (Nat.le_of_eq (m := 3) (by kernel_rfl)) (by decide)⟩
    · rw [hn1]; exact ⟨fine_nest.1, by decide⟩
  obtain ⟨b0, hb0⟩ : ∃ b0, w1.heap.size = b0 := ⟨_, rfl⟩
  rw [hb0] at R1
  refine (fun (H : ∀ W1, w1.alloc (.cells (([numT 5, vecT (.slice (some ⟨wC.heap.size, 0, none⟩) 2 2) [numT 5, keyT [97]], tableT (.slice (some ⟨wD.heap.size, 0, none⟩) 2 2) [[98], [97]] (.slice (some ⟨wF.heap.size, 0, none⟩) 2 2) [numT 5, vecT (.slice none 0 0) []], .mk k n u s kv keys lv l] : List NT).flatMap NT.cells).toArray 26) = W1 → Code.wp Try.prog _ _ _ W1) => H _ rfl) ?_
  intro W1 hW1
  rw [hW1] at U1
  rw [hL] at R1 hW1
  rw [hW1] at R1
  rw [hb0]
  have HX := Lib.hid (And.intro R1 (And.intro U1 (And.intro hchk hlen)))
  clear R1 U1 hchk hlen R2 R3 S3 T2 T3 hn1 hn2 hn3 hb0 hW1 hL hA hB hC hD hE hF hG hb
  go_loopw [2] (fun i wr => ∃ j : Nat, j ≤ 4 ∧ i = .int .i64 (j : Int) ∧ Up W1 wr) (fun i _ => 4 - (intOf i).toNat)
  case atStart => exact ⟨0, by omega, rfl, Up.refl _⟩
  case round =>
    obtain ⟨j, hj, rfl, hu⟩ := hrel
    have HU := Lib.hid hu
    by_cases hlt : j < 4
    · obtain ⟨t, ht⟩ : ∃ t, L[j]? = some t := ⟨_, List.getElem?_eq_getElem (by rw [HX.out.2.2.2]; exact hlt)⟩
      have hR := HX.out.1.up hu
      have hmem : t ∈ L := List.mem_of_getElem? ht
      have hI := isL_mem hR.is _ hmem
      have hcall := check_any t.pt t
      have hkk := ksmL_mem hR.small _ hmem
      obtain ⟨k', n', u', s', kv', ks', lv', l'⟩ := t
      have hI0 := hI
      rw [Is] at hI0
      obtain ⟨_, ⟨A2, c2, rfl, _⟩, ⟨B2, d2, rfl, _⟩, _⟩ := hI0
      obtain ⟨c0, c1, c2', c3, c4, c5⟩ := node_at6 hR.row ht
      simp only [Nat.zero_add] at c0 c1 c2' c3 c4 c5
      replace hcall := hcall wr rfl hI hkk (HX.out.2.2.1 _ hmem).2
      rw [(HX.out.2.2.1 _ hmem).1, val_mk] at hcall
      clear hkk hI hR hmem ht hu
      go_wp2_with (go_at_call 9; refine hcall.mono ?_; clear hcall; rintro e w3 ⟨rfl, hb3⟩; replace hb3 := Lib.hid hb3)
      go_roundw
      case rel => exact ⟨j + 1, by omega, by simp, HU.out.trans hb3.out⟩
      case measure => simp [intOf]; omega
    · obtain rfl : j = 4 := by omega
      clear hu
      go_wp2_with (first | (go_at_call 17; refine (num_any _ _).mono ?_; rintro e wH ⟨rfl, hH⟩; unfold numT; rw [val_mk]) | (go_at_call 29; refine (key_any _ _).mono ?_; rintro e wI ⟨rfl, hI⟩; unfold keyT; rw [val_mk]))
      have Q4 := trees_new wH [numT 1] (isL_one (is_num (by decide))) (ksmL_of (by simp [ksm_num]))
      have Q5 := trees_new wI [keyT [97]] (isL_one (is_key (by simp))) (ksmL_of (by simp [ksm_key]))
      have Q6 := rdN (wI.alloc (.cells (([keyT [97]] : List NT).flatMap NT.cells).toArray 26)) (([[97]] : List (List UInt8)).map strv) 1 1 9 rfl
      rw [World.size_alloc] at Q6
      have Q0 := trees_new ((wI.alloc (.cells (([keyT [97]] : List NT).flatMap NT.cells).toArray 26)).alloc (.cells (([[97]] : List (List UInt8)).map strv).toArray 9)) [.mk 0 0 0 [] (.slice none 0 0) [] (.slice none 0 0) [], .mk 2 2 0 [] (.slice none 0 0) [] (.slice none 0 0) [], .mk 3 0 0 [97] (.slice none 0 0) [] (.slice none 0 0) [], .mk 15 0 0 [] (.slice none 0 0) [] (.slice (some ⟨wH.heap.size, 0, none⟩) 1 1) [numT 1], .mk 11 0 0 [] (.slice none 0 0) [] (.slice (some ⟨wI.heap.size, 0, none⟩) 1 1) [keyT [97]], .mk 17 0 0 [] (.slice (some ⟨wI.heap.size + 1, 0, none⟩) 1 1) [[97]] (.slice none 0 0) []] (by
        rw [IsL, IsL, IsL, IsL, IsL, IsL, IsL]
        refine ⟨is_mk (l := []) (ks := []) (by decide) (by simp) (Rd.none_ _ _ _) (by simp) (by simp) (Rd.none_ _ _ _) (by simp) (isL_nil _), is_mk (l := []) (ks := []) (by decide) (by simp) (Rd.none_ _ _ _) (by simp) (by simp) (Rd.none_ _ _ _) (by simp) (isL_nil _), is_mk (l := []) (ks := []) (by decide) (by simp) (Rd.none_ _ _ _) (by simp) (by simp) (Rd.none_ _ _ _) (by simp) (isL_nil _), ?_, ?_, is_mk (l := []) (ks := [[97]]) (by decide) (by simp) Q6 (by simp) (by simp) (Rd.none_ _ _ _) (by simp) (isL_nil _), trivial⟩
        · have h := Q4.up (Up.trans hI (Up.trans (Up.alloc _ (.cells (([keyT [97]] : List NT).flatMap NT.cells).toArray 26)) (Up.alloc _ (.cells (([[97]] : List (List UInt8)).map strv).toArray 9))))
          exact is_mk (l := [numT 1]) (ks := []) (by decide) (by simp) (Rd.none_ _ _ _) (by simp) (by simp) h.row (by simp) h.is
        · have h := Q5.up (Up.alloc _ (.cells (([[97]] : List (List UInt8)).map strv).toArray 9))
          exact is_mk (l := [keyT [97]]) (ks := []) (by decide) (by simp) (Rd.none_ _ _ _) (by simp) (by simp) h.row (by simp) h.is) (by
        rw [KSmL, KSmL, KSmL, KSmL, KSmL, KSmL, KSmL]
        exact ⟨ksm_mk (by simp) (by simp) ksmL_nil, ksm_mk (by simp) (by simp) ksmL_nil, ksm_mk (by simp) (by simp) ksmL_nil, ksm_mk (by simp) (by simp) Q4.small, ksm_mk (by simp) (by simp) Q5.small, ksm_mk (by simp) (by simp) ksmL_nil, trivial⟩)
      rw [World.size_alloc, World.size_alloc] at Q0
      have U2 := Up.trans HU.out (Up.trans hH (Up.trans (Up.alloc _ _) (Up.trans hI (Up.trans (Up.alloc _ (.cells (([keyT [97]] : List NT).flatMap NT.cells).toArray 26)) (Up.trans (Up.alloc _ (.cells (([[97]] : List (List UInt8)).map strv).toArray 9)) (Up.alloc _ (.cells (([.mk 0 0 0 [] (.slice none 0 0) [] (.slice none 0 0) [], .mk 2 2 0 [] (.slice none 0 0) [] (.slice none 0 0) [], .mk 3 0 0 [97] (.slice none 0 0) [] (.slice none 0 0) [], .mk 15 0 0 [] (.slice none 0 0) [] (.slice (some ⟨wH.heap.size, 0, none⟩) 1 1) [numT 1], .mk 11 0 0 [] (.slice none 0 0) [] (.slice (some ⟨wI.heap.size, 0, none⟩) 1 1) [keyT [97]], .mk 17 0 0 [] (.slice (some ⟨wI.heap.size + 1, 0, none⟩) 1 1) [[97]] (.slice none 0 0) []] : List NT).flatMap NT.cells).toArray 26)))))))
      refine (fun (H : ∀ W2, (((wI.alloc (.cells (([keyT [97]] : List NT).flatMap NT.cells).toArray 26)).alloc (.cells (([[97]] : List (List UInt8)).map strv).toArray 9)).alloc (.cells (([.mk 0 0 0 [] (.slice none 0 0) [] (.slice none 0 0) [], .mk 2 2 0 [] (.slice none 0 0) [] (.slice none 0 0) [], .mk 3 0 0 [97] (.slice none 0 0) [] (.slice none 0 0) [], .mk 15 0 0 [] (.slice none 0 0) [] (.slice (some ⟨wH.heap.size, 0, none⟩) 1 1) [numT 1], .mk 11 0 0 [] (.slice none 0 0) [] (.slice (some ⟨wI.heap.size, 0, none⟩) 1 1) [keyT [97]], .mk 17 0 0 [] (.slice (some ⟨wI.heap.size + 1, 0, none⟩) 1 1) [[97]] (.slice none 0 0) []] : List NT).flatMap NT.cells).toArray 26)) = W2 → Code.wp Try.prog _ _ _ W2) => H _ rfl) ?_
      intro W2 hW2
      rw [hW2] at U2 Q0
      obtain ⟨O, hO⟩ : ∃ O, ([.mk 0 0 0 [] (.slice none 0 0) [] (.slice none 0 0) [], .mk 2 2 0 [] (.slice none 0 0) [] (.slice none 0 0) [], .mk 3 0 0 [97] (.slice none 0 0) [] (.slice none 0 0) [], .mk 15 0 0 [] (.slice none 0 0) [] (.slice (some ⟨wH.heap.size, 0, none⟩) 1 1) [numT 1], .mk 11 0 0 [] (.slice none 0 0) [] (.slice (some ⟨wI.heap.size, 0, none⟩) 1 1) [keyT [97]], .mk 17 0 0 [] (.slice (some ⟨wI.heap.size + 1, 0, none⟩) 1 1) [[97]] (.slice none 0 0) []] : List NT) = O := ⟨_, rfl⟩
      have hlen2 : O.length = 6 := by rw [← hO]; rfl
      have hchk2 : ∀ t ∈ O, checkP t.pt = 60 ∧ (preP 0 t.pt).length ≤ 1000000 := by
        rw [← hO]
        intro t ht
        simp only [List.mem_cons, List.mem_nil_iff, or_false] at ht
        rcases ht with rfl | rfl | rfl | rfl | rfl | rfl
        · exact ⟨by kernel_rfl, Nat.le_trans (Nat.le_of_eq (m := 1) (by kernel_rfl)) (by decide)⟩
        · exact ⟨by kernel_rfl, Nat.le_trans (Nat.le_of_eq (m := 1) (by kernel_rfl)) (by decide)⟩
        · exact ⟨by kernel_rfl, Nat.le_trans (Nat.le_of_eq (m := 1) (by kernel_rfl)) (by decide)⟩
        · exact ⟨by kernel_rfl, Nat.le_trans (Nat.le_of_eq (m := 2) (by kernel_rfl)) (by decide)⟩
        · exact ⟨by kernel_rfl, Nat.le_trans (Nat.le_of_eq (m := 2) (by kernel_rfl)) (by decide)⟩
        · exact ⟨by kernel_rfl, Nat.le_trans (Nat.le_of_eq (m := 1) (by kernel_rfl)) (by decide)⟩
      rw [hO] at Q0
      have HY := Lib.hid (And.intro Q0 (And.intro (Up.trans HX.out.2.1 U2) (And.intro hchk2 hlen2)))
      clear Q0 Q4 Q5 Q6 U2 hchk2 hlen2 hW2 hO HU HX hH hI
      go_loopw [4] (fun i wr => ∃ j : Nat, j ≤ 6 ∧ i = .int .i64 (j : Int) ∧ Up W2 wr) (fun i _ => 6 - (intOf i).toNat)
      case atStart => exact ⟨0, by omega, rfl, Up.refl _⟩
      case round =>
        obtain ⟨j, hj, rfl, hu⟩ := hrel
        have HU := Lib.hid hu
        by_cases hlt : j < 6
        · obtain ⟨t, ht⟩ : ∃ t, O[j]? = some t := ⟨_, List.getElem?_eq_getElem (by rw [HY.out.2.2.2]; exact hlt)⟩
          have hR := HY.out.1.up hu
          have hmem : t ∈ O := List.mem_of_getElem? ht
          have hI := isL_mem hR.is _ hmem
          have hcall := check_any t.pt t
          have hkk := ksmL_mem hR.small _ hmem
          obtain ⟨k', n', u', s', kv', ks', lv', l'⟩ := t
          have hI0 := hI
          rw [Is] at hI0
          obtain ⟨_, ⟨A2, c2, rfl, _⟩, ⟨B2, d2, rfl, _⟩, _⟩ := hI0
          obtain ⟨c0, c1, c2', c3, c4, c5⟩ := node_at6 hR.row ht
          simp only [Nat.zero_add] at c0 c1 c2' c3 c4 c5
          replace hcall := hcall _ rfl hI hkk (HY.out.2.2.1 _ hmem).2
          rw [(HY.out.2.2.1 _ hmem).1, val_mk] at hcall
          clear hkk hI hR hmem ht hu
          go_wp2_with (go_at_call 9; refine hcall.mono ?_; clear hcall; rintro e w3 ⟨rfl, hb3⟩; replace hb3 := Lib.hid hb3)
          go_roundw
          case rel => exact ⟨j + 1, by omega, by simp, HU.out.trans hb3.out⟩
          case measure => simp [intOf]; omega
        · obtain rfl : j = 6 := by omega
          clear hu
          go_wp2_with (first | (go_at_call 17; refine (num_any _ _).mono ?_; rintro e w1 ⟨rfl, hb⟩; unfold numT; rw [val_mk]) | (go_at_call 16; refine (vec_any _ _ _ [] _).mono ?_; rintro e w1 ⟨rfl, hb⟩; unfold vecT; rw [val_mk]))
          rename_i wP hP wQ hQ wR hR wS hS K3 hK3 K4 hK4
          have X0 := trees_new wR [numT 5, numT 5] (by rw [IsL, IsL, IsL]; exact ⟨is_num (by decide), is_num (by decide), trivial⟩) (ksmL_of (by simp [ksm_num]))
          have X1 := is_vec (c := 2) (X0.up hS).row (by simp) (X0.up hS).is
          have X2 := trees_new wS [numT 5, vecT (.slice (some ⟨wR.heap.size, 0, none⟩) 2 2) [numT 5, numT 5]] (by rw [IsL, IsL, IsL]; exact ⟨is_num (by decide), X1, trivial⟩) (by rw [KSmL, KSmL, KSmL]; exact ⟨ksm_num _, ksm_vec (by simp) X0.small, trivial⟩)
          have hT := is_vec (c := 2) (X2.up hb).row (by simp) (X2.up hb).is
          have hTk : KSm (vecT (.slice (some ⟨wS.heap.size, 0, none⟩) 2 2) [numT 5, vecT (.slice (some ⟨wR.heap.size, 0, none⟩) 2 2) [numT 5, numT 5]]) := ksm_vec (by simp) X2.small
          have U3 := Up.trans HY.out.2.1 (Up.trans HU.out (Up.trans hP (Up.trans hQ (Up.trans hR (Up.trans (Up.alloc _ _) (Up.trans hS (Up.trans (Up.alloc _ _) (Up.trans hb (Up.alloc _ (.cells (vecT (.slice (some ⟨wS.heap.size, 0, none⟩) 2 2) [numT 5, vecT (.slice (some ⟨wR.heap.size, 0, none⟩) 2 2) [numT 5, numT 5]]).cells.toArray 26))))))))))
          have hB5 := heap_alloc_new w1 (.cells (vecT (.slice (some ⟨wS.heap.size, 0, none⟩) 2 2) [numT 5, vecT (.slice (some ⟨wR.heap.size, 0, none⟩) 2 2) [numT 5, numT 5]]).cells.toArray 26)
          replace hT := hT.alloc (.cells (vecT (.slice (some ⟨wS.heap.size, 0, none⟩) 2 2) [numT 5, vecT (.slice (some ⟨wR.heap.size, 0, none⟩) 2 2) [numT 5, numT 5]]).cells.toArray 26)
          have hs5 : w1.heap.size < (w1.alloc (.cells (vecT (.slice (some ⟨wS.heap.size, 0, none⟩) 2 2) [numT 5, vecT (.slice (some ⟨wR.heap.size, 0, none⟩) 2 2) [numT 5, numT 5]]).cells.toArray 26)).heap.size := by simp
          have hTp : (vecT (.slice (some ⟨wS.heap.size, 0, none⟩) 2 2) [numT 5, vecT (.slice (some ⟨wR.heap.size, 0, none⟩) 2 2) [numT 5, numT 5]]).pt = bothP := rfl
          refine (fun (H : ∀ W3, (w1.alloc (.cells (vecT (.slice (some ⟨wS.heap.size, 0, none⟩) 2 2) [numT 5, vecT (.slice (some ⟨wR.heap.size, 0, none⟩) 2 2) [numT 5, numT 5]]).cells.toArray 26)) = W3 → Calls Try.prog _ _ W3 _) => H _ rfl) ?_
          intro W3 hW3
          rw [hW3] at hT U3 hB5 hs5
          obtain ⟨B5, hB⟩ : ∃ B5, w1.heap.size = B5 := ⟨_, rfl⟩
          obtain ⟨D, hD⟩ : ∃ D, wS.heap.size = D := ⟨_, rfl⟩
          rw [hB] at hB5 hs5 ⊢
          rw [hD] at hT hB5 hTk hTp ⊢
          obtain ⟨T, hTT⟩ : ∃ T, vecT (.slice (some ⟨D, 0, none⟩) 2 2) [numT 5, vecT (.slice (some ⟨wR.heap.size, 0, none⟩) 2 2) [numT 5, numT 5]] = T := ⟨_, rfl⟩
          have hTv : T.val = .agg #[.int .i64 10, .int .i64 0, .int .u64 0, .string ⟨#[]⟩, .slice none 0 0, .slice (some ⟨D, 0, none⟩) 2 2] := by rw [← hTT]; rfl
          replace hB5 : W3.heap[B5]? = some (.cells #[.int .i64 10, .int .i64 0, .int .u64 0, .string ⟨#[]⟩, .slice none 0 0, .slice (some ⟨D, 0, none⟩) 2 2] 26 (0, 0)) := hB5
          replace hT : Is W3 (vecT (.slice (some ⟨D, 0, none⟩) 2 2) [numT 5, vecT (.slice (some ⟨wR.heap.size, 0, none⟩) 2 2) [numT 5, numT 5]]) := hT
          rw [hTT] at hT hTk hTp
          clear X0 X1 X2 hTT hD hB hW3 hP hQ hR hS hb HU HY
          have HB5 := Lib.hid (And.intro hB5 hs5)
          have HT := Lib.hid (And.intro hT (And.intro hTk (And.intro hTp hTv)))
          have HU := Lib.hid U3
          have c1 := at_in 2 (1, twoP) T W3 (by rw [hTp]; rfl) (by decide) hT hTk (fun t' e => ksm_two e) (by rw [hTp]; decide)
          rw [hTv] at c1
          clear hT hTk hTp hTv U3 hB5 hs5
          refine c1.mono ?_
          clear c1
          rintro e w4 ⟨⟨ta, rfl, ha1, ha2, ha3, ha4⟩, hu4⟩
          obtain ⟨k1, n1, u1, s1, kv1, ks1, lv1, l1⟩ := ta
          have hI1 := ha2
          rw [Is] at hI1
          obtain ⟨_, ⟨A1, d1, rfl, _⟩, ⟨A2, d2, rfl, _⟩, _⟩ := hI1
          rw [val_mk]
          have hsz4 := hu4.size
          have hbx := (Below.heap_alloc w4 (.cells #[.int .i64 k1, .int .i64 n1, .int .u64 u1, .string ⟨s1.toArray⟩, .slice A1 ks1.length d1, .slice A2 l1.length d2] 26) B5 (by have := HB5.out.2; omega)).trans ((hu4.block B5 HB5.out.2).trans HB5.out.1)
          obtain ⟨e0, e1, e2, e3, e4, e5⟩ := sixC (s := []) hbx
          have HA := Lib.hid (And.intro ha1 (And.intro ha2 (And.intro ha3 (And.intro ha4 (And.intro hu4 hbx)))))
          clear ha1 ha2 ha3 ha4 hu4 hbx hsz4
          show K4 _ _
          refine hK4 _ _ ?_
          clear hK4
          go_wp2_with fail
          have c2 := at_in 3 (2, fiveP) T (w4.alloc (.cells #[.int .i64 k1, .int .i64 n1, .int .u64 u1, .string ⟨s1.toArray⟩, .slice A1 ks1.length d1, .slice A2 l1.length d2] 26)) (by rw [HT.out.2.2.1]; rfl) (by decide) ((HT.out.1.below HA.out.2.2.2.2.1).alloc _) HT.out.2.1 (fun t' e => ksm_five e) (by rw [HT.out.2.2.1]; decide)
          rw [HT.out.2.2.2] at c2
          clear e0 e1 e2 e3 e4 e5
          rename_i K5 hK5
          refine c2.mono ?_
          clear c2
          rintro e w5 ⟨⟨tb, rfl, hb1, hb2, hb3, hb4⟩, hu5⟩
          obtain ⟨k2, n2, u2, s2, kv2, ks2, lv2, l2⟩ := tb
          have hI1 := hb2
          rw [Is] at hI1
          obtain ⟨_, ⟨A3, d3, rfl, _⟩, ⟨A4, d4, rfl, _⟩, _⟩ := hI1
          rw [val_mk]
          have hsz5 : w4.heap.size + 1 ≤ w5.heap.size := by have := hu5.size; simpa using this
          have hB5s := HB5.out.2
          have hsz4 := HA.out.2.2.2.2.1.size
          have hbx := (Below.heap_alloc w5 (.cells #[.int .i64 k2, .int .i64 n2, .int .u64 u2, .string ⟨s2.toArray⟩, .slice A3 ks2.length d3, .slice A4 l2.length d4] 26) B5 (by omega)).trans ((hu5.block B5 (by simp; omega)).trans HA.out.2.2.2.2.2)
          obtain ⟨e0, e1, e2, e3, e4, e5⟩ := sixC (s := []) hbx
          have HB := Lib.hid (And.intro hb1 (And.intro hb2 (And.intro hb3 (And.intro hb4 (And.intro hu5 (And.intro hbx hsz5))))))
          clear hb1 hb2 hb3 hb4 hu5 hbx hsz4 hsz5 hB5s
          show K5 _ _
          refine hK5 _ _ ?_
          clear hK5
          go_wp2_with fail
          have c3 := at_out 5 T (w5.alloc (.cells #[.int .i64 k2, .int .i64 n2, .int .u64 u2, .string ⟨s2.toArray⟩, .slice A3 ks2.length d3, .slice A4 l2.length d4] 26)) (by rw [HT.out.2.2.1]; exact Or.inl (by decide)) (by decide) ((((HT.out.1.below HA.out.2.2.2.2.1).alloc _).below HB.out.2.2.2.2.1).alloc _) HT.out.2.1 (by rw [HT.out.2.2.1]; decide)
          rw [HT.out.2.2.2] at c3
          clear e0 e1 e2 e3 e4 e5
          rename_i K6 hK6
          refine c3.mono ?_
          clear c3
          rintro e w6 ⟨rfl, hu6⟩
          rw [val_mk]
          replace hu6 := Lib.hid hu6
          show K6 _ _
          refine hK6 _ _ ?_
          clear hK6
          go_wp2_with fail
          have u6 : Up W3 (w6.alloc (.cells #[.int .i64 0, .int .i64 0, .int .u64 0, .string ⟨#[]⟩, .slice none 0 0, .slice none 0 0] 26)) := Up.trans HA.out.2.2.2.2.1 (Up.trans (Up.alloc _ _) (Up.trans HB.out.2.2.2.2.1 (Up.trans (Up.alloc _ _) (Up.trans hu6.out (Up.alloc _ _)))))
          have u5 : Up w5 (w6.alloc (.cells #[.int .i64 0, .int .i64 0, .int .u64 0, .string ⟨#[]⟩, .slice none 0 0, .slice none 0 0] 26)) := Up.trans (Up.alloc _ _) (Up.trans hu6.out (Up.alloc _ _))
          have u4 : Up w4 (w6.alloc (.cells #[.int .i64 0, .int .i64 0, .int .u64 0, .string ⟨#[]⟩, .slice none 0 0, .slice none 0 0] 26)) := Up.trans (Up.alloc _ _) (Up.trans HB.out.2.2.2.2.1 u5)
          have hsz5 := HB.out.2.2.2.2.2.2
          have g5 := (u6.block B5 HB5.out.2).trans HB5.out.1
          have x4 := heap_alloc_new w4 (.cells #[.int .i64 k1, .int .i64 n1, .int .u64 u1, .string ⟨s1.toArray⟩, .slice A1 ks1.length d1, .slice A2 l1.length d2] 26)
          have x5 := heap_alloc_new w5 (.cells #[.int .i64 k2, .int .i64 n2, .int .u64 u2, .string ⟨s2.toArray⟩, .slice A3 ks2.length d3, .slice A4 l2.length d4] 26)
          have g6 := ((Up.trans HB.out.2.2.2.2.1 u5).block w4.heap.size (by simp)).trans x4
          have g8 := ((Up.trans hu6.out (Up.alloc _ (.cells #[.int .i64 0, .int .i64 0, .int .u64 0, .string ⟨#[]⟩, .slice none 0 0, .slice none 0 0] 26))).block w5.heap.size (by simp)).trans x5
          have hTc : T.cells.toArray = #[.int .i64 10, .int .i64 0, .int .u64 0, .string ⟨#[]⟩, .slice none 0 0, .slice (some ⟨D, 0, none⟩) 2 2] := by have := HT.out.2.2.2; unfold NT.val at this; injection this
          rw [← hTc] at g5
          have HG := Lib.hid (And.intro g5 (And.intro g6 (And.intro g8 (And.intro u4 (And.intro u5 u6)))))
          clear g5 g6 g8 x4 x5 u4 u5 u6 hTc hsz5
          refine last_region _ _ _ T (.mk k1 n1 u1 s1 (.slice A1 ks1.length d1) ks1 (.slice A2 l1.length d2) l1) (.mk k2 n2 u2 s2 (.slice A3 ks2.length d3) ks2 (.slice A4 l2.length d4) l2) B5 w4.heap.size w5.heap.size rfl rfl rfl rfl rfl rfl rfl ⟨HT.out.1.below HG.out.2.2.2.2.2, HT.out.2.1, HT.out.2.2.1⟩ ⟨HA.out.2.1.below HG.out.2.2.2.1, HA.out.1⟩ ⟨HB.out.2.1.below HG.out.2.2.2.2.1, HB.out.1⟩ HG.out.1 HG.out.2.1 HG.out.2.2.1 ?_
          intro a wz hz h0 hdf
          rename_i K9 hK9
          show K9 a wz
          refine hK9 _ _ ?_
          clear hK9
          have hfin : Below w.heap.size w wz := Up.trans HU.out (Up.trans HG.out.2.2.2.2.2 hz)
          go_wp2
          (try simp only [Exit.inBlock, Exit.then])
          exact bodyPost_ret ((show (results Try.f12 a.tmps).run Try.prog wz = .ok (a.eval (.tmp 0)) wz from by kernel_rfl).trans (by rw [h0])) hdf ⟨rfl, hfin⟩
end Go.Proofs.Yteoggaioleckhaa
