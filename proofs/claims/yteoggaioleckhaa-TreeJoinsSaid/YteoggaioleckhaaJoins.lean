import Derived.Test.YteoggaioleckhaaParts
/- The statement TreeJoins: what a list of trees that came in reads as; the walk. -/
set_option linter.unusedVariables false
set_option linter.unusedSimpArgs false
namespace Go.Proofs.Yteoggaioleckhaa
open Go.ChangeShapes Go.WideShapes Go.ChangeAt Go.RowKit Go.Deep
section
variable {H : Type} {enc : TypeId × Value → H} {W : World}
theorem nodesF (fuel : Nat) (v : Value) (x : DataW H × List MemPlace) (g : DataW.trod enc Try.prog W 0 (fun _ => true) true fuel 24 [v] = some x) : ∃ (B : Option Addr) (d : Nat) (l : List NT), v = .slice B l.length d ∧ l.length ≤ maxLen ∧ Rd W 6 B l.length (l.flatMap NT.cells) ∧ InnL W l := by
  rcases DataW.trod_slice Try.underlying24 g with ⟨e, _⟩ | ⟨a, len, cap, elems, rest, n', hn', e, _, _, hl, hm, hel, hall, _⟩
  · simp at e; subst e
    exact ⟨none, 0, [], rfl, by simp, Rd.none_ _ _ _, by rw [InnL]; trivial⟩
  · simp at e; subst e
    have hex : ∀ i, i < len → ∃ t : NT, W.cells? 0 (a.add (i * 6)) 6 = some t.cells ∧ Inn W t := by
      intro i hi
      have h1 := hall i hi
      rw [show Try.prog.cellsOf 26 = 6 by kernel_rfl, List.getElem?_eq_getElem (by omega)] at h1
      obtain ⟨cs', h2, h3⟩ := Option.bind_eq_some_iff.1 h1
      obtain ⟨t, rfl, ht⟩ := nodeF n' cs' _ h3
      exact ⟨t, h2, ht⟩
    obtain ⟨l, hlen2, hp⟩ := list_of len hex
    subst hlen2
    refine ⟨some a, cap, l, rfl, by omega, ⟨flat_len l, fun h0 => ?_⟩, innL_of fun t ht => ?_⟩
    · have hc0 := (World.cells?_some (hp 0 _ (List.getElem?_eq_getElem h0)).1).2.2 0 (by omega)
      rw [show l[0].cells[0]? = some (l[0].cells[0]'(by rw [cells_len]; omega)) from List.getElem?_eq_getElem _] at hc0
      have hz : (a.add (0 * 6)).add 0 = a := by unfold Addr.add; simp
      rw [hz] at hc0
      obtain ⟨b, off, rfl, hb⟩ := at_spot hc0
      refine ⟨b, off, rfl, hb, ?_⟩
      refine flat_range l off fun i t ht => ?_
      intro j v hv
      have hj : j < 6 := by have := (List.getElem?_eq_some_iff.1 hv).1; rwa [cells_len] at this
      have := (World.cells?_some (hp i t ht).1).2.2 j hj
      rw [spot_add, spot_add] at this
      rw [this, hv]
    · obtain ⟨i, hi, rfl⟩ := List.mem_iff_getElem.1 ht
      exact (hp i _ (List.getElem?_eq_getElem hi)).2
theorem nodes_of {r : Reach} {b0 : Nat} {v : Value} {d : DataW H} {p : List MemPlace} (hv : Value.okWide Try.prog W r b0 24 v) (h : DataW.Trod enc Try.prog W 0 (fun _ => true) true 24 v d p) : ∃ (B : Option Addr) (c : Nat) (l : List NT), v = .slice B l.length c ∧ l.length ≤ maxLen ∧ Rd W 6 B l.length (l.flatMap NT.cells) ∧ InnL W l := by
  obtain ⟨A, n, c, rfl⟩ := okWide_slice Try.underlying24 hv
  obtain ⟨fuel, hf⟩ := h
  exact nodesF fuel _ _ (by simpa [Value.cells] using hf)
end
theorem join_len (m : Nat) (hm : m ≤ 63) (xs : List PT) (hx : ∀ x ∈ xs, (preP 0 x).length ≤ 120) (hn : xs.length ≤ 20) : (preP 0 (vecP (nestP m :: xs))).length ≤ 3000 := by
  have hlen : ∀ l : List PT, (∀ x ∈ l, (preP 0 x).length ≤ 120) → (preL 1 l).length ≤ 120 * l.length := by
    intro l
    induction l with
    | nil => intro _; rw [preL]; simp
    | cons t l ih =>
      intro h
      rw [preL, List.length_append, List.length_cons]
      have h1 := h t (by simp)
      have h2 := ih fun x hx => h x (by simp [hx])
      have h3 := preP_len 0 1 t
      rw [Nat.zero_add] at h3
      omega
  have hl := hlen xs hx
  unfold vecP
  rw [preP, preL, List.length_cons, List.length_append, nest_len, Nat.zero_add]
  omega
/-- What the trees joined so far are. -/
def Good (x : PT) : Prop := checkP x = 0 ∧ deepP x < 64 ∧ (preP 0 x).length ≤ 120
set_option maxRecDepth 100000 in
set_option maxHeartbeats 4000000 in
theorem joins_any (A : Option Addr) (c : Nat) (l : List NT) (deep : Int) (w : World) (hwf : (Lit.int .i64 deep).wf = true) (hl : l.length ≤ maxLen) (hr : Rd w 6 A l.length (l.flatMap NT.cells)) (hI : InnL w l) : Calls Try.prog 4 #[.slice A l.length c, .int .i64 deep] w fun e w' => e = .returned (.bool true) ∧ Below w.heap.size w w' := by
  obtain ⟨m, hm, hm5⟩ : ∃ m : Nat, deep % 64 = (m : Int) ∧ m ≤ 63 := ⟨(deep % 64).toNat, by omega, by omega⟩
  have cB := bring_any deep 64 (by decide) (by decide)
  rw [hm] at cB
  have cN := fun w => nest_any (m + 1) (by omega) w
  rw [Nat.add_sub_cancel, show ((m + 1 : Nat) : Int) = 1 + (m : Int) by omega] at cN
  have HCN := Lib.hid cN
  clear cN
  have hmz : (m : Int) ≤ 63 := by omega
  have hml : maxLen ≤ 9223372036854775807 := by unfold maxLen; decide
  have hl2 : (l.length : Int) ≤ 9223372036854775807 := by omega
  have HR := Lib.hid (And.intro hr hI)
  clear hm hr hI hl
  go_enter Try.func4, Try.ntmps4
  go_wp2_with (first
    | (go_at_call 14; refine (cB _).mono ?_; clear cB; rintro e w1 ⟨rfl, rfl⟩)
    | (go_at_call 13; refine (HCN.out _).mono ?_; rintro e w2 ⟨⟨t0, rfl, hn1, hn2, hn3, hn4⟩, hb2⟩; obtain ⟨k0, n0, u0, s0, kv0, ks0, lv0, l0⟩ := t0; have hI0 := hn2; rw [Is] at hI0; obtain ⟨_, ⟨A0, c0, rfl, _⟩, ⟨B0, d0, rfl, _⟩, _⟩ := hI0; rw [val_mk]; have HN := Lib.hid (And.intro hn1 (And.intro hn2 (And.intro hn3 (And.intro hn4 hb2)))); clear hn1 hn2 hn3 hn4 hb2))
  obtain ⟨W1, hW1⟩ : ∃ W1, w2.alloc (.cells #[.int .i64 k0, .int .i64 n0, .int .u64 u0, .string ⟨s0.toArray⟩, .slice A0 ks0.length c0, .slice B0 l0.length d0] 26) = W1 := ⟨_, rfl⟩
  have hkd : Kids w1.heap.size W1 (.slice (some ⟨w2.heap.size, 0, none⟩) 1 1) [(NT.mk k0 n0 u0 s0 (.slice A0 ks0.length c0) ks0 (.slice B0 l0.length d0) l0)] := by
    obtain ⟨q1, q2, q3, q4, q5⟩ := HN.out
    rw [← hW1]
    refine ⟨World.ownsRow_lit w2 _ 1 q5.size (by decide) rfl, isL_one (q2.alloc _), frL_one (q4.below ((Below.refl _ _).alloc (Nat.le_refl _) _)), fun g hg => offL_one (Is.off ?_ q2)⟩
    have hg : w2.heap.size = g := by injection hg
    omega
  have hb1 : Below w1.heap.size w1 W1 := by rw [← hW1]; exact HN.out.2.2.2.2.alloc HN.out.2.2.2.2.size _
  rw [hW1]
  have HK := Lib.hid (And.intro hkd (And.intro hb1 (And.intro HN.out.1 HN.out.2.2.1)))
  generalize w2.heap.size = b2 at HK ⊢
  clear hkd hb1 HN hW1 HCN
  obtain ⟨i0, hi, hz1, hz2, hz3⟩ : ∃ i0 : TypeInfo, Try.prog.info? 26 = some i0 ∧ i0.zero = some (.agg #[.int .i64 0, .int .i64 0, .int .u64 0, .string ⟨#[]⟩, .slice none 0 0, .slice none 0 0]) ∧ i0.size = 6 ∧ i0.bytes = 88 := by
      cases h : Try.prog.info? 26 with
      | none => have := info26f; rw [h] at this; cases this
      | some i0 =>
        have := info26f
        rw [h] at this
        simp only [Option.map_some, Option.some.injEq, Prod.mk.injEq] at this
        exact ⟨i0, rfl, this.1, this.2.1, this.2.2⟩
  replace hi := Lib.hid hi
  replace hz1 := Lib.hid hz1
  replace hz2 := Lib.hid hz2
  replace hz3 := Lib.hid hz3
  go_loopw [5, 6] (fun v i wr => ∃ (j : Nat) (ks : List NT), j ≤ l.length ∧ j ≤ 20 ∧ i = .int .i64 (j : Int) ∧ Kids w1.heap.size wr v ((NT.mk k0 n0 u0 s0 (.slice A0 ks0.length c0) ks0 (.slice B0 l0.length d0) l0) :: ks) ∧ KSmL ks ∧ (∀ x ∈ ptL ks, Good x) ∧ ks.length ≤ j ∧ Below w1.heap.size w1 wr) (fun _ i _ => l.length - (intOf i).toNat)
  case atStart => exact ⟨0, [], by omega, by omega, rfl, HK.out.1, by rw [KSmL]; trivial, by simp [ptL], by simp, HK.out.2.1⟩
  case round =>
    obtain ⟨j, ks, hj, hj20, rfl, hkd, hks, hgood, hkl, hb⟩ := hrel
    obtain ⟨VA, vc, hv, _, _⟩ := own_split hkd.own
    subst hv
    have hkl2 : (ks.length : Int) ≤ 20 := by omega
    have HB := Lib.hid hb
    have HKD := Lib.hid (And.intro hkd (And.intro hks (And.intro hgood hkl)))
    clear hkd hks hgood hb
    have hway : (j < l.length ∧ j < 20) ∨ (j = l.length ∨ (j < l.length ∧ j = 20)) := by omega
    rcases hway with ⟨hlt, hlt20⟩ | hstop
    · obtain ⟨b, o, hA, _⟩ := HR.out.1.at (by omega)
      subst hA
      obtain ⟨t, ht⟩ : ∃ t, l[j]? = some t := ⟨_, List.getElem?_eq_getElem hlt⟩
      have hmem : t ∈ l := List.mem_of_getElem? ht
      have hIt := (innL_mem HR.out.2 _ hmem).below HB.out
      have hF := fun (w' : World) (h : Below wr.heap.size wr w') => few_any t w' (hIt.below h)
      have hsize := few_size t.pt
      obtain ⟨p, hp⟩ : ∃ p, fewP t.pt = p := ⟨_, rfl⟩
      rw [hp] at hF hsize
      clear hp
      obtain ⟨k, n, u, s, kv, keys, lv, kids⟩ := t
      have hI1 := hIt
      rw [Inn] at hI1
      obtain ⟨_, ⟨A2, c2, rfl, _⟩, ⟨B2, d2, rfl, _⟩, _⟩ := hI1
      obtain ⟨a0, a1, a2, a3, a4, a5⟩ := node_at6 (HR.out.1.below HB.out) ht
      rw [val_mk] at hF
      have HF := Lib.hid hF
      have HP := Lib.hid hsize
      obtain ⟨q, hq⟩ : ∃ q, checkP p = q := ⟨_, rfl⟩
      obtain ⟨dd, hdd⟩ : ∃ dd, deepP p = dd := ⟨_, rfl⟩
      have hq100 : (q : Int) ≤ 100 := by have := checkP_le p; omega
      have hjl : (j : Int) < (l.length : Int) := by omega
      have hj20z : (j : Int) < 20 := by omega
      clear hF hsize hmem ht hIt
      by_cases hq0 : q = 0
      · subst hq0
        by_cases hd64 : dd < 64
        · have hd64z : (dd : Int) < 64 := by omega
          go_wp2_with (first
            | (go_at_call 8; refine (HF.out _ (Below.refl _ _)).mono ?_; rintro e w4 ⟨⟨x, rfl, hx1, hx2, hx3, hx4⟩, hb4⟩; obtain ⟨kx, nx, ux, sx, kvx, ksx, lvx, lx⟩ := x; have hI3 := hx2; rw [Is] at hI3; obtain ⟨_, ⟨A3, cc3, rfl, _⟩, ⟨B3, d3, rfl, _⟩, _⟩ := hI3; rw [val_mk]; have cK := check_any p (NT.mk kx nx ux sx (.slice A3 ksx.length cc3) ksx (.slice B3 lx.length d3) lx) _ hx1 (hx2.alloc (.cells #[.int .i64 kx, .int .i64 nx, .int .u64 ux, .string ⟨sx.toArray⟩, .slice A3 ksx.length cc3, .slice B3 lx.length d3] 26)) hx3 (by have := HP.out; omega); have cD := fun (w' : World) (h : Below (w4.alloc (.cells #[.int .i64 kx, .int .i64 nx, .int .u64 ux, .string ⟨sx.toArray⟩, .slice A3 ksx.length cc3, .slice B3 lx.length d3] 26)).heap.size (w4.alloc (.cells #[.int .i64 kx, .int .i64 nx, .int .u64 ux, .string ⟨sx.toArray⟩, .slice A3 ksx.length cc3, .slice B3 lx.length d3] 26)) w') => deep_any (NT.mk kx nx ux sx (.slice A3 ksx.length cc3) ksx (.slice B3 lx.length d3) lx) w' ((hx2.alloc (.cells #[.int .i64 kx, .int .i64 nx, .int .u64 ux, .string ⟨sx.toArray⟩, .slice A3 ksx.length cc3, .slice B3 lx.length d3] 26)).below h) hx3 (by rw [preT_len, hx1]; have := HP.out; omega); rw [val_mk, hq] at cK; rw [val_mk, deepL_pt, hx1, hdd] at cD; have hbl := heap_alloc_new w4 (.cells #[.int .i64 kx, .int .i64 nx, .int .u64 ux, .string ⟨sx.toArray⟩, .slice A3 ksx.length cc3, .slice B3 lx.length d3] 26); have HT := Lib.hid (And.intro hx1 (And.intro hx2 (And.intro hx3 (And.intro hx4 (And.intro hb4 hbl))))); have HD := Lib.hid cD; clear hx1 hx2 hx3 hx4 hb4 hbl cD)
            | (go_at_call 9; refine cK.mono ?_; clear cK; rintro e w5 ⟨rfl, hb5⟩; obtain ⟨f0, f1, f2, f3, f4, f5⟩ := sixC ((hb5.block _ (by simp)).trans HT.out.2.2.2.2.2); replace hb5 := Lib.hid hb5)
            | (go_at_call 15; refine (HD.out _ hb5.out).mono ?_; rintro e w6 ⟨rfl, hb6⟩; replace hb6 := Lib.hid (Below.trans hb5.out (Below.mono hb6 hb5.out.size)); obtain ⟨g0, g1, g2, g3, g4, g5⟩ := sixC ((hb6.out.block _ (by simp)).trans HT.out.2.2.2.2.2))
            | (at_builtin; ((have h4 := HT.out.2.2.2.2.1); (have h4a := h4.alloc h4.size (.cells #[.int .i64 kx, .int .i64 nx, .int .u64 ux, .string ⟨sx.toArray⟩, .slice A3 ksx.length cc3, .slice B3 lx.length d3] 26)); (have hbw6 := h4a.trans (hb6.out.mono h4a.size)); (have hkd7 := HKD.out.1.below hbw6); (have hsz6 := hbw6.size); (have hsz1 := HB.out.size); refine wpList_append_where rfl _ (.tmp 38) (.tmp 40) 24 rfl w1.heap.size 26 i0 (.agg #[.int .i64 0, .int .i64 0, .int .u64 0, .string ⟨#[]⟩, .slice none 0 0, .slice none 0 0]) 6 88 Try.underlying24 hi.out hz1.out hz2.out hz3.out rfl (by decide) _ (ks.length + 1) (((NT.mk k0 n0 u0 s0 (.slice A0 ks0.length c0) ks0 (.slice B0 l0.length d0) l0) :: ks).flatMap NT.cells) rfl (hkd7.own.alloc _) (some ⟨w6.heap.size, 0, none⟩) 1 1 (by decide) (NT.mk kx nx ux sx (.slice A3 ksx.length cc3) ksx (.slice B3 lx.length d3) lx).cells rfl (rd6 w6 _ rfl) (cells6 _ _ HT.out.2.1) (by unfold maxLen; omega) (by omega) (by rw [World.size_alloc]; omega) ?_; intro v' w7 hown7 hg7 hwh7; replace hkd7 := Lib.hid hkd7; replace hbw6 := Lib.hid hbw6; replace hown7 := Lib.hid hown7; replace hg7 := Lib.hid hg7; replace hwh7 := Lib.hid hwh7; clear h4 h4a hsz6 hsz1)))
          obtain ⟨q1, q2, q3, q4, q5, q6⟩ := HT.out
          have h6a := (Below.refl w6.heap.size w6).alloc (Nat.le_refl _) (.cells #[.int .i64 kx, .int .i64 nx, .int .u64 ux, .string ⟨sx.toArray⟩, .slice A3 ksx.length cc3, .slice B3 lx.length d3] 26)
          have hsz1 := HB.out.size
          have hs4 := q5.size
          have hu6 := ((q2.alloc (.cells #[.int .i64 kx, .int .i64 nx, .int .u64 ux, .string ⟨sx.toArray⟩, .slice A3 ksx.length cc3, .slice B3 lx.length d3] 26)).below hb6.out).below h6a
          have hf6 := ((q4.below ((Below.refl _ _).alloc (Nat.le_refl _) (.cells #[.int .i64 kx, .int .i64 nx, .int .u64 ux, .string ⟨sx.toArray⟩, .slice A3 ksx.length cc3, .slice B3 lx.length d3] 26))).below hb6.out).below h6a
          have hkd8 := hkd7.out.below h6a
          have hoff : ∀ g, (Value.slice VA ((NT.mk k0 n0 u0 s0 (.slice A0 ks0.length c0) ks0 (.slice B0 l0.length d0) l0) :: ks).length vc).ownBlock = some g → Off g (NT.mk kx nx ux sx (.slice A3 ksx.length cc3) ksx (.slice B3 lx.length d3) lx) := fun g hv => Fr.off (HKD.out.1.own.lt g hv).2 q4
          have hnext := hkd8.next hu6 (hf6.mono hsz1) hoff hown7.out hg7.out hwh7.out
          have h7 : Below w1.heap.size w1 w7 := (((HB.out.trans (hbw6.out.mono hsz1)).alloc (Nat.le_trans hsz1 hbw6.out.size) (.cells #[.int .i64 kx, .int .i64 nx, .int .u64 ux, .string ⟨sx.toArray⟩, .slice A3 ksx.length cc3, .slice B3 lx.length d3] 26))).trans (grown_below hkd8.own hg7.out (by have := hbw6.out.size; rw [World.size_alloc]; omega))
          have HNX := Lib.hid (And.intro hnext (And.intro h7 (And.intro q1 q3)))
          clear q1 q2 q3 q4 q5 q6 h6a hu6 hf6 hkd8 hoff hnext h7 hown7 hg7 hwh7 hkd7 hsz1 hs4
          go_roundw
          case rel =>
            refine ⟨j + 1, ks ++ [_], by omega, by omega, by simp, (show Kids _ _ _ (_ :: (ks ++ [_])) from HNX.out.1), ksmL_append HKD.out.2.1 (by rw [KSmL, KSmL]; exact ⟨HNX.out.2.2.2, trivial⟩), ?_, by simp; omega, HNX.out.2.1⟩
            intro y hy
            rw [ptL_snoc, HNX.out.2.2.1] at hy
            rcases List.mem_append.1 hy with hy | hy
            · exact HKD.out.2.2.1 y hy
            · obtain rfl := List.mem_singleton.1 hy
              exact ⟨hq, by rw [hdd]; exact hd64, HP.out⟩
          case measure => simp [intOf]; omega
        · have hd64z : ¬ (dd : Int) < 64 := by omega
          go_wp2_with (first
            | (go_at_call 8; refine (HF.out _ (Below.refl _ _)).mono ?_; rintro e w4 ⟨⟨x, rfl, hx1, hx2, hx3, hx4⟩, hb4⟩; obtain ⟨kx, nx, ux, sx, kvx, ksx, lvx, lx⟩ := x; have hI3 := hx2; rw [Is] at hI3; obtain ⟨_, ⟨A3, cc3, rfl, _⟩, ⟨B3, d3, rfl, _⟩, _⟩ := hI3; rw [val_mk]; have cK := check_any p (NT.mk kx nx ux sx (.slice A3 ksx.length cc3) ksx (.slice B3 lx.length d3) lx) _ hx1 (hx2.alloc (.cells #[.int .i64 kx, .int .i64 nx, .int .u64 ux, .string ⟨sx.toArray⟩, .slice A3 ksx.length cc3, .slice B3 lx.length d3] 26)) hx3 (by have := HP.out; omega); have cD := fun (w' : World) (h : Below (w4.alloc (.cells #[.int .i64 kx, .int .i64 nx, .int .u64 ux, .string ⟨sx.toArray⟩, .slice A3 ksx.length cc3, .slice B3 lx.length d3] 26)).heap.size (w4.alloc (.cells #[.int .i64 kx, .int .i64 nx, .int .u64 ux, .string ⟨sx.toArray⟩, .slice A3 ksx.length cc3, .slice B3 lx.length d3] 26)) w') => deep_any (NT.mk kx nx ux sx (.slice A3 ksx.length cc3) ksx (.slice B3 lx.length d3) lx) w' ((hx2.alloc (.cells #[.int .i64 kx, .int .i64 nx, .int .u64 ux, .string ⟨sx.toArray⟩, .slice A3 ksx.length cc3, .slice B3 lx.length d3] 26)).below h) hx3 (by rw [preT_len, hx1]; have := HP.out; omega); rw [val_mk, hq] at cK; rw [val_mk, deepL_pt, hx1, hdd] at cD; have hbl := heap_alloc_new w4 (.cells #[.int .i64 kx, .int .i64 nx, .int .u64 ux, .string ⟨sx.toArray⟩, .slice A3 ksx.length cc3, .slice B3 lx.length d3] 26); have HT := Lib.hid (And.intro hx1 (And.intro hx2 (And.intro hx3 (And.intro hx4 (And.intro hb4 hbl))))); have HD := Lib.hid cD; clear hx1 hx2 hx3 hx4 hb4 hbl cD)
            | (go_at_call 9; refine cK.mono ?_; clear cK; rintro e w5 ⟨rfl, hb5⟩; obtain ⟨f0, f1, f2, f3, f4, f5⟩ := sixC ((hb5.block _ (by simp)).trans HT.out.2.2.2.2.2); replace hb5 := Lib.hid hb5)
            | (go_at_call 15; refine (HD.out _ hb5.out).mono ?_; rintro e w6 ⟨rfl, hb6⟩; replace hb6 := Lib.hid (Below.trans hb5.out (Below.mono hb6 hb5.out.size)); obtain ⟨g0, g1, g2, g3, g4, g5⟩ := sixC ((hb6.out.block _ (by simp)).trans HT.out.2.2.2.2.2)))
          go_roundw
          case rel =>
            have h4 := HT.out.2.2.2.2.1
            have h4a := h4.alloc h4.size (.cells #[.int .i64 kx, .int .i64 nx, .int .u64 ux, .string ⟨sx.toArray⟩, .slice A3 ksx.length cc3, .slice B3 lx.length d3] 26)
            have h6 := h4a.trans (hb6.out.mono h4a.size)
            exact ⟨j + 1, ks, by omega, by omega, by simp, HKD.out.1.below h6, HKD.out.2.1, HKD.out.2.2.1, by omega, HB.out.trans (h6.mono HB.out.size)⟩
          case measure => simp [intOf]; omega
      · have hqz : ((q : Int) == 0) = false := by rw [beq_eq_false_iff_ne]; omega
        have hqn : ¬ (q : Int) = 0 := by omega
        go_wp2_with (first
            | (go_at_call 8; refine (HF.out _ (Below.refl _ _)).mono ?_; rintro e w4 ⟨⟨x, rfl, hx1, hx2, hx3, hx4⟩, hb4⟩; obtain ⟨kx, nx, ux, sx, kvx, ksx, lvx, lx⟩ := x; have hI3 := hx2; rw [Is] at hI3; obtain ⟨_, ⟨A3, cc3, rfl, _⟩, ⟨B3, d3, rfl, _⟩, _⟩ := hI3; rw [val_mk]; have cK := check_any p (NT.mk kx nx ux sx (.slice A3 ksx.length cc3) ksx (.slice B3 lx.length d3) lx) _ hx1 (hx2.alloc (.cells #[.int .i64 kx, .int .i64 nx, .int .u64 ux, .string ⟨sx.toArray⟩, .slice A3 ksx.length cc3, .slice B3 lx.length d3] 26)) hx3 (by have := HP.out; omega); have cD := fun (w' : World) (h : Below (w4.alloc (.cells #[.int .i64 kx, .int .i64 nx, .int .u64 ux, .string ⟨sx.toArray⟩, .slice A3 ksx.length cc3, .slice B3 lx.length d3] 26)).heap.size (w4.alloc (.cells #[.int .i64 kx, .int .i64 nx, .int .u64 ux, .string ⟨sx.toArray⟩, .slice A3 ksx.length cc3, .slice B3 lx.length d3] 26)) w') => deep_any (NT.mk kx nx ux sx (.slice A3 ksx.length cc3) ksx (.slice B3 lx.length d3) lx) w' ((hx2.alloc (.cells #[.int .i64 kx, .int .i64 nx, .int .u64 ux, .string ⟨sx.toArray⟩, .slice A3 ksx.length cc3, .slice B3 lx.length d3] 26)).below h) hx3 (by rw [preT_len, hx1]; have := HP.out; omega); rw [val_mk, hq] at cK; rw [val_mk, deepL_pt, hx1, hdd] at cD; have hbl := heap_alloc_new w4 (.cells #[.int .i64 kx, .int .i64 nx, .int .u64 ux, .string ⟨sx.toArray⟩, .slice A3 ksx.length cc3, .slice B3 lx.length d3] 26); have HT := Lib.hid (And.intro hx1 (And.intro hx2 (And.intro hx3 (And.intro hx4 (And.intro hb4 hbl))))); have HD := Lib.hid cD; clear hx1 hx2 hx3 hx4 hb4 hbl cD)
            | (go_at_call 9; refine cK.mono ?_; clear cK; rintro e w5 ⟨rfl, hb5⟩; obtain ⟨f0, f1, f2, f3, f4, f5⟩ := sixC ((hb5.block _ (by simp)).trans HT.out.2.2.2.2.2); replace hb5 := Lib.hid hb5))
        go_roundw
        case rel =>
          have h4 := HT.out.2.2.2.2.1
          have h4a := h4.alloc h4.size (.cells #[.int .i64 kx, .int .i64 nx, .int .u64 ux, .string ⟨sx.toArray⟩, .slice A3 ksx.length cc3, .slice B3 lx.length d3] 26)
          have h6 := h4a.trans (hb5.out.mono h4a.size)
          exact ⟨j + 1, ks, by omega, by omega, by simp, HKD.out.1.below h6, HKD.out.2.1, HKD.out.2.2.1, by omega, HB.out.trans (h6.mono HB.out.size)⟩
        case measure => simp [intOf]; omega
    · obtain ⟨hkd, hks, hgood, hkl⟩ := HKD.out
      have hrd : Rd wr 6 VA (ks.length + 1) (((NT.mk k0 n0 u0 s0 (.slice A0 ks0.length c0) ks0 (.slice B0 l0.length d0) l0) :: ks).flatMap NT.cells) := Rd.of_own hkd.own
      obtain ⟨b, o, hA, hbl⟩ := hrd.at (by omega)
      subst hA
      have hnd := fun (w' : World) (h : Below wr.heap.size wr w') => node_at6 (l := (NT.mk k0 n0 u0 s0 (.slice A0 ks0.length c0) ks0 (.slice B0 l0.length d0) l0) :: ks) (i := 0) (hrd.below h) rfl
      simp only [Nat.zero_mul, Nat.add_zero] at hnd
      have HND := Lib.hid hnd
      have hI0 := hkd.is
      rw [IsL] at hI0
      have HI0 := Lib.hid (And.intro hI0.1 (And.intro HK.out.2.2.2 HK.out.2.2.1))
      have hsz : ∀ x ∈ ptL ks, (preP 0 x).length ≤ 120 := fun x hx => (hgood x hx).2.2
      have hkl20 : (ptL ks).length ≤ 20 := by rw [ptL_len]; omega
      have hch := fun (w' : World) (h : Below wr.heap.size wr w') => check_any (vecP (nestP m :: ptL ks)) (vecT (.slice (some ⟨b, o, none⟩) (ks.length + 1) vc) ((NT.mk k0 n0 u0 s0 (.slice A0 ks0.length c0) ks0 (.slice B0 l0.length d0) l0) :: ks)) w' (by unfold vecT vecP; rw [NT.pt, ptL, HK.out.2.2.1]) (is_vec (l := (NT.mk k0 n0 u0 s0 (.slice A0 ks0.length c0) ks0 (.slice B0 l0.length d0) l0) :: ks) (hrd.below h) (by simp; omega) (IsL.below h hkd.is)) (ksm_vec (by simp; omega) (by rw [KSmL]; exact ⟨HK.out.2.2.2, hks⟩)) (by have := join_len m hm5 (ptL ks) hsz hkl20; omega)
      rw [check_join m hm5 (ptL ks) hgood hkl20] at hch
      unfold vecT at hch
      clear hkd hks hgood hkl hrd hbl hnd hI0 hsz hkl20
      by_cases hm63 : m = 63
      · rw [if_pos hm63] at hch
        have HCH := Lib.hid hch
        clear hch
        have hmz : ((m + 1 : Nat) : Int) = 64 := by omega
        rcases hstop with rfl | ⟨hlt, rfl⟩
        all_goals
          go_wp2_with (first
            | (go_at_call 16; refine (vec_any (some ⟨b, o, none⟩) (ks.length + 1) vc ((NT.mk k0 n0 u0 s0 (.slice A0 ks0.length c0) ks0 (.slice B0 l0.length d0) l0) :: ks) _).mono ?_; rintro e w4 ⟨rfl, hb4⟩; unfold vecT; rw [val_mk]; (have h8 := hb4.alloc hb4.size (.cells #[.int .i64 10, .int .i64 0, .int .u64 0, .string ⟨#[]⟩, .slice none 0 0, .slice (some ⟨b, o, none⟩) (ks.length + 1) vc] 26)); (obtain ⟨e0, e1, e2, e3, e4, e5⟩ := HND.out _ h8); (have cD := deep_any (NT.mk k0 n0 u0 s0 (.slice A0 ks0.length c0) ks0 (.slice B0 l0.length d0) l0) _ ((HI0.out.1).below h8) HI0.out.2.1 (by rw [preT_len, HI0.out.2.2, nest_len]; omega)); rw [val_mk, deepL_pt, HI0.out.2.2, nest_deep] at cD; (have hbl := heap_alloc_new w4 (.cells #[.int .i64 10, .int .i64 0, .int .u64 0, .string ⟨#[]⟩, .slice none 0 0, .slice (some ⟨b, o, none⟩) (ks.length + 1) vc] 26)); (have HV := Lib.hid (And.intro h8 hbl)); clear hb4 h8 hbl)
            | (go_at_call 15; refine cD.mono ?_; clear cD; rintro e w5 ⟨rfl, hb5⟩; (have hbl5 := (hb5.block _ (by simp)).trans HV.out.2); (obtain ⟨g0, g1, g2, g3, g4, g5⟩ := sixC (s := []) hbl5); (have h9 := HV.out.1.trans (hb5.mono HV.out.1.size)); (have cC := HCH.out _ h9); rw [val_mk] at cC; replace h9 := Lib.hid h9)
            | (go_at_call 9; refine cC.mono ?_; clear cC; rintro e w6 ⟨rfl, hb6⟩; replace hb6 := Lib.hid (h9.out.trans (hb6.mono h9.out.size)))
            | (go_at_call 12; refine (works_any _).mono ?_; rintro e w7 ⟨rfl, hb7⟩))
          go_ret
          exact ⟨rfl, HB.out.trans ((hb6.out.trans (hb7.mono hb6.out.size)).mono HB.out.size)⟩
      · rw [if_neg hm63] at hch
        have HCH := Lib.hid hch
        clear hch
        have hmz : ¬ ((m + 1 : Nat) : Int) = 64 := by omega
        rcases hstop with rfl | ⟨hlt, rfl⟩
        all_goals
          go_wp2_with (first
            | (go_at_call 16; refine (vec_any (some ⟨b, o, none⟩) (ks.length + 1) vc ((NT.mk k0 n0 u0 s0 (.slice A0 ks0.length c0) ks0 (.slice B0 l0.length d0) l0) :: ks) _).mono ?_; rintro e w4 ⟨rfl, hb4⟩; unfold vecT; rw [val_mk]; (have h8 := hb4.alloc hb4.size (.cells #[.int .i64 10, .int .i64 0, .int .u64 0, .string ⟨#[]⟩, .slice none 0 0, .slice (some ⟨b, o, none⟩) (ks.length + 1) vc] 26)); (obtain ⟨e0, e1, e2, e3, e4, e5⟩ := HND.out _ h8); (have cD := deep_any (NT.mk k0 n0 u0 s0 (.slice A0 ks0.length c0) ks0 (.slice B0 l0.length d0) l0) _ ((HI0.out.1).below h8) HI0.out.2.1 (by rw [preT_len, HI0.out.2.2, nest_len]; omega)); rw [val_mk, deepL_pt, HI0.out.2.2, nest_deep] at cD; (have hbl := heap_alloc_new w4 (.cells #[.int .i64 10, .int .i64 0, .int .u64 0, .string ⟨#[]⟩, .slice none 0 0, .slice (some ⟨b, o, none⟩) (ks.length + 1) vc] 26)); (have HV := Lib.hid (And.intro h8 hbl)); clear hb4 h8 hbl)
            | (go_at_call 15; refine cD.mono ?_; clear cD; rintro e w5 ⟨rfl, hb5⟩; (have hbl5 := (hb5.block _ (by simp)).trans HV.out.2); (obtain ⟨g0, g1, g2, g3, g4, g5⟩ := sixC (s := []) hbl5); (have h9 := HV.out.1.trans (hb5.mono HV.out.1.size)); (have cC := HCH.out _ h9); rw [val_mk] at cC; replace h9 := Lib.hid h9)
            | (go_at_call 9; refine cC.mono ?_; clear cC; rintro e w6 ⟨rfl, hb6⟩; replace hb6 := Lib.hid (h9.out.trans (hb6.mono h9.out.size)))
            | (go_at_call 12; refine (works_any _).mono ?_; rintro e w7 ⟨rfl, hb7⟩))
          go_ret
          exact ⟨rfl, HB.out.trans ((hb6.out.trans (hb7.mono hb6.out.size)).mono HB.out.size)⟩
theorem treeJoins_walk {H : Type} {enc : TypeId × Value → H} {r : Reach} {b0 : Nat} (v : Value) (deep : Int) (W : World) (hval : Value.okWide Try.prog W r b0 24 v) {d : DataW H} {p : List MemPlace} (h : DataW.Trod enc Try.prog W 0 (fun _ => true) true 24 v d p) (lt : ∀ x ∈ p, x.block < W.heap.size) (hwf : (Lit.int .i64 deep).wf = true) :
    Calls Try.prog 4 #[v, .int .i64 deep] W fun e w' => e = .returned (.bool true) ∧ Below W.heap.size W w' := by
  obtain ⟨A, c, l, rfl, hl, hr, hI⟩ := nodes_of hval h
  exact joins_any A c l deep W hwf hl hr hI
end Go.Proofs.Yteoggaioleckhaa
