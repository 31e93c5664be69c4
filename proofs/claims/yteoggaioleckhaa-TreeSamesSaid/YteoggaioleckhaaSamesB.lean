import Derived.Test.YteoggaioleckhaaSamesA
/- TreeSames' other drawn regions. Printed by gen06sames.py. -/
set_option linter.unusedVariables false
set_option linter.unusedSimpArgs false
namespace Go.Proofs.Yteoggaioleckhaa
open Go.RowKit
noncomputable def opsT : Array Oper := (Try.f6.body.bind (regionIn 60 3)).getD #[]
def tabT (x y c : NT) : Nat → Value → World → Prop
  | 0, v, _ => v = c.val
  | 1, v, _ => v = x.val
  | 2, v, _ => v = .bool true
  | 3, v, _ => v = .bool false
  | 4, v, _ => v = .bool false
  | 5, v, _ => v = x.val
  | 6, v, _ => v = y.val
  | 7, v, _ => v = .bool (eqv x.pt y.pt)
  | 8, v, _ => v = x.val
  | 9, v, _ => v = y.val
  | 10, v, _ => v = .bool (eqv x.pt y.pt)
  | 11, v, _ => v = .bool false
  | 12, v, _ => v = .bool false
  | 13, v, _ => v = .bool false
  | 14, v, _ => v = x.val
  | 15, v, _ => v = c.val
  | 16, v, _ => v = .bool true
  | 17, v, _ => v = .bool false
  | 18, v, _ => v = .bool false
  | _, _, _ => True
theorem tabT_up {x y c : NT} : ∀ (i : Nat) (v : Value) (w w' : World), tabT x y c i v w → Up w w' → tabT x y c i v w' := by
  intro i v w w' h hb
  unfold tabT at h ⊢
  split at h <;> first
    | exact h
    | (obtain ⟨x, h1, h2, h3⟩ := h; exact ⟨x, h1, h2, h3.below hb⟩)
    | trivial
set_option maxRecDepth 100000 in
set_option maxHeartbeats 2000000 in
theorem region_T (a0 : Act) (W : World) (Q : Exit → Act → World → Prop) (p7 p5 p6 : Nat) (x y c : NT) (hn : a0.tmps.size = 48)
    (h7 : a0.eval (.tmp 7) = .pointer (some ⟨p7, 0, none⟩)) (c7 : W.heap[p7]? = some (.cells c.cells.toArray 26 (0, 0)))
    (h5 : a0.eval (.tmp 5) = .pointer (some ⟨p5, 0, none⟩)) (c5 : W.heap[p5]? = some (.cells x.cells.toArray 26 (0, 0)))
    (h6 : a0.eval (.tmp 6) = .pointer (some ⟨p6, 0, none⟩)) (c6 : W.heap[p6]? = some (.cells y.cells.toArray 26 (0, 0)))
    (hx1 : Is W x) (hy1 : Is W y) (hc1 : Is W c) (hc2 : c.pt = x.pt)
    (hQ : ∀ a w, Up W w → FrKeep opsT a0 a → a.eval (.tmp 32) = .bool false → Q .normal a w) : (Code.region 3 opsT true).wp Try.prog Q a0 W := by
  refine wp_region_free 48 (fun w => Up W w) Up (tabT x y c) [(4, false), (13, false)] rfl hn (by kernel_rfl) (by kernel_rfl) tabT_up ?_ (below_drew_ W) (freeSteps_of _ 0 ?_) ?_
  · intro p hp v w hv
    simp only [List.mem_cons, List.mem_nil_iff, or_false] at hp
    rcases hp with rfl | rfl <;> exact hv
  · intro i o hi
    rw [Nat.zero_add]
    have hlt : i < 19 := by
      have := (List.getElem?_eq_some_iff.1 hi).1
      have h51 : opsT.toList.length = 19 := by kernel_rfl
      omega
    have hi' : opsT[i]? = some o := by simpa using hi
    clear hi
    by_cases hi0 : i = 0
    · subst hi0
      have h : some _ = some o := hi'
      injection h with h
      subst h
      intro a w hS hk hd
      exact step_load rfl ((hk 7 (by kernel_rfl)).trans h7) ((hS.block p7 (Array.getElem?_eq_some_iff.1 c7).1).trans c7) ⟨rfl, hS, Up.refl w⟩
    by_cases hi1 : i = 1
    · subst hi1
      have h : some _ = some o := hi'
      injection h with h
      subst h
      intro a w hS hk hd
      exact step_load rfl ((hk 5 (by kernel_rfl)).trans h5) ((hS.block p5 (Array.getElem?_eq_some_iff.1 c5).1).trans c5) ⟨rfl, hS, Up.refl w⟩
    by_cases hi2 : i = 2
    · subst hi2
      have h : some _ = some o := hi'
      injection h with h
      subst h
      intro a w hS hk hd
      have v14 : a.eval (.tmp 14) = c.val := hd 0 14 (by kernel_rfl)
      have v15 : a.eval (.tmp 15) = x.val := hd 1 15 (by kernel_rfl)
      refine step_calls 11 #[c.val, x.val] (by rw [eval_over v14, eval_over v15]; kernel_rfl) ?_
      have hc := eqNode_any c x w (hc1.below hS) (hx1.below hS)
      rw [hc2, eqv_true rfl] at hc
      exact hc.mono fun e w' ⟨he, hb⟩ => ⟨_, he, rfl, Up.trans hS hb, hb⟩
    by_cases hi3 : i = 3
    · subst hi3
      have h : some _ = some o := hi'
      injection h with h
      subst h
      intro a w hS hk hd
      have v16 : a.eval (.tmp 16) = .bool true := hd 2 16 (by kernel_rfl)
      exact step_val (u := .bool false) (by rw [eval_over v16]; kernel_rfl) ⟨rfl, hS, Up.refl w⟩
    by_cases hi4 : i = 4
    · subst hi4
      have h : some _ = some o := hi'
      injection h with h
      subst h
      intro a w hS hk hd
      have v17 : a.eval (.tmp 17) = .bool false := hd 3 17 (by kernel_rfl)
      exact step_val (u := .bool false) (by rw [eval_over v17]; kernel_rfl) ⟨rfl, hS, Up.refl w⟩
    by_cases hi5 : i = 5
    · subst hi5
      have h : some _ = some o := hi'
      injection h with h
      subst h
      intro a w hS hk hd
      exact step_load rfl ((hk 5 (by kernel_rfl)).trans h5) ((hS.block p5 (Array.getElem?_eq_some_iff.1 c5).1).trans c5) ⟨rfl, hS, Up.refl w⟩
    by_cases hi6 : i = 6
    · subst hi6
      have h : some _ = some o := hi'
      injection h with h
      subst h
      intro a w hS hk hd
      exact step_load rfl ((hk 6 (by kernel_rfl)).trans h6) ((hS.block p6 (Array.getElem?_eq_some_iff.1 c6).1).trans c6) ⟨rfl, hS, Up.refl w⟩
    by_cases hi7 : i = 7
    · subst hi7
      have h : some _ = some o := hi'
      injection h with h
      subst h
      intro a w hS hk hd
      have v19 : a.eval (.tmp 19) = x.val := hd 5 19 (by kernel_rfl)
      have v20 : a.eval (.tmp 20) = y.val := hd 6 20 (by kernel_rfl)
      refine step_calls 20 #[x.val, y.val] (by rw [eval_over v19, eval_over v20]; kernel_rfl) ?_
      have hc := same_any x y w (hx1.below hS) (hy1.below hS)
      exact hc.mono fun e w' ⟨he, hb⟩ => ⟨_, he, rfl, Up.trans hS hb, hb⟩
    by_cases hi8 : i = 8
    · subst hi8
      have h : some _ = some o := hi'
      injection h with h
      subst h
      intro a w hS hk hd
      exact step_load rfl ((hk 5 (by kernel_rfl)).trans h5) ((hS.block p5 (Array.getElem?_eq_some_iff.1 c5).1).trans c5) ⟨rfl, hS, Up.refl w⟩
    by_cases hi9 : i = 9
    · subst hi9
      have h : some _ = some o := hi'
      injection h with h
      subst h
      intro a w hS hk hd
      exact step_load rfl ((hk 6 (by kernel_rfl)).trans h6) ((hS.block p6 (Array.getElem?_eq_some_iff.1 c6).1).trans c6) ⟨rfl, hS, Up.refl w⟩
    by_cases hi10 : i = 10
    · subst hi10
      have h : some _ = some o := hi'
      injection h with h
      subst h
      intro a w hS hk hd
      have v22 : a.eval (.tmp 22) = x.val := hd 8 22 (by kernel_rfl)
      have v23 : a.eval (.tmp 23) = y.val := hd 9 23 (by kernel_rfl)
      refine step_calls 11 #[x.val, y.val] (by rw [eval_over v22, eval_over v23]; kernel_rfl) ?_
      have hc := eqNode_any x y w (hx1.below hS) (hy1.below hS)
      exact hc.mono fun e w' ⟨he, hb⟩ => ⟨_, he, rfl, Up.trans hS hb, hb⟩
    by_cases hi11 : i = 11
    · subst hi11
      have h : some _ = some o := hi'
      injection h with h
      subst h
      intro a w hS hk hd
      have v21 : a.eval (.tmp 21) = .bool (eqv x.pt y.pt) := hd 7 21 (by kernel_rfl)
      have v24 : a.eval (.tmp 24) = .bool (eqv x.pt y.pt) := hd 10 24 (by kernel_rfl)
      exact step_val (u := .bool false) (by rw [eval_over v21, eval_over v24]; cases (eqv x.pt y.pt) <;> kernel_rfl) ⟨rfl, hS, Up.refl w⟩
    by_cases hi12 : i = 12
    · subst hi12
      have h : some _ = some o := hi'
      injection h with h
      subst h
      intro a w hS hk hd
      have v18 : a.eval (.tmp 18) = .bool false := hd 4 18 (by kernel_rfl)
      have v25 : a.eval (.tmp 25) = .bool false := hd 11 25 (by kernel_rfl)
      exact step_val (u := .bool false) (by rw [eval_over v18, eval_over v25]; kernel_rfl) ⟨rfl, hS, Up.refl w⟩
    by_cases hi13 : i = 13
    · subst hi13
      have h : some _ = some o := hi'
      injection h with h
      subst h
      intro a w hS hk hd
      have v26 : a.eval (.tmp 26) = .bool false := hd 12 26 (by kernel_rfl)
      exact step_val (u := .bool false) (by rw [eval_over v26]; kernel_rfl) ⟨rfl, hS, Up.refl w⟩
    by_cases hi14 : i = 14
    · subst hi14
      have h : some _ = some o := hi'
      injection h with h
      subst h
      intro a w hS hk hd
      exact step_load rfl ((hk 5 (by kernel_rfl)).trans h5) ((hS.block p5 (Array.getElem?_eq_some_iff.1 c5).1).trans c5) ⟨rfl, hS, Up.refl w⟩
    by_cases hi15 : i = 15
    · subst hi15
      have h : some _ = some o := hi'
      injection h with h
      subst h
      intro a w hS hk hd
      exact step_load rfl ((hk 7 (by kernel_rfl)).trans h7) ((hS.block p7 (Array.getElem?_eq_some_iff.1 c7).1).trans c7) ⟨rfl, hS, Up.refl w⟩
    by_cases hi16 : i = 16
    · subst hi16
      have h : some _ = some o := hi'
      injection h with h
      subst h
      intro a w hS hk hd
      have v28 : a.eval (.tmp 28) = x.val := hd 14 28 (by kernel_rfl)
      have v29 : a.eval (.tmp 29) = c.val := hd 15 29 (by kernel_rfl)
      refine step_calls 20 #[x.val, c.val] (by rw [eval_over v28, eval_over v29]; kernel_rfl) ?_
      have hc := same_any x c w (hx1.below hS) (hc1.below hS)
      rw [hc2, eqv_true rfl] at hc
      exact hc.mono fun e w' ⟨he, hb⟩ => ⟨_, he, rfl, Up.trans hS hb, hb⟩
    by_cases hi17 : i = 17
    · subst hi17
      have h : some _ = some o := hi'
      injection h with h
      subst h
      intro a w hS hk hd
      have v30 : a.eval (.tmp 30) = .bool true := hd 16 30 (by kernel_rfl)
      exact step_val (u := .bool false) (by rw [eval_over v30]; kernel_rfl) ⟨rfl, hS, Up.refl w⟩
    by_cases hi18 : i = 18
    · subst hi18
      have h : some _ = some o := hi'
      injection h with h
      subst h
      intro a w hS hk hd
      have v27 : a.eval (.tmp 27) = .bool false := hd 13 27 (by kernel_rfl)
      have v31 : a.eval (.tmp 31) = .bool false := hd 17 31 (by kernel_rfl)
      exact step_val (u := .bool false) (by rw [eval_over v27, eval_over v31]; kernel_rfl) ⟨rfl, hS, Up.refl w⟩
    omega
  · intro a w hS hK hall
    obtain ⟨o, ho, hd⟩ := dst_get (show (opsT[18]?.bind (·.dst)) = some 32 by kernel_rfl)
    exact hQ a w hS hK (hall 18 o 32 ho hd)
noncomputable def opsU : Array Oper := (Try.f6.body.bind (regionIn 60 6)).getD #[]
def tabU (x y ta tb : NT) : Nat → Value → World → Prop
  | 0, v, _ => v = x.val
  | 1, v, _ => v = ta.val
  | 2, v, w => ∃ x : NT, v = x.val ∧ x.pt = fewP ta.pt ∧ Is w x
  | 3, v, _ => v = .bool true
  | 4, v, _ => v = .bool true
  | 5, v, _ => v = y.val
  | 6, v, _ => v = tb.val
  | 7, v, w => ∃ x : NT, v = x.val ∧ x.pt = fewP tb.pt ∧ Is w x
  | 8, v, _ => v = .bool true
  | 9, v, _ => v = .bool true
  | 10, v, _ => v = .bool true
  | 11, v, _ => v = .bool true
  | 12, v, _ => v = .bool true
  | 13, v, _ => v = .bool true
  | _, _, _ => True
theorem tabU_up {x y ta tb : NT} : ∀ (i : Nat) (v : Value) (w w' : World), tabU x y ta tb i v w → Up w w' → tabU x y ta tb i v w' := by
  intro i v w w' h hb
  unfold tabU at h ⊢
  split at h <;> first
    | exact h
    | (obtain ⟨x, h1, h2, h3⟩ := h; exact ⟨x, h1, h2, h3.below hb⟩)
    | trivial
set_option maxRecDepth 100000 in
set_option maxHeartbeats 2000000 in
theorem region_U (a0 : Act) (W : World) (Q : Exit → Act → World → Prop) (p5 p2 p6 p3 : Nat) (x y ta tb : NT) (hn : a0.tmps.size = 48)
    (h5 : a0.eval (.tmp 5) = .pointer (some ⟨p5, 0, none⟩)) (c5 : W.heap[p5]? = some (.cells x.cells.toArray 26 (0, 0)))
    (h2 : a0.eval (.tmp 2) = .pointer (some ⟨p2, 0, none⟩)) (c2 : W.heap[p2]? = some (.cells ta.cells.toArray 26 (0, 0)))
    (h6 : a0.eval (.tmp 6) = .pointer (some ⟨p6, 0, none⟩)) (c6 : W.heap[p6]? = some (.cells y.cells.toArray 26 (0, 0)))
    (h3 : a0.eval (.tmp 3) = .pointer (some ⟨p3, 0, none⟩)) (c3 : W.heap[p3]? = some (.cells tb.cells.toArray 26 (0, 0)))
    (hx1 : Is W x) (hy1 : Is W y) (ha : Inn W ta) (hb : Inn W tb) (hx2 : x.pt = fewP ta.pt) (hy2 : y.pt = fewP tb.pt)
    (hQ : ∀ a w, Up W w → FrKeep opsU a0 a → a.eval (.tmp 4) = .bool true → Q .normal a w) : (Code.region 6 opsU true).wp Try.prog Q a0 W := by
  refine wp_region_free 48 (fun w => Up W w) Up (tabU x y ta tb) [(4, true), (10, true)] rfl hn (by kernel_rfl) (by kernel_rfl) tabU_up ?_ (below_drew_ W) (freeSteps_of _ 0 ?_) ?_
  · intro p hp v w hv
    simp only [List.mem_cons, List.mem_nil_iff, or_false] at hp
    rcases hp with rfl | rfl <;> exact hv
  · intro i o hi
    rw [Nat.zero_add]
    have hlt : i < 14 := by
      have := (List.getElem?_eq_some_iff.1 hi).1
      have h51 : opsU.toList.length = 14 := by kernel_rfl
      omega
    have hi' : opsU[i]? = some o := by simpa using hi
    clear hi
    by_cases hi0 : i = 0
    · subst hi0
      have h : some _ = some o := hi'
      injection h with h
      subst h
      intro a w hS hk hd
      exact step_load rfl ((hk 5 (by kernel_rfl)).trans h5) ((hS.block p5 (Array.getElem?_eq_some_iff.1 c5).1).trans c5) ⟨rfl, hS, Up.refl w⟩
    by_cases hi1 : i = 1
    · subst hi1
      have h : some _ = some o := hi'
      injection h with h
      subst h
      intro a w hS hk hd
      exact step_load rfl ((hk 2 (by kernel_rfl)).trans h2) ((hS.block p2 (Array.getElem?_eq_some_iff.1 c2).1).trans c2) ⟨rfl, hS, Up.refl w⟩
    by_cases hi2 : i = 2
    · subst hi2
      have h : some _ = some o := hi'
      injection h with h
      subst h
      intro a w hS hk hd
      have v36 : a.eval (.tmp 36) = ta.val := hd 1 36 (by kernel_rfl)
      refine step_calls 8 #[ta.val] (by rw [eval_over v36]; kernel_rfl) ?_
      exact (few_any ta w (ha.below hS)).mono fun e w' ⟨⟨x, he, h1, h2, _⟩, hb⟩ => ⟨_, he, ⟨x, rfl, h1, h2⟩, Up.trans hS hb, hb⟩
    by_cases hi3 : i = 3
    · subst hi3
      have h : some _ = some o := hi'
      injection h with h
      subst h
      intro a w hS hk hd
      have v35 : a.eval (.tmp 35) = x.val := hd 0 35 (by kernel_rfl)
      obtain ⟨z, v37, hz1, hz2⟩ : ∃ x : NT, a.eval (.tmp 37) = x.val ∧ x.pt = fewP ta.pt ∧ Is w x := hd 2 37 (by kernel_rfl)
      refine step_calls 11 #[x.val, z.val] (by rw [eval_over v35, eval_over v37]; kernel_rfl) ?_
      have hc := eqNode_any x z w (hx1.below hS) hz2
      rw [hz1, hx2, eqv_true rfl] at hc
      exact hc.mono fun e w' ⟨he, hb⟩ => ⟨_, he, rfl, Up.trans hS hb, hb⟩
    by_cases hi4 : i = 4
    · subst hi4
      have h : some _ = some o := hi'
      injection h with h
      subst h
      intro a w hS hk hd
      have v38 : a.eval (.tmp 38) = .bool true := hd 3 38 (by kernel_rfl)
      exact step_val (u := .bool true) (by rw [eval_over v38]; kernel_rfl) ⟨rfl, hS, Up.refl w⟩
    by_cases hi5 : i = 5
    · subst hi5
      have h : some _ = some o := hi'
      injection h with h
      subst h
      intro a w hS hk hd
      exact step_load rfl ((hk 6 (by kernel_rfl)).trans h6) ((hS.block p6 (Array.getElem?_eq_some_iff.1 c6).1).trans c6) ⟨rfl, hS, Up.refl w⟩
    by_cases hi6 : i = 6
    · subst hi6
      have h : some _ = some o := hi'
      injection h with h
      subst h
      intro a w hS hk hd
      exact step_load rfl ((hk 3 (by kernel_rfl)).trans h3) ((hS.block p3 (Array.getElem?_eq_some_iff.1 c3).1).trans c3) ⟨rfl, hS, Up.refl w⟩
    by_cases hi7 : i = 7
    · subst hi7
      have h : some _ = some o := hi'
      injection h with h
      subst h
      intro a w hS hk hd
      have v41 : a.eval (.tmp 41) = tb.val := hd 6 41 (by kernel_rfl)
      refine step_calls 8 #[tb.val] (by rw [eval_over v41]; kernel_rfl) ?_
      exact (few_any tb w (hb.below hS)).mono fun e w' ⟨⟨x, he, h1, h2, _⟩, hb⟩ => ⟨_, he, ⟨x, rfl, h1, h2⟩, Up.trans hS hb, hb⟩
    by_cases hi8 : i = 8
    · subst hi8
      have h : some _ = some o := hi'
      injection h with h
      subst h
      intro a w hS hk hd
      have v40 : a.eval (.tmp 40) = y.val := hd 5 40 (by kernel_rfl)
      obtain ⟨z, v42, hz1, hz2⟩ : ∃ x : NT, a.eval (.tmp 42) = x.val ∧ x.pt = fewP tb.pt ∧ Is w x := hd 7 42 (by kernel_rfl)
      refine step_calls 11 #[y.val, z.val] (by rw [eval_over v40, eval_over v42]; kernel_rfl) ?_
      have hc := eqNode_any y z w (hy1.below hS) hz2
      rw [hz1, hy2, eqv_true rfl] at hc
      exact hc.mono fun e w' ⟨he, hb⟩ => ⟨_, he, rfl, Up.trans hS hb, hb⟩
    by_cases hi9 : i = 9
    · subst hi9
      have h : some _ = some o := hi'
      injection h with h
      subst h
      intro a w hS hk hd
      have v39 : a.eval (.tmp 39) = .bool true := hd 4 39 (by kernel_rfl)
      have v43 : a.eval (.tmp 43) = .bool true := hd 8 43 (by kernel_rfl)
      exact step_val (u := .bool true) (by rw [eval_over v39, eval_over v43]; kernel_rfl) ⟨rfl, hS, Up.refl w⟩
    by_cases hi10 : i = 10
    · subst hi10
      have h : some _ = some o := hi'
      injection h with h
      subst h
      intro a w hS hk hd
      have v44 : a.eval (.tmp 44) = .bool true := hd 9 44 (by kernel_rfl)
      exact step_val (u := .bool true) (by rw [eval_over v44]; kernel_rfl) ⟨rfl, hS, Up.refl w⟩
    by_cases hi11 : i = 11
    · subst hi11
      have h : some _ = some o := hi'
      injection h with h
      subst h
      intro a w hS hk hd
      refine step_calls 12 #[] (by kernel_rfl) ?_
      have hc := works_any w
      exact hc.mono fun e w' ⟨he, hb⟩ => ⟨_, he, rfl, Up.trans hS hb, hb⟩
    by_cases hi12 : i = 12
    · subst hi12
      have h : some _ = some o := hi'
      injection h with h
      subst h
      intro a w hS hk hd
      have v45 : a.eval (.tmp 45) = .bool true := hd 10 45 (by kernel_rfl)
      have v46 : a.eval (.tmp 46) = .bool true := hd 11 46 (by kernel_rfl)
      exact step_val (u := .bool true) (by rw [eval_over v45, eval_over v46]; kernel_rfl) ⟨rfl, hS, Up.refl w⟩
    by_cases hi13 : i = 13
    · subst hi13
      have h : some _ = some o := hi'
      injection h with h
      subst h
      intro a w hS hk hd
      have v47 : a.eval (.tmp 47) = .bool true := hd 12 47 (by kernel_rfl)
      exact step_val (u := .bool true) (by rw [eval_over v47]; kernel_rfl) ⟨rfl, hS, Up.refl w⟩
    omega
  · intro a w hS hK hall
    obtain ⟨o, ho, hd⟩ := dst_get (show (opsU[13]?.bind (·.dst)) = some 4 by kernel_rfl)
    exact hQ a w hS hK (hall 13 o 4 ho hd)
end Go.Proofs.Yteoggaioleckhaa
