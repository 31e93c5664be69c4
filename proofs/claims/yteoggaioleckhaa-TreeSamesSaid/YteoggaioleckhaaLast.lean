import Derived.Test.YteoggaioleckhaaKit
import Derived.Deep.MidRow
set_option linter.unusedVariables false
set_option linter.unusedSimpArgs false
namespace Go.Proofs.Yteoggaioleckhaa
open Go.RowKit
noncomputable def regionIn : Nat → Nat → Code → Option (Array Oper)
  | 0, _, _ => none
  | n + 1, id, .region i ops d => if i = id then some ops else none
  | n + 1, id, .seq a b => match regionIn n id a with | some o => some o | none => regionIn n id b
  | n + 1, id, .block _ c => regionIn n id c
  | n + 1, id, .loop c => regionIn n id c
  | n + 1, id, .cond _ a b => match regionIn n id a with | some o => some o | none => regionIn n id b
  | _, _, _ => none
noncomputable def ops17 : Array Oper := (Try.f12.body.bind (regionIn 60 17)).getD #[]
example : ops17.size = 51 := by kernel_rfl
theorem freeSteps_of {F : Nat → Oper → Prop} : ∀ (l : List Oper) (k : Nat), (∀ i o, l[i]? = some o → F (k + i) o) → freeSteps F l k
  | [], k, h => trivial
  | o :: l, k, h => ⟨h 0 o rfl, freeSteps_of l (k + 1) fun i o' hi => by have := h (i + 1) o' (by simpa using hi); rwa [show k + 1 + i = k + (i + 1) by omega]⟩
theorem run_built {P : Program} (w : World) (t e : TypeId) (len : Nat) (parts : Array (Nat × Value)) (cells : Array Value) (hu : P.underlying t = some (.slice e)) (hf : P.builtSlice e len parts.toList = some cells) :
    (Instr.buildSlice t len parts).run P w = .ok (.slice (some ⟨w.heap.size, 0, none⟩) len len) (w.alloc (.cells cells e)) := by
  unfold Program.builtSlice at hf
  cases hie : P.info? e with
  | none => simp [hie] at hf
  | some ie =>
    simp only [hie] at hf
    cases hz : ie.zero with
    | none => simp [hz] at hf
    | some z =>
      simp only [hz] at hf
      by_cases hc : len * ie.size > 2 ^ 24 ∨ len * ie.size = 0
      · simp [hc] at hf
      · rw [if_neg hc] at hf
        exact run_buildSlice w t e len parts cells ie z hu hie hz (fun h' => hc (Or.inl h')) (fun h' => hc (Or.inr h')) hf
/-- What is said of a value. -/
inductive Say where
  | eq (v : Value)
  | strs (ks : List (List UInt8))
  | nodes (ps : List PT)
  | tree (p : PT)
def Say.holds : Say → Value → World → Prop
  | .eq u, v, _ => v = u
  | .strs ks, v, w => ∃ A c, v = .slice A ks.length c ∧ Rd w 1 A ks.length (ks.map strv)
  | .nodes ps, v, w => ∃ A c l, v = .slice A l.length c ∧ ptL l = ps ∧ Trees w A l
  | .tree p, v, w => ∃ t, v = t.val ∧ t.pt = p ∧ Is w t ∧ KSm t
theorem Say.up {s : Say} {v : Value} {w w' : World} (h : s.holds v w) (hb : Up w w') : s.holds v w' := by
  cases s with
  | eq u => exact h
  | strs ks => obtain ⟨A, c, e, hr⟩ := h; exact ⟨A, c, e, hr.below hb⟩
  | nodes ps => obtain ⟨A, c, l, e, hp, ht⟩ := h; exact ⟨A, c, l, e, hp, ht.up hb⟩
  | tree p => obtain ⟨t, e, hp, ht, hk⟩ := h; exact ⟨t, e, hp, ht.below hb, hk⟩
def keyZ : PT := .mk 5 0 0 [97, 0] [] []
def tabP : PT := .mk 17 0 0 [] [[97], [97]] [fiveP, fiveP]
def tab (T ta tb : NT) : Nat → Say
  | 0 => .tree keyZ
  | 1 => .eq (.int .i64 70)
  | 4 => .strs [[97], [97]]
  | 5 => .eq (numT 5).val
  | 6 => .eq (numT 5).val
  | 7 => .nodes [fiveP, fiveP]
  | 8 => .tree tabP
  | 9 => .eq (.int .i64 71)
  | 13 => .eq T.val
  | 14 => .eq (.int .i64 5)
  | 18 => .eq T.val
  | 19 => .eq (.int .i64 3)
  | 26 => .eq ta.val
  | 27 => .eq (numT 5).val
  | 28 => .eq (numT 5).val
  | 29 => .nodes [fiveP, fiveP]
  | 30 => .tree twoP
  | 37 => .eq tb.val
  | 38 => .eq (numT 5).val
  | 42 => .eq (.bool false)
  | 46 => .tree (nestP 64)
  | 47 => .eq (.int .i64 61)
  | _ => .eq (.bool true)
def over (d : Tmp) (v : Value) (ρ : Operand → Value) : Operand → Value
  | .tmp t => if (t == d) = true then v else ρ (.tmp t)
  | x => ρ x
theorem eval_over {a : Act} {d : Tmp} {v : Value} (h : a.eval (.tmp d) = v) : a.eval = over d v a.eval := by
  funext x
  cases x with
  | tmp t =>
    unfold over
    by_cases e : t = d
    · subst e; simp [h]
    · simp [e]
  | _ => rfl
theorem step_load {o : Oper} {a : Act} {w : World} {D : Value → World → Prop} {x : Operand} {b : Nat} {t : NT} (ho : o.op = .load 26 x) (hx : a.eval x = .pointer (some ⟨b, 0, none⟩)) (hc : w.heap[b]? = some (.cells t.cells.toArray 26 (0, 0))) (h : D t.val w) : stepAt Try.prog o a w D := by
  refine step_val (u := t.val) (w' := w) ?_ h
  have hl := run_loadAt_mid (P := Try.prog) w b 0 26 t.cells _ (fun j v hv => by rw [cell_of_row _ _ _ _ _ _ hc, Nat.zero_add]; simpa using hv) Try.underlying26 rfl (by rw [cells_len]; exact info26)
  unfold execOp
  simp only [ho, hx, Sem.run_bind, hl, Result.andThen_ok]
  rfl
theorem step_built {P : Program} {o : Oper} {ρ : Operand → Value} {w : World} {t e : TypeId} {len : Nat} {parts : Array (Nat × Operand)} {cells : Array Value} (ho : o.op = .buildSlice t len parts) (hu : P.underlying t = some (.slice e)) (hf : P.builtSlice e len (parts.map fun (i, x) => (i, ρ x)).toList = some cells) : (execOp ρ o).run P w = .ok (.value (.slice (some ⟨w.heap.size, 0, none⟩) len len)) (w.alloc (.cells cells e)) := by
  unfold execOp
  simp only [ho, Sem.run_bind, run_built w t e len _ cells hu hf, Result.andThen_ok]
  rfl
theorem deepL_map (l : List (Nat × NT)) (m : Nat) : l.foldl (fun m x => max m (x.1 + 1)) m = (l.map (fun x => (x.1, x.2.pt))).foldl (fun m x => max m (x.1 + 1)) m := by
  induction l generalizing m with
  | nil => rfl
  | cons x l ih => rw [List.foldl_cons, List.map_cons, List.foldl_cons]; exact ih _
theorem deepL_pt (t : NT) : deepL (preT 0 t) = deepP t.pt := by
  unfold deepL deepP
  rw [deepL_map, preT_pt]
set_option maxRecDepth 100000 in
set_option maxHeartbeats 2000000 in
theorem last_region (a0 : Act) (W : World) (Q : Exit → Act → World → Prop) (T ta tb : NT) (B5 B6 B8 : Nat) (hn : a0.tmps.size = 132)
    (h5 : a0.eval (.tmp 5) = .pointer (some ⟨B5, 0, none⟩)) (h6 : a0.eval (.tmp 6) = .pointer (some ⟨B6, 0, none⟩)) (h7 : a0.eval (.tmp 7) = .bool true) (h8 : a0.eval (.tmp 8) = .pointer (some ⟨B8, 0, none⟩)) (h9 : a0.eval (.tmp 9) = .bool true) (h11 : a0.eval (.tmp 11) = .bool false)
    (hT : Is W T ∧ KSm T ∧ T.pt = bothP) (ha : Is W ta ∧ ta.pt = twoP) (hb : Is W tb ∧ tb.pt = fiveP)
    (hc5 : W.heap[B5]? = some (.cells T.cells.toArray 26 (0, 0))) (hc6 : W.heap[B6]? = some (.cells ta.cells.toArray 26 (0, 0))) (hc8 : W.heap[B8]? = some (.cells tb.cells.toArray 26 (0, 0)))
    (hQ : ∀ a w, Up W w → a.eval (.tmp 0) = .bool true → a.defers = a0.defers → Q .normal a w) : (Code.region 17 ops17 true).wp Try.prog Q a0 W := by
  refine wp_region_free 132 (fun w => Up W w) Up (fun i v w => (tab T ta tb i).holds v w) [(3, true), (12, true), (17, true), (22, true), (25, true), (33, true), (36, true), (41, true), (45, true)] rfl hn (by kernel_rfl) (by kernel_rfl) (fun i v w w' h hb => Say.up h hb) ?_ (below_drew_ W) (freeSteps_of _ 0 ?_) ?_
  · intro p hp v w hv
    simp only [List.mem_cons, List.mem_nil_iff, or_false] at hp
    rcases hp with rfl | rfl | rfl | rfl | rfl | rfl | rfl | rfl | rfl <;> exact hv
  · intro i o hi
    rw [Nat.zero_add]
    have hlt : i < 51 := by
      have := (List.getElem?_eq_some_iff.1 hi).1
      have h51 : ops17.toList.length = 51 := by kernel_rfl
      omega
    have hi' : ops17[i]? = some o := by simpa using hi
    clear hi
    by_cases hi0 : i = 0
    · subst hi0
      have h : some _ = some o := hi'
      injection h with h
      subst h
      intro a w hS hk hd
      refine step_calls 29 #[.string ⟨#[97, 0]⟩] (by kernel_rfl) ?_
      exact (key_any [97, 0] w).mono fun e w' ⟨he, hb⟩ => ⟨_, he, ⟨keyT [97, 0], rfl, rfl, is_key (by simp), ksm_key _⟩, Up.trans hS hb, hb⟩
    by_cases hi1 : i = 1
    · subst hi1
      have h : some _ = some o := hi'
      injection h with h
      subst h
      intro a w hS hk hd
      obtain ⟨t, v82, hp, ht, hkt⟩ := hd 0 82 (by kernel_rfl)
      have hc := check_any keyZ t w hp ht hkt (by decide)
      rw [(show checkP keyZ = 70 from by kernel_rfl)] at hc
      refine step_calls 9 #[t.val] (by rw [eval_over v82]; kernel_rfl) ?_
      exact hc.mono fun e w' ⟨he, hb⟩ => ⟨_, he, rfl, Up.trans hS hb, hb⟩
    by_cases hi2 : i = 2
    · subst hi2
      have h : some _ = some o := hi'
      injection h with h
      subst h
      intro a w hS hk hd
      have v83 : a.eval (.tmp 83) = .int .i64 70 := hd 1 83 (by kernel_rfl)
      exact step_val (u := .bool true) (by rw [eval_over v83]; kernel_rfl) ⟨rfl, hS, Up.refl w⟩
    by_cases hi3 : i = 3
    · subst hi3
      have h : some _ = some o := hi'
      injection h with h
      subst h
      intro a w hS hk hd
      have v84 : a.eval (.tmp 84) = .bool true := hd 2 84 (by kernel_rfl)
      exact step_val (u := .bool true) (by rw [eval_over v84]; kernel_rfl) ⟨rfl, hS, Up.refl w⟩
    by_cases hi4 : i = 4
    · subst hi4
      have h : some _ = some o := hi'
      injection h with h
      subst h
      intro a w hS hk hd
      refine step_val (u := .slice (some ⟨w.heap.size, 0, none⟩) 2 2) (w' := w.alloc (.cells #[.string ⟨#[97]⟩, .string ⟨#[97]⟩] 9)) (step_built (parts := #[(0, .const (.string ⟨#[97]⟩)), (1, .const (.string ⟨#[97]⟩))]) (by kernel_rfl) (cells := #[.string ⟨#[97]⟩, .string ⟨#[97]⟩]) (e := 9) (t := 23) rfl (by kernel_rfl)) ⟨⟨some ⟨w.heap.size, 0, none⟩, 2, rfl, ?_⟩, Up.trans hS (Up.alloc _ _), Up.alloc _ _⟩
      exact rdN w (([[97], [97]] : List (List UInt8)).map strv) 2 1 9 rfl
    by_cases hi5 : i = 5
    · subst hi5
      have h : some _ = some o := hi'
      injection h with h
      subst h
      intro a w hS hk hd
      refine step_calls 17 #[.int .i64 5] (by kernel_rfl) ?_
      exact (num_any 5 w).mono fun e w' ⟨he, hb⟩ => ⟨_, he, rfl, Up.trans hS hb, hb⟩
    by_cases hi6 : i = 6
    · subst hi6
      have h : some _ = some o := hi'
      injection h with h
      subst h
      intro a w hS hk hd
      refine step_calls 17 #[.int .i64 5] (by kernel_rfl) ?_
      exact (num_any 5 w).mono fun e w' ⟨he, hb⟩ => ⟨_, he, rfl, Up.trans hS hb, hb⟩
    by_cases hi7 : i = 7
    · subst hi7
      have h : some _ = some o := hi'
      injection h with h
      subst h
      intro a w hS hk hd
      have v87 : a.eval (.tmp 87) = (numT 5).val := hd 5 87 (by kernel_rfl)
      have v88 : a.eval (.tmp 88) = (numT 5).val := hd 6 88 (by kernel_rfl)
      refine step_val (u := .slice (some ⟨w.heap.size, 0, none⟩) 2 2) (w' := w.alloc (.cells (([numT 5, numT 5] : List NT).flatMap NT.cells).toArray 26)) (by rw [eval_over v87, eval_over v88]; exact step_built (parts := #[(0, .tmp 87), (1, .tmp 88)]) (by kernel_rfl) (e := 26) (t := 24) rfl (by kernel_rfl)) ⟨⟨some ⟨w.heap.size, 0, none⟩, 2, [numT 5, numT 5], rfl, rfl, ?_⟩, Up.trans hS (Up.alloc _ _), Up.alloc _ _⟩
      exact trees_new w [numT 5, numT 5] (by rw [IsL, IsL, IsL]; exact ⟨is_num (by decide), is_num (by decide), trivial⟩) (ksmL_of (by simp [ksm_num]))
    by_cases hi8 : i = 8
    · subst hi8
      have h : some _ = some o := hi'
      injection h with h
      subst h
      intro a w hS hk hd
      obtain ⟨A, c, v86, hr⟩ := hd 4 86 (by kernel_rfl)
      obtain ⟨B, d, l, v89, hl, hl2⟩ := hd 7 89 (by kernel_rfl)
      have hll : l.length = 2 := by have := congrArg List.length hl; rwa [ptL_len] at this
      refine step_calls 30 #[.slice A 2 c, .slice B l.length d] (by rw [eval_over v86, eval_over v89]; kernel_rfl) ?_
      exact (table_any A 2 c [[97], [97]] B l.length d l w).mono fun e w' ⟨he, hb⟩ => ⟨_, he, ⟨tableT (.slice A 2 c) [[97], [97]] (.slice B l.length d) l, rfl, by unfold tableT tabP; rw [NT.pt, hl], (is_table (c := c) (d := d) hr (by simp) (by simp) hl2.row (by omega) hl2.is).below hb, ksm_table (by simp) (by omega) hl2.small⟩, Up.trans hS hb, hb⟩
    by_cases hi9 : i = 9
    · subst hi9
      have h : some _ = some o := hi'
      injection h with h
      subst h
      intro a w hS hk hd
      obtain ⟨t, v90, hp, ht, hkt⟩ := hd 8 90 (by kernel_rfl)
      have hc := check_any tabP t w hp ht hkt (by decide)
      rw [(show checkP tabP = 71 from by kernel_rfl)] at hc
      refine step_calls 9 #[t.val] (by rw [eval_over v90]; kernel_rfl) ?_
      exact hc.mono fun e w' ⟨he, hb⟩ => ⟨_, he, rfl, Up.trans hS hb, hb⟩
    by_cases hi10 : i = 10
    · subst hi10
      have h : some _ = some o := hi'
      injection h with h
      subst h
      intro a w hS hk hd
      have v91 : a.eval (.tmp 91) = .int .i64 71 := hd 9 91 (by kernel_rfl)
      exact step_val (u := .bool true) (by rw [eval_over v91]; kernel_rfl) ⟨rfl, hS, Up.refl w⟩
    by_cases hi11 : i = 11
    · subst hi11
      have h : some _ = some o := hi'
      injection h with h
      subst h
      intro a w hS hk hd
      have v85 : a.eval (.tmp 85) = .bool true := hd 3 85 (by kernel_rfl)
      have v92 : a.eval (.tmp 92) = .bool true := hd 10 92 (by kernel_rfl)
      exact step_val (u := .bool true) (by rw [eval_over v85, eval_over v92]; kernel_rfl) ⟨rfl, hS, Up.refl w⟩
    by_cases hi12 : i = 12
    · subst hi12
      have h : some _ = some o := hi'
      injection h with h
      subst h
      intro a w hS hk hd
      have v93 : a.eval (.tmp 93) = .bool true := hd 11 93 (by kernel_rfl)
      exact step_val (u := .bool true) (by rw [eval_over v93]; kernel_rfl) ⟨rfl, hS, Up.refl w⟩
    by_cases hi13 : i = 13
    · subst hi13
      have h : some _ = some o := hi'
      injection h with h
      subst h
      intro a w hS hk hd
      have v5 : a.eval (.tmp 5) = .pointer (some ⟨B5, 0, none⟩) := (hk 5 (by kernel_rfl)).trans h5
      exact step_load (by kernel_rfl) v5 ((hS.block B5 (Array.getElem?_eq_some_iff.1 hc5).1).trans hc5) ⟨rfl, hS, Up.refl w⟩
    by_cases hi14 : i = 14
    · subst hi14
      have h : some _ = some o := hi'
      injection h with h
      subst h
      intro a w hS hk hd
      have v95 : a.eval (.tmp 95) = T.val := hd 13 95 (by kernel_rfl)
      have hc := size_any T w (hT.1.below hS) hT.2.1 (by rw [preT_len, hT.2.2]; decide)
      rw [preT_len, hT.2.2] at hc
      refine step_calls 18 #[T.val] (by rw [eval_over v95]; kernel_rfl) ?_
      exact hc.mono fun e w' ⟨he, hb⟩ => ⟨_, he, rfl, Up.trans hS hb, hb⟩
    by_cases hi15 : i = 15
    · subst hi15
      have h : some _ = some o := hi'
      injection h with h
      subst h
      intro a w hS hk hd
      have v96 : a.eval (.tmp 96) = .int .i64 5 := hd 14 96 (by kernel_rfl)
      exact step_val (u := .bool true) (by rw [eval_over v96]; kernel_rfl) ⟨rfl, hS, Up.refl w⟩
    by_cases hi16 : i = 16
    · subst hi16
      have h : some _ = some o := hi'
      injection h with h
      subst h
      intro a w hS hk hd
      have v94 : a.eval (.tmp 94) = .bool true := hd 12 94 (by kernel_rfl)
      have v97 : a.eval (.tmp 97) = .bool true := hd 15 97 (by kernel_rfl)
      exact step_val (u := .bool true) (by rw [eval_over v94, eval_over v97]; kernel_rfl) ⟨rfl, hS, Up.refl w⟩
    by_cases hi17 : i = 17
    · subst hi17
      have h : some _ = some o := hi'
      injection h with h
      subst h
      intro a w hS hk hd
      have v98 : a.eval (.tmp 98) = .bool true := hd 16 98 (by kernel_rfl)
      exact step_val (u := .bool true) (by rw [eval_over v98]; kernel_rfl) ⟨rfl, hS, Up.refl w⟩
    by_cases hi18 : i = 18
    · subst hi18
      have h : some _ = some o := hi'
      injection h with h
      subst h
      intro a w hS hk hd
      have v5 : a.eval (.tmp 5) = .pointer (some ⟨B5, 0, none⟩) := (hk 5 (by kernel_rfl)).trans h5
      exact step_load (by kernel_rfl) v5 ((hS.block B5 (Array.getElem?_eq_some_iff.1 hc5).1).trans hc5) ⟨rfl, hS, Up.refl w⟩
    by_cases hi19 : i = 19
    · subst hi19
      have h : some _ = some o := hi'
      injection h with h
      subst h
      intro a w hS hk hd
      have v100 : a.eval (.tmp 100) = T.val := hd 18 100 (by kernel_rfl)
      have hc := deep_any T w (hT.1.below hS) hT.2.1 (by rw [preT_len, hT.2.2]; decide)
      rw [deepL_pt, hT.2.2] at hc
      refine step_calls 15 #[T.val] (by rw [eval_over v100]; kernel_rfl) ?_
      exact hc.mono fun e w' ⟨he, hb⟩ => ⟨_, he, rfl, Up.trans hS hb, hb⟩
    by_cases hi20 : i = 20
    · subst hi20
      have h : some _ = some o := hi'
      injection h with h
      subst h
      intro a w hS hk hd
      have v101 : a.eval (.tmp 101) = .int .i64 3 := hd 19 101 (by kernel_rfl)
      exact step_val (u := .bool true) (by rw [eval_over v101]; kernel_rfl) ⟨rfl, hS, Up.refl w⟩
    by_cases hi21 : i = 21
    · subst hi21
      have h : some _ = some o := hi'
      injection h with h
      subst h
      intro a w hS hk hd
      have v99 : a.eval (.tmp 99) = .bool true := hd 17 99 (by kernel_rfl)
      have v102 : a.eval (.tmp 102) = .bool true := hd 20 102 (by kernel_rfl)
      exact step_val (u := .bool true) (by rw [eval_over v99, eval_over v102]; kernel_rfl) ⟨rfl, hS, Up.refl w⟩
    by_cases hi22 : i = 22
    · subst hi22
      have h : some _ = some o := hi'
      injection h with h
      subst h
      intro a w hS hk hd
      have v103 : a.eval (.tmp 103) = .bool true := hd 21 103 (by kernel_rfl)
      exact step_val (u := .bool true) (by rw [eval_over v103]; kernel_rfl) ⟨rfl, hS, Up.refl w⟩
    by_cases hi23 : i = 23
    · subst hi23
      have h : some _ = some o := hi'
      injection h with h
      subst h
      intro a w hS hk hd
      have v7 : a.eval (.tmp 7) = .bool true := (hk 7 (by kernel_rfl)).trans h7
      exact step_val (u := .bool true) (by rw [eval_over v7]; kernel_rfl) ⟨rfl, hS, Up.refl w⟩
    by_cases hi24 : i = 24
    · subst hi24
      have h : some _ = some o := hi'
      injection h with h
      subst h
      intro a w hS hk hd
      have v104 : a.eval (.tmp 104) = .bool true := hd 22 104 (by kernel_rfl)
      have v105 : a.eval (.tmp 105) = .bool true := hd 23 105 (by kernel_rfl)
      exact step_val (u := .bool true) (by rw [eval_over v104, eval_over v105]; kernel_rfl) ⟨rfl, hS, Up.refl w⟩
    by_cases hi25 : i = 25
    · subst hi25
      have h : some _ = some o := hi'
      injection h with h
      subst h
      intro a w hS hk hd
      have v106 : a.eval (.tmp 106) = .bool true := hd 24 106 (by kernel_rfl)
      exact step_val (u := .bool true) (by rw [eval_over v106]; kernel_rfl) ⟨rfl, hS, Up.refl w⟩
    by_cases hi26 : i = 26
    · subst hi26
      have h : some _ = some o := hi'
      injection h with h
      subst h
      intro a w hS hk hd
      have v6 : a.eval (.tmp 6) = .pointer (some ⟨B6, 0, none⟩) := (hk 6 (by kernel_rfl)).trans h6
      exact step_load (by kernel_rfl) v6 ((hS.block B6 (Array.getElem?_eq_some_iff.1 hc6).1).trans hc6) ⟨rfl, hS, Up.refl w⟩
    by_cases hi27 : i = 27
    · subst hi27
      have h : some _ = some o := hi'
      injection h with h
      subst h
      intro a w hS hk hd
      refine step_calls 17 #[.int .i64 5] (by kernel_rfl) ?_
      exact (num_any 5 w).mono fun e w' ⟨he, hb⟩ => ⟨_, he, rfl, Up.trans hS hb, hb⟩
    by_cases hi28 : i = 28
    · subst hi28
      have h : some _ = some o := hi'
      injection h with h
      subst h
      intro a w hS hk hd
      refine step_calls 17 #[.int .i64 5] (by kernel_rfl) ?_
      exact (num_any 5 w).mono fun e w' ⟨he, hb⟩ => ⟨_, he, rfl, Up.trans hS hb, hb⟩
    by_cases hi29 : i = 29
    · subst hi29
      have h : some _ = some o := hi'
      injection h with h
      subst h
      intro a w hS hk hd
      have v109 : a.eval (.tmp 109) = (numT 5).val := hd 27 109 (by kernel_rfl)
      have v110 : a.eval (.tmp 110) = (numT 5).val := hd 28 110 (by kernel_rfl)
      refine step_val (u := .slice (some ⟨w.heap.size, 0, none⟩) 2 2) (w' := w.alloc (.cells (([numT 5, numT 5] : List NT).flatMap NT.cells).toArray 26)) (by rw [eval_over v109, eval_over v110]; exact step_built (parts := #[(0, .tmp 109), (1, .tmp 110)]) (by kernel_rfl) (e := 26) (t := 24) rfl (by kernel_rfl)) ⟨⟨some ⟨w.heap.size, 0, none⟩, 2, [numT 5, numT 5], rfl, rfl, ?_⟩, Up.trans hS (Up.alloc _ _), Up.alloc _ _⟩
      exact trees_new w [numT 5, numT 5] (by rw [IsL, IsL, IsL]; exact ⟨is_num (by decide), is_num (by decide), trivial⟩) (ksmL_of (by simp [ksm_num]))
    by_cases hi30 : i = 30
    · subst hi30
      have h : some _ = some o := hi'
      injection h with h
      subst h
      intro a w hS hk hd
      obtain ⟨B, d, l, v111, hl, hl2⟩ := hd 29 111 (by kernel_rfl)
      have hll : l.length = 2 := by have := congrArg List.length hl; rwa [ptL_len] at this
      refine step_calls 16 #[.slice B l.length d] (by rw [eval_over v111]; kernel_rfl) ?_
      exact (vec_any B l.length d l w).mono fun e w' ⟨he, hb⟩ => ⟨_, he, ⟨vecT (.slice B l.length d) l, rfl, by unfold vecT twoP; rw [NT.pt, hl], (is_vec (c := d) hl2.row (by omega) hl2.is).below hb, ksm_vec (by omega) hl2.small⟩, Up.trans hS hb, hb⟩
    by_cases hi31 : i = 31
    · subst hi31
      have h : some _ = some o := hi'
      injection h with h
      subst h
      intro a w hS hk hd
      have v108 : a.eval (.tmp 108) = ta.val := hd 26 108 (by kernel_rfl)
      obtain ⟨t, v112, hp, ht, hkt⟩ := hd 30 112 (by kernel_rfl)
      have hc := eqNode_any ta t w (ha.1.below hS) ht
      rw [eqv_true (ha.2.trans hp.symm)] at hc
      refine step_calls 11 #[ta.val, t.val] (by rw [eval_over v108, eval_over v112]; kernel_rfl) ?_
      exact hc.mono fun e w' ⟨he, hb⟩ => ⟨_, he, rfl, Up.trans hS hb, hb⟩
    by_cases hi32 : i = 32
    · subst hi32
      have h : some _ = some o := hi'
      injection h with h
      subst h
      intro a w hS hk hd
      have v107 : a.eval (.tmp 107) = .bool true := hd 25 107 (by kernel_rfl)
      have v113 : a.eval (.tmp 113) = .bool true := hd 31 113 (by kernel_rfl)
      exact step_val (u := .bool true) (by rw [eval_over v107, eval_over v113]; kernel_rfl) ⟨rfl, hS, Up.refl w⟩
    by_cases hi33 : i = 33
    · subst hi33
      have h : some _ = some o := hi'
      injection h with h
      subst h
      intro a w hS hk hd
      have v114 : a.eval (.tmp 114) = .bool true := hd 32 114 (by kernel_rfl)
      exact step_val (u := .bool true) (by rw [eval_over v114]; kernel_rfl) ⟨rfl, hS, Up.refl w⟩
    by_cases hi34 : i = 34
    · subst hi34
      have h : some _ = some o := hi'
      injection h with h
      subst h
      intro a w hS hk hd
      have v9 : a.eval (.tmp 9) = .bool true := (hk 9 (by kernel_rfl)).trans h9
      exact step_val (u := .bool true) (by rw [eval_over v9]; kernel_rfl) ⟨rfl, hS, Up.refl w⟩
    by_cases hi35 : i = 35
    · subst hi35
      have h : some _ = some o := hi'
      injection h with h
      subst h
      intro a w hS hk hd
      have v115 : a.eval (.tmp 115) = .bool true := hd 33 115 (by kernel_rfl)
      have v116 : a.eval (.tmp 116) = .bool true := hd 34 116 (by kernel_rfl)
      exact step_val (u := .bool true) (by rw [eval_over v115, eval_over v116]; kernel_rfl) ⟨rfl, hS, Up.refl w⟩
    by_cases hi36 : i = 36
    · subst hi36
      have h : some _ = some o := hi'
      injection h with h
      subst h
      intro a w hS hk hd
      have v117 : a.eval (.tmp 117) = .bool true := hd 35 117 (by kernel_rfl)
      exact step_val (u := .bool true) (by rw [eval_over v117]; kernel_rfl) ⟨rfl, hS, Up.refl w⟩
    by_cases hi37 : i = 37
    · subst hi37
      have h : some _ = some o := hi'
      injection h with h
      subst h
      intro a w hS hk hd
      have v8 : a.eval (.tmp 8) = .pointer (some ⟨B8, 0, none⟩) := (hk 8 (by kernel_rfl)).trans h8
      exact step_load (by kernel_rfl) v8 ((hS.block B8 (Array.getElem?_eq_some_iff.1 hc8).1).trans hc8) ⟨rfl, hS, Up.refl w⟩
    by_cases hi38 : i = 38
    · subst hi38
      have h : some _ = some o := hi'
      injection h with h
      subst h
      intro a w hS hk hd
      refine step_calls 17 #[.int .i64 5] (by kernel_rfl) ?_
      exact (num_any 5 w).mono fun e w' ⟨he, hb⟩ => ⟨_, he, rfl, Up.trans hS hb, hb⟩
    by_cases hi39 : i = 39
    · subst hi39
      have h : some _ = some o := hi'
      injection h with h
      subst h
      intro a w hS hk hd
      have v119 : a.eval (.tmp 119) = tb.val := hd 37 119 (by kernel_rfl)
      have v120 : a.eval (.tmp 120) = (numT 5).val := hd 38 120 (by kernel_rfl)
      have hc := eqNode_any tb (numT 5) w (hb.1.below hS) (is_num (by decide))
      rw [eqv_true (show tb.pt = (numT 5).pt from hb.2.trans rfl)] at hc
      refine step_calls 11 #[tb.val, (numT 5).val] (by rw [eval_over v119, eval_over v120]; kernel_rfl) ?_
      exact hc.mono fun e w' ⟨he, hb⟩ => ⟨_, he, rfl, Up.trans hS hb, hb⟩
    by_cases hi40 : i = 40
    · subst hi40
      have h : some _ = some o := hi'
      injection h with h
      subst h
      intro a w hS hk hd
      have v118 : a.eval (.tmp 118) = .bool true := hd 36 118 (by kernel_rfl)
      have v121 : a.eval (.tmp 121) = .bool true := hd 39 121 (by kernel_rfl)
      exact step_val (u := .bool true) (by rw [eval_over v118, eval_over v121]; kernel_rfl) ⟨rfl, hS, Up.refl w⟩
    by_cases hi41 : i = 41
    · subst hi41
      have h : some _ = some o := hi'
      injection h with h
      subst h
      intro a w hS hk hd
      have v122 : a.eval (.tmp 122) = .bool true := hd 40 122 (by kernel_rfl)
      exact step_val (u := .bool true) (by rw [eval_over v122]; kernel_rfl) ⟨rfl, hS, Up.refl w⟩
    by_cases hi42 : i = 42
    · subst hi42
      have h : some _ = some o := hi'
      injection h with h
      subst h
      intro a w hS hk hd
      have v11 : a.eval (.tmp 11) = .bool false := (hk 11 (by kernel_rfl)).trans h11
      exact step_val (u := .bool false) (by rw [eval_over v11]; kernel_rfl) ⟨rfl, hS, Up.refl w⟩
    by_cases hi43 : i = 43
    · subst hi43
      have h : some _ = some o := hi'
      injection h with h
      subst h
      intro a w hS hk hd
      have v124 : a.eval (.tmp 124) = .bool false := hd 42 124 (by kernel_rfl)
      exact step_val (u := .bool true) (by rw [eval_over v124]; kernel_rfl) ⟨rfl, hS, Up.refl w⟩
    by_cases hi44 : i = 44
    · subst hi44
      have h : some _ = some o := hi'
      injection h with h
      subst h
      intro a w hS hk hd
      have v123 : a.eval (.tmp 123) = .bool true := hd 41 123 (by kernel_rfl)
      have v125 : a.eval (.tmp 125) = .bool true := hd 43 125 (by kernel_rfl)
      exact step_val (u := .bool true) (by rw [eval_over v123, eval_over v125]; kernel_rfl) ⟨rfl, hS, Up.refl w⟩
    by_cases hi45 : i = 45
    · subst hi45
      have h : some _ = some o := hi'
      injection h with h
      subst h
      intro a w hS hk hd
      have v126 : a.eval (.tmp 126) = .bool true := hd 44 126 (by kernel_rfl)
      exact step_val (u := .bool true) (by rw [eval_over v126]; kernel_rfl) ⟨rfl, hS, Up.refl w⟩
    by_cases hi46 : i = 46
    · subst hi46
      have h : some _ = some o := hi'
      injection h with h
      subst h
      intro a w hS hk hd
      refine step_calls 13 #[.int .i64 65] (by kernel_rfl) ?_
      exact (nest_any 65 (by omega) w).mono fun e w' ⟨⟨t, he, h1, h2, h3, h4⟩, hb⟩ => ⟨_, he, ⟨t, rfl, h1, h2, h3⟩, Up.trans hS hb, hb⟩
    by_cases hi47 : i = 47
    · subst hi47
      have h : some _ = some o := hi'
      injection h with h
      subst h
      intro a w hS hk hd
      obtain ⟨t, v128, hp, ht, hkt⟩ := hd 46 128 (by kernel_rfl)
      have hc := check_any (nestP 64) t w hp ht hkt (by decide)
      rw [fine_nest.2] at hc
      refine step_calls 9 #[t.val] (by rw [eval_over v128]; kernel_rfl) ?_
      exact hc.mono fun e w' ⟨he, hb⟩ => ⟨_, he, rfl, Up.trans hS hb, hb⟩
    by_cases hi48 : i = 48
    · subst hi48
      have h : some _ = some o := hi'
      injection h with h
      subst h
      intro a w hS hk hd
      have v129 : a.eval (.tmp 129) = .int .i64 61 := hd 47 129 (by kernel_rfl)
      exact step_val (u := .bool true) (by rw [eval_over v129]; kernel_rfl) ⟨rfl, hS, Up.refl w⟩
    by_cases hi49 : i = 49
    · subst hi49
      have h : some _ = some o := hi'
      injection h with h
      subst h
      intro a w hS hk hd
      have v127 : a.eval (.tmp 127) = .bool true := hd 45 127 (by kernel_rfl)
      have v130 : a.eval (.tmp 130) = .bool true := hd 48 130 (by kernel_rfl)
      exact step_val (u := .bool true) (by rw [eval_over v127, eval_over v130]; kernel_rfl) ⟨rfl, hS, Up.refl w⟩
    by_cases hi50 : i = 50
    · subst hi50
      have h : some _ = some o := hi'
      injection h with h
      subst h
      intro a w hS hk hd
      have v131 : a.eval (.tmp 131) = .bool true := hd 49 131 (by kernel_rfl)
      exact step_val (u := .bool true) (by rw [eval_over v131]; kernel_rfl) ⟨rfl, hS, Up.refl w⟩
    omega
  · intro a w hS hK hall
    have h50 : (ops17[50]?.bind (·.dst)) = some 0 := by kernel_rfl
    cases ho : ops17[50]? with
    | none => rw [ho] at h50; cases h50
    | some o => rw [ho] at h50; exact hQ a w hS (hall 50 o 0 ho h50) hK.2.1
end Go.Proofs.Yteoggaioleckhaa
