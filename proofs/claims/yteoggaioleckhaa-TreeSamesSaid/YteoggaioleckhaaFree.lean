import Derived.Test.YteoggaioleckhaaHeld
import Derived.Great.BuildSlice
import Derived.Great.Walk
/- A region that draws its order and whose operations each yield a value that meets what is said of it (φ), in every world that meets S, once the operations that it waits for have come up: no order is walked at all. No program in sight. -/
set_option linter.unusedVariables false
namespace Go.Proofs.Yteoggaioleckhaa
open Go.RowKit
section
variable {P : Program} {ops : Array Oper} {S : World → Prop} {le : World → World → Prop} {φ : Nat → Value → World → Prop} {a0 : Act}
/-- Operation o waits for operation j, whose slot is d. -/
def depB (ops : Array Oper) (o : Oper) (j : Nat) (d : Tmp) : Bool :=
  o.after.any (fun e => e.on == j && Region.binds .any e) && (match ops[j]? with | some oj => oj.dst == some d | none => false)
/-- Every operation has a slot of its own, below n; each guard is one of L and waited for. -/
def freeB (ops : Array Oper) (n : Nat) (L : List (Nat × Bool)) : Bool :=
  (List.range ops.size).all fun i => match ops[i]? with
    | some o => (match o.dst with
      | some d => decide (d < n) && ((List.range ops.size).all fun j => j == i || (match ops[j]? with | some oj => oj.dst != some d | none => true))
      | none => false) && (match o.guard with
      | some (j, b) => L.contains (j, b) && (match ops[j]? with | some oj => (match oj.dst with | some d => depB ops o j d | none => false) | none => false)
      | none => true)
    | none => false
def FrKeep (ops : Array Oper) (a0 a : Act) : Prop := a.tmps.size = a0.tmps.size ∧ a.defers = a0.defers ∧ ∀ t : Tmp, (∀ (i : Nat) (o : Oper), ops[i]? = some o → o.dst ≠ some t) → a.eval (.tmp t) = a0.eval (.tmp t)
def FreeStep (P : Program) (ops : Array Oper) (S : World → Prop) (le : World → World → Prop) (φ : Nat → Value → World → Prop) (a0 : Act) (i : Nat) (o : Oper) : Prop :=
  ∀ (a : Act) (w : World), S w → (∀ t : Tmp, (ops.all fun o => o.dst != some t) = true → a.eval (.tmp t) = a0.eval (.tmp t)) → (∀ j d, depB ops o j d = true → φ j (a.eval (.tmp d)) w) →
    stepAt P o a w (fun v w' => φ i v w' ∧ S w' ∧ le w w')
def freeSteps (F : Nat → Oper → Prop) : List Oper → Nat → Prop
  | [], _ => True
  | o :: l, k => F k o ∧ freeSteps F l (k + 1)
theorem freeSteps_get {F : Nat → Oper → Prop} : ∀ {l : List Oper} {k i : Nat} {o : Oper}, freeSteps F l k → l[i]? = some o → F (k + i) o
  | [], k, i, o, h, hi => by simp at hi
  | x :: l, k, 0, o, h, hi => by
    simp at hi; subst hi; exact h.1
  | x :: l, k, i + 1, o, h, hi => by
    have := freeSteps_get h.2 (by simpa using hi)
    rwa [show k + 1 + i = k + (i + 1) by omega] at this
def freeJ (ops : Array Oper) (S : World → Prop) (φ : Nat → Value → World → Prop) (a0 : Act) (listed : Array Bool) (a : Act) (w : World) : Prop :=
  S w ∧ FrKeep ops a0 a ∧ ∀ (i : Nat) (o : Oper) (d : Tmp), ops[i]? = some o → o.dst = some d → listed.getD i false = true → φ i (a.eval (.tmp d)) w
theorem freeB_spec {n : Nat} {L : List (Nat × Bool)} (h : freeB ops n L = true) {i : Nat} {o : Oper} (hi : ops[i]? = some o) :
    (∃ d, o.dst = some d ∧ d < n ∧ ∀ (j : Nat) (oj : Oper), ops[j]? = some oj → j ≠ i → oj.dst ≠ some d) ∧ (∀ j b, o.guard = some (j, b) → (j, b) ∈ L ∧ ∃ oj d, ops[j]? = some oj ∧ oj.dst = some d ∧ depB ops o j d = true) := by
  unfold freeB at h
  rw [List.all_eq_true] at h
  have hlt : i < ops.size := (Array.getElem?_eq_some_iff.1 hi).1
  have h1 := h i (List.mem_range.2 hlt)
  simp only [hi, Bool.and_eq_true] at h1
  obtain ⟨h2, h3⟩ := h1
  constructor
  · split at h2
    · rename_i d hd
      simp only [Bool.and_eq_true, decide_eq_true_eq] at h2
      refine ⟨d, hd, h2.1, fun j oj hj hne => ?_⟩
      have h4 := (List.all_eq_true.1 h2.2) j (List.mem_range.2 (Array.getElem?_eq_some_iff.1 hj).1)
      simp only [hj, Bool.or_eq_true, beq_iff_eq, bne_iff_ne, ne_eq] at h4
      exact h4.resolve_left hne
    · cases h2
  · intro j b hg
    rw [hg] at h3
    simp only [Bool.and_eq_true] at h3
    refine ⟨by simpa using h3.1, ?_⟩
    have h4 := h3.2
    split at h4
    · rename_i oj hj
      split at h4
      · rename_i d hd
        exact ⟨oj, d, hj, hd, h4⟩
      · cases h4
    · cases h4
theorem depB_spec {o : Oper} {j : Nat} {d : Tmp} (h : depB ops o j d = true) : (∃ e ∈ o.after, e.on = j ∧ Region.binds .any e = true) ∧ ∃ oj, ops[j]? = some oj ∧ oj.dst = some d := by
  unfold depB at h
  rw [Bool.and_eq_true] at h
  obtain ⟨h1, h2⟩ := h
  constructor
  · rw [Array.any_eq_true] at h1
    obtain ⟨k, hk, h1⟩ := h1
    simp only [Bool.and_eq_true, beq_iff_eq] at h1
    exact ⟨_, Array.getElem_mem hk, h1.1, h1.2⟩
  · split at h2
    · rename_i oj hj
      exact ⟨oj, hj, by simpa using h2⟩
    · cases h2
theorem eval_put_same {a : Act} {d : Tmp} {v : Value} (h : d < a.tmps.size) : (a.put (some d) v).eval (.tmp d) = v := by
  simp [Act.put, Act.eval, Array.getD, h]
theorem eval_put_ne {a : Act} {d t : Tmp} {v : Value} (h : d ≠ t) : (a.put (some d) v).eval (.tmp t) = a.eval (.tmp t) := by
  simp only [Act.put, Act.eval, Array.getD_eq_getD_getElem?]
  rw [Array.getElem?_setIfInBounds_ne h]
theorem wanted_of {o oj : Oper} {a : Act} {j : Nat} {b : Bool} {d : Tmp} (hg : o.guard = some (j, b)) (hj : ops[j]? = some oj) (hd : oj.dst = some d) (hv : a.eval (.tmp d) = .bool b) : Region.wanted o (yielded ops a.tmps) = true := by
  unfold Region.wanted
  rw [hg]
  simp only [beq_iff_eq]
  unfold yielded
  simp only [hj, Option.bind_some, hd]
  simp only [Act.eval, Array.getD_eq_getD_getElem?] at hv
  cases hh : a.tmps[d]? with
  | none => rw [hh] at hv; simp [undef] at hv
  | some x => rw [hh] at hv; simp at hv; subst hv; rfl
theorem wpAny_free {Q : Exit → Act → World → Prop} {L : List (Nat × Bool)} (hB : freeB ops a0.tmps.size L = true) (hφ : ∀ i v w w', φ i v w → le w w' → φ i v w') (hL : ∀ p ∈ L, ∀ v w, φ p.1 v w → v = .bool p.2)
    (hst : ∀ i o, ops[i]? = some o → FreeStep P ops S le φ a0 i o)
    (hQ : ∀ a w, S w → FrKeep ops a0 a → (∀ (i : Nat) (o : Oper) (d : Tmp), ops[i]? = some o → o.dst = some d → φ i (a.eval (.tmp d)) w) → Q .normal a w) :
    ∀ (fuel : Nat) (listed : Array Bool) (a : Act) (w : World), listed.size = ops.size → fuel = (listed.toList.countP (· = false)) → (∀ listed' : Array Bool, listed'.size = ops.size → Region.ready .any ops listed' = [] → ∀ i, i < ops.size → listed'.getD i false = true) → freeJ ops S φ a0 listed a w → wpAny P .any ops Q fuel listed a w := by
  intro fuel
  have hend : ∀ (listed : Array Bool) (a : Act) (w : World), listed.size = ops.size → (∀ listed' : Array Bool, listed'.size = ops.size → Region.ready .any ops listed' = [] → ∀ i, i < ops.size → listed'.getD i false = true) → freeJ ops S φ a0 listed a w → Region.ready .any ops listed = [] → Q .normal a w := by
    intro listed a w hs hr hJ h0
    obtain ⟨h1, h2, h3⟩ := hJ
    exact hQ a w h1 h2 fun i o d hi hd => h3 i o d hi hd (hr listed hs h0 i (Array.getElem?_eq_some_iff.1 hi).1)
  induction fuel with
  | zero =>
    intro listed a w hs hc hr hJ
    have hnil : Region.ready .any ops listed = [] := by
      refine List.eq_nil_iff_forall_not_mem.2 fun j hj => ?_
      have h1 := (mem_ready.1 hj).1
      have hj2 := (mem_ready.1 hj).2
      obtain ⟨o, ho, _⟩ := hj2
      have hlt : j < listed.size := by rw [hs]; exact (Array.getElem?_eq_some_iff.1 ho).1
      have h2 := List.countP_eq_zero.1 hc.symm (listed[j]) (by simp)
      simp [hlt] at h1
      simp [h1] at h2
    exact ⟨hnil, hend listed a w hs hr hJ hnil⟩
  | succ fuel ih =>
    intro listed a w hs hc hr hJ
    refine ⟨hend listed a w hs hr hJ, fun i hi => ?_⟩
    obtain ⟨hun, o, ho, hall⟩ := mem_ready.1 hi
    have hlt : i < ops.size := (Array.getElem?_eq_some_iff.1 ho).1
    have hlt' : i < listed.size := by omega
    obtain ⟨⟨d, hd, hdn, hdd⟩, hgu⟩ := freeB_spec hB ho
    obtain ⟨hS, hK, hph⟩ := hJ
    have hdep : ∀ j d', depB ops o j d' = true → φ j (a.eval (.tmp d')) w := fun j d' hh => by
      obtain ⟨⟨e, he, he1, he2⟩, oj, hj, hjd⟩ := depB_spec hh
      exact hph j oj d' hj hjd (by rw [← he1]; exact hall e he he2)
    have hw : Region.wanted o (yielded ops a.tmps) = true := by
      cases hg : o.guard with
      | none => unfold Region.wanted; rw [hg]
      | some p =>
        obtain ⟨j, b⟩ := p
        obtain ⟨hmem, oj, d', hj, hjd, hh⟩ := hgu j b hg
        exact wanted_of hg hj hjd (hL _ hmem _ _ (hdep j d' hh))
    have hstep := hst i o ho a w hS (fun t ht => hK.2.2 t fun k ok hk hkd => by
      rw [Array.all_eq_true] at ht
      obtain ⟨hk1, hk2⟩ := Array.getElem?_eq_some_iff.1 hk
      have := ht k hk1
      rw [hk2, hkd] at this
      simp at this) hdep
    unfold wpOp
    simp only [ho, hw, if_true]
    refine Or.inl (wp_of_step hstep fun v w' ⟨h1, h2, h3⟩ => ?_)
    refine ih _ _ _ (by simp [hs]) ?_ hr ?_
    · have hcnt : (listed.toList.set i true).countP (· = false) + 1 = listed.toList.countP (· = false) := by
        have hii : listed.toList[i]'(by simpa using hlt') = false := by simpa [hlt'] using hun
        rw [List.countP_set (h := by simpa using hlt')]
        rw [hii]
        have hpos : 0 < listed.toList.countP (· = false) := List.countP_pos_iff.2 ⟨false, by rw [← hii]; exact List.getElem_mem _, by simp⟩
        rw [if_pos (by decide), if_neg (by decide)]
        omega
      rw [Array.toList_setIfInBounds]
      omega
    · rw [hd]
      refine ⟨h2, ⟨by simp [Act.put, hK.1], by simp [Act.put, hK.2.1], fun t ht => by rw [eval_put_ne (fun e => ht i o ho (by rw [hd, e]))]; exact hK.2.2 t ht⟩, fun j oj d' hj hjd hl => ?_⟩
      by_cases hji : j = i
      · subst hji
        rw [ho] at hj
        injection hj with hj
        subst hj
        rw [hd] at hjd
        injection hjd with hjd
        subst hjd
        rw [eval_put_same (by rw [hK.1]; exact hdn)]
        exact h1
      · rw [eval_put_ne (fun e => hdd j oj hj hji (by rw [hjd, e]))]
        refine hφ _ _ _ _ (hph j oj d' hj hjd ?_) h3
        have hne : ¬ i = j := fun e => hji e.symm
        simpa [Array.getD_eq_getD_getElem?, Array.getElem?_setIfInBounds_ne hne] using hl
/-- If nothing is ready, everything has come up: each operation waits for earlier ones alone. -/
def backB (ops : Array Oper) : Bool := (List.range ops.size).all fun i => match ops[i]? with | some o => o.after.all fun e => !Region.binds .any e || decide (e.on < i) | none => false
theorem all_listed (hB : backB ops = true) (listed : Array Bool) (hs : listed.size = ops.size) (hr : Region.ready .any ops listed = []) : ∀ i, i < ops.size → listed.getD i false = true := by
  intro i
  induction i using Nat.strongRecOn with
  | _ i ih =>
    intro hi
    unfold backB at hB
    rw [List.all_eq_true] at hB
    have h1 := hB i (List.mem_range.2 hi)
    rw [Array.getElem?_eq_getElem hi] at h1
    simp only [] at h1
    apply Classical.byContradiction
    intro hn
    have hun : listed.getD i true = false := by
      have hli : i < listed.size := by omega
      simp [hli] at hn ⊢
      exact hn
    have : i ∈ Region.ready .any ops listed := mem_ready.2 ⟨hun, ops[i], Array.getElem?_eq_getElem hi, fun e he hb => by
      have h2 := (Array.all_eq_true'.1 h1) e he
      simp only [hb, Bool.not_true, Bool.false_or, decide_eq_true_eq] at h2
      exact ih e.on h2 (by omega)⟩
    rw [hr] at this
    cases this
/-- NO ORDER IS WALKED. -/
theorem wp_region_free {id : Nat} {Q : Exit → Act → World → Prop} {a0 : Act} {w : World} (n : Nat) (S : World → Prop) (le : World → World → Prop) (φ : Nat → Value → World → Prop) (L : List (Nat × Bool)) (hp : P.follows .mixedOrders = true) (hn : a0.tmps.size = n) (hB : freeB ops n L = true) (hK : backB ops = true)
    (hφ : ∀ i v w w', φ i v w → le w w' → φ i v w') (hL : ∀ p ∈ L, ∀ v w, φ p.1 v w → v = .bool p.2) (hS : S w.drew) (hst : freeSteps (FreeStep P ops S le φ a0) ops.toList 0)
    (hQ : ∀ a w, S w → FrKeep ops a0 a → (∀ (i : Nat) (o : Oper) (d : Tmp), ops[i]? = some o → o.dst = some d → φ i (a.eval (.tmp d)) w) → Q .normal a w) : (Code.region id ops true).wp P Q a0 w := by
  subst hn
  refine wp_region_any hp (wpAny_free hB hφ hL (fun i o hi => by have := freeSteps_get hst (i := i) (o := o) (by simpa using hi); rwa [Nat.zero_add] at this) hQ _ _ _ _ (by simp) ?_ (fun l hs hr => all_listed hK l hs hr) ⟨hS, ⟨rfl, rfl, fun _ _ => rfl⟩, fun i o d hi hd hl => ?_⟩)
  · simp [List.countP_replicate]
  · exfalso
    have hlt := (Array.getElem?_eq_some_iff.1 hi).1
    simp [Array.getD, hlt] at hl
/-! Steps. -/
theorem step_val {o : Oper} {a : Act} {w w' : World} {u : Value} {D : Value → World → Prop} (hrun : (execOp a.eval o).run P w = .ok (.value u) w') (h : D u w') : stepAt P o a w D := by
  unfold stepAt; rw [hrun]; exact h
theorem step_calls {o : Oper} {a : Act} {w : World} {D : Value → World → Prop} (f : FuncId) (vs : Array Value) (hrun : (execOp a.eval o).run P w = .ok (.enter f vs) w) (hc : Calls P f vs w fun e w' => ∃ v, e = .returned v ∧ D v w') : stepAt P o a w D := by
  unfold stepAt; rw [hrun]; exact ⟨rfl, hc⟩
end
end Go.Proofs.Yteoggaioleckhaa
