import Derived.Test.YteoggaioleckhaaLast
/- A region that draws its order, whose last operation waits for all others (a store): no order is walked: what is said of each value, then the last operation by itself. No program in sight. -/
set_option linter.unusedVariables false
namespace Go.Proofs.Yteoggaioleckhaa
open Go.RowKit
section
variable {P : Program} {ops : Array Oper} {S : World → Prop} {le : World → World → Prop} {φ : Nat → Value → World → Prop} {a0 : Act}
/-- All but operation m have a slot of their own, below n, and no guard; m waits for all others, without guard. -/
def tailB (ops : Array Oper) (n m : Nat) : Bool :=
  (decide (m + 1 = ops.size)) && (match ops[m]? with | some o => (o.guard.isNone && o.dst.isNone) && (List.range m).all (fun j => o.after.any fun e => e.on == j && Region.binds .any e) | none => false) &&
  (List.range m).all fun i => match ops[i]? with
    | some o => (match o.dst with
      | some d => decide (d < n) && ((List.range m).all fun j => j == i || (match ops[j]? with | some oj => oj.dst != some d | none => true))
      | none => false) && o.guard.isNone
    | none => false
theorem tailB_last {n m : Nat} (h : tailB ops n m = true) : m + 1 = ops.size ∧ ∃ o, ops[m]? = some o ∧ o.guard = none ∧ o.dst = none ∧ ∀ j, j < m → ∃ e ∈ o.after, e.on = j ∧ Region.binds .any e = true := by
  unfold tailB at h
  rw [Bool.and_eq_true, Bool.and_eq_true] at h
  obtain ⟨⟨h1, h2⟩, _⟩ := h
  refine ⟨by simpa using h1, ?_⟩
  split at h2
  · rename_i o ho
    rw [Bool.and_eq_true, Bool.and_eq_true] at h2
    refine ⟨o, ho, by simpa using h2.1.1, by simpa using h2.1.2, fun j hj => ?_⟩
    have h3 := (List.all_eq_true.1 h2.2) j (List.mem_range.2 hj)
    rw [Array.any_eq_true] at h3
    obtain ⟨k, hk, h3⟩ := h3
    simp only [Bool.and_eq_true, beq_iff_eq] at h3
    exact ⟨_, Array.getElem_mem hk, h3.1, h3.2⟩
  · cases h2
theorem tailB_spec {n m : Nat} (h : tailB ops n m = true) {i : Nat} {o : Oper} (hi : ops[i]? = some o) (him : i < m) :
    (∃ d, o.dst = some d ∧ d < n ∧ ∀ (j : Nat) (oj : Oper), j < m → ops[j]? = some oj → j ≠ i → oj.dst ≠ some d) ∧ o.guard = none := by
  unfold tailB at h
  rw [Bool.and_eq_true] at h
  have h1 := (List.all_eq_true.1 h.2) i (List.mem_range.2 him)
  simp only [hi, Bool.and_eq_true] at h1
  refine ⟨?_, by simpa using h1.2⟩
  have h2 := h1.1
  split at h2
  · rename_i d hd
    simp only [Bool.and_eq_true, decide_eq_true_eq] at h2
    refine ⟨d, hd, h2.1, fun j oj hjm hj hne => ?_⟩
    have h4 := (List.all_eq_true.1 h2.2) j (List.mem_range.2 hjm)
    simp only [hj, Bool.or_eq_true, beq_iff_eq, bne_iff_ne, ne_eq] at h4
    exact h4.resolve_left hne
  · cases h2
def tailJ (ops : Array Oper) (m : Nat) (S : World → Prop) (φ : Nat → Value → World → Prop) (a0 : Act) (listed : Array Bool) (a : Act) (w : World) : Prop :=
  S w ∧ FrKeep ops a0 a ∧ listed.getD m true = false ∧ ∀ (i : Nat) (o : Oper) (d : Tmp), i < m → ops[i]? = some o → o.dst = some d → listed.getD i false = true → φ i (a.eval (.tmp d)) w
theorem wpAny_tail {Q : Exit → Act → World → Prop} {m : Nat} (hB : tailB ops a0.tmps.size m = true) (hK : backB ops = true) (hφ : ∀ i v w w', φ i v w → le w w' → φ i v w')
    (hst : ∀ i o, i < m → ops[i]? = some o → FreeStep P ops S le φ a0 i o)
    (hQ : ∀ a w o, ops[m]? = some o → S w → FrKeep ops a0 a → (∀ (i : Nat) (o : Oper) (d : Tmp), i < m → ops[i]? = some o → o.dst = some d → φ i (a.eval (.tmp d)) w) → o.wp P a w (fun a' w' => Q .normal a' w') Q) :
    ∀ (fuel : Nat) (listed : Array Bool) (a : Act) (w : World), listed.size = ops.size → fuel = (listed.toList.countP (· = false)) → tailJ ops m S φ a0 listed a w → wpAny P .any ops Q fuel listed a w := by
  obtain ⟨hm1, om, hom, hgm, hdm, hwait⟩ := tailB_last hB
  intro fuel
  induction fuel with
  | zero =>
    intro listed a w hs hc hJ
    exfalso
    have hlt : m < listed.size := by omega
    have h2 := List.countP_eq_zero.1 hc.symm (listed[m]) (by simp)
    have h3 := hJ.2.2.1
    simp [hlt] at h3
    simp [h3] at h2
  | succ fuel ih =>
    intro listed a w hs hc hJ
    have hcnt : ∀ i, i < ops.size → listed.getD i true = false → fuel = ((listed.setIfInBounds i true).toList.countP (· = false)) := by
      intro i hlt hun
      have hlt' : i < listed.size := by omega
      have hcnt : (listed.toList.set i true).countP (· = false) + 1 = listed.toList.countP (· = false) := by
        have hii : listed.toList[i]'(by simpa using hlt') = false := by simpa [hlt'] using hun
        rw [List.countP_set (h := by simpa using hlt')]
        rw [hii]
        have hpos : 0 < listed.toList.countP (· = false) := List.countP_pos_iff.2 ⟨false, by rw [← hii]; exact List.getElem_mem _, by simp⟩
        rw [if_pos (by decide), if_neg (by decide)]
        omega
      rw [Array.toList_setIfInBounds]
      omega
    refine ⟨fun h0 => ?_, fun i hi => ?_⟩
    · exfalso
      have := all_listed hK listed hs h0 m (by omega)
      have h3 := hJ.2.2.1
      have hlt : m < listed.size := by omega
      simp [hlt] at h3 this
      rw [h3] at this; cases this
    · obtain ⟨hun, o, ho, hall⟩ := mem_ready.1 hi
      have hlt : i < ops.size := (Array.getElem?_eq_some_iff.1 ho).1
      have hlt' : i < listed.size := by omega
      obtain ⟨hS, hFK, hum, hph⟩ := hJ
      by_cases him : i = m
      · subst him
        rw [hom] at ho
        injection ho with ho
        subst ho
        have hw : Region.wanted om (yielded ops a.tmps) = true := by unfold Region.wanted; rw [hgm]
        have hol : ∀ j, j < i → listed.getD j false = true := fun j hj => by
          obtain ⟨e, he, he1, he2⟩ := hwait j hj
          rw [← he1]; exact hall e he he2
        have hwp := hQ a w om hom hS hFK (fun j oj d hj hoj hd => hph j oj d hj hoj hd (hol j hj))
        unfold wpOp
        simp only [hom, hw, if_true]
        refine Or.inl (Oper.wp_mono (fun a' w' hq => ?_) hwp)
        have hready : Region.ready .any ops (listed.setIfInBounds i true) = [] := by
          refine List.eq_nil_iff_forall_not_mem.2 fun j hj => ?_
          obtain ⟨hju, oj, hoj, _⟩ := mem_ready.1 hj
          have hjl : j < ops.size := (Array.getElem?_eq_some_iff.1 hoj).1
          by_cases hji : j = i
          · subst hji
            simp [Array.getD_eq_getD_getElem?, hlt'] at hju
          · have hne : ¬ i = j := fun e => hji e.symm
            rw [Array.getD_eq_getD_getElem?, Array.getElem?_setIfInBounds_ne hne] at hju
            have := hol j (by omega)
            have hjs : j < listed.size := by omega
            simp [hjs] at hju this
            rw [hju] at this; cases this
        cases fuel with
        | zero => exact ⟨hready, hq⟩
        | succ k => exact ⟨fun _ => hq, fun j hj => by rw [hready] at hj; cases hj⟩
      · have him' : i < m := by omega
        obtain ⟨⟨d, hd, hdn, hdd⟩, hgu⟩ := tailB_spec hB ho him'
        have hdep : ∀ j d', depB ops o j d' = true → φ j (a.eval (.tmp d')) w := fun j d' hh => by
          obtain ⟨⟨e, he, he1, he2⟩, oj, hj, hjd⟩ := depB_spec hh
          have hl := hall e he he2
          have hjm : j < m := by
            have hjs : j < ops.size := (Array.getElem?_eq_some_iff.1 hj).1
            by_cases hjm : j = m
            · subst hjm; rw [hom] at hj; injection hj with hj; subst hj; rw [hdm] at hjd; cases hjd
            · omega
          exact hph j oj d' hjm hj hjd (by rw [← he1]; exact hl)
        have hw : Region.wanted o (yielded ops a.tmps) = true := by unfold Region.wanted; rw [hgu]
        have hstep := hst i o him' ho a w hS (fun t ht => hFK.2.2 t fun k ok hk hkd => by
          rw [Array.all_eq_true] at ht
          obtain ⟨hk1, hk2⟩ := Array.getElem?_eq_some_iff.1 hk
          have := ht k hk1
          rw [hk2, hkd] at this
          simp at this) hdep
        unfold wpOp
        simp only [ho, hw, if_true]
        refine Or.inl (wp_of_step hstep fun v w' ⟨h1, h2, h3⟩ => ?_)
        refine ih _ _ _ (by simp [hs]) (hcnt i hlt hun) ?_
        rw [hd]
        refine ⟨h2, ⟨by simp [Act.put, hFK.1], by simp [Act.put, hFK.2.1], fun t ht => by rw [eval_put_ne (fun e => ht i o ho (by rw [hd, e]))]; exact hFK.2.2 t ht⟩, ?_, fun j oj d' hjm hj hjd hl => ?_⟩
        · rw [Array.getD_eq_getD_getElem?, Array.getElem?_setIfInBounds_ne him, ← Array.getD_eq_getD_getElem?]; exact hum
        · by_cases hji : j = i
          · subst hji
            rw [ho] at hj
            injection hj with hj
            subst hj
            rw [hd] at hjd
            injection hjd with hjd
            subst hjd
            rw [eval_put_same (by rw [hFK.1]; exact hdn)]
            exact h1
          · rw [eval_put_ne (fun e => hdd j oj hjm hj hji (by rw [hjd, e]))]
            refine hφ _ _ _ _ (hph j oj d' hjm hj hjd ?_) h3
            have hne : ¬ i = j := fun e => hji e.symm
            simpa [Array.getD_eq_getD_getElem?, Array.getElem?_setIfInBounds_ne hne] using hl
/-- NO ORDER IS WALKED; the last operation by itself. -/
theorem wp_region_tail {id : Nat} {Q : Exit → Act → World → Prop} {a0 : Act} {w : World} (n m : Nat) (S : World → Prop) (le : World → World → Prop) (φ : Nat → Value → World → Prop) (hp : P.follows .mixedOrders = true) (hn : a0.tmps.size = n) (hB : tailB ops n m = true) (hK : backB ops = true)
    (hφ : ∀ i v w w', φ i v w → le w w' → φ i v w') (hS : S w.drew) (hst : ∀ i o, i < m → ops[i]? = some o → FreeStep P ops S le φ a0 i o)
    (hQ : ∀ a w o, ops[m]? = some o → S w → FrKeep ops a0 a → (∀ (i : Nat) (o : Oper) (d : Tmp), i < m → ops[i]? = some o → o.dst = some d → φ i (a.eval (.tmp d)) w) → o.wp P a w (fun a' w' => Q .normal a' w') Q) : (Code.region id ops true).wp P Q a0 w := by
  subst hn
  have hm := (tailB_last hB).1
  refine wp_region_any hp (wpAny_tail hB hK hφ hst hQ _ _ _ _ (by simp) ?_ ⟨hS, ⟨rfl, rfl, fun _ _ => rfl⟩, ?_, fun i o d _ hi hd hl => ?_⟩)
  · simp [List.countP_replicate]
  · simp [Array.getD, show m < ops.size by omega]
  · exfalso
    have hlt := (Array.getElem?_eq_some_iff.1 hi).1
    simp [Array.getD, hlt] at hl
end
end Go.Proofs.Yteoggaioleckhaa
