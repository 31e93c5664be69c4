import Derived.Test.YteoggaioleckhaaLast
/- A region that draws its order, ended by two operations (stores) that wait for all others and for each other: no order is walked. No program in sight. -/
set_option linter.unusedVariables false
namespace Go.Proofs.Yteoggaioleckhaa
open Go.RowKit
section
variable {P : Program} {ops : Array Oper} {S : World → Prop} {le : World → World → Prop} {φ : Nat → Value → World → Prop} {a0 : Act}
/-- All but operations m, m + 1 have a slot of their own, below n, and no guard; m waits for all others (at one remove at most), m + 1 for all of them. -/
def pairB (ops : Array Oper) (n m : Nat) : Bool :=
  (decide (m + 2 = ops.size)) && (match ops[m]? with | some o => (o.guard.isNone && o.dst.isNone) && (List.range m).all (fun j => o.after.any fun e => Region.binds .any e && (e.on == j || (match ops[e.on]? with | some o2 => o2.after.any fun e2 => e2.on == j && Region.binds .any e2 | none => false))) | none => false) &&
  (match ops[m + 1]? with | some o => (o.guard.isNone && o.dst.isNone) && (List.range (m + 1)).all (fun j => o.after.any fun e => e.on == j && Region.binds .any e) | none => false) &&
  (List.range m).all fun i => match ops[i]? with
    | some o => (match o.dst with
      | some d => decide (d < n) && ((List.range m).all fun j => j == i || (match ops[j]? with | some oj => oj.dst != some d | none => true))
      | none => false) && o.guard.isNone
    | none => false
theorem pairB_last {n m : Nat} (h : pairB ops n m = true) : m + 2 = ops.size ∧ (∃ o, ops[m]? = some o ∧ o.guard = none ∧ o.dst = none ∧ ∀ j, j < m → ∃ e ∈ o.after, Region.binds .any e = true ∧ (e.on = j ∨ ∃ o2, ops[e.on]? = some o2 ∧ ∃ e2 ∈ o2.after, e2.on = j ∧ Region.binds .any e2 = true)) ∧ ∃ o, ops[m + 1]? = some o ∧ o.guard = none ∧ o.dst = none ∧ ∀ j, j < m + 1 → ∃ e ∈ o.after, e.on = j ∧ Region.binds .any e = true := by
  unfold pairB at h
  rw [Bool.and_eq_true, Bool.and_eq_true, Bool.and_eq_true] at h
  obtain ⟨⟨⟨h1, h2⟩, h2'⟩, _⟩ := h
  refine ⟨by simpa using h1, ?_, ?_⟩
  · split at h2
    · rename_i o ho
      rw [Bool.and_eq_true, Bool.and_eq_true] at h2
      refine ⟨o, ho, by simpa using h2.1.1, by simpa using h2.1.2, fun j hj => ?_⟩
      have h3 := (List.all_eq_true.1 h2.2) j (List.mem_range.2 hj)
      rw [Array.any_eq_true] at h3
      obtain ⟨k, hk, h3⟩ := h3
      rw [Bool.and_eq_true, Bool.or_eq_true] at h3
      refine ⟨_, Array.getElem_mem hk, h3.1, ?_⟩
      rcases h3.2 with h4 | h4
      · exact Or.inl (by simpa using h4)
      · right
        split at h4
        · rename_i o2 ho2
          rw [Array.any_eq_true] at h4
          obtain ⟨k2, hk2, h4⟩ := h4
          simp only [Bool.and_eq_true, beq_iff_eq] at h4
          exact ⟨o2, ho2, _, Array.getElem_mem hk2, h4.1, h4.2⟩
        · cases h4
    · cases h2
  · split at h2'
    · rename_i o ho
      rw [Bool.and_eq_true, Bool.and_eq_true] at h2'
      refine ⟨o, ho, by simpa using h2'.1.1, by simpa using h2'.1.2, fun j hj => ?_⟩
      have h3 := (List.all_eq_true.1 h2'.2) j (List.mem_range.2 hj)
      rw [Array.any_eq_true] at h3
      obtain ⟨k, hk, h3⟩ := h3
      simp only [Bool.and_eq_true, beq_iff_eq] at h3
      exact ⟨_, Array.getElem_mem hk, h3.1, h3.2⟩
    · cases h2'
theorem pairB_spec {n m : Nat} (h : pairB ops n m = true) {i : Nat} {o : Oper} (hi : ops[i]? = some o) (him : i < m) :
    (∃ d, o.dst = some d ∧ d < n ∧ ∀ (j : Nat) (oj : Oper), j < m → ops[j]? = some oj → j ≠ i → oj.dst ≠ some d) ∧ o.guard = none := by
  unfold pairB at h
  rw [Bool.and_eq_true] at h
  have h1 := (List.all_eq_true.1 h.2) i (List.mem_range.2 him)
  simp only [hi, Bool.and_eq_true] at h1
  refine ⟨?_, by simpa using h1.2⟩
  have h2 := h1.1
  split at h2
  · rename_i d hd
    simp only [Bool.and_eq_true, decide_eq_true_eq] at h2
    refine ⟨d, hd, h2.1, fun j oj hjm hj hne => ?_⟩
    have h4 := (List.all_eq_true.1 h2.2) j (List.mem_range.2 hjm)
    simp only [hj, Bool.or_eq_true, beq_iff_eq, bne_iff_ne, ne_eq] at h4
    exact h4.resolve_left hne
  · cases h2
def downOk (ops : Array Oper) (listed : Array Bool) : Prop := ∀ (i : Nat) (o : Oper), ops[i]? = some o → listed.getD i false = true → ∀ e ∈ o.after, Region.binds .any e = true → listed.getD e.on false = true
theorem getD_set_ne {l : Array Bool} {i j : Nat} {b d : Bool} (h : i ≠ j) : (l.setIfInBounds i b).getD j d = l.getD j d := by
  rw [Array.getD_eq_getD_getElem?, Array.getElem?_setIfInBounds_ne h, ← Array.getD_eq_getD_getElem?]
theorem getD_set_same {l : Array Bool} {i : Nat} {b d : Bool} (h : i < l.size) : (l.setIfInBounds i b).getD i d = b := by
  simp [Array.getD, h]
theorem getD_swap {l : Array Bool} {i : Nat} (h : i < l.size) (b c : Bool) : l.getD i b = l.getD i c := by simp [Array.getD, h]
theorem down_set {listed : Array Bool} {i : Nat} {o : Oper} (h : downOk ops listed) (hi : ops[i]? = some o) (hs : i < listed.size) (hall : ∀ e ∈ o.after, Region.binds .any e = true → listed.getD e.on false = true) : downOk ops (listed.setIfInBounds i true) := by
  have key : ∀ j, listed.getD j false = true → (listed.setIfInBounds i true).getD j false = true := fun j hj => by
    by_cases hij : i = j
    · subst hij; exact getD_set_same hs
    · rw [getD_set_ne hij]; exact hj
  intro j oj hj hl e he hb
  by_cases hij : i = j
  · subst hij
    rw [hi] at hj; injection hj with hj; subst hj
    exact key _ (hall e he hb)
  · rw [getD_set_ne hij] at hl
    exact key _ (h j oj hj hl e he hb)
def pairJ (ops : Array Oper) (m : Nat) (S : World → Prop) (φ : Nat → Value → World → Prop) (a0 : Act) (listed : Array Bool) (a : Act) (w : World) : Prop :=
  S w ∧ FrKeep ops a0 a ∧ (listed.getD m true = false ∧ listed.getD (m + 1) true = false ∧ downOk ops listed) ∧ ∀ (i : Nat) (o : Oper) (d : Tmp), i < m → ops[i]? = some o → o.dst = some d → listed.getD i false = true → φ i (a.eval (.tmp d)) w
theorem count_set {listed : Array Bool} {i fuel : Nat} (hlt : i < listed.size) (hun : listed.getD i true = false) (hc : fuel + 1 = listed.toList.countP (· = false)) : fuel = ((listed.setIfInBounds i true).toList.countP (· = false)) := by
  have hcnt : (listed.toList.set i true).countP (· = false) + 1 = listed.toList.countP (· = false) := by
    have hii : listed.toList[i]'(by simpa using hlt) = false := by simpa [hlt] using hun
    rw [List.countP_set (h := by simpa using hlt)]
    rw [hii]
    have hpos : 0 < listed.toList.countP (· = false) := List.countP_pos_iff.2 ⟨false, by rw [← hii]; exact List.getElem_mem _, by simp⟩
    rw [if_pos (by decide), if_neg (by decide)]
    omega
  rw [Array.toList_setIfInBounds]
  omega
/-- One operation is left. -/
theorem wpAny_one {Q : Exit → Act → World → Prop} {m : Nat} {o : Oper} (ho : ops[m]? = some o) (hm : m + 1 = ops.size) (hg : o.guard = none) (listed : Array Bool) (hs : listed.size = ops.size) (hall : ∀ j, j < m → listed.getD j false = true) (hun : listed.getD m true = false) (hb : ∀ e ∈ o.after, Region.binds .any e = true → e.on < m) (fuel : Nat) (a : Act) (w : World)
    (hc : fuel = listed.toList.countP (· = false)) (hwp : o.wp P a w (fun a' w' => Q .normal a' w') Q) : wpAny P .any ops Q fuel listed a w := by
  have hms : m < listed.size := by omega
  have hrd : ∀ j, j ∈ Region.ready .any ops listed → j = m := fun j hj => by
    obtain ⟨hju, oj, hoj, _⟩ := mem_ready.1 hj
    have hjl : j < ops.size := (Array.getElem?_eq_some_iff.1 hoj).1
    rcases Nat.lt_or_ge j m with h | h
    · have := hall j h
      rw [getD_swap (by omega) true false, this] at hju
      cases hju
    · omega
  have hin : m ∈ Region.ready .any ops listed := mem_ready.2 ⟨hun, o, ho, fun e he h => hall _ (hb e he h)⟩
  cases fuel with
  | zero =>
    exfalso
    have h2 := List.countP_eq_zero.1 hc.symm (listed[m]) (by simp)
    simp [hms] at hun
    simp [hun] at h2
  | succ fuel =>
    refine ⟨fun h0 => (by rw [h0] at hin; cases hin), fun j hj => ?_⟩
    obtain rfl := hrd j hj
    have hw : Region.wanted o (yielded ops a.tmps) = true := by unfold Region.wanted; rw [hg]
    unfold wpOp
    simp only [ho, hw, if_true]
    refine Or.inl (Oper.wp_mono (fun a' w' hq => ?_) hwp)
    have hready : Region.ready .any ops (listed.setIfInBounds j true) = [] := by
      refine List.eq_nil_iff_forall_not_mem.2 fun i hi => ?_
      obtain ⟨hju, oj, hoj, _⟩ := mem_ready.1 hi
      have hjl : i < ops.size := (Array.getElem?_eq_some_iff.1 hoj).1
      by_cases hij : j = i
      · subst hij; rw [getD_set_same hms] at hju; cases hju
      · rw [getD_set_ne hij] at hju
        have := hall i (by omega)
        rw [getD_swap (by omega) true false, this] at hju
        cases hju
    cases fuel with
    | zero => exact ⟨hready, hq⟩
    | succ k => exact ⟨fun _ => hq, fun i hi => by rw [hready] at hi; cases hi⟩
theorem wpAny_pair {Q : Exit → Act → World → Prop} {m : Nat} (hB : pairB ops a0.tmps.size m = true) (hK : backB ops = true) (hφ : ∀ i v w w', φ i v w → le w w' → φ i v w')
    (hst : ∀ i o, i < m → ops[i]? = some o → FreeStep P ops S le φ a0 i o)
    (hQ : ∀ a w o o', ops[m]? = some o → ops[m + 1]? = some o' → S w → FrKeep ops a0 a → (∀ (i : Nat) (o : Oper) (d : Tmp), i < m → ops[i]? = some o → o.dst = some d → φ i (a.eval (.tmp d)) w) → o.wp P a w (fun a' w' => o'.wp P a' w' (fun a'' w'' => Q .normal a'' w'') Q) Q) :
    ∀ (fuel : Nat) (listed : Array Bool) (a : Act) (w : World), listed.size = ops.size → fuel = (listed.toList.countP (· = false)) → pairJ ops m S φ a0 listed a w → wpAny P .any ops Q fuel listed a w := by
  obtain ⟨hm1, ⟨om, hom, hgm, hdm, hwait⟩, op, hop, hgp, hdp, hwp2⟩ := pairB_last hB
  have hback : ∀ e ∈ op.after, Region.binds .any e = true → e.on < m + 1 := fun e he hb => by
    unfold backB at hK
    have h1 := (List.all_eq_true.1 hK) (m + 1) (List.mem_range.2 (by omega))
    simp only [hop] at h1
    have h2 := (Array.all_eq_true'.1 h1) e he
    simpa [hb] using h2
  intro fuel
  induction fuel with
  | zero =>
    intro listed a w hs hc hJ
    exfalso
    have hlt : m < listed.size := by omega
    have h2 := List.countP_eq_zero.1 hc.symm (listed[m]) (by simp)
    have h3 := hJ.2.2.1.1
    simp [hlt] at h3
    simp [h3] at h2
  | succ fuel ih =>
    intro listed a w hs hc hJ
    refine ⟨fun h0 => ?_, fun i hi => ?_⟩
    · exfalso
      have := all_listed hK listed hs h0 m (by omega)
      have h3 := hJ.2.2.1.1
      rw [getD_swap (by omega) true false, this] at h3
      cases h3
    · obtain ⟨hun, o, ho, hall⟩ := mem_ready.1 hi
      have hlt : i < ops.size := (Array.getElem?_eq_some_iff.1 ho).1
      have hlt' : i < listed.size := by omega
      obtain ⟨hS, hFK, ⟨hum, hup, hdown⟩, hph⟩ := hJ
      by_cases him : i = m
      · subst him
        rw [hom] at ho
        injection ho with ho
        subst ho
        have hw : Region.wanted om (yielded ops a.tmps) = true := by unfold Region.wanted; rw [hgm]
        have hol : ∀ j, j < i → listed.getD j false = true := fun j hj => by
          obtain ⟨e, he, hb, h⟩ := hwait j hj
          have h1 := hall e he hb
          rcases h with rfl | ⟨o2, ho2, e2, he2, rfl, hb2⟩
          · exact h1
          · exact hdown _ o2 ho2 h1 e2 he2 hb2
        have hwp := hQ a w om op hom hop hS hFK (fun j oj d hj hoj hd => hph j oj d hj hoj hd (hol j hj))
        unfold wpOp
        simp only [hom, hw, if_true]
        refine Or.inl (Oper.wp_mono (fun a' w' hq => ?_) hwp)
        refine wpAny_one hop (by omega) hgp _ (by simp [hs]) (fun j hj => ?_) (by rw [getD_set_ne (by omega)]; exact hup) hback fuel a' w' (count_set hlt' hun hc) hq
        by_cases hij : i = j
        · subst hij; exact getD_set_same hlt'
        · rw [getD_set_ne hij]; exact hol j (by omega)
      · by_cases hip : i = m + 1
        · exfalso
          subst hip
          rw [hop] at ho
          injection ho with ho
          subst ho
          obtain ⟨e, he, h1, h2⟩ := hwp2 m (by omega)
          have := hall e he h2
          rw [h1, getD_swap (by omega) false true, hum] at this
          cases this
        · have him' : i < m := by omega
          obtain ⟨⟨d, hd, hdn, hdd⟩, hgu⟩ := pairB_spec hB ho him'
          have hdep : ∀ j d', depB ops o j d' = true → φ j (a.eval (.tmp d')) w := fun j d' hh => by
            obtain ⟨⟨e, he, he1, he2⟩, oj, hj, hjd⟩ := depB_spec hh
            have hl := hall e he he2
            have hjm : j < m := by
              have hjs : j < ops.size := (Array.getElem?_eq_some_iff.1 hj).1
              by_cases hjm : j = m
              · subst hjm; rw [hom] at hj; injection hj with hj; subst hj; rw [hdm] at hjd; cases hjd
              · by_cases hjp : j = m + 1
                · subst hjp; rw [hop] at hj; injection hj with hj; subst hj; rw [hdp] at hjd; cases hjd
                · omega
            exact hph j oj d' hjm hj hjd (by rw [← he1]; exact hl)
          have hw : Region.wanted o (yielded ops a.tmps) = true := by unfold Region.wanted; rw [hgu]
          have hstep := hst i o him' ho a w hS (fun t ht => hFK.2.2 t fun k ok hk hkd => by
            rw [Array.all_eq_true] at ht
            obtain ⟨hk1, hk2⟩ := Array.getElem?_eq_some_iff.1 hk
            have := ht k hk1
            rw [hk2, hkd] at this
            simp at this) hdep
          unfold wpOp
          simp only [ho, hw, if_true]
          refine Or.inl (wp_of_step hstep fun v w' ⟨h1, h2, h3⟩ => ?_)
          refine ih _ _ _ (by simp [hs]) (count_set hlt' hun hc) ?_
          rw [hd]
          refine ⟨h2, ⟨by simp [Act.put, hFK.1], by simp [Act.put, hFK.2.1], fun t ht => by rw [eval_put_ne (fun e => ht i o ho (by rw [hd, e]))]; exact hFK.2.2 t ht⟩, ⟨by rw [getD_set_ne him]; exact hum, by rw [getD_set_ne hip]; exact hup, down_set hdown ho hlt' hall⟩, fun j oj d' hjm hj hjd hl => ?_⟩
          by_cases hji : j = i
          · subst hji
            rw [ho] at hj
            injection hj with hj
            subst hj
            rw [hd] at hjd
            injection hjd with hjd
            subst hjd
            rw [eval_put_same (by rw [hFK.1]; exact hdn)]
            exact h1
          · rw [eval_put_ne (fun e => hdd j oj hjm hj hji (by rw [hjd, e]))]
            refine hφ _ _ _ _ (hph j oj d' hjm hj hjd ?_) h3
            rw [getD_set_ne (fun e => hji e.symm)] at hl
            exact hl
/-- NO ORDER IS WALKED; the last two operations by themselves. -/
theorem wp_region_pair {id : Nat} {Q : Exit → Act → World → Prop} {a0 : Act} {w : World} (n m : Nat) (S : World → Prop) (le : World → World → Prop) (φ : Nat → Value → World → Prop) (hp : P.follows .mixedOrders = true) (hn : a0.tmps.size = n) (hB : pairB ops n m = true) (hK : backB ops = true)
    (hφ : ∀ i v w w', φ i v w → le w w' → φ i v w') (hS : S w.drew) (hst : ∀ i o, i < m → ops[i]? = some o → FreeStep P ops S le φ a0 i o)
    (hQ : ∀ a w o o', ops[m]? = some o → ops[m + 1]? = some o' → S w → FrKeep ops a0 a → (∀ (i : Nat) (o : Oper) (d : Tmp), i < m → ops[i]? = some o → o.dst = some d → φ i (a.eval (.tmp d)) w) → o.wp P a w (fun a' w' => o'.wp P a' w' (fun a'' w'' => Q .normal a'' w'') Q) Q) : (Code.region id ops true).wp P Q a0 w := by
  subst hn
  have hm := (pairB_last hB).1
  have hz : ∀ i, (Array.replicate ops.size false).getD i false = false := fun i => by
    by_cases h : i < ops.size
    · simp [Array.getD, h]
    · simp [Array.getD, h]
  refine wp_region_any hp (wpAny_pair hB hK hφ hst hQ _ _ _ _ (by simp) ?_ ⟨hS, ⟨rfl, rfl, fun _ _ => rfl⟩, ⟨?_, ?_, fun i o hi hl => ?_⟩, fun i o d _ hi hd hl => ?_⟩)
  · simp [List.countP_replicate]
  · simp [Array.getD, show m < ops.size by omega]
  · simp [Array.getD, show m + 1 < ops.size by omega]
  · rw [hz] at hl; cases hl
  · rw [hz] at hl; cases hl
end
end Go.Proofs.Yteoggaioleckhaa
