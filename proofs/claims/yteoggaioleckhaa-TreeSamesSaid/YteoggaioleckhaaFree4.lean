import Derived.Test.YteoggaioleckhaaFree3
/- The same law, with the blocks of each operation's value apart from those of the others. No program in sight. -/
set_option linter.unusedVariables false
namespace Go.Proofs.Yteoggaioleckhaa
open Go.RowKit
section
variable {P : Program} {ops : Array Oper} {S : World → Prop} {le : World → World → Prop} {φ : Nat → Nat → Nat → Value → World → Prop} {a0 : Act}
/-- What an operation makes lies in the blocks from the world's size ahead of it to the size behind it. -/
def ApStep (P : Program) (ops : Array Oper) (S : World → Prop) (le : World → World → Prop) (φ : Nat → Nat → Nat → Value → World → Prop) (a0 : Act) (i : Nat) (o : Oper) : Prop :=
  ∀ (a : Act) (w : World), S w → (∀ t : Tmp, (ops.all fun o => o.dst != some t) = true → a.eval (.tmp t) = a0.eval (.tmp t)) → (∀ j d, depB ops o j d = true → ∃ lo hi, φ j lo hi (a.eval (.tmp d)) w) →
    stepAt P o a w (fun v w' => φ i w.heap.size w'.heap.size v w' ∧ S w' ∧ le w w')
def apart (m : Nat) (on : Nat → Prop) (lo hi : Nat → Nat) : Prop := ∀ i j, i < m → j < m → on i → on j → i ≠ j → hi i ≤ lo j ∨ hi j ≤ lo i
def apartJ (ops : Array Oper) (m : Nat) (S : World → Prop) (φ : Nat → Nat → Nat → Value → World → Prop) (a0 : Act) (listed : Array Bool) (a : Act) (w : World) : Prop :=
  S w ∧ FrKeep ops a0 a ∧ (listed.getD m true = false ∧ listed.getD (m + 1) true = false ∧ downOk ops listed) ∧ ∃ lo hi : Nat → Nat, (∀ (i : Nat) (o : Oper) (d : Tmp), i < m → ops[i]? = some o → o.dst = some d → listed.getD i false = true → φ i (lo i) (hi i) (a.eval (.tmp d)) w ∧ hi i ≤ w.heap.size) ∧ apart m (fun i => listed.getD i false = true) lo hi
theorem wpAny_apart {Q : Exit → Act → World → Prop} {m : Nat} (hB : pairB ops a0.tmps.size m = true) (hK : backB ops = true) (hφ : ∀ i lo hi v w w', φ i lo hi v w → le w w' → φ i lo hi v w') (hle : ∀ w w', le w w' → w.heap.size ≤ w'.heap.size)
    (hst : ∀ i o, i < m → ops[i]? = some o → ApStep P ops S le φ a0 i o)
    (hQ : ∀ a w o o', ops[m]? = some o → ops[m + 1]? = some o' → S w → FrKeep ops a0 a → (∃ lo hi : Nat → Nat, (∀ (i : Nat) (o : Oper) (d : Tmp), i < m → ops[i]? = some o → o.dst = some d → φ i (lo i) (hi i) (a.eval (.tmp d)) w ∧ hi i ≤ w.heap.size) ∧ apart m (fun _ => True) lo hi) → o.wp P a w (fun a' w' => o'.wp P a' w' (fun a'' w'' => Q .normal a'' w'') Q) Q) :
    ∀ (fuel : Nat) (listed : Array Bool) (a : Act) (w : World), listed.size = ops.size → fuel = (listed.toList.countP (· = false)) → apartJ ops m S φ a0 listed a w → wpAny P .any ops Q fuel listed a w := by
  obtain ⟨hm1, ⟨om, hom, hgm, hdm, hwait⟩, op, hop, hgp, hdp, hwp2⟩ := pairB_last hB
  have hback : ∀ e ∈ op.after, Region.binds .any e = true → e.on < m + 1 := fun e he hb => by
    unfold backB at hK
    have h1 := (List.all_eq_true.1 hK) (m + 1) (List.mem_range.2 (by omega))
    simp only [hop] at h1
    have h2 := (Array.all_eq_true'.1 h1) e he
    simpa [hb] using h2
  intro fuel
  induction fuel with
  | zero =>
    intro listed a w hs hc hJ
    exfalso
    have hlt : m < listed.size := by omega
    have h2 := List.countP_eq_zero.1 hc.symm (listed[m]) (by simp)
    have h3 := hJ.2.2.1.1
    simp [hlt] at h3
    simp [h3] at h2
  | succ fuel ih =>
    intro listed a w hs hc hJ
    refine ⟨fun h0 => ?_, fun i hi => ?_⟩
    · exfalso
      have := all_listed hK listed hs h0 m (by omega)
      have h3 := hJ.2.2.1.1
      rw [getD_swap (by omega) true false, this] at h3
      cases h3
    · obtain ⟨hun, o, ho, hall⟩ := mem_ready.1 hi
      have hlt : i < ops.size := (Array.getElem?_eq_some_iff.1 ho).1
      have hlt' : i < listed.size := by omega
      obtain ⟨hS, hFK, ⟨hum, hup, hdown⟩, lo, hi', hph, hap⟩ := hJ
      by_cases him : i = m
      · subst him
        rw [hom] at ho
        injection ho with ho
        subst ho
        have hw : Region.wanted om (yielded ops a.tmps) = true := by unfold Region.wanted; rw [hgm]
        have hol : ∀ j, j < i → listed.getD j false = true := fun j hj => by
          obtain ⟨e, he, hb, h⟩ := hwait j hj
          have h1 := hall e he hb
          rcases h with rfl | ⟨o2, ho2, e2, he2, rfl, hb2⟩
          · exact h1
          · exact hdown _ o2 ho2 h1 e2 he2 hb2
        have hwp := hQ a w om op hom hop hS hFK ⟨lo, hi', fun j oj d hj hoj hd => hph j oj d hj hoj hd (hol j hj), fun p q hp hq _ _ hne => hap p q hp hq (hol p hp) (hol q hq) hne⟩
        unfold wpOp
        simp only [hom, hw, if_true]
        refine Or.inl (Oper.wp_mono (fun a' w' hq => ?_) hwp)
        refine wpAny_one hop (by omega) hgp _ (by simp [hs]) (fun j hj => ?_) (by rw [getD_set_ne (by omega)]; exact hup) hback fuel a' w' (count_set hlt' hun hc) hq
        by_cases hij : i = j
        · subst hij; exact getD_set_same hlt'
        · rw [getD_set_ne hij]; exact hol j (by omega)
      · by_cases hip : i = m + 1
        · exfalso
          subst hip
          rw [hop] at ho
          injection ho with ho
          subst ho
          obtain ⟨e, he, h1, h2⟩ := hwp2 m (by omega)
          have := hall e he h2
          rw [h1, getD_swap (by omega) false true, hum] at this
          cases this
        · have him' : i < m := by omega
          obtain ⟨⟨d, hd, hdn, hdd⟩, hgu⟩ := pairB_spec hB ho him'
          have hdep : ∀ j d', depB ops o j d' = true → ∃ lo hi, φ j lo hi (a.eval (.tmp d')) w := fun j d' hh => by
            obtain ⟨⟨e, he, he1, he2⟩, oj, hj, hjd⟩ := depB_spec hh
            have hl := hall e he he2
            have hjm : j < m := by
              have hjs : j < ops.size := (Array.getElem?_eq_some_iff.1 hj).1
              by_cases hjm : j = m
              · subst hjm; rw [hom] at hj; injection hj with hj; subst hj; rw [hdm] at hjd; cases hjd
              · by_cases hjp : j = m + 1
                · subst hjp; rw [hop] at hj; injection hj with hj; subst hj; rw [hdp] at hjd; cases hjd
                · omega
            exact ⟨_, _, (hph j oj d' hjm hj hjd (by rw [← he1]; exact hl)).1⟩
          have hw : Region.wanted o (yielded ops a.tmps) = true := by unfold Region.wanted; rw [hgu]
          have hstep := hst i o him' ho a w hS (fun t ht => hFK.2.2 t fun k ok hk hkd => by
            rw [Array.all_eq_true] at ht
            obtain ⟨hk1, hk2⟩ := Array.getElem?_eq_some_iff.1 hk
            have := ht k hk1
            rw [hk2, hkd] at this
            simp at this) hdep
          unfold wpOp
          simp only [ho, hw, if_true]
          refine Or.inl (wp_of_step hstep fun v w' ⟨h1, h2, h3⟩ => ?_)
          refine ih _ _ _ (by simp [hs]) (count_set hlt' hun hc) ?_
          rw [hd]
          refine ⟨h2, ⟨by simp [Act.put, hFK.1], by simp [Act.put, hFK.2.1], fun t ht => by rw [eval_put_ne (fun e => ht i o ho (by rw [hd, e]))]; exact hFK.2.2 t ht⟩, ⟨by rw [getD_set_ne him]; exact hum, by rw [getD_set_ne hip]; exact hup, down_set hdown ho hlt' hall⟩, fun k => if k = i then w.heap.size else lo k, fun k => if k = i then w'.heap.size else hi' k, fun j oj d' hjm hj hjd hl => ?_, ?_⟩
          · by_cases hji : j = i
            · subst hji
              rw [ho] at hj
              injection hj with hj
              subst hj
              rw [hd] at hjd
              injection hjd with hjd
              subst hjd
              rw [eval_put_same (by rw [hFK.1]; exact hdn)]
              show φ j (if j = j then w.heap.size else lo j) (if j = j then w'.heap.size else hi' j) v w' ∧ (if j = j then w'.heap.size else hi' j) ≤ w'.heap.size
              rw [if_pos rfl, if_pos rfl]
              exact ⟨h1, Nat.le_refl _⟩
            · rw [eval_put_ne (fun e => hdd j oj hjm hj hji (by rw [hjd, e]))]
              show φ j (if j = i then w.heap.size else lo j) (if j = i then w'.heap.size else hi' j) (a.eval (.tmp d')) w' ∧ (if j = i then w'.heap.size else hi' j) ≤ w'.heap.size
              rw [if_neg hji, if_neg hji]
              rw [getD_set_ne (fun e => hji e.symm)] at hl
              obtain ⟨g1, g2⟩ := hph j oj d' hjm hj hjd hl
              exact ⟨hφ _ _ _ _ _ _ g1 h3, Nat.le_trans g2 (hle _ _ h3)⟩
          · have hbd : ∀ k, k < m → ¬ k = i → (listed.setIfInBounds i true).getD k false = true → hi' k ≤ w.heap.size := fun k hk hki hl => by
              rw [getD_set_ne (fun e => hki e.symm)] at hl
              have hko : k < ops.size := by omega
              obtain ⟨dk, hdk⟩ := (pairB_spec hB (Array.getElem?_eq_getElem hko) hk).1
              exact (hph k _ dk hk (Array.getElem?_eq_getElem hko) hdk.1 hl).2
            intro p q hp hq hlp hlq hne
            by_cases hpi : p = i
            · subst hpi
              have hqi : ¬ q = p := fun e => hne e.symm
              right
              simp only [if_pos, if_neg hqi]
              exact hbd q hq hqi hlq
            · by_cases hqi : q = i
              · subst hqi
                left
                simp only [if_pos, if_neg hpi]
                exact hbd p hp hpi hlp
              · simp only [if_neg hpi, if_neg hqi]
                rw [getD_set_ne (fun e => hpi e.symm)] at hlp
                rw [getD_set_ne (fun e => hqi e.symm)] at hlq
                exact hap p q hp hq hlp hlq hne
/-- NO ORDER IS WALKED; the last two operations by themselves. -/
theorem wp_region_apart {id : Nat} {Q : Exit → Act → World → Prop} {a0 : Act} {w : World} (n m : Nat) (S : World → Prop) (le : World → World → Prop) (φ : Nat → Nat → Nat → Value → World → Prop) (hp : P.follows .mixedOrders = true) (hn : a0.tmps.size = n) (hB : pairB ops n m = true) (hK : backB ops = true)
    (hφ : ∀ i lo hi v w w', φ i lo hi v w → le w w' → φ i lo hi v w') (hle : ∀ w w', le w w' → w.heap.size ≤ w'.heap.size) (hS : S w.drew) (hst : ∀ i o, i < m → ops[i]? = some o → ApStep P ops S le φ a0 i o)
    (hQ : ∀ a w o o', ops[m]? = some o → ops[m + 1]? = some o' → S w → FrKeep ops a0 a → (∃ lo hi : Nat → Nat, (∀ (i : Nat) (o : Oper) (d : Tmp), i < m → ops[i]? = some o → o.dst = some d → φ i (lo i) (hi i) (a.eval (.tmp d)) w ∧ hi i ≤ w.heap.size) ∧ apart m (fun _ => True) lo hi) → o.wp P a w (fun a' w' => o'.wp P a' w' (fun a'' w'' => Q .normal a'' w'') Q) Q) : (Code.region id ops true).wp P Q a0 w := by
  subst hn
  have hm := (pairB_last hB).1
  have hz : ∀ i, (Array.replicate ops.size false).getD i false = false := fun i => by
    by_cases h : i < ops.size
    · simp [Array.getD, h]
    · simp [Array.getD, h]
  refine wp_region_any hp (wpAny_apart hB hK hφ hle hst hQ _ _ _ _ (by simp) ?_ ⟨hS, ⟨rfl, rfl, fun _ _ => rfl⟩, ⟨?_, ?_, fun i o hi hl => ?_⟩, fun _ => 0, fun _ => 0, fun i o d _ hi hd hl => ?_, fun p q _ _ hl => ?_⟩)
  · simp [List.countP_replicate]
  · simp [Array.getD, show m < ops.size by omega]
  · simp [Array.getD, show m + 1 < ops.size by omega]
  · rw [hz] at hl; cases hl
  · rw [hz] at hl; cases hl
  · simp only [hz] at hl; cases hl
end
end Go.Proofs.Yteoggaioleckhaa
