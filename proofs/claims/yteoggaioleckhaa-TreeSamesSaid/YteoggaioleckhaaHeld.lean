import Derived.Test.YteoggaioleckhaaMem
import Derived.Deep.Quiet
import Derived.BigQuiet
import Derived.Deep.QuietTactic
/- A region that draws its order, in which some operations turn the world ('marked': calls, stores, allocations) and are chained, and all others only read what stays as it is (S): one walk in a given order, the frame written out. No program in sight. -/
namespace Go.Proofs.Yteoggaioleckhaa
open Go.RowKit
section
variable {P : Program} {ops : Array Oper} {md : Region.Mode} {S : World → Prop} {m : Nat → Bool}
/-- What an operation that may turn the world yields from w. -/
def stepUpon (P : Program) (w : World) (D : Value → World → Prop) : Result Next → Prop
  | .ok (.value u) w' => D u w'
  | .ok .skip w' => D undef w'
  | .ok (.enter f args) w' => w' = w ∧ Calls P f args w (fun e w'' => ∃ v, e = .returned v ∧ D v w'')
  | _ => False
def stepAt (P : Program) (o : Oper) (a : Act) (w : World) (D : Value → World → Prop) : Prop := stepUpon P w D ((execOp a.eval o).run P w)
/-- What an operation that only reads yields, in every world that meets S. -/
def readAt (P : Program) (S : World → Prop) (o : Oper) (a : Act) (v : Value) : Prop :=
  ∀ w, S w → (execOp a.eval o).run P w = .ok (.value v) w ∨ ((execOp a.eval o).run P w = .ok .skip w ∧ v = undef)
def xOp (P : Program) (ops : Array Oper) (S : World → Prop) (m : Nat → Bool) (i : Nat) (K : Act → World → Prop) (a : Act) (w : World) : Prop :=
  match ops[i]? with
  | none => K a w
  | some o =>
    if Region.wanted o (yielded ops a.tmps) = true then
      if m i = true then ∃ D : Value → World → Prop, stepAt P o a w (fun v w' => D v w' ∧ S w') ∧ ∀ v w', D v w' → S w' → K (a.put o.dst v) w'
      else ∃ v, readAt P S o a v ∧ K (a.put o.dst v) w
    else K (a.put o.dst undef) w
theorem xOp_mono {i : Nat} {a : Act} {w : World} {K K' : Act → World → Prop} (h : ∀ a w, S w → K a w → K' a w) (hS : S w) (hh : xOp P ops S m i K a w) : xOp P ops S m i K' a w := by
  unfold xOp at *
  split
  · rename_i ho; simp only [ho] at hh; exact h _ _ hS hh
  · rename_i o ho
    simp only [ho] at hh
    split
    · rename_i hw
      simp only [hw, if_true] at hh
      split
      · rename_i hm
        simp only [hm, if_true] at hh
        obtain ⟨D, h1, h2⟩ := hh
        exact ⟨D, h1, fun v w' hd hs => h _ _ hs (h2 v w' hd hs)⟩
      · rename_i hm
        simp only [hm] at hh
        obtain ⟨v, h1, h2⟩ := hh
        exact ⟨v, h1, h _ _ hS h2⟩
    · rename_i hw
      simp only [hw] at hh
      exact h _ _ hS hh
def wpAnyX (P : Program) (md : Region.Mode) (ops : Array Oper) (S : World → Prop) (m : Nat → Bool) (Q : Act → World → Prop) : Nat → Array Bool → Act → World → Prop
  | 0, listed, a, w => Region.ready md ops listed = [] ∧ Q a w
  | fuel + 1, listed, a, w =>
    (Region.ready md ops listed = [] → Q a w) ∧ ∀ i ∈ Region.ready md ops listed, xOp P ops S m i (wpAnyX P md ops S m Q fuel (listed.setIfInBounds i true)) a w
theorem wp_of_step {o : Oper} {a : Act} {w : World} {D : Value → World → Prop} {K : Act → World → Prop} {Q : Exit → Act → World → Prop} (h : stepAt P o a w D) (hK : ∀ v w', D v w' → K (a.put o.dst v) w') : o.wp P a w K Q := by
  unfold stepAt at h
  unfold Oper.wp
  generalize (execOp a.eval o).run P w = r at *
  cases r with
  | ok n w' =>
    cases n <;> simp only [stepUpon] at h <;> simp only [Oper.upon]
    case value u => exact hK _ _ h
    case skip => exact hK _ _ h
    case enter f args =>
      obtain ⟨e1, hc⟩ := h
      rw [e1]
      exact hc.mono fun e w'' ⟨v, he, hd⟩ => by subst he; exact hK _ _ hd
  | halt x w' => simp only [stepUpon] at h
theorem wp_of_read {o : Oper} {a : Act} {w : World} {v : Value} {K : Act → World → Prop} {Q : Exit → Act → World → Prop} (h : readAt P S o a v) (hS : S w) (hK : K (a.put o.dst v) w) : o.wp P a w K Q := by
  unfold Oper.wp
  rcases h w hS with h1 | ⟨h1, h2⟩
  · rw [h1]; exact hK
  · subst h2; rw [h1]; exact hK
theorem wpOp_of_x {i : Nat} {a : Act} {w : World} {K K' : Act → World → Prop} {Q : Exit → Act → World → Prop} (hS : S w) (h : ∀ a w, S w → K a w → K' a w) (hh : xOp P ops S m i K a w) : wpOp P ops Q i K' a w := by
  unfold xOp at hh
  unfold wpOp
  split
  · rename_i ho; simp only [ho] at hh; exact h _ _ hS hh
  · rename_i o ho
    simp only [ho] at hh
    split
    · rename_i hw
      simp only [hw, if_true] at hh
      split at hh
      · obtain ⟨D, h1, h2⟩ := hh
        exact .inl (wp_of_step h1 fun v w' hd => h _ _ hd.2 (h2 v w' hd.1 hd.2))
      · obtain ⟨v, h1, h2⟩ := hh
        exact .inl (wp_of_read h1 hS (h _ _ hS h2))
    · rename_i hw; simp only [hw] at hh; exact h _ _ hS hh
theorem wpAny_of_x {Q : Act → World → Prop} {Q' : Exit → Act → World → Prop} (hQ : ∀ a w, S w → Q a w → Q' .normal a w) : ∀ (fuel : Nat) (listed : Array Bool) (a : Act) (w : World), S w → wpAnyX P md ops S m Q fuel listed a w → wpAny P md ops Q' fuel listed a w
  | 0, _, _, _, hS, h => ⟨h.1, hQ _ _ hS h.2⟩
  | fuel + 1, _, _, _, hS, h => ⟨fun h0 => hQ _ _ hS (h.1 h0), fun i hi => wpOp_of_x hS (fun a' w' hS' => wpAny_of_x hQ fuel _ a' w' hS') (h.2 i hi)⟩
/-- Operation o, which only reads, leaves v: or its guard passes over it. -/
def Reads (P : Program) (ops : Array Oper) (S : World → Prop) (o : Oper) (v : Value) (a : Act) : Prop :=
  (Region.wanted o (yielded ops a.tmps) = true ∧ readAt P S o a v) ∨ (Region.wanted o (yielded ops a.tmps) = false ∧ v = undef)
theorem Reads.of_same {o : Oper} {v : Value} {a a' : Act} (hy : Reads P ops S o v a) (he : execOp a'.eval o = execOp a.eval o) (hw : Region.wanted o (yielded ops a'.tmps) = Region.wanted o (yielded ops a.tmps)) : Reads P ops S o v a' := by
  unfold Reads readAt at *
  rw [he, hw]
  exact hy
theorem Reads.xOp {i : Nat} {o : Oper} {v : Value} {a : Act} {w : World} (hi : ops[i]? = some o) (hm : m i = false) (hy : Reads P ops S o v a) {K : Act → World → Prop} (h : K (a.put o.dst v) w) : xOp P ops S m i K a w := by
  unfold Go.Proofs.Yteoggaioleckhaa.xOp
  simp only [hi]
  rcases hy with ⟨hw, hv⟩ | ⟨hw, rfl⟩
  · rw [if_pos hw, if_neg (by simp [hm])]; exact ⟨v, hv, h⟩
  · rw [if_neg (by simp [hw])]; exact h
theorem xOp_put {j : Nat} {oi oj : Oper} {v : Value} {w : World} (hj : ops[j]? = some oj) (hap : oi.apart ops oj = true)
    (hsi : ∀ cs b, oi.op ≠ .select cs b) (hsj : ∀ cs b, oj.op ≠ .select cs b) {K : Act → World → Prop} {a : Act}
    (hy : Reads P ops S oi v a) (h : xOp P ops S m j K (a.put oi.dst v) w) :
    xOp P ops S m j (fun a' w' => Reads P ops S oi v a' ∧ K (a'.put oi.dst v) w') a w := by
  obtain ⟨h1, h2, h3⟩ := Oper.apart_spec hap
  have keep : ∀ (a : Act), Reads P ops S oi v a → ∀ u, Reads P ops S oi v (a.put oj.dst u) := fun a hy u =>
    hy.of_same (execOp_put oi hsi a oj.dst u h3) (wanted_put oi a oj.dst u h3)
  have he := execOp_put oj hsj a oi.dst v h1
  unfold xOp at *
  simp only [hj] at *
  rw [wanted_put oj a oi.dst v h1] at h
  split
  · rename_i hw
    simp only [hw, if_true] at h
    split
    · rename_i hm
      simp only [hm, if_true] at h
      obtain ⟨D, hd, hn⟩ := h
      refine ⟨D, by unfold stepAt at *; rwa [he] at hd, fun u w' hu hs => ⟨keep a hy u, ?_⟩⟩
      rw [← Act.put_comm a v u h2]
      exact hn u w' hu hs
    · rename_i hm
      simp only [hm] at h
      obtain ⟨u, hu, hn⟩ := h
      exact ⟨u, by unfold readAt at *; rwa [he] at hu, keep a hy u, by rw [← Act.put_comm a v u h2]; exact hn⟩
  · rename_i hw
    simp only [hw] at h
    exact ⟨keep a hy _, by rw [← Act.put_comm a v undef h2]; exact h⟩
theorem wpAnyX_first {Q : Act → World → Prop} {i : Nat} {oi : Oper} {v : Value} (hi : ops[i]? = some oi) (hm : m i = false) (hsel : ∀ (j : Nat) (o : Oper) cs b, ops[j]? = some o → o.op ≠ .select cs b) :
    ∀ (fuel : Nat) (listed : Array Bool) (a : Act) (w : World), S w →
      (∀ j oj, ops[j]? = some oj → j ≠ i → listed.getD j true = false → (∀ e ∈ oj.after, Region.binds md e = true → e.on ≠ i) → oi.apart ops oj = true) →
      i ∈ Region.ready md ops listed → Reads P ops S oi v a →
      wpAnyX P md ops S m Q fuel (listed.setIfInBounds i true) (a.put oi.dst v) w → wpAnyX P md ops S m Q (fuel + 1) listed a w := by
  intro fuel
  induction fuel with
  | zero =>
    intro listed a w _ _ hr hy H
    refine ⟨fun h => (by rw [h] at hr; cases hr), fun j hj => ?_⟩
    by_cases hji : j = i
    · subst hji; exact hy.xOp hi hm H
    · have := ready_mono hj hji
      rw [H.1] at this
      cases this
  | succ fuel ih =>
    intro listed a w hS hfree hr hy H
    refine ⟨fun h => (by rw [h] at hr; cases hr), fun j hj => ?_⟩
    by_cases hji : j = i
    · subst hji; exact hy.xOp hi hm H
    · have h1 := H.2 j (ready_mono hj hji)
      obtain ⟨hjun, oj, hoj, hall⟩ := mem_ready.1 hj
      have hnot : ∀ e ∈ oj.after, Region.binds md e = true → e.on ≠ i := fun e he hb heq => by
        have h1 := hall e he hb
        have h0 := (mem_ready.1 hr).1
        rw [heq] at h1
        rcases Nat.lt_or_ge i listed.size with h' | h'
        · simp [h'] at h0 h1; rw [h0] at h1; cases h1
        · simp [Array.getElem?_eq_none h'] at h1
      have h2 := xOp_put hoj (hfree j oj hoj hji hjun hnot) (fun cs b => hsel i oi cs b hi) (fun cs b => hsel j oj cs b hoj) hy h1
      have hfree' : ∀ k ok, ops[k]? = some ok → k ≠ i → (listed.setIfInBounds j true).getD k true = false →
          (∀ e ∈ ok.after, Region.binds md e = true → e.on ≠ i) → oi.apart ops ok = true := fun k ok hk hki hun hno => by
        refine hfree k ok hk hki ?_ hno
        by_cases hjk : j = k
        · subst hjk; exact hjun
        · rw [getD_set_ne true hjk] at hun; exact hun
      refine xOp_mono (fun a' w' hS' h3 => ih (listed.setIfInBounds j true) a' w' hS' hfree' (ready_mono hr (Ne.symm hji)) h3.1 ?_) hS h2
      rw [Array.setIfInBounds_comm _ _ hji]
      exact h3.2
/-- The walk in a given order: the numbers of the operations, and which are marked. -/
def wpHeld (P : Program) (ops : Array Oper) (S : World → Prop) (Q : Act → World → Prop) : List (Nat × Bool) → Act → World → Prop
  | [], a, w => Q a w
  | (i, b) :: r, a, w =>
    match ops[i]? with
    | none => False
    | some o =>
      if Region.wanted o (yielded ops a.tmps) = true then
        if b = true then ∃ D : Value → World → Prop, stepAt P o a w (fun v w' => D v w' ∧ S w') ∧ ∀ v w', D v w' → S w' → wpHeld P ops S Q r (a.put o.dst v) w'
        else ∃ v, readAt P S o a v ∧ wpHeld P ops S Q r (a.put o.dst v) w
      else wpHeld P ops S Q r (a.put o.dst undef) w
/-- The order is one that serves for all. -/
def heldB (md : Region.Mode) (ops : Array Oper) (m : Nat → Bool) : List (Nat × Bool) → Array Bool → Bool
  | [], listed => (Region.ready md ops listed).isEmpty
  | (i, b) :: r, listed => (m i == b) && (if b = true then Region.ready md ops listed == [i] else (Region.ready md ops listed).contains i && Region.free md ops listed i) && heldB md ops m r (listed.setIfInBounds i true)
theorem wpAnyX_seq {Q : Act → World → Prop} (hs : Region.noSelect ops = true) : ∀ (l : List (Nat × Bool)) (listed : Array Bool) (a : Act) (w : World), S w →
    heldB md ops m l listed = true → wpHeld P ops S Q l a w → wpAnyX P md ops S m Q l.length listed a w
  | [], _, _, _, _, hB, h => ⟨by simpa [heldB] using hB, h⟩
  | (i, b) :: r, listed, a, w, hS, hB, h => by
    simp only [heldB, Bool.and_eq_true, beq_iff_eq] at hB
    obtain ⟨⟨hmb, hr⟩, hB'⟩ := hB
    unfold wpHeld at h
    split at h
    · exact h.elim
    · rename_i o ho
      cases b with
      | true =>
        rw [if_pos rfl] at hr
        have hr' : Region.ready md ops listed = [i] := by simpa using hr
        refine ⟨(fun h0 => by rw [hr'] at h0; cases h0), fun j hj => ?_⟩
        rw [hr'] at hj
        obtain rfl : j = i := by simpa using hj
        unfold xOp
        simp only [ho]
        split at h
        · rename_i hw
          rw [if_pos hw, if_pos hmb]
          rw [if_pos rfl] at h
          obtain ⟨D, h1, h2⟩ := h
          exact ⟨D, h1, fun v w' hd hs' => wpAnyX_seq hs r _ _ _ hs' hB' (h2 v w' hd hs')⟩
        · rename_i hw
          rw [if_neg hw]
          exact wpAnyX_seq hs r _ _ _ hS hB' h
      | false =>
        rw [if_neg (by decide)] at hr
        simp only [Bool.and_eq_true] at hr
        have hready : i ∈ Region.ready md ops listed := by simpa using hr.1
        split at h
        · rename_i hw
          rw [if_neg (by decide)] at h
          obtain ⟨v, h1, h2⟩ := h
          exact wpAnyX_first ho hmb (Region.noSelect_spec hs) r.length listed a w hS (Region.free_spec ho hr.2) hready (.inl ⟨hw, h1⟩) (wpAnyX_seq hs r _ _ _ hS hB' h2)
        · rename_i hw
          exact wpAnyX_first ho hmb (Region.noSelect_spec hs) r.length listed a w hS (Region.free_spec ho hr.2) hready (.inr ⟨by simpa using hw, rfl⟩) (wpAnyX_seq hs r _ _ _ hS hB' h)
/-- ONE WALK IN A GIVEN ORDER SERVES EVERY ORDER. -/
theorem wp_region_held_seq {id : Nat} {Q : Exit → Act → World → Prop} {a : Act} {w : World} (S : World → Prop) (order : List (Nat × Bool)) (m : Nat → Bool) (hp : P.follows .mixedOrders = true) (hn : Region.noSelect ops = true) (hB : heldB .any ops m order (Array.replicate ops.size false) = true) (hl : order.length = ops.size)
    (hS : S w.drew) (h : wpHeld P ops S (fun a' w' => S w' → Q .normal a' w') order a w.drew) : (Code.region id ops true).wp P Q a w := by
  refine wp_region_any hp (wpAny_of_x (S := S) (m := m) (Q := fun a' w' => S w' → Q .normal a' w') (fun _ _ hs hq => hq hs) _ _ _ _ hS ?_)
  have := wpAnyX_seq (md := .any) hn order (Array.replicate ops.size false) a w.drew hS hB h
  rwa [hl] at this
end
theorem v_no {P : Program} (s : Sem Value) (w w' : World) (f : FuncId) (args : Array Value) : (do let x ← s; pure (Next.value x) : Sem Next).run P w ≠ .ok (.enter f args) w' := by
  simp only [Sem.run_bind]
  cases s.run P w <;> simp [Result.andThen]
/-- Operations that enter no function. -/
def plainOp : Op → Bool
  | .move _ | .assign _ | .load .. | .binOp .. | .unOp .. | .slice .. | .fieldAddr .. | .field .. | .indexAddr .. | .index .. | .extract .. | .convert .. | .pick .. => true
  | .call { callee := .builtin .len, .. } => true
  | .call { callee := .builtin .min, .. } => true
  | _ => false
theorem plain_no {P : Program} {ρ : Operand → Value} {o : Oper} {w w' : World} {f : FuncId} {args : Array Value} (h : plainOp o.op = true) : (execOp ρ o).run P w ≠ .ok (.enter f args) w' := by
  unfold execOp
  split
  all_goals first
    | (rename_i hop; rw [hop] at h; simp [plainOp] at h; done)
    | exact v_no _ _ _ _ _
    | (simp; done)
    | skip
  · rename_i c _ _ _
    simp only [Sem.run_bind]
    cases (asBool (ρ c)).run P w <;> simp [Result.andThen]
  · rename_i c hop
    rw [hop] at h
    obtain ⟨cl, ar, at_⟩ := c
    cases cl with
    | builtin b =>
      cases b with
      | len =>
        simp only [resolve, invoke, builtin, Sem.run_bind, Sem.run_pure, Result.andThen_ok]
        cases (Builtin.len_ at_ o.type (ar.map ρ)).run P w <;> simp [Result.andThen]
      | min =>
        simp only [resolve, invoke, builtin, Sem.run_bind, Sem.run_pure, Result.andThen_ok]
        cases (Builtin.min_ at_ o.type (ar.map ρ)).run P w <;> simp [Result.andThen]
      | _ => simp [plainOp] at h
    | _ => simp [plainOp] at h
section
variable {P : Program} {ops : Array Oper} {S : World → Prop} {Q : Act → World → Prop}
/-- A world that meets S. -/
structure InS (S : World → Prop) where
  it : World
  ok : S it
theorem read_of_quiet {o : Oper} {a : Act} {v : Value} (hp : plainOp o.op = true) (h : ∀ w, (∃ n : InS S, w = n.it) → o.quietAt P a (fun w => ∃ n : InS S, w = n.it) w v) : readAt P S o a v := by
  intro w hS
  have h1 := h w ⟨⟨w, hS⟩, rfl⟩
  unfold Oper.quietAt at h1
  generalize hr : (execOp a.eval o).run P w = r at h1
  cases r with
  | ok n w' =>
    cases n <;> simp only [Oper.quietUpon] at h1
    case value u => obtain ⟨e1, e2⟩ := h1; rw [e1, e2]; exact Or.inl rfl
    case skip => obtain ⟨e1, e2⟩ := h1; rw [e1]; exact Or.inr ⟨rfl, e2⟩
    case enter f args => exact absurd hr (plain_no hp)
  | halt x w' => simp only [Oper.quietUpon] at h1
/-- One operation that only reads. -/
theorem held_read {i : Nat} {o : Oper} {r : List (Nat × Bool)} {a : Act} {w : World} (ho : ops[i]? = some o) (hp : plainOp o.op = true)
    (h : wpQuiet P ops (fun w => ∃ n : InS S, w = n.it) (fun a' => wpHeld P ops S Q r a' w) [o] a) : wpHeld P ops S Q ((i, false) :: r) a w := by
  unfold wpHeld
  simp only [ho]
  unfold wpQuiet at h
  split
  · rename_i hw
    rw [if_pos hw] at h
    rw [if_neg (by decide)]
    obtain ⟨v, h1, h2⟩ := h
    exact ⟨v, read_of_quiet hp h1, h2⟩
  · rename_i hw
    rw [if_neg hw] at h
    exact h
/-- A nil check of a pointer. -/
theorem held_nil {i : Nat} {o : Oper} {r : List (Nat × Bool)} {a a' : Act} {w : World} (x : Operand) (p : Addr) (ho : ops[i]? = some o) (hop : o.op = .nilCheck x) (hw : Region.wanted o (yielded ops a.tmps) = true) (hx : a.eval x = .pointer (some p)) (ha : a.put o.dst (.pointer (some p)) = a')
    (h : wpHeld P ops S Q r a' w) : wpHeld P ops S Q ((i, false) :: r) a w := by
  unfold wpHeld
  simp only [ho]
  rw [if_pos hw, if_neg (by decide)]
  refine ⟨.pointer (some p), fun w1 _ => Or.inl ?_, by rw [ha]; exact h⟩
  unfold execOp
  simp only [hop, hx]
  rfl
/-- A call. -/
theorem held_call {i : Nat} {o : Oper} {r : List (Nat × Bool)} {a : Act} {w : World} (f : FuncId) (vs : Array Value) (ho : ops[i]? = some o) (hw : Region.wanted o (yielded ops a.tmps) = true) (hrun : (execOp a.eval o).run P w = .ok (.enter f vs) w)
    {D : Value → World → Prop} (hc : Calls P f vs w fun e w' => ∃ v, e = .returned v ∧ (D v w' ∧ S w')) (h : ∀ v w', D v w' → S w' → wpHeld P ops S Q r (a.put o.dst v) w') : wpHeld P ops S Q ((i, true) :: r) a w := by
  unfold wpHeld
  simp only [ho]
  rw [if_pos hw, if_pos trivial]
  refine ⟨D, ?_, h⟩
  unfold stepAt
  rw [hrun]
  exact ⟨rfl, hc⟩
theorem held_nilEnd {a : Act} {w : World} (h : Q a w) : wpHeld P ops S Q [] a w := h
end
section
variable {P : Program} {ops : Array Oper} {S : World → Prop} {Q : Act → World → Prop}
/-- A marked operation that yields a value and turns the world in one known way. -/
theorem held_step {i : Nat} {o : Oper} {r : List (Nat × Bool)} {a : Act} {w w' : World} {u : Value} (ho : ops[i]? = some o) (hw : Region.wanted o (yielded ops a.tmps) = true) (hrun : (execOp a.eval o).run P w = .ok (.value u) w') (hS : S w')
    (h : wpHeld P ops S Q r (a.put o.dst u) w') : wpHeld P ops S Q ((i, true) :: r) a w := by
  unfold wpHeld
  simp only [ho]
  rw [if_pos hw, if_pos trivial]
  refine ⟨fun v w1 => v = u ∧ w1 = w', ?_, fun v w1 ⟨e1, e2⟩ _ => by rw [e1, e2]; exact h⟩
  unfold stepAt
  rw [hrun]
  exact ⟨⟨rfl, rfl⟩, hS⟩
/-- An operation that yields one value in every world. -/
theorem held_val {i : Nat} {o : Oper} {r : List (Nat × Bool)} {a : Act} {w : World} (v : Value) (ho : ops[i]? = some o) (hw : Region.wanted o (yielded ops a.tmps) = true) (hrun : ∀ w1, (execOp a.eval o).run P w1 = .ok (.value v) w1)
    (h : wpHeld P ops S Q r (a.put o.dst v) w) : wpHeld P ops S Q ((i, false) :: r) a w := by
  unfold wpHeld
  simp only [ho]
  rw [if_pos hw, if_neg (by decide)]
  exact ⟨v, fun w1 _ => Or.inl (hrun w1), h⟩
end
end Go.Proofs.Yteoggaioleckhaa
