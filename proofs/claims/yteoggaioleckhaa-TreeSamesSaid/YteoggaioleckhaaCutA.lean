import Derived.Test.YteoggaioleckhaaTexts
import Derived.Deep.MidRow
/- The first region of the reference's cut: the copy's fields. Printed by gen06cut.py. -/
set_option linter.unusedVariables false
set_option linter.unusedSimpArgs false
namespace Go.Proofs.Yteoggaioleckhaa
open Go.RowKit
theorem run_load1 {P : Program} (w : World) (a : Addr) (v : Value) (ty : TypeId) (d : TypeDesc) (hu : P.underlying ty = some d) (hd : d.isRow = false) (hc : w.cell? a = some v) : (loadVar ty a).run P w = .ok v w := by
  unfold loadVar isAgg
  simp only [Sem.run_bind, run_underlying hu w, Result.andThen_ok]
  cases d <;> first
    | (exfalso; revert hd; simp [TypeDesc.isRow]; done)
    | (simp only [load, run_load, hc]; done)
    | (simp [load, hc, Sem.run])
theorem step_load1 {o : Oper} {a : Act} {w : World} {D : Value → World → Prop} {x : Operand} {p : Addr} {v : Value} {ty : TypeId} (ho : o.op = .load ty x) (hx : a.eval x = .pointer (some p)) (d : TypeDesc) (hu : Try.prog.underlying ty = some d) (hd : d.isRow = false) (hc : w.cell? p = some v) (h : D v w) : stepAt Try.prog o a w D := by
  refine step_val (u := v) (w' := w) ?_ h
  have hl := run_load1 (P := Try.prog) w p v ty d hu hd hc
  unfold execOp
  simp only [ho, hx, Instr.loadAt, Instr.sureAddr, Sem.run_bind, Sem.run_pure, Result.andThen_ok, hl]
noncomputable def opsC : Array Oper := (Try.f34.body.bind (regionIn 60 1)).getD #[]
/-- A slice of strings of the call's own, in a block from B on. -/
def KeysAt (B : Nat) (w : World) (v : Value) (ks : List (List UInt8)) : Prop := ∃ A c, v = .slice A ks.length c ∧ Rd w 1 A ks.length (ks.map strv) ∧ (0 < ks.length → ∃ b m c' cs, v = .slice (some ⟨b, 0, none⟩) m c' ∧ B ≤ b ∧ w.heap[b]? = some (.cells cs 9 (0, 0)))
theorem KeysAt.up {B : Nat} {w w' : World} {v : Value} {ks : List (List UInt8)} (h : KeysAt B w v ks) (hb : Up w w') : KeysAt B w' v ks := by
  obtain ⟨A, c, e, hr, hf⟩ := h
  exact ⟨A, c, e, hr.below hb, fun h0 => by obtain ⟨b, m, c', cs, e1, e2, e3⟩ := hf h0; exact ⟨b, m, c', cs, e1, e2, (hb.block b (Array.getElem?_eq_some_iff.1 e3).1).trans e3⟩⟩
theorem KeysAt.of_own {B : Nat} {w : World} {v : Value} {ks : List (List UInt8)} (h : w.ownsRow B 9 1 v ks.length (ks.map strv)) : KeysAt B w v ks := by
  have h' := h
  rcases h with ⟨hl, ⟨rfl, h0⟩ | ⟨g, cap, cur, rfl, hg, hh, hrest⟩⟩
  · have hks : ks = [] := List.eq_nil_of_length_eq_zero h0
    subst hks
    exact ⟨none, 0, rfl, Rd.none_ _ _ _, fun h1 => by simp at h1⟩
  · exact ⟨some ⟨g, 0, none⟩, cap, rfl, Rd.of_own h', fun _ => ⟨g, _, _, cur, rfl, hg, hh⟩⟩
theorem KeysAt.mono {B B' : Nat} {w : World} {v : Value} {ks : List (List UInt8)} (h : KeysAt B' w v ks) (hb : B ≤ B') : KeysAt B w v ks := by
  obtain ⟨A, c, e, hr, hf⟩ := h
  exact ⟨A, c, e, hr, fun h0 => by obtain ⟨b, m, c', cs, e1, e2, e3⟩ := hf h0; exact ⟨b, m, c', cs, e1, by omega, e3⟩⟩
theorem KeysAt.store {B b5 : Nat} {w w' : World} {v : Value} {ks : List (List UInt8)} {cs : Array Value} (h : KeysAt B w v ks) (hg : w.grownBy w' (some b5)) (h26 : w.heap[b5]? = some (.cells cs 26 (0, 0))) : KeysAt B w' v ks := by
  obtain ⟨A, c, rfl, hr, hf⟩ := h
  have hne : 0 < ks.length → ∀ g, (Value.slice A ks.length c).ownBlock = some g → g ≠ b5 := fun h0 g hv e => by
    obtain ⟨b, m, c', cs', e1, e2, e3⟩ := hf h0
    rw [e1] at hv
    injection hv with hv
    subst e
    have hv : b = g := hv
    subst hv
    rw [e3] at h26
    injection h26 with h26
    injection h26 with _ h26
    cases h26
  refine ⟨A, c, rfl, hr.grown hg fun g e h0 => ?_, fun h0 => ?_⟩
  · injection e with e; subst e
    intro hv
    rw [ownBlock_cap (m := ks.length) (d := c)] at hv
    exact hne h0 _ hv rfl
  · obtain ⟨b, m, c', cs', e1, e2, e3⟩ := hf h0
    exact ⟨b, m, c', cs', e1, e2, (hg.block b (Array.getElem?_eq_some_iff.1 e3).1 (fun e => by injection e with e; exact hne h0 b (by rw [e1]; rfl) e)).trans e3⟩
theorem dst_get {ops : Array Oper} {i : Nat} {d : Tmp} (h : (ops[i]?.bind (·.dst)) = some d) : ∃ o, ops[i]? = some o ∧ o.dst = some d := by
  cases ho : ops[i]? with
  | none => rw [ho] at h; cases h
  | some o => rw [ho] at h; exact ⟨o, rfl, h⟩
def zeroN : Value := .agg #[.int .i64 0, .int .i64 0, .int .u64 0, .string ⟨#[]⟩, .slice none 0 0, .slice none 0 0]
def tabC (B Bx R : Nat) (k n u : Int) (s : List UInt8) (kv : Value) (keys : List (List UInt8)) : Nat → Value → World → Prop
  | 0, v, _ => v = .pointer (some ⟨Bx, 0, none⟩)
  | 1, v, _ => v = .int .i64 k
  | 2, v, _ => v = .pointer (some ⟨Bx, 1, none⟩)
  | 3, v, _ => v = .int .i64 n
  | 4, v, _ => v = .pointer (some ⟨Bx, 2, none⟩)
  | 5, v, _ => v = .int .u64 u
  | 6, v, _ => v = .pointer (some ⟨Bx, 3, none⟩)
  | 7, v, _ => v = .string ⟨s.toArray⟩
  | 8, v, _ => v = .pointer (some ⟨R, 0, none⟩)
  | 9, v, _ => v = .pointer (some ⟨R, 0, none⟩)
  | 10, v, _ => v = .pointer (some ⟨R, 1, none⟩)
  | 11, v, _ => v = .int .i64 60
  | 12, v, _ => v = .string ⟨(s.take 60).toArray⟩
  | 13, v, _ => v = .pointer (some ⟨Bx, 4, none⟩)
  | 14, v, _ => v = kv
  | 15, v, _ => v = .pointer (some ⟨R, 0, none⟩)
  | 16, v, _ => v = .pointer (some ⟨R, 0, none⟩)
  | 17, v, _ => v = .pointer (some ⟨R, 1, none⟩)
  | 18, v, _ => v = .int .i64 60
  | 19, v, w => KeysAt B w v (cutK keys)
  | 20, v, w => ∃ kv', v = .agg #[.int .i64 k, .int .i64 n, .int .u64 u, .string ⟨(s.take 60).toArray⟩, kv', .slice none 0 0] ∧ KeysAt B w kv' (cutK keys)
  | 21, v, w => ∃ b, v = .pointer (some ⟨b, 0, none⟩) ∧ B ≤ b ∧ w.heap[b]? = some (.cells zeroN.cells 26 (0, 0))
  | _, _, _ => True
theorem tabC_up {B Bx R : Nat} {k n u : Int} {s : List UInt8} {kv : Value} {keys : List (List UInt8)} : ∀ (i : Nat) (v : Value) (w w' : World), tabC B Bx R k n u s kv keys i v w → Up w w' → tabC B Bx R k n u s kv keys i v w' := by
  intro i v w w' h hb
  unfold tabC at h ⊢
  split at h <;> first
    | exact h
    | exact KeysAt.up h hb
    | (obtain ⟨kv', e, hk⟩ := h; exact ⟨kv', e, hk.up hb⟩)
    | (obtain ⟨b, e, h1, h2⟩ := h; exact ⟨b, e, h1, (hb.block b (Array.getElem?_eq_some_iff.1 h2).1).trans h2⟩)
    | trivial
set_option maxRecDepth 100000 in
set_option maxHeartbeats 2000000 in
theorem cut_region (a0 : Act) (W : World) (Q : Exit → Act → World → Prop) (R Bx : Nat) (k n u : Int) (s : List UInt8) (A : Option Addr) (c : Nat) (keys : List (List UInt8)) (lv : Value) (L : Value) (hn : a0.tmps.size = 64)
    (h0 : a0.eval (.tmp 0) = .pointer (some ⟨R, 0, none⟩)) (h3 : a0.eval (.tmp 3) = .pointer (some ⟨Bx, 0, none⟩))
    (hx : W.heap[Bx]? = some (.cells #[.int .i64 k, .int .i64 n, .int .u64 u, .string ⟨s.toArray⟩, .slice A keys.length c, lv] 26 (0, 0))) (hr : W.heap[R]? = some (.cells #[L, .int .i64 60] 58 (0, 0)))
    (hkr : Rd W 1 A keys.length (keys.map strv)) (hkl : keys.length ≤ 9223372036854775807)
    (hQ : ∀ a w b5 kv', Up W w → FrKeep opsC a0 a → a.eval (.tmp 5) = .pointer (some ⟨b5, 0, none⟩) → W.heap.size ≤ b5 → w.heap[b5]? = some (.cells #[.int .i64 k, .int .i64 n, .int .u64 u, .string ⟨(s.take 60).toArray⟩, kv', .slice none 0 0] 26 (0, 0)) → KeysAt W.heap.size w kv' (cutK keys) → Q .normal a w) : (Code.region 1 opsC true).wp Try.prog Q a0 W := by
  have hBx := (Array.getElem?_eq_some_iff.1 hx).1
  have hR := (Array.getElem?_eq_some_iff.1 hr).1
  refine wp_region_tail 64 22 (fun w => Up W w) Up (tabC W.heap.size Bx R k n u s (.slice A keys.length c) keys) rfl hn (by kernel_rfl) (by kernel_rfl) tabC_up (below_drew_ W) ?_ ?_
  · intro i o hlt hi'
    by_cases hi0 : i = 0
    · subst hi0
      have h : some _ = some o := hi'
      injection h with h
      subst h
      intro a w hS hk hd
      have v3 : a.eval (.tmp 3) = .pointer (some ⟨Bx, 0, none⟩) := (hk 3 (by kernel_rfl)).trans h3
      exact step_val (u := .pointer (some ⟨Bx, 0, none⟩)) (by rw [eval_over v3]; kernel_rfl) ⟨rfl, hS, Up.refl w⟩
    by_cases hi1 : i = 1
    · subst hi1
      have h : some _ = some o := hi'
      injection h with h
      subst h
      intro a w hS hk hd
      have v8 : a.eval (.tmp 8) = .pointer (some ⟨Bx, 0, none⟩) := hd 0 8 (by kernel_rfl)
      exact step_load1 (by kernel_rfl) v8 _ Try.underlying3 rfl (by rw [cell_of_row _ _ _ _ _ _ ((hS.block Bx hBx).trans hx)]; rfl) ⟨rfl, hS, Up.refl w⟩
    by_cases hi2 : i = 2
    · subst hi2
      have h : some _ = some o := hi'
      injection h with h
      subst h
      intro a w hS hk hd
      have v3 : a.eval (.tmp 3) = .pointer (some ⟨Bx, 0, none⟩) := (hk 3 (by kernel_rfl)).trans h3
      exact step_val (u := .pointer (some ⟨Bx, 1, none⟩)) (by rw [eval_over v3]; kernel_rfl) ⟨rfl, hS, Up.refl w⟩
    by_cases hi3 : i = 3
    · subst hi3
      have h : some _ = some o := hi'
      injection h with h
      subst h
      intro a w hS hk hd
      have v10 : a.eval (.tmp 10) = .pointer (some ⟨Bx, 1, none⟩) := hd 2 10 (by kernel_rfl)
      exact step_load1 (by kernel_rfl) v10 _ Try.underlying2 rfl (by rw [cell_of_row _ _ _ _ _ _ ((hS.block Bx hBx).trans hx)]; rfl) ⟨rfl, hS, Up.refl w⟩
    by_cases hi4 : i = 4
    · subst hi4
      have h : some _ = some o := hi'
      injection h with h
      subst h
      intro a w hS hk hd
      have v3 : a.eval (.tmp 3) = .pointer (some ⟨Bx, 0, none⟩) := (hk 3 (by kernel_rfl)).trans h3
      exact step_val (u := .pointer (some ⟨Bx, 2, none⟩)) (by rw [eval_over v3]; kernel_rfl) ⟨rfl, hS, Up.refl w⟩
    by_cases hi5 : i = 5
    · subst hi5
      have h : some _ = some o := hi'
      injection h with h
      subst h
      intro a w hS hk hd
      have v12 : a.eval (.tmp 12) = .pointer (some ⟨Bx, 2, none⟩) := hd 4 12 (by kernel_rfl)
      exact step_load1 (by kernel_rfl) v12 _ Try.underlying22 rfl (by rw [cell_of_row _ _ _ _ _ _ ((hS.block Bx hBx).trans hx)]; rfl) ⟨rfl, hS, Up.refl w⟩
    by_cases hi6 : i = 6
    · subst hi6
      have h : some _ = some o := hi'
      injection h with h
      subst h
      intro a w hS hk hd
      have v3 : a.eval (.tmp 3) = .pointer (some ⟨Bx, 0, none⟩) := (hk 3 (by kernel_rfl)).trans h3
      exact step_val (u := .pointer (some ⟨Bx, 3, none⟩)) (by rw [eval_over v3]; kernel_rfl) ⟨rfl, hS, Up.refl w⟩
    by_cases hi7 : i = 7
    · subst hi7
      have h : some _ = some o := hi'
      injection h with h
      subst h
      intro a w hS hk hd
      have v14 : a.eval (.tmp 14) = .pointer (some ⟨Bx, 3, none⟩) := hd 6 14 (by kernel_rfl)
      exact step_load1 (by kernel_rfl) v14 _ Try.underlying9 rfl (by rw [cell_of_row _ _ _ _ _ _ ((hS.block Bx hBx).trans hx)]; rfl) ⟨rfl, hS, Up.refl w⟩
    by_cases hi8 : i = 8
    · subst hi8
      have h : some _ = some o := hi'
      injection h with h
      subst h
      intro a w hS hk hd
      have v0 : a.eval (.tmp 0) = .pointer (some ⟨R, 0, none⟩) := (hk 0 (by kernel_rfl)).trans h0
      exact step_val (u := .pointer (some ⟨R, 0, none⟩)) (by rw [eval_over v0]; kernel_rfl) ⟨rfl, hS, Up.refl w⟩
    by_cases hi9 : i = 9
    · subst hi9
      have h : some _ = some o := hi'
      injection h with h
      subst h
      intro a w hS hk hd
      have v16 : a.eval (.tmp 16) = .pointer (some ⟨R, 0, none⟩) := hd 8 16 (by kernel_rfl)
      exact step_val (u := .pointer (some ⟨R, 0, none⟩)) (by rw [eval_over v16]; kernel_rfl) ⟨rfl, hS, Up.refl w⟩
    by_cases hi10 : i = 10
    · subst hi10
      have h : some _ = some o := hi'
      injection h with h
      subst h
      intro a w hS hk hd
      have v17 : a.eval (.tmp 17) = .pointer (some ⟨R, 0, none⟩) := hd 9 17 (by kernel_rfl)
      exact step_val (u := .pointer (some ⟨R, 1, none⟩)) (by rw [eval_over v17]; kernel_rfl) ⟨rfl, hS, Up.refl w⟩
    by_cases hi11 : i = 11
    · subst hi11
      have h : some _ = some o := hi'
      injection h with h
      subst h
      intro a w hS hk hd
      have v18 : a.eval (.tmp 18) = .pointer (some ⟨R, 1, none⟩) := hd 10 18 (by kernel_rfl)
      exact step_load1 (by kernel_rfl) v18 _ Try.underlying3 rfl (by rw [cell_of_row _ _ _ _ _ _ ((hS.block R hR).trans hr)]; rfl) ⟨rfl, hS, Up.refl w⟩
    by_cases hi12 : i = 12
    · subst hi12
      have h : some _ = some o := hi'
      injection h with h
      subst h
      intro a w hS hk hd
      have v15 : a.eval (.tmp 15) = .string ⟨s.toArray⟩ := hd 7 15 (by kernel_rfl)
      have v19 : a.eval (.tmp 19) = .int .i64 60 := hd 11 19 (by kernel_rfl)
      refine step_calls 45 #[.string ⟨s.toArray⟩, .int .i64 60] (by rw [eval_over v15, eval_over v19]; kernel_rfl) ?_
      exact (short_any s 60 w).mono fun e w' ⟨he, hb⟩ => ⟨_, he, rfl, by rw [← hb]; exact hS, by rw [← hb]; exact Up.refl w⟩
    by_cases hi13 : i = 13
    · subst hi13
      have h : some _ = some o := hi'
      injection h with h
      subst h
      intro a w hS hk hd
      have v3 : a.eval (.tmp 3) = .pointer (some ⟨Bx, 0, none⟩) := (hk 3 (by kernel_rfl)).trans h3
      exact step_val (u := .pointer (some ⟨Bx, 4, none⟩)) (by rw [eval_over v3]; kernel_rfl) ⟨rfl, hS, Up.refl w⟩
    by_cases hi14 : i = 14
    · subst hi14
      have h : some _ = some o := hi'
      injection h with h
      subst h
      intro a w hS hk hd
      have v21 : a.eval (.tmp 21) = .pointer (some ⟨Bx, 4, none⟩) := hd 13 21 (by kernel_rfl)
      exact step_load1 (by kernel_rfl) v21 _ Try.underlying23 rfl (by rw [cell_of_row _ _ _ _ _ _ ((hS.block Bx hBx).trans hx)]; rfl) ⟨rfl, hS, Up.refl w⟩
    by_cases hi15 : i = 15
    · subst hi15
      have h : some _ = some o := hi'
      injection h with h
      subst h
      intro a w hS hk hd
      have v0 : a.eval (.tmp 0) = .pointer (some ⟨R, 0, none⟩) := (hk 0 (by kernel_rfl)).trans h0
      exact step_val (u := .pointer (some ⟨R, 0, none⟩)) (by rw [eval_over v0]; kernel_rfl) ⟨rfl, hS, Up.refl w⟩
    by_cases hi16 : i = 16
    · subst hi16
      have h : some _ = some o := hi'
      injection h with h
      subst h
      intro a w hS hk hd
      have v23 : a.eval (.tmp 23) = .pointer (some ⟨R, 0, none⟩) := hd 15 23 (by kernel_rfl)
      exact step_val (u := .pointer (some ⟨R, 0, none⟩)) (by rw [eval_over v23]; kernel_rfl) ⟨rfl, hS, Up.refl w⟩
    by_cases hi17 : i = 17
    · subst hi17
      have h : some _ = some o := hi'
      injection h with h
      subst h
      intro a w hS hk hd
      have v24 : a.eval (.tmp 24) = .pointer (some ⟨R, 0, none⟩) := hd 16 24 (by kernel_rfl)
      exact step_val (u := .pointer (some ⟨R, 1, none⟩)) (by rw [eval_over v24]; kernel_rfl) ⟨rfl, hS, Up.refl w⟩
    by_cases hi18 : i = 18
    · subst hi18
      have h : some _ = some o := hi'
      injection h with h
      subst h
      intro a w hS hk hd
      have v25 : a.eval (.tmp 25) = .pointer (some ⟨R, 1, none⟩) := hd 17 25 (by kernel_rfl)
      exact step_load1 (by kernel_rfl) v25 _ Try.underlying3 rfl (by rw [cell_of_row _ _ _ _ _ _ ((hS.block R hR).trans hr)]; rfl) ⟨rfl, hS, Up.refl w⟩
    by_cases hi19 : i = 19
    · subst hi19
      have h : some _ = some o := hi'
      injection h with h
      subst h
      intro a w hS hk hd
      have v22 : a.eval (.tmp 22) = .slice A keys.length c := hd 14 22 (by kernel_rfl)
      have v26 : a.eval (.tmp 26) = .int .i64 60 := hd 18 26 (by kernel_rfl)
      refine step_calls 46 #[.slice A keys.length c, .int .i64 64, .int .i64 60] (by rw [eval_over v22, eval_over v26]; kernel_rfl) ?_
      exact (texts_any A keys.length c keys w (hkr.below hS) hkl).mono fun e w' ⟨⟨v, he, ho⟩, hb⟩ => ⟨_, he, (KeysAt.of_own ho).mono hS.size, Up.trans hS hb, hb⟩
    by_cases hi20 : i = 20
    · subst hi20
      have h : some _ = some o := hi'
      injection h with h
      subst h
      intro a w hS hk hd
      have v9 : a.eval (.tmp 9) = .int .i64 k := hd 1 9 (by kernel_rfl)
      have v11 : a.eval (.tmp 11) = .int .i64 n := hd 3 11 (by kernel_rfl)
      have v13 : a.eval (.tmp 13) = .int .u64 u := hd 5 13 (by kernel_rfl)
      have v20 : a.eval (.tmp 20) = .string ⟨(s.take 60).toArray⟩ := hd 12 20 (by kernel_rfl)
      have hkv := hd 19 27 (by kernel_rfl)
      obtain ⟨kv', v27⟩ : ∃ kv', a.eval (.tmp 27) = kv' := ⟨_, rfl⟩
      simp only [v27] at hkv
      have hkv2 : KeysAt W.heap.size w kv' (cutK keys) := hkv
      obtain ⟨A', c', e', _, _⟩ := id hkv2
      subst e'
      exact step_val (u := .agg #[.int .i64 k, .int .i64 n, .int .u64 u, .string ⟨(s.take 60).toArray⟩, .slice A' (cutK keys).length c', .slice none 0 0]) (by rw [eval_over v9, eval_over v11, eval_over v13, eval_over v20, eval_over v27]; kernel_rfl) ⟨⟨_, rfl, hkv2⟩, hS, Up.refl w⟩
    by_cases hi21 : i = 21
    · subst hi21
      have h : some _ = some o := hi'
      injection h with h
      subst h
      intro a w hS hk hd
      exact step_val (u := .pointer (some ⟨w.heap.size, 0, none⟩)) (w' := w.alloc (.cells zeroN.cells 26)) (by kernel_rfl) ⟨⟨w.heap.size, rfl, hS.size, heap_alloc_new w _⟩, Up.trans hS (Up.alloc w _), Up.alloc w _⟩
    omega
  · intro a w o ho hS hK hall
    obtain ⟨o5, ho5, hd5⟩ := dst_get (show (opsC[21]?.bind (·.dst)) = some 5 by kernel_rfl)
    obtain ⟨o8, ho8, hd8⟩ := dst_get (show (opsC[20]?.bind (·.dst)) = some 28 by kernel_rfl)
    obtain ⟨b5, v5, hb5, hh5⟩ : ∃ b, a.eval (.tmp 5) = .pointer (some ⟨b, 0, none⟩) ∧ W.heap.size ≤ b ∧ w.heap[b]? = some (.cells zeroN.cells 26 (0, 0)) := hall 21 o5 5 (by omega) ho5 hd5
    obtain ⟨kv', v28, hkv⟩ : ∃ kv', a.eval (.tmp 28) = .agg #[.int .i64 k, .int .i64 n, .int .u64 u, .string ⟨(s.take 60).toArray⟩, kv', .slice none 0 0] ∧ KeysAt W.heap.size w kv' (cutK keys) := hall 20 o8 28 (by omega) ho8 hd8
    have h : some _ = some o := ho
    injection h with h
    subst h
    obtain ⟨A', c', rfl, _, _⟩ := id hkv
    have hth : w.there b5 0 6 := fun j hj => ⟨by rw [cell_of_row _ _ _ _ _ _ hh5]; rcases (show j = 0 ∨ j = 1 ∨ j = 2 ∨ j = 3 ∨ j = 4 ∨ j = 5 by omega) with rfl | rfl | rfl | rfl | rfl | rfl <;> rfl, frozen_of_row _ _ _ _ _ hh5⟩
    have hss := six_set (show w.heap[b5]? = some (.cells #[.int .i64 0, .int .i64 0, .int .u64 0, .string ⟨#[]⟩, .slice none 0 0, .slice none 0 0] 26 (0, 0)) from hh5) (.int .i64 k) (.int .i64 n) (.int .u64 u) (.string ⟨(s.take 60).toArray⟩) (.slice A' (cutK keys).length c') (.slice none 0 0)
    refine wp_store_mid 26 (.tmp 5) (.tmp 28) (by kernel_rfl) b5 0 #[.int .i64 k, .int .i64 n, .int .u64 u, .string ⟨(s.take 60).toArray⟩, .slice A' (cutK keys).length c', .slice none 0 0] v5 v28 hth info26 (by kernel_rfl) ?_
    refine hQ _ _ b5 (.slice A' (cutK keys).length c') (below_setCells b5 hb5 _ _ _ hS) ⟨hK.1, hK.2.1, hK.2.2⟩ v5 hb5 hss.1 (hkv.store hss.2 hh5)
end Go.Proofs.Yteoggaioleckhaa
