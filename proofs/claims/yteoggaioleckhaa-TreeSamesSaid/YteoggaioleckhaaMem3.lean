import Derived.Test.YteoggaioleckhaaWalk
import Derived.Deep.DeepAppendRoom
/- Memory, once more: an append that says where the row lies; trees that lie in memory of their own. -/
set_option linter.unusedVariables false
set_option linter.unusedSimpArgs false
namespace Go.Proofs.Yteoggaioleckhaa
open Go.RowKit
section
variable {P : Program} {ops : Array Oper} {rest : List Oper} {o : Oper} {a : Act} {Q : Exit → Act → World → Prop}
/-- The block of a slice that has been appended to: the old one, or one that was not there. -/
def Where (w : World) (v v' : Value) : Prop := v'.ownBlock = v.ownBlock ∨ ∃ b, v'.ownBlock = some b ∧ w.heap.size ≤ b
theorem own_some {w : World} {base : Nat} {e : TypeId} {sz n : Nat} {v : Value} {xs : List Value} (h : w.ownsRow base e sz v n xs) (hn : 0 < n) : ∃ b, v.ownBlock = some b ∧ base ≤ b := by
  rcases h.2 with ⟨_, h0⟩ | ⟨g, cap, cur, rfl, hg, _⟩
  · omega
  · exact ⟨g, rfl, hg⟩
theorem run_append_where (w : World) (base : Nat) (t ty e : TypeId) (i : TypeInfo) (z : Value) (size bytes : Nat) (ht : P.underlying t = some (.slice e)) (hi : P.info? e = some i) (hz : i.zero = some z)
    (hsize : i.size = size) (hby : i.bytes = bytes) (hzs : z.cells.size = size) (hsz : 0 < size)
    (v : Value) (n : Nat) (xs : List Value) (hown : w.ownsRow base e size v n xs)
    (ad : Addr) (m c : Nat) (hm : 0 < m) (news : List Value) (hl : news.length = m * size) (hnews : ∀ j u, news[j]? = some u → w.cell? (ad.add j) = some u) (h1 : ∀ u ∈ news, u.oneCell' = true)
    (h63 : n + m ≤ maxLen) (hbytes : (n + m) * bytes ≤ 140737488355328) (hbase : base ≤ w.heap.size) :
    ∃ v' w', (Builtin.append_ #[t, t] ty #[v, .slice (some ad) m c]).run P w = .ok v' w' ∧ w'.ownsRow base e size v' (n + m) (xs ++ news) ∧ w.grownBy w' v.ownBlock ∧ Where w v v' := by
  obtain ⟨v', w', hr, h2, h3, _⟩ := run_append_own (P := P) w base t ty e i z size bytes ht hi hz hsize hby hzs hsz v n xs hown ad m c news hl hnews h1 h63 hbytes hbase
  refine ⟨v', w', hr, h2, h3, ?_⟩
  rcases hown.2 with ⟨rfl, rfl⟩ | ⟨g, cap, cur, rfl, hbg, hg, hnc, hcm, hcs, htake⟩
  · have hx : xs = [] := List.eq_nil_of_length_eq_zero (by simpa using hown.1)
    subst hx
    obtain ⟨v2, w2, hr2, g2, _⟩ := run_append_own (P := P) w w.heap.size t ty e i z size bytes ht hi hz hsize hby hzs hsz _ 0 [] (World.ownsRow_nil w w.heap.size e size) ad m c news hl hnews h1 h63 hbytes (Nat.le_refl _)
    rw [hr] at hr2
    injection hr2 with e1 e2
    subst e1
    subst e2
    obtain ⟨b, hb, hle⟩ := own_some g2 (by omega)
    exact Or.inr ⟨b, hb, hle⟩
  · by_cases hroom : n + m ≤ cap
    · obtain ⟨w2, hr2, _⟩ := run_append_own_spare (P := P) w base t ty e i size ht hi hsize g n cap xs hown ad m c news hl hnews h1 hroom
      rw [hr] at hr2
      injection hr2 with e1 e2
      subst e1
      exact Or.inl rfl
    · subst hsize
      subst hby
      have hr2 := run_append_grow (P := P) w t ty e i z ht hi hz ⟨g, 0, none⟩ n cap xs hown.1 (hown.cells (g := g) rfl) ad m c news hl hnews (by omega) (by simp only [maxLen] at h63; omega) (growslice_fits (by omega) hbytes)
      rw [hr] at hr2
      injection hr2 with e1 e2
      subst e1
      exact Or.inr ⟨_, rfl, Nat.le_refl _⟩
theorem wpList_append_where (hgd : o.guard = none) (w : World) (s x : Operand) (t : TypeId)
    (ho : o.op = .call { callee := .builtin .append, args := #[s, x], argTypes := #[t, t] })
    (base : Nat) (e : TypeId) (i : TypeInfo) (z : Value) (size bytes : Nat) (ht : P.underlying t = some (.slice e)) (hi : P.info? e = some i) (hz : i.zero = some z)
    (hsize : i.size = size) (hby : i.bytes = bytes) (hzs : z.cells.size = size) (hsz : 0 < size)
    (v : Value) (n : Nat) (xs : List Value) (hs : a.eval s = v) (hown : w.ownsRow base e size v n xs)
    (A : Option Addr) (m c : Nat) (hm : 0 < m) (news : List Value) (hx : a.eval x = .slice A m c) (hr : Rd w size A m news) (h1 : ∀ u ∈ news, u.oneCell' = true)
    (h63 : n + m ≤ maxLen) (hbytes : (n + m) * bytes ≤ 140737488355328) (hbase : base ≤ w.heap.size)
    (h : ∀ v' w', w'.ownsRow base e size v' (n + m) (xs ++ news) → w.grownBy w' v.ownBlock → Where w v v' → wpList P ops Q rest (a.put o.dst v') w') : wpList P ops Q (o :: rest) a w := by
  refine wpList_plain hgd fun K hK => ?_
  obtain ⟨b, off, rfl, _, hcell⟩ := hr.2 hm
  obtain ⟨v', w', hrun, h2, h3, h4⟩ := run_append_where (P := P) w base t o.type e i z size bytes ht hi hz hsize hby hzs hsz v n xs hown ⟨b, off, none⟩ m c hm news hr.1 (fun j u hu => by rw [spot_add]; exact hcell j u hu) h1 h63 hbytes hbase
  unfold Oper.wp execOp
  simp only [ho, resolve, invoke, builtin, Sem.run_bind, Sem.run_pure, Result.andThen_ok, List.map_toArray, List.map_cons, List.map_nil, hs, hx, hrun]
  exact hK _ _ (h v' w' h2 h3 h4)
end
mutual
/-- No slice of the tree lies in block g. -/
def Off (g : Nat) : NT → Prop
  | .mk k n u s kv keys lv l => (0 < keys.length → kv.ownBlock ≠ some g) ∧ (0 < l.length → lv.ownBlock ≠ some g) ∧ OffL g l
def OffL (g : Nat) : List NT → Prop
  | [] => True
  | t :: l => Off g t ∧ OffL g l
end
mutual
/-- The tree's slices lie in blocks from B on that may be written. -/
def Fr (B : Nat) (w : World) : NT → Prop
  | .mk k n u s kv keys lv l => (0 < keys.length → ∃ b m c cs T, kv = .slice (some ⟨b, 0, none⟩) m c ∧ B ≤ b ∧ w.heap[b]? = some (.cells cs T (0, 0))) ∧ (0 < l.length → ∃ b m c cs T, lv = .slice (some ⟨b, 0, none⟩) m c ∧ B ≤ b ∧ w.heap[b]? = some (.cells cs T (0, 0))) ∧ FrL B w l
def FrL (B : Nat) (w : World) : List NT → Prop
  | [] => True
  | t :: l => Fr B w t ∧ FrL B w l
end
theorem Rd.grown {w w' : World} {sz n : Nat} {A : Option Addr} {xs : List Value} {row : Option Nat} (h : Rd w sz A n xs) (hg : w.grownBy w' row) (hne : ∀ g, row = some g → 0 < n → (Value.slice A n n).ownBlock ≠ some g) : Rd w' sz A n xs := by
  refine ⟨h.1, fun hn => ?_⟩
  obtain ⟨b, off, rfl, hb, hc⟩ := h.2 hn
  refine ⟨b, off, rfl, Nat.lt_of_lt_of_le hb hg.size, fun k u hu => hg.cell (hc k u hu) (fun e => ?_)⟩
  exact hne b e.symm hn rfl
theorem ownBlock_cap {A : Option Addr} {n c m d : Nat} : (Value.slice A n c).ownBlock = (Value.slice A m d).ownBlock := by cases A <;> rfl
mutual
theorem Is.grown {w w' : World} {row : Option Nat} (hg : w.grownBy w' row) : ∀ {t : NT}, Is w t → (∀ g, row = some g → Off g t) → Is w' t
  | .mk k n u s kv keys lv l, h, ho => by
    rw [Is] at h ⊢
    obtain ⟨h1, ⟨A, c, e1, e2, e3⟩, ⟨B, d, f1, f2, f3⟩, hl⟩ := h
    refine ⟨h1, ⟨A, c, e1, e2, e3.grown hg fun g hr hn => ?_⟩, ⟨B, d, f1, f2, f3.grown hg fun g hr hn => ?_⟩, hl.grown hg fun g hr => ?_⟩
    · have := ho g hr; rw [Off] at this; rw [e1] at this; rw [ownBlock_cap (m := keys.length) (d := c)]; exact this.1 hn
    · have := ho g hr; rw [Off] at this; rw [f1] at this; rw [ownBlock_cap (m := l.length) (d := d)]; exact this.2.1 hn
    · have := ho g hr; rw [Off] at this; exact this.2.2
theorem IsL.grown {w w' : World} {row : Option Nat} (hg : w.grownBy w' row) : ∀ {l : List NT}, IsL w l → (∀ g, row = some g → OffL g l) → IsL w' l
  | [], _, _ => by rw [IsL]; trivial
  | t :: l, h, ho => by
    rw [IsL] at h ⊢
    exact ⟨h.1.grown hg fun g hr => by have := ho g hr; rw [OffL] at this; exact this.1, h.2.grown hg fun g hr => by have := ho g hr; rw [OffL] at this; exact this.2⟩
end
mutual
theorem Fr.kept {B : Nat} {w w' : World} {row : Option Nat} (hg : w.grownBy w' row) : ∀ {t : NT}, Fr B w t → (∀ g, row = some g → Off g t) → Fr B w' t
  | .mk k n u s kv keys lv l, h, ho => by
    rw [Fr] at h ⊢
    obtain ⟨h1, h2, h3⟩ := h
    refine ⟨fun h0 => ?_, fun h0 => ?_, h3.kept hg fun g hr => by have := ho g hr; rw [Off] at this; exact this.2.2⟩
    · obtain ⟨b, m, c, cs, T, e1, e2, e3⟩ := h1 h0
      refine ⟨b, m, c, cs, T, e1, e2, (hg.block b (Array.getElem?_eq_some_iff.1 e3).1 (fun e => ?_)).trans e3⟩
      have := ho b e.symm; rw [Off] at this
      exact this.1 h0 (by rw [e1]; rfl)
    · obtain ⟨b, m, c, cs, T, e1, e2, e3⟩ := h2 h0
      refine ⟨b, m, c, cs, T, e1, e2, (hg.block b (Array.getElem?_eq_some_iff.1 e3).1 (fun e => ?_)).trans e3⟩
      have := ho b e.symm; rw [Off] at this
      exact this.2.1 h0 (by rw [e1]; rfl)
theorem FrL.kept {B : Nat} {w w' : World} {row : Option Nat} (hg : w.grownBy w' row) : ∀ {l : List NT}, FrL B w l → (∀ g, row = some g → OffL g l) → FrL B w' l
  | [], _, _ => by rw [FrL]; trivial
  | t :: l, h, ho => by
    rw [FrL] at h ⊢
    exact ⟨h.1.kept hg fun g hr => by have := ho g hr; rw [OffL] at this; exact this.1, h.2.kept hg fun g hr => by have := ho g hr; rw [OffL] at this; exact this.2⟩
end
mutual
theorem Fr.off {B g : Nat} {w : World} (hg : g < B) : ∀ {t : NT}, Fr B w t → Off g t
  | .mk k n u s kv keys lv l, h => by
    rw [Fr] at h
    obtain ⟨h1, h2, h3⟩ := h
    rw [Off]
    refine ⟨fun h0 => ?_, fun h0 => ?_, FrL.off hg h3⟩
    · obtain ⟨b, m, c, cs, T, rfl, e2, e3⟩ := h1 h0
      intro e; injection e with e; have e : b = g := e; omega
    · obtain ⟨b, m, c, cs, T, rfl, e2, e3⟩ := h2 h0
      intro e; injection e with e; have e : b = g := e; omega
theorem FrL.off {B g : Nat} {w : World} (hg : g < B) : ∀ {l : List NT}, FrL B w l → OffL g l
  | [], _ => by rw [OffL]; trivial
  | t :: l, h => by rw [FrL] at h; rw [OffL]; exact ⟨Fr.off hg h.1, FrL.off hg h.2⟩
end
mutual
theorem Is.off {g : Nat} {w : World} (hg : w.heap.size ≤ g) : ∀ {t : NT}, Is w t → Off g t
  | .mk k n u s kv keys lv l, h => by
    rw [Is] at h
    obtain ⟨h1, ⟨A, c, rfl, e2, e3⟩, ⟨B, d, rfl, f2, f3⟩, hl⟩ := h
    rw [Off]
    refine ⟨fun h0 => ?_, fun h0 => ?_, IsL.off hg hl⟩
    · obtain ⟨b, o, rfl, hb, _⟩ := e3.2 h0
      intro e; injection e with e; have e : b = g := e; omega
    · obtain ⟨b, o, rfl, hb, _⟩ := f3.2 h0
      intro e; injection e with e; have e : b = g := e; omega
theorem IsL.off {g : Nat} {w : World} (hg : w.heap.size ≤ g) : ∀ {l : List NT}, IsL w l → OffL g l
  | [], _ => by rw [OffL]; trivial
  | t :: l, h => by rw [IsL] at h; rw [OffL]; exact ⟨Is.off hg h.1, IsL.off hg h.2⟩
end
mutual
theorem Fr.mono {B B' : Nat} {w : World} (hb : B' ≤ B) : ∀ {t : NT}, Fr B w t → Fr B' w t
  | .mk k n u s kv keys lv l, h => by
    rw [Fr] at h ⊢
    obtain ⟨h1, h2, h3⟩ := h
    refine ⟨fun h0 => ?_, fun h0 => ?_, FrL.mono hb h3⟩
    · obtain ⟨b, m, c, cs, T, e1, e2, e3⟩ := h1 h0
      exact ⟨b, m, c, cs, T, e1, by omega, e3⟩
    · obtain ⟨b, m, c, cs, T, e1, e2, e3⟩ := h2 h0
      exact ⟨b, m, c, cs, T, e1, by omega, e3⟩
theorem FrL.mono {B B' : Nat} {w : World} (hb : B' ≤ B) : ∀ {l : List NT}, FrL B w l → FrL B' w l
  | [], _ => by rw [FrL]; trivial
  | t :: l, h => by rw [FrL] at h ⊢; exact ⟨Fr.mono hb h.1, FrL.mono hb h.2⟩
end
theorem grown_of_below {w w' : World} (h : Below w.heap.size w w') : w.grownBy w' none := ⟨h.os, h.tape, h.output, h.size, fun k hk _ => h.block k hk⟩
theorem Fr.below {B : Nat} {w w' : World} {t : NT} (h : Fr B w t) (hb : Below w.heap.size w w') : Fr B w' t := h.kept (grown_of_below hb) (fun g hr => by cases hr)
theorem isL_append {w : World} : ∀ {a b : List NT}, IsL w a → IsL w b → IsL w (a ++ b)
  | [], b, _, h => h
  | t :: a, b, h, g => by rw [IsL] at h; rw [List.cons_append, IsL]; exact ⟨h.1, isL_append h.2 g⟩
theorem frL_append {B : Nat} {w : World} : ∀ {a b : List NT}, FrL B w a → FrL B w b → FrL B w (a ++ b)
  | [], b, _, h => h
  | t :: a, b, h, g => by rw [FrL] at h; rw [List.cons_append, FrL]; exact ⟨h.1, frL_append h.2 g⟩
theorem offL_append {g : Nat} : ∀ {a b : List NT}, OffL g a → OffL g b → OffL g (a ++ b)
  | [], b, _, h => h
  | t :: a, b, h, k => by rw [OffL] at h; rw [List.cons_append, OffL]; exact ⟨h.1, offL_append h.2 k⟩
theorem isL_one {w : World} {t : NT} (h : Is w t) : IsL w [t] := by rw [IsL, IsL]; exact ⟨h, trivial⟩
theorem frL_one {B : Nat} {w : World} {t : NT} (h : Fr B w t) : FrL B w [t] := by rw [FrL, FrL]; exact ⟨h, trivial⟩
theorem offL_one {g : Nat} {t : NT} (h : Off g t) : OffL g [t] := by rw [OffL, OffL]; exact ⟨h, trivial⟩
theorem IsL.below' {w w' : World} {l : List NT} (h : IsL w l) (hb : Below w.heap.size w w') : IsL w' l := IsL.below hb h
theorem info26' : (Try.prog.info? 26).map (fun i => (i.zero.map (·.cells.size), i.size, i.bytes)) = some (some 6, 6, 88) := by kernel_rfl
end Go.Proofs.Yteoggaioleckhaa
