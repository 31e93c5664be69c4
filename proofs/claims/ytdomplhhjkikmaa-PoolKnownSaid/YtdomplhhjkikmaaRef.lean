import Derived.Test.YtdomplhhjkikmaaRefuses
/- The reference's pool. -/
namespace Go.Proofs.Ytdomplhhjkikmaa
open Go.RowKit
def flat (L : List Ent) : List Value := L.flatMap fun e => [str e.1, .int .i64 e.2]
theorem flat_app (a b : List Ent) : flat (a ++ b) = flat a ++ flat b := by simp [flat]
theorem flat_len (L : List Ent) : (flat L).length = L.length * 2 := by
  induction L with
  | nil => rfl
  | cons e L ih =>
    have : flat (e :: L) = str e.1 :: .int .i64 e.2 :: flat L := rfl
    rw [this, List.length_cons, List.length_cons, ih, List.length_cons]; omega
theorem flat_get : ∀ (L : List Ent) (j : Nat) (e : Ent), L[j]? = some e → (flat L)[j * 2]? = some (str e.1) ∧ (flat L)[j * 2 + 1]? = some (.int .i64 e.2)
  | [], _, _, h => by cases h
  | x :: L, 0, e, h => by
    simp only [List.getElem?_cons_zero, Option.some.injEq] at h
    subst h
    exact ⟨rfl, rfl⟩
  | x :: L, j + 1, e, h => by
    have ih := flat_get L j e (by simpa using h)
    have hf : flat (x :: L) = str x.1 :: .int .i64 x.2 :: flat L := rfl
    rw [hf, show (j + 1) * 2 = j * 2 + 1 + 1 by omega, show j * 2 + 1 + 1 + 1 = (j * 2 + 1) + 1 + 1 by omega]
    simpa using ih
structure RefAt (w : World) (h : Nat) (lv : Value) (L : List Ent) : Prop where
  blk : w.heap[h]? = some (.cells #[lv] 39 (0, 0))
  own : w.ownsRow 0 57 2 lv L.length (flat L)
  ne : lv.ownBlock ≠ some h
def rfoot (h : Nat) (lv : Value) (b : Nat) : Prop := b = h ∨ lv.ownBlock = some b
theorem RefAt.foot_lt {w : World} {h : Nat} {lv : Value} {L : List Ent} (hr : RefAt w h lv L) {b : Nat} (hb : rfoot h lv b) : b < w.heap.size := by
  rcases hb with rfl | hb
  · exact block_lt hr.blk
  · exact own_lt hr.own hb
theorem RefAt.kept {F : Nat → Prop} {w w' : World} {h : Nat} {lv : Value} {L : List Ent} (hr : RefAt w h lv L) (hk : Kept F w w') (hF : ∀ b, rfoot h lv b → ¬ F b) : RefAt w' h lv L :=
  ⟨(hk.block h (block_lt hr.blk) (hF h (Or.inl rfl))).trans hr.blk, own_kept hr.own hk (fun b hb => hF b (Or.inr hb)), hr.ne⟩
theorem RefAt.below {w w' : World} {h : Nat} {lv : Value} {L : List Ent} (hr : RefAt w h lv L) (hb : Below w.heap.size w w') : RefAt w' h lv L :=
  hr.kept (F := fun _ => False) (Kept.of_below hb) (fun _ _ hf => hf)
theorem RefAt.c0 {w : World} {h : Nat} {lv : Value} {L : List Ent} (hr : RefAt w h lv L) : w.cell? ⟨h, 0, none⟩ = some lv := by rw [cell_of_row w h 0 _ _ _ hr.blk]; rfl
theorem newr_any (w : World) : Calls Try.prog 10 #[] w fun e w' => e = .returned (.pointer (some ⟨w.heap.size, 0, none⟩)) ∧ w' = w.alloc (.cells #[.slice none 0 0] 39) := by
  go_enter Try.func10, Try.ntmps10
  go_wp2
  go_ret
  exact ⟨rfl, rfl⟩
theorem RefAt.new (w : World) : RefAt (w.alloc (.cells #[.slice none 0 0] 39)) w.heap.size (.slice none 0 0) [] :=
  ⟨heap_alloc_last _ _, World.ownsRow_nil _ _ _ _, by simp [Value.ownBlock]⟩
theorem has_take (L : List Ent) (j : Nat) (e : Ent) (k : K) (h : L[j]? = some e) : has (L.take (j + 1)) k = (has (L.take j) k || e.1 == k) := by
  rw [List.take_add_one, h, has_append]; simp [has]
theorem val_first (L : List Ent) (j : Nat) (e : Ent) (k : K) (h : L[j]? = some e) (h0 : has (L.take j) k = false) (hk : (e.1 == k) = true) : has L k = true ∧ val L k = e.2 := by
  obtain ⟨hj, he⟩ := List.getElem?_eq_some_iff.1 h
  have hs : L = L.take j ++ e :: L.drop (j + 1) := by
    conv => lhs; rw [← List.take_append_drop j L, List.drop_eq_getElem_cons hj, he]
  rw [hs, has_append, val_append, h0, has_cons, hk, val_cons, if_pos hk]
  simp
set_option maxRecDepth 100000 in
set_option maxHeartbeats 4000000 in
theorem refGet_any (h : Nat) (lv : Value) (L : List Ent) (k : List UInt8) (w : World) (hr : RefAt w h lv L) (hn : L.length ≤ 100000) :
    Calls Try.prog 13 #[.pointer (some ⟨h, 0, none⟩), .string ⟨k.toArray⟩] w fun e w' => e = .returned (.tuple #[.int .i64 (if has L k = true then val L k else 0), .bool (has L k)]) ∧ w = w' := by
  have c0 := hr.c0
  obtain ⟨A, c, rfl, hc1, hc2⟩ := own_shape hr.own
  have hR := Lib.hid (Rd.of_own hr.own)
  clear hr
  cases hh0 : has L k with
  | true =>
    have HH := Lib.hid hh0
    rw [if_pos rfl]
    clear hh0
    go_enter Try.func13, Try.ntmps13
    go_wp2
    go_loop [6] (fun i => ∃ j : Nat, j ≤ L.length ∧ i = .int .i64 j ∧ Hid (has (L.take j) k = false)) (fun i => L.length - (intOf i).toNat)
    case atStart => exact ⟨0, by omega, rfl, rfl⟩
    case round =>
      obtain ⟨j, hj, rfl, h0⟩ := hrel
      by_cases hlt : j < L.length
      · obtain ⟨e, he⟩ : ∃ e, L[j]? = some e := ⟨_, List.getElem?_eq_getElem hlt⟩
        obtain ⟨b, o, rfl, _, hcell⟩ := hR.out.2 (by omega)
        obtain ⟨f1, f2⟩ := flat_get L j e he
        have g1 := hcell _ _ f1
        have g2 := hcell _ _ f2
        rw [← Nat.add_assoc] at g2
        unfold str at g1
        have HT := Lib.hid (has_take L j e k he)
        have HV := Lib.hid (val_first L j e k he h0.out)
        obtain ⟨x, z⟩ := e
        simp only at g1 g2 HT HV
        clear hcell f1 f2 he
        by_cases hx : x = k
        · subst hx
          have hb : (x == x) = true := beq_self_eq_true x
          have hv := Lib.hid (HV.out hb)
          go_wp2
          go_ret2
          exact ⟨by rw [hv.out.2]; rfl, rfl⟩
        · have hb : (x == k) = false := by simpa using hx
          have hh := Lib.hid (show has (L.take (j + 1)) k = false by rw [HT.out, h0.out, hb]; rfl)
          clear hx
          go_wp2
          go_round
          case rel => exact ⟨j + 1, by omega, by go_num, hh⟩
          case measure => simp [intOf]; omega
      · obtain rfl : j = L.length := by omega
        have h1 := h0.out
        rw [List.take_length] at h1
        have H1 := Lib.hid h1
        clear h1
        have := HH.out
        rw [H1.out] at this
        cases this
  | false =>
    have HH := Lib.hid hh0
    rw [if_neg (by decide)]
    clear hh0
    go_enter Try.func13, Try.ntmps13
    go_wp2
    go_loop [6] (fun i => ∃ j : Nat, j ≤ L.length ∧ i = .int .i64 j ∧ Hid (has (L.take j) k = false)) (fun i => L.length - (intOf i).toNat)
    case atStart => exact ⟨0, by omega, rfl, rfl⟩
    case round =>
      obtain ⟨j, hj, rfl, h0⟩ := hrel
      by_cases hlt : j < L.length
      · obtain ⟨e, he⟩ : ∃ e, L[j]? = some e := ⟨_, List.getElem?_eq_getElem hlt⟩
        obtain ⟨b, o, rfl, _, hcell⟩ := hR.out.2 (by omega)
        obtain ⟨f1, f2⟩ := flat_get L j e he
        have g1 := hcell _ _ f1
        have g2 := hcell _ _ f2
        rw [← Nat.add_assoc] at g2
        unfold str at g1
        have HT := Lib.hid (has_take L j e k he)
        have HV := Lib.hid (val_first L j e k he h0.out)
        obtain ⟨x, z⟩ := e
        simp only at g1 g2 HT HV
        clear hcell f1 f2 he
        by_cases hx : x = k
        · subst hx
          have hb : (x == x) = true := beq_self_eq_true x
          have hv := Lib.hid (HV.out hb)
          have := HH.out
          rw [hv.out.1] at this
          cases this
        · have hb : (x == k) = false := by simpa using hx
          have hh := Lib.hid (show has (L.take (j + 1)) k = false by rw [HT.out, h0.out, hb]; rfl)
          clear hx
          go_wp2
          go_round
          case rel => exact ⟨j + 1, by omega, by go_num, hh⟩
          case measure => simp [intOf]; omega
      · obtain rfl : j = L.length := by omega
        have h1 := h0.out
        rw [List.take_length] at h1
        have H1 := Lib.hid h1
        clear h1
        go_wp2
        go_ret2
        exact ⟨rfl, rfl⟩
theorem info57 : (Try.prog.info? 57).map (fun i => (i.zero, i.size, i.bytes)) = some (some (.agg #[.string ByteArray.empty, .int .i64 0]), 2, 24) := by kernel_rfl
def RefGrown (w : World) (h : Nat) (lv : Value) (L' : List Ent) (w' : World) : Prop :=
  ∃ lv', RefAt w' h lv' L' ∧ Kept (rfoot h lv) w w' ∧ ∀ b, rfoot h lv' b → rfoot h lv b ∨ w.heap.size ≤ b
theorem rd_pair (w : World) (x y : Value) (e : TypeId) : Rd (w.alloc (.cells #[x, y] e)) 2 (some ⟨w.heap.size, 0, none⟩) 1 [x, y] := by
  refine ⟨rfl, fun _ => ⟨w.heap.size, 0, rfl, by simp, fun k u hu => ?_⟩⟩
  rw [cell_of_row _ _ (0 + k) _ e (0, 0) (heap_alloc_last _ _)]
  simpa using hu
/-- The append of one pair, and the store of the slice behind it. -/
theorem ref_end {w w1 : World} {h : Nat} {lv lv1 : Value} {L : List Ent} {k : K} {a : Int} {o : Obj} (hr : RefAt w h lv L) (h1 : w1.ownsRow 0 57 2 lv1 (L.length + 1) (flat L ++ [str k, .int .i64 a])) (hg : (w.alloc o).grownBy w1 lv.ownBlock) (hw : Where (w.alloc o) lv lv1) :
    RefGrown w h lv (L ++ [(k, a)]) (w1.setCell ⟨h, 0, none⟩ lv1) := by
  have hlt := block_lt hr.blk
  have hs : w.heap.size ≤ (w.alloc o).heap.size := by simp
  have hb1 : w1.heap[h]? = some (.cells #[lv] 39 (0, 0)) := (hg.block h (Nat.lt_of_lt_of_le hlt hs) (fun e => hr.ne e.symm)).trans (((Below.refl w.heap.size w).alloc (Nat.le_refl _) o).block h hlt |>.trans hr.blk)
  have n1 : lv1.ownBlock ≠ some h := by
    rcases hw with e | ⟨b, e, hle⟩
    · rw [e]; exact hr.ne
    · rw [e]; intro e2; injection e2 with e2; omega
  have ks := kept_set (w := w1) h 0 lv1
  have hs1 := heap_setCell_same w1 h 0 _ _ lv1 hb1
  refine ⟨lv1, ⟨hs1, ?_, n1⟩, ?_, ?_⟩
  · have := own_kept h1 ks (fun b hb e => n1 (by rw [hb, e]))
    rw [flat_app]
    simpa [flat] using this
  · have k0 := grown_keptW (w := w) ((Below.refl w.heap.size w).alloc (Nat.le_refl _) o) hg
    have k1 : Kept (rfoot h lv) w w1 := ⟨k0.os, k0.tape, k0.output, k0.size, fun j hj hF => k0.block j hj (fun e => hF (Or.inr e))⟩
    exact k1.trans ks (fun _ _ e => Or.inl e)
  · intro b hb
    rcases hb with rfl | hb
    · exact Or.inl (Or.inl rfl)
    · rcases hw with e | ⟨b', e, hle⟩
      · exact Or.inl (Or.inr (e ▸ hb))
      · rw [e] at hb; injection hb with hb; exact Or.inr (by omega)
theorem pool_blk {w w1 : World} {h : Nat} {lv : Value} {L : List Ent} {o : Obj} (hr : RefAt w h lv L) (hg : (w.alloc o).grownBy w1 lv.ownBlock) : w1.cell? ⟨h, 0, none⟩ = some lv ∧ w1.frozen? ⟨h, 0, none⟩ = false := by
  have hlt := block_lt hr.blk
  have hb1 : w1.heap[h]? = some (.cells #[lv] 39 (0, 0)) := (hg.block h (by simp; omega) (fun e => hr.ne e.symm)).trans (((Below.refl w.heap.size w).alloc (Nat.le_refl _) o).block h hlt |>.trans hr.blk)
  exact ⟨by rw [cell_of_row w1 h 0 _ _ _ hb1]; rfl, frozen_of_row w1 h 0 _ _ hb1⟩
theorem RefGrown.same {w : World} {h : Nat} {lv : Value} {L : List Ent} (hr : RefAt w h lv L) : RefGrown w h lv L w :=
  ⟨lv, hr, Kept.of_below (Below.refl _ _), fun _ hb => Or.inl hb⟩
section
variable {P : Program} {ops : Array Oper} {rest : List Oper} {o : Oper} {a : Act} {Q : Exit → Act → World → Prop}
theorem wpList_append_where (hgd : o.guard = none) (w : World) (s x : Operand) (t : TypeId)
    (ho : o.op = .call { callee := .builtin .append, args := #[s, x], argTypes := #[t, t] })
    (base : Nat) (e : TypeId) (i : TypeInfo) (z : Value) (size bytes : Nat) (ht : P.underlying t = some (.slice e)) (hi : P.info? e = some i) (hz : i.zero = some z)
    (hsize : i.size = size) (hby : i.bytes = bytes) (hzs : z.cells.size = size) (hsz : 0 < size)
    (v : Value) (n : Nat) (xs : List Value) (hs : a.eval s = v) (hown : w.ownsRow base e size v n xs)
    (A : Option Addr) (m c : Nat) (hm : 0 < m) (news : List Value) (hx : a.eval x = .slice A m c) (hr : Rd w size A m news) (h1 : ∀ u ∈ news, u.oneCell' = true)
    (h63 : n + m ≤ maxLen) (hbytes : (n + m) * bytes ≤ 140737488355328) (hbase : base ≤ w.heap.size)
    (h : ∀ v' w', w'.ownsRow base e size v' (n + m) (xs ++ news) → w.grownBy w' v.ownBlock → Where w v v' → wpList P ops Q rest (a.put o.dst v') w') : wpList P ops Q (o :: rest) a w :=
  wpList_step fun _ hK => step_append_where (by simp [Region.wanted, hgd]) w s x t ho base e i z size bytes ht hi hz hsize hby hzs hsz v n xs hs hown A m c hm news hx hr h1 h63 hbytes hbase fun v' w' h2 h3 h4 => hK _ _ (h v' w' h2 h3 h4)
end
set_option maxHeartbeats 4000000 in
theorem refPut_any (h : Nat) (lv : Value) (L : List Ent) (k : List UInt8) (a : Int) (w : World) (hr : RefAt w h lv L) (hn : L.length ≤ 100000) :
    Calls Try.prog 15 #[.pointer (some ⟨h, 0, none⟩), .string ⟨k.toArray⟩, .int .i64 a] w fun e w' => e = .returned (.int .i64 (putN L k a)) ∧ RefGrown w h lv (putL L k a) w' := by
  obtain ⟨iP, hiP, hzP, hsP, hbP⟩ := info_parts info57
  unfold putN putL
  by_cases h1 : a < 0 ∨ 9007199254740991 < a
  · rw [if_pos h1, if_pos h1]
    have HR := Lib.hid hr
    clear hr
    by_cases h0 : a < 0
    · clear h1
      go_enter Try.func15, Try.ntmps15
      go_wp2
      go_ret
      exact ⟨rfl, RefGrown.same HR.out⟩
    · have h2 : 9007199254740991 < a := by omega
      clear h1
      go_enter Try.func15, Try.ntmps15
      go_wp2
      go_ret
      exact ⟨rfl, RefGrown.same HR.out⟩
  · rw [if_neg h1, if_neg h1]
    have h0 : ¬ a < 0 := by omega
    have h2 : ¬ 9007199254740991 < a := by omega
    have hg := Lib.hid (refGet_any h lv L k w hr hn)
    have HR := Lib.hid hr
    clear h1 hr
    cases hh : has L k with
    | true =>
      rw [hh] at hg
      clear hh
      go_enter Try.func15, Try.ntmps15
      go_wp2_with (go_at_call 13; refine hg.out.mono ?_; rintro e w1 ⟨rfl, rfl⟩)
      go_ret
      exact ⟨rfl, by simpa using RefGrown.same HR.out⟩
    | false =>
      rw [hh] at hg
      have c0 := HR.out.c0
      have hlt := block_lt HR.out.blk
      obtain ⟨A, c, rfl, hc1, hc2⟩ := own_shape HR.out.own
      clear hh
      go_enter Try.func15, Try.ntmps15
      go_wp2_with (first
        | (go_at_call 13; refine hg.out.mono ?_; rintro e w1 ⟨rfl, rfl⟩)
        | (at_builtin; refine wpList_append_where rfl _ _ _ 37 rfl 0 57 iP _ 2 24 Try.underlying37 hiP hzP hsP hbP rfl (by decide) _ L.length _ rfl (HR.out.own.alloc _) _ 1 1 (by decide) [_, _] rfl (rd_pair _ _ _ _) (by intro u hu; simp at hu; rcases hu with rfl | rfl <;> rfl) (by unfold maxLen; omega) (by omega) (by simp) ?_; intro v1 w1 ho1 hg1 hw1; have hb1 := pool_blk HR.out hg1; have cc := hb1.1; have ff := hb1.2; clear hb1; have HO := Lib.hid (And.intro ho1 (And.intro hg1 hw1)); obtain ⟨A1, c1, rfl, _, _⟩ := own_shape ho1; clear ho1 hg1 hw1))
      go_ret
      exact ⟨rfl, by simpa using ref_end HR.out HO.out.1 HO.out.2.1 HO.out.2.2⟩
end Go.Proofs.Ytdomplhhjkikmaa
