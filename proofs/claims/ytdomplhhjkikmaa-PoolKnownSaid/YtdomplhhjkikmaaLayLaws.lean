import Derived.Test.YtdomplhhjkikmaaPool
import Derived.Deep.RegionLaw
import Derived.Deep.RegionHeld3
import Derived.Deep.DeepAppendRoom
import Derived.Laws.CopyOwn
namespace Go.Proofs.Ytdomplhhjkikmaa
open Go.RowKit
section
variable {P : Program} {ops : Array Oper} {o : Oper} {a : Act} {Q : Exit → Act → World → Prop}
/-- The block of a slice that has been appended to: the old one, or one that was not there. -/
def Where (w : World) (v v' : Value) : Prop := v'.ownBlock = v.ownBlock ∨ ∃ b, v'.ownBlock = some b ∧ w.heap.size ≤ b
theorem own_some {w : World} {base : Nat} {e : TypeId} {sz n : Nat} {v : Value} {xs : List Value} (h : w.ownsRow base e sz v n xs) (hn : 0 < n) : ∃ b, v.ownBlock = some b ∧ base ≤ b := by
  rcases h.2 with ⟨_, h0⟩ | ⟨g, cap, cur, rfl, hg, _⟩
  · omega
  · exact ⟨g, rfl, hg⟩
theorem run_append_where (w : World) (base : Nat) (t ty e : TypeId) (i : TypeInfo) (z : Value) (size bytes : Nat) (ht : P.underlying t = some (.slice e)) (hi : P.info? e = some i) (hz : i.zero = some z)
    (hsize : i.size = size) (hby : i.bytes = bytes) (hzs : z.cells.size = size) (hsz : 0 < size)
    (v : Value) (n : Nat) (xs : List Value) (hown : w.ownsRow base e size v n xs)
    (ad : Addr) (m c : Nat) (hm : 0 < m) (news : List Value) (hl : news.length = m * size) (hnews : ∀ j u, news[j]? = some u → w.cell? (ad.add j) = some u) (h1 : ∀ u ∈ news, u.oneCell' = true)
    (h63 : n + m ≤ maxLen) (hbytes : (n + m) * bytes ≤ 140737488355328) (hbase : base ≤ w.heap.size) :
    ∃ v' w', (Builtin.append_ #[t, t] ty #[v, .slice (some ad) m c]).run P w = .ok v' w' ∧ w'.ownsRow base e size v' (n + m) (xs ++ news) ∧ w.grownBy w' v.ownBlock ∧ Where w v v' := by
  obtain ⟨v', w', hr, h2, h3, _⟩ := run_append_own (P := P) w base t ty e i z size bytes ht hi hz hsize hby hzs hsz v n xs hown ad m c news hl hnews h1 h63 hbytes hbase
  refine ⟨v', w', hr, h2, h3, ?_⟩
  rcases hown.2 with ⟨rfl, rfl⟩ | ⟨g, cap, cur, rfl, hbg, hg, hnc, hcm, hcs, htake⟩
  · have hx : xs = [] := List.eq_nil_of_length_eq_zero (by simpa using hown.1)
    subst hx
    obtain ⟨v2, w2, hr2, g2, _⟩ := run_append_own (P := P) w w.heap.size t ty e i z size bytes ht hi hz hsize hby hzs hsz _ 0 [] (World.ownsRow_nil w w.heap.size e size) ad m c news hl hnews h1 h63 hbytes (Nat.le_refl _)
    rw [hr] at hr2
    injection hr2 with e1 e2
    subst e1
    subst e2
    obtain ⟨b, hb, hle⟩ := own_some g2 (by omega)
    exact Or.inr ⟨b, hb, hle⟩
  · by_cases hroom : n + m ≤ cap
    · obtain ⟨w2, hr2, _⟩ := run_append_own_spare (P := P) w base t ty e i size ht hi hsize g n cap xs hown ad m c news hl hnews h1 hroom
      rw [hr] at hr2
      injection hr2 with e1 e2
      subst e1
      exact Or.inl rfl
    · subst hsize
      subst hby
      have hr2 := run_append_grow (P := P) w t ty e i z ht hi hz ⟨g, 0, none⟩ n cap xs hown.1 (hown.cells (g := g) rfl) ad m c news hl hnews (by omega) (by simp only [maxLen] at h63; omega) (growslice_fits (by omega) hbytes)
      rw [hr] at hr2
      injection hr2 with e1 e2
      subst e1
      exact Or.inr ⟨_, rfl, Nat.le_refl _⟩
theorem step_append_where {K : Act → World → Prop} {E : Prop} (hw : Region.wanted o (yielded ops a.tmps) = true) (w : World) (s x : Operand) (t : TypeId)
    (ho : o.op = .call { callee := .builtin .append, args := #[s, x], argTypes := #[t, t] })
    (base : Nat) (e : TypeId) (i : TypeInfo) (z : Value) (size bytes : Nat) (ht : P.underlying t = some (.slice e)) (hi : P.info? e = some i) (hz : i.zero = some z)
    (hsize : i.size = size) (hby : i.bytes = bytes) (hzs : z.cells.size = size) (hsz : 0 < size)
    (v : Value) (n : Nat) (xs : List Value) (hs : a.eval s = v) (hown : w.ownsRow base e size v n xs)
    (A : Option Addr) (m c : Nat) (hm : 0 < m) (news : List Value) (hx : a.eval x = .slice A m c) (hr : Rd w size A m news) (h1 : ∀ u ∈ news, u.oneCell' = true)
    (h63 : n + m ≤ maxLen) (hbytes : (n + m) * bytes ≤ 140737488355328) (hbase : base ≤ w.heap.size)
    (h : ∀ v' w', w'.ownsRow base e size v' (n + m) (xs ++ news) → w.grownBy w' v.ownBlock → Where w v v' → K (a.put o.dst v') w') :
    if Region.wanted o (yielded ops a.tmps) = true then Oper.wp P o a w K Q else E := by
  rw [if_pos hw]
  obtain ⟨b, off, rfl, _, hcell⟩ := hr.2 hm
  obtain ⟨v', w', hrun, h2, h3, h4⟩ := run_append_where (P := P) w base t o.type e i z size bytes ht hi hz hsize hby hzs hsz v n xs hown ⟨b, off, none⟩ m c hm news hr.1 (fun j u hu => by rw [spot_add]; exact hcell j u hu) h1 h63 hbytes hbase
  unfold Oper.wp execOp
  simp only [ho, resolve, invoke, builtin, Sem.run_bind, Sem.run_pure, Result.andThen_ok, List.map_toArray, List.map_cons, List.map_nil, hs, hx, hrun]
  exact h v' w' h2 h3 h4
end
theorem infoS : (Try.prog.info? 9).map (fun i => (i.zero, i.size, i.bytes)) = some (some (.string ByteArray.empty), 1, 16) := by kernel_rfl
theorem infoI : (Try.prog.info? 3).map (fun i => (i.zero, i.size, i.bytes)) = some (some (.int .i64 0), 1, 8) := by kernel_rfl
theorem rd_at {W : World} {h : Nat} {v : Value} {e : TypeId} (hh : W.heap[h]? = some (.cells #[v] e (0, 0))) : Rd W 1 (some ⟨h, 0, none⟩) 1 [v] := by
  refine ⟨by simp, fun _ => ⟨h, 0, rfl, block_lt hh, fun k u hu => ?_⟩⟩
  rw [cell_of_row _ _ (0 + k) _ e (0, 0) hh]
  simpa using hu
theorem rdK1 (w : World) (v : Value) (e : TypeId) : Rd (w.drew.alloc (.cells #[v] e)) 1 (some ⟨w.heap.size, 0, none⟩) 1 [v] := rd_at (heap_alloc_last _ _)
theorem rdK2 (w : World) (v u : Value) (e f : TypeId) : Rd ((w.drew.alloc (.cells #[v] e)).alloc (.cells #[u] f)) 1 (some ⟨w.heap.size, 0, none⟩) 1 [v] := (rdK1 w v e).alloc _
theorem rdK3 (w : World) (v u : Value) (e f : TypeId) : Rd ((w.drew.alloc (.cells #[u] f)).alloc (.cells #[v] e)) 1 (some ⟨w.heap.size + 1, 0, none⟩) 1 [v] := by
  have := rd_at (heap_alloc_last (w.drew.alloc (.cells #[u] f)) (.cells #[v] e))
  simpa using this
theorem below_a1 (w : World) (o : Obj) : Below w.heap.size w (w.drew.alloc o) := (below_drew_ w).alloc (Nat.le_refl _) o
theorem below_a2 (w : World) (o p : Obj) : Below w.heap.size w ((w.drew.alloc o).alloc p) := (below_a1 w o).alloc (by simp) p
theorem grown_keptW {w W w3 : World} {row : Option Nat} (hb : Below w.heap.size w W) (hg : W.grownBy w3 row) : Kept (fun b => row = some b) w w3 :=
  ⟨hg.os.trans hb.os, hg.tape.trans hb.tape, hg.output.trans hb.output, Nat.le_trans hb.size hg.size, fun j hj hF => (hg.block j (Nat.lt_of_lt_of_le hj hb.size) (fun e => hF e.symm)).trans (hb.block j hj)⟩
theorem rd_grown {W w3 : World} {row : Option Nat} {h : Nat} {v : Value} (hr : Rd W 1 (some ⟨h, 0, none⟩) 1 [v]) (hg : W.grownBy w3 row) (hne : row ≠ some h) : Rd w3 1 (some ⟨h, 0, none⟩) 1 [v] := by
  refine ⟨hr.1, fun hp => ?_⟩
  obtain ⟨b, o, e, hb, hc⟩ := hr.2 hp
  simp only [Option.some.injEq, Addr.mk.injEq] at e
  obtain ⟨rfl, rfl, _⟩ := e
  exact ⟨h, 0, rfl, Nat.lt_of_lt_of_le hb hg.size, fun k u hu => (World.cell?_of_block (hg.block h hb (fun e => hne e.symm))).trans (hc k u hu)⟩
theorem row_ne {w : World} {base : Nat} {e : TypeId} {sz n : Nat} {v : Value} {xs : List Value} (h : w.ownsRow base e sz v n xs) {b : Nat} (hb : w.heap.size ≤ b) : v.ownBlock ≠ some b := fun e => by
  have := own_lt h e
  omega
theorem last_blk {w3 W w5 : World} {row : Option Nat} {g : Nat} {o : Obj} (h3 : w3.heap[g]? = some o) (hb : Below w3.heap.size w3 W) (hg : W.grownBy w5 row) (hne : row ≠ some g) : w5.heap[g]? = some o :=
  (hg.block g (Nat.lt_of_lt_of_le (block_lt h3) hb.size) (fun e => hne e.symm)).trans ((hb.block g (block_lt h3)).trans h3)
theorem alloc_cell {w : World} {p : Addr} {v : Value} (o : Obj) (h : w.cell? p = some v) : (w.alloc o).cell? p = some v := (World.cell?_alloc_lt _ _ _ (World.block_lt_of_cell? w p h)).trans h
theorem pool_c0 {w : World} {g : Nat} {x y z : Value} (h : w.heap[g]? = some (.cells #[x, y, z] 56 (0, 0))) : w.cell? ⟨g, 0, none⟩ = some x := by rw [cell_of_row w g 0 _ _ _ h]; rfl
theorem pool_c1 {w : World} {g : Nat} {x y z : Value} (h : w.heap[g]? = some (.cells #[x, y, z] 56 (0, 0))) : w.cell? ⟨g, 1, none⟩ = some y := by rw [cell_of_row w g 1 _ _ _ h]; rfl
theorem pool_f {w : World} {g : Nat} {x y z : Value} (h : w.heap[g]? = some (.cells #[x, y, z] 56 (0, 0))) (k : Nat) : w.frozen? ⟨g, k, none⟩ = false := frozen_of_row w g k _ _ h
theorem Where.mono {w w1 : World} {v v' : Value} (h : Where w1 v v') (hs : w.heap.size ≤ w1.heap.size) : Where w v v' := by
  rcases h with h | ⟨b, hb, hle⟩
  · exact Or.inl h
  · exact Or.inr ⟨b, hb, Nat.le_trans hs hle⟩
/-- A pool between two steps of an insertion: its rows are any lists. -/
structure Raw (w : World) (g : Nat) (ks us : Value) (n : Nat) (kl al : List Value) : Prop where
  blk : w.heap[g]? = some (.cells #[ks, us, .bool true] 56 (0, 0))
  kown : w.ownsRow 0 9 1 ks n kl
  aown : w.ownsRow 0 3 1 us n al
  kne : ks.ownBlock ≠ some g
  ane : us.ownBlock ≠ some g
  kane : ∀ b, ks.ownBlock = some b → us.ownBlock ≠ some b
/-- What has become of the pool of w0. -/
def Mid (w0 : World) (g : Nat) (ks us : Value) (n : Nat) (kl al : List Value) (w : World) : Prop :=
  ∃ ks' us', Raw w g ks' us' n kl al ∧ Kept (foot g ks us) w0 w ∧ ∀ b, foot g ks' us' b → foot g ks us b ∨ w0.heap.size ≤ b
theorem kept_set {w : World} (g i : Nat) (v : Value) : Kept (fun b => b = g) w (w.setCell ⟨g, i, none⟩ v) :=
  ⟨rfl, rfl, rfl, by simp, fun _ _ hF => heap_setCell_other w ⟨g, i, none⟩ _ v hF⟩
theorem own_set {w : World} {base : Nat} {e : TypeId} {n i : Nat} {b c : Nat} {xs : List Value} (h : w.ownsRow base e 1 (.slice (some ⟨b, 0, none⟩) n c) n xs) (x : Value) :
    (w.setCell ⟨b, i, none⟩ x).ownsRow base e 1 (.slice (some ⟨b, 0, none⟩) n c) n (xs.set i x) := by
  refine ⟨by simpa using h.1, ?_⟩
  rcases h.2 with ⟨h0, _⟩ | ⟨g, cap, cur, hv, hg, hh, h1, h2, h3, h4⟩
  · cases h0
  · cases hv
    refine Or.inr ⟨b, c, _, rfl, hg, heap_setCell_same w b i cur e x hh, h1, h2, by simpa using h3, ?_⟩
    rw [Array.toList_setIfInBounds, List.take_set, h4]
theorem own_has {w : World} {base : Nat} {e : TypeId} {n : Nat} {v : Value} {xs : List Value} (h : w.ownsRow base e 1 v n xs) (hn : 0 < n) : ∃ b c, v = .slice (some ⟨b, 0, none⟩) n c ∧ n ≤ c ∧ c ≤ maxLen ∧ v.ownBlock = some b := by
  rcases h.2 with ⟨_, h0⟩ | ⟨g, cap, cur, rfl, _, _, h1, h2, _⟩
  · omega
  · exact ⟨g, cap, rfl, h1, h2, rfl⟩
theorem own_f {w : World} {base : Nat} {e : TypeId} {n b c : Nat} {xs : List Value} (h : w.ownsRow base e 1 (.slice (some ⟨b, 0, none⟩) n c) n xs) (i : Nat) : w.frozen? ⟨b, i, none⟩ = false := by
  rcases h.2 with ⟨h0, _⟩ | ⟨g, cap, cur, hv, hg, hh, h1, h2, h3, h4⟩
  · cases h0
  · cases hv
    exact frozen_of_row w b i _ _ hh
theorem own_c {w : World} {base : Nat} {e : TypeId} {n b c : Nat} {xs : List Value} (h : w.ownsRow base e 1 (.slice (some ⟨b, 0, none⟩) n c) n xs) {i : Nat} (hi : i < n) : ∃ x, w.cell? ⟨b, i, none⟩ = some x := by
  obtain ⟨b', o, e1, _, hc⟩ := (Rd.of_own h).2 (by omega)
  simp only [Option.some.injEq, Addr.mk.injEq] at e1
  obtain ⟨rfl, rfl, _⟩ := e1
  have hl := h.1
  exact ⟨_, by have := hc i _ (List.getElem?_eq_getElem (show i < xs.length by omega)); rwa [Nat.zero_add] at this⟩
/-- The end of the first statement: the two stores. -/
theorem lay0 {w w3 w5 : World} {g n : Nat} {ks us v3 v5 : Value} {kl al : List Value} (hus : ∀ b, us.ownBlock = some b → b < w.heap.size) (hgl : g < w.heap.size)
    (hN : ks.ownBlock ≠ some g ∧ us.ownBlock ≠ some g ∧ ∀ b, ks.ownBlock = some b → us.ownBlock ≠ some b)
    (k3 : Kept (fun b => ks.ownBlock = some b) w w3) (h3 : w3.ownsRow 0 9 1 v3 n kl) (wh3 : Where w ks v3)
    (k5 : Kept (fun b => us.ownBlock = some b) w3 w5) (h5 : w5.ownsRow 0 3 1 v5 n al) (wh5 : Where w3 us v5) (hb : w5.heap[g]? = some (.cells #[ks, us, .bool true] 56 (0, 0))) :
    Mid w g ks us n kl al ((w5.setCell ⟨g, 0, none⟩ v3).setCell ⟨g, 1, none⟩ v5) := by
  have n3 : v3.ownBlock ≠ some g := by
    rcases wh3 with h | ⟨b, hb, hle⟩
    · rw [h]; exact hN.1
    · rw [hb]; intro e; injection e with e; omega
  have n5 : v5.ownBlock ≠ some g := by
    rcases wh5 with h | ⟨b, hb, hle⟩
    · rw [h]; exact hN.2.1
    · rw [hb]; intro e; injection e with e; have := k3.size; omega
  have n3u : ∀ b, v3.ownBlock = some b → us.ownBlock ≠ some b := by
    intro b hb hu
    rcases wh3 with h | ⟨b', hb', hle⟩
    · exact hN.2.2 b (h ▸ hb) hu
    · rw [hb] at hb'; injection hb' with hb'; have := hus b hu; omega
  have n35 : ∀ b, v3.ownBlock = some b → v5.ownBlock ≠ some b := by
    intro b hb h5b
    rcases wh5 with h | ⟨b', hb', hle⟩
    · exact n3u b hb (h ▸ h5b)
    · rw [h5b] at hb'; injection hb' with hb'; have := own_lt h3 hb; omega
  have h35 := own_kept h3 k5 (fun b hb hf => n3u b hb hf)
  have hs1 := heap_setCell_same w5 g 0 _ _ v3 hb
  have hs2 := heap_setCell_same _ g 1 _ _ v5 hs1
  have ka := kept_set (w := w5) g 0 v3
  have kb := kept_set (w := w5.setCell ⟨g, 0, none⟩ v3) g 1 v5
  have kab := ka.trans kb (fun _ _ h => h)
  refine ⟨v3, v5, ⟨hs2, own_kept h35 kab (fun b hb hf => n3 (by rw [hb, hf])), own_kept h5 kab (fun b hb hf => n5 (by rw [hb, hf])), n3, n5, n35⟩, ?_, ?_⟩
  · have k1 : Kept (foot g ks us) w w3 := k3.trans (Kept.of_below (F := fun _ => False) (Below.refl _ _)) (fun _ _ h => absurd h id) |> fun h => ⟨h.os, h.tape, h.output, h.size, fun j hj hF => h.block j hj (fun e => hF (Or.inr (Or.inl e)))⟩
    have k2 : Kept (foot g ks us) w w5 := k1.trans k5 (fun _ _ h => Or.inr (Or.inr h))
    exact k2.trans kab (fun _ _ h => Or.inl h)
  · intro b hbb
    rcases hbb with rfl | h | h
    · exact Or.inl (Or.inl rfl)
    · rcases wh3 with h' | ⟨b', hb', hle⟩
      · exact Or.inl (Or.inr (Or.inl (h' ▸ h)))
      · rw [h] at hb'; injection hb' with hb'; exact Or.inr (by omega)
    · rcases wh5 with h' | ⟨b', hb', hle⟩
      · exact Or.inl (Or.inr (Or.inr (h' ▸ h)))
      · rw [h] at hb'; injection hb' with hb'; exact Or.inr (by have := k3.size; omega)
theorem splice_len (xs : List Value) (n i : Nat) (hl : xs.length = n) (hi : i < n) : ((xs.drop i).take (n - (i + 1))).length = n - (i + 1) := by
  rw [List.length_take, List.length_drop]; omega
section
variable {P : Program} {ops : Array Oper} {o : Oper} {a : Act} {Q : Exit → Act → World → Prop}
/-- 'copy(x[i+1:], x[i:])' within a row of the call's own, as one step of a region that draws. -/
theorem step_copy_shift {K : Act → World → Prop} {E : Prop} (hgd : o.guard = none) (w : World) (d s : Operand) (t : TypeId)
    (ho : o.op = .call { callee := .builtin .copy, args := #[d, s], argTypes := #[t, t] }) (elem : TypeId) (hu : P.underlying t = some (.slice elem)) (hsz : (P.info? elem).map (·.size) = some 1)
    (base b n c : Nat) (xs : List Value) (hown : w.ownsRow base elem 1 (.slice (some ⟨b, 0, none⟩) n c) n xs) (h1 : ∀ v ∈ xs, v.oneCell' = true) (i : Nat) (hi : i < n)
    (dp : Option Addr) (m dCap sCap : Nat) (hm : m = n - (i + 1)) (hd : a.eval d = .slice dp m dCap) (hs : a.eval s = .slice (some ⟨b, i, none⟩) (n - i) sCap) (hdp : i + 1 < n → dp = some ⟨b, i + 1, none⟩)
    (h : ∀ z w', w'.ownsRow base elem 1 (.slice (some ⟨b, 0, none⟩) n c) n (xs.take (i + 1) ++ (xs.drop i).take (n - (i + 1))) → Kept (fun x => x = b) w w' → K (a.put o.dst z) w') :
    if Region.wanted o (yielded ops a.tmps) = true then Oper.wp P o a w K Q else E := by
  subst hm
  have hw : Region.wanted o (yielded ops a.tmps) = true := by simp [Region.wanted, hgd]
  rw [if_pos hw]
  have hl : xs.length = n := by simpa using hown.1
  by_cases h0 : i + 1 < n
  · obtain rfl := hdp h0
    have hlen := splice_len xs n i hl hi
    have hcells := (Rd.of_own hown).2 (by omega)
    obtain ⟨b', o', e1, _, hc⟩ := hcells
    simp only [Option.some.injEq, Addr.mk.injEq] at e1
    obtain ⟨rfl, rfl, _⟩ := e1
    rcases hown.2 with ⟨hx, _⟩ | ⟨g, cap, cur, hv, hg, hh, hnc, hcm, hcs, htk⟩
    · cases hx
    · cases hv
      rw [Nat.mul_one] at hcs htk
      have hrun := run_copy_row (P := P) w t t o.type elem b (i + 1) (n - (i + 1)) dCap ⟨b, i, none⟩ (n - i) sCap cur elem ((xs.drop i).take (n - (i + 1))) hu hsz hh (by rw [hlen]; exact (Nat.min_eq_right (by omega)).symm)
        (fun j u hj => by
          rw [spot_add]
          rw [List.getElem?_take] at hj
          split at hj
          · rw [List.getElem?_drop] at hj
            have := hc (i + j) u hj
            rwa [Nat.zero_add] at this
          · cases hj) (by rw [hlen, hcs]; omega) (fun v hv => h1 v (List.mem_of_mem_drop (List.mem_of_mem_take hv)))
      unfold Oper.wp
      simp only [execOp, ho, resolve, invoke, builtin, Sem.run_bind, Sem.run_pure, Result.andThen_ok, List.map_toArray, List.map_cons, List.map_nil, hd, hs, hrun]
      refine h _ _ ⟨by rw [List.length_append, hlen, List.length_take, hl]; omega, Or.inr ⟨b, c, _, rfl, hg, setRow_heap w b cur _ elem _ hh, hnc, hcm, ?_, ?_⟩⟩ ⟨rfl, rfl, rfl, by simp [World.setRow], fun k _ hk => setRow_other w b k _ hk⟩
      · simp only [List.size_toArray, List.length_append, List.length_take, List.length_drop, Array.length_toList, Nat.mul_one, hl]
        omega
      · have e1 : cur.toList.take (i + 1) = xs.take (i + 1) := by rw [← htk, List.take_take]; congr 1; omega
        rw [Nat.mul_one, e1, List.append_assoc, ← List.append_assoc, List.take_left' (by rw [List.length_append, hlen, List.length_take, hl]; omega)]
  · obtain rfl : n = i + 1 := by omega
    have hrun := run_copy_none (P := P) w t t o.type elem dp (some ⟨b, i, none⟩) (i + 1 - (i + 1)) dCap (i + 1 - i) sCap hu hsz (by rw [Nat.sub_self]; exact Nat.min_zero _)
    unfold Oper.wp
    simp only [execOp, ho, resolve, invoke, builtin, Sem.run_bind, Sem.run_pure, Result.andThen_ok, List.map_toArray, List.map_cons, List.map_nil, hd, hs, hrun]
    refine h _ w ?_ (Kept.of_below (Below.refl _ _))
    rw [Nat.sub_self, List.take_zero, List.append_nil, List.take_of_length_le (by omega)]
    exact hown
end
theorem kept_drew {F : Nat → Prop} {w w' : World} (h : Kept F w.drew w') : Kept F w w' := ⟨h.os, h.tape, h.output, h.size, h.block⟩
theorem Raw.g_lt {w : World} {g : Nat} {ks us : Value} {n : Nat} {kl al : List Value} (h : Raw w g ks us n kl al) : g < w.heap.size := block_lt h.blk
theorem Mid.next {w0 w w' : World} {g n : Nat} {ks us ks' us' : Value} {kl' al' : List Value} {F : Nat → Prop} (hk : Kept (foot g ks us) w0 w) (hn : ∀ b, foot g ks' us' b → foot g ks us b ∨ w0.heap.size ≤ b)
    (hr : Raw w' g ks' us' n kl' al') (hk2 : Kept F w w') (hF : ∀ b, F b → foot g ks' us' b) : Mid w0 g ks us n kl' al' w' :=
  ⟨ks', us', hr, hk.trans hk2 (fun j hj hf => by rcases hn j (hF j hf) with h | h; exact h; omega), hn⟩
/-- The end of the last statement. -/
theorem lay3 {w0 w : World} {g n i : Nat} {ks us : Value} {bk ck bu cu : Nat} {kl al : List Value} (hk : Kept (foot g ks us) w0 w) (hn : ∀ b, foot g (.slice (some ⟨bk, 0, none⟩) n ck) (.slice (some ⟨bu, 0, none⟩) n cu) b → foot g ks us b ∨ w0.heap.size ≤ b)
    (hr : Raw w g (.slice (some ⟨bk, 0, none⟩) n ck) (.slice (some ⟨bu, 0, none⟩) n cu) n kl al) (x y : Value) :
    Mid w0 g ks us n (kl.set i x) (al.set i y) ((w.setCell ⟨bk, i, none⟩ x).setCell ⟨bu, i, none⟩ y).drew := by
  have k1 := kept_set (w := w) bk i x
  have k2 := kept_set (w := w.setCell ⟨bk, i, none⟩ x) bu i y
  have nk : bk ≠ g := fun e => hr.kne (by rw [← e]; rfl)
  have nu : bu ≠ g := fun e => hr.ane (by rw [← e]; rfl)
  have nku : bk ≠ bu := fun e => hr.kane bk rfl (by rw [e]; rfl)
  have hK := own_set hr.kown (i := i) x
  have hA := own_kept hr.aown k1 (fun b hb e => nku (by simp only [Value.ownBlock, Option.some.injEq] at hb; omega))
  have hK2 := own_kept hK k2 (fun b hb e => nku (by simp only [Value.ownBlock, Option.some.injEq] at hb; omega))
  have hA2 := own_set hA (i := i) y
  have hb : ((w.setCell ⟨bk, i, none⟩ x).setCell ⟨bu, i, none⟩ y).heap[g]? = some (.cells #[.slice (some ⟨bk, 0, none⟩) n ck, .slice (some ⟨bu, 0, none⟩) n cu, .bool true] 56 (0, 0)) :=
    ((heap_setCell_other _ _ _ _ (fun e => nu e.symm)).trans (heap_setCell_other _ _ _ _ (fun e => nk e.symm))).trans hr.blk
  refine ⟨_, _, ⟨hb, hK2, hA2, hr.kne, hr.ane, hr.kane⟩, ?_, hn⟩
  have k3 : Kept (fun b => b = bk ∨ b = bu) w ((w.setCell ⟨bk, i, none⟩ x).setCell ⟨bu, i, none⟩ y).drew :=
    ⟨rfl, rfl, rfl, by simp, fun j _ hj => (heap_setCell_other _ ⟨bu, i, none⟩ j y (fun e => hj (Or.inr e))).trans (heap_setCell_other _ ⟨bk, i, none⟩ j x (fun e => hj (Or.inl e)))⟩
  refine hk.trans k3 (fun j hj e => ?_)
  rcases e with rfl | rfl
  · rcases hn j (Or.inr (Or.inl rfl)) with h | h
    · exact h
    · omega
  · rcases hn j (Or.inr (Or.inr rfl)) with h | h
    · exact h
    · omega
end Go.Proofs.Ytdomplhhjkikmaa
