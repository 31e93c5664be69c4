import Derived.RangeFuncNested
import Derived.RangeFuncBound
import Derived.RangeFuncCalls
import Derived.RangeFuncLeaves
import Derived.Shelf.Abstract
import Derived.Shelf.RegionOpen
import Derived.WalkKit
import Derived.OwnWalkIn
import Derived.TacticsInMore
import Derived.LoopNIn
import Derived.LoopIn
import Derived.Test.YteoggaioleckhaaFind
/- tree.walked: the iterator over the nodes of a tree, in preorder. -/
set_option linter.unusedVariables false
set_option linter.unusedSimpArgs false
namespace Go.Proofs.Yteoggaioleckhaa
open Go.RowKit Go.Shelf
attribute [local go_sem] Oper.semAt_some
theorem room_of_none {F : Fence} (hd : F.depth = none) (k : Nat) : F.room k := fun d h => by rw [hd] at h; cases h
theorem round_anyDepth {F : Fence} (hd : F.depth = none) {m m' : Nat} {P : Program} {l : Nat} {f : FuncId} {tmps : Array Value} {assign body : Code} {w : World} {R : Ending → World → Prop}
    (h : RoundIn F m P l f tmps assign body w R) : RoundIn F m' P l f tmps assign body w R := ⟨h.1, fun c cs _ => h.2 c cs (room_of_none hd _)⟩
theorem yield_anyDepth {F : Fence} (hd : F.depth = none) {m : Nat} (m' : Nat) {P : Program} {l : Nat} {args : Array Value} {W : World} {R : Ending → World → Prop} (h : YieldAt F m P l args W R) : YieldAt F m' P l args W R := by
  obtain ⟨fn, tmps, assign, body, hy, hR⟩ := h
  exact ⟨fn, tmps, assign, body, hy, round_anyDepth hd hR⟩
theorem round_mono {F : Fence} {m : Nat} {P : Program} {l : Nat} {f : FuncId} {tmps : Array Value} {assign body : Code} {w : World} {R R' : Ending → World → Prop}
    (h : RoundIn F m P l f tmps assign body w R) (hm : ∀ e W, R e W → R' e W) : RoundIn F m P l f tmps assign body w R' := h.mono hm
mutual
theorem NT.ind {P : NT → Prop} (h : ∀ k n u s kv keys lv l, (∀ x ∈ l, P x) → P (.mk k n u s kv keys lv l)) : ∀ t, P t
  | .mk k n u s kv keys lv l => h k n u s kv keys lv l (NT.indL h l)
theorem NT.indL {P : NT → Prop} (h : ∀ k n u s kv keys lv l, (∀ x ∈ l, P x) → P (.mk k n u s kv keys lv l)) : ∀ l : List NT, ∀ x ∈ l, P x
  | [], x, hx => absurd hx (by simp)
  | t :: l, x, hx => (List.mem_cons.1 hx).elim (fun e => e ▸ NT.ind h t) (fun hm => NT.indL h l x hm)
end
theorem val_mk (k n u : Int) (s : List UInt8) (kv : Value) (keys : List (List UInt8)) (lv : Value) (l : List NT) : (NT.mk k n u s kv keys lv l).val = .agg #[.int .i64 k, .int .i64 n, .int .u64 u, .string ⟨s.toArray⟩, kv, lv] := rfl
theorem preTL_eq (d : Nat) : ∀ l : List NT, preTL d l = l.flatMap (preT d)
  | [] => by rw [preTL]; rfl
  | t :: l => by rw [preTL, List.flatMap_cons, preTL_eq d l]
mutual
/-- The lists of the tree are small. -/
def KSm : NT → Prop
  | .mk k n u s kv keys lv l => keys.length ≤ 1000000 ∧ l.length ≤ 1000000 ∧ KSmL l
def KSmL : List NT → Prop
  | [] => True
  | t :: l => KSm t ∧ KSmL l
end
theorem ksmL_mem : ∀ {l : List NT}, KSmL l → ∀ x ∈ l, KSm x
  | [], _, x, hx => by cases hx
  | t :: l, h, x, hx => by
    rw [KSmL] at h
    rcases List.mem_cons.1 hx with rfl | hx
    · exact h.1
    · exact ksmL_mem h.2 x hx
theorem kid_small : ∀ {d : Nat} {t : NT}, KSm t → ∀ x ∈ preT d t, KSm x.2 := by
  intro d t
  induction t using NT.ind generalizing d with
  | h k n u s kv keys lv l ih =>
    intro h x hx
    rw [preT, preTL_eq] at hx
    rcases List.mem_cons.1 hx with rfl | hx
    · exact h
    · obtain ⟨y, hy, hx⟩ := List.mem_flatMap.1 hx
      rw [KSm] at h
      exact ih y hy (ksmL_mem h.2.2 y hy) x hx
/-- What a round that goes on keeps: all below B0; of what lies from B1 on, the cells. -/
structure Kp (B0 B1 : Nat) (W W' : World) : Prop where
  below : Below B0 W W'
  cells : ∀ (i : Nat) (o : Obj), B1 ≤ i → W.heap[i]? = some o → o.isCells = true → W'.heap[i]? = some o
section
variable {B0 B1 : Nat} {W W' W'' : World}
theorem Kp.refl (B0 B1 : Nat) (W : World) : Kp B0 B1 W W := ⟨Below.refl _ _, fun _ _ _ h _ => h⟩
theorem Kp.trans (h : Kp B0 B1 W W') (g : Kp B0 B1 W' W'') : Kp B0 B1 W W'' := ⟨h.below.trans g.below, fun i o hi ho hc => g.cells i o hi (h.cells i o hi ho hc) hc⟩
theorem Kp.of_below (h : Below W.heap.size W W') (h0 : B0 ≤ W.heap.size) : Kp B0 B1 W W' := ⟨h.mono h0, fun i o _ ho _ => (h.block i (Array.getElem?_eq_some_iff.1 ho).1).trans ho⟩
theorem Kp.alloc (o : Obj) (h0 : B0 ≤ W.heap.size) : Kp B0 B1 W (W.alloc o) := Kp.of_below ((Below.refl _ _).alloc (Nat.le_refl _) o) h0
theorem Kp.setCell (W : World) (b j : Nat) (v : Value) (h0 : B0 ≤ b) (h1 : b < B1) : Kp B0 B1 W (W.setCell ⟨b, j, none⟩ v) :=
  ⟨(Below.refl B0 W).setCell (p := ⟨b, j, none⟩) h0 v, fun i o hi ho _ => (Below.heap_setCell W ⟨b, j, none⟩ v i (by show i ≠ b; omega)).trans ho⟩
theorem Kp.block (h : Kp B0 B1 W W') {i : Nat} {cs : Array Value} {T : TypeId} {fr : Nat × Nat} (hi : B1 ≤ i) (hc : W.heap[i]? = some (.cells cs T fr)) : W'.heap[i]? = some (.cells cs T fr) := h.cells i _ hi hc rfl
theorem kp_t {A B C : World} (h : Kp B0 B1 A B) (k : Kp B0 B1 B C) : Kp B0 B1 A C := h.trans k
theorem kp_b {w : World} (h0 : B0 ≤ w.heap.size) (W : World) (l : Nat) (o o' : Obj) (hl : w.heap.size ≤ l) (h : W.heap[l]? = some o) (hc : o.isCells = false) (hw : o.isWalk = false) : Kp B0 B1 W (W.putObj l o') :=
  ⟨belowK_b h0 W l o o' hl h hc hw, fun i o2 _ ho hc2 => by
    have hne : i ≠ l := fun e => by subst e; rw [h] at ho; injection ho with ho; subst ho; rw [hc] at hc2; cases hc2
    exact (World.putObj_heap_other hne).trans ho⟩
end
/-- What a round is handed: the level, the node. -/
abbrev Lv (w : World) (N : Nat) := { x : Nat × NT // (Is w x.2 ∧ KSm x.2) ∧ x.1 ≤ N }
def encL {w : World} {N : Nat} (x : Lv w N) : Array Value := #[.int .i64 (x.1.1 : Int), x.1.2.val]
def valsL {w : World} {N : Nat} (ys : List (Lv w N)) : List (Nat × NT) := ys.map (·.1)
theorem valsL_append {w : World} {N : Nat} (a b : List (Lv w N)) : valsL (a ++ b) = valsL a ++ valsL b := List.map_append ..
set_option maxRecDepth 100000 in
set_option maxHeartbeats 4000000 in
theorem walk_in (F : Fence) (hd : F.depth = none) (h36 : F.fn 36) (hro : F.round = none) (l : Nat) (w : World) (B1 N M : Nat) (hN : N ≤ 1000000) (hB1 : w.heap.size ≤ B1) (J Jx : List (Lv w N) → World → Prop)
    (hY : ∀ m pre x W, J pre W → pre.length < M → YieldAt F m Try.prog l (encL x) W fun e W' =>
      (e = .returned (.bool true) ∧ J (pre ++ [x]) W' ∧ Kp w.heap.size B1 W W') ∨ (e = .returned (.bool false) ∧ Jx (pre ++ [x]) W'))
    (hJ : ∀ pre W o, J pre W → J pre (W.alloc o)) (t : NT) :
    ∀ (d n : Nat) (pre : List (Lv w N)) (W : World), (∀ x ∈ preT d t, (Is w x.2 ∧ KSm x.2) ∧ x.1 ≤ N) → Below w.heap.size w W → B1 ≤ W.heap.size → J pre W → pre.length + (preT d t).length ≤ M →
      CallsIn F n Try.prog 36 #[t.val, .int .i64 (d : Int), .func (.yield l) #[] #[]] W fun e W' =>
        (e = .returned (.bool true) ∧ ∃ ys, valsL ys = preT d t ∧ J (pre ++ ys) W' ∧ Kp w.heap.size B1 W W') ∨ (e = .returned (.bool false) ∧ ∃ ys, valsL ys <+: preT d t ∧ Jx (pre ++ ys) W') := by
  induction t using NT.ind with
  | h k nn u s kv keys lv kids ih =>
    intro d n pre W hp hb hBW hJ0 hlen
    have hdd : ∀ k : Nat, (F.depth.isSome = true → 1 ≤ k) := fun k h => by rw [hd] at h; cases h
    have hpre : preT d (.mk k nn u s kv keys lv kids) = (d, .mk k nn u s kv keys lv kids) :: kids.flatMap (preT (d + 1)) := by rw [preT, preTL_eq]
    have h0 := hp (d, .mk k nn u s kv keys lv kids) (by rw [hpre]; simp)
    have hkids : ∀ x ∈ kids, ∀ y ∈ preT (d + 1) x, (Is w y.2 ∧ KSm y.2) ∧ y.1 ≤ N := fun x hx y hy => hp y (by rw [hpre]; exact List.mem_cons_of_mem _ (List.mem_flatMap.2 ⟨x, hx, hy⟩))
    have hIs := h0.1.1
    rw [Is] at hIs
    obtain ⟨_, ⟨A, c, rfl, e2, e3⟩, ⟨B, dd, rfl, f2, f3⟩, hkl⟩ := hIs
    have hdN : d ≤ N := h0.2
    obtain ⟨x0, hx0⟩ : ∃ x0 : Lv w N, x0 = ⟨(d, .mk k nn u s (.slice A keys.length c) keys (.slice B kids.length dd) kids), h0⟩ := ⟨_, rfl⟩
    have hv0 : x0.1 = (d, .mk k nn u s (.slice A keys.length c) keys (.slice B kids.length dd) kids) := by rw [hx0]
    have hblk : (W.alloc (.cells #[.int .i64 k, .int .i64 nn, .int .u64 u, .string ⟨s.toArray⟩, .slice A keys.length c, .slice B kids.length dd] 26)).heap[W.heap.size]? = some (.cells #[.int .i64 k, .int .i64 nn, .int .u64 u, .string ⟨s.toArray⟩, .slice A keys.length c, .slice B kids.length dd] 26 (0, 0)) := heap_alloc_new W _
    have hJ1 : J pre (W.alloc (.cells #[.int .i64 k, .int .i64 nn, .int .u64 u, .string ⟨s.toArray⟩, .slice A keys.length c, .slice B kids.length dd] 26)) := hJ _ _ _ hJ0
    have hK1 : Kp w.heap.size B1 W (W.alloc (.cells #[.int .i64 k, .int .i64 nn, .int .u64 u, .string ⟨s.toArray⟩, .slice A keys.length c, .slice B kids.length dd] 26)) := Kp.alloc _ (by omega)
    have hlt : pre.length < M := by rw [hpre] at hlen; simp only [List.length_cons] at hlen; omega
    obtain ⟨fn, tmps, assign, body, hy, hR⟩ := hY (n - 1) pre x0 _ hJ1 hlt
    unfold encL at hy
    rw [hv0] at hy
    rw [val_mk] at hy ⊢
    have hR2 := round_mono hR (R' := fun e W2 => (e = .returned (.bool true) ∧ J (pre ++ [x0]) W2 ∧ Kp w.heap.size B1 W W2 ∧ W2.cell? ⟨W.heap.size, 5, none⟩ = some (.slice B kids.length dd)) ∨ (e = .returned (.bool false) ∧ Jx (pre ++ [x0]) W2)) (fun e W2 h => h.elim (fun ⟨q1, q2, q3⟩ => .inl ⟨q1, q2, hK1.trans q3, by rw [cell_of_row _ _ _ _ _ _ (q3.block hBW hblk)]; rfl⟩) .inr)
    have HP := Lib.hid hpre
    have HX := Lib.hid hv0
    have HLEN := Lib.hid hlen
    have HIH := Lib.hid (And.intro ih hkids)
    have HF3 := Lib.hid f3
    have HKL := Lib.hid hkl
    have HY := Lib.hid (And.intro hY hJ)
    have HB := Lib.hid hb
    have HL := Lib.hid hBW
    clear hpre hx0 hv0 h0 hp e3 hJ1 hJ0 hlt hR hK1 hblk hlen ih hkids f3 hkl hY hJ hb hBW
    refine callsIn_of_wp Try.func36 rfl h36 ?_ hro
    simp only [Try.ntmps36, List.size_toArray, List.length_cons, List.length_nil, Nat.reduceAdd, Nat.reduceSub, Array.replicate_succ, Array.replicate_zero, List.push_toArray, List.append_toArray, List.nil_append, List.cons_append]
    gi_wp2_with ((try refine ⟨hdd _, ?_⟩); refine hR2.mono ?_; clear hR2; rintro e W2 (⟨rfl, hJ2, hK2, hc5⟩ | ⟨rfl, hx2⟩))
    · -- THE NODE HAS COME
      have HK2 := Lib.hid hK2
      have HJ2 := Lib.hid hJ2
      clear hK2 hJ2 hy hc5
      have hdi : (d : Int) ≤ 1000000 := by omega
      obtain ⟨d1, hd1⟩ : ∃ d1, d + 1 = d1 := ⟨_, rfl⟩
      have ed1 : (d : Int) + 1 = (d1 : Int) := by omega
      have hl2 : (kids.length : Int) ≤ 140737488355328 := by omega
      have HD1 := Lib.hid hd1
      clear hd1
      gi_loopw [17] (fun i wr => ∃ (j : Nat) (ys : List (Lv w N)), j ≤ kids.length ∧ i = .int .i64 (j : Int) ∧ valsL ys = (kids.take j).flatMap (preT d1) ∧ J (pre ++ x0 :: ys) wr ∧ Kp w.heap.size B1 W wr) (fun i _ => kids.length - (intOf i).toNat)
      case atStart => exact ⟨0, [], by omega, rfl, by simp [valsL], HJ2.out, HK2.out⟩
      case round =>
        obtain ⟨j, ys, hj, rfl, hys, hJr, hKr⟩ := hrel
        have hbr : Below w.heap.size w wr := HB.out.trans hKr.below
        have HYS := Lib.hid hys
        have HJR := Lib.hid hJr
        have HKR := Lib.hid hKr
        by_cases hlt : j < kids.length
        · obtain ⟨b, o, hA, hbw⟩ := HF3.out.at (by omega)
          subst hA
          obtain ⟨t, ht⟩ : ∃ t, kids[j]? = some t := ⟨_, List.getElem?_eq_getElem hlt⟩
          have hg : kids[j]'hlt = t := by rw [List.getElem?_eq_getElem hlt] at ht; injection ht
          have hmem : t ∈ kids := hg ▸ List.getElem_mem hlt
          have htk : (kids.take (j + 1)).flatMap (preT d1) = (kids.take j).flatMap (preT d1) ++ preT d1 t := by
            rw [List.take_succ_eq_append_getElem hlt, hg, List.flatMap_append]; simp
          have hsplit : kids.flatMap (preT d1) = (kids.take j).flatMap (preT d1) ++ (preT d1 t ++ (kids.drop (j + 1)).flatMap (preT d1)) := by
            have := (List.take_append_drop (j + 1) kids).symm
            rw [← List.append_assoc, ← htk, ← List.flatMap_append, List.take_append_drop]
          have hIt := isL_mem HKL.out _ hmem
          obtain ⟨k', n', u', s', kv', ks', lv', l'⟩ := t
          rw [Is] at hIt
          obtain ⟨_, ⟨A', c', rfl, _⟩, ⟨B', d', rfl, _⟩, _⟩ := hIt
          obtain ⟨c0, c1, c2, c3, c4, c5⟩ := node_at6 (HF3.out.below hbr) ht
          have hbox := Kp.alloc (B0 := w.heap.size) (B1 := B1) (W := wr) (.cells #[.int .i64 k', .int .i64 n', .int .u64 u', .string ⟨s'.toArray⟩, .slice A' ks'.length c', .slice B' l'.length d'] 26) hbr.size
          have hK3 := hKr.trans hbox
          have hcall := HIH.out.1 _ hmem d1 (n - 1) (pre ++ x0 :: ys) _ (by have := HIH.out.2 _ hmem; rw [HD1.out] at this; exact this) (HB.out.trans hK3.below) (Nat.le_trans HL.out hK3.below.size) (HY.out.2 _ _ (.cells #[.int .i64 k', .int .i64 n', .int .u64 u', .string ⟨s'.toArray⟩, .slice A' ks'.length c', .slice B' l'.length d'] 26) hJr) (by
            have h1 := HLEN.out
            rw [HP.out, HD1.out, hsplit] at h1
            have h2 := congrArg List.length hys
            unfold valsL at h2
            simp only [List.length_cons, List.length_append, List.length_map] at h1 h2 ⊢
            omega)
          rw [val_mk] at hcall
          have HK3 := Lib.hid hK3
          have HTK := Lib.hid htk
          have HSP := Lib.hid hsplit
          clear hbox hK3 htk hsplit hmem hg ht hys hJr hKr
          gi_wp2_with ((try refine ⟨hdd _, ?_⟩); gi_at_call 36; refine hcall.mono ?_; clear hcall; rintro e W3 (⟨rfl, ys3, hv3, hJ3, hK4⟩ | ⟨rfl, ys3, hv3, hx3⟩))
          · go_roundw
            case rel => exact ⟨j + 1, ys ++ ys3, by omega, by simp, by rw [valsL_append, HYS.out, hv3, HTK.out], by simpa using hJ3, HK3.out.trans hK4⟩
            case measure => simp [intOf]; omega
          · go_ret
            refine .inr ⟨rfl, x0 :: (ys ++ ys3), ?_, by simpa using hx3⟩
            rw [HP.out, show valsL (x0 :: (ys ++ ys3)) = x0.1 :: valsL (ys ++ ys3) from rfl, HX.out, valsL_append, HYS.out, HD1.out, HSP.out]
            obtain ⟨r, hr⟩ := hv3
            exact ⟨r ++ (kids.drop (j + 1)).flatMap (preT d1), by rw [← hr]; simp [List.append_assoc]⟩
        · obtain rfl : j = kids.length := by omega
          gi_wp2
          go_ret
          refine .inl ⟨rfl, x0 :: ys, ?_, HJR.out, HKR.out⟩
          rw [HP.out, show valsL (x0 :: ys) = x0.1 :: valsL ys from rfl, HX.out, HYS.out, List.take_length, HD1.out]
    · -- THE ROUND HAS SAID 'NO MORE'
      go_ret
      refine .inr ⟨rfl, [x0], ?_, hx2⟩
      rw [HP.out, show valsL [x0] = [x0.1] from rfl, HX.out]
      exact ⟨_, rfl⟩
mutual
theorem preT_lt : ∀ (d : Nat) (t : NT), ∀ x ∈ preT d t, x.1 < d + (preT d t).length
  | d, .mk k n u s kv keys lv l, x, hx => by
    rw [preT] at hx ⊢
    rcases List.mem_cons.1 hx with rfl | hx
    · simp
    · have := preTL_lt (d + 1) l x hx
      simp only [List.length_cons]
      omega
theorem preTL_lt : ∀ (d : Nat) (l : List NT), ∀ x ∈ preTL d l, x.1 < d + (preTL d l).length
  | d, [], x, hx => by rw [preTL] at hx; cases hx
  | d, t :: l, x, hx => by
    rw [preTL] at hx ⊢
    rw [List.length_append]
    rcases List.mem_append.1 hx with hx | hx
    · have := preT_lt d t x hx; omega
    · have := preTL_lt d l x hx; omega
end
set_option maxRecDepth 100000 in
set_option maxHeartbeats 2000000 in
theorem walked1_in (F : Fence) (hd : F.depth = none) (n : Nat) (h35 : F.fn 35) (h36 : F.fn 36) (hro : F.round = none) (l : Nat) (w : World) (B1 N Bt : Nat) (hN : N ≤ 1000000) (hB1 : w.heap.size ≤ B1) (J Jx : List (Lv w N) → World → Prop) (t : NT)
    (hY : ∀ pre x W, J pre W → pre.length < (preT 0 t).length → YieldAt F (n - 1) Try.prog l (encL x) W fun e W' =>
      (e = .returned (.bool true) ∧ J (pre ++ [x]) W' ∧ Kp w.heap.size B1 W W') ∨ (e = .returned (.bool false) ∧ Jx (pre ++ [x]) W'))
    (hJ : ∀ pre W o, J pre W → J pre (W.alloc o)) (hp : ∀ x ∈ preT 0 t, (Is w x.2 ∧ KSm x.2) ∧ x.1 ≤ N) (W : World) (hb : Below w.heap.size w W) (hBW : B1 ≤ W.heap.size)
    (hbox : W.heap[Bt]? = some (.cells t.cells.toArray 26 (0, 0))) (h0 : J [] W) :
    CallsIn F n Try.prog 35 #[.func (.yield l) #[] #[], .pointer (some ⟨Bt, 0, none⟩)] W fun e W' => (∃ v, e = .returned v) ∧
      ((∃ ys, valsL ys = preT 0 t ∧ J ys W') ∨ (∃ pre, valsL pre <+: preT 0 t ∧ Jx pre W')) := by
  have hdd : ∀ k : Nat, (F.depth.isSome = true → 1 ≤ k) := fun k h => by rw [hd] at h; cases h
  have hw := walk_in F hd h36 hro l w B1 N (preT 0 t).length hN hB1 J Jx (fun m pre x W hj hl => yield_anyDepth hd m (hY pre x W hj hl)) hJ t 0 (n - 1) [] W hp hb hBW h0 (by simp)
  obtain ⟨k, nn, u, s, kv, keys, lv, kids⟩ := t
  rw [val_mk] at hw
  have c0 : W.cell? ⟨Bt, 0, none⟩ = some (.int .i64 k) := by rw [cell_of_row _ _ _ _ _ _ hbox]; rfl
  have c1 : W.cell? ⟨Bt, 1, none⟩ = some (.int .i64 nn) := by rw [cell_of_row _ _ _ _ _ _ hbox]; rfl
  have c2 : W.cell? ⟨Bt, 2, none⟩ = some (.int .u64 u) := by rw [cell_of_row _ _ _ _ _ _ hbox]; rfl
  have c3 : W.cell? ⟨Bt, 3, none⟩ = some (.string ⟨s.toArray⟩) := by rw [cell_of_row _ _ _ _ _ _ hbox]; rfl
  have c4 : W.cell? ⟨Bt, 4, none⟩ = some kv := by rw [cell_of_row _ _ _ _ _ _ hbox]; rfl
  have c5 : W.cell? ⟨Bt, 5, none⟩ = some lv := by rw [cell_of_row _ _ _ _ _ _ hbox]; rfl
  clear hbox hY hJ
  refine callsIn_of_wp Try.func35 rfl h35 ?_ hro
  simp only [Try.ntmps35, List.size_toArray, List.length_cons, List.length_nil, Nat.reduceAdd, Nat.reduceSub, Array.replicate_succ, Array.replicate_zero, List.push_toArray, List.append_toArray, List.nil_append, List.cons_append]
  gi_wp2_with ((try refine ⟨hdd _, ?_⟩); gi_at_call 36; refine hw.mono ?_; clear hw; rintro e W1 (⟨rfl, ys, hv, hJ1, _⟩ | ⟨rfl, ys, hv, hx⟩))
  · go_end0
    exact ⟨⟨_, rfl⟩, .inl ⟨ys, hv, hJ1⟩⟩
  · go_end0
    exact ⟨⟨_, rfl⟩, .inr ⟨ys, hv, hx⟩⟩
set_option maxHeartbeats 1000000 in
theorem walked_in (F : Fence) (n : Nat) (h24 : F.fn 24) (hro : F.round = none) (k nn u : Int) (s : List UInt8) (kv lv : Value) (w : World) :
    CallsIn F n Try.prog 24 #[.agg #[.int .i64 k, .int .i64 nn, .int .u64 u, .string ⟨s.toArray⟩, kv, lv]] w fun e w' => e = .returned (.func (.func 35) #[] #[.pointer (some ⟨w.heap.size, 0, none⟩)]) ∧ w' = w.alloc (.cells #[.int .i64 k, .int .i64 nn, .int .u64 u, .string ⟨s.toArray⟩, kv, lv] 26) := by
  refine callsIn_of_wp Try.func24 rfl h24 ?_ hro
  simp only [Try.ntmps24, List.size_toArray, List.length_cons, List.length_nil, Nat.reduceAdd, Nat.reduceSub, Array.replicate_succ, Array.replicate_zero, List.push_toArray, List.append_toArray, List.nil_append, List.cons_append]
  gi_wp2
  go_ret
  exact ⟨rfl, rfl⟩
/-- The iterator's contract. -/
theorem walked_stops (F : Fence) (hd : F.depth = none) (n : Nat) (h35 : F.fn 35) (h36 : F.fn 36) (hro : F.round = none) (w : World) (B1 Bt : Nat) (t : NT) (wl : World) (ht : Is w t) (hk : KSm t) (hlen : (preT 0 t).length ≤ 1000000) (hB1 : w.heap.size ≤ B1) (hBt : Bt < wl.heap.size) (hb : Below w.heap.size w wl) (hBW : B1 ≤ wl.heap.size)
    (hbox : wl.heap[Bt]? = some (.cells t.cells.toArray 26 (0, 0))) :
    SeqStopsK F n Try.prog 35 #[.pointer (some ⟨Bt, 0, none⟩)] (encL (w := w) (N := 1000000)) (Kp w.heap.size B1) (fun ys => valsL ys = preT 0 t) (fun pre => valsL pre <+: preT 0 t) (preT 0 t).length wl := fun l J Jx W hW hJ hJx hY h0 =>
  walked1_in F hd n h35 h36 hro l w B1 1000000 Bt (Nat.le_refl _) hB1 J Jx t hY (fun pre W o h => hJ _ _ _ none h (World.grownBy_alloc W o none) (fun r e => by cases e)) (fun x hx => ⟨⟨ht.pre x hx, kid_small hk x hx⟩, by have := preT_lt 0 t x hx; omega⟩) W (hb.trans (hW.mono hb.size)) (Nat.le_trans hBW hW.size) ((hW.block Bt hBt).trans hbox) h0
end Go.Proofs.Yteoggaioleckhaa
