import Derived.Test.YtdomplhhjkikmaaRef
import Derived.Test.YtdomplhhjkikmaaRefLess
import Derived.Test.YtdomplhhjkikmaaOrder
namespace Go.Proofs.Ytdomplhhjkikmaa
open Go.RowKit
def nats (l : List Nat) : List Value := l.map fun (x : Nat) => Value.int .i64 (x : Int)
theorem nats_one (l : List Nat) : ∀ u ∈ nats l, u.oneCell' = true := by
  intro u hu; simp [nats] at hu; obtain ⟨_, _, rfl⟩ := hu; rfl
theorem nats_app (a b : List Nat) : nats (a ++ b) = nats a ++ nats b := by simp [nats]
/-- The strings at these places. -/
def at_ (l : List K) (O : List Nat) : List K := O.map fun o => l.getD o []
/-- What the reference has put in order: the first i strings. -/
structure Ord (l : List K) (i : Nat) (O : List Nat) : Prop where
  len : O.length = i
  lt_ : ∀ o ∈ O, o < i
  key : at_ l O = srtK (l.take i)
theorem tw_len {s : List K} {k : K} {t : Nat} (ht : t ≤ s.length) (h : ∀ j x, s[j]? = some x → (j < t → lt x k = true) ∧ (j = t → lt x k = false)) : (s.takeWhile fun x => lt x k).length = t := by
  induction s generalizing t with
  | nil => simp at ht; subst ht; rfl
  | cons x s ih =>
    rw [List.takeWhile_cons]
    cases t with
    | zero => rw [(h 0 x rfl).2 rfl]; rfl
    | succ t =>
      rw [(h 0 x rfl).1 (by omega), if_pos rfl, List.length_cons]
      rw [ih (by simpa using ht) (fun j y hj => ⟨fun hh => (h (j + 1) y (by simpa using hj)).1 (by omega), fun hh => (h (j + 1) y (by simpa using hj)).2 (by omega)⟩)]
theorem at_get {l : List K} {O : List Nat} {j o : Nat} (h : O[j]? = some o) : (at_ l O)[j]? = some (l.getD o []) := by simp [at_, h]
theorem Ord.step {l : List K} {i t : Nat} {O : List Nat} {x : K} (h : Ord l i O) (hi : l[i]? = some x) (ht : t ≤ i) (h1 : ∀ j o, O[j]? = some o → j < t → lt (l.getD o []) x = true) (h2 : ∀ o, O[t]? = some o → lt (l.getD o []) x = false) : Ord l (i + 1) (O.take t ++ i :: O.drop t) := by
  have hlen := h.len
  refine ⟨by simp; omega, fun o ho => ?_, ?_⟩
  · rcases List.mem_append.1 ho with ho | ho
    · have := h.lt_ o (List.mem_of_mem_take ho); omega
    · rcases List.mem_cons.1 ho with rfl | ho
      · omega
      · have := h.lt_ o (List.mem_of_mem_drop ho); omega
  · have hx : l.getD i [] = x := by simp [List.getD_eq_getElem?_getD, hi]
    have htw : ((at_ l O).takeWhile fun y => lt y x).length = t := by
      refine tw_len (by simp [at_]; omega) (fun j y hj => ?_)
      simp only [at_, List.getElem?_map, Option.map_eq_some_iff] at hj
      obtain ⟨o, ho, rfl⟩ := hj
      exact ⟨fun hh => h1 j o ho hh, fun hh => by subst hh; exact h2 o ho⟩
    rw [List.take_add_one, hi, Option.toList_some, srtK_snoc, ← h.key, insK, htw]
    simp [at_, List.map_take, List.map_drop, hi]
theorem nats_ins (O : List Nat) (t k : Nat) : nats (O.take t ++ k :: O.drop t) = nats (O.take t) ++ [.int .i64 (k : Int)] ++ nats (O.drop t) := by simp [nats]
theorem rdD (w : World) (v : Value) (e : TypeId) : Rd (w.alloc (.cells #[v] e)).drew 1 (some ⟨w.heap.size, 0, none⟩) 1 [v] := rd1 w v e
theorem below_ad (w : World) (o : Obj) : Below w.heap.size w (w.alloc o).drew :=
  have h := (Below.refl _ w).alloc (Nat.le_refl _) o
  ⟨h.os, h.tape, h.output, h.size, h.block⟩
/-- Distinct strings: what lies before i is none of them. -/
theorem nodup_ne {l : List K} {i o : Nat} {x : K} (hd : l.Nodup) (hi : l[i]? = some x) (ho : o < i) : l.getD o [] ≠ x := by
  obtain ⟨h1, h2⟩ := List.getElem?_eq_some_iff.1 hi
  intro e
  rw [List.getD_eq_getElem?_getD, List.getElem?_eq_getElem (by omega), Option.getD_some] at e
  have := (List.pairwise_iff_getElem.1 hd) o i (by omega) h1 ho
  exact this (by rw [e, h2])
theorem below_g {B : Nat} {w0 W w1 : World} {e : TypeId} {sz n : Nat} {v : Value} {xs : List Value} (hb : Below B w0 W) (hB : B ≤ w0.heap.size) (hown : W.ownsRow B e sz v n xs) (hg : W.grownBy w1 v.ownBlock) : Below B w0 w1 := hb.trans (grown_below hown hg (Nat.le_trans hB hb.size))
set_option maxRecDepth 100000 in
set_option maxHeartbeats 16000000 in
theorem order_any (A : Option Addr) (n c : Nat) (l : List K) (w : World) (h : Rd w 1 A n (strs l)) (hn : n ≤ 1000) (hd : l.Nodup) (hs : ∀ x ∈ l, x.length ≤ 1000) :
    Calls Try.prog 29 #[.slice A n c] w fun e w' => (∃ v, e = .returned (.tuple #[v, .int .i64 0]) ∧ ∃ O, Ord l n O ∧ w'.ownsRow w.heap.size 3 1 v n (nats O)) ∧ Below w.heap.size w w' := by
  obtain ⟨iI, hiI, hzI, hsI, hbI⟩ := info_parts infoI
  have hl : l.length = n := by have := h.1; simpa [strs] using this
  have HL := Lib.hid hl
  have HD := Lib.hid hd
  have HS := Lib.hid hs
  clear hl hd hs
  go_enter Try.func29, Try.ntmps29
  go_wp2
  go_loopw [4, 5] (fun v i wr => ∃ (k : Nat) (O : List Nat), k ≤ n ∧ i = .int .i64 k ∧ Hid (Ord l k O) ∧ wr.ownsRow w.heap.size 3 1 v k (nats O) ∧ Below w.heap.size w wr) (fun _ i _ => n - (intOf i).toNat)
  case atStart => exact ⟨0, [], by omega, rfl, ⟨rfl, (fun o ho => by cases ho), rfl⟩, World.ownsRow_nil _ _ _ _, Below.refl _ _⟩
  case round =>
    obtain ⟨k, O, hk, rfl, hO, hown, hb⟩ := hrel
    obtain ⟨B, d, rfl, hkd, hd2⟩ := own_shape hown
    unfold maxLen at hd2
    by_cases hlt : k < n
    · obtain ⟨x, hx⟩ : ∃ x, l[k]? = some x := ⟨_, List.getElem?_eq_getElem (by have := HL.out; omega)⟩
      obtain ⟨wo, rfl⟩ : ∃ wo : World, wo = wr := ⟨_, rfl⟩
      have HX := Lib.hid hx
      have HR := Lib.hid (h.below hb)
      have HW := Lib.hid (Rd.of_own hown)
      have hxl := HS.out x (List.mem_of_getElem? hx)
      have HOW := Lib.hid hown
      have HB := Lib.hid hb
      clear hx hown hb
      go_wp2
      go_loopw [6] (fun a wr => ∃ t : Nat, t ≤ k ∧ a = .int .i64 t ∧ Hid (∀ j o, O[j]? = some o → j < t → lt (l.getD o []) x = true) ∧ Hid (∃ q, wr = wo.drewN q)) (fun a _ => k - (intOf a).toNat)
      case atStart => exact ⟨0, by omega, rfl, fun j o _ hj => by omega, ⟨0, rfl⟩⟩
      case round =>
        obtain ⟨t, ht, rfl, hlow, hw⟩ := hrel
        have hbw := below_of_drew hw.out
        obtain ⟨b, o1, rfl, _, hcell⟩ := (HR.out.below hbw).2 (by omega)
        have g0 := hcell k (str x) (by simp [strs, HX.out])
        unfold str at g0
        by_cases htk : t < k
        · obtain ⟨o, ho⟩ : ∃ o, O[t]? = some o := ⟨_, List.getElem?_eq_getElem (by have := hO.out.len; omega)⟩
          have hok := hO.out.lt_ o (List.mem_of_getElem? ho)
          obtain ⟨b2, o2, rfl, _, hcell2⟩ := (HW.out.below hbw).2 (by omega)
          have g1 := hcell2 t (.int .i64 (o : Int)) (by simp [nats, ho])
          obtain ⟨y, hy⟩ : ∃ y, l[o]? = some y := ⟨_, List.getElem?_eq_getElem (by have := HL.out; omega)⟩
          have hyd : l.getD o [] = y := by simp [List.getD_eq_getElem?_getD, hy]
          have g2 := hcell o (str y) (by simp [strs, hy])
          unfold str at g2
          have hyl := HS.out y (List.mem_of_getElem? hy)
          have hne := nodup_ne HD.out HX.out hok
          rw [hyd] at hne
          have hless := fun w0 : World => refLess_any y x w0 (by omega) (by omega)
          have htd : decide (t < k) = true := by simpa using htk
          have on : (o : Int) < (n : Int) := by omega
          have HO := Lib.hid (And.intro ho hyd)
          clear hcell hcell2 ho hyd hy
          cases hyx : lt y x with
          | true =>
            rw [hyx] at hless
            have HY := Lib.hid hyx
            have HLS := Lib.hid hless
            clear hyx hless hne
            go_wp2
            go_quiet ((go_at_call 30; exact Calls.quiet_of (HLS.out _)))
            go_wp2
            go_roundw
            case rel => exact ⟨t + 1, by omega, by go_num, fun j o' hj hjt => by
              rcases Nat.lt_or_ge j t with hh | hh
              · exact hlow.out j o' hj hh
              · obtain rfl : j = t := by omega
                have := hj.symm.trans HO.out.1
                injection this with this
                subst this
                rw [HO.out.2]; exact HY.out, drew_more hw.out nq⟩
            case measure => simp [intOf]; omega
          | false =>
            rw [hyx] at hless
            have hyx0 : (y == x) = false := by simpa using hne
            have hst := hO.out.step HX.out ht (fun j o' hj hjt => hlow.out j o' hj hjt) (fun o' ho' => by
              have := ho'.symm.trans HO.out.1
              injection this with this
              subst this
              rw [HO.out.2]; exact hyx)
            have HLS := Lib.hid hless
            have HST := Lib.hid hst
            clear hyx hless hne hst
            go_wp2
            go_quiet ((go_at_call 30; exact Calls.quiet_of (HLS.out _)))
            obtain ⟨wa, hwa⟩ : ∃ wa, wa = wr.drewN nq := ⟨_, rfl⟩
            rw [← hwa]
            have g0a : wa.cell? ⟨b, o1 + k, none⟩ = some (.string ⟨x.toArray⟩) := by rw [hwa]; exact g0
            have g1a : wa.cell? ⟨b2, o2 + t, none⟩ = some (.int .i64 (o : Int)) := by rw [hwa]; exact g1
            have g2a : wa.cell? ⟨b, o1 + o, none⟩ = some (.string ⟨y.toArray⟩) := by rw [hwa]; exact g2
            go_wp2
            go_quiet (fail)
            obtain ⟨wz, hwz⟩ : ∃ wz, wz = wa.drewN nq := ⟨_, rfl⟩
            rw [← hwz]
            have HZ := Lib.hid (show ∃ q, wz = wo.drewN q by rw [hwz, hwa]; exact drew_more (drew_more hw.out _) _)
            clear hwz hwa
            have HBZ := Lib.hid (below_of_drew HZ.out)
            have hOz := HW.out.below HBZ.out
            have rT0 := hOz.take1 ht
            have rT : Rd wz 1 (some (⟨b2, o2, none⟩ : Addr)) t (nats (O.take t)) := by simpa [nats, List.map_take] using rT0
            have rD0 := hOz.drop1 ht hkd
            rw [Option.map_some, spot_add] at rD0
            obtain ⟨Z, hZ⟩ : ∃ Z, (if d = t then some (⟨b2, o2, none⟩ : Addr) else some ⟨b2, o2 + t, none⟩) = Z := ⟨_, rfl⟩
            rw [hZ] at rD0
            have rD : Rd wz 1 Z (k - t) (nats (O.drop t)) := by simpa [nats, List.map_drop] using rD0
            have t0 : (0 : Int) ≤ (t : Int) := by omega
            have t1 : (t : Int) ≤ (k : Int) := by omega
            have t2 : (t : Int) ≤ (d : Int) := by omega
            have t3 : (k : Int) ≤ (d : Int) := by omega
            have HTD := Lib.hid (show Rd wz.drew 1 _ t (nats (O.take t)) from rT)
            have HDD := Lib.hid (show Below wz.heap.size wz wz.drew from below_drew_ wz)
            have HTA := Lib.hid (fun o => show Rd (wz.alloc o).drew 1 _ t (nats (O.take t)) from rT.alloc o)
            have HDA := Lib.hid (fun o => below_ad wz o)
            have HNIL := Lib.hid (fun (W : World) => World.ownsRow_nil W wz.heap.size 3 1)
            have HSUM := Lib.hid (show t + 1 + (k - t) = k + 1 by omega)
            clear rT0 rD0 hOz
            go_upto_region 11 with fail
            go_region_law (first
              | (refine step_append_rd rfl _ _ _ 52 rfl wz.heap.size 3 iI (.int .i64 0) 1 8 Try.underlying52 hiI hzI hsI hbI rfl (by decide) (.slice none 0 0) 0 [] (by kernel_rfl) (HNIL.out _) (some (⟨b2, o2, none⟩ : Addr)) t d (nats (O.take t)) (by kernel_rfl) (by first | with_reducible exact HTD.out | with_reducible exact HTA.out _) (nats_one _) (by unfold maxLen; omega) (by omega) (by simp) ?_; intro v1 w1 ho1 hg1; simp only [Nat.zero_add, List.nil_append] at ho1; have HB1 := Lib.hid (below_g (w0 := wz) (by first | with_reducible exact HDD.out | with_reducible exact HDA.out _) (Nat.le_refl _) (HNIL.out _) hg1); have HG1 := Lib.hid hg1; clear hg1; have HO1 := Lib.hid ho1; obtain ⟨A1, c1, rfl, _, _⟩ := own_shape ho1; clear ho1)
              | (refine step_append_rd rfl _ _ _ 52 rfl wz.heap.size 3 iI (.int .i64 0) 1 8 Try.underlying52 hiI hzI hsI hbI rfl (by decide) (.slice A1 t c1) t _ (by kernel_rfl) HO1.out (some ⟨wz.heap.size, 0, none⟩) 1 1 [.int .i64 (k : Int)] (by kernel_rfl) (rd_grown (rdD wz _ _) HG1.out (by simp [Value.ownBlock])) (by intro u hu; simp at hu; subst hu; rfl) (by unfold maxLen; omega) (by omega) HB1.out.size ?_; intro v2 w2 ho2 hg2; have HB2 := Lib.hid (HB1.out.trans (grown_below HO1.out hg2 HB1.out.size)); clear hg2; have HO2 := Lib.hid ho2; obtain ⟨A2, c2, rfl, _, _⟩ := own_shape ho2; clear ho2)
              | (refine step_append_rd rfl _ _ _ 52 rfl wz.heap.size 3 iI (.int .i64 0) 1 8 Try.underlying52 hiI hzI hsI hbI rfl (by decide) (.slice A1 t c1) t _ (by kernel_rfl) (HO1.out.alloc _) (some ⟨w1.heap.size, 0, none⟩) 1 1 [.int .i64 (k : Int)] (by kernel_rfl) (rd1 w1 _ _) (by intro u hu; simp at hu; subst hu; rfl) (by unfold maxLen; omega) (by omega) (by have := HB1.out.size; simp; omega) ?_; intro v2 w2 ho2 hg2; have HB2 := Lib.hid (HB1.out.trans (((Below.refl _ _).alloc HB1.out.size _).trans (grown_below (HO1.out.alloc _) hg2 (by have := HB1.out.size; simp; omega)))); clear hg2; have HO2 := Lib.hid ho2; obtain ⟨A2, c2, rfl, _, _⟩ := own_shape ho2; clear ho2)
              | (refine step_append_rd rfl _ _ _ 52 rfl wz.heap.size 3 iI (.int .i64 0) 1 8 Try.underlying52 hiI hzI hsI hbI rfl (by decide) (.slice A2 (t + 1) c2) (t + 1) _ (by kernel_rfl) HO2.out Z (k - t) (d - t) (nats (O.drop t)) (by kernel_rfl) (rD.below HB2.out) (nats_one _) (by unfold maxLen; omega) (by omega) HB2.out.size ?_; intro v3 w3 ho3 hg3; have HB3 := Lib.hid (HB2.out.trans (grown_below HO2.out hg3 HB2.out.size)); clear hg3; rw [HSUM.out] at ho3; have HO3 := Lib.hid ho3; obtain ⟨A3, c3, rfl, _, _⟩ := own_shape ho3; clear ho3))
            all_goals
              have HO4 := Lib.hid (own_base HO3.out (Nat.le_trans HB.out.size HBZ.out.size))
              have HB4 := Lib.hid (HB.out.trans ((HBZ.out.trans (HB3.out.mono HBZ.out.size)).mono HB.out.size))
              go_wp2
              go_roundw
              case rel => exact ⟨k + 1, O.take t ++ k :: O.drop t, by omega, by go_num, HST.out, by have := HO4.out; rw [nats_ins]; exact this, HB4.out⟩
              case measure => simp [intOf]; omega
        · obtain rfl : t = k := by omega
          have htd : decide (t < t) = false := by simp
          have hst := hO.out.step HX.out ht (fun j o' hj hjt => hlow.out j o' hj hjt) (fun o' ho' => by
            have := (List.getElem?_eq_some_iff.1 ho').1
            have := hO.out.len
            omega)
          have HST := Lib.hid hst
          clear hst
          go_wp2
          go_quiet (fail)
          obtain ⟨wa, hwa⟩ : ∃ wa, wa = wr.drewN nq := ⟨_, rfl⟩
          rw [← hwa]
          go_wp2
          go_quiet (fail)
          obtain ⟨wz, hwz⟩ : ∃ wz, wz = wa.drewN nq := ⟨_, rfl⟩
          rw [← hwz]
          have HZ := Lib.hid (show ∃ q, wz = wo.drewN q by rw [hwz, hwa]; exact drew_more (drew_more hw.out _) _)
          clear hwz hwa
          have HBZ := Lib.hid (below_of_drew HZ.out)
          have hOz := HW.out.below HBZ.out
          have rT0 := hOz.take1 (Nat.le_refl t)
          have rT : Rd wz 1 B t (nats (O.take t)) := by simpa [nats, List.map_take] using rT0
          have rD0 := hOz.drop1 (Nat.le_refl t) hkd
          obtain ⟨Z, hZ⟩ : ∃ Z, (if d = t then B else Option.map (fun x => x.add t) B) = Z := ⟨_, rfl⟩
          rw [hZ] at rD0
          have rD : Rd wz 1 Z (t - t) (nats (O.drop t)) := by simpa [nats, List.map_drop] using rD0
          have t0 : (0 : Int) ≤ (t : Int) := by omega
          have t1 : (t : Int) ≤ (t : Int) := by omega
          have t2 : (t : Int) ≤ (d : Int) := by omega
          have t3 : (t : Int) ≤ (d : Int) := by omega
          have HTD := Lib.hid (show Rd wz.drew 1 _ t (nats (O.take t)) from rT)
          have HDD := Lib.hid (show Below wz.heap.size wz wz.drew from below_drew_ wz)
          have HTA := Lib.hid (fun o => show Rd (wz.alloc o).drew 1 _ t (nats (O.take t)) from rT.alloc o)
          have HDA := Lib.hid (fun o => below_ad wz o)
          have HNIL := Lib.hid (fun (W : World) => World.ownsRow_nil W wz.heap.size 3 1)
          have HSUM := Lib.hid (show t + 1 + 0 = t + 1 by omega)
          rw [Nat.sub_self] at rD
          clear rT0 rD0 hOz
          go_upto_region 11 with fail
          go_region_law (first
            | (refine step_append_rd rfl _ _ _ 52 rfl wz.heap.size 3 iI (.int .i64 0) 1 8 Try.underlying52 hiI hzI hsI hbI rfl (by decide) (.slice none 0 0) 0 [] (by kernel_rfl) (HNIL.out _) B t d (nats (O.take t)) (by kernel_rfl) (by first | with_reducible exact HTD.out | with_reducible exact HTA.out _) (nats_one _) (by unfold maxLen; omega) (by omega) (by simp) ?_; intro v1 w1 ho1 hg1; simp only [Nat.zero_add, List.nil_append] at ho1; have HB1 := Lib.hid (below_g (w0 := wz) (by first | with_reducible exact HDD.out | with_reducible exact HDA.out _) (Nat.le_refl _) (HNIL.out _) hg1); have HG1 := Lib.hid hg1; clear hg1; have HO1 := Lib.hid ho1; obtain ⟨A1, c1, rfl, _, _⟩ := own_shape ho1; clear ho1)
            | (refine step_append_rd rfl _ _ _ 52 rfl wz.heap.size 3 iI (.int .i64 0) 1 8 Try.underlying52 hiI hzI hsI hbI rfl (by decide) (.slice A1 t c1) t _ (by kernel_rfl) HO1.out (some ⟨wz.heap.size, 0, none⟩) 1 1 [.int .i64 (t : Int)] (by kernel_rfl) (rd_grown (rdD wz _ _) HG1.out (by simp [Value.ownBlock])) (by intro u hu; simp at hu; subst hu; rfl) (by unfold maxLen; omega) (by omega) HB1.out.size ?_; intro v2 w2 ho2 hg2; have HB2 := Lib.hid (HB1.out.trans (grown_below HO1.out hg2 HB1.out.size)); clear hg2; have HO2 := Lib.hid ho2; obtain ⟨A2, c2, rfl, _, _⟩ := own_shape ho2; clear ho2)
            | (refine step_append_rd rfl _ _ _ 52 rfl wz.heap.size 3 iI (.int .i64 0) 1 8 Try.underlying52 hiI hzI hsI hbI rfl (by decide) (.slice A1 t c1) t _ (by kernel_rfl) (HO1.out.alloc _) (some ⟨w1.heap.size, 0, none⟩) 1 1 [.int .i64 (t : Int)] (by kernel_rfl) (rd1 w1 _ _) (by intro u hu; simp at hu; subst hu; rfl) (by unfold maxLen; omega) (by omega) (by have := HB1.out.size; simp; omega) ?_; intro v2 w2 ho2 hg2; have HB2 := Lib.hid (HB1.out.trans (((Below.refl _ _).alloc HB1.out.size _).trans (grown_below (HO1.out.alloc _) hg2 (by have := HB1.out.size; simp; omega)))); clear hg2; have HO2 := Lib.hid ho2; obtain ⟨A2, c2, rfl, _, _⟩ := own_shape ho2; clear ho2)
            | (refine step_append_rd rfl _ _ _ 52 rfl wz.heap.size 3 iI (.int .i64 0) 1 8 Try.underlying52 hiI hzI hsI hbI rfl (by decide) (.slice A2 (t + 1) c2) (t + 1) _ (by kernel_rfl) HO2.out Z 0 (d - t) (nats (O.drop t)) (by kernel_rfl) (rD.below HB2.out) (nats_one _) (by unfold maxLen; omega) (by omega) HB2.out.size ?_; intro v3 w3 ho3 hg3; have HB3 := Lib.hid (HB2.out.trans (grown_below HO2.out hg3 HB2.out.size)); clear hg3; rw [HSUM.out] at ho3; have HO3 := Lib.hid ho3; obtain ⟨A3, c3, rfl, _, _⟩ := own_shape ho3; clear ho3))
          all_goals
            have HO4 := Lib.hid (own_base HO3.out (Nat.le_trans HB.out.size HBZ.out.size))
            have HB4 := Lib.hid (HB.out.trans ((HBZ.out.trans (HB3.out.mono HBZ.out.size)).mono HB.out.size))
            go_wp2
            go_roundw
            case rel => exact ⟨t + 1, O.take t ++ t :: O.drop t, by omega, by go_num, HST.out, by have := HO4.out; rw [nats_ins]; exact this, HB4.out⟩
            case measure => simp [intOf]; omega
    · obtain rfl : k = n := by omega
      go_wp2
      go_ret2
      exact ⟨⟨_, rfl, O, hO.out, hown⟩, hb⟩
end Go.Proofs.Ytdomplhhjkikmaa
