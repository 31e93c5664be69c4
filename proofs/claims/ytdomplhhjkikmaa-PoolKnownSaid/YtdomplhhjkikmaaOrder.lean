import Derived.Test.YtdomplhhjkikmaaRefuses
import Derived.Deep.QuietTactic
namespace Go.Proofs.Ytdomplhhjkikmaa
open Go.RowKit
set_option maxRecDepth 100000 in
set_option maxHeartbeats 4000000 in
theorem texts_any (A : Option Addr) (n c : Nat) (l : List K) (w : World) (h : Rd w 1 A n (strs l)) (hn : n ≤ 9223372036854775807) :
    Calls Try.prog 23 #[.slice A n c, .int .i64 60, .int .i64 40] w fun e w' => (∃ v, e = .returned v ∧ w'.ownsRow w.heap.size 9 1 v (cutK l).length (strs (cutK l))) ∧ Below w.heap.size w w' := by
  obtain ⟨iS, hiS, hzS, hsS, hbS⟩ := info_parts infoS
  have hl : l.length = n := by have := h.1; simpa [strs] using this
  have h60 := cutK_len l
  obtain ⟨m, hm⟩ : ∃ m, (cutK l).length = m := ⟨_, rfl⟩
  have hmn : m = min 60 n := by rw [← hm, h60, hl]
  have htk : (cutK l).take m = cutK l := by rw [← hm, List.take_length]
  rw [hm]
  have HM := Lib.hid (And.intro hm (And.intro hmn (And.intro hl htk)))
  have hm1 : m ≤ 60 := by omega
  have hm2 : m ≤ n := by omega
  clear hm hmn hl htk h60
  go_enter Try.func23, Try.ntmps23
  go_wp2
  go_loopw [7, 8] (fun v i wr => ∃ k : Nat, k ≤ m ∧ i = .int .i64 k ∧ wr.ownsRow w.heap.size 9 1 v k (strs ((cutK l).take k)) ∧ Below w.heap.size w wr) (fun _ i _ => m - (intOf i).toNat)
  case atStart => exact ⟨0, by omega, rfl, World.ownsRow_nil _ _ _ _, Below.refl _ _⟩
  case round =>
    obtain ⟨k, hk, rfl, hown, hb⟩ := hrel
    by_cases hlt : k < m
    · obtain ⟨x, hx⟩ : ∃ x, l[k]? = some x := ⟨_, List.getElem?_eq_getElem (by have := HM.out.2.2.1; omega)⟩
      obtain ⟨b, of, hA', hbl, hcell⟩ := (h.below hb).2 (by omega)
      subst hA'
      have g1 := hcell k (str x) (by simp [strs, hx])
      unfold str at g1
      have hkx : (cutK l)[k]? = some (x.take 40) := by
        have : k < 60 := by omega
        simp [cutK, List.getElem?_map, this, hx]
      have HK := Lib.hid (show strs ((cutK l).take (k + 1)) = strs ((cutK l).take k) ++ [.string ⟨(x.take 40).toArray⟩] by rw [List.take_add_one, hkx]; simp [strs, str])
      have hsx := Lib.hid (fun w0 : World => short_any x 40 w0)
      have hn1 : (k : Int) < (n : Int) := by omega
      have hn2 : (k : Int) < 60 := by omega
      clear hcell hx hkx
      generalize x.take 40 = y at *
      go_wp2_with (first
        | (go_at_call 11; refine (hsx.out _).mono ?_; rintro e w4 ⟨rfl, rfl⟩)
        | (at_builtin; refine wpList_append_one rfl w _ _ _ 34 rfl w.heap.size 9 iS (.string ByteArray.empty) 16 Try.underlying34 hiS hzS hsS hbS rfl _ k _ rfl hown _ rfl rfl (by omega) (by omega) hb (Nat.le_refl _) ?_; intro v5 w5 hown5 hb5))
      go_roundw
      case rel => exact ⟨k + 1, by omega, by go_num, by rw [HK.out]; exact hown5, hb5⟩
      case measure => simp [intOf]; omega
    · obtain rfl : k = m := by omega
      rw [HM.out.2.2.2] at hown
      by_cases hkn : k < n
      · have hkn1 : (k : Int) < (n : Int) := by omega
        have hk60 : ¬ (k : Int) < 60 := by have := HM.out.2.1; omega
        go_wp2
        go_ret
        exact ⟨⟨_, rfl, hown⟩, hb⟩
      · have hkn1 : ¬ (k : Int) < (n : Int) := by omega
        go_wp2
        go_ret
        exact ⟨⟨_, rfl, hown⟩, hb⟩
theorem cutK_id (l : List K) (h : l.length ≤ 60) (h2 : ∀ x ∈ l, x.length ≤ 40) : cutK l = l := by
  unfold cutK
  rw [List.take_of_length_le h]
  conv => rhs; rw [← List.map_id l]
  exact List.map_congr_left fun x hx => List.take_of_length_le (h2 x hx)
theorem turned_mem (l : List K) (k : Nat) (x : K) : (l.drop k ++ l.take k).contains x = l.contains x := by
  conv => rhs; rw [← List.take_append_drop k l]
  rw [List.contains_append, List.contains_append, Bool.or_comm]
/-- A list that is turned fills a pool with the same strings. -/
theorem turned_keys (l : List K) (k : Nat) : keys (stE (cutK (cutK l)) (cutK (cutK l)).length) = keys (stE (cutK ((cutK l).drop k ++ (cutK l).take k)) (cutK ((cutK l).drop k ++ (cutK l).take k)).length) := by
  have h60 := cutK_len l
  have e1 : cutK (cutK l) = cutK l := cutK_id _ (by omega) (fun x hx => cutK_short l hx)
  have hmem : ∀ x ∈ (cutK l).drop k ++ (cutK l).take k, x ∈ cutK l := by
    intro x hx
    rcases List.mem_append.1 hx with hx | hx
    · exact List.mem_of_mem_drop hx
    · exact List.mem_of_mem_take hx
  have hlen : ((cutK l).drop k ++ (cutK l).take k).length ≤ 60 := by
    rw [List.length_append, List.length_drop, List.length_take]; omega
  have e2 : cutK ((cutK l).drop k ++ (cutK l).take k) = (cutK l).drop k ++ (cutK l).take k := cutK_id _ hlen (fun x hx => cutK_short l (hmem x hx))
  rw [e1, e2]
  refine srt_ext _ _ (keys_srt (stE_srt _ _)) (keys_srt (stE_srt _ _)) (fun x => ?_)
  rw [← has_keys, ← has_keys, stE_has _ _ (Nat.le_refl _) (by omega), stE_has _ _ (Nat.le_refl _) (by omega), List.take_length, List.take_length, turned_mem]
theorem less_any' (a b : List UInt8) (w : World) : Calls Try.prog 25 #[.string ⟨a.toArray⟩, .string ⟨b.toArray⟩] w fun e w' => e = .returned (.bool (lt a b)) ∧ w' = w :=
  (less_any a b w).mono fun _ _ ⟨he, hw⟩ => ⟨he, hw.symm⟩
section
variable {P : Program} {ops : Array Oper} {o : Oper} {a : Act} {Q : Exit → Act → World → Prop}
theorem step_call {K : Act → World → Prop} {E : Prop} (hw : Region.wanted o (yielded ops a.tmps) = true) (w : World) (f : FuncId) (vs : Array Value) (hrun : (execOp a.eval o).run P w = .ok (.enter f vs) w)
    {T : Value → World → Prop} (hc : Calls P f vs w fun e w' => ∃ v, e = .returned v ∧ T v w') (h : ∀ v w', T v w' → K (a.put o.dst v) w') : if Region.wanted o (yielded ops a.tmps) = true then Oper.wp P o a w K Q else E := by
  rw [if_pos hw]
  unfold Oper.wp
  rw [hrun, Oper.upon_enter]
  refine hc.mono ?_
  rintro e w' ⟨v, rfl, ht⟩
  exact h v w' ht
end
theorem strs_one (l : List K) : ∀ u ∈ strs l, u.oneCell' = true := str_one l
theorem strs_app (a b : List K) : strs (a ++ b) = strs a ++ strs b := by simp [strs]
theorem Own.from_ {w0 w1 w : World} {g : Nat} {ks us : Value} {E : List Ent} (h : Own w1 w g ks us E) (hb : Below w0.heap.size w0 w1) : Own w0 w g ks us E :=
  ⟨h.pl, fun b hf => Nat.le_trans hb.size (h.new b hf), below_then hb h.bel, h.srt⟩
theorem own_empty (w : World) (base : Nat) (h : base ≤ w.heap.size) : (w.alloc (.cells #[] 9)).ownsRow base 9 1 (.slice (some ⟨w.heap.size, 0, none⟩) 0 0) 0 [] :=
  ⟨rfl, Or.inr ⟨w.heap.size, 0, #[], rfl, h, heap_alloc_last _ _, Nat.le_refl _, Nat.zero_le _, rfl, rfl⟩⟩
set_option maxRecDepth 100000 in
set_option maxHeartbeats 8000000 in
theorem poolOrder_walk (A : Option Addr) (n c : Nat) (ss : List ByteArray) (z : Int) (w : World) (hA : IsStrs w A n c ss) (_hz : (Lit.int .i64 z).wf = true) :
    Calls Try.prog 5 #[.slice A n c, .int .i64 z] w fun e w' => e = .returned (.bool true) ∧ Below w.heap.size w w' := by
  obtain ⟨iS, hiS, hzS, hsS, hbS⟩ := info_parts infoS
  obtain ⟨rA, hn, hc⟩ := isStrs_rd hA
  unfold maxLen at hc
  generalize ss.map bl = l at rA
  clear hA _hz
  have f0 := Lib.hid (texts_any A n c l w rA (by omega))
  have h60 := cutK_len l
  obtain ⟨m, hm⟩ : ∃ m, (cutK l).length = m := ⟨_, rfl⟩
  rw [hm] at f0 h60
  have hm60 : m ≤ 60 := by omega
  obtain ⟨j, hj⟩ : ∃ j : Nat, z % ((m : Int) + 1) = (j : Int) := ⟨(z % ((m : Int) + 1)).toNat, (Int.toNat_of_nonneg (Int.emod_nonneg _ (by omega))).symm⟩
  have hj1 : j ≤ m := by have := Int.emod_lt_of_pos z (b := (m : Int) + 1) (by omega); omega
  have hkeys := turned_keys l j
  have f1 := fun w0 X cx (r : Rd w0 1 X m (strs (cutK l))) => filled_any X m cx (cutK l) w0 r (by omega)
  have f2 := fun w0 X cx (r : Rd w0 1 X m (strs ((cutK l).drop j ++ (cutK l).take j))) => filled_any X m cx _ w0 r (by omega)
  obtain ⟨s1, n1⟩ := fill_facts (cutK l)
  obtain ⟨s2, n2⟩ := fill_facts ((cutK l).drop j ++ (cutK l).take j)
  generalize stE (cutK (cutK l)) (cutK (cutK l)).length = E1 at *
  generalize stE (cutK ((cutK l).drop j ++ (cutK l).take j)) (cutK ((cutK l).drop j ++ (cutK l).take j)).length = E2 at *
  generalize stA (cutK (cutK l)) (cutK (cutK l)).length = a1 at *
  generalize stA (cutK ((cutK l).drop j ++ (cutK l).take j)) (cutK ((cutK l).drop j ++ (cutK l).take j)).length = a2 at *
  have HF1 := Lib.hid f1
  have HF2 := Lib.hid f2
  have HS := Lib.hid (And.intro s1 s2)
  have HK := Lib.hid hkeys
  have HJ := Lib.hid hj
  generalize cutK l = L at *
  clear f1 f2 s1 s2 hkeys hj hm h60 rA hn hc
  have j0 : (0 : Int) ≤ (j : Int) := by omega
  have jm : (j : Int) ≤ (m : Int) := by omega
  go_enter Try.func5, Try.ntmps5
  go_wp2_with fail
  refine f0.out.mono ?_
  rintro e w1 ⟨⟨v, rfl, ho⟩, hb⟩
  obtain ⟨X, cx, rfl, hcx, hcx2⟩ := own_shape ho
  have HX := Lib.hid (Rd.of_own ho)
  have HB1 := Lib.hid hb
  clear ho hb
  unfold maxLen at hcx2
  go_wp2_with fail
  refine (bring_any _ _ (by omega) (by omega) _).mono ?_
  rintro e w2 ⟨rfl, rfl⟩
  rw [HJ.out]
  go_wp2_with fail
  refine (HF1.out _ _ _ HX.out).mono ?_
  rintro e w2 ⟨rfl, kp, up, hP⟩
  have HP2 := Lib.hid hP
  have HX2 := Lib.hid (HX.out.below hP.bel)
  clear hP
  have jc : (j : Int) ≤ (cx : Int) := by omega
  have mc : (m : Int) ≤ (cx : Int) := by omega
  have rD := HX2.out.drop1 hj1 hcx
  obtain ⟨Z, hZ⟩ : ∃ Z, (if cx = j then X else Option.map (fun x => x.add j) X) = Z := ⟨_, rfl⟩
  rw [hZ] at rD
  have rD' : Rd w2 1 Z (m - j) (strs (L.drop j)) := by simpa [strs, List.map_drop] using rD
  have rT : Rd w2 1 X j (strs (L.take j)) := by have := HX2.out.take1 hj1; simpa [strs, List.map_take] using this
  clear rD
  go_upto_region 4 with fail
  go_cut [9] (fun s9 wx => Hid (∃ g kq uq, s9 = .pointer (some ⟨g, 0, none⟩) ∧ Own w2 wx g kq uq E2))
  case first =>
    have HE := Lib.hid (own_empty w2.drew w2.heap.size (Nat.le_refl _))
    have HB0 := Lib.hid ((below_drew_ w2).alloc (Nat.le_refl _) (.cells #[] 9))
    have hmj : m - j + j = m := by omega
    have HMJ := Lib.hid hmj
    clear hmj
    go_region_law (first
      | (refine step_append_rd rfl _ _ _ 34 rfl w2.heap.size 9 iS _ 1 16 Try.underlying34 hiS hzS hsS hbS rfl (by decide) _ 0 [] rfl HE.out Z (m - j) _ (strs (L.drop j)) rfl (rD'.below HB0.out) (strs_one _) (by unfold maxLen; omega) (by omega) (by simp) ?_; intro v5 w5 ho5 hg5; simp only [Nat.zero_add, List.nil_append] at ho5; have HB5 := Lib.hid (HB0.out.trans (grown_below HE.out hg5 HB0.out.size)); clear hg5; obtain ⟨A5, c5, rfl, _, _⟩ := own_shape ho5)
      | (refine step_append_rd rfl _ _ _ 34 rfl w2.heap.size 9 iS _ 1 16 Try.underlying34 hiS hzS hsS hbS rfl (by decide) _ (m - j) _ rfl ho5 X j _ (strs (L.take j)) rfl (rT.below HB5.out) (strs_one _) (by unfold maxLen; omega) (by omega) HB5.out.size ?_; intro v6 w6 ho6 hg6; rw [HMJ.out, ← strs_app] at ho6; have HB6 := Lib.hid (HB5.out.trans (grown_below ho5 hg6 HB5.out.size)); clear hg6; obtain ⟨A6, c6, rfl, _, _⟩ := own_shape ho6)
      | (refine step_call rfl _ 21 _ (by kernel_rfl) (T := fun v w7 => ∃ kq uq, v = .tuple #[.pointer (some ⟨w6.heap.size, 0, none⟩), .int .i64 (a2 : Int)] ∧ Own w6 w7 w6.heap.size kq uq E2) ((HF2.out w6 A6 c6 (Rd.of_own ho6)).mono (fun _ _ ⟨he, kq, uq, hq⟩ => ⟨_, he, kq, uq, rfl, hq⟩)) ?_; rintro v7 w7 ⟨kq, uq, rfl, hq7⟩))
    all_goals
      go_wp2_with fail
      go_meet
      exact ⟨_, kq, uq, rfl, hq7.from_ HB6.out⟩
  case rest =>
    obtain ⟨g, kq, uq, rfl, hQ⟩ := hcut.out
    obtain ⟨w3, rfl⟩ : ∃ w3 : World, w3 = wc := ⟨_, rfl⟩
    have HQ3 := Lib.hid hQ
    have HP3 := Lib.hid (HP2.out.below hQ.bel)
    clear hcut hQ rD' rT hZ
    go_wp2_with fail
    refine (list_any _ kp up _ _ HP3.out.pl (by omega)).mono ?_
    rintro e w4 ⟨⟨v, rfl, ho⟩, hb⟩
    obtain ⟨Y, cy, rfl, hcy, hcy2⟩ := own_shape ho
    have HY := Lib.hid (Rd.of_own ho)
    have HP4 := Lib.hid (HP3.out.below hb)
    have HQ4 := Lib.hid (HQ3.out.below hb)
    clear ho hb
    go_wp2
    go_loopw [12] (fun i wr => ∃ s : Nat, (s = 0 ∨ s < E1.length) ∧ i = .int .i64 ((s : Int) + 1) ∧ Hid (∃ q, wr = w4.drewN q)) (fun i _ => E1.length + 1 - (intOf i).toNat)
    case atStart => exact ⟨0, Or.inl rfl, rfl, ⟨0, rfl⟩⟩
    case round =>
      obtain ⟨s, hs, rfl, hw⟩ := hrel
      by_cases hlt : s + 1 < E1.length
      · have hb := below_of_drew hw.out
        obtain ⟨b, of, hY', hbl, hcell⟩ := (HY.out.below hb).2 (by omega)
        subst hY'
        obtain ⟨x, hx⟩ : ∃ x, (keys E1)[s]? = some x := ⟨_, List.getElem?_eq_getElem (by simp [keys]; omega)⟩
        obtain ⟨y, hy⟩ : ∃ y, (keys E1)[s + 1]? = some y := ⟨_, List.getElem?_eq_getElem (by simpa [keys] using hlt)⟩
        have g1 := hcell s (str x) (by simp [strs, hx])
        have g2 := hcell (s + 1) (str y) (by simp [strs, hy])
        unfold str at g1 g2
        have hxy : lt x y = true := by
          have hp := keys_srt HS.out.1
          obtain ⟨h1, e1⟩ := List.getElem?_eq_some_iff.1 hx
          obtain ⟨h2, e2⟩ := List.getElem?_eq_some_iff.1 hy
          rw [← e1, ← e2]
          exact (List.pairwise_iff_getElem.1 hp) s (s + 1) h1 h2 (by omega)
        have hxc : Calls Try.prog 25 #[.string ⟨x.toArray⟩, .string ⟨y.toArray⟩] wr = Calls Try.prog 25 #[.string ⟨x.toArray⟩, .string ⟨y.toArray⟩] wr := rfl
        have hlc := fun w0 : World => less_any' x y w0
        rw [hxy] at hlc
        have HLC := Lib.hid hlc
        have hs1 : (s : Int) + 1 < (E1.length : Int) := by omega
        have hs0 : (s : Int) < (E1.length : Int) := by omega
        have hw1 : IntKind.i64.wrap ((s : Int) + 1 - 1) = (s : Int) := by rw [show (s : Int) + 1 - 1 = (s : Int) by omega]; exact IntWalk.i64_in _ (by omega)
        have hw2 : (s : Int) + 1 - 1 = (s : Int) := by omega
        have hw3 : ((s : Int) + 1).toNat = s + 1 := by omega
        have hw4 : (0 : Int) ≤ (s : Int) + 1 := by omega
        clear hcell hx hy hxy hxc hlc
        go_wp2
        go_quiet ((go_at_call 25; exact Calls.quiet_of_same (HLC.out _)))
        clear hw1 hw2 hw3
        go_wp2
        go_roundw
        case rel => exact ⟨s + 1, by omega, by go_num, drew_more hw.out nq⟩
        case measure => simp [intOf]; omega
      · have hb := below_of_drew hw.out
        have hs1 : ¬ ((s : Int) + 1 < (E1.length : Int)) := by omega
        have HP5 := Lib.hid (HP4.out.below hb)
        have HQ5 := Lib.hid (HQ4.out.below hb)
        have HY5 := Lib.hid (HY.out.below hb)
        clear hb
        go_wp2_with fail
        refine (list_any _ kq uq _ _ HQ5.out.pl (by omega)).mono ?_
        rintro e w6 ⟨⟨v, rfl, ho⟩, hb⟩
        obtain ⟨V, cv, rfl, hcv, hcv2⟩ := own_shape ho
        have HV := Lib.hid (And.intro (Rd.of_own ho) hb)
        clear ho hb
        go_wp2_with fail
        refine (eqTexts_any Y _ cy _ V _ cv _ _ (HY5.out.below HV.out.2) HV.out.1 (by omega) (by omega)).mono ?_
        rintro e w7 ⟨rfl, hb⟩
        rw [← HK.out, list_beq_self]
        have HB := Lib.hid (below_then HV.out.2 hb)
        clear hb
        go_wp2_with fail
        refine (len_any _ kp up E1 _ (HP5.out.pl.below HB.out)).mono ?_
        rintro e w8 ⟨rfl, rfl⟩
        go_wp2_with fail
        refine (works_any _).mono ?_
        rintro e w9 ⟨rfl, hb⟩
        go_wp2
        go_ret
        exact ⟨rfl, below_then (below_then (below_then HB1.out HP5.out.bel) HB.out) hb⟩
end Go.Proofs.Ytdomplhhjkikmaa
