import Derived.Test.YtdomplhhjkikmaaTwo
namespace Go.Proofs.Ytdomplhhjkikmaa
open Go.RowKit
/-- The first place of a string from place t on. -/
def ft (ks : List K) (x : K) (t : Nat) : Nat := t + (ks.drop t).idxOf x
theorem ft_here (ks : List K) (x : K) (t : Nat) (h : ks[t]? = some x) : ft ks x t = t := by
  obtain ⟨ht, hx⟩ := List.getElem?_eq_some_iff.1 h
  unfold ft
  rw [List.drop_eq_getElem_cons ht, hx, List.idxOf_cons_self]; rfl
theorem if_neg' {x y : K} {n : Nat} (h : y ≠ x) : (bif y == x then 0 else n) = n := by
  rw [beq_eq_false_iff_ne.2 h]; rfl
theorem ft_step (ks : List K) (x : K) (t : Nat) (y : K) (h : ks[t]? = some y) (hne : y ≠ x) : ft ks x t = ft ks x (t + 1) := by
  obtain ⟨ht, hx⟩ := List.getElem?_eq_some_iff.1 h
  unfold ft
  rw [List.drop_eq_getElem_cons ht, hx, List.idxOf_cons, if_neg' hne]
  omega
theorem ft_zero (ks : List K) (x : K) : ft ks x 0 = fst ks x := by unfold ft fst; simp
theorem cutK_at (l : List K) (i : Nat) (x : K) (hi : i < 60) (h : l[i]? = some x) : (cutK l)[i]? = some (x.take 40) := by
  simp [cutK, List.getElem?_map, hi, h]
/-- Whether a string is among the first i. -/
def hasIn (l : List K) (i : Nat) (o : K) : Bool := (l.take i).contains o
theorem contains_snoc (l : List K) (i : Nat) (x o : K) (h : l[i]? = some x) : hasIn l (i + 1) o = (hasIn l i o || x == o) := by
  unfold hasIn
  rw [List.take_add_one, h, List.contains_append, Option.toList_some]
  congr 1
  rw [List.contains_cons, List.contains_nil, Bool.or_false]
  exact Bool.beq_comm
set_option maxRecDepth 100000 in
set_option maxHeartbeats 8000000 in
theorem poolBack_walk (A : Option Addr) (n c : Nat) (ss : List ByteArray) (s : ByteArray) (w : World) (hA : IsStrs w A n c ss) (_hs : s.size ≤ maxLen) :
    Calls Try.prog 4 #[.slice A n c, .string s] w fun e w' => e = .returned (.bool true) ∧ Below w.heap.size w w' := by
  obtain ⟨rA, hn, hc⟩ := isStrs_rd hA
  unfold maxLen at hc
  generalize ss.map bl = l at rA
  clear hA _hs
  obtain ⟨t, rfl⟩ : ∃ t : List UInt8, s = ⟨t.toArray⟩ := ⟨s.data.toList, by simp⟩
  have f1 := Lib.hid (fun w0 (r : Rd w0 1 A n (strs l)) => filled_any A n c l w0 r (by omega))
  have sh0 := Lib.hid (fun w0 : World => short_any t 40 w0)
  have hl : l.length = n := by have := rA.1; simpa [strs] using this
  have h60 := cutK_len l
  obtain ⟨m, hm⟩ : ∃ m, (cutK l).length = m := ⟨_, rfl⟩
  have hlen := stE_len (cutK l) m (by omega)
  have hhas := stE_has (cutK l) m (by omega) (by omega)
  have hval := stE_val (cutK l) m (by omega) (by omega)
  have htk : (cutK l).take m = cutK l := by rw [← hm, List.take_length]
  rw [htk] at hhas hval
  have hmn : m = min 60 n := by rw [← hm, h60, hl]
  rw [hm] at f1
  obtain ⟨s1, n1⟩ := fill_facts l
  rw [hm] at s1 n1
  generalize stE (cutK l) m = E at *
  generalize stA (cutK l) m = a1 at *
  generalize t.take 40 = o at sh0
  have HH := Lib.hid hhas
  have HV := Lib.hid hval
  have HM := Lib.hid (And.intro hm (And.intro hmn (And.intro hl hlen)))
  have HS := Lib.hid s1
  have HT := Lib.hid htk
  have hm1 : m ≤ 60 := by omega
  have hm2 : m ≤ n := by omega
  have a1m : a1 ≤ m := by omega
  clear hhas hval hm hmn hl hlen s1 htk h60
  go_enter Try.func4, Try.ntmps4
  go_wp2_with fail
  refine (works_any _).mono ?_
  rintro e w1 ⟨rfl, hb⟩
  have HB1 := Lib.hid hb
  clear hb
  go_wp2_with fail
  refine (f1.out _ (rA.below HB1.out)).mono ?_
  rintro e w2 ⟨rfl, kp, up, hP⟩
  have HP := Lib.hid hP
  clear hP
  go_wp2_with fail
  refine (sh0.out _).mono ?_
  rintro e w3 ⟨rfl, rfl⟩
  go_wp2
  go_loopw [7, 8, 9] (fun cnt hs i wr => ∃ k : Nat, k ≤ m ∧ i = .int .i64 k ∧ cnt = .int .i64 k ∧ hs = .bool (hasIn (cutK l) k o) ∧ Hid (Own w1 wr w1.heap.size kp up E)) (fun _ _ i _ => m - (intOf i).toNat)
  case atStart => exact ⟨0, by omega, rfl, rfl, by simp [hasIn], HP.out⟩
  case round =>
    obtain ⟨k, hk, rfl, rfl, rfl, ho⟩ := hrel
    by_cases hlt : k < m
    · obtain ⟨x, hx⟩ : ∃ x, l[k]? = some x := ⟨_, List.getElem?_eq_getElem (by have := HM.out.2.2.1; omega)⟩
      obtain ⟨b, of, hA', hbl, hcell⟩ := (rA.below (below_then HB1.out ho.out.bel)).2 (by omega)
      subst hA'
      have g1 := hcell k (str x) (by simp [strs, hx])
      have hkx := cutK_at l k x (by omega) hx
      have HC := Lib.hid hcell
      unfold str at g1
      have HK := Lib.hid hkx
      have hsx := Lib.hid (fun w0 : World => short_any x 40 w0)
      have hn1 : (k : Int) < (n : Int) := by omega
      have hn2 : (k : Int) < 60 := by omega
      clear hcell hx hkx
      generalize x.take 40 = y at *
      go_wp2_with (go_at_call 11; refine (hsx.out _).mono ?_; rintro e w4 ⟨rfl, rfl⟩)
      go_loop [11, 12] (fun fi j => ∃ u : Nat, u ≤ k ∧ j = .int .i64 ((u : Int) - 1) ∧ fi = .int .i64 (ft (cutK l) y u : Int)) (fun _ j => (intOf j + 1).toNat)
      case atStart => exact ⟨k, by omega, rfl, by rw [ft_here _ _ _ HK.out]⟩
      case round =>
        obtain ⟨u, hu, rfl, rfl⟩ := hrel
        rcases Nat.eq_zero_or_pos u with hu0 | hu0
        · subst hu0
          have hft := ft_zero (cutK l) y
          rw [hft]
          have hc := HH.out y
          have hcc : (cutK l).contains y = true := by
            have := List.mem_of_getElem? HK.out
            simpa using this
          have hv := HV.out y hcc
          rw [hcc] at hc
          have hg := Lib.hid (gets_any _ kp up E y (fst (cutK l) y : Int) true _ ho.out.pl HS.out (by omega) hc (by rw [hc, if_pos rfl, hv]))
          have hsn := Lib.hid (contains_snoc (cutK l) k y o HK.out)
          clear hft hc hcc hv
          rw [show ((0 : Nat) : Int) - 1 = -1 from rfl]
          cases hco : hasIn (cutK l) k o
          all_goals
            rw [hco] at hsn
            clear hco
            by_cases hyo : y = o
            · subst hyo
              have hb1 : (y == y) = true := beq_self_eq_true y
              rw [hb1] at hsn
              go_wp2_with (go_at_call 22; refine hg.out.mono ?_; rintro e w5 ⟨rfl, hb⟩)
              go_roundw
              case rel => exact ⟨k + 1, by omega, by go_num, by go_num, by rw [hsn.out]; rfl, ho.out.below hb⟩
              case measure => simp [intOf]; omega
            · have hb1 : (y == o) = false := by simpa using hyo
              rw [hb1] at hsn
              go_wp2_with (go_at_call 22; refine hg.out.mono ?_; rintro e w5 ⟨rfl, hb⟩)
              go_roundw
              case rel => exact ⟨k + 1, by omega, by go_num, by go_num, by rw [hsn.out]; rfl, ho.out.below hb⟩
              case measure => simp [intOf]; omega
        · obtain ⟨v, rfl⟩ : ∃ v, u = v + 1 := ⟨u - 1, by omega⟩
          rw [show ((v + 1 : Nat) : Int) - 1 = (v : Int) by omega]
          obtain ⟨z, hz⟩ : ∃ z, l[v]? = some z := ⟨_, List.getElem?_eq_getElem (by have := HM.out.2.2.1; omega)⟩
          have g2 := HC.out v (str z) (by simp [strs, hz])
          have hkz := cutK_at l v z (by omega) hz
          unfold str at g2
          have HZ := Lib.hid hkz
          have hsz := Lib.hid (fun w0 : World => short_any z 40 w0)
          have hv1 : (v : Int) < (n : Int) := by omega
          clear hz hkz
          generalize z.take 40 = q at *
          by_cases hqy : q = y
          · subst hqy
            have hft := Lib.hid (ft_here _ _ _ HZ.out)
            have hb1 : (q == q) = true := beq_self_eq_true q
            go_wp2_with (go_at_call 11; refine (hsz.out _).mono ?_; rintro e w4 ⟨rfl, rfl⟩)
            go_round
            case rel => exact ⟨v, by omega, rfl, by rw [hft.out]⟩
            case measure => simp [intOf]
          · have hft := Lib.hid (ft_step _ y _ _ HZ.out hqy)
            have hb1 : (q == y) = false := by simpa using hqy
            clear hqy
            rw [← hft.out]
            go_wp2_with (go_at_call 11; refine (hsz.out _).mono ?_; rintro e w4 ⟨rfl, rfl⟩)
            go_round
            case rel => exact ⟨v, by omega, rfl, rfl⟩
            case measure => simp [intOf]
    · obtain rfl : k = m := by omega
      rw [show hasIn (cutK l) k o = (cutK l).contains o by unfold hasIn; rw [HT.out]]
      have hg := get_any _ kp up E o _ ho.out.pl HS.out (by omega)
      rw [HH.out o] at hg
      have hG := Lib.hid hg
      have hln : (E.length : Int) = (k : Int) - (a1 : Int) := by have := HM.out.2.2.2; omega
      have HLN := Lib.hid hln
      clear hg hln
      have hend : ¬ ((k : Int) < (n : Int) ∧ (k : Int) < 60) := by have := HM.out.2.1; omega
      cases hco : (cutK l).contains o
      all_goals
        rw [hco] at hG
        by_cases hkn : k < n
        · have hkn1 : (k : Int) < (n : Int) := by omega
          have hk60 : ¬ (k : Int) < 60 := by omega
          clear hend
          go_wp2_with (first
            | (go_at_call 12; refine hG.out.mono ?_; rintro e w5 ⟨rfl, hb⟩; have HO := Lib.hid (ho.out.below hb); clear hb)
            | (go_at_call 17; refine (len_any _ kp up E _ HO.out.pl).mono ?_; rintro e w6 ⟨rfl, rfl⟩; rw [HLN.out]))
          go_ret
          exact ⟨rfl, below_then HB1.out HO.out.bel⟩
        · have hkn1 : ¬ (k : Int) < (n : Int) := by omega
          clear hend
          go_wp2_with (first
            | (go_at_call 12; refine hG.out.mono ?_; rintro e w5 ⟨rfl, hb⟩; have HO := Lib.hid (ho.out.below hb); clear hb)
            | (go_at_call 17; refine (len_any _ kp up E _ HO.out.pl).mono ?_; rintro e w6 ⟨rfl, rfl⟩; rw [HLN.out]))
          go_ret
          exact ⟨rfl, below_then HB1.out HO.out.bel⟩
end Go.Proofs.Ytdomplhhjkikmaa
