import Derived.Test.YtdomplhhjkikmaaTwo
namespace Go.Proofs.Ytdomplhhjkikmaa
open Go.RowKit
theorem bring_eq (i n : Int) (hn : 0 < n) : (i.tmod n < 0 → i % n = i.tmod n + n) ∧ (¬ i.tmod n < 0 → i % n = i.tmod n) ∧ -n < i.tmod n ∧ i.tmod n < n := by
  have h := Int.tmod_eq_emod (a := i) (b := n)
  have h1 := Int.emod_nonneg i (by omega : n ≠ 0)
  have h2 := Int.emod_lt_of_pos i hn
  have e : (n.natAbs : Int) = n := by omega
  by_cases hh : 0 ≤ i ∨ n ∣ i
  · rw [if_pos hh] at h; omega
  · rw [if_neg hh] at h
    have : ¬ (i % n = 0) := fun z => hh (Or.inr (Int.dvd_of_emod_eq_zero z))
    omega
theorem ret_i64 {a b : Int} (h : a = b) : Ending.returned (.int .i64 a) = .returned (.int .i64 b) := by rw [h]
set_option maxHeartbeats 400000 in
theorem bring_any (i n : Int) (hn : 0 < n) (hn' : n ≤ 9007199254740992) (w : World) : Calls Try.prog 24 #[.int .i64 i, .int .i64 n] w fun e w' => e = .returned (.int .i64 (i % n)) ∧ w = w' := by
  obtain ⟨b1, b2, b3, b4⟩ := bring_eq i n hn
  have hz : (n == 0) = false := by simp; omega
  by_cases h : i.tmod n < 0
  · have B := Lib.hid (b1 h)
    clear b1 b2
    go_enter Try.func24, Try.ntmps24
    go_wp2
    go_ret
    exact ⟨ret_i64 (by rw [B.out]), rfl⟩
  · have B := Lib.hid (b2 h)
    clear b1 b2
    go_enter Try.func24, Try.ntmps24
    go_wp2
    go_ret
    exact ⟨ret_i64 (by rw [B.out]), rfl⟩
set_option maxHeartbeats 4000000 in
/-- A Put that is refused leaves all as it was. -/
theorem put_no (g : Nat) (ks us : Value) (E : List Ent) (k : List UInt8) (a : Int) (w : World) (h : PoolAt w g ks us E) (hs : Srt E) (hn : E.length ≤ 100000) {N : Int} (hN : putN E k a = N) (h0 : N ≠ 0) :
    Calls Try.prog 14 #[.pointer (some ⟨g, 0, none⟩), .string ⟨k.toArray⟩, .int .i64 a] w fun e w' => e = .returned (.int .i64 N) ∧ Below w.heap.size w w' := by
  subst hN
  have c2 := h.c2
  have hp := Lib.hid (place_any g ks us E k w h hs (by omega))
  unfold putN at *
  by_cases h1 : a < 0 ∨ 9007199254740991 < a
  · rw [if_pos h1]
    clear h hs hn hp h0
    by_cases h0 : a < 0
    · clear h1
      go_enter Try.func14, Try.ntmps14
      go_wp2_with (go_at_call 26; refine (none_any _ _ c2).mono ?_; rintro e w1 ⟨rfl, rfl⟩)
      go_ret
      exact ⟨rfl, Below.refl _ _⟩
    · have h2 : 9007199254740991 < a := by omega
      clear h1
      go_enter Try.func14, Try.ntmps14
      go_wp2_with (go_at_call 26; refine (none_any _ _ c2).mono ?_; rintro e w1 ⟨rfl, rfl⟩)
      go_ret
      exact ⟨rfl, Below.refl _ _⟩
  · rw [if_neg h1] at h0
    rw [if_neg h1]
    have h0' : ¬ a < 0 := by omega
    have h2 : ¬ 9007199254740991 < a := by omega
    clear h1
    cases hh : has E k with
    | true =>
      rw [hh] at hp
      clear h hs hn hh h0
      go_enter Try.func14, Try.ntmps14
      go_wp2_with (first
        | (go_at_call 26; refine (none_any _ _ c2).mono ?_; rintro e w1 ⟨rfl, rfl⟩)
        | (go_at_call 27; refine hp.out.mono ?_; rintro e w1 ⟨rfl, hw⟩; have hb := below_of_drew hw))
      go_ret
      exact ⟨rfl, hb⟩
    | false =>
      rw [hh] at h0
      exact absurd rfl h0
/-- The number of a string that is there. -/
theorem fill_val (l : List K) (x : K) (h : has (stE (cutK l) (cutK l).length) x = true) : 0 ≤ val (stE (cutK l) (cutK l).length) x ∧ val (stE (cutK l) (cutK l).length) x ≤ 60 ∧ val (stE (cutK l) (cutK l).length) x = (fst (cutK l) x : Int) := by
  have h60 := cutK_len l
  have hc := stE_has (cutK l) (cutK l).length (Nat.le_refl _) (by omega) x
  rw [h] at hc
  have hv := stE_val (cutK l) (cutK l).length (Nat.le_refl _) (by omega) x hc.symm
  have hi : fst (cutK l) x ≤ (cutK l).length := List.idxOf_le_length
  rw [hv]
  omega
theorem has_key (E : List Ent) (j : Nat) (x : K) (h : (keys E)[j]? = some x) : has E x = true := by
  rw [has_keys]
  have := List.mem_of_getElem? h
  simpa using this
set_option maxRecDepth 100000 in
set_option maxHeartbeats 8000000 in
theorem poolRefuses_walk (A : Option Addr) (n c : Nat) (ss : List ByteArray) (a z : Int) (w : World) (hA : IsStrs w A n c ss) (_ha : (Lit.int .i64 a).wf = true) (_hz : (Lit.int .i64 z).wf = true) :
    Calls Try.prog 6 #[.slice A n c, .int .i64 a, .int .i64 z] w fun e w' => e = .returned (.bool true) ∧ Below w.heap.size w w' := by
  obtain ⟨rA, hn, hc⟩ := isStrs_rd hA
  unfold maxLen at hc
  generalize ss.map bl = l1 at rA
  clear hA _ha _hz
  have f1 := Lib.hid (filled_any A n c l1 w rA (by omega))
  obtain ⟨s1, n1⟩ := fill_facts l1
  have hval := Lib.hid (fill_val l1)
  generalize stE (cutK l1) (cutK l1).length = E1 at *
  generalize stA (cutK l1) (cutK l1).length = a1 at *
  have HS := Lib.hid s1
  clear s1 rA hn hc
  have hN : putN E1 [120] a = 0 ∨ putN E1 [120] a ≠ 0 := by omega
  rcases hN with hN | hN
  · have ha : ¬ (a < 0 ∨ 9007199254740991 < a) := by
      intro h
      unfold putN at hN
      rw [if_pos h] at hN
      cases hN
    have hh : has E1 [120] = false := by
      cases hx : has E1 [120]
      · rfl
      · unfold putN at hN
        rw [if_neg ha, if_pos hx] at hN
        cases hN
    have hE : putE E1 [120] a = ins E1 [120] a := by unfold putE; rw [if_neg ha, hh]; rfl
    have h1 := has_ins E1 [120] a [120]
    have h2 := val_ins E1 [120] a [120] hh
    have h3 := ins_length E1 [120] a
    rw [if_pos (by simp)] at h2
    have h1' : has (ins E1 [120] a) [120] = true := by rw [h1]; simp
    clear h1
    generalize ins E1 [120] a = E2 at *
    have HN := Lib.hid (And.intro hN (And.intro hE (And.intro h1' (And.intro h2 h3))))
    have q1 : (0 : Int) ≤ a := by omega
    have q2 : a < 9007199254740992 := by omega
    clear hN hE h1' h2 h3 hh ha
    go_enter Try.func6, Try.ntmps6
    go_wp2_with fail
    refine f1.out.mono ?_
    rintro e w1 ⟨rfl, kp, up, hP⟩
    have HP1 := Lib.hid hP
    clear hP
    go_wp2_with fail
    refine (list_any _ kp up _ _ HP1.out.pl (by omega)).mono ?_
    rintro e w2 ⟨⟨v, rfl, ho⟩, hb⟩
    obtain ⟨X, cx, rfl, hcx, hcx2⟩ := own_shape ho
    have HP2 := Lib.hid (HP1.out.below hb)
    clear ho hb
    go_wp2_with fail
    refine (put_own HP2.out [120] a (by omega) HN.out.1 HN.out.2.1).mono ?_
    rintro e w3 ⟨rfl, kq, uq, hQ⟩
    have HP3 := Lib.hid hQ
    clear hQ
    have hlen : E2.length ≤ 1000 := by have := HN.out.2.2.2.2; omega
    go_wp2_with fail
    refine (get_any _ kq uq E2 [120] _ HP3.out.pl HP3.out.srt (by omega)).mono ?_
    rintro e w4 ⟨rfl, hb⟩
    rw [HN.out.2.2.1, if_pos rfl, HN.out.2.2.2.1]
    have HP4 := Lib.hid (HP3.out.below hb)
    clear hb
    go_wp2_with fail
    refine (len_any _ kq uq E2 _ HP4.out.pl).mono ?_
    rintro e w5 ⟨rfl, rfl⟩
    rw [HN.out.2.2.2.2]
    go_wp2_with fail
    refine (works_any _).mono ?_
    rintro e w6 ⟨rfl, hb⟩
    go_wp2
    go_ret
    exact ⟨rfl, below_then HP4.out.bel hb⟩
  · have hNt : (putN E1 [120] a == 0) = false := by simpa using hN
    obtain ⟨N, hNe⟩ : ∃ N, putN E1 [120] a = N := ⟨_, rfl⟩
    rw [hNe] at hN hNt
    have HN := Lib.hid hNe
    clear hNe
    by_cases hne : 0 < E1.length
    · obtain ⟨j, hj⟩ : ∃ j : Nat, z % (E1.length : Int) = (j : Int) := ⟨(z % (E1.length : Int)).toNat, (Int.toNat_of_nonneg (Int.emod_nonneg _ (by omega))).symm⟩
      have hj1 : j < E1.length := by have := Int.emod_lt_of_pos z (b := (E1.length : Int)) (by omega); omega
      obtain ⟨x, hx⟩ : ∃ x, (keys E1)[j]? = some x := ⟨_, List.getElem?_eq_getElem (by simpa [keys] using hj1)⟩
      have hh := has_key E1 j x hx
      obtain ⟨v0, v60, vf⟩ := hval.out x hh
      obtain ⟨y, hy⟩ : ∃ y, val E1 x = y := ⟨_, rfl⟩
      rw [hy] at v0 v60
      have hx71 : putN E1 x y = 71 := by unfold putN; rw [if_neg (by omega), if_pos hh]
      have hx2 : putN E1 x (-1) = 2 := by unfold putN; rw [if_pos (by omega)]
      have HX := Lib.hid (And.intro hx (And.intro hh (And.intro hy (And.intro hx71 hx2))))
      have HJ := Lib.hid hj
      have hne' : (0 : Int) < (E1.length : Int) := by omega
      clear hx hh hy hx71 hx2 vf hj
      go_enter Try.func6, Try.ntmps6
      go_wp2_with fail
      refine f1.out.mono ?_
      rintro e w1 ⟨rfl, kp, up, hP⟩
      have HP1 := Lib.hid hP
      clear hP
      go_wp2_with fail
      refine (list_any _ kp up _ _ HP1.out.pl (by omega)).mono ?_
      rintro e w2 ⟨⟨v, rfl, ho⟩, hb⟩
      obtain ⟨X, cx, rfl, hcx, hcx2⟩ := own_shape ho
      have HP2 := Lib.hid (HP1.out.below hb)
      have HW2 := Lib.hid (Rd.of_own ho)
      clear ho hb
      go_wp2_with fail
      refine (put_no _ kp up E1 [120] a _ HP2.out.pl HS.out (by omega) HN.out hN).mono ?_
      rintro e w3 ⟨rfl, hb⟩
      have HP3 := Lib.hid (HP2.out.below hb)
      have HW3 := Lib.hid (HW2.out.below hb)
      clear hb
      go_wp2_with fail
      refine (bring_any _ _ (by omega) (by omega) _).mono ?_
      rintro e w4 ⟨rfl, rfl⟩
      rw [HJ.out]
      obtain ⟨b, o, rfl, _, hcell⟩ := HW3.out.2 (by omega)
      have g1 := hcell j (str x) (by simp [strs, HX.out.1])
      unfold str at g1
      clear hcell
      go_wp2_with fail
      refine (get_any _ kp up E1 x _ HP3.out.pl HS.out (by omega)).mono ?_
      rintro e w5 ⟨rfl, hb⟩
      rw [HX.out.2.1, if_pos rfl, HX.out.2.2.1]
      have HP5 := Lib.hid (HP3.out.below hb)
      have HW5 := Lib.hid (HW3.out.below hb)
      clear hb g1
      go_wp2_with fail
      refine (put_no _ kp up E1 x y _ HP5.out.pl HS.out (by omega) HX.out.2.2.2.1 (by decide)).mono ?_
      rintro e w6 ⟨rfl, hb⟩
      have HP6 := Lib.hid (HP5.out.below hb)
      have HW6 := Lib.hid (HW5.out.below hb)
      clear hb
      go_wp2_with fail
      refine (put_no _ kp up E1 x (-1) _ HP6.out.pl HS.out (by omega) HX.out.2.2.2.2 (by decide)).mono ?_
      rintro e w7 ⟨rfl, hb⟩
      have HP7 := Lib.hid (HP6.out.below hb)
      have HW7 := Lib.hid (HW6.out.below hb)
      clear hb
      go_wp2_with fail
      refine (gets_any _ kp up E1 x y true _ HP7.out.pl HS.out (by omega) HX.out.2.1 (by rw [HX.out.2.1, if_pos rfl]; exact HX.out.2.2.1)).mono ?_
      rintro e w8 ⟨rfl, hb⟩
      have HP8 := Lib.hid (HP7.out.below hb)
      have HW8 := Lib.hid (HW7.out.below hb)
      clear hb
      go_wp2_with fail
      refine (list_any _ kp up _ _ HP8.out.pl (by omega)).mono ?_
      rintro e w9 ⟨⟨v, rfl, ho⟩, hb⟩
      obtain ⟨Y, cy, rfl, hcy, hcy2⟩ := own_shape ho
      have HY := Lib.hid (And.intro (Rd.of_own ho) (And.intro (HW8.out.below hb) (HP8.out.below hb)))
      clear ho hb
      go_wp2_with fail
      refine (eqTexts_any Y _ cy _ _ _ cx _ _ HY.out.1 HY.out.2.1 (by omega) (by omega)).mono ?_
      rintro e w10 ⟨rfl, hb⟩
      rw [list_beq_self]
      have HB := Lib.hid (below_then HY.out.2.2.bel hb)
      clear hb
      go_wp2_with fail
      refine (works_any _).mono ?_
      rintro e w11 ⟨rfl, hb⟩
      go_wp2
      go_ret
      exact ⟨rfl, below_then HB.out hb⟩
    · have hne' : ¬ (0 : Int) < (E1.length : Int) := by omega
      go_enter Try.func6, Try.ntmps6
      go_wp2_with fail
      refine f1.out.mono ?_
      rintro e w1 ⟨rfl, kp, up, hP⟩
      have HP1 := Lib.hid hP
      clear hP
      go_wp2_with fail
      refine (list_any _ kp up _ _ HP1.out.pl (by omega)).mono ?_
      rintro e w2 ⟨⟨v, rfl, ho⟩, hb⟩
      obtain ⟨X, cx, rfl, hcx, hcx2⟩ := own_shape ho
      have HP2 := Lib.hid (HP1.out.below hb)
      have HW2 := Lib.hid (Rd.of_own ho)
      clear ho hb
      go_wp2_with fail
      refine (put_no _ kp up E1 [120] a _ HP2.out.pl HS.out (by omega) HN.out hN).mono ?_
      rintro e w3 ⟨rfl, hb⟩
      have HP8 := Lib.hid (HP2.out.below hb)
      have HW8 := Lib.hid (HW2.out.below hb)
      clear hb
      go_wp2_with fail
      refine (list_any _ kp up _ _ HP8.out.pl (by omega)).mono ?_
      rintro e w9 ⟨⟨v, rfl, ho⟩, hb⟩
      obtain ⟨Y, cy, rfl, hcy, hcy2⟩ := own_shape ho
      have HY := Lib.hid (And.intro (Rd.of_own ho) (And.intro (HW8.out.below hb) (HP8.out.below hb)))
      clear ho hb
      go_wp2_with fail
      refine (eqTexts_any Y _ cy _ _ _ cx _ _ HY.out.1 HY.out.2.1 (by omega) (by omega)).mono ?_
      rintro e w10 ⟨rfl, hb⟩
      rw [list_beq_self]
      have HB := Lib.hid (below_then HY.out.2.2.bel hb)
      clear hb
      go_wp2_with fail
      refine (works_any _).mono ?_
      rintro e w11 ⟨rfl, hb⟩
      go_wp2
      go_ret
      exact ⟨rfl, below_then HB.out hb⟩
end Go.Proofs.Ytdomplhhjkikmaa
