import Derived.Test.YtdomplhhjkikmaaFill
namespace Go.Proofs.Ytdomplhhjkikmaa
open Go.RowKit
theorem cutK_short (l : List K) {x : K} (h : x ∈ cutK l) : x.length ≤ 40 := by
  simp only [cutK, List.mem_map] at h
  obtain ⟨y, _, rfl⟩ := h
  rw [List.length_take]; omega
theorem stE_not (l : List K) (x : K) (hx : 40 < x.length) : has (stE (cutK l) (cutK l).length) x = false := by
  have h60 := cutK_len l
  rw [stE_has _ _ (Nat.le_refl _) (by omega), List.take_length]
  cases hc : (cutK l).contains x
  · rfl
  · have := cutK_short l (by simpa using hc)
    omega
/-- What is known of the entries of a filled pool. -/
theorem fill_facts (l : List K) : Srt (stE (cutK l) (cutK l).length) ∧ (stE (cutK l) (cutK l).length).length ≤ 60 := by
  have h60 := cutK_len l
  exact ⟨stE_srt _ _, by have := stE_le (cutK l) (cutK l).length (by omega); omega⟩
theorem list_beq_self (l : List K) : (l == l) = true := beq_self_eq_true l
def longText : List UInt8 := [97, 32, 116, 101, 120, 116, 32, 116, 104, 97, 116, 32, 105, 115, 32, 108, 111, 110, 103, 101, 114, 32, 116, 104, 97, 110, 32, 102, 111, 114, 116, 121, 32, 98, 121, 116, 101, 115, 44, 32, 115, 111, 32, 116, 104, 97, 116, 32, 105, 116, 32, 105, 115, 32, 110, 111, 110, 101, 32, 111, 102, 32, 116, 104, 101, 109]
set_option maxRecDepth 100000 in
set_option maxHeartbeats 4000000 in
theorem poolTwo_walk (A : Option Addr) (n c : Nat) (ss : List ByteArray) (B : Option Addr) (m d : Nat) (ts : List ByteArray) (w : World) (hA : IsStrs w A n c ss) (hB : IsStrs w B m d ts) :
    Calls Try.prog 7 #[.slice A n c, .slice B m d] w fun e w' => e = .returned (.bool true) ∧ Below w.heap.size w w' := by
  obtain ⟨rA, hn, hc⟩ := isStrs_rd hA
  obtain ⟨rB, hm, hd⟩ := isStrs_rd hB
  unfold maxLen at hc hd
  generalize ss.map bl = l1 at rA
  generalize ts.map bl = l2 at rB
  clear hA hB
  have f1 := Lib.hid (filled_any A n c l1 w rA (by omega))
  have f2 := Lib.hid (fun w0 (r : Rd w0 1 B m (strs l2)) => filled_any B m d l2 w0 r (by omega))
  have hx := stE_not l2 longText (by decide)
  obtain ⟨s1, n1⟩ := fill_facts l1
  obtain ⟨s2, n2⟩ := fill_facts l2
  generalize stE (cutK l1) (cutK l1).length = E1 at *
  generalize stE (cutK l2) (cutK l2).length = E2 at *
  generalize stA (cutK l1) (cutK l1).length = a1 at *
  generalize stA (cutK l2) (cutK l2).length = a2 at *
  have hpN : putN E2 longText 7 = 0 := by unfold putN; rw [if_neg (by omega), hx]; rfl
  have hpE : putE E2 longText 7 = ins E2 longText 7 := by unfold putE; rw [if_neg (by omega), hx]; rfl
  have hil := ins_length E2 longText 7
  obtain ⟨E3, hE3⟩ : ∃ E, ins E2 longText 7 = E := ⟨_, rfl⟩
  rw [hE3] at hpE hil
  have HP := Lib.hid (And.intro hpN hpE)
  have HS := Lib.hid (And.intro s1 s2)
  have HL := Lib.hid hil
  clear hpN hpE hil hE3 hx s1 s2
  go_enter Try.func7, Try.ntmps7
  go_wp2_with fail
  refine f1.out.mono ?_
  rintro e w1 ⟨rfl, kp, up, hP⟩
  have HP1 := Lib.hid hP
  clear hP
  go_wp2_with fail
  refine (list_any _ kp up _ _ HP1.out.pl (by omega)).mono ?_
  rintro e w2 ⟨⟨v, rfl, ho⟩, hb⟩
  obtain ⟨X, cx, rfl, hcx, hcx2⟩ := own_shape ho
  have HW := Lib.hid (Rd.of_own ho)
  have HP2 := Lib.hid (HP1.out.below hb)
  clear ho hb
  go_wp2_with fail
  refine (f2.out _ (rB.below HP2.out.bel)).mono ?_
  rintro e w3 ⟨rfl, kq, uq, hQ⟩
  have HQ3 := Lib.hid hQ
  clear hQ
  go_wp2_with fail
  refine (f2.out _ (rB.below (below_then HP2.out.bel HQ3.out.bel))).mono ?_
  rintro e w4 ⟨rfl, kr, ur, hR⟩
  have HR4 := Lib.hid hR
  have HQ4 := Lib.hid (HQ3.out.below hR.bel)
  clear hR
  go_wp2_with fail
  refine (put_any _ kq uq E2 longText 7 _ HQ4.out.pl HQ4.out.srt (by omega)).mono ?_
  rintro e w5 ⟨rfl, hg⟩
  rw [HP.out.1]
  rw [HP.out.2] at hg
  have HG := Lib.hid hg
  have hsr : Srt E3 := by rw [← HP.out.2]; exact srt_put HQ4.out.srt _ _
  obtain ⟨kq5, uq5, hQ5⟩ := HQ4.out.grown hg hsr
  have hR5 : PoolAt w5 w3.heap.size kr ur E2 := by
    obtain ⟨_, _, _, hk, _⟩ := hg
    exact HR4.out.pl.kept hk (fun b hb hf => by
      have h1 := HR4.out.new b hb
      have h2 := HQ3.out.pl.foot_lt hf
      omega)
  have HQ5 := Lib.hid hQ5
  have HR5 := Lib.hid hR5
  have HP5 := Lib.hid (HP2.out.below hQ5.bel)
  have HW5 := Lib.hid (HW.out.below hQ5.bel)
  clear hg hQ5 hR5 hsr
  go_wp2_with fail
  refine (list_any _ kp up _ _ HP5.out.pl (by omega)).mono ?_
  rintro e w6 ⟨⟨v, rfl, ho⟩, hb⟩
  obtain ⟨Y, cy, rfl, hcy, hcy2⟩ := own_shape ho
  have HY := Lib.hid (And.intro (Rd.of_own ho) hb)
  clear ho hb
  go_wp2_with fail
  refine (eqTexts_any Y _ cy _ X _ cx _ _ HY.out.1 (HW5.out.below HY.out.2) (by omega) (by omega)).mono ?_
  rintro e w7 ⟨rfl, hb⟩
  rw [list_beq_self]
  have HB := Lib.hid (below_then HY.out.2 hb)
  clear hb
  go_wp2_with fail
  refine (len_any _ kq5 uq5 E3 _ (HQ5.out.pl.below HB.out)).mono ?_
  rintro e w8 ⟨rfl, rfl⟩
  go_wp2_with fail
  refine (len_any _ kr ur E2 _ (HR5.out.below HB.out)).mono ?_
  rintro e w8 ⟨rfl, rfl⟩
  rw [HL.out]
  go_wp2_with fail
  refine (works_any _).mono ?_
  rintro e w9 ⟨rfl, hb⟩
  go_wp2
  go_ret
  exact ⟨rfl, below_then (below_then HP5.out.bel HB.out) hb⟩
end Go.Proofs.Ytdomplhhjkikmaa
