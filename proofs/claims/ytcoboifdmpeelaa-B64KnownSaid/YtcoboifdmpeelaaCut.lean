import Derived.Test.YtcoboifdmpeelaaJoins
namespace Go.Proofs.Ytcoboifdmpeelaa
open Go.RowKit
theorem bring_eq (i n : Int) (hn : 0 < n) : (i.tmod n < 0 → i % n = i.tmod n + n) ∧ (¬ i.tmod n < 0 → i % n = i.tmod n) ∧ -n < i.tmod n ∧ i.tmod n < n := by
  have h := Int.tmod_eq_emod (a := i) (b := n)
  have h1 := Int.emod_nonneg i (by omega : n ≠ 0)
  have h2 := Int.emod_lt_of_pos i hn
  have e : (n.natAbs : Int) = n := by omega
  by_cases hh : 0 ≤ i ∨ n ∣ i
  · rw [if_pos hh] at h; omega
  · rw [if_neg hh] at h
    have : ¬ (i % n = 0) := fun z => hh (Or.inr (Int.dvd_of_emod_eq_zero z))
    omega
theorem ret_i64 {a b : Int} (h : a = b) : Ending.returned (.int .i64 a) = .returned (.int .i64 b) := by rw [h]
set_option maxHeartbeats 400000 in
theorem bring_any (i n : Int) (hn : 0 < n) (hn' : n ≤ 9007199254740992) (w : World) : Calls Try.prog 21 #[.int .i64 i, .int .i64 n] w fun e w' => e = .returned (.int .i64 (i % n)) ∧ w = w' := by
  obtain ⟨b1, b2, b3, b4⟩ := bring_eq i n hn
  have hz : (n == 0) = false := by simp; omega
  by_cases h : i.tmod n < 0
  · have B := Lib.hid (b1 h)
    clear b1 b2
    go_enter Try.func21, Try.ntmps21
    go_wp2
    go_ret
    exact ⟨ret_i64 (by rw [B.out]), rfl⟩
  · have B := Lib.hid (b2 h)
    clear b1 b2
    go_enter Try.func21, Try.ntmps21
    go_wp2
    go_ret
    exact ⟨ret_i64 (by rw [B.out]), rfl⟩
theorem cut_bad (l : List UInt8) (j : Nat) (h : j ≤ (enc l).length) (h4 : j % 4 ≠ 0) : failsAt ((enc l).take j) (j : Int) = true := by
  have := dec_cut j l h h4
  simp [failsAt, dec, this]
theorem cut_ok (l : List UInt8) (j : Nat) (h : j ≤ (enc l).length) (h4 : j % 4 = 0) : okOf ((enc l).take j) (l.take (min l.length (j / 4 * 3))) = true := by
  have e := enc_take (j / 4) l (by omega)
  rw [show 4 * (j / 4) = j by omega, show 3 * (j / 4) = j / 4 * 3 by omega] at e
  have e2 : l.take (min l.length (j / 4 * 3)) = l.take (j / 4 * 3) := by
    rw [Nat.min_comm, ← List.take_take, List.take_length]
  rw [e, e2]
  exact okOf_enc _
theorem cut_fails (E : List UInt8) (j : Nat) (w : World) (hE : E.length ≤ 100000) (h : failsAt (E.take j) (j : Int) = true) :
    Calls Try.prog 22 #[.string ((ByteArray.mk E.toArray).extract 0 j), .int .i64 (j : Int)] w fun e w' => e = .returned (.bool true) ∧ Below w.heap.size w w' := by
  rw [str_take]
  refine (fails_any _ _ w (by rw [List.length_take]; omega)).mono ?_
  rintro e w' ⟨rfl, hb⟩
  exact ⟨by rw [h], hb⟩
theorem cut_got (E b : List UInt8) (j : Nat) (w : World) (hE : E.length ≤ 100000) (h : okOf (E.take j) b = true) :
    Calls Try.prog 20 #[.string ((ByteArray.mk E.toArray).extract 0 j), .string ⟨b.toArray⟩] w fun e w' => e = .returned (.bool true) ∧ Below w.heap.size w w' := by
  rw [str_take]
  refine (got_any _ _ w (by rw [List.length_take]; omega)).mono ?_
  rintro e w' ⟨rfl, hb⟩
  exact ⟨by rw [h], hb⟩
set_option maxRecDepth 100000 in
set_option maxHeartbeats 4000000 in
theorem b64Cut_walk (A : Option Addr) (n c : Nat) (zs : List Int) (k : Int) (w : World) (h : IsInts .u8 w A n c zs) (_hk : (Lit.int .i64 k).wf = true) :
    Calls Try.prog 8 #[.slice A n c, .int .i64 k] w fun e w' => e = .returned (.bool true) ∧ Below w.heap.size w w' := by
  obtain ⟨hr, hn, hc, hwf⟩ := h
  rw [asBytes_cells hwf] at hr
  have hcut := Lib.hid (cut_any A n c _ w hr hn)
  have hl3 : ((asBytes zs).take 300).length ≤ 300 := by rw [List.length_take]; omega
  generalize (asBytes zs).take 300 = l at hcut hl3
  have hEl := enc_length l
  have hE3 : (enc l).length ≤ 100000 := by omega
  obtain ⟨m, hm⟩ : ∃ m, l.length = m := ⟨_, rfl⟩
  obtain ⟨j, hj⟩ : ∃ j : Nat, k % (((enc l).length : Int) + 1) = (j : Int) := ⟨(k % (((enc l).length : Int) + 1)).toNat, (Int.toNat_of_nonneg (Int.emod_nonneg _ (by omega))).symm⟩
  have hj1 : j ≤ (enc l).length := by have := Int.emod_lt_of_pos k (b := ((enc l).length : Int) + 1) (by omega); omega
  have j0 : (0 : Int) ≤ (j : Int) := by omega
  have j1 : (j : Int) ≤ ((enc l).length : Int) := by omega
  have HJ := Lib.hid hj
  have HM := Lib.hid hm
  rw [hm] at hl3 hcut
  clear hr hwf hEl hj hm _hk
  have hk := Below.refl w.heap.size w
  by_cases h4 : j % 4 = 0
  · have q4 : ((j : Int) % 4 != 0) = false := by simp; omega
    have hok := cut_ok l j hj1 h4
    rw [HM.out] at hok
    obtain ⟨t, ht⟩ : ∃ t, min m (j / 4 * 3) = t := ⟨_, rfl⟩
    rw [ht] at hok
    have htm : t ≤ m := by omega
    have ht2 : min (m : Int) ((j : Int) / 4 * 3) = (t : Int) := by omega
    have hgot := Lib.hid (fun w0 : World => cut_got (enc l) (l.take t) j w0 hE3 hok)
    clear hok h4 ht
    go_enter Try.func8, Try.ntmps8
    go_wp2_with (first
      | (go_at_call 19; refine hcut.out.mono ?_; rintro e w1 ⟨⟨v, rfl, ho⟩, hb⟩; obtain ⟨B, d, rfl, hd, hd'⟩ := own_shape ho; have hB := Rd.of_own ho; replace hk := below_then hk hb; clear hb ho)
      | (go_at_call 12; refine (put_any B _ d l _ hB hd (by omega)).mono ?_; rintro e w1 ⟨rfl, hb⟩; replace hB := hB.below hb; replace hk := below_then hk hb; clear hb)
      | (go_at_call 21; refine (bring_any _ _ (by omega) (by omega) _).mono ?_; rintro e w1 ⟨rfl, rfl⟩; rw [HJ.out]))
    have e1 : ∀ u : Upw w1, (convert 22 9 (.slice B t d)).run Try.prog u.it = .ok (.string ⟨(l.take t).toArray⟩) u.it := fun u => run_str (c := d) (by have := (hB.upw u).take1 htm; simpa [Lib.byteCells, List.map_take] using this)
    refine wp_region_upw (by kernel_rfl) (by kernel_rfl) ?_
    repeat (go_big_quiet_step (first
      | (with_reducible exact Calls.upw (hgot.out _))
      | (with_reducible exact Calls.upw (works_any _))))
    refine wpQuiet_nil ?_
    intro _ hw'
    obtain ⟨nq, hw''⟩ := hw'
    subst hw''
    go_wp2
    go_ret
    exact ⟨rfl, hk.trans (nq.ok.mono hk.size)⟩
  · have q4 : ((j : Int) % 4 != 0) = true := by simp; omega
    have hfa := cut_bad l j hj1 h4
    have hf := Lib.hid (fun w0 : World => cut_fails (enc l) j w0 hE3 hfa)
    clear hfa h4
    go_enter Try.func8, Try.ntmps8
    go_wp2_with (first
      | (go_at_call 19; refine hcut.out.mono ?_; rintro e w1 ⟨⟨v, rfl, ho⟩, hb⟩; obtain ⟨B, d, rfl, hd, hd'⟩ := own_shape ho; have hB := Rd.of_own ho; replace hk := below_then hk hb; clear hb ho)
      | (go_at_call 12; refine (put_any B _ d l _ hB hd (by omega)).mono ?_; rintro e w1 ⟨rfl, hb⟩; replace hB := hB.below hb; replace hk := below_then hk hb; clear hb)
      | (go_at_call 21; refine (bring_any _ _ (by omega) (by omega) _).mono ?_; rintro e w1 ⟨rfl, rfl⟩; rw [HJ.out])
      | (go_at_call 22; refine (hf.out _).mono ?_; rintro e w1 ⟨rfl, hb⟩; replace hk := below_then hk hb; clear hb)
      | (go_at_call 15; refine (works_any _).mono ?_; rintro e w1 ⟨rfl, hb⟩; replace hk := below_then hk hb; clear hb))
    go_ret
    exact ⟨rfl, hk⟩
end Go.Proofs.Ytcoboifdmpeelaa
