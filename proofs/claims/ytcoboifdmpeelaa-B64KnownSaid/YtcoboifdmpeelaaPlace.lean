import Derived.Test.YtcoboifdmpeelaaCut
import Derived.Deep.DeepCutAuto
namespace Go.Proofs.Ytcoboifdmpeelaa
open Go.RowKit
def moreAt (j : Nat) : List UInt8 := mores.getD j []
def okD (l : List UInt8) : Bool := match dec l with
  | .ok _ => true
  | .bad _ => false
/-- Whether one of the first j continuations is right. -/
def someOf (p : List UInt8) (j : Nat) : Bool := (mores.take j).any fun m => okD (p ++ m)
theorem someOf_succ (p : List UInt8) (j : Nat) (h : j < 9) : someOf p (j + 1) = (someOf p j || okD (p ++ moreAt j)) := by
  unfold someOf moreAt
  rw [List.take_succ_eq_append_getElem (show j < mores.length by simpa [mores] using h), List.any_append]
  simp [show j < mores.length by simpa [mores] using h]
theorem someOf_all (p : List UInt8) (h : Fit 0 0 0 p) : someOf p 9 = true := by
  obtain ⟨m, hm, b, hb⟩ := h
  unfold someOf
  rw [show mores.take 9 = mores from rfl]
  exact List.any_eq_true.2 ⟨m, hm, by simp [okD, dec, hb]⟩
theorem moreAt_len (j : Nat) : (moreAt j).length ≤ 3 := by
  rcases Nat.lt_or_ge j 9 with h | h
  · have : j = 0 ∨ j = 1 ∨ j = 2 ∨ j = 3 ∨ j = 4 ∨ j = 5 ∨ j = 6 ∨ j = 7 ∨ j = 8 := by omega
    rcases this with rfl | rfl | rfl | rfl | rfl | rfl | rfl | rfl | rfl <;> decide
  · simp [moreAt, List.getD, List.getElem?_eq_none (show mores.length ≤ j from h)]
def moreCells : Array Value := #[.string ⟨#[]⟩, .string ⟨#[65]⟩, .string ⟨#[61]⟩, .string ⟨#[65, 65]⟩, .string ⟨#[65, 61]⟩, .string ⟨#[61, 61]⟩, .string ⟨#[65, 65, 65]⟩, .string ⟨#[65, 65, 61]⟩, .string ⟨#[65, 61, 61]⟩]
theorem more_cell (w : World) (j : Nat) (h : j < 9) : (w.alloc (.cells moreCells 9)).cell? ⟨w.heap.size, j, none⟩ = some (.string ⟨(moreAt j).toArray⟩) := by
  rw [cell_of_row _ _ _ _ 9 (0, 0) (heap_alloc_last _ _)]
  have : j = 0 ∨ j = 1 ∨ j = 2 ∨ j = 3 ∨ j = 4 ∨ j = 5 ∨ j = 6 ∨ j = 7 ∨ j = 8 := by omega
  rcases this with rfl | rfl | rfl | rfl | rfl | rfl | rfl | rfl | rfl <;> rfl
theorem below_d {w w1 : World} (h : Below w.drew.heap.size w.drew w1) : Below w.heap.size w w1 := ⟨h.os, h.tape, h.output, h.size, h.block⟩
theorem place_fails (r q : List UInt8) (k : Nat) (w : World) (hr : r.length ≤ 1000) (hq : q.length ≤ 1000) (h : decS 0 0 0 (r.take (k + 1) ++ q) = .bad k) :
    Calls Try.prog 22 #[.string ((ByteArray.mk r.toArray).extract 0 (k + 1) ++ ⟨q.toArray⟩), .int .i64 (k : Int)] w fun e w' => e = .returned (.bool true) ∧ Below w.heap.size w w' := by
  rw [str_take, str_app]
  refine (fails_any _ _ w (by rw [List.length_append, List.length_take]; omega)).mono ?_
  rintro e w' ⟨rfl, hb⟩
  exact ⟨by simp [failsAt, dec, h], hb⟩
theorem place_get (r m : List UInt8) (k : Nat) (w : World) (hl : (r.take k ++ m).length ≤ 1000000) :
    Calls Try.prog 17 #[.string ((ByteArray.mk r.toArray).extract 0 k ++ ⟨m.toArray⟩)] w fun e w' => (∃ v p : _, e = .returned (.tuple #[v, .int .i64 p, .int .i64 (if okD (r.take k ++ m) = true then 0 else 50)])) ∧ Below w.heap.size w w' := by
  rw [str_take, str_app]
  refine (get_any _ w hl).mono ?_
  rintro e w' ⟨hG, hb⟩
  refine ⟨?_, hb⟩
  unfold okD
  cases hd : dec (r.take k ++ m) with
  | ok bs =>
    rw [hd] at hG
    obtain ⟨A, c, rfl, _⟩ := hG
    exact ⟨_, _, rfl⟩
  | bad k =>
    rw [hd] at hG
    have hG : e = _ := hG
    subst hG
    exact ⟨_, _, rfl⟩
set_option maxRecDepth 100000 in
set_option maxHeartbeats 8000000 in
theorem b64Place_walk (s t : ByteArray) (w : World) (hs : s.size ≤ maxLen) (ht : t.size ≤ maxLen) :
    Calls Try.prog 9 #[.string s, .string t] w fun e w' => e = .returned (.bool true) ∧ Below w.heap.size w w' := by
  obtain ⟨l, rfl, hl⟩ := as_list s hs
  obtain ⟨b, rfl, hb0⟩ := as_list t ht
  have hsh := Lib.hid (fun w => short_max l 300 w hl (by omega))
  have hsh2 := Lib.hid (fun w => short_max b 60 w hb0 (by omega))
  have hr : (l.take 300).length ≤ 300 := by rw [List.length_take]; omega
  have hq : (b.take 60).length ≤ 60 := by rw [List.length_take]; omega
  generalize l.take 300 = r at hsh hr
  generalize b.take 60 = q at hsh2 hq
  clear hl hs ht hb0
  have hk := Below.refl w.heap.size w
  have hg := Lib.hid (fun w => get_any r w (by omega))
  cases hd : dec r with
  | ok bs =>
    rw [hd] at hg
    clear hd
    go_enter Try.func9, Try.ntmps9
    go_wp2_with (first
      | (go_at_call 15; refine (works_any _).mono ?_; rintro e w1 ⟨rfl, hb⟩; replace hk := below_then hk hb; clear hb)
      | (go_at_call 16; refine (hsh.out _).mono ?_; rintro e w1 ⟨rfl, rfl⟩)
      | (go_at_call 17; refine (hg.out _).mono ?_; rintro e w1 ⟨⟨A, c, rfl, hc, hc', hR⟩, hb⟩; replace hk := below_then hk hb; clear hb))
    go_ret
    exact ⟨rfl, hk⟩
  | bad k =>
    rw [hd] at hg
    have hle := bad_le _ _ _ _ _ hd
    have hfit := someOf_all _ (bad_fit _ _ _ _ _ (Or.inl ⟨rfl, by omega, by simp⟩) hd)
    have hbeh := bad_behind r 0 0 0 k q hd
    have q1 : (0 : Int) ≤ (k : Int) := by omega
    have q2 : (k : Int) ≤ (r.length : Int) := by omega
    have q3 : decide (r.length < k) = false := by simp; omega
    have q4 : decide ((k : Int) < 0) = false := by simp
    have HFIT := Lib.hid hfit
    have HBEH := Lib.hid hbeh
    clear hd hfit hbeh
    go_enter Try.func9, Try.ntmps9
    go_wp2_with (first
      | (go_at_call 15; refine (works_any _).mono ?_; rintro e w1 ⟨rfl, hb⟩; replace hk := below_then hk hb; clear hb)
      | (go_at_call 16; refine (hsh.out _).mono ?_; rintro e w1 ⟨rfl, rfl⟩)
      | (go_at_call 17; refine (hg.out _).mono ?_; rintro e w1 ⟨rfl, hb⟩; replace hk := below_then hk hb; clear hb))
    obtain ⟨wo, rfl⟩ : ∃ wo : World, wo = w1 := ⟨_, rfl⟩
    go_loopw [8, 10] (fun s i wr => ∃ j : Nat, j ≤ 9 ∧ i = .int .i64 j ∧ s = .bool (someOf (r.take k) j) ∧ Below w.heap.size w wr ∧ Below (wo.heap.size + 1) (wo.alloc (.cells moreCells 9)) wr) (fun _ i _ => 9 - (intOf i).toNat)
    case atStart => exact ⟨0, by omega, rfl, rfl, below_alloc hk _, Below.refl _ _⟩
    case round =>
      obtain ⟨j, hj, rfl, rfl, hb, hb2⟩ := hrel
      by_cases hlt : j < 9
      · have hlen := moreAt_len j
        have hgl : (r.take k ++ moreAt j).length ≤ 1000000 := by rw [List.length_append, List.length_take]; omega
        have g : wr.cell? ⟨wo.heap.size, j, none⟩ = some (.string ⟨(moreAt j).toArray⟩) := (hb2.cell (by simp)).trans (more_cell wo j hlt)
        have hS := Lib.hid (someOf_succ (r.take k) j hlt)
        have hP := Lib.hid (fun w0 : World => place_get r (moreAt j) k w0 hgl)
        have hl2 : k + (moreAt j).length ≤ 1000 := by omega
        clear hgl
        cases hok : okD (r.take k ++ moreAt j)
        all_goals
          rw [hok] at hP hS
          clear hok
          cases hso : someOf (r.take k) j
          all_goals
            rw [hso] at hS
            clear hso
            go_upto_region 12 with fail
            go_region_with (go_at_call 17; refine (hP.out _).mono ?_; rintro e w2 ⟨⟨v, p, rfl⟩, hb3⟩)
            all_goals
              go_wp2
              go_roundw
              case rel => exact ⟨j + 1, by omega, by go_num, by rw [hS.out]; rfl, below_then hb (below_d hb3), hb2.trans ((below_d hb3).mono (by simpa using hb2.size))⟩
              case measure => simp [intOf]; omega
      · obtain rfl : j = 9 := by omega
        rw [HFIT.out]
        by_cases hkr : k < r.length
        · have hF := HBEH.out hkr
          have hk1 : ((k : Int) == (r.length : Int)) = false := by simp; omega
          have hff := Lib.hid (fun w0 : World => place_fails r q k w0 (by omega) (by omega) hF)
          clear hF
          go_wp2
          refine wp_region_upw (by kernel_rfl) (by kernel_rfl) ?_
          repeat (go_big_quiet_step (first
            | (with_reducible exact Calls.upw_same (hsh2.out _))
            | (with_reducible exact Calls.upw (hff.out _))
            | (with_reducible exact Calls.upw (works_any _))))
          refine wpQuiet_nil ?_
          intro _ hw'
          obtain ⟨nq, hw''⟩ := hw'
          subst hw''
          go_wp2
          go_ret
          exact ⟨rfl, hb.trans (nq.ok.mono hb.size)⟩
        · have hk1 : ((k : Int) == (r.length : Int)) = true := by simp; omega
          go_wp2
          refine wp_region_upw (by kernel_rfl) (by kernel_rfl) ?_
          repeat (go_big_quiet_step (first
            | (with_reducible exact Calls.upw (works_any _))))
          refine wpQuiet_nil ?_
          intro _ hw'
          obtain ⟨nq, hw''⟩ := hw'
          subst hw''
          go_wp2
          go_ret
          exact ⟨rfl, hb.trans (nq.ok.mono hb.size)⟩
end Go.Proofs.Ytcoboifdmpeelaa
