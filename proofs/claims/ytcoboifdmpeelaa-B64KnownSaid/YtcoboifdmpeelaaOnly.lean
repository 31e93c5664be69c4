import Derived.Test.YtcoboifdmpeelaaDecLaws
import Derived.Test.YtcoboifdmpeelaaQuiet
namespace Go.Proofs.Ytcoboifdmpeelaa
open Go.RowKit
set_option maxHeartbeats 1000000 in
theorem short_max (l : List UInt8) (k : Nat) (w : World) (hl : l.length ≤ 9223372036854775807) (hk : k ≤ 100000) :
    Calls Try.prog 16 #[.string ⟨l.toArray⟩, .int .i64 (k : Int)] w fun e w' => e = .returned (.string ⟨(l.take k).toArray⟩) ∧ w = w' := by
  go_enter Try.func16, Try.ntmps16
  go_wp2
  go_ret
  refine ⟨?_, rfl⟩
  have : (min (l.length : Int) (k : Int)).toNat = min l.length k := by omega
  show Ending.returned (.string ((ByteArray.mk l.toArray).extract 0 (min (l.length : Int) (k : Int)).toNat)) = _
  rw [this, str_take]
  congr 4
  rw [Nat.min_comm, ← List.take_take, List.take_length]
theorem as_list (s : ByteArray) (h : s.size ≤ maxLen) : ∃ l : List UInt8, s = ⟨l.toArray⟩ ∧ l.length ≤ 9223372036854775807 := by
  refine ⟨s.data.toList, by simp, ?_⟩
  unfold maxLen at h
  simpa using h
set_option maxHeartbeats 2000000 in
theorem b64Only_walk (s : ByteArray) (w : World) (hs : s.size ≤ maxLen) :
    Calls Try.prog 6 #[.string s] w fun e w' => e = .returned (.bool true) ∧ Below w.heap.size w w' := by
  obtain ⟨l, rfl, hl⟩ := as_list s hs
  have hsh := Lib.hid (fun w => short_max l 400 w hl (by omega))
  have hr : (l.take 400).length ≤ 400 := by rw [List.length_take]; omega
  generalize l.take 400 = r at hsh hr
  clear hl hs
  have hk := Below.refl w.heap.size w
  have hg := Lib.hid (fun w => get_any r w (by omega))
  cases hd : dec r with
  | ok bs =>
    rw [hd] at hg
    have he := dec_ok_enc _ r bs (Nat.le_refl _) hd
    have hl2 := enc_length bs
    rw [he] at hl2
    have hb3 : bs.length ≤ 1000 := by omega
    have HE := Lib.hid he
    clear hd he hl2 hr
    go_enter Try.func6, Try.ntmps6
    go_wp2_with (first
      | (go_at_call 15; refine (works_any _).mono ?_; rintro e w1 ⟨rfl, hb⟩; replace hk := below_then hk hb; clear hb)
      | (go_at_call 16; refine (hsh.out _).mono ?_; rintro e w1 ⟨rfl, rfl⟩)
      | (go_at_call 17; refine (hg.out _).mono ?_; rintro e w1 ⟨⟨A, c, rfl, hc, hc', hR⟩, hb⟩; replace hk := below_then hk hb; clear hb)
      | (go_at_call 12; refine (put_any A _ c bs _ hR hc (by omega)).mono ?_; rintro e w1 ⟨rfl, hb⟩; rw [HE.out]; replace hk := below_then hk hb; clear hb))
    go_ret
    exact ⟨rfl, hk⟩
  | bad k =>
    rw [hd] at hg
    have hle := bad_le _ _ _ _ _ hd
    have q1 : (0 : Int) ≤ (k : Int) := by omega
    have q2 : (k : Int) ≤ (r.length : Int) := by omega
    clear hd
    go_enter Try.func6, Try.ntmps6
    go_wp2_with (first
      | (go_at_call 15; refine (works_any _).mono ?_; rintro e w1 ⟨rfl, hb⟩; replace hk := below_then hk hb; clear hb)
      | (go_at_call 16; refine (hsh.out _).mono ?_; rintro e w1 ⟨rfl, rfl⟩)
      | (go_at_call 17; refine (hg.out _).mono ?_; rintro e w1 ⟨rfl, hb⟩; replace hk := below_then hk hb; clear hb))
    go_ret
    exact ⟨rfl, hk⟩
end Go.Proofs.Ytcoboifdmpeelaa
