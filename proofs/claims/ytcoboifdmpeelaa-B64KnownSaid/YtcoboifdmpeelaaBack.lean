import Derived.Test.YtcoboifdmpeelaaDecEnc
namespace Go.Proofs.Ytcoboifdmpeelaa
open Go.RowKit
theorem okOf_enc (l : List UInt8) : okOf (enc l) l = true := by simp [okOf, dec_enc]
set_option maxHeartbeats 2000000 in
theorem b64Back_walk (A : Option Addr) (n c : Nat) (zs : List Int) (w : World) (h : IsInts .u8 w A n c zs) :
    Calls Try.prog 5 #[.slice A n c] w fun e w' => e = .returned (.bool true) ∧ Below w.heap.size w w' := by
  obtain ⟨hr, hn, hc, hwf⟩ := h
  rw [asBytes_cells hwf] at hr
  have hcut := cut_any A n c _ w hr hn
  have hl3 : ((asBytes zs).take 300).length ≤ 300 := by rw [List.length_take]; omega
  generalize (asBytes zs).take 300 = l at hcut hl3
  obtain ⟨m, hm⟩ : ∃ m, l.length = m := ⟨_, rfl⟩
  obtain ⟨E, hE⟩ : ∃ E, enc l = E := ⟨_, rfl⟩
  have hEl := enc_length l
  have hok := okOf_enc l
  rw [hE] at hEl hok
  rw [hm] at hEl hl3 hcut
  have hq : ((E.length : Int) == ((m : Int) + 2) / 3 * 4) = true := by simp; omega
  have hE3 : E.length ≤ 1000000 := by omega
  have HE := Lib.hid hE
  have HOK := Lib.hid hok
  clear hr hwf hEl hE hm hok
  have hk := Below.refl w.heap.size w
  go_enter Try.func5, Try.ntmps5
  go_wp2_with (first
    | (go_at_call 19; refine hcut.mono ?_; rintro e w1 ⟨⟨v, rfl, ho⟩, hb⟩; obtain ⟨B, d, rfl, hd, hd'⟩ := own_shape ho; have hB := Rd.of_own ho; replace hk := below_then hk hb; clear hb ho)
    | (go_at_call 12; refine (put_any B _ d l _ hB hd (by omega)).mono ?_; rintro e w1 ⟨rfl, hb⟩; rw [HE.out]; replace hB := hB.below hb; replace hk := below_then hk hb; clear hb; have e1 := run_str (c := d) hB)
    | (go_at_call 20; refine (got_any E l _ hE3).mono ?_; rintro e w1 ⟨rfl, hb⟩; rw [HOK.out]; replace hk := below_then hk hb; clear hb)
    | (go_at_call 15; refine (works_any _).mono ?_; rintro e w1 ⟨rfl, hb⟩))
  go_ret
  exact ⟨rfl, below_then hk (by assumption)⟩
end Go.Proofs.Ytcoboifdmpeelaa
