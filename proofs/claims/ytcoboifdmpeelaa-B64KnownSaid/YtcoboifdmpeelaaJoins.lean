import Derived.Test.YtcoboifdmpeelaaOnly
namespace Go.Proofs.Ytcoboifdmpeelaa
open Go.RowKit
theorem infoB : (Try.prog.info? 5).map (fun i => (i.zero, i.size, i.bytes)) = some (some (.int .u8 0), 1, 1) := Try.Builder_Extra_169.infoByte
theorem str_beq_self (a : ByteArray) : (a == a) = true := by
  show (a.data == a.data) = true
  simp
theorem byteCells_len (l : List UInt8) : (Lib.byteCells l).length = l.length := by simp [Lib.byteCells]
theorem join_got (x y : List UInt8) (w : World) (hx3 : enc (x ++ y) = enc x ++ enc y) (hok : okOf (enc (x ++ y)) (x ++ y) = true) (hl : (enc (x ++ y)).length ≤ 1000000) :
    Calls Try.prog 20 #[.string (ByteArray.mk (enc x).toArray ++ ByteArray.mk (enc y).toArray), .string ⟨(x ++ y).toArray⟩] w fun e w' => e = .returned (.bool true) ∧ Below w.heap.size w w' := by
  rw [str_app, ← hx3]
  refine (got_any _ _ w hl).mono ?_
  rintro e w' ⟨rfl, hb⟩
  exact ⟨by rw [hok], hb⟩
set_option maxRecDepth 100000 in
set_option maxHeartbeats 4000000 in
theorem b64Joins_walk (A : Option Addr) (n c : Nat) (zs : List Int) (B : Option Addr) (m d : Nat) (ys : List Int) (w : World) (hA : IsInts .u8 w A n c zs) (hB : IsInts .u8 w B m d ys) :
    Calls Try.prog 7 #[.slice A n c, .slice B m d] w fun e w' => e = .returned (.bool true) ∧ Below w.heap.size w w' := by
  obtain ⟨hr, hn, hc, hwf⟩ := hA
  obtain ⟨hs, hm, hd, hwf2⟩ := hB
  rw [asBytes_cells hwf] at hr
  rw [asBytes_cells hwf2] at hs
  have hcut := Lib.hid (fun w h => cut_any A n c (asBytes zs) w h hn)
  have hcut2 := Lib.hid (fun w h => cut_any B m d (asBytes ys) w h hm)
  have hl3 : ((asBytes zs).take 300).length ≤ 300 := by rw [List.length_take]; omega
  have hl4 : ((asBytes ys).take 300).length ≤ 300 := by rw [List.length_take]; omega
  generalize (asBytes zs).take 300 = x0 at hcut hl3
  generalize (asBytes ys).take 300 = y at hcut2 hl4
  clear hwf hwf2 hc hd hn hm
  obtain ⟨i0, hi, hz0, hz1, hz2⟩ := info_parts infoB
  obtain ⟨p0, hp0⟩ : ∃ p, x0.length = p := ⟨_, rfl⟩
  obtain ⟨q, hq⟩ : ∃ p, y.length = p := ⟨_, rfl⟩
  rw [hp0] at hl3 hcut
  rw [hq] at hl4 hcut2
  have hx : (x0.take (p0 / 3 * 3)).length = p0 / 3 * 3 := by rw [List.length_take]; omega
  have hx3 : enc (x0.take (p0 / 3 * 3) ++ y) = enc (x0.take (p0 / 3 * 3)) ++ enc y := enc_app _ _ (by rw [hx]; omega)
  have hok := okOf_enc (x0.take (p0 / 3 * 3) ++ y)
  have ea := enc_length (x0.take (p0 / 3 * 3))
  have eb := enc_length y
  rw [hx3] at hok
  rw [hx] at ea
  rw [hq] at eb
  obtain ⟨p, hp⟩ : ∃ p, p0 / 3 * 3 = p := ⟨_, rfl⟩
  rw [hp] at hx hx3 hok ea
  have hpp : p ≤ p0 := by omega
  generalize hxe : x0.take p = x at *
  rw [← hx3] at hok
  have HOK := Lib.hid hok
  have la : (enc x).length ≤ 1000 := by omega
  have lb : (enc y).length ≤ 1000 := by omega
  have hEq : (enc (x ++ y) == (ByteArray.mk (enc x).toArray ++ ByteArray.mk (enc y).toArray).toList) = true := by rw [str_app, ← hx3]; simp
  have hgot := Lib.hid (fun w0 : World => join_got x y w0 hx3 hok (by rw [hx3, List.length_append]; omega))
  have HX3 := Lib.hid hx3
  have hpq : (p0 : Int) / 3 * 3 = (p : Int) := by omega
  have HX := Lib.hid hxe
  clear hx3 hok ea eb hp hxe hp0 hq hx
  have hk := Below.refl w.heap.size w
  go_enter Try.func7, Try.ntmps7
  go_wp2_with (first
    | (go_at_call_of 19 A; refine (hcut.out _ hr).mono ?_; rintro e w1 ⟨⟨v, rfl, ho⟩, hb⟩; obtain ⟨X, cx, rfl, hcx, hcx'⟩ := own_shape ho; have hX := Rd.of_own ho; replace hs := hs.below hb; replace hk := below_then hk hb; clear hb ho)
    | (go_at_call_of 19 B; refine (hcut2.out _ hs).mono ?_; rintro e w2 ⟨⟨v, rfl, ho⟩, hb⟩; obtain ⟨Y, cy, rfl, hcy, hcy'⟩ := own_shape ho; have hY := Rd.of_own ho; replace hX := hX.below hb; replace hk := below_then hk hb; clear hb ho))
  have hX' : Rd w2 1 X p (Lib.byteCells x) := by
    have := hX.take1 hpp
    rw [← HX.out]
    simpa [Lib.byteCells, List.map_take] using this
  clear hX hs
  go_wp2_with (first
    | (go_at_call 11; refine (copyBytes_any X p _ x _ hX' (by omega)).mono ?_; rintro e w3 ⟨⟨v, rfl, ho3⟩, hb3⟩; have hX3 := hX'.below hb3; have hY3 := hY.below hb3)
    | (at_builtin; refine wpList_append_rd rfl _ _ _ 22 rfl w2.heap.size 5 i0 (.int .u8 0) 1 1 Try.underlying22 hi hz0 hz1 hz2 rfl (by decide) _ p _ rfl ho3 Y q cy (Lib.byteCells y) rfl hY3 (u8_one _) (by unfold maxLen; omega) (by omega) hb3.size ?_; intro v4 w4 ho4 hg4; have hb4 := hb3.trans (grown_below ho3 hg4 hb3.size); obtain ⟨Z, cz, rfl, hcz, hcz'⟩ := own_shape ho4; have hX4 := hX'.below hb4; have hY4 := hY.below hb4; have hZ4 := Rd.of_own ho4))
  clear ho3 ho4 hg4 hX3 hY3 hb3 hX' hY
  rw [← byteCells_app] at hZ4
  have hk4 := below_then hk hb4
  clear hb4 hk
  refine wp_region_upw (by kernel_rfl) (by kernel_rfl) ?_
  have e1 := fun u : Upw w4 => run_str (c := cz) (hZ4.upw u)
  repeat (go_big_quiet_step (first
    | (with_reducible exact Calls.upw (put_any Z _ cz (x ++ y) _ (hZ4.upw _) hcz (by omega)))
    | (with_reducible exact Calls.upw (put_any X p cx x _ (hX4.upw _) (by omega) (by omega)))
    | (with_reducible exact Calls.upw (put_any Y q cy y _ (hY4.upw _) hcy (by omega)))
    | (with_reducible exact Calls.upw (hgot.out _))
    | (with_reducible exact Calls.upw (works_any _))))
  refine wpQuiet_nil ?_
  intro _ hw'
  obtain ⟨nq, hw''⟩ := hw'
  subst hw''
  go_wp2
  go_ret
  exact ⟨rfl, hk4.trans (nq.ok.mono hk4.size)⟩
end Go.Proofs.Ytcoboifdmpeelaa
