import Derived.Test.YtcoboifdmpeelaaRefGet
namespace Go.Proofs.Ytcoboifdmpeelaa
open Go.RowKit
theorem str_cut (l : List UInt8) (a b : Nat) : (ByteArray.mk l.toArray).extract a b = ⟨((l.drop a).take (b - a)).toArray⟩ := by
  apply ByteArray.ext
  apply Array.ext'
  simp [List.extract_eq_take_drop]
/-- What the reference has decoded before byte i. -/
def RS (l : List UInt8) (i : Nat) (out : List UInt8) : Prop :=
  (out.length = i / 4 * 3 ∧ decS 0 0 0 l = Res.up i out (decS 0 0 0 (l.drop i))) ∨ (out.length < i / 4 * 3 ∧ decS 0 0 0 l = if l.drop i = [] then .ok out else .bad i)
theorem rs_step {l : List UInt8} {i : Nat} {out bs : List UInt8} (h4 : i % 4 = 0) (hlen : out.length = i / 4 * 3) (he : decS 0 0 0 l = Res.up i out (decS 0 0 0 (l.drop i)))
    (h3 : bs.length ≤ 3) (h : (bs.length = 3 ∧ ∀ r, decS 0 0 0 ((l.drop i).take 4 ++ r) = Res.up 4 bs (decS 0 0 0 r)) ∨ (bs.length < 3 ∧ ∀ r, decS 0 0 0 ((l.drop i).take 4 ++ r) = if r = [] then .ok bs else .bad 4)) : RS l (i + 4) (out ++ bs) := by
  have hd : l.drop i = (l.drop i).take 4 ++ l.drop (i + 4) := by
    conv => lhs; rw [← List.take_append_drop 4 (l.drop i)]
    rw [List.drop_drop]
  rcases h with ⟨hb, h⟩ | ⟨hb, h⟩
  · refine Or.inl ⟨by rw [List.length_append]; omega, ?_⟩
    rw [he, hd, h, up_up]
  · refine Or.inr ⟨by rw [List.length_append]; omega, ?_⟩
    rw [he, hd, h]
    split <;> rfl
theorem decS_app_nil {l : List UInt8} {out : List UInt8} {i : Nat} (hi : l.length ≤ i) (h : RS l i out) : decS 0 0 0 l = .ok out := by
  have hd := List.drop_eq_nil_of_le hi
  rcases h with ⟨_, h⟩ | ⟨_, h⟩
  · rw [h, hd, decS, if_neg (by omega)]; simp [Res.up]
  · rw [h, hd, if_pos rfl]
set_option maxRecDepth 100000 in
set_option maxHeartbeats 8000000 in
theorem refGet_any (l : List UInt8) (w : World) (hl : l.length ≤ 1000000) :
    Calls Try.prog 18 #[.string ⟨l.toArray⟩] w fun e w' => Gives (dec l) e w' ∧ Below w.heap.size w w' := by
  obtain ⟨i0, hi, hz0, hz1, hz2⟩ := info_parts infoB
  go_enter Try.func18, Try.ntmps18
  go_wp2
  go_loopw [5, 6] (fun v i wr => ∃ (k m : Nat) (out : List UInt8), k % 4 = 0 ∧ k ≤ l.length ∧ i = .int .i64 k ∧ out.length = m ∧ m ≤ k ∧ wr.ownsRow w.heap.size 5 1 v m (Lib.byteCells out) ∧ Hid (RS l k out) ∧ Below w.heap.size w wr) (fun _ i _ => l.length + 1 - (intOf i).toNat)
  case atStart => exact ⟨0, 0, [], by omega, by omega, rfl, rfl, by omega, World.ownsRow_nil _ _ _ _, Or.inl ⟨by simp, by simp only [List.drop_zero]; cases decS 0 0 0 l <;> simp [Res.up]⟩, Below.refl _ _⟩
  case round =>
    obtain ⟨k, m, out, h4, hk, rfl, hm, hmk, hown, HR, hb⟩ := hrel
    obtain ⟨A, cp, rfl, hcap, hcap2⟩ := own_shape hown
    by_cases hlt : k < l.length
    · have HR2 := HR.out
      have HM := Lib.hid hm
      rcases HR2 with ⟨hlen, he⟩ | ⟨hlen, he⟩
      · have hle : ¬ ((m : Int) < (k : Int) / 4 * 3) := by omega
        obtain ⟨q, hq⟩ : ∃ q, min (k + 4) l.length = q := ⟨_, rfl⟩
        have hqi : min ((k : Int) + 4) (l.length : Int) = (q : Int) := by omega
        have hkq : (k : Int) ≤ (q : Int) := by omega
        have hql : (q : Int) ≤ (l.length : Int) := by omega
        have hkq' : k ≤ q := by omega
        have hql' : q ≤ l.length := by omega
        have hs4 : (l.drop k).take (q - k) = (l.drop k).take 4 := by
          rcases Nat.le_total (k + 4) l.length with h | h
          · rw [show q - k = 4 by omega]
          · rw [List.take_of_length_le (by rw [List.length_drop]; omega), List.take_of_length_le (by rw [List.length_drop]; omega)]
        have hg := group_any ((l.drop k).take 4)
        have hsl : ((l.drop k).take 4).length = min 4 (l.length - k) := by rw [List.length_take, List.length_drop]
        have hg2 := Lib.hid (fun w0 : World => hg w0 (by omega) (by omega))
        have hstr := str_cut l k q
        rw [hs4] at hstr
        have HE := Lib.hid he
        have HS := Lib.hid hsl
        have HL := Lib.hid hlen
        have HQ := Lib.hid hq
        have H4 := Lib.hid h4
        clear he hg hsl hs4 hlen hq h4 hm
        go_wp2_with fail
        refine (hg2.out _).mono ?_
        rintro e w2 ⟨hG, hb2⟩
        have hbb := hb.trans (hb2.mono hb.size)
        have hsz := hb2.size
        have hown2 := own_below hown hb2
        have hrest : l.drop k = (l.drop k).take 4 ++ l.drop (k + 4) := by
          conv => lhs; rw [← List.take_append_drop 4 (l.drop k)]
          rw [List.drop_drop]
        rcases hG with ⟨j, hj4, rfl, hjb⟩ | ⟨B, bs, rfl, hB, hsl4, hb3, hbs⟩
        · have hr4 : ((l.drop k).take 4).length = 4 ∨ l.drop (k + 4) = [] := by
            have := HS.out
            rcases Nat.le_total (k + 4) l.length with h | h
            · left; omega
            · right; exact List.drop_eq_nil_of_le h
          have hbad := hjb _ hr4
          rw [← hrest] at hbad
          have hfin : dec l = .bad (k + j) := by unfold dec; rw [HE.out, hbad]; rfl
          have HF := Lib.hid hfin
          clear hr4 hbad hfin hjb hrest hstr
          go_wp2
          go_ret3
          exact ⟨by rw [HF.out]; rfl, hbb⟩
        · have hk4 : k + 4 ≤ l.length := by have := HS.out; omega
          have hq4 : (k : Int) + 4 = ((k + 4 : Nat) : Int) := by omega
          have hst := rs_step H4.out HL.out HE.out hb3 hbs
          have HST := Lib.hid hst
          clear hst hbs hrest hstr hsl4 hq4
          go_wp2_with (at_builtin; refine wpList_append_rd rfl _ _ _ 22 rfl w.heap.size 5 i0 (.int .u8 0) 1 1 Try.underlying22 hi hz0 hz1 hz2 rfl (by decide) _ m _ rfl hown2 B bs.length bs.length (Lib.byteCells bs) rfl hB (u8_one _) (by unfold maxLen; omega) (by omega) hbb.size ?_; intro v5 w5 hown5 hg5; have hb5 := grown_below hown2 hg5 hbb.size)
          rw [← byteCells_app] at hown5
          go_roundw
          case rel => exact ⟨k + 4, m + bs.length, out ++ bs, by have := H4.out; omega, hk4, by go_num, by rw [List.length_append, HM.out], by omega, hown5, HST, hbb.trans hb5⟩
          case measure => simp [intOf]; omega
      · have hle : ((m : Int) < (k : Int) / 4 * 3) := by omega
        have hne : l.drop k ≠ [] := by
          intro hh
          have := congrArg List.length hh
          rw [List.length_drop, List.length_nil] at this
          omega
        rw [if_neg hne] at he
        have HE := Lib.hid he
        clear he hne hlen h4 hm
        go_wp2
        go_ret3
        exact ⟨by unfold dec; rw [HE.out]; rfl, hb⟩
    · obtain rfl : k = l.length := by omega
      have he := Lib.hid (decS_app_nil (Nat.le_refl _) HR.out)
      subst hm
      clear h4
      go_wp2
      go_ret3
      exact ⟨by unfold dec; rw [he.out]; exact ⟨A, cp, rfl, hcap, hcap2, Rd.of_own hown⟩, hb⟩
set_option maxHeartbeats 4000000 in
theorem b64Gets_walk (s : ByteArray) (w : World) (hs : s.size ≤ maxLen) :
    Calls Try.prog 4 #[.string s] w fun e w' => e = .returned (.bool true) ∧ Below w.heap.size w w' := by
  obtain ⟨l, rfl, hl⟩ := as_list s hs
  have hsh := Lib.hid (fun w => short_max l 400 w hl (by omega))
  have hr : (l.take 400).length ≤ 400 := by rw [List.length_take]; omega
  generalize l.take 400 = r at hsh hr
  clear hl hs
  have hk := Below.refl w.heap.size w
  have hg := Lib.hid (fun w => get_any r w (by omega))
  have hf := Lib.hid (fun w => refGet_any r w (by omega))
  cases hd : dec r with
  | ok bs =>
    rw [hd] at hg hf
    clear hd
    go_enter Try.func4, Try.ntmps4
    go_wp2_with (first
      | (go_at_call 16; refine (hsh.out _).mono ?_; rintro e w1 ⟨rfl, rfl⟩)
      | (go_at_call 17; refine (hg.out _).mono ?_; rintro e w1 ⟨⟨A, c, rfl, hc, hc', hR⟩, hb⟩; replace hk := below_then hk hb; clear hb)
      | (go_at_call 18; refine (hf.out _).mono ?_; rintro e w1 ⟨⟨B, d, rfl, hd, hd', hR2⟩, hb⟩; replace hR := hR.below hb; replace hk := below_then hk hb; clear hb)
      | (go_at_call 14; refine (eqBytes_any A _ c bs B _ d bs _ hR hR2).mono ?_; rintro e w1 ⟨rfl, rfl⟩; rw [show (bs == bs) = true from beq_self_eq_true bs])
      | (go_at_call 15; refine (works_any _).mono ?_; rintro e w1 ⟨rfl, hb⟩; replace hk := below_then hk hb; clear hb))
    go_ret
    exact ⟨rfl, hk⟩
  | bad k =>
    rw [hd] at hg hf
    clear hd
    go_enter Try.func4, Try.ntmps4
    go_wp2_with (first
      | (go_at_call 16; refine (hsh.out _).mono ?_; rintro e w1 ⟨rfl, rfl⟩)
      | (go_at_call 17; refine (hg.out _).mono ?_; rintro e w1 ⟨rfl, hb⟩; replace hk := below_then hk hb; clear hb)
      | (go_at_call 18; refine (hf.out _).mono ?_; rintro e w1 ⟨rfl, hb⟩; replace hk := below_then hk hb; clear hb)
      | (go_at_call 14; refine (eqBytes_any none _ 0 [] none _ 0 [] _ (Rd.none_ _ _ _) (Rd.none_ _ _ _)).mono ?_; rintro e w1 ⟨rfl, rfl⟩; rw [show (([] : List UInt8) == []) = true from rfl])
      | (go_at_call 15; refine (works_any _).mono ?_; rintro e w1 ⟨rfl, hb⟩; replace hk := below_then hk hb; clear hb))
    go_ret
    exact ⟨rfl, hk⟩
end Go.Proofs.Ytcoboifdmpeelaa
