import Derived.Test.YtalegkgonbmaoaaDoorRefPlain
import Derived.BigQuiet
import Derived.BigRegion
import Derived.Deep.QuietTactic
import Derived.Deep.DeepCutAuto
/- The reference's Unquote: it answers what the machine answers. -/
set_option linter.unusedVariables false
set_option linter.unusedSimpArgs false
namespace Go.Proofs.YtalegkgonbmaoaaDoor
open Go.RowKit
theorem wrong_ans (L k e : Nat) : wrongV L k e = ansV (wrongA L k e) := by
  unfold wrongV wrongA ansV
  split <;> rfl
theorem str_cut (l : List UInt8) (a b : Nat) : (ByteArray.mk l.toArray).extract a b = ⟨((l.drop a).take (b - a)).toArray⟩ := by
  apply ByteArray.ext
  simp [List.drop_take]
theorem put_len (r : Int) : (putZ r).1.length ≤ 4 := by
  unfold putZ
  split
  · exact runeLen4 r
  · simp
theorem esc_len {t b : List UInt8} {j : Nat} (h : escP t = .ok b j) : b.length ≤ 4 := by
  have h2 : ∀ (n : Nat) (t b : List UInt8) (j : Nat), escP2 n t = .ok b j → b.length ≤ 4 := by
    intro n t b j h
    unfold escP2 at h
    repeat' split at h
    all_goals first | (injection h with h1 h2; subst h1; exact put_len _) | cases h
  unfold escP at h
  split at h
  · cases h
  · split at h
    · injection h with h1 h2; subst h1; simp
    · split at h
      · unfold escP1 at h
        split at h
        · cases h
        · split at h
          · exact h2 _ _ _ _ h
          · injection h with h1 h2; subst h1; exact put_len _
      · cases h
set_option maxRecDepth 100000 in
set_option maxHeartbeats 8000000 in
theorem refUnq_any (l : List UInt8) (w : World) (hmax : l.length ≤ 100000) :
    Calls Tryd.prog 27 #[.string ⟨l.toArray⟩] w fun e w' => e = .returned (ansV (unq l)) ∧ Below w.heap.size w w' := by
  have hsz : (ByteArray.mk l.toArray).size = l.length := by show l.toArray.size = _; simp
  obtain ⟨R, hR⟩ : ∃ R, refU l = R := ⟨_, rfl⟩
  rw [← refU_unq, hR]
  have cW : ∀ (k : Nat) w, Calls Tryd.prog 43 #[.string ⟨l.toArray⟩, .int .i64 (k : Int), .int .i64 41] w fun e' w' => e' = .returned (wrongV l.length k 41) ∧ w' = w := fun k w => wrong_any l k 41 w (by omega)
  have cW0 : ∀ w, Calls Tryd.prog 43 #[.string ⟨l.toArray⟩, .int .i64 0, .int .i64 41] w fun e' w' => e' = .returned (wrongV l.length 0 41) ∧ w' = w := fun w => wrong_any l 0 41 w (by omega)
  have cU : ∀ (k : Nat) w, Calls Tryd.prog 43 #[.string ⟨l.toArray⟩, .int .i64 (k : Int), .int .i64 40] w fun e' w' => e' = .returned (wrongV l.length k 40) ∧ w' = w := fun k w => wrong_any l k 40 w (by omega)
  have cT : ∀ (k : Nat) w, Calls Tryd.prog 43 #[.string ⟨l.toArray⟩, .int .i64 (k : Int), .int .i64 3] w fun e' w' => e' = .returned (wrongV l.length k 3) ∧ w' = w := fun k w => wrong_any l k 3 w (by omega)
  simp only [wrong_ans] at cW cU cT cW0
  unfold ansV at cW cU cT cW0
  by_cases h0 : l = []
  · subst h0
    have hA : R = wrongA 0 0 41 := hR.symm
    clear cW cU cT hR
    go_enter Tryd.func27, Tryd.ntmps27
    go_wp2_with (go_at_call 43; refine (cW0 _).mono ?_; rintro e w1 ⟨rfl, hw⟩; rw [hw]; clear hw)
    try simp only [Exit.inBlock, Exit.then]
    refine bodyPost_ret (results_tmp4 rfl _ _ _) rfl ?_
    exact ⟨by rw [hA]; rfl, Below.refl _ _⟩
  obtain ⟨a, t, hl⟩ := List.exists_cons_of_ne_nil h0
  have hx0 : ∀ h : 0 < (ByteArray.mk l.toArray).size, (ByteArray.mk l.toArray)[0]'h = a := fun h => by subst hl; rfl
  have hlen : l.length = t.length + 1 := by rw [hl]; simp
  have hne : l.isEmpty = false := by rw [hl]; rfl
  have hpos : (0 : Int) < (l.length : Int) := by omega
  have hR2 : refU l = if a.toNat = 34 then refL l.length l.length (l.drop 1) 1 [] else wrongA l.length 0 41 := by
    rw [hl]; rfl
  rw [hR2] at hR
  clear hR2
  by_cases h34 : a.toNat = 34
  · rw [if_pos h34] at hR
    have hx34 : (a.toNat : Int) = 34 := by omega
    have hR3 := Lib.hid (And.intro hR hlen)
    clear hR h34 hl hlen cW0
    go_enter Tryd.func27, Tryd.ntmps27
    go_wp2
    go_loopw [6, 7] (fun s i wr => ∃ (k g : Nat) (o : List UInt8), 1 ≤ k ∧ k ≤ l.length ∧ s = .string ⟨o.toArray⟩ ∧ i = .int .i64 (k : Int) ∧ o.length ≤ 4 * k ∧ l.length < g + k ∧ refL l.length g (l.drop k) k o = R ∧ Below w.heap.size w wr) (fun _ i _ => l.length - (intOf i).toNat)
    case atStart => exact ⟨1, l.length, [], by omega, by have := hR3.out.2; omega, rfl, rfl, by simp, by omega, hR3.out.1, Below.refl _ _⟩
    case round =>
      obtain ⟨k, g, o, hk1, hk, rfl, rfl, ho, hg, hR, hb⟩ := hrel
      have HB := Lib.hid hb
      clear hR3 hne hx34 hx0 hpos hb h0
      by_cases hlt : k < l.length
      · obtain ⟨c, hc⟩ : ∃ c, l[k]? = some c := ⟨_, List.getElem?_eq_getElem hlt⟩
        have hx : ∀ h : k < (ByteArray.mk l.toArray).size, (ByteArray.mk l.toArray)[k]'h = c := fun h => by
          rw [List.getElem?_eq_getElem hlt] at hc
          injection hc
        have hgk : l[k]'hlt = c := by
          rw [List.getElem?_eq_getElem hlt] at hc
          injection hc
        have hz : (k : Int) < (l.length : Int) := by omega
        have hdr : l.drop k = c :: l.drop (k + 1) := by rw [List.drop_eq_getElem_cons hlt, hgk]
        obtain ⟨g', rfl⟩ : ∃ g', g = g' + 1 := ⟨g - 1, by omega⟩
        have hR' := hR
        rw [hdr, refL] at hR
        by_cases c34 : c.toNat = 34
        · rw [if_pos c34] at hR
          subst hR
          have q1 : (c.toNat : Int) = 34 := by omega
          clear c34 hdr hgk hc hR' hlt
          go_wp2
          try simp only [Exit.inBlock, Exit.then]
          refine bodyPost_ret (results_tmp4 rfl _ _ _) rfl ?_
          exact ⟨by rfl, HB.out⟩
        rw [if_neg c34] at hR
        have q1 : ¬ ((c.toNat : Int) = 34) := by omega
        by_cases c32 : c.toNat < 32
        · rw [if_pos c32] at hR
          subst hR
          have q2 : (c.toNat : Int) < 32 := by omega
          clear c34 c32 hdr hgk hc hR' hlt
          go_wp2_with (go_at_call 43; refine (cW _ _).mono ?_; rintro e w1 ⟨rfl, hw⟩; rw [hw]; clear hw)
          try simp only [Exit.inBlock, Exit.then]
          refine bodyPost_ret (results_tmp4 rfl _ _ _) rfl ?_
          exact ⟨by rfl, HB.out⟩
        rw [if_neg c32] at hR
        have q2 : ¬ ((c.toNat : Int) < 32) := by omega
        by_cases c92 : c.toNat = 92
        · rw [if_pos c92] at hR
          have q3 : (c.toNat : Int) = 92 := by omega
          have cE := fun w => refEscape_any l k w (by omega) (by omega)
          cases he : escP (l.drop (k + 1)) with
          | bad i =>
            rw [he] at hR cE
            simp only [escRV] at hR cE
            subst hR
            obtain ⟨p, hp⟩ : ∃ p, k + i = p := ⟨_, rfl⟩
            rw [hp] at cE
            have HPI := Lib.hid hp
            clear c34 c32 c92 hdr hgk hc hR' hlt he hp
            go_wp2_with (first | (go_at_call 44; refine (cE _).mono ?_; rintro e w2 ⟨rfl, hb2⟩) | (go_at_call 43; refine (cW _ _).mono ?_; rintro e w1 ⟨rfl, hw⟩; rw [hw]; clear hw))
            try simp only [Exit.inBlock, Exit.then]
            refine bodyPost_ret (results_tmp4 rfl _ _ _) rfl ?_
            exact ⟨by rw [HPI.out]; rfl, HB.out.trans (hb2.mono HB.out.size)⟩
          | ok b j =>
            have hbl := esc_len he
            obtain ⟨s', _, _, j2, jl⟩ := (esc_mach [] 0 0 0 (l.drop (k + 1)) 0).2 b j he
            rw [List.length_drop] at jl
            rw [he] at hR cE
            simp only [escRV] at hR cE
            obtain ⟨p, hp⟩ : ∃ p, k + j = p := ⟨_, rfl⟩
            rw [hp] at cE hR
            rw [List.drop_drop, show k + 1 + (j - 1) = p by omega] at hR
            have happ := app_list o b
            obtain ⟨ob, hob⟩ : ∃ ob, o ++ b = ob := ⟨_, rfl⟩
            rw [hob] at hR happ
            have HP := Lib.hid (show k < p ∧ p ≤ l.length ∧ ob.length ≤ 4 * p ∧ l.length < g' + p ∧ refL l.length g' (l.drop p) p ob = R from ⟨by omega, by omega, by rw [← hob, List.length_append]; omega, by omega, hR⟩)
            have hol : o.length ≤ 400000 := by omega
            have hbl' : b.length ≤ 4 := hbl
            clear c34 c32 c92 hdr hgk hc hR' hlt he hp hR hob jl j2 hg ho
            go_wp2_with (first | (go_at_call 44; refine (cE _).mono ?_; rintro e w2 ⟨rfl, hb2⟩) | (go_at_call 43; refine (cW _ _).mono ?_; rintro e w1 ⟨rfl, hw⟩; rw [hw]; clear hw))
            go_roundw
            case rel => exact ⟨p, g', ob, by have := HP.out.1; omega, HP.out.2.1, rfl, rfl, HP.out.2.2.1, HP.out.2.2.2.1, HP.out.2.2.2.2, HB.out.trans (hb2.mono HB.out.size)⟩
            case measure => have := HP.out.1; simp [intOf]; omega
        rw [if_neg c92] at hR
        have q3 : ¬ ((c.toNat : Int) = 92) := by omega
        obtain ⟨m, hm⟩ : ∃ m, l.drop k = m := ⟨_, rfl⟩
        have hml : m.length = l.length - k := by rw [← hm, List.length_drop]
        have hsd := str_drop l k
        rw [hm] at hsd
        rw [← hdr, hm] at hR
        have cN := fun w => refNext_any m w (by omega)
        unfold nextV at cN
        cases hn : nxt m with
        | none =>
          rw [hn] at cN hR
          simp only at cN hR
          rw [show (l.drop (k + 1)).length + 1 = m.length by rw [List.length_drop]; omega] at hR
          obtain ⟨Q, hQ⟩ : ∃ Q, begK m m.length 0 = Q := ⟨_, rfl⟩
          rw [hQ] at hR
          subst hR
          have HM := Lib.hid (show l.drop k = m ∧ m.length = l.length - k from ⟨hm, hml⟩)
          have HQ := Lib.hid hQ
          have HL := Lib.hid hlt
          clear c34 c32 c92 hdr hgk hc hR' hlt hn hm hml hQ ho hg
          go_wp2_with (go_at_call 20; refine (cN _).mono ?_; rintro e w1 ⟨rfl, hb1⟩)
          have HB1 := Lib.hid (HB.out.trans (hb1.mono HB.out.size))
          clear hb1 HB
          go_loopw [15] (fun s wr => ∃ q : Nat, q ≤ m.length ∧ s = .int .i64 (q : Int) ∧ begK m (m.length - q) q = Q ∧ Below w.heap.size w wr) (fun s _ => m.length - (intOf s).toNat)
          case atStart => exact ⟨0, by omega, rfl, HQ.out, HB1.out⟩
          case round =>
            obtain ⟨q, hq, rfl, hbq, hb2⟩ := hrel
            have HB2 := Lib.hid hb2
            clear hb2
            obtain ⟨hm, hml⟩ := HM.out
            obtain ⟨p, hp⟩ : ∃ p, k + q = p := ⟨_, rfl⟩
            have e1 : (k : Int) + (q : Int) = (p : Int) := by omega
            have hpl : p ≤ 100000 := by omega
            by_cases hql : q < m.length
            · have d1 : (p : Int) < (l.length : Int) := by omega
              obtain ⟨p1, hp1⟩ : ∃ p1, p + 1 = p1 := ⟨_, rfl⟩
              have e2 : (p : Int) + 1 = (p1 : Int) := by omega
              have hs : (ByteArray.mk l.toArray).extract k p1 = ⟨(m.take (q + 1)).toArray⟩ := by rw [str_cut, hm, show p1 - k = q + 1 by omega]
              have z1 : (k : Int) ≤ (p1 : Int) := by omega
              have z2 : (p1 : Int) ≤ (l.length : Int) := by omega
              have cB := fun w => begins_any (m.take (q + 1)) w (by cases m with | nil => simp at hql | cons x m => simp) (by rw [List.length_take]; omega)
              rw [show m.length - q = (m.length - (q + 1)) + 1 by omega, begK] at hbq
              cases hbb : beginsP (m.take (q + 1)) with
              | true =>
                rw [hbb] at cB hbq
                rw [if_pos rfl] at hbq
                have HQ2 := Lib.hid (show q + 1 ≤ m.length ∧ begK m (m.length - (q + 1)) (q + 1) = Q from ⟨by omega, hbq⟩)
                clear hbb hbq hp hp1 hm hml hq hql
                go_wp2_with (go_at_call 45; refine (cB _).mono ?_; rintro e w3 ⟨rfl, hb3⟩)
                go_roundw
                case rel => exact ⟨q + 1, HQ2.out.1, by simp, HQ2.out.2, HB2.out.trans (hb3.mono HB2.out.size)⟩
                case measure => have := HQ2.out.1; simp [intOf]; omega
              | false =>
                rw [hbb] at cB hbq
                rw [if_neg (by decide)] at hbq
                subst hbq
                have HP := Lib.hid hp
                clear hbb hp hp1 hm hml hq hql
                go_wp2_with (first | (go_at_call 45; refine (cB _).mono ?_; rintro e w3 ⟨rfl, hb3⟩) | (go_at_call 43; refine (cU _ _).mono ?_; rintro e w1 ⟨rfl, hw⟩; rw [hw]; clear hw))
                try simp only [Exit.inBlock, Exit.then]
                refine bodyPost_ret (results_tmp4 rfl _ _ _) rfl ?_
                exact ⟨by rw [HP.out]; rfl, HB2.out.trans (hb3.mono HB2.out.size)⟩
            · obtain rfl : q = m.length := by omega
              rw [Nat.sub_self, begK] at hbq
              subst hbq
              have HP := Lib.hid hp
              have d1 : ¬ ((p : Int) < (l.length : Int)) := by omega
              clear hp hm hml hq hql
              go_wp2_with (go_at_call 43; refine (cU _ _).mono ?_; rintro e w1 ⟨rfl, hw⟩; rw [hw]; clear hw)
              try simp only [Exit.inBlock, Exit.then]
              refine bodyPost_ret (results_tmp4 rfl _ _ _) rfl ?_
              exact ⟨by rw [HP.out]; rfl, HB2.out⟩
        | some x =>
          obtain ⟨r, j⟩ := x
          have hj := nxt_le hn
          rw [hn] at cN hR
          simp only at cN hR hj
          have hN4 : j ≤ 4 := by
            obtain ⟨g1, g2, g3, g4, g5⟩ := nxt_some hn
            have := runeLen4 (r : Int)
            rw [g3, List.length_take] at this
            omega
          obtain ⟨p, hp⟩ : ∃ p, k + j = p := ⟨_, rfl⟩
          have hs : (ByteArray.mk l.toArray).extract k p = ⟨(m.take j).toArray⟩ := by rw [str_cut, hm, show p - k = j by omega]
          rw [hp, show m.drop j = l.drop p by rw [← hm, List.drop_drop, hp]] at hR
          have happ := app_list o (m.take j)
          obtain ⟨b, hbb⟩ : ∃ b, m.take j = b := ⟨_, rfl⟩
          have hbl : b.length ≤ 4 := by rw [← hbb, List.length_take]; omega
          rw [hbb] at happ hR hs
          obtain ⟨ob, hob⟩ : ∃ ob, o ++ b = ob := ⟨_, rfl⟩
          rw [hob] at hR happ
          have HP := Lib.hid (show k < p ∧ p ≤ l.length ∧ ob.length ≤ 4 * p ∧ l.length < g' + p ∧ refL l.length g' (l.drop p) p ob = R from ⟨by omega, by omega, by
            have h1 : b.length = j := by rw [← hbb, List.length_take]; omega
            rw [← hob, List.length_append]; omega, by omega, hR⟩)
          have hol : o.length ≤ 400000 := by omega
          have e1 : (k : Int) + (j : Int) = (p : Int) := by omega
          have z1 : (k : Int) ≤ (p : Int) := by omega
          have z2 : (p : Int) ≤ (l.length : Int) := by omega
          clear c34 c32 c92 hdr hgk hc hR' hlt hn hp hR hob hg ho hbb hm hml hj hN4
          go_wp2_with (go_at_call 20; refine (cN _).mono ?_; rintro e w1 ⟨rfl, hb1⟩)
          go_roundw
          case rel => exact ⟨p, g', ob, by have := HP.out.1; omega, HP.out.2.1, rfl, rfl, HP.out.2.2.1, HP.out.2.2.2.1, HP.out.2.2.2.2, HB.out.trans (hb1.mono HB.out.size)⟩
          case measure => have := HP.out.1; simp [intOf]; omega
      · obtain rfl : k = l.length := by omega
        obtain ⟨g', rfl⟩ : ∃ g', g = g' + 1 := ⟨g - 1, by omega⟩
        rw [List.drop_length, refL] at hR
        subst hR
        clear hg hk hk1 ho
        go_wp2_with (go_at_call 43; refine (cT _ _).mono ?_; rintro e w1 ⟨rfl, hw⟩; rw [hw]; clear hw)
        try simp only [Exit.inBlock, Exit.then]
        refine bodyPost_ret (results_tmp4 rfl _ _ _) rfl ?_
        exact ⟨by simp [wrongA, ansV], HB.out⟩
  · rw [if_neg h34] at hR
    subst hR
    have hx34 : ((a.toNat : Int) != 34) = true := by rw [bne_iff_ne]; omega
    clear h34 hl hlen cW cU cT
    go_enter Tryd.func27, Tryd.ntmps27
    go_wp2_with (go_at_call 43; refine (cW0 _).mono ?_; rintro e w1 ⟨rfl, hw⟩; rw [hw]; clear hw)
    try simp only [Exit.inBlock, Exit.then]
    refine bodyPost_ret (results_tmp4 rfl _ _ _) rfl ?_
    exact ⟨by rfl, Below.refl _ _⟩
end Go.Proofs.YtalegkgonbmaoaaDoor
