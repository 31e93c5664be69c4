import Derived.Test.YtcoboifdmpeelaaDec
import Derived.ScopeJumps
import Derived.Deep.DeepCutAuto
namespace Go.Proofs.Ytcoboifdmpeelaa
open Go.RowKit
theorem infoU8 : (Try.prog.info? 5).map (fun i => (i.zero, i.size, i.bytes)) = some (some (.int .u8 0), 1, 1) := Try.Builder_Extra_169.infoByte
/-- What Get answers, in words of the plain function. -/
def Gives (r : Res) (e : Ending) (w' : World) : Prop :=
  match r with
  | .ok bs => ∃ A c, e = .returned (.tuple #[.slice A bs.length c, .int .i64 0, .int .i64 0]) ∧ bs.length ≤ c ∧ c ≤ maxLen ∧ Rd w' 1 A bs.length (Lib.byteCells bs)
  | .bad k => e = .returned (.tuple #[.slice none 0 0, .int .i64 (k : Int), .int .i64 50])
def lft (k : Nat) (out : List UInt8) (r : Res) : Res := r.up k out
theorem up_up (a b : Nat) (x y : List UInt8) (r : Res) : Res.up a x (Res.up b y r) = Res.up (a + b) (x ++ y) r := by
  cases r <;> simp [Res.up, Nat.add_assoc]
theorem below_of_drewN {w w' : World} {j : Nat} (h : Below (w.drewN j).heap.size (w.drewN j) w') : Below w.heap.size w w' := ⟨h.os, h.tape, h.output, h.size, h.block⟩
theorem u8_one (l : List UInt8) : ∀ u ∈ Lib.byteCells l, u.oneCell' = true := by
  intro u hu; simp [Lib.byteCells] at hu; obtain ⟨_, _, rfl⟩ := hu; rfl
theorem grp_grown {wx w4 w5 : World} {g n d p : Nat} {v : Value} (hg : Grp wx g n d p) (hlt : g < wx.heap.size) (hb : Below wx.heap.size wx w4) (hgr : w4.grownBy w5 v.ownBlock) (hne : v.ownBlock ≠ some g) : Grp w5 g n d p := by
  unfold Grp at *
  rw [hgr.block g (Nat.lt_of_lt_of_le hlt hb.size) (fun e => hne e.symm), hb.block g hlt]
  exact hg
theorem gives_ok {w' : World} {base m c : Nat} {A : Option Addr} {bs : List UInt8} {e : Ending} (he : e = .returned (.tuple #[.slice A m c, .int .i64 0, .int .i64 0])) (hm : bs.length = m) (ho : w'.ownsRow base 5 1 (.slice A m c) m (Lib.byteCells bs)) (hc : m ≤ c) (hc' : c ≤ maxLen) : Gives (.ok bs) e w' := by
  subst hm
  exact ⟨A, c, he, hc, hc', Rd.of_own ho⟩
theorem cast_len {w' : World} {base m : Nat} {v : Value} {bs : List UInt8} (h : w'.ownsRow base 5 1 v m (Lib.byteCells bs)) (hm : bs.length = m) : w'.ownsRow base 5 1 v bs.length (Lib.byteCells bs) := by
  subst hm
  exact h
theorem tk_sum {n d p : Nat} {c : UInt8} {n' d' p' : Nat} (ht : tk n d p c = some (n', d', p')) : d' + p' = d + p + 1 := by
  unfold tk at ht
  split at ht
  · injection ht with ht
    simp only [Prod.mk.injEq] at ht
    omega
  · split at ht
    · cases ht
    · split at ht
      · cases ht
      · injection ht with ht
        simp only [Prod.mk.injEq] at ht
        omega
theorem wp_scope_once {P : Program} {a : Act} {w : World} {Q : Exit → Act → World → Prop} {c rest : Code} (l : Nat) (J : Act → World → Prop) (μ : Act → World → Nat) (hf : findLabel c l = some (Code.skip.seq rest))
    (first : ∀ R, (∀ a w, J a w → rest.wp P R a w) → c.wp P R a w)
    (pass : ∀ a w, J a w → rest.wp P (Exit.jump l (fun a' w' => J a' w' ∧ μ a' w' < μ a w) Q) a w) : (Code.scope c).wp P Q a w :=
  wp_scope_jumps l J μ hf (first _ fun a w hJ => wp_mono (pass a w hJ) fun e a w h => by
    cases e with
    | goto l' => exact ⟨h.1, h.2.1⟩
    | _ => exact h) fun a w hJ => wp_seq (wp_skip (pass a w hJ))
set_option maxRecDepth 100000 in
set_option maxHeartbeats 8000000 in
theorem get_any (l : List UInt8) (w : World) (hl : l.length ≤ 1000000) :
    Calls Try.prog 17 #[.string ⟨l.toArray⟩] w fun e w' => Gives (dec l) e w' ∧ Below w.heap.size w w' := by
  obtain ⟨i0, hi, hz0, hz1, hz2⟩ := info_parts infoU8
  have hsz : (ByteArray.mk l.toArray).size = l.length := by show l.toArray.size = _; simp
  go_enter Try.func17, Try.ntmps17
  go_wp2
  refine wp_scope_once 0 (fun a' w' => ∃ (k n d p : Nat) (out : List UInt8) (v : Value) (u8 u9 u10 u11 u12 u13 u14 u15 u16 u17 u18 u19 u20 u21 u22 u23 u24 u25 u26 u27 u28 u29 u30 u31 u32 u33 u34 u35 u36 u37 u38 u39 u40 u41 u42 u43 u44 u45 u46 u47 : Value), a' = { tmps := #[.string ⟨l.toArray⟩, undef, .slice none 0 0, .int .i64 0, .int .i64 0, v, .pointer (some ⟨w.heap.size, 0, none⟩), .int .i64 (k : Int), u8, u9, u10, u11, u12, u13, u14, u15, u16, u17, u18, u19, u20, u21, u22, u23, u24, u25, u26, u27, u28, u29, u30, u31, u32, u33, u34, u35, u36, u37, u38, u39, u40, u41, u42, u43, u44, u45, u46, u47], defers := [] } ∧ k ≤ l.length ∧ Inv n d p ∧ Grp w' w.heap.size n d p ∧ w'.ownsRow w.heap.size 5 1 v out.length (Lib.byteCells out) ∧ v.ownBlock ≠ some w.heap.size ∧ out.length + d + p ≤ k ∧ dec l = Res.up k out (decS n d p (l.drop k)) ∧ Below w.heap.size w w') (fun a _ => l.length - (intOf (a.tmps.getD 7 undef)).toNat) rfl ?_ ?_
  · intro R H
    go_wp2
    go_step3
    rename_i K hK
    refine hK _ _ (H _ _ ?_)
    refine ⟨0, 0, 0, 0, [], .slice none 0 0, _, _, _, _, _, _, _, _, _, _, _, _, _, _, _, _, _, _, _, _, _, _, _, _, _, _, _, _, _, _, _, _, _, _, _, _, _, _, _, _ , rfl, by omega, Or.inl ⟨rfl, by omega, by simp⟩, heap_alloc_last _ _, World.ownsRow_nil _ _ _ _, by simp [Value.ownBlock], by simp, ?_, (Below.refl _ w).alloc (Nat.le_refl _) _⟩
    show dec l = _
    cases hd : dec l <;> simp [dec] at hd <;> simp [Res.up, hd]
  · rintro a' w' ⟨k, n, d, p, out, v, u8, u9, u10, u11, u12, u13, u14, u15, u16, u17, u18, u19, u20, u21, u22, u23, u24, u25, u26, u27, u28, u29, u30, u31, u32, u33, u34, u35, u36, u37, u38, u39, u40, u41, u42, u43, u44, u45, u46, u47, rfl, hk, hinv, hg, hown, hne, hol, hdec, hb⟩
    have hgl : w.heap.size < w'.heap.size := by
      rcases Nat.lt_or_ge w.heap.size w'.heap.size with h' | h'
      · exact h'
      · simp [Grp, Array.getElem?_eq_none h'] at hg
    have c1 := hg.c1
    have c2 := hg.c2
    obtain ⟨A, cp, rfl, hcap, hcap2⟩ := own_shape hown
    by_cases hend : k = l.length
    · subst hend
      rw [List.drop_length] at hdec
      by_cases hd : 0 < d
      · have hd' : (0 : Int) < (d : Int) := by omega
        have hdec2 : dec l = .bad (l.length + 0) := by rw [hdec, decS, if_pos hd]; rfl
        clear hdec
        go_wp2
        simp only [Exit.jump]
        go_ret3
        exact ⟨by rw [hdec2]; rfl, hb⟩
      · have hd' : ¬ (0 : Int) < (d : Int) := by omega
        have hdec2 : dec l = .ok (out ++ []) := by rw [hdec, decS, if_neg hd]; rfl
        rw [List.append_nil] at hdec2
        clear hdec
        go_wp2
        simp only [Exit.jump]
        go_ret3
        exact ⟨by rw [hdec2]; exact ⟨A, cp, rfl, hcap, hcap2, Rd.of_own hown⟩, hb⟩
    · have hlt : k < l.length := by omega
      obtain ⟨c, hc⟩ : ∃ c, l[k]? = some c := ⟨_, List.getElem?_eq_getElem hlt⟩
      have hdr : l.drop k = c :: l.drop (k + 1) := by
        rw [List.drop_eq_getElem_cons hlt]
        rw [List.getElem?_eq_getElem hlt] at hc
        injection hc with hc
        rw [hc]
      rw [hdr] at hdec
      clear hdr
      have hkb : ((k : Int) == (l.length : Int)) = false := by simp; omega
      have hx : (ByteArray.mk l.toArray)[k]'(by rw [hsz]; exact hlt) = c := by
        rw [List.getElem?_eq_getElem hlt] at hc
        injection hc
      clear hc
      go_upto_region 8 with fail
      go_cut [29] (fun s29 wx => ∃ b, s29 = .bool (!b) ∧ w'.grownBy wx (some w.heap.size) ∧ (b = true → ∃ n' d' p', tk n d p c = some (n', d', p') ∧ Grp wx w.heap.size n' d' p') ∧ (b = false → tk n d p c = none))
      case first =>
        have hinv' := Lib.hid hinv
        rcases hinv with ⟨rfl, _, _⟩ | ⟨rfl, rfl, _⟩
        · go_wp2_with (go_at_call 28; refine (take_any w.heap.size n d 0 c _ hg hinv'.out).mono ?_; rintro e w2 ⟨b, rfl, hgr, ht, hf⟩)
          go_meet
          exact ⟨b, rfl, hgr, ht, hf⟩
        · go_wp2_with (first
            | (go_at_call 27; refine (whole_any w.heap.size n 2 1 _ hg (by omega) (by omega)).mono ?_; rintro e w2 ⟨rfl, j, rfl⟩; rw [show decide (2 + 1 = 4) = false from rfl])
            | (go_at_call 28; refine (take_any w.heap.size n 2 1 c _ (by exact hg) hinv'.out).mono ?_; rintro e w3 ⟨b, rfl, hgr, ht, hf⟩))
          go_meet
          exact ⟨b, rfl, ⟨hgr.os, hgr.tape, hgr.output, hgr.size, hgr.block⟩, ht, hf⟩
      case rest =>
        obtain ⟨b, rfl, hgr, ht, hf⟩ := hcut
        clear hkb hx c1 c2
        obtain ⟨wx, rfl⟩ : ∃ wx : World, wx = wc := ⟨_, rfl⟩
        have hown2 := hown.kept hgr (Or.inr hne)
        have hb2 : Below w.heap.size w wx := hb.grown hgr (by omega) (fun j hj => by injection hj with hj; omega)
        have hglx : w.heap.size < wx.heap.size := Nat.lt_of_lt_of_le hgl hgr.size
        clear hown hb hgl hg hgr
        cases b with
        | false =>
          have hdec2 : dec l = .bad (k + 0) := by rw [hdec, decS, hf rfl]; rfl
          rw [Nat.add_zero] at hdec2
          clear hdec ht hf
          go_wp2
          simp only [Exit.jump]
          go_ret3
          exact ⟨by rw [hdec2]; rfl, hb2⟩
        | true =>
          obtain ⟨n', d', p', htk, hg⟩ := ht rfl
          clear ht hf
          have hkl : k + 1 ≤ l.length := hlt
          have hsum := tk_sum htk
          rcases tk_inv hinv htk with ⟨hw4, hinv2⟩ | ⟨hw4, rfl, hn4⟩ | ⟨hw4, rfl, hn4⟩ | ⟨hw4, rfl, hn4⟩
          · have hdec2 : dec l = .up (k + 1) out (decS n' d' p' (l.drop (k + 1))) := by
              rw [hdec, decS, htk]
              simp only
              rw [if_neg (by omega), up_up, List.append_nil]
            clear hdec htk hinv
            go_wp2_with (go_at_call 27; refine (whole_any w.heap.size n' d' p' _ hg (by omega) (by omega)).mono ?_; rintro e w2 ⟨rfl, j, rfl⟩; rw [show decide (d' + p' = 4) = false from by simp; omega])
            go_step3
            refine ⟨rfl, ⟨k + 1, n', d', p', out, _, _, _, _, _, _, _, _, _, _, _, _, _, _, _, _, _, _, _, _, _, _, _, _, _, _, _, _, _, _, _, _, _, _, _, _, _, _, _, _, _, rfl, by omega, hinv2, by exact hg, by exact hown2, hne, by omega, hdec2, below_drewN hb2 _⟩, by simp [intOf]; omega⟩
          · obtain rfl : d' = 4 := by omega
            have hdec2 : dec l = .up (k + 1) (out ++ bsOf n' 0) (decS 0 0 0 (l.drop (k + 1))) := by
              rw [hdec, decS, htk]
              simp only
              rw [if_pos trivial, if_pos trivial, up_up]
            clear hdec htk hinv
            go_wp2_with (first
              | (go_at_call 27; refine (whole_any w.heap.size n' 4 0 _ hg (by omega) (by omega)).mono ?_; rintro e w2 ⟨rfl, j, rfl⟩; rw [show decide (4 + 0 = 4) = true from rfl])
              | (go_at_call 29; refine (bytes0 w.heap.size n' 4 _ (by exact hg) (by omega)).mono ?_; rintro e w4 ⟨⟨B, rfl, hB⟩, hb4⟩; have hb4' := below_of_drewN hb4; have hown4 := own_below hown2 hb4')
              | (at_builtin; refine wpList_append_rd rfl _ _ _ 22 rfl w.heap.size 5 i0 (.int .u8 0) 1 1 Try.underlying22 hi hz0 hz1 hz2 rfl (by decide) _ _ _ rfl hown4 B 3 3 _ rfl hB (u8_one _) (by unfold maxLen; omega) (by omega) (Nat.le_trans (Nat.le_of_lt hglx) hb4'.size) ?_; intro v5 w5 hown5 hg5; have hg6 := grp_grown hg hglx hb4' hg5 hne; have c7 := hg6.c2; have d0 := hg6.c0; have d1 := hg6.c1; have f0 := hg6.fz 0; have f1 := hg6.fz 1; have f2 := hg6.fz 2; have hsz5 := hg5.size; have hb5 := hb4'.size; have hne5 := Lib.ownBlock_neF (World.ownsRowF_of hown5) hg6 (by decide); have hbb := hb2.trans ((hb4'.mono (by omega)).trans (grown_below hown4 hg5 (by omega))); obtain ⟨A5, c5, rfl, hc5, hc5'⟩ := own_shape hown5))
            go_step3
            have hgw := grown_set (grown_set (grown_set (World.grownBy.refl w5 (some w.heap.size)) 0 (.int .i64 ((0 : Nat) : Int))) 1 (.int .i64 ((0 : Nat) : Int))) 2 (.int .i64 ((0 : Nat) : Int))
            have hfin := hown5.kept hgw (Or.inr hne5)
            rw [← byteCells_app] at hfin
            refine ⟨rfl, ⟨k + 1, 0, 0, 0, out ++ bsOf n' 0, _, _, _, _, _, _, _, _, _, _, _, _, _, _, _, _, _, _, _, _, _, _, _, _, _, _, _, _, _, _, _, _, _, _, _, _, _, _, _, _, _, rfl, by omega, Or.inl ⟨rfl, by omega, by simp⟩, ((hg6.put0 0).put1 0).put2 0, ?_, hne5, ?_, hdec2, hbb.grown hgw (by omega) (fun j hj => by injection hj with hj; omega)⟩, by simp [intOf]; omega⟩
            · exact cast_len hfin (by simp [bsOf, bs3])
            · simp [bsOf, bs3]; omega
          · obtain rfl : d' = 3 := by omega
            by_cases hend2 : k + 1 = l.length
            · have hdec2 : dec l = .ok (out ++ bsOf n' 1) := by
                rw [hdec, decS, htk, hend2, List.drop_length]
                rfl
              have hkb2 : ¬ ((k : Int) + 1 < (l.length : Int)) := by omega
              clear hdec htk hinv
              go_wp2_with (first
                | (go_at_call 27; refine (whole_any w.heap.size n' 3 1 _ hg (by omega) (by omega)).mono ?_; rintro e w2 ⟨rfl, j, rfl⟩; rw [show decide (3 + 1 = 4) = true from rfl])
                | (go_at_call 29; refine (bytes1 w.heap.size n' 3 _ (by exact hg) (by omega)).mono ?_; rintro e w4 ⟨⟨B, rfl, hB⟩, hb4⟩; have hb4' := below_of_drewN hb4; have hown4 := own_below hown2 hb4')
                | (at_builtin; refine wpList_append_rd rfl _ _ _ 22 rfl w.heap.size 5 i0 (.int .u8 0) 1 1 Try.underlying22 hi hz0 hz1 hz2 rfl (by decide) _ _ _ rfl hown4 B 2 2 _ rfl hB (u8_one _) (by unfold maxLen; omega) (by omega) (Nat.le_trans (Nat.le_of_lt hglx) hb4'.size) ?_; intro v5 w5 hown5 hg5; have hg6 := grp_grown hg hglx hb4' hg5 hne; have c7 := hg6.c2; have hsz5 := hg5.size; have hb5 := hb4'.size; have hne5 := Lib.ownBlock_neF (World.ownsRowF_of hown5) hg6 (by decide); have hbb := hb2.trans ((hb4'.mono (by omega)).trans (grown_below hown4 hg5 (by omega))); obtain ⟨A5, c5, rfl, hc5, hc5'⟩ := own_shape hown5))

              simp only [Exit.jump]
              go_ret3
              rw [← byteCells_app] at hown5
              exact ⟨by rw [hdec2]; exact gives_ok rfl (by simp [bsOf, bs3]) hown5 hc5 hc5', hbb⟩
            · have hdec2 : dec l = .bad (k + 1) := by
                rw [hdec, decS, htk]
                have hne3 : ¬ (l.drop (k + 1) = []) := by
                  intro hh
                  have := congrArg List.length hh
                  simp at this
                  omega
                simp only
                rw [if_pos trivial, if_neg (by decide), if_neg hne3]
                rfl
              have hkb2 : (k : Int) + 1 < (l.length : Int) := by omega
              clear hdec htk hinv
              go_wp2_with (first
                | (go_at_call 27; refine (whole_any w.heap.size n' 3 1 _ hg (by omega) (by omega)).mono ?_; rintro e w2 ⟨rfl, j, rfl⟩; rw [show decide (3 + 1 = 4) = true from rfl])
                | (go_at_call 29; refine (bytes1 w.heap.size n' 3 _ (by exact hg) (by omega)).mono ?_; rintro e w4 ⟨⟨B, rfl, hB⟩, hb4⟩; have hb4' := below_of_drewN hb4; have hown4 := own_below hown2 hb4')
                | (at_builtin; refine wpList_append_rd rfl _ _ _ 22 rfl w.heap.size 5 i0 (.int .u8 0) 1 1 Try.underlying22 hi hz0 hz1 hz2 rfl (by decide) _ _ _ rfl hown4 B 2 2 _ rfl hB (u8_one _) (by unfold maxLen; omega) (by omega) (Nat.le_trans (Nat.le_of_lt hglx) hb4'.size) ?_; intro v5 w5 hown5 hg5; have hg6 := grp_grown hg hglx hb4' hg5 hne; have c7 := hg6.c2; have hsz5 := hg5.size; have hb5 := hb4'.size; have hne5 := Lib.ownBlock_neF (World.ownsRowF_of hown5) hg6 (by decide); have hbb := hb2.trans ((hb4'.mono (by omega)).trans (grown_below hown4 hg5 (by omega))); obtain ⟨A5, c5, rfl, hc5, hc5'⟩ := own_shape hown5))

              simp only [Exit.jump]
              go_ret3
              exact ⟨by rw [hdec2]; rfl, hbb⟩
          · obtain rfl : d' = 2 := by omega
            by_cases hend2 : k + 1 = l.length
            · have hdec2 : dec l = .ok (out ++ bsOf n' 2) := by
                rw [hdec, decS, htk, hend2, List.drop_length]
                rfl
              have hkb2 : ¬ ((k : Int) + 1 < (l.length : Int)) := by omega
              clear hdec htk hinv
              go_wp2_with (first
                | (go_at_call 27; refine (whole_any w.heap.size n' 2 2 _ hg (by omega) (by omega)).mono ?_; rintro e w2 ⟨rfl, j, rfl⟩; rw [show decide (2 + 2 = 4) = true from rfl])
                | (go_at_call 29; refine (bytes2 w.heap.size n' 2 _ (by exact hg) (by omega)).mono ?_; rintro e w4 ⟨⟨B, rfl, hB⟩, hb4⟩; have hb4' := below_of_drewN hb4; have hown4 := own_below hown2 hb4')
                | (at_builtin; refine wpList_append_rd rfl _ _ _ 22 rfl w.heap.size 5 i0 (.int .u8 0) 1 1 Try.underlying22 hi hz0 hz1 hz2 rfl (by decide) _ _ _ rfl hown4 B 1 1 _ rfl hB (u8_one _) (by unfold maxLen; omega) (by omega) (Nat.le_trans (Nat.le_of_lt hglx) hb4'.size) ?_; intro v5 w5 hown5 hg5; have hg6 := grp_grown hg hglx hb4' hg5 hne; have c7 := hg6.c2; have hsz5 := hg5.size; have hb5 := hb4'.size; have hne5 := Lib.ownBlock_neF (World.ownsRowF_of hown5) hg6 (by decide); have hbb := hb2.trans ((hb4'.mono (by omega)).trans (grown_below hown4 hg5 (by omega))); obtain ⟨A5, c5, rfl, hc5, hc5'⟩ := own_shape hown5))

              simp only [Exit.jump]
              go_ret3
              rw [← byteCells_app] at hown5
              exact ⟨by rw [hdec2]; exact gives_ok rfl (by simp [bsOf, bs3]) hown5 hc5 hc5', hbb⟩
            · have hdec2 : dec l = .bad (k + 1) := by
                rw [hdec, decS, htk]
                have hne3 : ¬ (l.drop (k + 1) = []) := by
                  intro hh
                  have := congrArg List.length hh
                  simp at this
                  omega
                simp only
                rw [if_pos trivial, if_neg (by decide), if_neg hne3]
                rfl
              have hkb2 : (k : Int) + 1 < (l.length : Int) := by omega
              clear hdec htk hinv
              go_wp2_with (first
                | (go_at_call 27; refine (whole_any w.heap.size n' 2 2 _ hg (by omega) (by omega)).mono ?_; rintro e w2 ⟨rfl, j, rfl⟩; rw [show decide (2 + 2 = 4) = true from rfl])
                | (go_at_call 29; refine (bytes2 w.heap.size n' 2 _ (by exact hg) (by omega)).mono ?_; rintro e w4 ⟨⟨B, rfl, hB⟩, hb4⟩; have hb4' := below_of_drewN hb4; have hown4 := own_below hown2 hb4')
                | (at_builtin; refine wpList_append_rd rfl _ _ _ 22 rfl w.heap.size 5 i0 (.int .u8 0) 1 1 Try.underlying22 hi hz0 hz1 hz2 rfl (by decide) _ _ _ rfl hown4 B 1 1 _ rfl hB (u8_one _) (by unfold maxLen; omega) (by omega) (Nat.le_trans (Nat.le_of_lt hglx) hb4'.size) ?_; intro v5 w5 hown5 hg5; have hg6 := grp_grown hg hglx hb4' hg5 hne; have c7 := hg6.c2; have hsz5 := hg5.size; have hb5 := hb4'.size; have hne5 := Lib.ownBlock_neF (World.ownsRowF_of hown5) hg6 (by decide); have hbb := hb2.trans ((hb4'.mono (by omega)).trans (grown_below hown4 hg5 (by omega))); obtain ⟨A5, c5, rfl, hc5, hc5'⟩ := own_shape hown5))

              simp only [Exit.jump]
              go_ret3
              exact ⟨by rw [hdec2]; rfl, hbb⟩
end Go.Proofs.Ytcoboifdmpeelaa
