import Derived.Test.YtmepbafmocjnaaaPlaces
import Derived.Deep.DeepCutAuto
import Derived.Deep.RegionWith
import Derived.Deep.RegionLaw
import Derived.Deep.RegionHeld3
namespace Go.Proofs.Ytmepbafmocjnaaa
open Go.RowKit
theorem ints_append (a b : List Int) : ints (a ++ b) = ints a ++ ints b := by simp [ints]
theorem two_own {w1 w2 : World} {b1 b2 p q : Nat} {v1 v2 : Value} {xs ys : List Value} (h1 : w1.ownsRow b1 3 1 v1 p xs) (h2 : w2.ownsRow b2 3 1 v2 q ys) (hb : Below w1.heap.size w1 w2) :
    ∃ (X : Option Addr) (e : Nat) (Y : Option Addr) (f : Nat), v1 = .slice X p e ∧ v2 = .slice Y q f ∧ p ≤ e ∧ e ≤ 9223372036854775807 ∧ Rd w2 1 X p xs ∧ Rd w2 1 Y q ys := by
  have h1' := own_below h1 hb
  obtain ⟨X, e, rfl, a1, a2⟩ := own_shape h1
  obtain ⟨Y, f, rfl, b1, b2⟩ := own_shape h2
  exact ⟨X, e, Y, f, rfl, rfl, a1, a2, Rd.of_own h1', Rd.of_own h2⟩
theorem two_own' {w1 w2 : World} {b1 b2 p q : Nat} {v1 v2 : Value} {xs ys : List Value} (h1 : w1.ownsRow b1 3 1 v1 p xs) (h2 : w2.ownsRow b2 3 1 v2 q ys) (hb : Below w2.heap.size w2 w1) :
    ∃ (X : Option Addr) (e : Nat) (Y : Option Addr) (f : Nat), v1 = .slice X p e ∧ v2 = .slice Y q f ∧ p ≤ e ∧ e ≤ 9223372036854775807 ∧ Rd w1 1 X p xs ∧ Rd w1 1 Y q ys := by
  have h2' := own_below h2 hb
  obtain ⟨X, e, rfl, a1, a2⟩ := own_shape h1
  obtain ⟨Y, f, rfl, b1, b2⟩ := own_shape h2
  exact ⟨X, e, Y, f, rfl, rfl, a1, a2, Rd.of_own h1, Rd.of_own h2'⟩
section
variable {P : Program} {ops : Array Oper} {o : Oper} {a : Act} {Q : Exit → Act → World → Prop}
/-- A call of a Go function as one step of a region that draws: by its contract. -/
theorem step_call {K : Act → World → Prop} {E : Prop} (hw : Region.wanted o (yielded ops a.tmps) = true) (w : World) (f : FuncId) (vs : Array Value) (hrun : (execOp a.eval o).run P w = .ok (.enter f vs) w)
    {T : Value → World → Prop} (hc : Calls P f vs w fun e w' => ∃ v, e = .returned v ∧ T v w') (h : ∀ v w', T v w' → K (a.put o.dst v) w') : if Region.wanted o (yielded ops a.tmps) = true then Oper.wp P o a w K Q else E := by
  rw [if_pos hw]
  unfold Oper.wp
  rw [hrun, Oper.upon_enter]
  refine hc.mono ?_
  rintro e w' ⟨v, rfl, ht⟩
  exact h v w' ht
end
theorem below_d {w w1 : World} (h : Below w.drew.heap.size w.drew w1) : Below w.heap.size w w1 := ⟨h.os, h.tape, h.output, h.size, h.block⟩
theorem mx_ge (zs : List Int) : ∀ (a : Int), a ≤ zs.foldl max a ∧ ∀ z ∈ zs, z ≤ zs.foldl max a := by
  induction zs with
  | nil => intro a; exact ⟨Int.le_refl _, fun z hz => by cases hz⟩
  | cons y r ih =>
    intro a
    obtain ⟨h1, h2⟩ := ih (max a y)
    refine ⟨by simp only [List.foldl_cons]; omega, fun z hz => ?_⟩
    simp only [List.foldl_cons]
    rcases List.mem_cons.1 hz with rfl | hz
    · omega
    · exact h2 z hz
theorem mx_in (zs : List Int) : ∀ (a : Int), zs.foldl max a = a ∨ zs.foldl max a ∈ zs := by
  induction zs with
  | nil => intro a; exact Or.inl rfl
  | cons y r ih =>
    intro a
    simp only [List.foldl_cons]
    rcases ih (max a y) with h | h
    · rw [h]
      by_cases hh : a ≤ y
      · right; rw [show max a y = y by omega]; exact List.mem_cons_self
      · left; omega
    · exact Or.inr (List.mem_cons_of_mem _ h)
theorem mx_append (xs ys : List Int) : mx (xs ++ ys) = max (mx xs) (mx ys) := by
  have h : ∀ (ys : List Int) (a : Int), 1 ≤ a → ys.foldl max a = max a (ys.foldl max 1) := by
    intro ys
    induction ys with
    | nil => intro a ha; simp; omega
    | cons y r ih =>
      intro a ha
      simp only [List.foldl_cons]
      rw [ih (max a y) (by omega), ih (max 1 y) (by omega)]
      omega
  unfold mx
  rw [List.foldl_append]
  exact h ys _ (mx_ge xs 1).1
theorem mx_turn (zs : List Int) (r : Nat) : mx (zs.drop r ++ zs.take r) = mx zs := by
  conv => rhs; rw [← List.take_append_drop r zs]
  rw [mx_append, mx_append]; omega
theorem mx_two (zs ys : List Int) : mx [mx zs, mx ys] = max (mx zs) (mx ys) := by
  have h1 := (mx_ge zs 1).1
  show max (max 1 (mx zs)) (mx ys) = _
  unfold mx at *
  omega
theorem mx_one (zs : List Int) : 1 ≤ mx zs := (mx_ge zs 1).1
theorem mx_le (zs : List Int) {z : Int} (h : z ∈ zs) : z ≤ mx zs := (mx_ge zs 1).2 z h
/-- Among the first ones, or one. -/
def amongst (zs : List Int) (t : Int) : Bool := t == 1 || zs.any (· == t)
theorem amongst_all (zs : List Int) : amongst zs (mx zs) = true := by
  rcases mx_in zs 1 with h | h
  · simp [amongst, mx, h]
  · simp only [amongst, Bool.or_eq_true, List.any_eq_true]
    exact Or.inr ⟨_, h, by simp [mx]⟩
theorem amongst_step (zs : List Int) (k : Nat) (t : Int) (hk : k < zs.length) : amongst (zs.take (k + 1)) t = (amongst (zs.take k) t || (zs[k]?.getD 0 == t)) := by
  unfold amongst
  rw [List.take_succ_eq_append_getElem hk, List.any_append]
  simp [List.getElem?_eq_getElem hk, Bool.or_assoc]
set_option maxRecDepth 100000 in
set_option maxHeartbeats 3200000 in
theorem max_first (A : Option Addr) (n c : Nat) (zs : List Int) (B : Option Addr) (m d : Nat) (ys : List Int) (p q : Nat) (k : Int) (w : World) (hp : (min (n : Int) 60).toNat = p) (hq : (min (m : Int) 60).toNat = q) (hA : Rd w 1 A p (ints zs)) (hB : Rd w 1 B q (ints ys)) (p60 : p ≤ 60) (q60 : q ≤ 60) (n0 : (0 : Int) ≤ min (n : Int) 60) (n1 : min (n : Int) 60 ≤ (c : Int)) (m0 : (0 : Int) ≤ min (m : Int) 60) (m1 : min (m : Int) 60 ≤ (d : Int)) :
    Calls Try.prog 8 #[.slice A n c, .slice B m d, .int .i64 k] w fun e w' => e = .returned (.bool true) ∧ Below w.heap.size w w' := by
  have i3 := info_parts info3
  go_enter Try.func8, Try.ntmps8
  go_upto_region 1 with fail
  go_cut [7, 8] (fun s7 s8 wx => ∃ (X : Option Addr) (e : Nat) (Y : Option Addr) (f : Nat), s7 = .slice X p e ∧ s8 = .slice Y q f ∧ p ≤ e ∧ e ≤ 9223372036854775807 ∧ Rd wx 1 X p (ints zs) ∧ Rd wx 1 Y q (ints ys) ∧ Below w.heap.size w wx)
  case first =>
    go_region_with (first
      | (go_at_call_of 19 A; refine (copyInts_any _ _ _ _ _ (by first | exact hA | exact Rd.below (w := w.drew) hA hb2) (by omega)).mono ?_; rintro e1 w1 ⟨⟨v1, rfl, ho1⟩, hb1⟩)
      | (go_at_call_of 19 B; refine (copyInts_any _ _ _ _ _ (by first | exact hB | exact Rd.below (w := w.drew) hB hb1) (by omega)).mono ?_; rintro e2 w2 ⟨⟨v2, rfl, ho2⟩, hb2⟩))
    all_goals
      go_wp2_with fail
      go_meet
      first
        | (obtain ⟨X, e, Y, f, h1, h2, h3, h4, h5, h6⟩ := two_own ho1 ho2 hb2; exact ⟨X, e, Y, f, h1, h2, h3, h4, h5, h6, below_d (below_then hb1 hb2)⟩)
        | (obtain ⟨X, e, Y, f, h1, h2, h3, h4, h5, h6⟩ := two_own' ho1 ho2 hb1; exact ⟨X, e, Y, f, h1, h2, h3, h4, h5, h6, below_d (below_then hb2 hb1)⟩)
  case rest =>
    obtain ⟨X, e, Y, f, rfl, rfl, he, he', hX, hY, hb⟩ := hcut
    obtain ⟨wb, rfl⟩ : ∃ wb : World, wb = wc := ⟨_, rfl⟩
    clear hA hB n0 n1 m0 m1 hp hq
    obtain ⟨r, hr⟩ : ∃ r : Nat, k % ((p : Int) + 1) = (r : Int) := ⟨(k % ((p : Int) + 1)).toNat, (Int.toNat_of_nonneg (Int.emod_nonneg _ (by omega))).symm⟩
    have hr1 : r ≤ p := by have := Int.emod_lt_of_pos k (b := (p : Int) + 1) (by omega); omega
    have r0 : (0 : Int) ≤ (r : Int) := by omega
    have r1 : (r : Int) ≤ (p : Int) := by omega
    have r2 : (r : Int) ≤ (e : Int) := by omega
    have p2 : (p : Int) ≤ (e : Int) := by omega
    have hD : Rd wb 1 (if e = r then X else X.map (·.add r)) (p - r) (ints (zs.drop r)) := by have := hX.drop1 hr1 he; simpa [ints, List.map_drop] using this
    obtain ⟨Z, hZ⟩ : ∃ Z, (if e = r then X else Option.map (fun x => x.add r) X) = Z := ⟨_, rfl⟩
    rw [hZ] at hD
    have hT : Rd wb 1 X r (ints (zs.take r)) := by have := hX.take1 hr1; simpa [ints, List.map_take] using this
    obtain ⟨i0, hi, hz0, hz1, hz2⟩ := info_parts info3
    go_wp2_with (go_at_call 26; refine (bring_any _ _ (by omega) (by omega) _).mono ?_; rintro e w' ⟨rfl, rfl⟩)
    go_upto_region 3 with fail
    go_cut [10] (fun s10 wy => wy.ownsRow wb.heap.size 3 1 s10 p (ints (zs.drop r ++ zs.take r)) ∧ Below wb.heap.size wb wy)
    case first =>
      clear hr
      go_region_law (first
        | (refine step_append_rd rfl _ _ _ 30 rfl _ 3 i0 (.int .i64 0) 1 8 Try.underlying30 hi hz0 hz1 hz2 rfl (by decide) _ (p - r) _ rfl hown1 X r e (ints (zs.take r)) rfl (hT.below (below_d hb1)) (ints_one _) (by unfold maxLen; omega) (by omega) (by exact hb1.size) ?_; intro v2 w2 hown2 hg2)
        | (refine step_call rfl _ 19 _ (by kernel_rfl) (T := fun v w1 => w1.ownsRow wb.drew.heap.size 3 1 v (p - r) (ints (zs.drop r)) ∧ Below wb.drew.heap.size wb.drew w1) ((copyInts_any Z (p - r) (e - r) (zs.drop r) wb.drew hD (by omega)).mono (fun _ _ ⟨⟨v, hv, ho⟩, hb⟩ => ⟨v, hv, ho, hb⟩)) ?_; rintro v1 w1 ⟨hown1, hb1⟩))
      all_goals
        go_wp2_with fail
        go_meet
        refine ⟨?_, ?_⟩
        · rw [show p - r + r = p from by omega] at hown2
          rw [← ints_append] at hown2
          exact hown2
        · exact below_d (hb1.trans ((grown_below hown1 hg2 (by exact hb1.size)).mono (by exact Nat.le_refl _)))
    case rest =>
      obtain ⟨hown, hb2⟩ := hcut
      obtain ⟨R, rc, rfl, _, _⟩ := own_shape hown
      clear hr hZ hD hT hr1 r0 r1 r2 p2
      have hX' := hX.below hb2
      have hl : zs.length = p := by have := hX.1; simpa [ints] using this
      have HL := Lib.hid hl
      clear hl
      go_wp2_with (go_at_call 22; refine (max_any _ _ _ _ _ hX' (by omega)).mono ?_; rintro e w' ⟨rfl, hbm⟩; replace hown := own_below hown hbm; replace hb2 := below_then hb2 hbm; clear hbm hX')
      have t1 := mx_one zs
      have HA := Lib.hid (amongst_all zs)
      have HG := Lib.hid (fun z (hz : z ∈ zs) => mx_le zs hz)
      have HT := Lib.hid (mx_turn zs r)
      go_loopw [12, 13] (fun s i wr => ∃ k : Nat, k ≤ p ∧ i = .int .i64 k ∧ s = .bool (amongst (zs.take k) (mx zs)) ∧ wr.ownsRow wb.heap.size 3 1 (.slice R p rc) p (ints (zs.drop r ++ zs.take r)) ∧ Below wb.heap.size wb wr) (fun _ i _ => p - (intOf i).toNat)
      case atStart => exact ⟨0, by omega, rfl, by simp [amongst], hown, hb2⟩
      case round =>
        obtain ⟨i, hi', rfl, rfl, hown, hb2⟩ := hrel
        by_cases hlt : i < p
        · have hz : i < zs.length := by have := HL.out; omega
          have hx : (ints zs)[i]? = some (.int .i64 (zs[i]?.getD 0)) := by simp [ints, hz]
          obtain ⟨b, o, rfl, hbl, hcell⟩ := (hX.below hb2).2 (by omega)
          have g := hcell i _ hx
          clear hx
          have gle : zs[i]?.getD 0 ≤ mx zs := HG.out _ (by simp [List.getElem?_eq_getElem hz])
          have HS := Lib.hid (amongst_step zs i (mx zs) hz)
          clear hz
          have HCL := Lib.hid hcell
          clear hcell
          cases ha : amongst (zs.take i) (mx zs)
          · go_wp2
            go_roundw
            case rel =>
              refine ⟨i + 1, by omega, by rfl, ?_, hown, hb2⟩
              rw [HS.out, ha]; simp
            all_goals (show _ < _; simp only [intOf]; omega)
          · go_wp2
            go_roundw
            case rel =>
              refine ⟨i + 1, by omega, by rfl, ?_, hown, hb2⟩
              rw [HS.out, ha]; simp
            all_goals (show _ < _; simp only [intOf]; omega)
        · have hip : i = p := by omega
          subst hip
          have hal : amongst (zs.take i) (mx zs) = true := by rw [show i = zs.length from HL.out.symm, List.take_length]; exact HA.out
          rw [hal]
          clear hal
          have HAP := Lib.hid (mx_append (zs.drop r ++ zs.take r) ys)
          have HMT := Lib.hid (mx_two zs ys)
          have hR := Rd.of_own hown
          clear hX HA HG HL
          go_wp2_with (first
            | (go_at_call 18; refine (works_any _).mono ?_; rintro e w' ⟨rfl, hbk⟩)
            | (go_at_call 22; refine (max_any _ _ _ _ _ (by first | exact hR | exact hRR | exact hY.below hb2 | exact rd_lit _ [mx zs, mx ys]) (by omega)).mono ?_; rintro e w' ⟨rfl, hbm⟩; first | (replace hown := own_below hown hbm; replace hb2 := below_then hb2 hbm; clear hbm hR; rw [HT.out]) | (replace hb2 := below_then hb2 hbm; clear hbm; first | (rw [HAP.out, HT.out]; clear hRR) | skip) | (replace hb2 := below_then (below_alloc hb2 _) hbm; clear hbm; rw [HMT.out]))
            | (at_builtin; refine wpList_append_rd_if (by rfl) _ _ _ 30 rfl wb.heap.size 3 i0 (.int .i64 0) 1 8 Try.underlying30 hi hz0 hz1 hz2 rfl (by decide) _ i _ rfl hown Y q f (ints ys) rfl (hY.below hb2) (ints_one ys) (by unfold maxLen; omega) (by omega) hb2.size ?_; intro v2 w2 hown2 hg2; replace hb2 := hb2.trans (grown_below hown hg2 hb2.size); clear hg2 hown; obtain ⟨R2, rc2, rfl, _, _⟩ := own_shape hown2; have hRR := Rd.of_own hown2; rw [← ints_append] at hRR; clear hown2))
          go_ret
          exact ⟨rfl, below_then hb (below_then hb2 hbk)⟩
theorem widthMax_walk (A : Option Addr) (n c : Nat) (zs : List Int) (B : Option Addr) (m d : Nat) (ys : List Int) (k : Int) (w : World) (hA : IsInts .i64 w A n c zs) (hB : IsInts .i64 w B m d ys) (_hk : (Lit.int .i64 k).wf = true) :
    Calls Try.prog 8 #[.slice A n c, .slice B m d, .int .i64 k] w fun e w' => e = .returned (.bool true) ∧ Below w.heap.size w w' := by
  obtain ⟨hr, hn, hc, _⟩ := hA
  obtain ⟨hs, hm, hd, _⟩ := hB
  exact max_first A n c _ B m d _ _ _ k w rfl rfl (rd60 hr) (rd60 hs) (by omega) (by omega) (by omega) (by omega) (by omega) (by omega)
end Go.Proofs.Ytmepbafmocjnaaa
