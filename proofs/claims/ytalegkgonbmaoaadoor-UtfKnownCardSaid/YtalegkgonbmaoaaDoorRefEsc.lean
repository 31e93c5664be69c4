import Derived.Test.YtalegkgonbmaoaaDoorRefFour
import Derived.BigQuiet
import Derived.BigRegion
import Derived.Deep.QuietTactic
import Derived.Deep.DeepCutAuto
/- The reference's escape. -/
set_option linter.unusedVariables false
set_option linter.unusedSimpArgs false
namespace Go.Proofs.YtalegkgonbmaoaaDoor
open Go.RowKit
inductive EscR where
  | bad (i : Nat)
  | ok (b : List UInt8) (k : Nat)
def escP2 (n : Nat) : List UInt8 → EscR
  | [] => .bad 6
  | a :: t => if a.toNat = 92 then (match t with
    | [] => .bad 7
    | b :: t => if b.toNat = 117 then (match fourP true 4 0 0 t with
      | .bad j => .bad (8 + j)
      | .ok k => .ok (putZ ((65536 + 1024 * (n - 55296) + k - 56320 : Nat) : Int)).1 12) else .bad 7) else .bad 6
def escP1 (t : List UInt8) : EscR :=
  match fourP false 4 0 0 t with
  | .bad j => .bad (2 + j)
  | .ok n => if 55296 ≤ n ∧ n < 56320 then escP2 n (t.drop 4) else .ok (putZ (n : Int)).1 6
def escP : List UInt8 → EscR
  | [] => .bad 1
  | c :: t => match escv c with
    | some v => .ok [by8 v] 2
    | none => if c.toNat = 117 then escP1 t else .bad 1
def escRV (q : Nat) : EscR → Value
  | .bad i => .tuple #[.string ⟨#[]⟩, .int .i64 ((q + i : Nat) : Int), .bool false]
  | .ok b k => .tuple #[.string ⟨b.toArray⟩, .int .i64 ((q + k : Nat) : Int), .bool true]
def markB (n : Nat) : UInt8 := ([34, 92, 47, 98, 102, 110, 114, 116] : List UInt8).getD n 0
def meantB (n : Nat) : UInt8 := ([34, 92, 47, 8, 12, 10, 13, 9] : List UInt8).getD n 0
theorem mark_fin : ∀ k : Fin 8, escv (markB k.val) = some (meantB k.val).toNat := by decide +kernel
theorem mark_v (k : Nat) (h : k < 8) : escv (markB k) = some (meantB k).toNat := mark_fin ⟨k, h⟩
theorem escv_mark {c : UInt8} {v : Nat} (h : escv c = some v) : ∃ k, k < 8 ∧ markB k = c := by
  have hfin : ∀ c : Fin 256, (escv (UInt8.ofNat c.val)).isSome = true → ∃ k : Fin 8, markB k.val = UInt8.ofNat c.val := by decide +kernel
  have e : UInt8.ofNat c.toNat = c := by simp
  have := hfin ⟨c.toNat, c.toNat_lt⟩
  simp only [e, h, Option.isSome_some, forall_const] at this
  obtain ⟨k, hk⟩ := this
  exact ⟨k.val, k.isLt, hk⟩
theorem marks_at (i : Nat) (h : i < 8) : ∀ h' : i < (⟨#[34, 92, 47, 98, 102, 110, 114, 116]⟩ : ByteArray).size, (⟨#[34, 92, 47, 98, 102, 110, 114, 116]⟩ : ByteArray)[i]'h' = markB i := by
  intro h'
  have : ∀ j : Fin 8, (⟨#[34, 92, 47, 98, 102, 110, 114, 116]⟩ : ByteArray)[j.val]'j.isLt = markB j.val := by decide
  exact this ⟨i, h⟩
theorem meant_cut (i : Nat) (h : i < 8) : (⟨#[34, 92, 47, 8, 12, 10, 13, 9]⟩ : ByteArray).extract i (i + 1) = ⟨[meantB i].toArray⟩ := by
  have : ∀ j : Fin 8, (⟨#[34, 92, 47, 8, 12, 10, 13, 9]⟩ : ByteArray).extract j.val (j.val + 1) = ⟨[meantB j.val].toArray⟩ := by decide +kernel
  exact this ⟨i, h⟩
theorem fourP_lt (sec : Bool) : ∀ (f j n : Nat) (m : List UInt8) (r : Nat), fourP sec f j n m = .ok r → r < (n + 1) * 16 ^ f
  | 0, j, n, m, r, h => by rw [fourP] at h; injection h with h; omega
  | f + 1, j, n, [], r, h => by rw [fourP] at h; cases h
  | f + 1, j, n, c :: t, r, h => by
    rw [fourP] at h
    split at h
    · cases h
    · rename_i d hd
      have := hexv_lt hd
      split at h
      · cases h
      · have h2 := fourP_lt sec f _ _ t r h
        have h3 : (16 * n + d + 1) * 16 ^ f ≤ (16 * (n + 1)) * 16 ^ f := Nat.mul_le_mul_right _ (by omega)
        have h4 : (n + 1) * 16 ^ (f + 1) = (16 * (n + 1)) * 16 ^ f := by
          rw [Nat.pow_succ', ← Nat.mul_assoc, Nat.mul_comm (n + 1) 16]
        omega
set_option maxRecDepth 100000 in
set_option maxHeartbeats 8000000 in
theorem refEscape_any (l : List UInt8) (q : Nat) (w : World) (hmax : l.length ≤ 1000000) (hq : q ≤ 1000000) : Calls Tryd.prog 44 #[.string ⟨l.toArray⟩, .int .i64 (q : Int)] w fun e w' => e = .returned (escRV q (escP (l.drop (q + 1)))) ∧ Below w.heap.size w w' := by
  have hsz : (ByteArray.mk l.toArray).size = l.length := by show l.toArray.size = _; simp
  obtain ⟨p1, hp1⟩ : ∃ p, q + 1 = p := ⟨_, rfl⟩
  obtain ⟨R, hR⟩ : ∃ R, escP (l.drop (q + 1)) = R := ⟨_, rfl⟩
  rw [hR]
  rw [hp1] at hR
  have e1 : (q : Int) + 1 = (p1 : Int) := by omega
  have b1 : p1 ≤ 1000001 := by omega
  by_cases h1 : l.length ≤ p1
  · rw [List.drop_eq_nil_of_le h1, escP] at hR
    subst hR
    have d1 : decide ((l.length : Int) ≤ (p1 : Int)) = true := decide_eq_true (by omega)
    have d1' : decide (l.length ≤ p1) = true := decide_eq_true h1
    have HP1 := Lib.hid hp1
    clear h1 hp1
    go_enter Tryd.func44, Tryd.ntmps44
    go_wp2
    go_ret3
    exact ⟨by have e := HP1.out; subst e; rfl, Below.refl _ _⟩
  · have hlt : p1 < l.length := by omega
    obtain ⟨c, hc⟩ : ∃ c, l[p1]? = some c := ⟨_, List.getElem?_eq_getElem hlt⟩
    have hx : ∀ h : p1 < (ByteArray.mk l.toArray).size, (ByteArray.mk l.toArray)[p1]'h = c := fun h => by
      rw [List.getElem?_eq_getElem hlt] at hc
      injection hc
    have hgk : l[p1]'hlt = c := by
      rw [List.getElem?_eq_getElem hlt] at hc
      injection hc
    obtain ⟨p2, hp2⟩ : ∃ p, q + 2 = p := ⟨_, rfl⟩
    rw [List.drop_eq_getElem_cons hlt, hgk, escP, show p1 + 1 = p2 by omega] at hR
    have d1 : decide ((l.length : Int) ≤ (p1 : Int)) = false := decide_eq_false (by omega)
    have d1' : decide (l.length ≤ p1) = false := decide_eq_false h1
    have hz1 : (p1 : Int) < (l.length : Int) := by omega
    have e2 : (q : Int) + 2 = (p2 : Int) := by omega
    have b2 : p2 ≤ 1000002 := by omega
    have HP1 := Lib.hid hp1
    have HP2 := Lib.hid hp2
    have HR := Lib.hid hR
    have HQ := Lib.hid (And.intro hq hmax)
    clear hc hgk h1 hp1 hp2 hR hlt hq hmax
    go_enter Tryd.func44, Tryd.ntmps44
    go_wp2
    go_loopw [7] (fun s wr => ∃ k : Nat, k ≤ 8 ∧ s = .int .i64 (k : Int) ∧ (∀ j, j < 8 → markB j = c → k ≤ j) ∧ Below w.heap.size w wr) (fun s _ => 8 - (intOf s).toNat)
    case atStart => exact ⟨0, by omega, rfl, fun _ _ _ => by omega, Below.refl _ _⟩
    case round =>
      obtain ⟨k, hk8, rfl, hk, hb⟩ := hrel
      have HB := Lib.hid hb
      by_cases hlt : k < 8
      · have q0 : (k : Int) < 8 := by omega
        have i1 := marks_at k hlt
        have i2 := meant_cut k hlt
        have hs8 : (⟨#[34, 92, 47, 98, 102, 110, 114, 116]⟩ : ByteArray).size = 8 := rfl
        have hs9 : (⟨#[34, 92, 47, 8, 12, 10, 13, 9]⟩ : ByteArray).size = 8 := rfl
        obtain ⟨a, ha⟩ : ∃ a, markB k = a := ⟨_, rfl⟩
        obtain ⟨b, hb'⟩ : ∃ b, meantB k = b := ⟨_, rfl⟩
        rw [ha] at i1
        rw [hb'] at i2
        obtain ⟨k1, hk1⟩ : ∃ k1, k + 1 = k1 := ⟨_, rfl⟩
        rw [hk1] at i2
        have ek : (k : Int) + 1 = (k1 : Int) := by omega
        have ek2 : (k : Int) ≤ (k1 : Int) := by omega
        have ek3 : (k1 : Int) ≤ 8 := by omega
        have HK1 := Lib.hid hk1
        by_cases hac : a = c
        · have hv : escv c = some b.toNat := by rw [← hac, ← ha, mark_v k hlt, hb']
          have hR := HR.out
          rw [hv] at hR
          simp only at hR
          rw [show by8 b.toNat = b by unfold by8; simp] at hR
          subst hR
          have hd : ((a.toNat : Int) == (c.toNat : Int)) = true := by rw [hac]; simp
          have hr : 0 ≤ (k : Int) := by omega
          clear hac ha hb' hv hk hb hk8 hlt HR hk1
          go_wp2
          go_quiet (fail)
          have HB4 := Lib.hid (below_drewN HB.out nq)
          generalize wr.drewN nq = w4 at HB4 ⊢
          go_wp2
          go_ret3
          exact ⟨by have e := HP2.out; subst e; rfl, HB4.out⟩
        · have hd : ((a.toNat : Int) == (c.toNat : Int)) = false := beq_eq_false_iff_ne.2 (fun h => hac (UInt8.toNat_inj.1 (by omega)))
          have HN := Lib.hid (show ∀ j, j < 8 → markB j = c → k + 1 ≤ j from fun j h8 hj => by
            have := hk j h8 hj
            rcases Nat.lt_or_ge k j with h | h
            · omega
            · obtain rfl : j = k := by omega
              exact absurd (by rw [← ha, hj]) hac)
          clear hac ha hb' hk hb hk8 hk1
          go_wp2
          go_quiet (fail)
          have HB4 := Lib.hid (below_drewN HB.out nq)
          generalize wr.drewN nq = w4 at HB4 ⊢
          go_wp2
          go_roundw
          case rel => exact ⟨k + 1, by omega, by rw [HK1.out], HN.out, HB4.out⟩
          case measure => have := HK1.out; simp [intOf]; omega
      · obtain rfl : k = 8 := by omega
        have hv : escv c = none := by
          cases h : escv c with
          | none => rfl
          | some v =>
            obtain ⟨j, j8, hj⟩ := escv_mark h
            have := hk j j8 hj
            omega
        have hR := HR.out
        rw [hv] at hR
        simp only at hR
        have q0 : decide ((8 : Int) < 8) = false := rfl
        clear hv hk hb hk8 hlt HR
        obtain ⟨hq, hmax⟩ := HQ.out
        by_cases h117 : c.toNat = 117
        · rw [if_pos h117, escP1] at hR
          have hc7 : (c.toNat : Int) = 117 := by omega
          have cF := fun w => four_any l p2 false w hmax (by omega)
          cases hf : fourP false 4 0 0 (l.drop p2) with
          | bad j =>
            rw [hf] at cF hR
            simp only [fourV] at cF hR
            subst hR
            obtain ⟨pj, hpj⟩ : ∃ pj, p2 + j = pj := ⟨_, rfl⟩
            rw [hpj] at cF
            have HPJ := Lib.hid (show q + (2 + j) = pj by have := HP2.out; omega)
            clear hf h117 hpj hq hmax
            go_wp2_with (first | (go_at_call 58; refine (cF _).mono ?_; rintro e w1 ⟨rfl, hw⟩; rw [hw]; clear hw) | (go_at_call 22; refine (cP _).mono ?_; rintro e w2 ⟨rfl, hb2⟩))
            go_ret3
            exact ⟨by have e := HPJ.out; subst e; rfl, HB.out⟩
          | ok n =>
            have hn := fourP_lt false _ _ _ _ _ hf
            rw [hf] at cF hR
            simp only [fourV] at cF hR
            obtain ⟨p6, hp6⟩ : ∃ p, q + 6 = p := ⟨_, rfl⟩
            have e6 : (q : Int) + 6 = (p6 : Int) := by omega
            have b6 : p6 ≤ 1000006 := by omega
            have HP6 := Lib.hid hp6
            have hn2 : n < 65536 := by omega
            by_cases hr : 55296 ≤ n ∧ n < 56320
            · rw [if_pos hr] at hR
              obtain ⟨hr1, hr2⟩ := hr
              have k0 : ∀ h : 0 < (⟨#[92, 117]⟩ : ByteArray).size, (⟨#[92, 117]⟩ : ByteArray)[0]'h = 92 := fun _ => rfl
              have k1 : ∀ h : 1 < (⟨#[92, 117]⟩ : ByteArray).size, (⟨#[92, 117]⟩ : ByteArray)[1]'h = 117 := fun _ => rfl
              have r1 : (55296 : Int) ≤ (n : Int) := by omega
              have r2 : (n : Int) < 56320 := by omega
              rw [List.drop_drop, show p2 + 4 = p6 by have := HP2.out; omega] at hR
              obtain ⟨p7, hp7⟩ : ∃ p, q + 7 = p := ⟨_, rfl⟩
              have e7 : (p6 : Int) + 1 = (p7 : Int) := by omega
              have b7 : p7 ≤ 1000007 := by omega
              have HP7 := Lib.hid hp7
              by_cases h6 : l.length ≤ p6
              · rw [List.drop_eq_nil_of_le h6, escP2] at hR
                subst hR
                have d6 : decide ((l.length : Int) ≤ (p6 : Int)) = true := decide_eq_true (by omega)
                have d6' : decide (l.length ≤ p6) = true := decide_eq_true h6
                clear hf h117 hp6 hp7 hq hmax hn hn2 hr1 hr2 h6 e7 b7
                go_wp2_with (first | (go_at_call 58; refine (cF _).mono ?_; rintro e w1 ⟨rfl, hw⟩; rw [hw]; clear hw) | (go_at_call 22; refine (cP _).mono ?_; rintro e w2 ⟨rfl, hb2⟩))
                refine wp_loop_rounds 3 ?_
                rw [rounds_succ]
                go_wp2
                go_quiet (fail)
                have HB4 := Lib.hid (below_drewN HB.out nq)
                generalize wr.drewN nq = w4 at HB4 ⊢
                go_wp2
                go_ret3
                exact ⟨by have e := HP6.out; subst e; rfl, HB4.out⟩
              · have l6 : p6 < l.length := by omega
                obtain ⟨a, ha⟩ : ∃ a, l[p6]? = some a := ⟨_, List.getElem?_eq_getElem l6⟩
                have x6 : ∀ h : p6 < (ByteArray.mk l.toArray).size, (ByteArray.mk l.toArray)[p6]'h = a := fun h => by
                  rw [List.getElem?_eq_getElem l6] at ha
                  injection ha
                have g6 : l[p6]'l6 = a := by
                  rw [List.getElem?_eq_getElem l6] at ha
                  injection ha
                rw [List.drop_eq_getElem_cons l6, g6, show p6 + 1 = p7 by omega] at hR
                unfold escP2 at hR
                simp only at hR
                have d6 : decide ((l.length : Int) ≤ (p6 : Int)) = false := decide_eq_false (by omega)
                have d6' : decide (l.length ≤ p6) = false := decide_eq_false h6
                have z6 : (p6 : Int) < (l.length : Int) := by omega
                by_cases ha92 : a.toNat = 92
                · rw [if_pos ha92] at hR
                  have q6 : (a.toNat : Int) = 92 := by omega
                  by_cases h7 : l.length ≤ p7
                  · rw [List.drop_eq_nil_of_le h7] at hR
                    simp only at hR
                    subst hR
                    have d7 : decide ((l.length : Int) ≤ (p7 : Int)) = true := decide_eq_true (by omega)
                    have d7' : decide (l.length ≤ p7) = true := decide_eq_true h7
                    clear hf h117 hp6 hp7 hq hmax hn hn2 hr1 hr2 h6 h7 ha g6 ha92 l6
                    go_wp2_with (first | (go_at_call 58; refine (cF _).mono ?_; rintro e w1 ⟨rfl, hw⟩; rw [hw]; clear hw) | (go_at_call 22; refine (cP _).mono ?_; rintro e w2 ⟨rfl, hb2⟩))
                    refine wp_loop_rounds 3 ?_
                    rw [rounds_succ]
                    go_wp2
                    go_quiet (fail)
                    have HB4 := Lib.hid (below_drewN HB.out nq)
                    generalize wr.drewN nq = w4 at HB4 ⊢
                    go_wp2
                    rw [rounds_succ]
                    go_wp2
                    go_quiet (fail)
                    have HB5 := Lib.hid (below_drewN HB4.out nq)
                    generalize w4.drewN nq = w5 at HB5 ⊢
                    go_wp2
                    go_ret3
                    exact ⟨by have e := HP7.out; subst e; rfl, HB5.out⟩
                  · have l7 : p7 < l.length := by omega
                    obtain ⟨b, hb⟩ : ∃ b, l[p7]? = some b := ⟨_, List.getElem?_eq_getElem l7⟩
                    have x7 : ∀ h : p7 < (ByteArray.mk l.toArray).size, (ByteArray.mk l.toArray)[p7]'h = b := fun h => by
                      rw [List.getElem?_eq_getElem l7] at hb
                      injection hb
                    have g7 : l[p7]'l7 = b := by
                      rw [List.getElem?_eq_getElem l7] at hb
                      injection hb
                    obtain ⟨p8, hp8⟩ : ∃ p, q + 8 = p := ⟨_, rfl⟩
                    have e8 : (q : Int) + 8 = (p8 : Int) := by omega
                    have b8 : p8 ≤ 1000008 := by omega
                    rw [List.drop_eq_getElem_cons l7, g7, show p7 + 1 = p8 by omega] at hR
                    simp only at hR
                    have d7 : decide ((l.length : Int) ≤ (p7 : Int)) = false := decide_eq_false (by omega)
                    have d7' : decide (l.length ≤ p7) = false := decide_eq_false h7
                    have z7 : (p7 : Int) < (l.length : Int) := by omega
                    by_cases hb117 : b.toNat = 117
                    · rw [if_pos hb117] at hR
                      have q7 : (b.toNat : Int) = 117 := by omega
                      have cG := fun w => four_any l p8 true w hmax (by omega)
                      obtain ⟨p12, hp12⟩ : ∃ p, q + 12 = p := ⟨_, rfl⟩
                      have e12 : (q : Int) + 12 = (p12 : Int) := by omega
                      have b12 : p12 ≤ 1000012 := by omega
                      have HP12 := Lib.hid hp12
                      cases hg : fourP true 4 0 0 (l.drop p8) with
                      | bad j =>
                        rw [hg] at cG hR
                        simp only [fourV] at cG hR
                        subst hR
                        obtain ⟨pj, hpj⟩ : ∃ pj, p8 + j = pj := ⟨_, rfl⟩
                        rw [hpj] at cG
                        have HPJ := Lib.hid (show q + (8 + j) = pj by omega)
                        clear hf h117 hp6 hp7 hq hmax hn hn2 hr1 hr2 h6 h7 ha g6 ha92 hb g7 hb117 hp8 hp12 hpj hg l6 l7 e12 b12
                        go_wp2_with (first | (go_at_call 58; refine (cF _).mono ?_; rintro e w1 ⟨rfl, hw⟩; rw [hw]; clear hw) | (go_at_call 22; refine (cP _).mono ?_; rintro e w2 ⟨rfl, hb2⟩))
                        refine wp_loop_rounds 3 ?_
                        rw [rounds_succ]
                        go_wp2
                        go_quiet (fail)
                        have HB4 := Lib.hid (below_drewN HB.out nq)
                        generalize wr.drewN nq = w4 at HB4 ⊢
                        go_wp2
                        rw [rounds_succ]
                        go_wp2
                        go_quiet (fail)
                        have HB5 := Lib.hid (below_drewN HB4.out nq)
                        generalize w4.drewN nq = w5 at HB5 ⊢
                        go_wp2
                        rw [rounds_succ]
                        go_wp2_with (go_at_call 58; refine (cG _).mono ?_; rintro e w1 ⟨rfl, hw⟩; rw [hw]; clear hw)
                        go_ret3
                        exact ⟨by have e := HPJ.out; subst e; rfl, HB5.out⟩
                      | ok k =>
                        have hk := fourP_lt true _ _ _ _ _ hg
                        have hk2 : k < 65536 := by omega
                        rw [hg] at cG hR
                        simp only [fourV] at cG hR
                        obtain ⟨m, hm⟩ : ∃ m, 65536 + 1024 * (n - 55296) + k - 56320 = m := ⟨_, rfl⟩
                        rw [hm] at hR
                        have hm2 : m ≤ 2000000 := by omega
                        obtain ⟨Z, hZ⟩ : ∃ Z, putZ (m : Int) = Z := ⟨_, rfl⟩
                        have cP := fun w => refPut_any (m : Int) w (by omega) (by omega)
                        unfold putV at cP
                        rw [hZ] at cP hR
                        obtain ⟨Z1, Z2⟩ := Z
                        simp only at cP hR
                        subst hR
                        have f1 : 65536 + 1024 * ((n : Int) - 55296) + (k : Int) - 56320 = (m : Int) := by omega
                        have wv : IntKind.i32.wrap (m : Int) = (m : Int) := by simp only [IntKind.wrap_i32]; omega
                        clear hf h117 hp6 hp7 hq hmax hn h6 h7 ha g6 ha92 hb g7 hb117 hp8 hp12 hg l6 l7 hk hm hZ hr1 hr2
                        go_wp2_with (first | (go_at_call 58; refine (cF _).mono ?_; rintro e w1 ⟨rfl, hw⟩; rw [hw]; clear hw) | (go_at_call 22; refine (cP _).mono ?_; rintro e w2 ⟨rfl, hb2⟩))
                        refine wp_loop_rounds 3 ?_
                        rw [rounds_succ]
                        go_wp2
                        go_quiet (fail)
                        have HB4 := Lib.hid (below_drewN HB.out nq)
                        generalize wr.drewN nq = w4 at HB4 ⊢
                        go_wp2
                        rw [rounds_succ]
                        go_wp2
                        go_quiet (fail)
                        have HB5 := Lib.hid (below_drewN HB4.out nq)
                        generalize w4.drewN nq = w5 at HB5 ⊢
                        go_wp2
                        rw [rounds_succ]
                        go_wp2_with (first | (go_at_call 58; refine (cG _).mono ?_; rintro e w1 ⟨rfl, hw⟩; rw [hw]; clear hw) | (go_at_call 22; refine (cP _).mono ?_; rintro e w2 ⟨rfl, hb2⟩))
                        go_ret3
                        exact ⟨by have e := HP12.out; subst e; rfl, HB5.out.trans (hb2.mono HB5.out.size)⟩
                    · rw [if_neg hb117] at hR
                      subst hR
                      have q7 : ((b.toNat : Int) != 117) = true := by rw [bne_iff_ne]; omega
                      clear hf h117 hp6 hp7 hq hmax hn hn2 hr1 hr2 h6 h7 ha g6 ha92 hb g7 hb117 hp8 l6 l7
                      go_wp2_with (first | (go_at_call 58; refine (cF _).mono ?_; rintro e w1 ⟨rfl, hw⟩; rw [hw]; clear hw) | (go_at_call 22; refine (cP _).mono ?_; rintro e w2 ⟨rfl, hb2⟩))
                      refine wp_loop_rounds 3 ?_
                      rw [rounds_succ]
                      go_wp2
                      go_quiet (fail)
                      have HB4 := Lib.hid (below_drewN HB.out nq)
                      generalize wr.drewN nq = w4 at HB4 ⊢
                      go_wp2
                      rw [rounds_succ]
                      go_wp2
                      go_quiet (fail)
                      have HB5 := Lib.hid (below_drewN HB4.out nq)
                      generalize w4.drewN nq = w5 at HB5 ⊢
                      go_wp2
                      go_ret3
                      exact ⟨by have e := HP7.out; subst e; rfl, HB5.out⟩
                · rw [if_neg ha92] at hR
                  subst hR
                  have q6 : ((a.toNat : Int) != 92) = true := by rw [bne_iff_ne]; omega
                  clear hf h117 hp6 hp7 hq hmax hn hn2 hr1 hr2 h6 ha g6 ha92 l6 e7 b7
                  go_wp2_with (first | (go_at_call 58; refine (cF _).mono ?_; rintro e w1 ⟨rfl, hw⟩; rw [hw]; clear hw) | (go_at_call 22; refine (cP _).mono ?_; rintro e w2 ⟨rfl, hb2⟩))
                  refine wp_loop_rounds 3 ?_
                  rw [rounds_succ]
                  go_wp2
                  go_quiet (fail)
                  have HB4 := Lib.hid (below_drewN HB.out nq)
                  generalize wr.drewN nq = w4 at HB4 ⊢
                  go_wp2
                  go_ret3
                  exact ⟨by have e := HP6.out; subst e; rfl, HB4.out⟩
            · rw [if_neg hr] at hR
              obtain ⟨Z, hZ⟩ : ∃ Z, putZ (n : Int) = Z := ⟨_, rfl⟩
              have cP := fun w => refPut_any (n : Int) w (by omega) (by omega)
              unfold putV at cP
              rw [hZ] at cP hR
              obtain ⟨Z1, Z2⟩ := Z
              simp only at cP hR
              subst hR
              have wv : IntKind.i32.wrap (n : Int) = (n : Int) := by simp only [IntKind.wrap_i32]; omega
              clear hf h117 hp6 hq hmax hn
              by_cases hlo : 55296 ≤ n
              · have r1 : (55296 : Int) ≤ (n : Int) := by omega
                have r2 : decide ((n : Int) < 56320) = false := decide_eq_false (by omega)
                have r2' : decide (n < 56320) = false := decide_eq_false (by omega)
                clear hr hlo
                go_wp2_with (first | (go_at_call 58; refine (cF _).mono ?_; rintro e w1 ⟨rfl, hw⟩; rw [hw]; clear hw) | (go_at_call 22; refine (cP _).mono ?_; rintro e w2 ⟨rfl, hb2⟩))
                go_ret3
                exact ⟨by have e := HP6.out; subst e; rfl, HB.out.trans (hb2.mono HB.out.size)⟩
              · have r1 : decide ((55296 : Int) ≤ (n : Int)) = false := decide_eq_false (by omega)
                have r1' : decide (55296 ≤ n) = false := decide_eq_false (by omega)
                clear hr hlo
                go_wp2_with (first | (go_at_call 58; refine (cF _).mono ?_; rintro e w1 ⟨rfl, hw⟩; rw [hw]; clear hw) | (go_at_call 22; refine (cP _).mono ?_; rintro e w2 ⟨rfl, hb2⟩))
                go_ret3
                exact ⟨by have e := HP6.out; subst e; rfl, HB.out.trans (hb2.mono HB.out.size)⟩
        · rw [if_neg h117] at hR
          subst hR
          have hc7 : ¬ ((c.toNat : Int) = 117) := by omega
          clear h117 hq hmax
          go_wp2
          go_ret3
          exact ⟨by have e := HP1.out; subst e; rfl, HB.out⟩
end Go.Proofs.YtalegkgonbmaoaaDoor
