import Derived.Test.YtalegkgonbmaoaaDoorRefDig
import Derived.BigQuiet
import Derived.Deep.QuietTactic
import Derived.Deep.DeepCutAuto
/- The reference's four. -/
set_option linter.unusedVariables false
set_option linter.unusedSimpArgs false
namespace Go.Proofs.YtalegkgonbmaoaaDoor
open Go.RowKit
inductive FourR where
  | bad (j : Nat)
  | ok (n : Nat)
def badD (sec : Bool) (j n : Nat) : Bool :=
  if sec = true then decide ((j = 0 ∧ n ≠ 13) ∨ (j = 1 ∧ ¬ (220 ≤ n ∧ n ≤ 223))) else decide (j = 1 ∧ 220 ≤ n ∧ n ≤ 223)
def fourP (sec : Bool) : Nat → Nat → Nat → List UInt8 → FourR
  | 0, _, n, _ => .ok n
  | _ + 1, j, _, [] => .bad j
  | f + 1, j, n, c :: t => match hexv c with
    | none => .bad j
    | some d => if badD sec j (16 * n + d) = true then .bad j else fourP sec f (j + 1) (16 * n + d) t
def fourV (k : Nat) : FourR → Value
  | .bad j => .tuple #[.int .i64 0, .int .i64 ((k + j : Nat) : Int), .bool false]
  | .ok n => .tuple #[.int .i64 (n : Int), .int .i64 0, .bool true]
theorem pow16 {j : Nat} (h : j < 4) {n : Nat} (hn : n < 16 ^ j) : n < 4096 := by
  have : 16 ^ j ≤ 16 ^ 3 := Nat.pow_le_pow_right (by omega) (by omega)
  omega
theorem pow16s {j n d : Nat} (hn : n < 16 ^ j) (hd : d < 16) : 16 * n + d < 16 ^ (j + 1) := by
  rw [Nat.pow_succ]; omega
set_option maxRecDepth 100000 in
set_option maxHeartbeats 4000000 in
theorem four_any (l : List UInt8) (k : Nat) (sec : Bool) (w : World) (hmax : l.length ≤ 1000000) (hk : k ≤ 1000100) : Calls Tryd.prog 58 #[.string ⟨l.toArray⟩, .int .i64 (k : Int), .bool sec] w fun e w' => e = .returned (fourV k (fourP sec 4 0 0 (l.drop k))) ∧ w' = w := by
  have hsz : (ByteArray.mk l.toArray).size = l.length := by show l.toArray.size = _; simp
  obtain ⟨R, hR⟩ : ∃ R, fourP sec 4 0 0 (l.drop k) = R := ⟨_, rfl⟩
  rw [hR]
  have HR := Lib.hid hR
  have HM := Lib.hid hmax
  clear hR hmax
  go_enter Tryd.func58, Tryd.ntmps58
  go_wp2
  go_loopw [9, 10] (fun s i wr => ∃ j n : Nat, j ≤ 4 ∧ n < 16 ^ j ∧ s = .int .i64 (n : Int) ∧ i = .int .i64 ((k + j : Nat) : Int) ∧ fourP sec (4 - j) j n (l.drop (k + j)) = R ∧ wr = w) (fun _ i _ => k + 4 - (intOf i).toNat)
  case atStart => exact ⟨0, 0, by omega, by simp, rfl, by simp, by simpa using HR.out, rfl⟩
  case round =>
    obtain ⟨j, n, hj, hn, rfl, rfl, hf, rfl⟩ := hrel
    obtain ⟨p, hp⟩ : ∃ p, k + j = p := ⟨_, rfl⟩
    rw [hp] at hf ⊢
    by_cases hj4 : j < 4
    · have hn4 := pow16 hj4 hn
      have q0 : decide ((p : Int) < (k : Int) + 4) = true := decide_eq_true (by omega)
      by_cases hl : l.length ≤ p
      · rw [List.drop_eq_nil_of_le hl, show 4 - j = (3 - j) + 1 by omega, fourP] at hf
        subst hf
        have hd : decide ((l.length : Int) ≤ (p : Int)) = true := decide_eq_true (by omega)
        have hd2 : decide (l.length ≤ p) = true := decide_eq_true hl
        have HP := Lib.hid hp
        clear hn hn4 hj4 hj hl hp
        go_wp2
        go_ret3
        exact ⟨by have e := HP.out; subst e; rfl, rfl⟩
      · have hlt : p < l.length := by omega
        obtain ⟨c, hc⟩ : ∃ c, l[p]? = some c := ⟨_, List.getElem?_eq_getElem hlt⟩
        have hx : (ByteArray.mk l.toArray)[p]'(by rw [hsz]; exact hlt) = c := by
          rw [List.getElem?_eq_getElem hlt] at hc
          injection hc
        have hgk : l[p]'hlt = c := hx
        rw [List.drop_eq_getElem_cons hlt, hgk, show 4 - j = (3 - j) + 1 by omega, fourP] at hf
        have hd : decide ((l.length : Int) ≤ (p : Int)) = false := decide_eq_false (by omega)
        have hd2 : decide (l.length ≤ p) = false := decide_eq_false hl
        have cD := digit65 c
        unfold hexI at cD
        have hM := HM.out
        cases hv : hexv c with
        | none =>
          rw [hv] at cD hf
          simp only at cD hf
          subst hf
          have HP := Lib.hid hp
          clear hn hn4 hj4 hj hl hc hgk hv hp
          go_wp2_with (go_at_call 65; refine (cD _).mono ?_; rintro e w' ⟨rfl, hw⟩; rw [hw]; clear hw)
          go_ret3
          exact ⟨by have e := HP.out; subst e; rfl, rfl⟩
        | some d =>
          rw [hv] at cD hf
          simp only at cD hf
          have hd16 := hexv_lt hv
          have hn1 := pow16s hn hd16
          obtain ⟨N, hN⟩ : ∃ N, 16 * n + d = N := ⟨_, rfl⟩
          rw [hN] at hf hn1
          have hNb : N ≤ 70000 := by omega
          have e1 : 16 * (n : Int) + (d : Int) = (N : Int) := by omega
          have hdneg : decide ((d : Int) < 0) = false := decide_eq_false (by omega)
          have ep : (k : Int) + (j : Int) = (p : Int) := by omega
          have HF := Lib.hid hf
          have HN1 := Lib.hid hn1
          have HJ := Lib.hid (show k + j = p ∧ j < 4 from ⟨hp, hj4⟩)
          have arms : (j = 0 ∧ sec = true ∧ N = 13) ∨ (j = 0 ∧ sec = true ∧ N ≠ 13) ∨ (j = 0 ∧ sec = false) ∨ (j = 1 ∧ sec = true ∧ 220 ≤ N ∧ N ≤ 223) ∨ (j = 1 ∧ sec = true ∧ N < 220) ∨ (j = 1 ∧ sec = true ∧ 223 < N) ∨ (j = 1 ∧ sec = false ∧ 220 ≤ N ∧ N ≤ 223) ∨ (j = 1 ∧ sec = false ∧ N < 220) ∨ (j = 1 ∧ sec = false ∧ 223 < N) ∨ (2 ≤ j ∧ sec = true) ∨ (2 ≤ j ∧ sec = false) := by
            rcases sec with _ | _ <;> simp <;> omega
          rcases arms with ⟨ha, rfl, h1⟩ | ⟨ha, rfl, h1⟩ | ⟨ha, rfl⟩ | ⟨ha, rfl, h1, h2⟩ | ⟨ha, rfl, h1⟩ | ⟨ha, rfl, h1⟩ | ⟨ha, rfl, h1, h2⟩ | ⟨ha, rfl, h1⟩ | ⟨ha, rfl, h1⟩ | ⟨ha, rfl⟩ | ⟨ha, rfl⟩
          · have e0 : ((p : Int) == (k : Int)) = true := by rw [beq_iff_eq]; omega
            have e2 : ((p : Int) == (k : Int) + 1) = false := beq_eq_false_iff_ne.2 (by omega)
            have g3 : ((N : Int) = 13) := by omega
            have H1 := Lib.hid h1
            have hbd : badD true j N = false := by unfold badD; simp; omega
            have HF2 := HF.out
            rw [hbd, if_neg (by decide)] at HF2
            replace HF2 := Lib.hid HF2
            clear HF hbd ha h1 hf hn1 hp ep hn hn4 hj4 hj hl hc hgk hv hN
            go_wp2_with (go_at_call 65; refine (cD _).mono ?_; rintro e w' ⟨rfl, hw⟩; rw [hw]; clear hw)
            go_roundw
            case rel => exact ⟨j + 1, N, by have := HJ.out.2; omega, HN1.out, by first | rfl | (have e := H1.out; rw [e]; rfl), by rw [show k + (j + 1) = p + 1 by have := HJ.out.1; omega]; simp, by rw [show k + (j + 1) = p + 1 by have := HJ.out.1; omega, show 4 - (j + 1) = 3 - j by omega]; exact HF2.out, by simp⟩
            case measure => have := HJ.out; simp [intOf]; omega
          · have e0 : ((p : Int) == (k : Int)) = true := by rw [beq_iff_eq]; omega
            have e2 : ((p : Int) == (k : Int) + 1) = false := beq_eq_false_iff_ne.2 (by omega)
            have g3 : ¬ ((N : Int) = 13) := by omega
            have hbd : badD true j N = true := by unfold badD; simp; omega
            have HF2 := HF.out
            rw [hbd, if_pos rfl] at HF2
            subst HF2
            clear HF hbd ha h1 hf hn1 hp ep hn hn4 hj4 hj hl hc hgk hv hN
            go_wp2_with (go_at_call 65; refine (cD _).mono ?_; rintro e w' ⟨rfl, hw⟩; rw [hw]; clear hw)
            go_ret3
            exact ⟨by have e := HJ.out.1; subst e; rfl, rfl⟩
          · have e0 : ((p : Int) == (k : Int)) = true := by rw [beq_iff_eq]; omega
            have e2 : ((p : Int) == (k : Int) + 1) = false := beq_eq_false_iff_ne.2 (by omega)
            have hbd : badD false j N = false := by unfold badD; simp; omega
            have HF2 := HF.out
            rw [hbd, if_neg (by decide)] at HF2
            replace HF2 := Lib.hid HF2
            clear HF hbd ha hf hn1 hp ep hn hn4 hj4 hj hl hc hgk hv hN
            go_wp2_with (go_at_call 65; refine (cD _).mono ?_; rintro e w' ⟨rfl, hw⟩; rw [hw]; clear hw)
            go_roundw
            case rel => exact ⟨j + 1, N, by have := HJ.out.2; omega, HN1.out, by first | rfl | (have e := H1.out; rw [e]; rfl), by rw [show k + (j + 1) = p + 1 by have := HJ.out.1; omega]; simp, by rw [show k + (j + 1) = p + 1 by have := HJ.out.1; omega, show 4 - (j + 1) = 3 - j by omega]; exact HF2.out, by simp⟩
            case measure => have := HJ.out; simp [intOf]; omega
          · have e0 : ((p : Int) == (k : Int)) = false := beq_eq_false_iff_ne.2 (by omega)
            have e2 : ((p : Int) == (k : Int) + 1) = true := by rw [beq_iff_eq]; omega
            have g1 : (220 : Int) ≤ (N : Int) := by omega
            have g2 : (N : Int) ≤ 223 := by omega
            have hbd : badD true j N = false := by unfold badD; simp; omega
            have HF2 := HF.out
            rw [hbd, if_neg (by decide)] at HF2
            replace HF2 := Lib.hid HF2
            clear HF hbd ha h1 h2 hf hn1 hp ep hn hn4 hj4 hj hl hc hgk hv hN
            go_wp2_with (go_at_call 65; refine (cD _).mono ?_; rintro e w' ⟨rfl, hw⟩; rw [hw]; clear hw)
            go_roundw
            case rel => exact ⟨j + 1, N, by have := HJ.out.2; omega, HN1.out, by first | rfl | (have e := H1.out; rw [e]; rfl), by rw [show k + (j + 1) = p + 1 by have := HJ.out.1; omega]; simp, by rw [show k + (j + 1) = p + 1 by have := HJ.out.1; omega, show 4 - (j + 1) = 3 - j by omega]; exact HF2.out, by simp⟩
            case measure => have := HJ.out; simp [intOf]; omega
          · have e0 : ((p : Int) == (k : Int)) = false := beq_eq_false_iff_ne.2 (by omega)
            have e2 : ((p : Int) == (k : Int) + 1) = true := by rw [beq_iff_eq]; omega
            have g1 : decide ((220 : Int) ≤ (N : Int)) = false := decide_eq_false (by omega)
            have g1' : decide (220 ≤ N) = false := decide_eq_false (by omega)
            have hbd : badD true j N = true := by unfold badD; simp; omega
            have HF2 := HF.out
            rw [hbd, if_pos rfl] at HF2
            subst HF2
            clear HF hbd ha h1 hf hn1 hp ep hn hn4 hj4 hj hl hc hgk hv hN
            go_wp2_with (go_at_call 65; refine (cD _).mono ?_; rintro e w' ⟨rfl, hw⟩; rw [hw]; clear hw)
            go_ret3
            exact ⟨by have e := HJ.out.1; subst e; rfl, rfl⟩
          · have e0 : ((p : Int) == (k : Int)) = false := beq_eq_false_iff_ne.2 (by omega)
            have e2 : ((p : Int) == (k : Int) + 1) = true := by rw [beq_iff_eq]; omega
            have g1 : (220 : Int) ≤ (N : Int) := by omega
            have g2 : decide ((N : Int) ≤ 223) = false := decide_eq_false (by omega)
            have g2' : decide (N ≤ 223) = false := decide_eq_false (by omega)
            have hbd : badD true j N = true := by unfold badD; simp; omega
            have HF2 := HF.out
            rw [hbd, if_pos rfl] at HF2
            subst HF2
            clear HF hbd ha h1 hf hn1 hp ep hn hn4 hj4 hj hl hc hgk hv hN
            go_wp2_with (go_at_call 65; refine (cD _).mono ?_; rintro e w' ⟨rfl, hw⟩; rw [hw]; clear hw)
            go_ret3
            exact ⟨by have e := HJ.out.1; subst e; rfl, rfl⟩
          · have e0 : ((p : Int) == (k : Int)) = false := beq_eq_false_iff_ne.2 (by omega)
            have e2 : ((p : Int) == (k : Int) + 1) = true := by rw [beq_iff_eq]; omega
            have g1 : (220 : Int) ≤ (N : Int) := by omega
            have g2 : (N : Int) ≤ 223 := by omega
            have hbd : badD false j N = true := by unfold badD; simp; omega
            have HF2 := HF.out
            rw [hbd, if_pos rfl] at HF2
            subst HF2
            clear HF hbd ha h1 h2 hf hn1 hp ep hn hn4 hj4 hj hl hc hgk hv hN
            go_wp2_with (go_at_call 65; refine (cD _).mono ?_; rintro e w' ⟨rfl, hw⟩; rw [hw]; clear hw)
            go_ret3
            exact ⟨by have e := HJ.out.1; subst e; rfl, rfl⟩
          · have e0 : ((p : Int) == (k : Int)) = false := beq_eq_false_iff_ne.2 (by omega)
            have e2 : ((p : Int) == (k : Int) + 1) = true := by rw [beq_iff_eq]; omega
            have g1 : decide ((220 : Int) ≤ (N : Int)) = false := decide_eq_false (by omega)
            have g1' : decide (220 ≤ N) = false := decide_eq_false (by omega)
            have hbd : badD false j N = false := by unfold badD; simp; omega
            have HF2 := HF.out
            rw [hbd, if_neg (by decide)] at HF2
            replace HF2 := Lib.hid HF2
            clear HF hbd ha h1 hf hn1 hp ep hn hn4 hj4 hj hl hc hgk hv hN
            go_wp2_with (go_at_call 65; refine (cD _).mono ?_; rintro e w' ⟨rfl, hw⟩; rw [hw]; clear hw)
            go_roundw
            case rel => exact ⟨j + 1, N, by have := HJ.out.2; omega, HN1.out, by first | rfl | (have e := H1.out; rw [e]; rfl), by rw [show k + (j + 1) = p + 1 by have := HJ.out.1; omega]; simp, by rw [show k + (j + 1) = p + 1 by have := HJ.out.1; omega, show 4 - (j + 1) = 3 - j by omega]; exact HF2.out, by simp⟩
            case measure => have := HJ.out; simp [intOf]; omega
          · have e0 : ((p : Int) == (k : Int)) = false := beq_eq_false_iff_ne.2 (by omega)
            have e2 : ((p : Int) == (k : Int) + 1) = true := by rw [beq_iff_eq]; omega
            have g1 : (220 : Int) ≤ (N : Int) := by omega
            have g2 : decide ((N : Int) ≤ 223) = false := decide_eq_false (by omega)
            have g2' : decide (N ≤ 223) = false := decide_eq_false (by omega)
            have hbd : badD false j N = false := by unfold badD; simp; omega
            have HF2 := HF.out
            rw [hbd, if_neg (by decide)] at HF2
            replace HF2 := Lib.hid HF2
            clear HF hbd ha h1 hf hn1 hp ep hn hn4 hj4 hj hl hc hgk hv hN
            go_wp2_with (go_at_call 65; refine (cD _).mono ?_; rintro e w' ⟨rfl, hw⟩; rw [hw]; clear hw)
            go_roundw
            case rel => exact ⟨j + 1, N, by have := HJ.out.2; omega, HN1.out, by first | rfl | (have e := H1.out; rw [e]; rfl), by rw [show k + (j + 1) = p + 1 by have := HJ.out.1; omega]; simp, by rw [show k + (j + 1) = p + 1 by have := HJ.out.1; omega, show 4 - (j + 1) = 3 - j by omega]; exact HF2.out, by simp⟩
            case measure => have := HJ.out; simp [intOf]; omega
          · have e0 : ((p : Int) == (k : Int)) = false := beq_eq_false_iff_ne.2 (by omega)
            have e2 : ((p : Int) == (k : Int) + 1) = false := beq_eq_false_iff_ne.2 (by omega)
            have hbd : badD true j N = false := by unfold badD; simp; omega
            have HF2 := HF.out
            rw [hbd, if_neg (by decide)] at HF2
            replace HF2 := Lib.hid HF2
            clear HF hbd ha hf hn1 hp ep hn hn4 hj4 hj hl hc hgk hv hN
            go_wp2_with (go_at_call 65; refine (cD _).mono ?_; rintro e w' ⟨rfl, hw⟩; rw [hw]; clear hw)
            go_roundw
            case rel => exact ⟨j + 1, N, by have := HJ.out.2; omega, HN1.out, by first | rfl | (have e := H1.out; rw [e]; rfl), by rw [show k + (j + 1) = p + 1 by have := HJ.out.1; omega]; simp, by rw [show k + (j + 1) = p + 1 by have := HJ.out.1; omega, show 4 - (j + 1) = 3 - j by omega]; exact HF2.out, by simp⟩
            case measure => have := HJ.out; simp [intOf]; omega
          · have e0 : ((p : Int) == (k : Int)) = false := beq_eq_false_iff_ne.2 (by omega)
            have e2 : ((p : Int) == (k : Int) + 1) = false := beq_eq_false_iff_ne.2 (by omega)
            have hbd : badD false j N = false := by unfold badD; simp; omega
            have HF2 := HF.out
            rw [hbd, if_neg (by decide)] at HF2
            replace HF2 := Lib.hid HF2
            clear HF hbd ha hf hn1 hp ep hn hn4 hj4 hj hl hc hgk hv hN
            go_wp2_with (go_at_call 65; refine (cD _).mono ?_; rintro e w' ⟨rfl, hw⟩; rw [hw]; clear hw)
            go_roundw
            case rel => exact ⟨j + 1, N, by have := HJ.out.2; omega, HN1.out, by first | rfl | (have e := H1.out; rw [e]; rfl), by rw [show k + (j + 1) = p + 1 by have := HJ.out.1; omega]; simp, by rw [show k + (j + 1) = p + 1 by have := HJ.out.1; omega, show 4 - (j + 1) = 3 - j by omega]; exact HF2.out, by simp⟩
            case measure => have := HJ.out; simp [intOf]; omega
    · obtain rfl : j = 4 := by omega
      rw [Nat.sub_self, fourP] at hf
      subst hf
      have hd : decide ((p : Int) < (k : Int) + 4) = false := decide_eq_false (by omega)
      have hnb : n ≤ 65536 := by omega
      clear hp hn hj hj4
      go_wp2
      go_ret3
      exact ⟨rfl, rfl⟩
end Go.Proofs.YtalegkgonbmaoaaDoor
