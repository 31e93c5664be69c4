import Derived.Test.YtalegkgonbmaoaaDoorText
import Derived.Test.YtalegkgonbmaoaaDoorOrder
/- The law UtfRunes: its walk. -/
set_option linter.unusedVariables false
set_option linter.unusedSimpArgs false
namespace Go.Proofs.YtalegkgonbmaoaaDoor
open Go.RowKit
def lastOf (rs : List Nat) (k : Nat) : List UInt8 := if k = 0 then [] else Lib.encodeRune ((rs.getD (k - 1) 0 : Nat) : Int)
def sLen (v : Value) : Nat := match v with | .string s => s.size | _ => 0
set_option maxRecDepth 100000 in
set_option maxHeartbeats 2000000 in
theorem utfRunes_walk (A : Option Addr) (n c : Nat) (zs : List Int) (w : World) (hA : IsInts .i64 w A n c zs) (hT : Lib.Utf8Tabs 0 1 w) (h2 : 2 ≤ w.heap.size) :
    Calls Tryd.prog 9 #[.slice A n c] w fun e w' => e = .returned (.bool true) ∧ Below w.heap.size w w' := by
  have hn : n ≤ 9223372036854775807 := by have := hA.2.1; have := hA.2.2.1; unfold maxLen at this; omega
  have hR := hA.1
  have hl : zs.length = n := by have := hR.1; simpa using this
  have cX := textOf_any A n c zs w hR hn
  obtain ⟨rs, hrs⟩ : ∃ rs, runes zs = rs := ⟨_, rfl⟩
  have hsc : ∀ r ∈ rs, Sc r := by rw [← hrs]; exact runes_sc zs
  have hrl : rs.length = min n 60 := by rw [← hrs]; simp [runes]; omega
  have hget : ∀ k z, k < rs.length → zs[k]? = some z → rs[k]? = some (rz z) := by
    intro k z hk hz
    rw [← hrs]
    unfold runes
    rw [List.getElem?_take, if_pos (by omega), List.getElem?_map, hz]
    rfl
  rw [hrs] at cX
  have HRS := Lib.hid hrs
  have HSC := Lib.hid hsc
  have HGET := Lib.hid hget
  have hT' := Lib.hid hT
  clear hA hrs hsc hget hT
  go_enter Tryd.func9, Tryd.ntmps9
  go_wp2_with (go_at_call 12; refine cX.mono ?_; rintro e1 w1 ⟨rfl, hw⟩; rw [hw]; clear hw)
  go_loopw [3, 4, 5] (fun s last i wr => ∃ k : Nat, k ≤ rs.length ∧ i = .int .i64 (k : Int) ∧ s = .string ⟨(encs (rs.drop k)).toArray⟩ ∧ last = .string ⟨(lastOf rs k).toArray⟩ ∧ Below w.heap.size w wr) (fun _ _ i _ => 60 - (intOf i).toNat)
  case atStart => exact ⟨0, by omega, rfl, rfl, rfl, Below.refl _ _⟩
  case round =>
    obtain ⟨k, hk, rfl, rfl, rfl, hb⟩ := hrel
    by_cases hlt : k < rs.length
    · obtain ⟨b, o, rfl, hbl, hcell⟩ := (hR.below hb).2 (by omega)
      obtain ⟨z, hz⟩ : ∃ z, zs[k]? = some z := ⟨_, List.getElem?_eq_getElem (by omega)⟩
      have g := hcell k (.int .i64 z) (by simp [hz])
      have hrk := HGET.out k z hlt hz
      have hscz := rz_sc z
      have cR := runeOf_any z
      have cP := put_any (rz z : Int)
      unfold putV at cP
      rw [putZ_sc hscz] at cP
      have hdrop : rs.drop k = rz z :: rs.drop (k + 1) := by
        rw [List.drop_eq_getElem_cons hlt]
        rw [List.getElem?_eq_getElem hlt] at hrk
        injection hrk with hrk
        rw [hrk]
      have hE : encs (rs.drop k) = Lib.encodeRune (rz z : Int) ++ encs (rs.drop (k + 1)) := by rw [hdrop, encs_cons]
      have cN := next_any (encs (rs.drop k)) wr (tabs_below hT'.out h2 hb)
      unfold nextV at cN
      rw [hE, nxt_enc hscz] at cN
      simp only at cN
      have hlast : lastOf rs (k + 1) = Lib.encodeRune (rz z : Int) := by
        unfold lastOf
        rw [if_neg (by omega)]
        simp [hrk]
      obtain ⟨E, hEE⟩ : ∃ E, Lib.encodeRune (rz z : Int) = E := ⟨_, rfl⟩
      obtain ⟨S, hSS⟩ : ∃ S, encs (rs.drop (k + 1)) = S := ⟨_, rfl⟩
      have hst := str_take (E ++ S) E.length
      have hsd := str_drop (E ++ S) E.length
      simp only [List.take_left, List.drop_left] at hst hsd
      have hsd2 : (ByteArray.mk (E ++ S).toArray).extract E.length (E.length + S.length) = ⟨S.toArray⟩ := by rw [List.length_append] at hsd; exact hsd
      have hle : (E.length : Int) ≤ ((E ++ S).length : Int) := by simp; omega
      have hle2 : (E.length : Int) ≤ (E.length : Int) + (S.length : Int) := by omega
      rw [hEE, hSS] at cN
      rw [hE, hEE, hSS]
      rw [hEE] at cP hlast
      have HSS := Lib.hid hSS
      have HL := Lib.hid hlast
      have h1 : (k : Int) < (n : Int) := by omega
      have h60 : (k : Int) < 60 := by omega
      obtain ⟨R, hRR⟩ : ∃ R, rz z = R := ⟨_, rfl⟩
      rw [hRR] at cR cP cN
      have hk1 : (k + 1 : Nat) ≤ rs.length := by omega
      have hb12 : E.length + S.length ≤ 9223372036854775807 := by
        have a1 := encs_len rs
        have a2 := encs_len (rs.drop k)
        rw [hE, hEE, hSS, List.length_append, List.length_drop] at a2
        omega
      have h60' : rs.length ≤ 60 := by omega
      by_cases hk0 : k = 0
      · have hk0z : ¬ ((0 : Int) < (k : Int)) := by omega
        have HG := Lib.hid (And.intro hcell (And.intro hR (And.intro hRR hk0)))
        clear hcell hz hrk hscz hdrop hE hSS hlast hR hRR hEE hk0
        go_wp2_with (first | (go_at_call 19; refine cN.mono ?_; rintro e1 w1 ⟨rfl, hb1⟩; have g1 := (hb1.cell hbl).trans g; have hb2 := hb.trans (hb1.mono hb.size)) | (go_at_call 21; refine (cP _).mono ?_; rintro e2 w2 ⟨rfl, hw⟩; rw [hw]; clear hw) | (go_at_call 28; refine (cR _).mono ?_; rintro e3 w3 ⟨rfl, hw⟩; rw [hw]; clear hw))
        go_roundw
        case rel => exact ⟨k + 1, hk1, by simp, by rw [HSS.out], by rw [HL.out], hb2⟩
        case measure => simp [intOf]; omega
      · obtain ⟨j, rfl⟩ : ∃ j, k = j + 1 := ⟨k - 1, by omega⟩
        obtain ⟨z', hz'⟩ : ∃ z', zs[j]? = some z' := ⟨_, List.getElem?_eq_getElem (by omega)⟩
        have g' := hcell j (.int .i64 z') (by simp [hz'])
        have hrk' := HGET.out j z' (by omega) hz'
        have cR' := runeOf_any z'
        have hord := order_enc (rz_sc z') (rz_sc z)
        have hla : lastOf rs (j + 1) = Lib.encodeRune (rz z' : Int) := by
          unfold lastOf
          rw [if_neg (by omega)]
          simp [hrk']
        rw [hEE] at hord
        rw [hla]
        obtain ⟨R', hRR'⟩ : ∃ R', rz z' = R' := ⟨_, rfl⟩
        obtain ⟨E', hEE'⟩ : ∃ E', Lib.encodeRune (rz z' : Int) = E' := ⟨_, rfl⟩
        rw [hEE'] at hord ⊢
        rw [hRR', hRR] at hord
        rw [hRR'] at cR'
        have hk0z : (0 : Int) < (j : Int) + 1 := by omega
        have hjn : (j : Int) < (n : Int) := by omega
        have h1' : (j : Int) + 1 < (n : Int) := by omega
        have h60z : (j : Int) + 1 < 60 := by omega
        have HG := Lib.hid (And.intro hcell (And.intro hR (And.intro hRR hRR')))
        clear hcell hz hrk hscz hdrop hE hSS hlast hR hRR hEE hk0 hz' hrk' hla hRR' hEE'
        go_wp2_with (first | (go_at_call 19; refine cN.mono ?_; rintro e1 w1 ⟨rfl, hb1⟩; have g1 := (hb1.cell hbl).trans g; have g2 := (hb1.cell hbl).trans g'; have hb2 := hb.trans (hb1.mono hb.size)) | (go_at_call 21; refine (cP _).mono ?_; rintro e2 w2 ⟨rfl, hw⟩; rw [hw]; clear hw) | (go_at_call 28; first | (with_reducible refine (cR _).mono ?_; rintro e3 w3 ⟨rfl, hw⟩; rw [hw]; clear hw) | (with_reducible refine (cR' _).mono ?_; rintro e3 w3 ⟨rfl, hw⟩; rw [hw]; clear hw)))
        go_roundw
        case rel => exact ⟨j + 1 + 1, hk1, by simp, by rw [HSS.out], by rw [HL.out], hb2⟩
        case measure => simp [intOf]; omega
    · obtain rfl : k = rs.length := by omega
      rw [List.drop_length]
      have cK := fun wx (hb : Below w.heap.size w wx) => works_any wx (tabs_below hT'.out h2 hb) (Nat.le_trans h2 hb.size)
      obtain ⟨L, hL⟩ : ∃ L, lastOf rs rs.length = L := ⟨_, rfl⟩
      rw [hL]
      obtain ⟨m, hm⟩ : ∃ m, rs.length = m := ⟨_, rfl⟩
      rw [hm]
      have hmn : m = min n 60 := by omega
      have HB := Lib.hid hb
      by_cases h1 : (m : Int) < (n : Int)
      · have h60 : ¬ ((m : Int) < 60) := by omega
        clear hL hm hmn hrl hb hR hk hlt
        go_wp2_with (go_at_call 16; refine (cK _ HB.out).mono ?_; rintro e1 w1 ⟨rfl, hb1⟩)
        go_ret
        exact ⟨rfl, HB.out.trans (hb1.mono HB.out.size)⟩
      · clear hL hm hmn hrl hb hR hk hlt
        go_wp2_with (go_at_call 16; refine (cK _ HB.out).mono ?_; rintro e1 w1 ⟨rfl, hb1⟩)
        go_ret
        exact ⟨rfl, HB.out.trans (hb1.mono HB.out.size)⟩
end Go.Proofs.YtalegkgonbmaoaaDoor
