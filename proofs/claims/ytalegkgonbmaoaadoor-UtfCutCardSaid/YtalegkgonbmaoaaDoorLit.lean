import Derived.Test.YtalegkgonbmaoaaDoorUnit
/- The statements' helper literal: a literal in which each scalar value has one of its spellings. -/
set_option linter.unusedVariables false
set_option linter.unusedSimpArgs false
namespace Go.Proofs.YtalegkgonbmaoaaDoor
open Go.RowKit
def wayOf (ws : List Int) (i : Nat) : Int := if ws = [] then 0 else (ws.getD (i % ws.length) 0) % 3
def spelled (rs : List Nat) (ws : List Int) (k : Nat) : List UInt8 := (List.range k).flatMap fun i => spell (rs.getD i 0) (wayOf ws i)
def litL (zs ws : List Int) : List UInt8 := [34] ++ spelled (runes zs) ws (runes zs).length ++ [34]
theorem spelled_succ (rs : List Nat) (ws : List Int) (k : Nat) : spelled rs ws (k + 1) = spelled rs ws k ++ spell (rs.getD k 0) (wayOf ws k) := by
  unfold spelled; rw [List.range_succ, List.flatMap_append]; simp
theorem item_spelled (rs : List Nat) (ws : List Int) (h : ∀ r ∈ rs, Sc r) : ∀ k, k ≤ rs.length → Item (spelled rs ws k) (encs (rs.take k))
  | 0, _ => by simpa [spelled, encs] using Item.nil
  | k + 1, hk => by
    have hg : rs.getD k 0 = rs[k]'(by omega) := by simp [List.getD, List.getElem?_eq_getElem (show k < rs.length by omega)]
    rw [spelled_succ, List.take_succ_eq_append_getElem (by omega), encs_app, hg]
    have he : encs [rs[k]'(by omega)] = Lib.encodeRune ((rs[k]'(by omega) : Nat) : Int) := by simp [encs]
    rw [he]
    exact (item_spelled rs ws h k (by omega)).append (item_spell (h _ (List.getElem_mem _)) _)
theorem unit_len (n : Nat) (up : Bool) : (unitS n up).length = 6 := rfl
theorem spell_len {r : Nat} (w : Int) : (spell r w).length ≤ 12 := by
  have := (enc_len (r := r)).2
  unfold spell
  repeat' split
  all_goals first | (simp [unitS]; done) | omega
theorem spelled_len (rs : List Nat) (ws : List Int) : ∀ k, (spelled rs ws k).length ≤ 12 * k
  | 0 => by simp [spelled]
  | k + 1 => by rw [spelled_succ, List.length_append]; have := spelled_len rs ws k; have := spell_len (r := rs.getD k 0) (wayOf ws k); omega
/-- The literal reads as the text, whatever follows. -/
theorem unq_lit (zs ws : List Int) (t : List UInt8) : unq (litL zs ws ++ t) = (encs (runes zs), (litL zs ws).length, 0, 0) := by
  have h := item_spelled (runes zs) ws (runes_sc zs) (runes zs).length (Nat.le_refl _)
  rw [List.take_length] at h
  unfold litL
  rw [h.whole t]
  simp
theorem lit_len (zs ws : List Int) : (litL zs ws).length ≤ 722 ∧ 2 ≤ (litL zs ws).length := by
  have := spelled_len (runes zs) ws (runes zs).length
  have := runes_len zs
  unfold litL
  simp only [List.length_append, List.length_cons, List.length_nil]
  omega
theorem and1023 (x : Int) (h0 : 0 ≤ x) (h1 : x < 9223372036854775807) : bits .and .i64 x 1023 = x % 1024 := bits_mask .i64 63 (by decide) wraps_i64 10 (by decide) x h0 (by omega)
def meantB : ByteArray := ⟨#[34, 92, 47, 8, 12, 10, 13, 9]⟩
def marksB : ByteArray := ⟨#[34, 92, 47, 98, 102, 110, 114, 116]⟩
theorem noMark_fin : ∀ r : Fin 128, (markOf r.val).isNone = true → Lib.index meantL [by8 r.val] = -1 := by decide +kernel
theorem mark_fin : ∀ r : Fin 128, (markOf r.val).isSome = true → ∃ k : Fin 8, Lib.index meantL [by8 r.val] = (k.val : Int) ∧ marksB.extract k.val (k.val + 1) = ⟨[(markOf r.val).getD 0].toArray⟩ := by decide +kernel
theorem mark_small {r : Nat} {c : UInt8} (h : markOf r = some c) : r < 128 := by
  unfold markOf at h
  repeat' split at h
  all_goals first | omega | cases h
theorem index_any (l : List UInt8) (w : World) (hM : ∃ m, w.cell? ⟨2, 0, none⟩ = some (.int .i64 m)) : Calls Tryd.prog 29 #[.string ⟨#[34, 92, 47, 8, 12, 10, 13, 9]⟩, .string ⟨l.toArray⟩] w fun e w' => e = .returned (.int .i64 (Lib.index meantL l)) ∧ w' = w := by
  obtain ⟨m, hm⟩ := hM
  exact Tryd.strings_Index ⟨#[34, 92, 47, 8, 12, 10, 13, 9]⟩ ⟨l.toArray⟩ m w (by decide) hm
set_option maxRecDepth 100000 in
set_option maxHeartbeats 4000000 in
theorem literal_any (A : Option Addr) (n c : Nat) (zs : List Int) (A2 : Option Addr) (n2 c2 : Nat) (ws : List Int) (w : World) (hA : Rd w 1 A n (nums64 zs)) (hn : n ≤ 9223372036854775807) (hA2 : Rd w 1 A2 n2 (nums64 ws)) (hn2 : n2 ≤ 9223372036854775807) (hM : ∃ m, w.cell? ⟨2, 0, none⟩ = some (.int .i64 m)) (h3 : 3 ≤ w.heap.size) :
    Calls Tryd.prog 11 #[.slice A n c, .slice A2 n2 c2] w fun e w' => e = .returned (.string ⟨(litL zs ws).toArray⟩) ∧ Below w.heap.size w w' := by
  have hl : zs.length = n := by have := hA.1; simpa [nums64] using this
  have hl2 : ws.length = n2 := by have := hA2.1; simpa [nums64] using this
  obtain ⟨rs, hrs⟩ : ∃ rs, runes zs = rs := ⟨_, rfl⟩
  have hrl : rs.length = min n 60 := by rw [← hrs]; simp [runes]; omega
  have hget : ∀ k z, k < rs.length → zs[k]? = some z → rs[k]? = some (rz z) := by
    intro k z hk hz
    rw [← hrs]
    unfold runes
    rw [List.getElem?_take, if_pos (by omega), List.getElem?_map, hz]
    rfl
  unfold litL
  rw [hrs]
  have HGET := Lib.hid hget
  have cJ0 : ∀ wx, Below w.heap.size w wx → ∀ l : List UInt8, Calls Tryd.prog 29 #[.string ⟨#[34, 92, 47, 8, 12, 10, 13, 9]⟩, .string ⟨l.toArray⟩] wx fun e w' => e = .returned (.int .i64 (Lib.index meantL l)) ∧ w' = wx := fun wx hb l => index_any l wx (by obtain ⟨m, hm⟩ := hM; exact ⟨m, (hb.cell (show 2 < w.heap.size by omega)).trans hm⟩)
  clear hrs hget hM
  go_enter Tryd.func11, Tryd.ntmps11
  go_wp2
  go_loopw [5, 6] (fun s i wr => ∃ k : Nat, k ≤ rs.length ∧ i = .int .i64 (k : Int) ∧ s = .string ⟨([34] ++ spelled rs ws k).toArray⟩ ∧ Below w.heap.size w wr) (fun _ i _ => 60 - (intOf i).toNat)
  case atStart => exact ⟨0, by omega, rfl, rfl, Below.refl _ _⟩
  case round =>
    obtain ⟨k, hk, rfl, rfl, hb⟩ := hrel
    by_cases hlt : k < rs.length
    · obtain ⟨b, o, rfl, hbl, hcell⟩ := (hA.below hb).2 (by omega)
      obtain ⟨z, hz⟩ : ∃ z, zs[k]? = some z := ⟨_, List.getElem?_eq_getElem (by omega)⟩
      have g := hcell k (.int .i64 z) (by simp [nums64, hz])
      have hrk := HGET.out k z hlt hz
      have hsc := rz_sc z
      have cR := runeOf_any z
      have hgd : rs.getD k 0 = rz z := by simp [List.getD, hrk]
      obtain ⟨S, hS⟩ : ∃ S, [34] ++ spelled rs ws k = S := ⟨_, rfl⟩
      have hSl : S.length ≤ 800 := by rw [← hS]; have := spelled_len rs ws k; simp only [List.length_append, List.length_cons, List.length_nil]; omega
      have hS1 : [34] ++ spelled rs ws (k + 1) = S ++ spell (rz z) (wayOf ws k) := by rw [spelled_succ, hgd, ← hS]; simp
      have hXl := spell_len (r := rz z) (wayOf ws k)
      rw [hS]
      obtain ⟨r, hr⟩ : ∃ r, rz z = r := ⟨_, rfl⟩
      rw [hr] at cR hsc hS1 hXl
      obtain ⟨W, hW⟩ : ∃ W, wayOf ws k = W := ⟨_, rfl⟩
      rw [hW] at hS1 hXl
      have hW3 : W = 0 ∨ W = 1 ∨ W = 2 := by
        rw [← hW]; unfold wayOf; split
        · exact .inl rfl
        · omega
      have h1 : (k : Int) < (n : Int) := by omega
      have h60 : (k : Int) < 60 := by omega
      have hk1 : k + 1 ≤ rs.length := by omega
      have hsc' := hsc
      unfold Sc at hsc'
      have hwr : IntKind.i32.wrap (r : Int) = (r : Int) := by simp only [IntKind.wrap_i32]; omega
      have hR2 := Lib.hid (hA2.below hb)
      have HWAY := Lib.hid hW
      have HB := Lib.hid hb
      have HS1 := Lib.hid hS1
      have HXL := Lib.hid hXl
      clear hcell hz hrk hS hgd hr hW hS1 hXl hb hlt hk
      go_upto_if 31 with (go_at_call 28; refine (cR _).mono ?_; rintro e1 w1 ⟨rfl, hw⟩; rw [hw]; clear hw)
      go_cut [8] (fun v wx => v = .int .i64 W ∧ wx = wr)
      case first =>
        have HW := HWAY.out
        unfold wayOf at HW
        by_cases hw0 : ws = []
        · rw [if_pos hw0] at HW
          subst HW
          have hz0 : n2 = 0 := by rw [← hl2, hw0]; rfl
          have hz1 : ¬ ((0 : Int) < (n2 : Int)) := by omega
          clear hw0 hl2 hz0
          go_wp2_with fail
          go_meet
          exact ⟨rfl, rfl⟩
        · rw [if_neg hw0, hl2] at HW
          have hp : 0 < n2 := by have := List.length_pos_iff.2 hw0; omega
          have hz1 : (0 : Int) < (n2 : Int) := by omega
          have hne : ¬ ((n2 : Int) = 0) := by omega
          obtain ⟨b2, o2, rfl, hbl2, hcell2⟩ := hR2.out.2 hp
          have hml := Nat.mod_lt k hp
          obtain ⟨x, hx⟩ : ∃ x, ws[k % n2]? = some x := ⟨_, List.getElem?_eq_getElem (by omega)⟩
          have g2 := hcell2 (k % n2) (.int .i64 x) (by simp [nums64, hx])
          have hxd : ws.getD (k % n2) 0 = x := by simp [List.getD, hx]
          rw [hxd] at HW
          have htm : (k : Int).tmod (n2 : Int) = ((k % n2 : Nat) : Int) := by rw [Int.tmod_eq_emod_of_nonneg (by omega)]; rfl
          have hb3 := bring_any x 3 (by omega) (by omega)
          rw [HW] at hb3
          obtain ⟨q, hq⟩ : ∃ q, k % n2 = q := ⟨_, rfl⟩
          rw [hq] at htm g2 hml
          have hql : (q : Int) < (n2 : Int) := by omega
          have HH := Lib.hid (And.intro HW (And.intro hcell2 hq))
          clear hw0 HW hcell2 hx hxd hq hl2
          go_wp2_with (go_at_call 17; refine (hb3 _).mono ?_; rintro e1 w1 ⟨rfl, rfl⟩)
          go_meet
          exact ⟨rfl, rfl⟩
      case rest =>
        obtain ⟨rfl, hwc⟩ := hcut
        rw [hwc]
        clear hwc
        have cP := put_any (r : Int)
        unfold putV at cP
        rw [putZ_sc hsc] at cP
        obtain ⟨E, hE⟩ : ∃ E, Lib.encodeRune (r : Int) = E := ⟨_, rfl⟩
        have hE1 : r < 128 → E = [by8 r] := fun h => by rw [← hE, enc1 h]
        have hE2 : ¬ r < 128 → ¬ E.length = 1 := fun h => by
          rw [← hE]
          by_cases h5 : r < 2048
          · rw [enc2 (by omega) h5]; simp
          · by_cases h6 : r < 65536
            · rw [enc3 hsc (by omega) h6]; simp
            · rw [enc4 (by omega) (by omega)]; simp
        simp only [hE] at cP
        have hEl := (enc_len (r := r)).2
        rw [hE] at hEl
        have cJ : ∀ wx, Below wr.heap.size wr wx → Calls Tryd.prog 29 #[.string ⟨#[34, 92, 47, 8, 12, 10, 13, 9]⟩, .string ⟨E.toArray⟩] wx fun e w' => e = .returned (.int .i64 (Lib.index meantL E)) ∧ w' = wx := fun wx hb => cJ0 wx (HB.out.trans (hb.mono HB.out.size)) E
        have hbA := (Below.refl wr.heap.size wr).alloc (Nat.le_refl _) (.cells #[.string ⟨#[48, 49, 50, 51, 52, 53, 54, 55, 56, 57, 97, 98, 99, 100, 101, 102]⟩, .string ⟨#[48, 49, 50, 51, 52, 53, 54, 55, 56, 57, 65, 66, 67, 68, 69, 70]⟩] 9)
        have HBA := Lib.hid (HB.out.trans (hbA.mono HB.out.size))
        have HE1 := Lib.hid hE1
        have HE2 := Lib.hid hE2
        have HEE := Lib.hid hE
        have HSC := Lib.hid hsc
        clear hbA hsc hE hE1 hE2 cJ0 cR
        have HS2 := HS1.out
        rcases hW3 with rfl | rfl | rfl
        · by_cases h6 : r < 65536
          · have h6z : (r : Int) < 65536 := by omega
            have hX : spell r 0 = unitS r false := by unfold spell; rw [if_neg (by decide), if_pos h6]; rfl
            rw [hX] at HS2
            have cU := fun w => unit_any r false w h6
            have happ := app_list S (unitS r false)
            have hul := unit_len r false
            obtain ⟨U, hU⟩ : ∃ U, unitS r false = U := ⟨_, rfl⟩
            rw [hU] at cU happ HS2 hul
            have HS := Lib.hid HS2
            clear HS2 hX hU h6 hsc'
            go_wp2_with (first | (go_at_call 21; refine (cP _).mono ?_; rintro e2 w2 ⟨rfl, hw⟩; rw [hw]; clear hw) | (go_at_call 29; refine (cJ _ ((Below.refl _ _).alloc (Nat.le_refl _) _)).mono ?_; rintro e3 w3 ⟨rfl, hw⟩; rw [hw]; clear hw) | (go_at_call 30; refine (cU _).mono ?_; rintro e4 w4 ⟨rfl, hb4⟩))
            go_roundw
            case rel => exact ⟨k + 1, hk1, by simp, by rw [HS.out], HBA.out.trans (hb4.mono HBA.out.size)⟩
            case measure => simp [intOf]; omega
          · have h6z : decide ((r : Int) < 65536) = false := decide_eq_false (by omega)
            obtain ⟨q, hq⟩ : ∃ q, (r - 65536) / 1024 = q := ⟨_, rfl⟩
            obtain ⟨p, hp⟩ : ∃ p, r % 1024 = p := ⟨_, rfl⟩
            have hX : spell r 0 = unitS (55296 + q) false ++ unitS (56320 + p) false := by unfold spell; rw [if_neg (by decide), if_neg h6, hq, hp]; rfl
            rw [hX, ← List.append_assoc] at HS2
            have cU : ∀ w, Calls Tryd.prog 30 #[.int .i64 (55296 + (q : Int)), .string ⟨#[48, 49, 50, 51, 52, 53, 54, 55, 56, 57, 97, 98, 99, 100, 101, 102]⟩] w fun e w' => e = .returned (.string ⟨(unitS (55296 + q) false).toArray⟩) ∧ Below w.heap.size w w' := fun w => unit_any (55296 + q) false w (by omega)
            have cV : ∀ w, Calls Tryd.prog 30 #[.int .i64 (56320 + (p : Int)), .string ⟨#[48, 49, 50, 51, 52, 53, 54, 55, 56, 57, 97, 98, 99, 100, 101, 102]⟩] w fun e w' => e = .returned (.string ⟨(unitS (56320 + p) false).toArray⟩) ∧ Below w.heap.size w w' := fun w => unit_any (56320 + p) false w (by omega)
            have happ := app_list S (unitS (55296 + q) false)
            have happ2 := app_list (S ++ unitS (55296 + q) false) (unitS (56320 + p) false)
            have hul := unit_len (55296 + q) false
            have hvl := unit_len (56320 + p) false
            obtain ⟨U, hU⟩ : ∃ U, unitS (55296 + q) false = U := ⟨_, rfl⟩
            obtain ⟨V, hV⟩ : ∃ V, unitS (56320 + p) false = V := ⟨_, rfl⟩
            rw [hU] at cU happ happ2 HS2 hul
            rw [hV] at cV happ2 HS2 hvl
            have HS := Lib.hid HS2
            have e1 : IntKind.i64.wrap ((r : Int) - 65536) = (r : Int) - 65536 := wraps_i64 _ (by omega) (by omega)
            have e2 : ((r : Int) - 65536) / 1024 = (q : Int) := by omega
            have e4 : bits .and .i64 (r : Int) 1023 = (p : Int) := by rw [and1023 _ (by omega) (by omega)]; omega
            have e6 : IntKind.i64.wrap (55296 + (q : Int)) = 55296 + (q : Int) := wraps_i64 _ (by omega) (by omega)
            have e7 : IntKind.i64.wrap (56320 + (p : Int)) = 56320 + (p : Int) := wraps_i64 _ (by omega) (by omega)
            clear HS2 hX hU hV hq hp h6 hsc'
            go_wp2_with (first | (go_at_call 21; refine (cP _).mono ?_; rintro e2 w2 ⟨rfl, hw⟩; rw [hw]; clear hw) | (go_at_call 29; refine (cJ _ ((Below.refl _ _).alloc (Nat.le_refl _) _)).mono ?_; rintro e3 w3 ⟨rfl, hw⟩; rw [hw]; clear hw) | (go_at_call 30; first | (with_reducible refine (cU _).mono ?_; rintro e4 w4 ⟨rfl, hb4⟩) | (with_reducible refine (cV _).mono ?_; rintro e5 w5 ⟨rfl, hb5⟩)))
            go_roundw
            case rel => exact ⟨k + 1, hk1, by simp, by first | (rw [HS.out]; done) | (rw [HS.out]; simp), (HBA.out.trans (hb4.mono HBA.out.size)).trans (hb5.mono (HBA.out.trans (hb4.mono HBA.out.size)).size)⟩
            case measure => simp [intOf]; omega
        · by_cases h6 : r < 65536
          · have h6z : (r : Int) < 65536 := by omega
            have hX : spell r 1 = unitS r true := by unfold spell; rw [if_neg (by decide), if_pos h6]; rfl
            rw [hX] at HS2
            have cU := fun w => unit_any r true w h6
            have happ := app_list S (unitS r true)
            have hul := unit_len r true
            obtain ⟨U, hU⟩ : ∃ U, unitS r true = U := ⟨_, rfl⟩
            rw [hU] at cU happ HS2 hul
            have HS := Lib.hid HS2
            clear HS2 hX hU h6 hsc'
            go_wp2_with (first | (go_at_call 21; refine (cP _).mono ?_; rintro e2 w2 ⟨rfl, hw⟩; rw [hw]; clear hw) | (go_at_call 29; refine (cJ _ ((Below.refl _ _).alloc (Nat.le_refl _) _)).mono ?_; rintro e3 w3 ⟨rfl, hw⟩; rw [hw]; clear hw) | (go_at_call 30; refine (cU _).mono ?_; rintro e4 w4 ⟨rfl, hb4⟩))
            go_roundw
            case rel => exact ⟨k + 1, hk1, by simp, by rw [HS.out], HBA.out.trans (hb4.mono HBA.out.size)⟩
            case measure => simp [intOf]; omega
          · have h6z : decide ((r : Int) < 65536) = false := decide_eq_false (by omega)
            obtain ⟨q, hq⟩ : ∃ q, (r - 65536) / 1024 = q := ⟨_, rfl⟩
            obtain ⟨p, hp⟩ : ∃ p, r % 1024 = p := ⟨_, rfl⟩
            have hX : spell r 1 = unitS (55296 + q) true ++ unitS (56320 + p) true := by unfold spell; rw [if_neg (by decide), if_neg h6, hq, hp]; rfl
            rw [hX, ← List.append_assoc] at HS2
            have cU : ∀ w, Calls Tryd.prog 30 #[.int .i64 (55296 + (q : Int)), .string ⟨#[48, 49, 50, 51, 52, 53, 54, 55, 56, 57, 65, 66, 67, 68, 69, 70]⟩] w fun e w' => e = .returned (.string ⟨(unitS (55296 + q) true).toArray⟩) ∧ Below w.heap.size w w' := fun w => unit_any (55296 + q) true w (by omega)
            have cV : ∀ w, Calls Tryd.prog 30 #[.int .i64 (56320 + (p : Int)), .string ⟨#[48, 49, 50, 51, 52, 53, 54, 55, 56, 57, 65, 66, 67, 68, 69, 70]⟩] w fun e w' => e = .returned (.string ⟨(unitS (56320 + p) true).toArray⟩) ∧ Below w.heap.size w w' := fun w => unit_any (56320 + p) true w (by omega)
            have happ := app_list S (unitS (55296 + q) true)
            have happ2 := app_list (S ++ unitS (55296 + q) true) (unitS (56320 + p) true)
            have hul := unit_len (55296 + q) true
            have hvl := unit_len (56320 + p) true
            obtain ⟨U, hU⟩ : ∃ U, unitS (55296 + q) true = U := ⟨_, rfl⟩
            obtain ⟨V, hV⟩ : ∃ V, unitS (56320 + p) true = V := ⟨_, rfl⟩
            rw [hU] at cU happ happ2 HS2 hul
            rw [hV] at cV happ2 HS2 hvl
            have HS := Lib.hid HS2
            have e1 : IntKind.i64.wrap ((r : Int) - 65536) = (r : Int) - 65536 := wraps_i64 _ (by omega) (by omega)
            have e2 : ((r : Int) - 65536) / 1024 = (q : Int) := by omega
            have e4 : bits .and .i64 (r : Int) 1023 = (p : Int) := by rw [and1023 _ (by omega) (by omega)]; omega
            have e6 : IntKind.i64.wrap (55296 + (q : Int)) = 55296 + (q : Int) := wraps_i64 _ (by omega) (by omega)
            have e7 : IntKind.i64.wrap (56320 + (p : Int)) = 56320 + (p : Int) := wraps_i64 _ (by omega) (by omega)
            clear HS2 hX hU hV hq hp h6 hsc'
            go_wp2_with (first | (go_at_call 21; refine (cP _).mono ?_; rintro e2 w2 ⟨rfl, hw⟩; rw [hw]; clear hw) | (go_at_call 29; refine (cJ _ ((Below.refl _ _).alloc (Nat.le_refl _) _)).mono ?_; rintro e3 w3 ⟨rfl, hw⟩; rw [hw]; clear hw) | (go_at_call 30; first | (with_reducible refine (cU _).mono ?_; rintro e4 w4 ⟨rfl, hb4⟩) | (with_reducible refine (cV _).mono ?_; rintro e5 w5 ⟨rfl, hb5⟩)))
            go_roundw
            case rel => exact ⟨k + 1, hk1, by simp, by first | (rw [HS.out]; done) | (rw [HS.out]; simp), (HBA.out.trans (hb4.mono HBA.out.size)).trans (hb5.mono (HBA.out.trans (hb4.mono HBA.out.size)).size)⟩
            case measure => simp [intOf]; omega
        · cases hm : markOf r with
          | some m =>
            have h128 := mark_small hm
            obtain ⟨j, hj1, hj2⟩ := mark_fin ⟨r, h128⟩ (by simp [hm])
            simp only [hm, Option.getD_some] at hj1 hj2
            rw [← HE1.out h128] at hj1
            have hX : spell r 2 = [92, m] := by unfold spell; rw [if_pos rfl, hm]
            rw [hX] at HS2
            have hl1 : E.length = 1 := by rw [HE1.out h128]; rfl
            obtain ⟨q, hq⟩ : ∃ q, j.val = q := ⟨_, rfl⟩
            have hq8 : q < 8 := by rw [← hq]; exact j.isLt
            rw [hq] at hj1 hj2
            have hj2' : (⟨#[34, 92, 47, 98, 102, 110, 114, 116]⟩ : ByteArray).extract q (q + 1) = ⟨#[m]⟩ := hj2
            rw [hj1] at cJ
            have happ := app_list S [92]
            have happ2 := app_list (S ++ [92]) [m]
            have hq0 : (0 : Int) ≤ (q : Int) := by omega
            have hw : IntKind.i64.wrap ((q : Int) + 1) = (q : Int) + 1 := wraps_i64 _ (by omega) (by omega)
            have hq1 : (q : Int) + 1 ≤ 8 := by omega
            have hqt : ((q : Int) + 1).toNat = q + 1 := by omega
            have hql : (q : Int) ≤ (q : Int) + 1 := by omega
            have hl1z : (E.length : Int) = 1 := by omega
            rw [show S ++ [92, m] = S ++ [92] ++ [m] by simp] at HS2
            have HS := Lib.hid HS2
            clear HS2 hX hm hj1 hj2 hq h128 hsc'
            go_wp2_with (first | (go_at_call 21; refine (cP _).mono ?_; rintro e2 w2 ⟨rfl, hw⟩; rw [hw]; clear hw) | (go_at_call 29; refine (cJ _ ((Below.refl _ _).alloc (Nat.le_refl _) _)).mono ?_; rintro e3 w3 ⟨rfl, hw⟩; rw [hw]; clear hw))
            go_roundw
            case rel => exact ⟨k + 1, hk1, by simp, by first | (rw [HS.out]; done) | (rw [HS.out]; simp), HBA.out⟩
            case measure => simp [intOf]; omega
          | none =>
            by_cases h32 : 32 ≤ r
            · have hX : spell r 2 = E := by unfold spell; rw [if_pos rfl, hm]; simp only [h32, if_true]; exact HEE.out
              rw [hX] at HS2
              have HS := Lib.hid HS2
              have happ := app_list S E
              have h32z : (32 : Int) ≤ (r : Int) := by omega
              by_cases h128 : r < 128
              · have hi := noMark_fin ⟨r, h128⟩ (by simp [hm])
                rw [← HE1.out h128] at hi
                rw [hi] at cJ
                have hl1 : E.length = 1 := by rw [HE1.out h128]; rfl
                have hl1z : (E.length : Int) = 1 := by omega
                clear HS2 hX hm hi h128 h32 hsc'
                go_wp2_with (first | (go_at_call 21; refine (cP _).mono ?_; rintro e2 w2 ⟨rfl, hw⟩; rw [hw]; clear hw) | (go_at_call 29; refine (cJ _ ((Below.refl _ _).alloc (Nat.le_refl _) _)).mono ?_; rintro e3 w3 ⟨rfl, hw⟩; rw [hw]; clear hw))
                go_roundw
                case rel => exact ⟨k + 1, hk1, by simp, by first | (rw [HS.out]; done) | (rw [HS.out]; simp), HBA.out⟩
                case measure => simp [intOf]; omega
              · have hl1 := HE2.out h128
                have hl1z : ¬ ((E.length : Int) = 1) := by omega
                have hl1b : ((E.length : Int) == 1) = false := by simp; omega
                clear HS2 hX hm h128 h32 hsc'
                go_wp2_with (first | (go_at_call 21; refine (cP _).mono ?_; rintro e2 w2 ⟨rfl, hw⟩; rw [hw]; clear hw) | (go_at_call 29; refine (cJ _ ((Below.refl _ _).alloc (Nat.le_refl _) _)).mono ?_; rintro e3 w3 ⟨rfl, hw⟩; rw [hw]; clear hw))
                go_roundw
                case rel => exact ⟨k + 1, hk1, by simp, by first | (rw [HS.out]; done) | (rw [HS.out]; simp), HBA.out⟩
                case measure => simp [intOf]; omega
            · have h128 : r < 128 := by omega
              have hi := noMark_fin ⟨r, h128⟩ (by simp [hm])
              rw [← HE1.out h128] at hi
              rw [hi] at cJ
              have hl1 : E.length = 1 := by rw [HE1.out h128]; rfl
              have hl1z : (E.length : Int) = 1 := by omega
              have h32z : decide ((32 : Int) ≤ (r : Int)) = false := decide_eq_false (by omega)
              have h6z : (r : Int) < 65536 := by omega
              have hX : spell r 2 = unitS r false := by unfold spell; rw [if_pos rfl, hm]; simp only [h32, if_false]
              rw [hX] at HS2
              have cU := fun w => unit_any r false w (by omega)
              have happ := app_list S (unitS r false)
              have hul := unit_len r false
              obtain ⟨U, hU⟩ : ∃ U, unitS r false = U := ⟨_, rfl⟩
              rw [hU] at cU happ HS2 hul
              have HS := Lib.hid HS2
              clear HS2 hX hU hm hi h128 h32 hsc'
              go_wp2_with (first | (go_at_call 21; refine (cP _).mono ?_; rintro e2 w2 ⟨rfl, hw⟩; rw [hw]; clear hw) | (go_at_call 29; refine (cJ _ ((Below.refl _ _).alloc (Nat.le_refl _) _)).mono ?_; rintro e3 w3 ⟨rfl, hw⟩; rw [hw]; clear hw) | (go_at_call 30; refine (cU _).mono ?_; rintro e4 w4 ⟨rfl, hb4⟩))
              go_roundw
              case rel => exact ⟨k + 1, hk1, by simp, by rw [HS.out], HBA.out.trans (hb4.mono HBA.out.size)⟩
              case measure => simp [intOf]; omega
    · obtain rfl : k = rs.length := by omega
      obtain ⟨m, hm⟩ : ∃ m, rs.length = m := ⟨_, rfl⟩
      obtain ⟨S, hS⟩ : ∃ S, [34] ++ spelled rs ws rs.length = S := ⟨_, rfl⟩
      have hSl : S.length ≤ 800 := by rw [← hS]; have := spelled_len rs ws rs.length; simp only [List.length_append, List.length_cons, List.length_nil]; omega
      have happ := app_list S [34]
      rw [hS]
      have HS := Lib.hid hS
      rw [hm] at HS ⊢
      have HM := Lib.hid hm
      have HB := Lib.hid hb
      by_cases h1 : (m : Int) < (n : Int)
      · have h60 : ¬ ((m : Int) < 60) := by omega
        clear hS hm hrl hb hA hA2 hk hlt
        go_wp2
        go_ret
        exact ⟨by rw [HM.out, ← HS.out]; rfl, HB.out⟩
      · clear hS hm hrl hb hA hA2 hk hlt
        go_wp2
        go_ret
        exact ⟨by rw [HM.out, ← HS.out]; rfl, HB.out⟩
end Go.Proofs.YtalegkgonbmaoaaDoor
