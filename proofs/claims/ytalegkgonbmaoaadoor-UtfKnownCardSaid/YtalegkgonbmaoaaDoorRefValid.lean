import Derived.Test.YtalegkgonbmaoaaDoorRefNext
import Derived.BigQuiet
import Derived.Deep.QuietTactic
import Derived.Deep.DeepCutAuto
/- The reference's Valid and Quote: they answer what the program's answer. -/
set_option linter.unusedVariables false
set_option linter.unusedSimpArgs false
namespace Go.Proofs.YtalegkgonbmaoaaDoor
open Go.RowKit
theorem valid_none {l : List UInt8} (h0 : l ≠ []) (h : nxt l = none) : Lib.validD l = false := by
  unfold nxt at h
  rw [if_neg h0] at h
  split at h
  · rename_i hc
    rw [Lib.validD_step l h0, if_pos hc]
  · cases h
theorem valid_some {l : List UInt8} {r k : Nat} (h : nxt l = some (r, k)) : Lib.validD l = Lib.validD (l.drop k) := by
  have h0 : l ≠ [] := by rintro rfl; simp [nxt] at h
  unfold nxt at h
  rw [if_neg h0] at h
  split at h
  · cases h
  · rename_i hc
    injection h with h
    rw [Lib.validD_step l h0, if_neg hc, h]
def strL (v : Value) : Nat := match v with | .string s => s.size | _ => 0
set_option maxRecDepth 100000 in
set_option maxHeartbeats 1000000 in
theorem refValid_any (l : List UInt8) (w : World) (hmax : l.length ≤ 1000000) : Calls Tryd.prog 25 #[.string ⟨l.toArray⟩] w fun e w' => e = .returned (.bool (Lib.validD l)) ∧ Below w.heap.size w w' := by
  obtain ⟨V, hV⟩ : ∃ V, Lib.validD l = V := ⟨_, rfl⟩
  rw [hV]
  go_enter Tryd.func25, Tryd.ntmps25
  go_wp2
  go_loopw [0] (fun s wr => ∃ m : List UInt8, s = .string ⟨m.toArray⟩ ∧ Lib.validD m = V ∧ m.length ≤ 1000000 ∧ Below w.heap.size w wr) (fun s _ => strL s)
  case atStart => exact ⟨l, rfl, hV, hmax, Below.refl _ _⟩
  case round =>
    obtain ⟨m, rfl, hm, hml, hb⟩ := hrel
    have hsz : (ByteArray.mk m.toArray).size = m.length := by show m.toArray.size = _; simp
    by_cases h0 : m = []
    · subst h0
      have hVt : V = true := by rw [← hm]; rfl
      subst hVt
      clear hm hV
      go_wp2
      go_ret
      exact ⟨rfl, hb⟩
    · have hpos : 0 < m.length := List.length_pos_iff.2 h0
      have hz : (0 : Int) < (m.length : Int) := by omega
      have cN := refNext_any m wr hml
      unfold nextV at cN
      have HB := Lib.hid hb
      cases hn : nxt m with
      | none =>
        have hVf : V = false := by rw [← hm]; exact valid_none h0 hn
        subst hVf
        rw [hn] at cN
        simp only at cN
        clear hm hn h0 hV hb hpos
        go_wp2_with (go_at_call 20; refine cN.mono ?_; rintro e w1 ⟨rfl, hb1⟩)
        go_ret
        exact ⟨rfl, HB.out.trans (hb1.mono HB.out.size)⟩
      | some p =>
        obtain ⟨r, k⟩ := p
        have hk := nxt_le hn
        have hv := valid_some hn
        rw [hn] at cN
        simp only at cN hk
        have hsd := str_drop m k
        have hkz : (k : Int) ≤ (m.length : Int) := by omega
        have hk0 : (0 : Int) ≤ (k : Int) := by omega
        have HM := Lib.hid (show Lib.validD (m.drop k) = V by rw [← hv]; exact hm)
        clear hm hn h0 hV hb hv
        go_wp2_with (go_at_call 20; refine cN.mono ?_; rintro e w1 ⟨rfl, hb1⟩)
        go_roundw
        case rel => exact ⟨m.drop k, rfl, HM.out, by rw [List.length_drop]; omega, HB.out.trans (hb1.mono HB.out.size)⟩
        case measure =>
          have e1 : (ByteArray.mk (m.drop k).toArray).size = m.length - k := by show (m.drop k).toArray.size = _; simp
          show (ByteArray.mk (m.drop k).toArray).size < (ByteArray.mk m.toArray).size
          omega
theorem one_at (l : List UInt8) (k : Nat) (c : UInt8) (hlt : k < l.length) (hx : (ByteArray.mk l.toArray)[k]'(by show k < l.toArray.size; simpa using hlt) = c) : (ByteArray.mk l.toArray).extract k (k + 1) = ⟨[c].toArray⟩ := by
  apply ByteArray.ext
  have hc : l[k] = c := hx
  have e : (l.drop k).take 1 = [c] := by rw [List.drop_eq_getElem_cons hlt, hc]; simp
  have e2 : List.take (k + 1 - k) (List.drop k l) = [c] := by rw [show k + 1 - k = 1 by omega]; exact e
  simp
  first | exact e2 | (rw [← e]; simp [List.extract_eq_drop_take]) | simpa using e
def bq (c : UInt8) : List UInt8 := if c.toNat < 128 then quoteOne c.toNat else [c]
theorem bq_high : ∀ l : List UInt8, (∀ c ∈ l, 128 ≤ c.toNat) → l.flatMap bq = l
  | [], _ => rfl
  | c :: t, h => by
    rw [List.flatMap_cons, bq_high t (fun x hx => h x (by simp [hx]))]
    have := h c (by simp)
    unfold bq
    rw [if_neg (by omega)]
    rfl
theorem bq_enc {r : Nat} (h : Sc r) : (Lib.encodeRune (r : Int)).flatMap bq = quoteOne r := by
  have h' := h
  unfold Sc at h
  by_cases h1 : r < 128
  · rw [enc1 h1]
    simp only [List.flatMap_cons, List.flatMap_nil, List.append_nil]
    unfold bq
    rw [by8_toNat _ (by omega), if_pos h1]
  · have hq : quoteOne r = Lib.encodeRune (r : Int) := by
      unfold quoteOne
      rw [if_neg (by omega), if_neg (by omega), if_neg (by omega), if_neg (by omega), if_neg (by omega), if_neg (by omega), if_neg (by omega), if_neg (by omega)]
    rw [hq]
    apply bq_high
    by_cases h2 : r < 2048
    · rw [enc2 (by omega) h2]
      intro c hc
      simp only [List.mem_cons, List.mem_nil_iff, or_false] at hc
      rcases hc with rfl | rfl <;> rw [by8_toNat _ (by omega)] <;> omega
    · by_cases h3 : r < 65536
      · rw [enc3 h' (by omega) h3]
        intro c hc
        simp only [List.mem_cons, List.mem_nil_iff, or_false] at hc
        rcases hc with rfl | rfl | rfl <;> rw [by8_toNat _ (by omega)] <;> omega
      · rw [enc4 (by omega) (by omega)]
        intro c hc
        simp only [List.mem_cons, List.mem_nil_iff, or_false] at hc
        rcases hc with rfl | rfl | rfl | rfl <;> rw [by8_toNat _ (by omega)] <;> omega
theorem bq_quote : ∀ (n : Nat) (l : List UInt8), l.length ≤ n → Lib.validD l = true → l.flatMap bq = quoteD l
  | 0, l, hn, _ => by
    have : l = [] := List.eq_nil_of_length_eq_zero (by omega)
    subst this; rfl
  | n + 1, l, hn, hv => by
    by_cases h0 : l = []
    · subst h0; rfl
    · cases hx : nxt l with
      | none => rw [valid_none h0 hx] at hv; cases hv
      | some p =>
        obtain ⟨r, k⟩ := p
        obtain ⟨_, _, e, hk, hs⟩ := nxt_some hx
        have hk1 := (nxt_le hx).1
        simp only at hk1
        have hv2 := (valid_some hx).symm.trans hv
        have hd : Lib.decodeL l = (r, k) := by
          unfold nxt at hx
          rw [if_neg h0] at hx
          split at hx
          · cases hx
          · injection hx
        have hl0 : 0 < l.length := List.length_pos_iff.2 h0
        rw [quoteD_step l h0, hd]
        simp only
        rw [← bq_quote n (l.drop k) (by rw [List.length_drop]; omega) hv2, ← bq_enc hs, e, ← List.flatMap_append, List.take_append_drop]
theorem bq_len (c : UInt8) : (bq c).length ≤ 6 := by
  unfold bq; split
  · exact quoteOne_len _
  · simp
theorem bqs_len : ∀ l : List UInt8, (l.flatMap bq).length ≤ 6 * l.length
  | [] => by simp
  | c :: t => by rw [List.flatMap_cons, List.length_append, List.length_cons]; have := bq_len c; have := bqs_len t; omega
theorem kind_fin : ∀ n : Fin 256, UInt8.ofNat n.val = 34 ∨ UInt8.ofNat n.val = 92 ∨ UInt8.ofNat n.val = 47 ∨ UInt8.ofNat n.val = 8 ∨ UInt8.ofNat n.val = 12 ∨ UInt8.ofNat n.val = 10 ∨ UInt8.ofNat n.val = 13 ∨ UInt8.ofNat n.val = 9 ∨ (n.val ≠ 34 ∧ n.val ≠ 92 ∧ n.val ≠ 47 ∧ n.val ≠ 8 ∧ n.val ≠ 12 ∧ n.val ≠ 10 ∧ n.val ≠ 13 ∧ n.val ≠ 9) := by decide +kernel
theorem kinds (c : UInt8) : c = 34 ∨ c = 92 ∨ c = 47 ∨ c = 8 ∨ c = 12 ∨ c = 10 ∨ c = 13 ∨ c = 9 ∨ (c.toNat ≠ 34 ∧ c.toNat ≠ 92 ∧ c.toNat ≠ 47 ∧ c.toNat ≠ 8 ∧ c.toNat ≠ 12 ∧ c.toNat ≠ 10 ∧ c.toNat ≠ 13 ∧ c.toNat ≠ 9) := by
  have := kind_fin ⟨c.toNat, c.toNat_lt⟩
  simpa using this
end Go.Proofs.YtalegkgonbmaoaaDoor
