import Derived.Test.YteoggaioleckhaaPlain
import Derived.Maps.Own
import Derived.Maps.OwnOps
import Derived.Maps.Views
/- tree.keyed: the map of the keys so far. -/
set_option linter.unusedVariables false
set_option linter.unusedSimpArgs false
namespace Go.Proofs.Yteoggaioleckhaa
open Go.RowKit
theorem zero_idx : ∀ l : List UInt8, decide (0 ≤ Lib.indexByte l 0) = zeroP l
  | [] => by decide
  | b :: l => by
    have ih := zero_idx l
    have hg := Lib.indexByte_ge l 0
    unfold zeroP at ih ⊢
    rw [Lib.indexByte]
    by_cases hb : b = 0
    · subst hb; simp
    · rw [if_neg (by simpa using hb)]
      have e : (0 ∈ b :: l) ↔ 0 ∈ l := by simp [List.mem_cons, Ne.symm hb]
      rw [decide_eq_decide.2 e, ← ih]
      apply decide_eq_decide.2
      split
      · rename_i h; have : Lib.indexByte l 0 = -1 := by simpa using h
        omega
      · rename_i h; have : ¬ Lib.indexByte l 0 = -1 := by simpa using h
        omega
theorem plainElem_bool_inv {H : Type} {P : Program} {e : TypeId} (he : P.underlying e = some .bool) {v : Value} {z : DataW H × List MemPlace} (h : plainElem P e v = some z) : ∃ x, v = .bool x ∧ z = (.lit (.bool x), []) := by
  unfold plainElem at h
  rw [he] at h
  cases v <;> simp at h
  subst h
  exact ⟨_, rfl, rfl⟩
theorem lookup_bool {H : Type} {P : Program} {w : World} {k e t : TypeId} {b n : Nat} {D : DataW H} (h : w.ownsMap P k (plainElem P e) b n D) (K : Go.Maps.Keyed P k) (ht : P.underlying t = some (.map k e)) (he : P.underlying e = some .bool) (hz : (zeroValue e).run P w = .ok (.bool false) w)
    {key : Value} {kl : Lit} (hkey : keyOf P k key = some kl) : ∃ c, (Instr.lookup t (.map (some b)) key false).run P w = .ok (.bool c) w ∧ D.atKey kl (.lit (.bool false)) = .lit (.bool c) := by
  obtain ⟨v, ps, hrun, hv⟩ := h.lookup K ht hz (plainElem_bool he false) hkey
  obtain ⟨c, rfl, hc⟩ := plainElem_bool_inv he hv
  simp only [Prod.mk.injEq] at hc
  exact ⟨c, hrun, hc.1⟩
/-- 'm[k]' at elements of the kind bool, at the operation. -/
theorem wpList_lookup_own_bool {H : Type} {P : Program} (w : World) {ops : Array Oper} {rest : List Oper} {o : Oper} {a : Act} {Q : Exit → Act → World → Prop}
    (hg : o.guard = none) (m x : Operand) (t : TypeId) (hop : o.op = Op.lookup t m x false)
    (k e : TypeId) (K : Go.Maps.Keyed P k) (ht : P.underlying t = some (.map k e)) (he : P.underlying e = some .bool) (hz : (zeroValue e).run P w = .ok (.bool false) w) (b n : Nat) (D : DataW H)
    (hm : a.eval m = .map (some b)) (hown : w.ownsMap P k (plainElem P e) b n D) (key : Value) (kl : Lit) (hx : a.eval x = key) (hkey : keyOf P k key = some kl)
    (c : Bool) (hc : D.atKey kl (.lit (.bool false)) = .lit (.bool c)) (hK : wpList P ops Q rest (a.put o.dst (.bool c)) w) :
    wpList P ops Q (o :: rest) a w := by
  refine wpList_plain hg fun K' hK' => ?_
  obtain ⟨c', hrun, hat⟩ := lookup_bool hown K ht he hz hkey
  rw [hc] at hat
  injection hat with hat
  injection hat with hat
  subst hat
  unfold Oper.wp
  simp [execOp, hop, hm, hx, hrun, Result.andThen]
  exact hK' _ _ hK
/-- The set of the keys so far, as a datum. -/
def SD : List (List UInt8) → DataW Unit
  | [] => .map []
  | l => l.foldl (fun D k => D.put (.string k) (.lit (.bool true))) (.map [])
theorem SD_eq (l : List (List UInt8)) : SD l = l.foldl (fun D k => D.put (.string k) (.lit (.bool true))) (.map []) := by
  cases l <;> rfl
theorem SD_snoc (l : List (List UInt8)) (k : List UInt8) : SD (l ++ [k]) = (SD l).put (.string k) (.lit (.bool true)) := by
  rw [SD_eq, SD_eq, List.foldl_append]; rfl
theorem SD_isMap : ∀ n (l : List (List UInt8)), l.length = n → Go.Maps.IsMap (SD l)
  | 0, l, h => by rw [List.eq_nil_of_length_eq_zero h]; exact ⟨[], rfl⟩
  | n + 1, l, h => by
    rcases List.eq_nil_or_concat l with rfl | ⟨l', x, rfl⟩
    · exact ⟨[], rfl⟩
    · rw [List.concat_eq_append, SD_snoc]
      exact (SD_isMap n l' (by simp at h; exact h)).put _ _
theorem SD_at : ∀ n (l : List (List UInt8)), l.length = n → ∀ k, (SD l).atKey (.string k) (.lit (.bool false)) = .lit (.bool (decide (k ∈ l)))
  | 0, l, h, k => by rw [List.eq_nil_of_length_eq_zero h]; simp [SD, DataW.atKey]
  | n + 1, l, h, k => by
    rcases List.eq_nil_or_concat l with rfl | ⟨l', x, rfl⟩
    · simp [SD, DataW.atKey]
    · have hl : l'.length = n := by simp at h; exact h
      rw [List.concat_eq_append, SD_snoc]
      by_cases hx : k = x
      · subst hx
        rw [Go.Maps.atKey_put_same (SD_isMap n l' hl) (by simp [WideAt.IsKeyLit])]
        simp
      · rw [Go.Maps.atKey_put_other (by intro e; injection e with e; exact hx e), SD_at n l' hl k]
        simp [hx]
set_option maxRecDepth 100000 in
set_option maxHeartbeats 1000000 in
theorem zero_any (s : List UInt8) (w : World) : Calls Try.prog 41 #[.string ⟨s.toArray⟩] w fun e w' => e = .returned (.bool (zeroP s)) ∧ w' = w := by
  have cI := Try.strings_IndexByte ⟨s.toArray⟩ 0 w
  rw [show Lib.indexByte (⟨s.toArray⟩ : ByteArray).data.toList (0 : Int).toNat.toUInt8 = Lib.indexByte s 0 by rfl] at cI
  have hz := zero_idx s
  obtain ⟨z, hzz⟩ : ∃ z, Lib.indexByte s 0 = z := ⟨_, rfl⟩
  rw [hzz] at cI hz
  rw [← hz]
  clear hz hzz
  go_enter Try.func41, Try.ntmps41
  go_wp2_with (go_at_call 42; refine cI.mono ?_; rintro e w1 ⟨rfl, hw⟩; rw [hw]; clear hw)
  go_ret
  exact ⟨rfl, rfl⟩
theorem law9 : Go.Maps.Keyed Try.prog 9 := Go.Maps.string_keyed Try.underlying9
theorem zero4 (w : World) : (zeroValue 4).run Try.prog w = .ok (.bool false) w := by kernel_rfl
theorem keysP_drop {had r : List (List UInt8)} {k : List UInt8} : keysP had (k :: r) = if zeroP k = true then 70 else if k ∈ had then 71 else keysP (had ++ [k]) r := by rw [keysP]
set_option maxRecDepth 100000 in
set_option maxHeartbeats 4000000 in
theorem keyed_any (t : NT) (w : World) (h : Is w t) : Calls Try.prog 26 #[t.val] w fun e w' => e = .returned (.int .i64 (keyedP t.pt : Int)) ∧ Below w.heap.size w w' := by
  obtain ⟨k, n, u, s, kv, keys, lv, l⟩ := t
  rw [Is] at h
  obtain ⟨⟨hk, hn, hu, hs, hkk⟩, ⟨A, c, rfl, e2, e3⟩, ⟨B, d, rfl, f2, f3⟩, hl⟩ := h
  rw [NT.pt]
  have hb0 : Below w.heap.size w (w.alloc (.cells #[.int .i64 k, .int .i64 n, .int .u64 u, .string ⟨s.toArray⟩, .slice A keys.length c, .slice B l.length d] 26)) := (Below.refl _ w).alloc (Nat.le_refl _) _
  unfold NT.val NT.cells
  simp only [List.toArray]
  have cZ := fun (s : List UInt8) w => zero_any s w
  by_cases h5 : k = 5 ∧ zeroP s = true
  · obtain ⟨rfl, hz⟩ := h5
    have hR : keyedP (.mk 5 n u s keys (ptL l)) = 70 := by simp [keyedP, hz]
    rw [hR]
    have cZ := cZ s
    rw [hz] at cZ
    clear hR hz e3 f3 hl hkk
    go_enter Try.func26, Try.ntmps26
    go_wp2_with (go_at_call 41; refine (cZ _).mono ?_; rintro e w1 ⟨rfl, hw⟩; rw [hw]; clear hw)
    go_ret
    exact ⟨rfl, hb0⟩
  · have hR : keyedP (.mk k n u s keys (ptL l)) = keysP [] keys := by simp only [keyedP]; rw [if_neg h5]
    rw [hR]
    clear hR
    obtain ⟨R, hR⟩ : ∃ R, keysP [] keys = R := ⟨_, rfl⟩
    rw [hR]
    have hmm := @run_makeMap Try.prog
    obtain ⟨zs, hzs⟩ : ∃ zs, zeroP s = zs := ⟨_, rfl⟩
    have cZs := cZ s
    rw [hzs] at cZs
    have hgo : (k = 5 ∧ zs = false) ∨ ¬ k = 5 := by
      by_cases h : k = 5
      · left; refine ⟨h, ?_⟩
        cases zs with
        | false => rfl
        | true => exact absurd ⟨h, hzs⟩ h5
      · exact .inr h
    have HR := Lib.hid hR
    have HKK := Lib.hid hkk
    have HE3 := Lib.hid e3
    clear hR hzs h5 f3 hl hkk hk hn hu hs e3
    have hl2 : (keys.length : Int) ≤ 140737488355328 := by omega
    have hmap := World.ownsMap_made (w.alloc (.cells #[.int .i64 k, .int .i64 n, .int .u64 u, .string ⟨s.toArray⟩, .slice A keys.length c, .slice B l.length d] 26)) Try.prog 9 (plainElem (H := Unit) Try.prog 4)
    rw [World.size_alloc] at hmap
    replace hmap := Lib.hid hmap
    rcases hgo with ⟨rfl, rfl⟩ | hgo
    all_goals
      go_enter Try.func26, Try.ntmps26
      go_wp2_with (go_at_call 41; refine (cZs _).mono ?_; rintro e w1 ⟨rfl, hw⟩; rw [hw]; clear hw)
      clear cZs
      have hb1 := Lib.hid ((hb0.alloc hb0.size (.map #[] 0)))
      clear hb0
      go_loopw [20] (fun i wr => ∃ j : Nat, j ≤ keys.length ∧ i = .int .i64 (j : Int) ∧ wr.ownsMap Try.prog 9 (plainElem Try.prog 4) (w.heap.size + 1) j (SD (keys.take j)) ∧ keysP (keys.take j) (keys.drop j) = R ∧ Below w.heap.size w wr) (fun i _ => keys.length - (intOf i).toNat)
      case atStart => exact ⟨0, by omega, rfl, hmap.out, by simpa using HR.out, hb1.out⟩
      case round =>
        obtain ⟨j, hj, rfl, hown, hR, hb⟩ := hrel
        have HB := Lib.hid hb
        have HOWN := Lib.hid hown
        clear hb hmap hb1
        by_cases hlt : j < keys.length
        · obtain ⟨b, o, hA, hbw⟩ := (show ∃ b o, A = some ⟨b, o, none⟩ ∧ b < w.heap.size by obtain ⟨b, o, e, hb, _⟩ := HE3.out.2 (by omega); exact ⟨b, o, e, hb⟩)
          subst hA
          obtain ⟨kk, hkk⟩ : ∃ kk, keys[j]? = some kk := ⟨_, List.getElem?_eq_getElem hlt⟩
          have hc0 : wr.cell? ⟨b, o + j, none⟩ = some (.string ⟨kk.toArray⟩) := by
            obtain ⟨b', o', e, hb', hc⟩ := (HE3.out.below HB.out).2 (by omega)
            cases e
            exact hc j _ (by rw [List.getElem?_map, hkk]; rfl)
          have hg : keys[j]'hlt = kk := by rw [List.getElem?_eq_getElem hlt] at hkk; injection hkk
          have hlen : kk.length ≤ 140737488355328 := HKK.out kk (hg ▸ List.getElem_mem hlt)
          have hkey : keyOf Try.prog 9 (.string ⟨kk.toArray⟩) = some (.string kk) := by
            have := WideMaps.keyOf_string_mk (P := Try.prog) Try.underlying9 (s := ⟨kk.toArray⟩) (by show kk.toArray.size ≤ maxLen; unfold maxLen; simp; omega)
            simpa using this
          have cK := fun w => zero_any kk w
          rw [List.drop_eq_getElem_cons hlt, hg, keysP_drop] at hR
          have htk : keys.take (j + 1) = keys.take j ++ [kk] := by rw [List.take_succ_eq_append_getElem hlt, hg]
          have hat := SD_at _ (keys.take j) rfl kk
          cases hz : zeroP kk with
          | true =>
            rw [hz] at cK hR
            rw [if_pos rfl] at hR
            subst hR
            clear hz hkey htk hat hkk hg hown
            go_wp2_with (go_at_call 41; refine (cK _).mono ?_; rintro e w1 ⟨rfl, hw⟩; rw [hw]; clear hw)
            go_ret
            exact ⟨rfl, HB.out⟩
          | false =>
            rw [hz] at cK hR
            rw [if_neg (by decide)] at hR
            by_cases hm : kk ∈ keys.take j
            · rw [if_pos hm] at hR
              rw [decide_eq_true hm] at hat
              subst hR
              have HKEY := Lib.hid hkey
              have HAT := Lib.hid hat
              clear hz hkey htk hat hkk hg hm hown
              go_wp2_with (first | (go_at_call 41; refine (cK _).mono ?_; rintro e w1 ⟨rfl, hw⟩; rw [hw]; clear hw) | (at_lookup; refine wpList_lookup_own_bool _ rfl _ _ 65 rfl 9 4 law9 Try.underlying65 Try.underlying4 (zero4 _) (w.heap.size + 1) j _ rfl HOWN.out _ _ rfl HKEY.out _ HAT.out ?_))
              go_ret
              exact ⟨rfl, HB.out⟩
            · rw [if_neg hm] at hR
              rw [decide_eq_false hm] at hat
              have HKEY := Lib.hid hkey
              have HAT := Lib.hid hat
              have HR2 := Lib.hid hR
              have HTK := Lib.hid htk
              clear hz hkey htk hat hkk hg hm hown hR
              go_wp2_with (first | (go_at_call 41; refine (cK _).mono ?_; rintro e w1 ⟨rfl, hw⟩; rw [hw]; clear hw) | (at_lookup; refine wpList_lookup_own_bool _ rfl _ _ 65 rfl 9 4 law9 Try.underlying65 Try.underlying4 (zero4 _) (w.heap.size + 1) j _ rfl HOWN.out _ _ rfl HKEY.out _ HAT.out ?_) | (at_mapUpdate; refine wpList_mapUpdate_own _ rfl _ _ _ 65 rfl 9 4 law9 Try.underlying65 _ (w.heap.size + 1) j _ rfl HOWN.out (by unfold maxLen; omega) _ _ _ rfl rfl HKEY.out _ [] (plainElem_bool Try.underlying4 true) ?_; intro w2 hown2 hgrow2))
              have HO2 := Lib.hid hown2
              have HG2 := Lib.hid hgrow2
              clear hown2 hgrow2
              go_roundw
              case rel => exact ⟨j + 1, by omega, by simp, by rw [HTK.out, SD_snoc]; exact HO2.out, by rw [HTK.out]; exact HR2.out, HB.out.grown HG2.out HB.out.size (fun i hi => by cases hi; omega)⟩
              case measure => simp [intOf]; omega
        · obtain rfl : j = keys.length := by omega
          rw [List.drop_length, keysP] at hR
          subst hR
          clear hown
          go_wp2
          go_ret
          exact ⟨rfl, HB.out⟩
end Go.Proofs.Yteoggaioleckhaa
