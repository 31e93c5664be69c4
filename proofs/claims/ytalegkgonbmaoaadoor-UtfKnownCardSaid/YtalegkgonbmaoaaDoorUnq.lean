import Derived.Test.YtalegkgonbmaoaaDoorTake
import Derived.Deep.DeepCutAuto
/- utf.Unquote: it answers what the machine answers. -/
set_option linter.unusedVariables false
namespace Go.Proofs.YtalegkgonbmaoaaDoor
open Go.RowKit
theorem runeLen4 (r : Int) : (Lib.encodeRune r).length ≤ 4 := by have := Lib.runeCells_le r; rw [Lib.runeCells_length] at this; exact this.2
theorem stepS_len {s s' : St} {c : UInt8} (h : stepS s c = .ok s') : s'.out.length + s'.rune.length ≤ s.out.length + s.rune.length + 4 := by
  have hp : ∀ s' : St, plainS s c = .ok s' → s'.out.length + s'.rune.length ≤ s.out.length + s.rune.length + 4 := by
    intro s' h
    unfold plainS at h
    split at h
    · injection h with h; subst h
      simp only [List.length_append, List.length_nil, List.length_take, List.length_cons]
      omega
    · split at h
      · cases h
      · injection h with h; subst h
        simp only [List.length_append, List.length_cons, List.length_nil]; omega
  have hput : ∀ (x : St) (r : Nat), x.out = s.out → x.rune = s.rune → (putS x r).out.length + (putS x r).rune.length ≤ s.out.length + s.rune.length + 4 := by
    intro x r h1 h2
    have := runeLen4 (r : Int)
    simp only [putS, List.length_append, h1, h2]; omega
  unfold stepS at h
  split at h
  · unfold wantS at h
    split at h
    · injection h with h; subst h; simp only; omega
    · cases h
  · split at h
    · unfold beginS at h
      split at h
      · exact hp _ h
      · split at h
        · injection h with h; subst h; simp only; omega
        · split at h
          · injection h with h; subst h; simp only; omega
          · split at h
            · cases h
            · exact hp _ h
    · split at h
      · unfold escapeS at h
        split at h
        · injection h with h; subst h; exact hput _ _ rfl rfl
        · split at h
          · injection h with h; subst h; simp only; omega
          · cases h
      · split at h
        · unfold wantS at h
          split at h
          · injection h with h; subst h; simp only; omega
          · cases h
        · split at h
          · unfold wantS at h
            split at h
            · injection h with h; subst h; simp only; omega
            · cases h
          · unfold digitS at h
            split at h
            · cases h
            · split at h
              · cases h
              · split at h
                · injection h with h; subst h; simp only; omega
                · split at h
                  · injection h with h; subst h; exact hput _ _ rfl rfl
                  · split at h
                    · injection h with h; subst h; simp only; omega
                    · injection h with h; subst h; exact hput _ _ rfl rfl
theorem stepS_err {s : St} {c : UInt8} {e : Nat} (h : stepS s c = .bad e) : e = 40 ∨ e = 41 := by
  have hp : plainS s c = .bad e → e = 40 ∨ e = 41 := by
    intro h
    unfold plainS at h
    split at h
    · cases h
    · split at h
      · injection h with h; exact .inl h.symm
      · cases h
  unfold stepS at h
  split at h
  · unfold wantS at h
    split at h
    · cases h
    · injection h with h; exact .inr h.symm
  · split at h
    · unfold beginS at h
      split at h
      · exact hp h
      · split at h
        · cases h
        · split at h
          · cases h
          · split at h
            · injection h with h; exact .inr h.symm
            · exact hp h
    · split at h
      · unfold escapeS at h
        split at h
        · cases h
        · split at h
          · cases h
          · injection h with h; exact .inr h.symm
      · split at h
        · unfold wantS at h
          split at h
          · cases h
          · injection h with h; exact .inr h.symm
        · split at h
          · unfold wantS at h
            split at h
            · cases h
            · injection h with h; exact .inr h.symm
          · unfold digitS at h
            split at h
            · injection h with h; exact .inr h.symm
            · split at h
              · injection h with h; exact .inr h.symm
              · split at h
                · cases h
                · split at h
                  · cases h
                  · split at h
                    · cases h
                    · cases h
theorem results_tmp4 {fn : Func} {t u v x : Tmp} (h : fn.results = #[.tmp t, .tmp u, .tmp v, .tmp x]) (tmps : Array Value) (P : Program) (w : World) :
    (results fn tmps).run P w = .ok (.tuple #[tmps.getD t undef, tmps.getD u undef, tmps.getD v undef, tmps.getD x undef]) w := by
  simp [results, h]
def ansV (a : Ans) : Value := .tuple #[.string ⟨a.1.toArray⟩, .int .i64 (a.2.1 : Int), .int .i64 (a.2.2.1 : Int), .int .i64 (a.2.2.2 : Int)]
theorem RAt.new (w : World) (B : Nat) (hB : B ≤ w.heap.size) : RAt B w.heap.size (.pointer none) (.slice none 0 0) st0 (w.alloc (.cells #[.int .i64 0, .pointer none, .slice none 0 0, .string ⟨#[]⟩, .int .i64 0, .int .i32 0, .int .i32 0] 71)) :=
  ⟨hB, heap_alloc_last _ _, rfl, rfl, .inl rfl, World.ownsRow_nil _ _ _ _, by decide⟩
set_option maxRecDepth 100000 in
set_option maxHeartbeats 2000000 in
theorem unquote_any (l : List UInt8) (w : World) (hT : Lib.Utf8Tabs 0 1 w) (h2 : 2 ≤ w.heap.size) (hl : l.length ≤ 1000000) :
    Calls Tryd.prog 26 #[.string ⟨l.toArray⟩] w fun e w' => e = .returned (ansV (unq l)) ∧ Below w.heap.size w w' := by
  have hsz : (ByteArray.mk l.toArray).size = l.length := by show l.toArray.size = _; simp
  have hT' := Lib.hid hT
  clear hT
  go_enter Tryd.func26, Tryd.ntmps26
  go_wp2
  go_loopw [11] (fun i wr => ∃ (k : Nat) (s : St) (p v : Value), k ≤ l.length ∧ i = .int .i64 (k : Int) ∧ RAt w.heap.size w.heap.size p v s wr ∧ Inv s ∧ s.out.length + s.rune.length ≤ 4 * k ∧ Below w.heap.size w wr ∧ unq l = mach s (l.drop k) k) (fun i _ => l.length - (intOf i).toNat)
  case atStart => exact ⟨0, st0, _, _, by omega, rfl, RAt.new w _ (Nat.le_refl _), st0_inv, by simp [st0], (Below.refl _ w).alloc (Nat.le_refl _) _, rfl⟩
  case round =>
    obtain ⟨k, s, p, v, hk, rfl, hR, hI, hlen, hb, hu⟩ := hrel
    by_cases hlt : k < l.length
    · obtain ⟨c, hc⟩ : ∃ c, l[k]? = some c := ⟨_, List.getElem?_eq_getElem hlt⟩
      have hdr : l.drop k = c :: l.drop (k + 1) := by
        rw [List.drop_eq_getElem_cons hlt]
        rw [List.getElem?_eq_getElem hlt] at hc
        injection hc with hc
        rw [hc]
      rw [hdr] at hu
      clear hdr
      have hx : (ByteArray.mk l.toArray)[k]'(by rw [hsz]; exact hlt) = c := by
        rw [List.getElem?_eq_getElem hlt] at hc
        injection hc
      clear hc
      have hwr := hb.size
      have cT := take_any w.heap.size w.heap.size p v s c wr hR hI (tabs_below hT'.out h2 hb) h2 (by omega) (by omega) hwr
      have hltz : (k : Int) < (l.length : Int) := by omega
      have HU := Lib.hid hu
      have HI := Lib.hid hI
      have HB := Lib.hid hb
      have HLEN := Lib.hid hlen
      clear hu hI hb hlen hR
      cases hs : stepS s c with
      | bad e =>
        rw [hs] at cT
        simp only [errOf] at cT
        have he := stepS_err hs
        have hne : ¬ ((e : Int) = 0) := by omega
        have hA : unq l = ([], 0, k, e) := by rw [HU.out, mach, hs]
        have HA := Lib.hid hA
        clear hA hs
        go_wp2_with (go_at_call 42; refine cT.mono ?_; rintro e1 w1 ⟨rfl, hL⟩)
        try simp only [Exit.inBlock, Exit.then]
        refine bodyPost_ret (results_tmp4 rfl _ _ _) rfl ?_
        exact ⟨by rw [HA.out]; rfl, HB.out.trans hL.1⟩
      | ok s' =>
        rw [hs] at cT
        simp only [errOf] at cT
        have hlen' := stepS_len hs
        have hinv' := stepS_inv HI.out hs
        have HS := Lib.hid hs
        clear hs
        by_cases h7 : s'.state = 7
        · have hA : unq l = (s'.out, k + 1, 0, 0) := by rw [HU.out, mach, HS.out]; simp only [h7, if_true]
          have HA := Lib.hid hA
          clear hA
          go_wp2_with (go_at_call 42; refine cT.mono ?_)
          rintro e1 w1 ⟨rfl, hL⟩
          obtain ⟨p', v', h'⟩ := hL.2 s' rfl
          have f0 := h'.f0
          rw [h7] at f0
          have hb1 := HB.out.trans hL.1
          have cS := string_any w.heap.size w.heap.size 1 71 _ p' v' s'.out w1 h' hb1.size
          clear h' hL cT
          go_wp2_with (go_at_call 34; refine cS.mono ?_; rintro e2 w2 ⟨rfl, hb2⟩)
          try simp only [Exit.inBlock, Exit.then]
          refine bodyPost_ret (results_tmp4 rfl _ _ _) rfl ?_
          exact ⟨by rw [HA.out]; rfl, hb1.trans hb2⟩
        · have hA : unq l = mach s' (l.drop (k + 1)) (k + 1) := by rw [HU.out, mach, HS.out]; simp only [h7, if_false]
          have HA := Lib.hid hA
          clear hA
          go_wp2_with (go_at_call 42; refine cT.mono ?_)
          rintro e1 w1 ⟨rfl, hL⟩
          obtain ⟨p', v', h'⟩ := hL.2 s' rfl
          have f0 := h'.f0
          have h7z : ¬ ((s'.state : Int) = 7) := by omega
          have hb1 := HB.out.trans hL.1
          have H' := Lib.hid h'
          have HI' := Lib.hid (hinv'.resolve_left h7)
          clear h' hL cT hinv' h7
          go_wp2
          go_roundw
          case rel => exact ⟨k + 1, s', p', v', by omega, by simp, H'.out, HI'.out, by have := HLEN.out; omega, hb1, HA.out⟩
          case measure => simp [intOf]; omega
    · obtain rfl : k = l.length := by omega
      have hA : unq l = ([], 0, l.length, 3) := by rw [hu, List.drop_length, mach]
      have HA := Lib.hid hA
      clear hA hu
      go_wp2
      try simp only [Exit.inBlock, Exit.then]
      refine bodyPost_ret (results_tmp4 rfl _ _ _) rfl ?_
      exact ⟨by rw [HA.out]; rfl, hb⟩
end Go.Proofs.YtalegkgonbmaoaaDoor
