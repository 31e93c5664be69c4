import Derived.Test.YtiagpjjjggldeaaTyped
namespace Go.Proofs.Ytiagpjjjggldeaa
open Go.RowKit Go.ChangeMaps
set_option maxHeartbeats 400000 in
theorem packs_yes (t x c e : Int) (h1 : (packC t x == c) = true) (h2 : (packE t x == e) = true) (w : World) :
    Calls Try.prog 25 #[.int .i64 t, .int .i64 x, .int .u8 c, .int .i64 e] w fun en w' => en = .returned (.bool true) ∧ Below w.heap.size w w' := by
  go_enter Try.func25, Try.ntmps25
  go_wp2_with (go_at_call 10; refine (pack_any _ _ _).mono ?_; rintro e w' ⟨rfl, hb⟩)
  go_ret
  exact ⟨rfl, hb⟩
set_option maxHeartbeats 400000 in
theorem says_yes (c t x e : Int) (c0 : 0 ≤ c) (c1 : c < 256) (h1 : (unT c == t) = true) (h2 : (unW c == x) = true) (h3 : (unE c == e) = true) (w : World) :
    Calls Try.prog 26 #[.int .u8 c, .int .i64 t, .int .i64 x, .int .i64 e] w fun en w' => en = .returned (.bool true) ∧ Below w.heap.size w w' := by
  go_enter Try.func26, Try.ntmps26
  go_wp2_with (go_at_call 12; refine (unpack_any _ _ c0 c1).mono ?_; rintro e w' ⟨rfl, hb⟩)
  go_ret
  exact ⟨rfl, hb⟩
set_option maxHeartbeats 400000 in
theorem has_yes (t e m : Int) (b : Bool) (h1 : (kElem t == e) = true) (h2 : (kMany t == m) = true) (h3 : ((kIs t == 3) == b) = true) (w : World) :
    Calls Try.prog 27 #[.int .i64 t, .int .i64 e, .int .i64 m, .bool b] w fun en w' => en = .returned (.bool true) ∧ Below w.heap.size w w' := by
  go_enter Try.func27, Try.ntmps27
  go_wp2_with (go_at_call 15; refine (elem_any _ _).mono ?_; rintro e w' ⟨rfl, hb⟩)
  go_ret
  exact ⟨rfl, hb⟩
set_option maxHeartbeats 400000 in
theorem typed_yes (e m t : Int) (b : Bool) (h1 : (tT e m == t) = true) (h2 : (tB e m == b) = true) (w : World) :
    Calls Try.prog 28 #[.int .i64 e, .int .i64 m, .int .i64 t, .bool b] w fun en w' => en = .returned (.bool true) ∧ Below w.heap.size w w' := by
  go_enter Try.func28, Try.ntmps28
  go_wp2_with (go_at_call 17; refine (typed_any _ _ _).mono ?_; rintro e w' ⟨rfl, hb⟩)
  go_ret
  exact ⟨rfl, hb⟩
theorem inline_is (t : Int) (b : Bool) (h : (kIs t == 1) = b) (w : World) :
    Calls Try.prog 21 #[.int .i64 t] w fun e w' => e = .returned (.bool b) ∧ Below w.heap.size w w' := h ▸ inline_any t w
theorem legal_is (t : Int) (b : Bool) (h : (kIs t != 0) = b) (w : World) :
    Calls Try.prog 19 #[.int .i64 t] w fun e w' => e = .returned (.bool b) ∧ Below w.heap.size w w' := h ▸ legal_any t w
theorem below_then {w w1 w2 : World} (h : Below w.heap.size w w1) (h1 : Below w1.heap.size w1 w2) : Below w.heap.size w w2 := h.trans (h1.mono h.size)
set_option maxHeartbeats 1600000 in
theorem works_any (w : World) : Calls Try.prog 14 #[] w fun e w' => e = .returned (.bool true) ∧ Below w.heap.size w w' := by
  go_enter Try.func14, Try.ntmps14
  go_wp2_with (first
    | (go_at_call 25; refine (packs_yes _ _ _ _ (by rfl) (by rfl) _).mono ?_; rintro e w' ⟨rfl, hb⟩)
    | (go_at_call 26; refine (says_yes _ _ _ _ (by decide) (by decide) (by rfl) (by rfl) (by rfl) _).mono ?_; rintro e w' ⟨rfl, hb⟩)
    | (go_at_call 27; refine (has_yes _ _ _ _ (by rfl) (by rfl) (by rfl) _).mono ?_; rintro e w' ⟨rfl, hb⟩)
    | (go_at_call 28; refine (typed_yes _ _ _ _ (by rfl) (by rfl) _).mono ?_; rintro e w' ⟨rfl, hb⟩)
    | (go_at_call 21; refine (inline_is _ _ (by rfl) _).mono ?_; rintro e w' ⟨rfl, hb⟩)
    | (go_at_call 19; refine (legal_is _ _ (by rfl) _).mono ?_; rintro e w' ⟨rfl, hb⟩))
  go_ret
  exact ⟨rfl, by repeat (first | exact Below.refl _ _ | (refine below_then ?_ (by assumption)))⟩

theorem u8_bd {c : Int} (h : (Lit.int .u8 c).wf = true) : 0 ≤ c ∧ c < 256 := by
  simp [Lit.wf, IntKind.min, IntKind.max, IntKind.bits, IntKind.signed] at h
  omega

/-! The laws' walks -/
set_option maxHeartbeats 1600000 in
theorem tagPacks_walk (t x c : Int) (w : World) (_ht : (Lit.int .i64 t).wf = true) (_hx : (Lit.int .i64 x).wf = true) (hc : (Lit.int .u8 c).wf = true) :
    Calls Try.prog 3 #[.int .i64 t, .int .i64 x, .int .u8 c] w fun e w' => e = .returned (.bool true) ∧ Below w.heap.size w w' := by
  obtain ⟨c0, c1⟩ := u8_bd hc
  clear hc
  go_enter Try.func3, Try.ntmps3
  go_wp2_with (first
    | (go_at_call 10; refine (pack_any _ _ _).mono ?_; rintro e w' ⟨rfl, hb⟩)
    | (go_at_call 11; refine (rpack_any _ _ _).mono ?_; rintro e w' ⟨rfl, hb⟩)
    | (go_at_call 12; refine (unpack_any _ _ c0 c1).mono ?_; rintro e w' ⟨rfl, hb⟩)
    | (go_at_call 13; refine (runpack_any _ _ c0 c1).mono ?_; rintro e w' ⟨rfl, hb⟩)
    | (go_at_call 14; refine (works_any _).mono ?_; rintro e w' ⟨rfl, hb⟩))
  go_ret
  exact ⟨rfl, by repeat (first | exact Below.refl _ _ | (refine below_then ?_ (by assumption)))⟩
set_option maxHeartbeats 1600000 in
theorem tagTells_walk (t m : Int) (w : World) (_ht : (Lit.int .i64 t).wf = true) (_hm : (Lit.int .i64 m).wf = true) :
    Calls Try.prog 4 #[.int .i64 t, .int .i64 m] w fun e w' => e = .returned (.bool true) ∧ Below w.heap.size w w' := by
  go_enter Try.func4, Try.ntmps4
  go_wp2_with (first
    | (go_at_call 15; refine (elem_any _ _).mono ?_; rintro e w' ⟨rfl, hb⟩)
    | (go_at_call 16; refine (relem_any _ _).mono ?_; rintro e w' ⟨rfl, hb⟩)
    | (go_at_call 17; refine (typed_any _ _ _).mono ?_; rintro e w' ⟨rfl, hb⟩)
    | (go_at_call 18; refine (rtyped_any _ _ _).mono ?_; rintro e w' ⟨rfl, hb⟩)
    | (go_at_call 19; refine (legal_any _ _).mono ?_; rintro e w' ⟨rfl, hb⟩)
    | (go_at_call 20; refine (rlegal_any _ _).mono ?_; rintro e w' ⟨rfl, hb⟩)
    | (go_at_call 21; refine (inline_any _ _).mono ?_; rintro e w' ⟨rfl, hb⟩)
    | (go_at_call 22; refine (rinline_any _ _).mono ?_; rintro e w' ⟨rfl, hb⟩)
    | (go_at_call 14; refine (works_any _).mono ?_; rintro e w' ⟨rfl, hb⟩))
  go_ret
  exact ⟨rfl, by repeat (first | exact Below.refl _ _ | (refine below_then ?_ (by assumption)))⟩
end Go.Proofs.Ytiagpjjjggldeaa
