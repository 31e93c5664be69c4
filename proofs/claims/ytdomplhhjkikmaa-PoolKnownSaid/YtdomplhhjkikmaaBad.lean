import Derived.Test.YtdomplhhjkikmaaPairs
/- A pool that was not made (nil, or the zero struct): every call refuses. -/
namespace Go.Proofs.Ytdomplhhjkikmaa
open Go.RowKit
def Bad (w : World) (v : Value) : Prop := v = .pointer none ∨ ∃ g, v = .pointer (some ⟨g, 0, none⟩) ∧ g < w.heap.size ∧ w.cell? ⟨g, 2, none⟩ = some (.bool false)
theorem Bad.below {w w' : World} {v : Value} (h : Bad w v) (hb : Below w.heap.size w w') : Bad w' v := by
  rcases h with h | ⟨g, rfl, hg, hc⟩
  · exact Or.inl h
  · exact Or.inr ⟨g, rfl, Nat.lt_of_lt_of_le hg hb.size, (hb.cell (p := ⟨g, 2, none⟩) hg).trans hc⟩
theorem badNone (w : World) (v : Value) (h : Bad w v) : Calls Try.prog 26 #[v] w fun e w' => e = .returned (.bool true) ∧ w = w' := by
  rcases h with rfl | ⟨g, rfl, hg, hc⟩
  · go_enter Try.func26, Try.ntmps26
    go_wp2
    go_ret
    exact ⟨rfl, rfl⟩
  · go_enter Try.func26, Try.ntmps26
    go_wp2
    go_ret
    exact ⟨rfl, rfl⟩
theorem badGet (w : World) (v : Value) (k : ByteArray) (h : Bad w v) : Calls Try.prog 12 #[v, .string k] w fun e w' => e = .returned (.tuple #[.int .i64 0, .bool false]) ∧ w = w' := by
  have hn := Lib.hid (badNone w v h)
  clear h
  go_enter Try.func12, Try.ntmps12
  go_wp2_with (go_at_call 26; refine hn.out.mono ?_; rintro e w1 ⟨rfl, rfl⟩)
  go_ret2
  exact ⟨rfl, rfl⟩
theorem badPut (w : World) (v : Value) (k : ByteArray) (a : Int) (h : Bad w v) : Calls Try.prog 14 #[v, .string k, .int .i64 a] w fun e w' => e = .returned (.int .i64 1) ∧ w = w' := by
  have hn := Lib.hid (badNone w v h)
  clear h
  go_enter Try.func14, Try.ntmps14
  go_wp2_with (go_at_call 26; refine hn.out.mono ?_; rintro e w1 ⟨rfl, rfl⟩)
  go_ret
  exact ⟨rfl, rfl⟩
theorem badLen (w : World) (v : Value) (h : Bad w v) : Calls Try.prog 17 #[v] w fun e w' => e = .returned (.int .i64 0) ∧ w = w' := by
  have hn := Lib.hid (badNone w v h)
  clear h
  go_enter Try.func17, Try.ntmps17
  go_wp2_with (go_at_call 26; refine hn.out.mono ?_; rintro e w1 ⟨rfl, rfl⟩)
  go_ret
  exact ⟨rfl, rfl⟩
theorem badList (w : World) (v : Value) (h : Bad w v) : Calls Try.prog 16 #[v] w fun e w' => e = .returned (.slice none 0 0) ∧ w = w' := by
  have hn := Lib.hid (badNone w v h)
  clear h
  go_enter Try.func16, Try.ntmps16
  go_wp2_with (go_at_call 26; refine hn.out.mono ?_; rintro e w1 ⟨rfl, rfl⟩)
  go_ret
  exact ⟨rfl, rfl⟩
theorem badGets (w : World) (v : Value) (k : ByteArray) (h : Bad w v) : Calls Try.prog 22 #[v, .string k, .int .i64 0, .bool false] w fun e w' => e = .returned (.bool true) ∧ w = w' := by
  have hp := Lib.hid (badGet w v k h)
  clear h
  go_enter Try.func22, Try.ntmps22
  go_wp2_with (go_at_call 12; refine hp.out.mono ?_; rintro e w1 ⟨rfl, rfl⟩)
  all_goals
    go_ret
    exact ⟨rfl, rfl⟩
end Go.Proofs.Ytdomplhhjkikmaa
