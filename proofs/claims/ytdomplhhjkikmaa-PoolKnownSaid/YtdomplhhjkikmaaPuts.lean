import Derived.Test.YtdomplhhjkikmaaLay
/- Put and List of the pool. -/
namespace Go.Proofs.Ytdomplhhjkikmaa
open Go.RowKit
theorem set_mid {α : Type} (l r : List α) (d x : α) : ((l ++ r ++ [d]).take (l.length + 1) ++ ((l ++ r ++ [d]).drop l.length).take (l.length + r.length + 1 - (l.length + 1))).set l.length x = l ++ x :: r := by
  have e2 : ((l ++ r ++ [d]).drop l.length).take (l.length + r.length + 1 - (l.length + 1)) = r := by
    rw [List.append_assoc, List.drop_left, show l.length + r.length + 1 - (l.length + 1) = r.length by omega, List.take_left]
  rw [e2]
  cases r with
  | nil =>
    rw [List.append_nil, List.append_nil, List.take_of_length_le (by simp), List.set_append_right _ _ (Nat.le_refl _)]
    simp
  | cons y r =>
    rw [show (l ++ y :: r ++ [d]).take (l.length + 1) = l ++ [y] by rw [List.append_assoc, List.take_append, List.take_of_length_le (by omega)]; simp]
    rw [List.append_assoc, List.set_append_right _ _ (Nat.le_refl _)]
    simp
theorem set_ins {α : Type} (l : List α) (i : Nat) (hi : i ≤ l.length) (d x : α) : ((l ++ [d]).take (i + 1) ++ ((l ++ [d]).drop i).take (l.length + 1 - (i + 1))).set i x = l.take i ++ x :: l.drop i := by
  have h := set_mid (l.take i) (l.drop i) d x
  have e : (l.take i).length = i := by rw [List.length_take]; omega
  rw [List.take_append_drop, e] at h
  have e2 : i + (l.drop i).length = l.length := by rw [List.length_drop]; omega
  rw [e2] at h
  exact h
/-- What a call on a pool that may have grown leaves. -/
def Grown (w : World) (g : Nat) (ks us : Value) (E' : List Ent) (w' : World) : Prop :=
  ∃ ks' us', PoolAt w' g ks' us' E' ∧ Kept (foot g ks us) w w' ∧ ∀ b, foot g ks' us' b → foot g ks us b ∨ w.heap.size ≤ b
theorem grown_of_shift {w w' : World} {g : Nat} {ks us : Value} {E : List Ent} {k : List UInt8} {a : Int} (h : ShiftTo w g ks us (E.length + 1) (pos E k) k a (strs (keys E ++ [[]])) (nums (E.map (·.2) ++ [0])) w') : Grown w g ks us (ins E k a) w' := by
  obtain ⟨ks', us', hr, hk, hn⟩ := h
  have hp := pos_le E k
  have e1 : ((strs (keys E ++ [[]])).take (pos E k + 1) ++ ((strs (keys E ++ [[]])).drop (pos E k)).take (E.length + 1 - (pos E k + 1))).set (pos E k) (str k) = strs (keys (ins E k a)) := by
    have := set_ins (strs (keys E)) (pos E k) (by simpa [strs, keys] using hp) (str []) (str k)
    rw [show (strs (keys E)).length = E.length by simp [strs, keys]] at this
    rw [show strs (keys E ++ [[]]) = strs (keys E) ++ [str []] by simp [strs], this]
    simp [keys, ins, strs, List.map_take, List.map_drop]
  have e2 : ((nums (E.map (·.2) ++ [0])).take (pos E k + 1) ++ ((nums (E.map (·.2) ++ [0])).drop (pos E k)).take (E.length + 1 - (pos E k + 1))).set (pos E k) (.int .i64 a) = nums ((ins E k a).map (·.2)) := by
    have := set_ins (nums (E.map (·.2))) (pos E k) (by simpa [nums] using hp) (.int .i64 0) (.int .i64 a)
    rw [show (nums (E.map (·.2))).length = E.length by simp [nums]] at this
    rw [show nums (E.map (·.2) ++ [0]) = nums (E.map (·.2)) ++ [.int .i64 0] by simp [nums], this]
    simp [ins, nums, List.map_take, List.map_drop]
  have hl := ins_length E k a
  rw [e1, e2] at hr
  exact ⟨ks', us', ⟨hr.blk, by rw [hl]; exact hr.kown, by rw [hl]; exact hr.aown, hr.kne, hr.ane, hr.kane⟩, hk, hn⟩
theorem Grown.same {w w' : World} {g : Nat} {ks us : Value} {E : List Ent} (h : PoolAt w g ks us E) (hb : Below w.heap.size w w') : Grown w g ks us E w' :=
  ⟨ks, us, h.below hb, Kept.of_below hb, fun _ hf => Or.inl hf⟩
theorem grown_drewN {w w' : World} {g n : Nat} {ks us : Value} {E : List Ent} (h : Grown (w.drewN n) g ks us E w') : Grown w g ks us E w' := by
  obtain ⟨ks', us', hp, hk, hn⟩ := h
  exact ⟨ks', us', hp, ⟨hk.os, hk.tape, hk.output, hk.size, hk.block⟩, hn⟩
set_option maxHeartbeats 4000000 in
theorem put_any (g : Nat) (ks us : Value) (E : List Ent) (k : List UInt8) (a : Int) (w : World) (h : PoolAt w g ks us E) (hs : Srt E) (hn : E.length ≤ 100000) :
    Calls Try.prog 14 #[.pointer (some ⟨g, 0, none⟩), .string ⟨k.toArray⟩, .int .i64 a] w fun e w' => e = .returned (.int .i64 (putN E k a)) ∧ Grown w g ks us (putE E k a) w' := by
  have c2 := h.c2
  have hp := Lib.hid (place_any g ks us E k w h hs (by omega))
  unfold putN putE
  by_cases h1 : a < 0 ∨ 9007199254740991 < a
  · rw [if_pos h1, if_pos h1]
    have HS := Lib.hid (fun w' hb => Grown.same (w' := w') h hb)
    clear h hs hn hp
    by_cases h0 : a < 0
    · clear h1
      go_enter Try.func14, Try.ntmps14
      go_wp2_with (go_at_call 26; refine (none_any _ _ c2).mono ?_; rintro e w1 ⟨rfl, rfl⟩)
      go_ret
      exact ⟨rfl, HS.out _ (Below.refl _ _)⟩
    · have h2 : 9007199254740991 < a := by omega
      clear h1
      go_enter Try.func14, Try.ntmps14
      go_wp2_with (go_at_call 26; refine (none_any _ _ c2).mono ?_; rintro e w1 ⟨rfl, rfl⟩)
      go_ret
      exact ⟨rfl, HS.out _ (Below.refl _ _)⟩
  · rw [if_neg h1, if_neg h1]
    have h0 : ¬ a < 0 := by omega
    have h2 : ¬ 9007199254740991 < a := by omega
    clear h1
    cases hh : has E k with
    | true =>
      rw [hh] at hp
      have HS := Lib.hid (fun w' hb => Grown.same (w' := w') h hb)
      clear h hs hn hh
      go_enter Try.func14, Try.ntmps14
      go_wp2_with (first
        | (go_at_call 26; refine (none_any _ _ c2).mono ?_; rintro e w1 ⟨rfl, rfl⟩)
        | (go_at_call 27; refine hp.out.mono ?_; rintro e w1 ⟨rfl, hw⟩; have hb := below_of_drew hw))
      go_ret
      exact ⟨rfl, by simpa using HS.out _ hb⟩
    | false =>
      rw [hh] at hp
      have hl := Lib.hid (fun n => lay_any g ks us E (pos E k) k a (w.drewN n) (h.drewN n) (pos_le E k) hn)
      have HK := Lib.hid (fun n w' (hx : ShiftTo (w.drewN n) g ks us (E.length + 1) (pos E k) k a (strs (keys E ++ [[]])) (nums (E.map (·.2) ++ [0])) w') => grown_of_shift hx)
      obtain ⟨p, hpe⟩ : ∃ p, pos E k = p := ⟨_, rfl⟩
      rw [hpe] at hp hl HK
      clear h hs hn hh hpe
      go_enter Try.func14, Try.ntmps14
      go_wp2_with (first
        | (go_at_call 26; refine (none_any _ _ c2).mono ?_; rintro e w1 ⟨rfl, rfl⟩)
        | (go_at_call 27; refine hp.out.mono ?_; rintro e w1 ⟨rfl, n, rfl⟩)
        | (go_at_call 28; refine (hl.out _).mono ?_; rintro e w2 ⟨rfl, hx⟩))
      go_ret
      exact ⟨rfl, grown_drewN (by simpa using HK.out _ _ hx)⟩
end Go.Proofs.Ytdomplhhjkikmaa
