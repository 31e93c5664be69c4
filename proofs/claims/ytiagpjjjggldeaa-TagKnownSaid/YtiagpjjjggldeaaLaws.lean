import Derived.Test.YtiagpjjjggldeaaWorks
namespace Go.Proofs.Ytiagpjjjggldeaa
open Go.RowKit Go.ChangeMaps
theorem pack_unpack {t x : Int} (h : (kIs t != 0) = true) (hx : isW x = true) : 0 ≤ packC t x ∧ packC t x < 256 ∧ unT (packC t x) = t ∧ unW (packC t x) = x ∧ unE (packC t x) = 0 := by
  obtain ⟨t0, t1⟩ := kIs_range t h
  obtain ⟨c0, c1⟩ := pcode_range x
  have e : packC t x = 4 * t + pcode x := by simp [packC, h, hx]
  have d : packC t x / 4 = t := by omega
  refine ⟨by omega, by omega, ?_, ?_, ?_⟩
  · unfold unT; rw [d, if_pos h]
  · unfold unW; rw [d, if_pos h, e]
    simp only [isW, decide_eq_true_eq] at hx
    have m : (4 * t + pcode x) % 4 = pcode x := by omega
    unfold wOf
    rw [m]
    rcases hx with rfl | rfl | rfl | rfl <;> rfl
  · unfold unE; rw [d, if_pos h]
theorem wOf_isW (c : Int) : isW (wOf c) = true ∧ pcode (wOf c) = c % 4 := by
  have h : c % 4 = 0 ∨ c % 4 = 1 ∨ c % 4 = 2 ∨ c % 4 = 3 := by omega
  unfold wOf
  rcases h with h | h | h | h <;> simp only [h] <;> exact ⟨rfl, rfl⟩
theorem unpack_pack {c : Int} (h : (kIs (c / 4) != 0) = true) : packC (unT c) (unW c) = c ∧ packE (unT c) (unW c) = 0 := by
  have e1 : unT c = c / 4 := by simp only [unT, h, if_true]
  have e2 : unW c = wOf c := by simp only [unW, h, if_true]
  obtain ⟨w1, w2⟩ := wOf_isW c
  rw [e1, e2]
  refine ⟨?_, ?_⟩
  · simp only [packC, h, w1, w2, if_true]; omega
  · simp only [packE, h, w1, if_true]
theorem beq_of {a b : Int} (h : a = b) : (a == b) = true := by simp [h]
theorem bne_no {a b : Int} (h : a = b) : (a != b) = false := by simp [h]
theorem bne_yes {a b : Int} (h : a ≠ b) : (a != b) = true := by simp [h]
theorem beq_no {a b : Int} (h : a ≠ b) : (a == b) = false := by simp [h]

set_option maxHeartbeats 1600000 in
theorem tagBack_walk (t x : Int) (w : World) (_ht : (Lit.int .i64 t).wf = true) (_hx : (Lit.int .i64 x).wf = true) :
    Calls Try.prog 5 #[.int .i64 t, .int .i64 x] w fun e w' => e = .returned (.bool true) ∧ Below w.heap.size w w' := by
  cases h : (kIs t != 0)
  · have f1 : (packC t x == 0) = true := beq_of (by simp [packC, h])
    have e2 : packE t x = 20 := by simp [packE, h]
    have f2 : (packE t x != 0) = true := by rw [e2]; rfl
    have f3 : (packE t x == 20) = true := by rw [e2]; rfl
    clear e2
    go_enter Try.func5, Try.ntmps5
    go_wp2_with (first
      | (go_at_call 10; refine (pack_any _ _ _).mono ?_; rintro e w' ⟨rfl, hb⟩)
      | (go_at_call 12; refine (unpack_any _ _ (by assumption) (by assumption)).mono ?_; rintro e w' ⟨rfl, hb⟩)
      | (go_at_call 15; refine (elem_any _ _).mono ?_; rintro e w' ⟨rfl, hb⟩)
      | (go_at_call 17; refine (typed_any _ _ _).mono ?_; rintro e w' ⟨rfl, hb⟩)
      | (go_at_call 19; refine (legal_any _ _).mono ?_; rintro e w' ⟨rfl, hb⟩)
      | (go_at_call 21; refine (inline_any _ _).mono ?_; rintro e w' ⟨rfl, hb⟩)
      | (go_at_call 14; refine (works_any _).mono ?_; rintro e w' ⟨rfl, hb⟩))
    go_ret
    exact ⟨rfl, by repeat (first | exact Below.refl _ _ | (refine below_then ?_ (by assumption)))⟩
  · cases hx : isW x
    · have f1 : (packC t x == 0) = true := beq_of (by simp [packC, hx])
      have e2 : packE t x = 2 := by simp [packE, h, hx]
      have f2 : (packE t x != 0) = true := by rw [e2]; rfl
      have f3 : (packE t x == 20) = false := by rw [e2]; rfl
      clear e2
      go_enter Try.func5, Try.ntmps5
      go_wp2_with (first
        | (go_at_call 10; refine (pack_any _ _ _).mono ?_; rintro e w' ⟨rfl, hb⟩)
        | (go_at_call 12; refine (unpack_any _ _ (by assumption) (by assumption)).mono ?_; rintro e w' ⟨rfl, hb⟩)
        | (go_at_call 15; refine (elem_any _ _).mono ?_; rintro e w' ⟨rfl, hb⟩)
        | (go_at_call 17; refine (typed_any _ _ _).mono ?_; rintro e w' ⟨rfl, hb⟩)
        | (go_at_call 19; refine (legal_any _ _).mono ?_; rintro e w' ⟨rfl, hb⟩)
        | (go_at_call 21; refine (inline_any _ _).mono ?_; rintro e w' ⟨rfl, hb⟩)
        | (go_at_call 14; refine (works_any _).mono ?_; rintro e w' ⟨rfl, hb⟩))
      go_ret
      exact ⟨rfl, by repeat (first | exact Below.refl _ _ | (refine below_then ?_ (by assumption)))⟩
    · obtain ⟨c0, c1, p1, p2, p3⟩ := pack_unpack h hx
      have f2 : (packE t x != 0) = false := bne_no (by simp [packE, h, hx])
      have f3 : (unT (packC t x) == t) = true := beq_of p1
      have f4 : (unW (packC t x) == x) = true := beq_of p2
      have f5 : (unE (packC t x) == 0) = true := beq_of p3
      clear p1 p2 p3
      go_enter Try.func5, Try.ntmps5
      go_wp2_with (first
        | (go_at_call 10; refine (pack_any _ _ _).mono ?_; rintro e w' ⟨rfl, hb⟩)
        | (go_at_call 12; refine (unpack_any _ _ (by assumption) (by assumption)).mono ?_; rintro e w' ⟨rfl, hb⟩)
        | (go_at_call 15; refine (elem_any _ _).mono ?_; rintro e w' ⟨rfl, hb⟩)
        | (go_at_call 17; refine (typed_any _ _ _).mono ?_; rintro e w' ⟨rfl, hb⟩)
        | (go_at_call 19; refine (legal_any _ _).mono ?_; rintro e w' ⟨rfl, hb⟩)
        | (go_at_call 21; refine (inline_any _ _).mono ?_; rintro e w' ⟨rfl, hb⟩)
        | (go_at_call 14; refine (works_any _).mono ?_; rintro e w' ⟨rfl, hb⟩))
      go_ret
      exact ⟨rfl, by repeat (first | exact Below.refl _ _ | (refine below_then ?_ (by assumption)))⟩
set_option maxHeartbeats 1600000 in
theorem tagOnly_walk (c : Int) (w : World) (hc : (Lit.int .u8 c).wf = true) :
    Calls Try.prog 6 #[.int .u8 c] w fun e w' => e = .returned (.bool true) ∧ Below w.heap.size w w' := by
  obtain ⟨c0, c1⟩ := u8_bd hc
  clear hc
  cases h : (kIs (c / 4) != 0)
  · have f1 : (unE c != 0) = true := by simp [unE, h]
    have f2 : (unT c == 0) = true := by simp [unT, h]
    have f3 : (unW c == 0) = true := by simp [unW, h]
    go_enter Try.func6, Try.ntmps6
    go_wp2_with (first
      | (go_at_call 10; refine (pack_any _ _ _).mono ?_; rintro e w' ⟨rfl, hb⟩)
      | (go_at_call 12; refine (unpack_any _ _ (by assumption) (by assumption)).mono ?_; rintro e w' ⟨rfl, hb⟩)
      | (go_at_call 15; refine (elem_any _ _).mono ?_; rintro e w' ⟨rfl, hb⟩)
      | (go_at_call 17; refine (typed_any _ _ _).mono ?_; rintro e w' ⟨rfl, hb⟩)
      | (go_at_call 19; refine (legal_any _ _).mono ?_; rintro e w' ⟨rfl, hb⟩)
      | (go_at_call 21; refine (inline_any _ _).mono ?_; rintro e w' ⟨rfl, hb⟩)
      | (go_at_call 14; refine (works_any _).mono ?_; rintro e w' ⟨rfl, hb⟩))
    go_ret
    exact ⟨rfl, by repeat (first | exact Below.refl _ _ | (refine below_then ?_ (by assumption)))⟩
  · obtain ⟨p1, p2⟩ := unpack_pack h
    have f1 : (unE c != 0) = false := by simp [unE, h]
    have f2 : (packC (unT c) (unW c) == c) = true := beq_of p1
    have f3 : (packE (unT c) (unW c) == 0) = true := beq_of p2
    clear p1 p2
    go_enter Try.func6, Try.ntmps6
    go_wp2_with (first
      | (go_at_call 10; refine (pack_any _ _ _).mono ?_; rintro e w' ⟨rfl, hb⟩)
      | (go_at_call 12; refine (unpack_any _ _ (by assumption) (by assumption)).mono ?_; rintro e w' ⟨rfl, hb⟩)
      | (go_at_call 15; refine (elem_any _ _).mono ?_; rintro e w' ⟨rfl, hb⟩)
      | (go_at_call 17; refine (typed_any _ _ _).mono ?_; rintro e w' ⟨rfl, hb⟩)
      | (go_at_call 19; refine (legal_any _ _).mono ?_; rintro e w' ⟨rfl, hb⟩)
      | (go_at_call 21; refine (inline_any _ _).mono ?_; rintro e w' ⟨rfl, hb⟩)
      | (go_at_call 14; refine (works_any _).mono ?_; rintro e w' ⟨rfl, hb⟩))
    go_ret
    exact ⟨rfl, by repeat (first | exact Below.refl _ _ | (refine below_then ?_ (by assumption)))⟩
theorem un_inj {c d : Int} (h : (kIs (c / 4) != 0) = true) (h' : (kIs (d / 4) != 0) = true) : ((unT c == unT d && unW c == unW d) == (c == d)) = true := by
  by_cases e : c = d
  · subst e; simp
  · have n : ¬ (unT c = unT d ∧ unW c = unW d) := by
      rintro ⟨a, b⟩
      obtain ⟨p1, _⟩ := unpack_pack h
      obtain ⟨p2, _⟩ := unpack_pack h'
      rw [a, b] at p1
      exact e (p1.symm.trans p2)
    have e1 : (c == d) = false := beq_no e
    rw [e1]
    by_cases a : unT c = unT d
    · have b : unW c ≠ unW d := fun b => n ⟨a, b⟩
      simp [b]
    · simp [a]
set_option maxHeartbeats 1600000 in
theorem tagApart_walk (c d : Int) (w : World) (hc : (Lit.int .u8 c).wf = true) (hd : (Lit.int .u8 d).wf = true) :
    Calls Try.prog 8 #[.int .u8 c, .int .u8 d] w fun e w' => e = .returned (.bool true) ∧ Below w.heap.size w w' := by
  obtain ⟨c0, c1⟩ := u8_bd hc
  obtain ⟨d0, d1⟩ := u8_bd hd
  clear hc hd
  cases h : (kIs (c / 4) != 0)
  · have f1 : (unE c != 0) = true := by simp [unE, h]
    go_enter Try.func8, Try.ntmps8
    go_wp2_with (first
      | (go_at_call 10; refine (pack_any _ _ _).mono ?_; rintro e w' ⟨rfl, hb⟩)
      | (go_at_call 12; refine (unpack_any _ _ (by assumption) (by assumption)).mono ?_; rintro e w' ⟨rfl, hb⟩)
      | (go_at_call 15; refine (elem_any _ _).mono ?_; rintro e w' ⟨rfl, hb⟩)
      | (go_at_call 17; refine (typed_any _ _ _).mono ?_; rintro e w' ⟨rfl, hb⟩)
      | (go_at_call 19; refine (legal_any _ _).mono ?_; rintro e w' ⟨rfl, hb⟩)
      | (go_at_call 21; refine (inline_any _ _).mono ?_; rintro e w' ⟨rfl, hb⟩)
      | (go_at_call 14; refine (works_any _).mono ?_; rintro e w' ⟨rfl, hb⟩))
    go_ret
    exact ⟨rfl, by repeat (first | exact Below.refl _ _ | (refine below_then ?_ (by assumption)))⟩
  · have f1 : (unE c != 0) = false := by simp [unE, h]
    cases h' : (kIs (d / 4) != 0)
    · have f2 : (unE d != 0) = true := by simp [unE, h']
      go_enter Try.func8, Try.ntmps8
      go_wp2_with (first
        | (go_at_call 10; refine (pack_any _ _ _).mono ?_; rintro e w' ⟨rfl, hb⟩)
        | (go_at_call 12; refine (unpack_any _ _ (by assumption) (by assumption)).mono ?_; rintro e w' ⟨rfl, hb⟩)
        | (go_at_call 15; refine (elem_any _ _).mono ?_; rintro e w' ⟨rfl, hb⟩)
        | (go_at_call 17; refine (typed_any _ _ _).mono ?_; rintro e w' ⟨rfl, hb⟩)
        | (go_at_call 19; refine (legal_any _ _).mono ?_; rintro e w' ⟨rfl, hb⟩)
        | (go_at_call 21; refine (inline_any _ _).mono ?_; rintro e w' ⟨rfl, hb⟩)
        | (go_at_call 14; refine (works_any _).mono ?_; rintro e w' ⟨rfl, hb⟩))
      go_ret
      exact ⟨rfl, by repeat (first | exact Below.refl _ _ | (refine below_then ?_ (by assumption)))⟩
    · have f2 : (unE d != 0) = false := by simp [unE, h']
      have f3 := un_inj h h'
      cases g1 : (unT c == unT d)
      · rw [g1] at f3
        have f4 : (c == d) = false := by simpa using f3
        clear f3
        go_enter Try.func8, Try.ntmps8
        go_wp2_with (first
          | (go_at_call 10; refine (pack_any _ _ _).mono ?_; rintro e w' ⟨rfl, hb⟩)
          | (go_at_call 12; refine (unpack_any _ _ (by assumption) (by assumption)).mono ?_; rintro e w' ⟨rfl, hb⟩)
          | (go_at_call 15; refine (elem_any _ _).mono ?_; rintro e w' ⟨rfl, hb⟩)
          | (go_at_call 17; refine (typed_any _ _ _).mono ?_; rintro e w' ⟨rfl, hb⟩)
          | (go_at_call 19; refine (legal_any _ _).mono ?_; rintro e w' ⟨rfl, hb⟩)
          | (go_at_call 21; refine (inline_any _ _).mono ?_; rintro e w' ⟨rfl, hb⟩)
          | (go_at_call 14; refine (works_any _).mono ?_; rintro e w' ⟨rfl, hb⟩))
        go_ret
        exact ⟨rfl, by repeat (first | exact Below.refl _ _ | (refine below_then ?_ (by assumption)))⟩
      · cases g2 : (unW c == unW d)
        · rw [g1, g2] at f3
          have f4 : (c == d) = false := by simpa using f3
          clear f3
          go_enter Try.func8, Try.ntmps8
          go_wp2_with (first
            | (go_at_call 10; refine (pack_any _ _ _).mono ?_; rintro e w' ⟨rfl, hb⟩)
            | (go_at_call 12; refine (unpack_any _ _ (by assumption) (by assumption)).mono ?_; rintro e w' ⟨rfl, hb⟩)
            | (go_at_call 15; refine (elem_any _ _).mono ?_; rintro e w' ⟨rfl, hb⟩)
            | (go_at_call 17; refine (typed_any _ _ _).mono ?_; rintro e w' ⟨rfl, hb⟩)
            | (go_at_call 19; refine (legal_any _ _).mono ?_; rintro e w' ⟨rfl, hb⟩)
            | (go_at_call 21; refine (inline_any _ _).mono ?_; rintro e w' ⟨rfl, hb⟩)
            | (go_at_call 14; refine (works_any _).mono ?_; rintro e w' ⟨rfl, hb⟩))
          go_ret
          exact ⟨rfl, by repeat (first | exact Below.refl _ _ | (refine below_then ?_ (by assumption)))⟩
        · rw [g1, g2] at f3
          have f4 : (c == d) = true := by simpa using f3
          clear f3
          go_enter Try.func8, Try.ntmps8
          go_wp2_with (first
            | (go_at_call 10; refine (pack_any _ _ _).mono ?_; rintro e w' ⟨rfl, hb⟩)
            | (go_at_call 12; refine (unpack_any _ _ (by assumption) (by assumption)).mono ?_; rintro e w' ⟨rfl, hb⟩)
            | (go_at_call 15; refine (elem_any _ _).mono ?_; rintro e w' ⟨rfl, hb⟩)
            | (go_at_call 17; refine (typed_any _ _ _).mono ?_; rintro e w' ⟨rfl, hb⟩)
            | (go_at_call 19; refine (legal_any _ _).mono ?_; rintro e w' ⟨rfl, hb⟩)
            | (go_at_call 21; refine (inline_any _ _).mono ?_; rintro e w' ⟨rfl, hb⟩)
            | (go_at_call 14; refine (works_any _).mono ?_; rintro e w' ⟨rfl, hb⟩))
          go_ret
          exact ⟨rfl, by repeat (first | exact Below.refl _ _ | (refine below_then ?_ (by assumption)))⟩
theorem typed_back {e m : Int} (h : tB e m = true) : kIs (tT e m) = 3 ∧ kElem (tT e m) = e ∧ kMany (tT e m) = m := by
  obtain ⟨k, _, h1, h2, h3⟩ := t_back e m h
  have := t_hit k e m h1 h2 h3
  rw [this.1]
  exact ⟨h1, h2, h3⟩
theorem typed_none {e m : Int} (h : tB e m = false) : tT e m = 0 := by
  refine (t_miss e m ?_).1
  rintro k _ ⟨h1, h2, h3⟩
  have := (t_hit k e m h1 h2 h3).2
  rw [h] at this
  cases this
theorem is3 {t : Int} (h : kIs t = 3) : t = 11 ∨ t = 12 ∨ t = 14 ∨ t = 36 ∨ t = 16 ∨ t = 19 ∨ t = 22 ∨ t = 17 ∨ t = 20 ∨ t = 23 := by
  unfold kIs at h
  split at h
  · omega
  · split at h
    · omega
    · split at h
      · assumption
      · omega
theorem not3 {t : Int} (h : ¬ kIs t = 3) : kElem t = 0 ∧ kMany t = 0 := by
  have n : ¬ (t = 11 ∨ t = 12 ∨ t = 14 ∨ t = 36 ∨ t = 16 ∨ t = 19 ∨ t = 22 ∨ t = 17 ∨ t = 20 ∨ t = 23) := by
    intro hh
    exact h (by rcases hh with rfl | rfl | rfl | rfl | rfl | rfl | rfl | rfl | rfl | rfl <;> rfl)
  refine ⟨?_, ?_⟩
  · unfold kElem; rw [if_neg (by omega), if_neg (by omega), if_neg (by omega), if_neg (by omega)]
  · unfold kMany; rw [if_neg (by omega), if_neg (by omega), if_neg (by omega)]
theorem elem_of {t : Int} (h : kIs t = 3) : (kIs (kElem t) == 1) = true ∨ ((kIs (kElem t) == 1) = false ∧ (kElem t != 4) = false) := by
  rcases is3 h with rfl | rfl | rfl | rfl | rfl | rfl | rfl | rfl | rfl | rfl
  all_goals first | exact Or.inl rfl | exact Or.inr ⟨rfl, rfl⟩

set_option maxHeartbeats 3200000 in
theorem tagVectors_walk (t m : Int) (w : World) (_ht : (Lit.int .i64 t).wf = true) (_hm : (Lit.int .i64 m).wf = true) :
    Calls Try.prog 7 #[.int .i64 t, .int .i64 m] w fun e w' => e = .returned (.bool true) ∧ Below w.heap.size w w' := by
  cases h : (kIs t == 3)
  · obtain ⟨z1, z2⟩ := not3 (beq_eq_false_iff_ne.1 h)
    have f1 : (kElem t == 0) = true := beq_of z1
    have f2 : (kMany t == 0) = true := beq_of z2
    clear z1 z2
    cases g : tB t m
    · have f3 : (tT t m == 0) = true := beq_of (typed_none g)
      go_enter Try.func7, Try.ntmps7
      go_wp2_with (first
        | (go_at_call 10; refine (pack_any _ _ _).mono ?_; rintro e w' ⟨rfl, hb⟩)
        | (go_at_call 12; refine (unpack_any _ _ (by assumption) (by assumption)).mono ?_; rintro e w' ⟨rfl, hb⟩)
        | (go_at_call 15; refine (elem_any _ _).mono ?_; rintro e w' ⟨rfl, hb⟩)
        | (go_at_call 17; refine (typed_any _ _ _).mono ?_; rintro e w' ⟨rfl, hb⟩)
        | (go_at_call 19; refine (legal_any _ _).mono ?_; rintro e w' ⟨rfl, hb⟩)
        | (go_at_call 21; refine (inline_any _ _).mono ?_; rintro e w' ⟨rfl, hb⟩)
        | (go_at_call 14; refine (works_any _).mono ?_; rintro e w' ⟨rfl, hb⟩))
      go_ret
      exact ⟨rfl, by repeat (first | exact Below.refl _ _ | (refine below_then ?_ (by assumption)))⟩
    · obtain ⟨p1, p2, p3⟩ := typed_back g
      have f3 : (kIs (tT t m) == 3) = true := beq_of p1
      have f4 : (kElem (tT t m) == t) = true := beq_of p2
      have f5 : (kMany (tT t m) == m) = true := beq_of p3
      clear p1 p2 p3
      go_enter Try.func7, Try.ntmps7
      go_wp2_with (first
        | (go_at_call 10; refine (pack_any _ _ _).mono ?_; rintro e w' ⟨rfl, hb⟩)
        | (go_at_call 12; refine (unpack_any _ _ (by assumption) (by assumption)).mono ?_; rintro e w' ⟨rfl, hb⟩)
        | (go_at_call 15; refine (elem_any _ _).mono ?_; rintro e w' ⟨rfl, hb⟩)
        | (go_at_call 17; refine (typed_any _ _ _).mono ?_; rintro e w' ⟨rfl, hb⟩)
        | (go_at_call 19; refine (legal_any _ _).mono ?_; rintro e w' ⟨rfl, hb⟩)
        | (go_at_call 21; refine (inline_any _ _).mono ?_; rintro e w' ⟨rfl, hb⟩)
        | (go_at_call 14; refine (works_any _).mono ?_; rintro e w' ⟨rfl, hb⟩))
      go_ret
      exact ⟨rfl, by repeat (first | exact Below.refl _ _ | (refine below_then ?_ (by assumption)))⟩
  · have h3 : kIs t = 3 := eq_of_beq h
    obtain ⟨q1, q2⟩ := t_hit t (kElem t) (kMany t) h3 rfl rfl
    have f1 : (tT (kElem t) (kMany t) != t) = false := bne_no q1
    have f2 : tB (kElem t) (kMany t) = true := q2
    have f6 : (kIs t == 1) = false := by rw [h3]; rfl
    have f7 : (kIs t != 0) = true := by rw [h3]; rfl
    have f8 := elem_of h3
    clear q1 q2 h3
    cases g : tB t m
    · have f3 : (tT t m == 0) = true := beq_of (typed_none g)
      rcases f8 with f8 | ⟨f8, f9⟩
      · go_enter Try.func7, Try.ntmps7
        go_wp2_with (first
          | (go_at_call 10; refine (pack_any _ _ _).mono ?_; rintro e w' ⟨rfl, hb⟩)
          | (go_at_call 12; refine (unpack_any _ _ (by assumption) (by assumption)).mono ?_; rintro e w' ⟨rfl, hb⟩)
          | (go_at_call 15; refine (elem_any _ _).mono ?_; rintro e w' ⟨rfl, hb⟩)
          | (go_at_call 17; refine (typed_any _ _ _).mono ?_; rintro e w' ⟨rfl, hb⟩)
          | (go_at_call 19; refine (legal_any _ _).mono ?_; rintro e w' ⟨rfl, hb⟩)
          | (go_at_call 21; refine (inline_any _ _).mono ?_; rintro e w' ⟨rfl, hb⟩)
          | (go_at_call 14; refine (works_any _).mono ?_; rintro e w' ⟨rfl, hb⟩))
        go_ret
        exact ⟨rfl, by repeat (first | exact Below.refl _ _ | (refine below_then ?_ (by assumption)))⟩
      · go_enter Try.func7, Try.ntmps7
        go_wp2_with (first
          | (go_at_call 10; refine (pack_any _ _ _).mono ?_; rintro e w' ⟨rfl, hb⟩)
          | (go_at_call 12; refine (unpack_any _ _ (by assumption) (by assumption)).mono ?_; rintro e w' ⟨rfl, hb⟩)
          | (go_at_call 15; refine (elem_any _ _).mono ?_; rintro e w' ⟨rfl, hb⟩)
          | (go_at_call 17; refine (typed_any _ _ _).mono ?_; rintro e w' ⟨rfl, hb⟩)
          | (go_at_call 19; refine (legal_any _ _).mono ?_; rintro e w' ⟨rfl, hb⟩)
          | (go_at_call 21; refine (inline_any _ _).mono ?_; rintro e w' ⟨rfl, hb⟩)
          | (go_at_call 14; refine (works_any _).mono ?_; rintro e w' ⟨rfl, hb⟩))
        go_ret
        exact ⟨rfl, by repeat (first | exact Below.refl _ _ | (refine below_then ?_ (by assumption)))⟩
    · obtain ⟨p1, p2, p3⟩ := typed_back g
      have f3 : (kIs (tT t m) == 3) = true := beq_of p1
      have f4 : (kElem (tT t m) == t) = true := beq_of p2
      have f5 : (kMany (tT t m) == m) = true := beq_of p3
      clear p1 p2 p3
      rcases f8 with f8 | ⟨f8, f9⟩
      · go_enter Try.func7, Try.ntmps7
        go_wp2_with (first
          | (go_at_call 10; refine (pack_any _ _ _).mono ?_; rintro e w' ⟨rfl, hb⟩)
          | (go_at_call 12; refine (unpack_any _ _ (by assumption) (by assumption)).mono ?_; rintro e w' ⟨rfl, hb⟩)
          | (go_at_call 15; refine (elem_any _ _).mono ?_; rintro e w' ⟨rfl, hb⟩)
          | (go_at_call 17; refine (typed_any _ _ _).mono ?_; rintro e w' ⟨rfl, hb⟩)
          | (go_at_call 19; refine (legal_any _ _).mono ?_; rintro e w' ⟨rfl, hb⟩)
          | (go_at_call 21; refine (inline_any _ _).mono ?_; rintro e w' ⟨rfl, hb⟩)
          | (go_at_call 14; refine (works_any _).mono ?_; rintro e w' ⟨rfl, hb⟩))
        go_ret
        exact ⟨rfl, by repeat (first | exact Below.refl _ _ | (refine below_then ?_ (by assumption)))⟩
      · go_enter Try.func7, Try.ntmps7
        go_wp2_with (first
          | (go_at_call 10; refine (pack_any _ _ _).mono ?_; rintro e w' ⟨rfl, hb⟩)
          | (go_at_call 12; refine (unpack_any _ _ (by assumption) (by assumption)).mono ?_; rintro e w' ⟨rfl, hb⟩)
          | (go_at_call 15; refine (elem_any _ _).mono ?_; rintro e w' ⟨rfl, hb⟩)
          | (go_at_call 17; refine (typed_any _ _ _).mono ?_; rintro e w' ⟨rfl, hb⟩)
          | (go_at_call 19; refine (legal_any _ _).mono ?_; rintro e w' ⟨rfl, hb⟩)
          | (go_at_call 21; refine (inline_any _ _).mono ?_; rintro e w' ⟨rfl, hb⟩)
          | (go_at_call 14; refine (works_any _).mono ?_; rintro e w' ⟨rfl, hb⟩))
        go_ret
        exact ⟨rfl, by repeat (first | exact Below.refl _ _ | (refine below_then ?_ (by assumption)))⟩
end Go.Proofs.Ytiagpjjjggldeaa
