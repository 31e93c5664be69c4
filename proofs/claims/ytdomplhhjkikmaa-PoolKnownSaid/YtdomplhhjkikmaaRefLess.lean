import Derived.Test.YtdomplhhjkikmaaPool
/- The reference's order of strings. -/
namespace Go.Proofs.Ytdomplhhjkikmaa
open Go.RowKit
theorem byte_at {s : List UInt8} {k : Nat} {c : UInt8} (h : s[k]? = some c) : ∃ hk : k < (ByteArray.mk s.toArray).size, (ByteArray.mk s.toArray)[k]'hk = c := by
  obtain ⟨hk, hc⟩ := List.getElem?_eq_some_iff.1 h
  exact ⟨by show k < s.toArray.size; simpa using hk, hc⟩
theorem drop_at {s : List UInt8} {k : Nat} {c : UInt8} (h : s[k]? = some c) : s.drop k = c :: s.drop (k + 1) := by
  obtain ⟨hk, hc⟩ := List.getElem?_eq_some_iff.1 h
  rw [List.drop_eq_getElem_cons hk, hc]
set_option maxRecDepth 100000 in
set_option maxHeartbeats 4000000 in
theorem refLess_any (a b : List UInt8) (w : World) (ha : a.length ≤ 1000000) (hb : b.length ≤ 1000000) : Calls Try.prog 30 #[.string ⟨a.toArray⟩, .string ⟨b.toArray⟩] w fun e w' => e = .returned (.bool (lt a b)) ∧ ∃ n, w' = w.drewN n := by
  go_enter Try.func30, Try.ntmps30
  go_wp2
  go_loopw [5] (fun i wr => ∃ k : Nat, k ≤ a.length ∧ k ≤ b.length ∧ i = .int .i64 k ∧ Hid (lt a b = lt (a.drop k) (b.drop k)) ∧ Hid (∃ n, wr = w.drewN n)) (fun i _ => a.length - (intOf i).toNat)
  case atStart => exact ⟨0, by omega, by omega, rfl, rfl, ⟨0, rfl⟩⟩
  case round =>
    obtain ⟨k, hka, hkb, rfl, he, hw⟩ := hrel
    by_cases h1 : k < a.length
    · by_cases h2 : k < b.length
      · obtain ⟨x, hx⟩ : ∃ x, a[k]? = some x := ⟨_, List.getElem?_eq_getElem h1⟩
        obtain ⟨y, hy⟩ : ∃ y, b[k]? = some y := ⟨_, List.getElem?_eq_getElem h2⟩
        obtain ⟨hk1, hx1⟩ := byte_at hx
        obtain ⟨hk2, hy1⟩ := byte_at hy
        have he2 := he.out
        rw [drop_at hx, drop_at hy, lt_cons] at he2
        obtain ⟨p, hp⟩ : ∃ p, x.toNat = p := ⟨_, rfl⟩
        obtain ⟨q, hq⟩ : ∃ q, y.toNat = q := ⟨_, rfl⟩
        have hx2 : ((ByteArray.mk a.toArray)[k]'hk1).toNat = p := by rw [hx1, hp]
        have hy2 : ((ByteArray.mk b.toArray)[k]'hk2).toNat = q := by rw [hy1, hq]
        have hlt : decide (x < y) = decide (p < q) := by
          rw [← hp, ← hq]
          have : (x < y) ↔ (x.toNat < y.toNat) := UInt8.lt_iff_toNat_lt
          simp [this]
        have heq : x = y ↔ p = q := by
          rw [← hp, ← hq]
          exact ⟨fun h => by rw [h], fun h => UInt8.toNat_inj.1 h⟩
        clear hx hy hx1 hy1 hp hq
        by_cases hpq : p = q
        · have hn : ((p : Int) != (q : Int)) = false := by simp; omega
          rw [heq.2 hpq] at he2
          have h3 := Lib.hid (show lt a b = lt (a.drop (k + 1)) (b.drop (k + 1)) by rw [he2]; simp)
          clear he2 hlt heq hpq
          go_wp2
          go_quiet (fail)
          go_wp2
          go_roundw
          case rel => exact ⟨k + 1, by omega, by omega, by go_num, h3, drew_more hw.out nq⟩
          case measure => simp [intOf]; omega
        · have hn : ((p : Int) != (q : Int)) = true := by simp; omega
          have hxy : (x == y) = false := by
            rw [beq_eq_false_iff_ne]
            exact fun h => hpq (heq.1 h)
          rw [hxy, Bool.false_and, Bool.or_false, hlt] at he2
          have h3 := Lib.hid he2
          clear he2 hlt heq hpq hxy
          go_wp2
          go_quiet (fail)
          go_wp2
          go_quiet (fail)
          go_wp2
          go_ret
          exact ⟨by rw [h3.out]; rfl, drew_more (drew_more hw.out _) _⟩
      · have hkb' : k = b.length := by omega
        have h3 := Lib.hid (show lt a b = false by rw [he.out, hkb', List.drop_length, lt_nil])
        have h4 : ¬ (a.length : Int) < (b.length : Int) := by omega
        clear hkb'
        go_wp2
        go_ret
        exact ⟨by rw [h3.out]; rfl, hw.out⟩
    · obtain rfl : k = a.length := by omega
      by_cases h2 : a.length < b.length
      · obtain ⟨y, hy⟩ : ∃ y, b[a.length]? = some y := ⟨_, List.getElem?_eq_getElem h2⟩
        have h3 := Lib.hid (show lt a b = true by rw [he.out, List.drop_length, drop_at hy]; rfl)
        have h4 : (a.length : Int) < (b.length : Int) := by omega
        clear hy
        go_wp2
        go_ret
        exact ⟨by rw [h3.out]; rfl, hw.out⟩
      · have h3 := Lib.hid (show lt a b = false by rw [he.out, List.drop_length, List.drop_eq_nil_of_le (by omega)]; rfl)
        have h4 : ¬ (a.length : Int) < (b.length : Int) := by omega
        go_wp2
        go_ret
        exact ⟨by rw [h3.out]; rfl, hw.out⟩
end Go.Proofs.Ytdomplhhjkikmaa
