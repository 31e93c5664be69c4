import Derived.Test.YtdomplhhjkikmaaPuts
import Derived.Deep.OwnRows
namespace Go.Proofs.Ytdomplhhjkikmaa
open Go.RowKit
theorem made_list (n : Nat) (z : Value) : madeCells #[z] n = (List.replicate n z).toArray := by
  apply Array.ext'
  apply List.ext_getElem?
  intro i
  simp [madeCells, List.getElem?_replicate, Nat.mod_one]
  by_cases h : i < n <;> simp [h]
theorem made_own {w : World} {g n : Nat} {xs : List Value} (h : w.heap[g]? = some (.cells (splice (List.replicate n (.string ByteArray.empty)) 0 xs).toArray 9 (0, 0))) (hl : xs.length = n) (hm : n ≤ 100000) : w.ownsRow g 9 1 (.slice (some ⟨g, 0, none⟩) n n) n xs := by
  refine ⟨by omega, Or.inr ⟨g, n, _, rfl, Nat.le_refl _, h, Nat.le_refl _, by unfold maxLen; omega, ?_, ?_⟩⟩
  · simp [splice]; omega
  · simp [splice, ← hl]
theorem str_take (l : List UInt8) (k : Nat) : (ByteArray.mk l.toArray).extract 0 k = ⟨(l.take k).toArray⟩ := by
  apply ByteArray.ext
  apply Array.ext'
  simp [List.extract_eq_take_drop]
theorem rd_src {w : World} {A : Option Addr} {n : Nat} {xs : List Value} (h : Rd w 1 A n xs) (hp : 0 < xs.length) : ∃ ad, A = some ad ∧ ∀ j v, xs[j]? = some v → w.cell? (ad.add j) = some v := by
  obtain ⟨b, o, rfl, _, hc⟩ := h.2 (by have := h.1; omega)
  exact ⟨_, rfl, fun j v hj => by rw [spot_add]; exact hc j v hj⟩
set_option maxHeartbeats 4000000 in
theorem list_any (g : Nat) (ks us : Value) (E : List Ent) (w : World) (h : PoolAt w g ks us E) (hn : E.length ≤ 100000) :
    Calls Try.prog 16 #[.pointer (some ⟨g, 0, none⟩)] w fun e w' => (∃ v, e = .returned v ∧ w'.ownsRow w.heap.size 9 1 v E.length (strs (keys E))) ∧ Below w.heap.size w w' := by
  have c2 := h.c2
  have c0 := h.c0
  obtain ⟨A, c, rfl, hc1, hc2⟩ := own_shape h.kown
  have hR := Rd.of_own h.kown
  have c0a := fun o => alloc_cell o c0
  have hmk := run_make_row' (P := Try.prog) 34 9 (.string ByteArray.empty) 16 Try.underlying34 infoS rfl .i64 .i64 E.length (by omega) (by omega)
  rw [made_list] at hmk
  have HR := Lib.hid hR
  have hgl := h.g_lt
  clear h hR
  go_enter Try.func16, Try.ntmps16
  go_wp2_with (first
    | (go_at_call 26; refine (none_any _ _ c2).mono ?_; rintro e w1 ⟨rfl, rfl⟩)
    | (refine wpList_copy_splice rfl (.tmp 13) (.tmp 18) 34 34 rfl 9 Try.underlying34 sz9 _ _ _ _ _ _ rfl rfl w.heap.size 0 (List.replicate E.length (.string ByteArray.empty)) 9 (heap_alloc_last _ _) (strs (keys E)) (by simp [strs, keys]) (fun hp => ⟨rfl, rd_src (HR.out.alloc _) hp⟩) (by simp [strs, keys]) (str_one _) w.heap.size w ((Below.refl _ _).alloc (Nat.le_refl _) _) (Nat.le_refl _) ?_; intro w2 hg2 hb2))
  go_ret
  exact ⟨⟨_, rfl, made_own hg2.out (by simp [strs, keys]) hn⟩, hb2⟩
set_option maxHeartbeats 4000000 in
theorem eqTexts_any (A : Option Addr) (n c : Nat) (l : List (List UInt8)) (B : Option Addr) (m d : Nat) (r : List (List UInt8)) (w : World) (h : Rd w 1 A n (strs l)) (h2 : Rd w 1 B m (strs r)) (hn : n ≤ 1000000) (hm : m ≤ 1000000) :
    Calls Try.prog 18 #[.slice A n c, .slice B m d] w fun e w' => e = .returned (.bool (l == r)) ∧ Below w.heap.size w w' := by
  have hl : l.length = n := by have := h.1; simpa [strs] using this
  have hr : r.length = m := by have := h2.1; simpa [strs] using this
  by_cases hnm : n = m
  · subst hnm
    have hne : ((n : Int) != (n : Int)) = false := by simp
    have HL := Lib.hid (And.intro hl hr)
    clear hl hr
    go_enter Try.func18, Try.ntmps18
    go_wp2
    go_loopw [5] (fun i wr => ∃ k : Nat, k ≤ n ∧ i = .int .i64 k ∧ Hid ((l == r) = (l.drop k == r.drop k)) ∧ Hid (∃ j, wr = w.drewN j)) (fun i _ => n - (intOf i).toNat)
    case atStart => exact ⟨0, by omega, rfl, rfl, ⟨0, rfl⟩⟩
    case round =>
      obtain ⟨k, hk, rfl, he, hw⟩ := hrel
      by_cases hlt : k < n
      · obtain ⟨x, hx⟩ : ∃ x, l[k]? = some x := ⟨_, List.getElem?_eq_getElem (by have := HL.out; omega)⟩
        obtain ⟨y, hy⟩ : ∃ y, r[k]? = some y := ⟨_, List.getElem?_eq_getElem (by have := HL.out; omega)⟩
        obtain ⟨j, hj⟩ := hw.out
        have hb := below_of_drew hw.out
        obtain ⟨b, o, rfl, _, hc⟩ := (h.below hb).2 (by omega)
        obtain ⟨b2, o2, rfl, _, hc2⟩ := (h2.below hb).2 (by omega)
        have g1 := hc k (str x) (by simp [strs, hx])
        have g2 := hc2 k (str y) (by simp [strs, hy])
        unfold str at g1 g2
        have h3 := he.out
        rw [List.drop_eq_getElem_cons (by have := HL.out; omega : k < l.length), List.drop_eq_getElem_cons (by have := HL.out; omega : k < r.length), (List.getElem?_eq_some_iff.1 hx).2, (List.getElem?_eq_some_iff.1 hy).2, List.cons_beq_cons] at h3
        clear hc hc2 hj hx hy hb
        cases hxy : x == y with
        | true =>
          have hn : (x != y) = false := by simp [bne, hxy]
          rw [hxy, Bool.true_and] at h3
          have H3 := Lib.hid h3
          clear h3
          go_wp2
          go_quiet (fail)
          go_wp2
          go_roundw
          case rel => exact ⟨k + 1, by omega, by go_num, H3, drew_more hw.out nq⟩
          case measure => simp [intOf]; omega
        | false =>
          have hn : (x != y) = true := by simp [bne, hxy]
          rw [hxy, Bool.false_and] at h3
          have H3 := Lib.hid h3
          clear h3
          go_wp2
          go_quiet (fail)
          go_wp2
          go_ret
          exact ⟨by rw [H3.out]; rfl, below_of_drew (drew_more hw.out _)⟩
      · obtain rfl : k = n := by omega
        have H3 := Lib.hid (show (l == r) = true by rw [he.out, List.drop_eq_nil_of_le (by have := HL.out; omega), List.drop_eq_nil_of_le (by have := HL.out; omega)]; rfl)
        go_wp2
        go_ret
        exact ⟨by rw [H3.out]; rfl, below_of_drew hw.out⟩
  · have hne : ((n : Int) != (m : Int)) = true := by simp; omega
    have H3 := Lib.hid (show (l == r) = false by
      rw [beq_eq_false_iff_ne]
      rintro rfl
      omega)
    clear hl hr
    go_enter Try.func18, Try.ntmps18
    go_wp2
    go_ret
    exact ⟨by rw [H3.out]; rfl, Below.refl _ _⟩
set_option maxHeartbeats 1000000 in
theorem short_any (l : List UInt8) (k : Nat) (w : World) :
    Calls Try.prog 11 #[.string ⟨l.toArray⟩, .int .i64 (k : Int)] w fun e w' => e = .returned (.string ⟨(l.take k).toArray⟩) ∧ w = w' := by
  by_cases h : k < l.length
  · have e1 := Lib.hid (str_take l k)
    have hm : min (l.length : Int) (k : Int) = (k : Int) := by omega
    go_enter Try.func11, Try.ntmps11
    go_wp2
    all_goals
      go_ret
      exact ⟨by rw [← e1.out]; rfl, rfl⟩
  · have e1 := Lib.hid (show (ByteArray.mk l.toArray).extract 0 l.length = ⟨(l.take k).toArray⟩ by rw [str_take, List.take_length, List.take_of_length_le (by omega)])
    have hm : min (l.length : Int) (k : Int) = (l.length : Int) := by omega
    have h' : ¬ (k : Int) < (l.length : Int) := by omega
    go_enter Try.func11, Try.ntmps11
    go_wp2
    all_goals
      go_ret
      exact ⟨by rw [← e1.out]; rfl, rfl⟩
end Go.Proofs.Ytdomplhhjkikmaa
