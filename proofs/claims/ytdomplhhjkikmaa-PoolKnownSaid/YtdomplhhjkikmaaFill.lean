import Derived.Test.YtdomplhhjkikmaaList
import Derived.Test.YtdomplhhjkikmaaOpen
import Derived.Test.YtdomplhhjkikmaaKeys
/- The examples of the chapter; a pool that is filled from a list. -/
namespace Go.Proofs.Ytdomplhhjkikmaa
open Go.RowKit
/-- A pool that was made since w0. -/
structure Own (w0 w : World) (g : Nat) (ks us : Value) (E : List Ent) : Prop where
  pl : PoolAt w g ks us E
  new : ∀ b, foot g ks us b → w0.heap.size ≤ b
  bel : Below w0.heap.size w0 w
  srt : Srt E
theorem Own.mk_ (w : World) : Own w (w.alloc (.cells #[.slice none 0 0, .slice none 0 0, .bool true] 56)) w.heap.size (.slice none 0 0) (.slice none 0 0) [] :=
  ⟨PoolAt.new w, fun b hb => by rcases hb with rfl | hb | hb <;> simp [Value.ownBlock] at *, (Below.refl _ _).alloc (Nat.le_refl _) _, List.Pairwise.nil⟩
theorem Own.below {w0 w w' : World} {g : Nat} {ks us : Value} {E : List Ent} (h : Own w0 w g ks us E) (hb : Below w.heap.size w w') : Own w0 w' g ks us E :=
  ⟨h.pl.below hb, h.new, below_then h.bel hb, h.srt⟩
theorem srt_put {E : List Ent} (h : Srt E) (k : List UInt8) (a : Int) : Srt (putE E k a) := by
  unfold putE
  split
  · exact h
  · split
    · exact h
    · rename_i hh
      exact srt_ins E k a h (by simpa using hh)
theorem put_len (E : List Ent) (k : List UInt8) (a : Int) : (putE E k a).length ≤ E.length + 1 := by
  unfold putE
  split
  · omega
  · split
    · omega
    · rw [ins_length]; omega
theorem Own.grown {w0 w w' : World} {g : Nat} {ks us : Value} {E E' : List Ent} (h : Own w0 w g ks us E) (hg : Grown w g ks us E' w') (hs : Srt E') : ∃ ks' us', Own w0 w' g ks' us' E' := by
  obtain ⟨ks', us', hp, hk, hn⟩ := hg
  refine ⟨ks', us', hp, fun b hb => ?_, h.bel.trans (hk.below h.bel.size (fun j hj hf => by have := h.new j hf; omega)), hs⟩
  rcases hn b hb with h' | h'
  · exact h.new b h'
  · exact Nat.le_trans h.bel.size h'
theorem put_own {w0 w : World} {g : Nat} {ks us : Value} {E : List Ent} (h : Own w0 w g ks us E) (k : List UInt8) (a : Int) (hn : E.length ≤ 100000) {N : Int} {E' : List Ent} (hN : putN E k a = N) (hE : putE E k a = E') :
    Calls Try.prog 14 #[.pointer (some ⟨g, 0, none⟩), .string ⟨k.toArray⟩, .int .i64 a] w fun e w' => e = .returned (.int .i64 N) ∧ ∃ ks' us', Own w0 w' g ks' us' E' := by
  subst hN
  subst hE
  refine (put_any g ks us E k a w h.pl h.srt hn).mono ?_
  rintro e w' ⟨rfl, hg⟩
  exact ⟨rfl, h.grown hg (srt_put h.srt k a)⟩
theorem rd_str3 (w : World) (xs : List Value) : Rd (w.alloc (.cells xs.toArray 9)) 1 (some ⟨w.heap.size, 0, none⟩) xs.length xs := by
  refine ⟨by simp, fun _ => ⟨w.heap.size, 0, rfl, by simp, fun k u hu => ?_⟩⟩
  rw [cell_of_row _ _ (0 + k) _ 9 (0, 0) (heap_alloc_last _ _)]
  simpa using hu
set_option maxRecDepth 100000 in
set_option maxHeartbeats 4000000 in
theorem works_any (w : World) : Calls Try.prog 20 #[] w fun e w' => e = .returned (.bool true) ∧ Below w.heap.size w w' := by
  go_enter Try.func20, Try.ntmps20
  go_wp2_with fail
  refine (new_any w).mono ?_
  rintro e w1 ⟨rfl, rfl⟩
  have h0 := Own.mk_ w
  generalize hw1 : w.alloc (.cells #[.slice none 0 0, .slice none 0 0, .bool true] 56) = w1 at h0 ⊢
  clear hw1
  go_wp2_with fail
  refine (put_own h0 [98] 5 (by decide) (N := 0) (E' := [([98], 5)]) (by decide +kernel) (by decide +kernel)).mono ?_
  rintro e w2 ⟨rfl, ks, us, h1⟩
  go_wp2_with fail
  refine (put_own h1 [97] 9 (by decide) (N := 0) (E' := [([97], 9), ([98], 5)]) (by decide +kernel) (by decide +kernel)).mono ?_
  rintro e w3 ⟨rfl, ks, us, h2⟩
  go_wp2_with fail
  refine (put_own h2 [] 0 (by decide) (N := 0) (E' := [([], 0), ([97], 9), ([98], 5)]) (by decide +kernel) (by decide +kernel)).mono ?_
  rintro e w4 ⟨rfl, ks, us, h3⟩
  go_wp2_with fail
  refine (list_any w.heap.size ks us _ _ h3.pl (by decide)).mono ?_
  rintro e w5 ⟨⟨v, rfl, ho⟩, hb⟩
  replace h3 := h3.below hb
  obtain ⟨A, c, rfl, hc1, hc2⟩ := own_shape ho
  have hR := (Rd.of_own ho).alloc (.cells #[.string ⟨#[]⟩, .string ⟨#[97]⟩, .string ⟨#[98]⟩] 9)
  have hR2 : Rd (w5.alloc (.cells #[.string ⟨#[]⟩, .string ⟨#[97]⟩, .string ⟨#[98]⟩] 9)) 1 (some ⟨w5.heap.size, 0, none⟩) 3 (strs [[], [97], [98]]) := rd_str3 w5 [.string ⟨#[]⟩, .string ⟨#[97]⟩, .string ⟨#[98]⟩]
  clear ho hb
  go_wp2_with fail
  refine (eqTexts_any A 3 c [[], [97], [98]] _ 3 3 [[], [97], [98]] _ hR hR2 (by decide) (by decide)).mono ?_
  rintro e w6 ⟨rfl, hb⟩
  replace h3 := (h3.below ((Below.refl _ _).alloc (Nat.le_refl _) _)).below hb
  rw [show (([[], [97], [98]] : List (List UInt8)) == [[], [97], [98]]) = true from by decide +kernel]
  clear hR hR2 hb
  go_wp2_with fail
  refine (put_own h3 [97] 1 (by decide) (N := 71) (E' := [([], 0), ([97], 9), ([98], 5)]) (by decide +kernel) (by decide +kernel)).mono ?_
  rintro e w7 ⟨rfl, ks, us, h4⟩
  go_wp2_with fail
  refine (put_own h4 [99] (-1) (by decide) (N := 2) (E' := [([], 0), ([97], 9), ([98], 5)]) (by decide +kernel) (by decide +kernel)).mono ?_
  rintro e w8 ⟨rfl, ks, us, h5⟩
  go_wp2_with fail
  refine (gets_any w.heap.size ks us _ [97] 9 true _ h5.pl h5.srt (by decide) (by decide +kernel) (by decide +kernel)).mono ?_
  rintro e w9 ⟨rfl, hb⟩
  replace h5 := h5.below hb
  clear hb
  go_wp2_with fail
  refine (gets_any w.heap.size ks us _ [99] 0 false _ h5.pl h5.srt (by decide) (by decide +kernel) (by decide +kernel)).mono ?_
  rintro e w10 ⟨rfl, hb⟩
  replace h5 := h5.below hb
  clear hb
  go_wp2_with fail
  refine (len_any w.heap.size ks us _ _ h5.pl).mono ?_
  rintro e w11 ⟨rfl, rfl⟩
  go_wp2
  go_ret
  exact ⟨rfl, h5.bel⟩
/-- The strings of a list that came in, as lists of bytes. -/
def bl (s : ByteArray) : List UInt8 := s.data.toList
theorem bl_str (s : ByteArray) : str (bl s) = .string s := by
  unfold str bl
  simp
theorem isStrs_rd {w : World} {A : Option Addr} {n c : Nat} {ss : List ByteArray} (h : IsStrs w A n c ss) : Rd w 1 A n (strs (ss.map bl)) ∧ n ≤ c ∧ c ≤ maxLen := by
  obtain ⟨h1, h2, h3, _⟩ := h
  refine ⟨?_, h2, h3⟩
  have e : strs (ss.map bl) = ss.map Value.string := by
    unfold strs
    rw [List.map_map]
    exact List.map_congr_left fun s _ => bl_str s
  rw [e]
  exact h1
/-- The strings that count: at most 60, each cut to 40 bytes. -/
def cutK (l : List K) : List K := (l.take 60).map (·.take 40)
theorem cutK_len (l : List K) : (cutK l).length = min 60 l.length := by simp [cutK]
theorem cutK_get (l : List K) (i : Nat) (x : K) (hi : i < 60) (h : l[i]? = some x) : (cutK l).getD i [] = x.take 40 := by
  simp [cutK, List.getD_eq_getElem?_getD, List.getElem?_map, hi, h]
theorem stE_le (ks : List K) (i : Nat) : i ≤ 1000000 → (stE ks i).length ≤ i := fun h => by have := stE_len ks i h; omega
set_option maxRecDepth 100000 in
set_option maxHeartbeats 4000000 in
theorem filled_any (A : Option Addr) (n c : Nat) (l : List K) (w : World) (h : Rd w 1 A n (strs l)) (hn : n ≤ 9223372036854775807) :
    Calls Try.prog 21 #[.slice A n c] w fun e w' => e = .returned (.tuple #[.pointer (some ⟨w.heap.size, 0, none⟩), .int .i64 (stA (cutK l) (cutK l).length : Int)]) ∧ ∃ ks us, Own w w' w.heap.size ks us (stE (cutK l) (cutK l).length) := by
  have hl : l.length = n := by have := h.1; simpa [strs] using this
  obtain ⟨m, hm⟩ : ∃ m, (cutK l).length = m := ⟨_, rfl⟩
  have hmn : m = min 60 n := by rw [← hm, cutK_len, hl]
  rw [hm]
  have HL := Lib.hid hl
  have HM := Lib.hid hmn
  have hm1 : m ≤ 60 := by omega
  have hm2 : m ≤ n := by omega
  clear hl hm hmn
  go_enter Try.func21, Try.ntmps21
  go_wp2_with (go_at_call 9; refine (new_any w).mono ?_; rintro e w1 ⟨rfl, rfl⟩)
  go_loopw [5, 6] (fun v i wr => ∃ k : Nat, k ≤ m ∧ i = .int .i64 k ∧ v = .int .i64 (stA (cutK l) k : Int) ∧ Hid (∃ ks us, Own w wr w.heap.size ks us (stE (cutK l) k))) (fun _ i _ => m - (intOf i).toNat)
  case atStart => exact ⟨0, by omega, rfl, rfl, ⟨_, _, Own.mk_ w⟩⟩
  case round =>
    obtain ⟨k, hk, rfl, rfl, ho⟩ := hrel
    have hle := stE_len (cutK l) k (by omega)
    by_cases hlt : k < m
    · obtain ⟨x, hx⟩ : ∃ x, l[k]? = some x := ⟨_, List.getElem?_eq_getElem (by have := HL.out; omega)⟩
      obtain ⟨ks, us, hO⟩ := ho.out
      obtain ⟨b, o, rfl, _, hc⟩ := (h.below hO.bel).2 (by omega)
      have g1 := hc k (str x) (by simp [strs, hx])
      unfold str at g1
      have hkx := cutK_get l k x (by omega) hx
      have hst : stE (cutK l) (k + 1) = putE (stE (cutK l) k) (x.take 40) k := by rw [← hkx]; rfl
      have hsa : stA (cutK l) (k + 1) = stA (cutK l) k + if putN (stE (cutK l) k) (x.take 40) k = 71 then 1 else 0 := by rw [← hkx]; rfl
      have h60 : (k : Int) < 60 := by omega
      have hkn : (k : Int) < (n : Int) := by omega
      have hput := put_own hO (x.take 40) k (by omega) rfl rfl
      obtain ⟨N, hN⟩ : ∃ N, putN (stE (cutK l) k) (x.take 40) k = N := ⟨_, rfl⟩
      have hN2 : N = 0 ∨ N = 71 := by
        rw [← hN]
        unfold putN
        rw [if_neg (nat_ok k (by omega))]
        split
        · exact Or.inr rfl
        · exact Or.inl rfl
      rw [hN] at hsa
      rw [← hst] at hput
      rw [hN] at hput
      have hput2 := Lib.hid hput
      clear hput
      have HO := Lib.hid hO
      have HA := Lib.hid hsa
      clear hc hx hkx hst hsa hN hO
      have hs := fun (w2 : World) => short_any x 40 w2
      have HS := Lib.hid hs
      clear hs
      rcases hN2 with rfl | rfl
      · go_wp2_with (first
          | (go_at_call 11; refine (HS.out _).mono ?_; rintro e w2 ⟨rfl, rfl⟩)
          | (go_at_call 14; refine hput2.out.mono ?_; rintro e w2 ⟨rfl, hO2⟩; have HO2 := Lib.hid hO2; clear hO2))
        go_roundw
        case rel => exact ⟨k + 1, by omega, by go_num, by rw [HA.out]; rfl, by obtain ⟨ks, us, hh⟩ := HO2.out; exact ⟨ks, us, hh⟩⟩
        case measure => simp [intOf]; omega
      · go_wp2_with (first
          | (go_at_call 11; refine (HS.out _).mono ?_; rintro e w2 ⟨rfl, rfl⟩)
          | (go_at_call 14; refine hput2.out.mono ?_; rintro e w2 ⟨rfl, hO2⟩; have HO2 := Lib.hid hO2; clear hO2))
        go_roundw
        case rel => exact ⟨k + 1, by omega, by go_num, by rw [HA.out]; go_num, by obtain ⟨ks, us, hh⟩ := HO2.out; exact ⟨ks, us, hh⟩⟩
        case measure => simp [intOf]; omega
    · obtain rfl : k = m := by omega
      obtain ⟨ks, us, hO⟩ := ho.out
      have HO := Lib.hid hO
      clear hO
      by_cases h60 : k < n
      · have h61 : ¬ (k : Int) < 60 := by have := HM.out; omega
        have h62 : (k : Int) < (n : Int) := by omega
        go_wp2
        go_ret2
        exact ⟨rfl, ks, us, HO.out⟩
      · have h62 : ¬ (k : Int) < (n : Int) := by omega
        go_wp2
        go_ret2
        exact ⟨rfl, ks, us, HO.out⟩
end Go.Proofs.Ytdomplhhjkikmaa
