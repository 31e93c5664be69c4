import Derived.Test.YtcoboifdmpeelaaCut
namespace Go.Proofs.Ytcoboifdmpeelaa
open Go.RowKit
theorem alpha_at (k : Nat) (h : k < 64) : (⟨#[65, 66, 67, 68, 69, 70, 71, 72, 73, 74, 75, 76, 77, 78, 79, 80, 81, 82, 83, 84, 85, 86, 87, 88, 89, 90, 97, 98, 99, 100, 101, 102, 103, 104, 105, 106, 107, 108, 109, 110, 111, 112, 113, 114, 115, 116, 117, 118, 119, 120, 121, 122, 48, 49, 50, 51, 52, 53, 54, 55, 56, 57, 43, 47]⟩ : ByteArray)[k]'h = dg k := by
  have : ∀ k : Fin 64, (⟨#[65, 66, 67, 68, 69, 70, 71, 72, 73, 74, 75, 76, 77, 78, 79, 80, 81, 82, 83, 84, 85, 86, 87, 88, 89, 90, 97, 98, 99, 100, 101, 102, 103, 104, 105, 106, 107, 108, 109, 110, 111, 112, 113, 114, 115, 116, 117, 118, 119, 120, 121, 122, 48, 49, 50, 51, 52, 53, 54, 55, 56, 57, 43, 47]⟩ : ByteArray)[k.val]'k.isLt = dg k.val := by decide +kernel
  exact this ⟨k, h⟩
theorem nb_ge (c : UInt8) : -1 ≤ nb c := Lib.indexByte_ge _ _
theorem nb_none (c : UInt8) (h : ∀ k, k < 64 → dg k ≠ c) : nb c = -1 := by
  have hge := nb_ge c
  by_cases h0 : 0 ≤ nb c
  · exact absurd (dg_nb c h0) (h _ (by have := nb_lt c; omega))
  · omega
set_option maxRecDepth 100000 in
set_option maxHeartbeats 4000000 in
theorem number_any (c : UInt8) (w : World) : Calls Try.prog 34 #[.int .u8 (c.toNat : Int)] w fun e w' => e = .returned (.int .i64 (nb c)) ∧ w = w' := by
  have bc := c.toNat_lt
  obtain ⟨x, hx⟩ : ∃ x : Nat, c.toNat = x := ⟨_, rfl⟩
  rw [hx] at bc ⊢
  have HX := Lib.hid hx
  clear hx
  go_enter Try.func34, Try.ntmps34
  go_wp2
  go_loop [3] (fun i => ∃ k : Nat, k ≤ 64 ∧ i = .int .i64 k ∧ Hid (∀ j, j < k → dg j ≠ c)) (fun i => 64 - (intOf i).toNat)
  case atStart => exact ⟨0, by omega, rfl, fun j hj => absurd hj (by omega)⟩
  case round =>
    obtain ⟨k, hk, rfl, hne⟩ := hrel
    by_cases hlt : k < 64
    · have ha := alpha_at k hlt
      by_cases hd : dg k = c
      · have ht : (((dg k).toNat : Int) == (x : Int)) = true := by rw [hd, HX.out]; simp
        have hv := Lib.hid (show nb c = (k : Int) by rw [← hd]; exact nb_dg k hlt)
        clear hd
        go_wp2
        go_ret
        exact ⟨ret_i64 hv.out.symm, rfl⟩
      · have ht : (((dg k).toNat : Int) == (x : Int)) = false := by
          simp only [beq_eq_false_iff_ne, ne_eq]
          intro hh
          exact hd (UInt8.toNat_inj.1 (by rw [HX.out]; omega))
        go_wp2
        go_round
        case rel => exact ⟨k + 1, by omega, by go_num, fun j hj => by rcases Nat.lt_or_ge j k with h | h; exact hne.out j h; (obtain rfl : j = k := by omega); exact hd⟩
        case measure => simp [intOf]; omega
    · obtain rfl : k = 64 := by omega
      have hv := Lib.hid (nb_none c hne.out)
      go_wp2
      go_ret
      exact ⟨ret_i64 hv.out.symm, rfl⟩
/-- What the reference's group has read: k bytes of s, whose number is N. -/
def GS (s : List UInt8) (k N : Nat) : Prop :=
  (k ≤ 2 ∧ N < 64 ^ k ∧ ∀ r, decS 0 0 0 (s ++ r) = Res.up k [] (decS N k 0 (s.drop k ++ r)))
  ∨ (k = 3 ∧ N < 262144 ∧ (∃ c, s[2]? = some c ∧ c ≠ 61) ∧ ∀ r, decS 0 0 0 (s ++ r) = Res.up 3 [] (decS N 3 0 (s.drop 3 ++ r)))
  ∨ (k = 3 ∧ N < 4096 ∧ s[2]? = some 61 ∧ ∀ r, decS 0 0 0 (s ++ r) = Res.up 3 [] (decS N 2 1 (s.drop 3 ++ r)))
  ∨ (k = 4 ∧ N < 16777216 ∧ ∀ r, decS 0 0 0 (s ++ r) = Res.up 4 (bsOf N 0) (decS 0 0 0 r))
theorem drop_at {s : List UInt8} {k : Nat} {c : UInt8} (h : s[k]? = some c) (r : List UInt8) : s.drop k ++ r = c :: (s.drop (k + 1) ++ r) := by
  obtain ⟨hk, hc⟩ := List.getElem?_eq_some_iff.1 h
  rw [List.drop_eq_getElem_cons hk, hc]; rfl
theorem byte_at {s : List UInt8} {k : Nat} {c : UInt8} (h : s[k]? = some c) : ∃ hk : k < (ByteArray.mk s.toArray).size, (ByteArray.mk s.toArray)[k]'hk = c := by
  obtain ⟨hk, hc⟩ := List.getElem?_eq_some_iff.1 h
  exact ⟨by show k < s.toArray.size; simpa using hk, hc⟩
theorem st_dg {N d : Nat} {c : UInt8} {m : Nat} (h : nb c = (m : Int)) (hd : d < 3) (t : List UInt8) : decS N d 0 (c :: t) = Res.up 1 [] (decS (N * 64 + m) (d + 1) 0 t) := by
  have := decS_dg N d m t (by have := nb_lt c; omega) hd
  rwa [show dg m = c by have := dg_nb c (by omega); rwa [h] at this] at this
theorem st_dg4 {N : Nat} {c : UInt8} {m : Nat} (h : nb c = (m : Int)) (t : List UInt8) : decS N 3 0 (c :: t) = Res.up 1 (bsOf (N * 64 + m) 0) (decS 0 0 0 t) := by
  have := decS_dg4 N m t (by have := nb_lt c; omega)
  rwa [show dg m = c by have := dg_nb c (by omega); rwa [h] at this] at this
theorem st_bad {N d p : Nat} {c : UInt8} (h : ¬ (0 ≤ nb c ∧ p = 0)) (h2 : c ≠ 61 ∨ d < 2) (t : List UInt8) : decS N d p (c :: t) = .bad 0 := by
  rw [decS, tk, if_neg h, if_pos h2]
theorem st_bits {N d : Nat} {c : UInt8} (h : nb c = -1) (h2 : N % 2 ^ (2 * (4 - d)) ≠ 0) (t : List UInt8) : decS N d 0 (c :: t) = .bad 0 := by
  by_cases hx : c ≠ 61 ∨ d < 2
  · rw [decS, tk, if_neg (by omega), if_pos hx]
  · rw [decS, tk, if_neg (by omega), if_neg hx, if_pos ⟨rfl, h2⟩]
theorem st_pad {N : Nat} (h : N % 16 = 0) (t : List UInt8) : decS N 2 0 (61 :: t) = Res.up 1 [] (decS N 2 1 t) := by
  rw [decS, tk_pad N 2 0 (by omega) (fun _ => by simpa using h)]
  simp only
  rw [if_neg (by omega)]
theorem st_pad3 {N : Nat} (h : N % 4 = 0) (t : List UInt8) : decS N 3 0 (61 :: t) = if t = [] then .ok (bsOf N 1) else .bad 1 := by
  rw [decS, tk_pad N 3 0 (by omega) (fun _ => by simpa using h)]
  simp only
  rw [if_pos trivial, if_neg (by omega)]
theorem st_pad2 {N : Nat} (t : List UInt8) : decS N 2 1 (61 :: t) = if t = [] then .ok (bsOf N 2) else .bad 1 := by
  rw [decS, tk_pad N 2 1 (by omega) (fun hh => by omega)]
  simp only
  rw [if_pos trivial, if_neg (by omega)]
/-- The end of the reference's group. -/
def GrpOut (s : List UInt8) (e : Ending) (w' : World) : Prop :=
  (∃ j : Nat, j < 4 ∧ e = .returned (.tuple #[.slice none 0 0, .int .i64 (j : Int)]) ∧ ∀ r, (s.length = 4 ∨ r = []) → decS 0 0 0 (s ++ r) = .bad j)
  ∨ (∃ B bs, e = .returned (.tuple #[.slice B bs.length bs.length, .int .i64 4]) ∧ Rd w' 1 B bs.length (Lib.byteCells bs) ∧ s.length = 4 ∧ bs.length ≤ 3 ∧
      ((bs.length = 3 ∧ ∀ r, decS 0 0 0 (s ++ r) = Res.up 4 bs (decS 0 0 0 r)) ∨ (bs.length < 3 ∧ ∀ r, decS 0 0 0 (s ++ r) = if r = [] then .ok bs else .bad 4)))
theorem out_bad {s : List UInt8} {j d p N : Nat} {c : UInt8} {w : World} (hj : j < 4) (hc : s[j]? = some c) (h : ∀ r, decS 0 0 0 (s ++ r) = Res.up j [] (decS N d p (s.drop j ++ r))) (hb : ∀ t, decS N d p (c :: t) = .bad 0) :
    GrpOut s (.returned (.tuple #[.slice none 0 0, .int .i64 (j : Int)])) w := by
  refine Or.inl ⟨j, hj, rfl, fun r _ => ?_⟩
  rw [h, drop_at hc, hb]
  rfl
theorem up_nil_ok {j : Nat} {X : Res} {bs : List UInt8} (h : X = .ok bs) : Res.up j [] X = .ok bs := by rw [h]; rfl
/-- The end with a slice of the call's own. -/
theorem out_ok {s : List UInt8} {bs : List UInt8} {B : Option Addr} {w : World} {k : Nat} (hk : bs.length = k) (hR : Rd w 1 B k (Lib.byteCells bs)) (h4 : s.length = 4) (h3 : k ≤ 3)
    (h : (k = 3 ∧ ∀ r, decS 0 0 0 (s ++ r) = Res.up 4 bs (decS 0 0 0 r)) ∨ (k < 3 ∧ ∀ r, decS 0 0 0 (s ++ r) = if r = [] then .ok bs else .bad 4)) :
    GrpOut s (.returned (.tuple #[.slice B k k, .int .i64 4])) w := by
  subst hk
  exact Or.inr ⟨B, bs, rfl, hR, h4, h3, h⟩
theorem up3_if {t : List UInt8} {bs : List UInt8} : Res.up 3 [] (if t = [] then Res.ok bs else .bad 1) = if t = [] then .ok bs else .bad 4 := by
  split <;> rfl
theorem rdv (w : World) (xs : List Value) (bs : List UInt8) (h : Lib.byteCells bs = xs) : Rd (w.alloc (.cells xs.toArray 5)) 1 (some ⟨w.heap.size, 0, none⟩) bs.length (Lib.byteCells bs) := by
  have := rdL w xs 5
  rw [h]
  rw [← h] at this ⊢
  simpa [Lib.byteCells] using this
theorem bs_two (N : Nat) (h : N < 262144) : Lib.byteCells (bsOf N 1) = [.int .u8 ((N : Int) / 1024), .int .u8 ((N : Int) / 4 % 256)] := by
  simp only [bsOf, bs3, Nat.pow_one, List.take, Lib.byteCells, List.map, UInt8.toNat_ofNat']
  rw [show ((N * 64 / 65536 % 2 ^ 8 : Nat) : Int) = (N : Int) / 1024 by omega, show ((N * 64 / 256 % 2 ^ 8 : Nat) : Int) = (N : Int) / 4 % 256 by omega]
theorem bs_one (N : Nat) (h : N < 4096) : Lib.byteCells (bsOf N 2) = [.int .u8 ((N : Int) / 16)] := by
  simp only [bsOf, bs3, List.take, Lib.byteCells, List.map, UInt8.toNat_ofNat']
  rw [show ((N * 64 ^ 2 / 65536 % 2 ^ 8 : Nat) : Int) = (N : Int) / 16 by omega]
theorem bs_three (N : Nat) (h : N < 16777216) : Lib.byteCells (bsOf N 0) = [.int .u8 ((N : Int) / 65536), .int .u8 ((N : Int) / 256 % 256), .int .u8 ((N : Int) % 256)] := by
  simp only [bsOf, bs3, Nat.pow_zero, Nat.mul_one, List.take, Lib.byteCells, List.map, UInt8.toNat_ofNat']
  rw [show ((N / 65536 % 2 ^ 8 : Nat) : Int) = (N : Int) / 65536 by omega, show ((N / 256 % 2 ^ 8 : Nat) : Int) = (N : Int) / 256 % 256 by omega, show ((N % 2 ^ 8 : Nat) : Int) = (N : Int) % 256 by omega]
theorem gs_digit {s : List UInt8} {k N m : Nat} {c : UInt8} (h2 : k ≤ 2) (hN : N < 64 ^ k) (hc : s[k]? = some c) (hm : nb c = (m : Int)) (hg : ∀ r, decS 0 0 0 (s ++ r) = Res.up k [] (decS N k 0 (s.drop k ++ r))) : GS s (k + 1) (64 * N + m) := by
  have hm64 : m < 64 := by have := nb_lt c; omega
  have hne : c ≠ 61 := by rintro rfl; rw [nb61] at hm; omega
  have e : ∀ r, decS 0 0 0 (s ++ r) = Res.up (k + 1) [] (decS (64 * N + m) (k + 1) 0 (s.drop (k + 1) ++ r)) := fun r => by
    rw [hg, drop_at hc, st_dg hm (by omega), up_up, Nat.mul_comm]; rfl
  have : k = 0 ∨ k = 1 ∨ k = 2 := by omega
  rcases this with rfl | rfl | rfl
  · exact Or.inl ⟨by omega, by simp at hN; omega, e⟩
  · exact Or.inl ⟨by omega, by simp at hN; omega, e⟩
  · exact Or.inr (Or.inl ⟨rfl, by simp at hN; omega, ⟨c, hc, hne⟩, e⟩)
theorem gs_digit4 {s : List UInt8} {N m : Nat} {c : UInt8} (hN : N < 262144) (hs : s.length ≤ 4) (hc : s[3]? = some c) (hm : nb c = (m : Int)) (hg : ∀ r, decS 0 0 0 (s ++ r) = Res.up 3 [] (decS N 3 0 (s.drop 3 ++ r))) : GS s 4 (64 * N + m) := by
  have hm64 : m < 64 := by have := nb_lt c; omega
  refine Or.inr (Or.inr (Or.inr ⟨rfl, by omega, fun r => ?_⟩))
  rw [hg, drop_at hc, st_dg4 hm, up_up, Nat.mul_comm, List.drop_eq_nil_of_le (by omega)]; rfl
theorem gs_pad {s : List UInt8} {N : Nat} (hN : N < 4096) (hc : s[2]? = some 61) (hz : N % 16 = 0) (hg : ∀ r, decS 0 0 0 (s ++ r) = Res.up 2 [] (decS N 2 0 (s.drop 2 ++ r))) : GS s 3 N := by
  refine Or.inr (Or.inr (Or.inl ⟨rfl, hN, hc, fun r => ?_⟩))
  rw [hg, drop_at hc, st_pad hz, up_up]; rfl
theorem out_two {s : List UInt8} {N : Nat} {w : World} {B : Option Addr} (hs : s.length ≤ 4) (hc : s[3]? = some 61) (hz : N % 4 = 0) (hg : ∀ r, decS 0 0 0 (s ++ r) = Res.up 3 [] (decS N 3 0 (s.drop 3 ++ r))) (hR : Rd w 1 B 2 (Lib.byteCells (bsOf N 1))) :
    GrpOut s (.returned (.tuple #[.slice B 2 2, .int .i64 4])) w := by
  have h4 : 3 < s.length := (List.getElem?_eq_some_iff.1 hc).1
  refine out_ok (bs := bsOf N 1) (by simp [bsOf, bs3]) hR (by omega) (by omega) (Or.inr ⟨by omega, fun r => ?_⟩)
  rw [hg, drop_at hc, st_pad3 hz, up3_if, List.drop_eq_nil_of_le (by omega)]; rfl
theorem out_one {s : List UInt8} {N : Nat} {w : World} {B : Option Addr} (hs : s.length ≤ 4) (hc : s[3]? = some 61) (hg : ∀ r, decS 0 0 0 (s ++ r) = Res.up 3 [] (decS N 2 1 (s.drop 3 ++ r))) (hR : Rd w 1 B 1 (Lib.byteCells (bsOf N 2))) :
    GrpOut s (.returned (.tuple #[.slice B 1 1, .int .i64 4])) w := by
  have h4 : 3 < s.length := (List.getElem?_eq_some_iff.1 hc).1
  refine out_ok (bs := bsOf N 2) (by simp [bsOf, bs3]) hR (by omega) (by omega) (Or.inr ⟨by omega, fun r => ?_⟩)
  rw [hg, drop_at hc, st_pad2, up3_if, List.drop_eq_nil_of_le (by omega)]; rfl
theorem out_end {s : List UInt8} {N d p : Nat} {w : World} (h0 : 0 < d) (h4 : s.length < 4) (hg : ∀ r, decS 0 0 0 (s ++ r) = Res.up s.length [] (decS N d p (s.drop s.length ++ r))) :
    GrpOut s (.returned (.tuple #[.slice none 0 0, .int .i64 (s.length : Int)])) w := by
  refine Or.inl ⟨s.length, h4, rfl, fun r hr => ?_⟩
  obtain rfl : r = [] := by rcases hr with h | h; omega; exact h
  rw [hg, List.drop_length, List.append_nil, decS, if_pos h0]
  rfl
theorem out_three {s : List UInt8} {N : Nat} {w : World} {B : Option Addr} (hs : s.length = 4) (hg : ∀ r, decS 0 0 0 (s ++ r) = Res.up 4 (bsOf N 0) (decS 0 0 0 r)) (hR : Rd w 1 B 3 (Lib.byteCells (bsOf N 0))) :
    GrpOut s (.returned (.tuple #[.slice B 3 3, .int .i64 4])) w :=
  out_ok (bs := bsOf N 0) (by simp [bsOf, bs3]) hR hs (by omega) (Or.inl ⟨rfl, hg⟩)
theorem x_of {c : UInt8} {x : Nat} (h : c.toNat = x) : c = 61 ↔ x = 61 := by
  constructor
  · rintro rfl; rw [← h]; rfl
  · intro hh; exact UInt8.toNat_inj.1 (by rw [h, hh]; rfl)
set_option maxRecDepth 100000 in
set_option maxHeartbeats 16000000 in
theorem group_any (s : List UInt8) (w : World) (h0 : 0 < s.length) (hs : s.length ≤ 4) :
    Calls Try.prog 30 #[.string ⟨s.toArray⟩] w fun e w' => GrpOut s e w' ∧ Below w.heap.size w w' := by
  go_enter Try.func30, Try.ntmps30
  go_wp2
  go_loop [4, 5] (fun n i => ∃ k N : Nat, k ≤ s.length ∧ i = .int .i64 k ∧ n = .int .i64 N ∧ GS s k N) (fun _ i => 4 - (intOf i).toNat)
  case atStart => exact ⟨0, 0, by omega, rfl, rfl, Or.inl ⟨by omega, by simp, fun r => by simp only [List.drop_zero]; cases decS 0 0 0 (s ++ r) <;> simp [Res.up]⟩⟩
  case round =>
    obtain ⟨k, N, hk, rfl, rfl, hg⟩ := hrel
    by_cases hlt : k < s.length
    · obtain ⟨c, hc⟩ : ∃ c, s[k]? = some c := ⟨_, List.getElem?_eq_getElem hlt⟩
      obtain ⟨hkb, hcb⟩ := byte_at hc
      have bc := c.toNat_lt
      obtain ⟨x, hx⟩ : ∃ x : Nat, c.toNat = x := ⟨_, rfl⟩
      have hcx : ((ByteArray.mk s.toArray)[k]'hkb).toNat = x := by rw [hcb, hx]
      have hnum := number_any c
      have h61 := x_of hx
      rw [hx] at bc hnum
      have HN := Lib.hid hnum
      have HC := Lib.hid hc
      have hge := nb_ge c
      have hlt64 := nb_lt c
      clear hx hnum hcb hc
      rcases hg with ⟨h2, hN, hg⟩ | ⟨rfl, hN, ⟨c2, hc2, hne2⟩, hg⟩ | ⟨rfl, hN, hc2, hg⟩ | ⟨rfl, _⟩
      · have hk3 : (k : Int) < 3 := by omega
        have hNN : N < 4096 := Nat.lt_of_lt_of_le hN (Nat.pow_le_pow_right (n := 64) (by decide) h2)
        by_cases hd : 0 ≤ nb c
        · obtain ⟨m, hm⟩ : ∃ m : Nat, nb c = (m : Int) := ⟨(nb c).toNat, by omega⟩
          have hm64 : m < 64 := by omega
          have hm0 : (0 : Int) ≤ (m : Int) := by omega
          rw [hm] at HN
          have hst := gs_digit h2 hN HC.out hm hg
          clear hd hge hlt64 hm hg h61 hN
          go_wp2_with (go_at_call 34; refine (HN.out _).mono ?_; rintro e w' ⟨rfl, rfl⟩)
          go_round
          case rel => exact ⟨k + 1, 64 * N + m, by omega, by go_num, by go_num, hst⟩
          case measure => simp [intOf]; omega
        · have hm : nb c = -1 := by omega
          rw [hm] at HN
          have HM := Lib.hid hm
          by_cases hx61 : x = 61
          · have hc61 := h61.2 hx61
            subst hc61
            have hx1 : ((x : Int) != 61) = false := by simp; omega
            by_cases hk2 : k < 2
            · have hk2' : (k : Int) < 2 := by omega
              have hout := fun w1 : World => out_bad (w := w1) (by omega) HC.out hg (st_bad (p := 0) (N := N) (fun hh => hd hh.1) (Or.inr hk2))
              have HO := Lib.hid hout
              clear hm hd hge hlt64 hx61 h61 hN hg hout
              go_wp2_with (go_at_call 34; refine (HN.out _).mono ?_; rintro e w' ⟨rfl, rfl⟩)
              go_ret2
              exact ⟨HO.out _, Below.refl _ _⟩
            · obtain rfl : k = 2 := by omega
              by_cases hz : N % 16 = 0
              · have hz1 : ((N : Int) % 16 != 0) = false := by simp; omega
                have hst := gs_pad hNN HC.out hz hg
                clear hm hd hge hlt64 hx61 h61 hN hg hz
                go_wp2_with (go_at_call 34; refine (HN.out _).mono ?_; rintro e w' ⟨rfl, rfl⟩)
                go_round
                case rel => exact ⟨3, N, by omega, by go_num, rfl, hst⟩
                case measure => simp [intOf]
              · have hz1 : ((N : Int) % 16 != 0) = true := by simp; omega
                have hout := fun w1 : World => out_bad (w := w1) (by omega) HC.out hg (st_bits HM.out (by simpa using hz))
                have HO := Lib.hid hout
                clear hm hd hge hlt64 hx61 h61 hN hg hout hz
                go_wp2_with (go_at_call 34; refine (HN.out _).mono ?_; rintro e w' ⟨rfl, rfl⟩)
                go_ret2
                exact ⟨HO.out _, Below.refl _ _⟩
          · have hx1 : ((x : Int) != 61) = true := by simp; omega
            have hout := fun w1 : World => out_bad (w := w1) (by omega) HC.out hg (st_bad (p := 0) (N := N) (fun hh => hd hh.1) (Or.inl (fun hh => hx61 (h61.1 hh))))
            have HO := Lib.hid hout
            clear hm hd hge hlt64 hx61 h61 hN hg hout
            go_wp2_with (go_at_call 34; refine (HN.out _).mono ?_; rintro e w' ⟨rfl, rfl⟩)
            go_ret2
            exact ⟨HO.out _, Below.refl _ _⟩
      · obtain ⟨h2b, hc2b⟩ := byte_at hc2
        have hy : (((ByteArray.mk s.toArray)[2]'h2b).toNat : Int) != 61 := by
          rw [hc2b]
          simp only [bne_iff_ne, ne_eq]
          intro hh
          exact hne2 (UInt8.toNat_inj.1 (by rw [show (61 : UInt8).toNat = 61 from rfl]; omega))
        obtain ⟨y, hy2⟩ : ∃ y : Nat, ((ByteArray.mk s.toArray)[2]'h2b).toNat = y := ⟨_, rfl⟩
        rw [hy2] at hy
        clear hc2 hne2 hc2b
        by_cases hd : 0 ≤ nb c
        · obtain ⟨m, hm⟩ : ∃ m : Nat, nb c = (m : Int) := ⟨(nb c).toNat, by omega⟩
          have hm64 : m < 64 := by omega
          have hm0 : (0 : Int) ≤ (m : Int) := by omega
          rw [hm] at HN
          have hst := gs_digit4 hN hs HC.out hm hg
          clear hd hge hlt64 hm hg h61
          go_wp2_with (go_at_call 34; refine (HN.out _).mono ?_; rintro e w' ⟨rfl, rfl⟩)
          go_round
          case rel => exact ⟨4, 64 * N + m, by omega, by go_num, by go_num, hst⟩
          case measure => simp [intOf]
        · have hm : nb c = -1 := by omega
          rw [hm] at HN
          have HM := Lib.hid hm
          by_cases hx61 : x = 61
          · have hc61 := h61.2 hx61
            subst hc61
            have hx1 : ((x : Int) != 61) = false := by simp; omega
            by_cases hz : N % 4 = 0
            · have hz1 : ((N : Int) % 4 != 0) = false := by simp; omega
              have hout := fun (w1 : World) (B : Option Addr) => out_two (w := w1) (B := B) hs HC.out hz hg
              have HO := Lib.hid hout
              have HB := Lib.hid (bs_two N hN)
              clear hm hd hge hlt64 hx61 h61 hg hout hz
              go_wp2_with (go_at_call 34; refine (HN.out _).mono ?_; rintro e w' ⟨rfl, rfl⟩)
              go_ret2
              exact ⟨HO.out _ _ (by have := rdv w _ _ HB.out; exact this), (Below.refl _ _).alloc (Nat.le_refl _) _⟩
            · have hz1 : ((N : Int) % 4 != 0) = true := by simp; omega
              have hout := fun w1 : World => out_bad (w := w1) (by omega) HC.out hg (st_bits HM.out (by simpa using hz))
              have HO := Lib.hid hout
              clear hm hd hge hlt64 hx61 h61 hg hout hz
              go_wp2_with (go_at_call 34; refine (HN.out _).mono ?_; rintro e w' ⟨rfl, rfl⟩)
              go_ret2
              exact ⟨HO.out _, Below.refl _ _⟩
          · have hx1 : ((x : Int) != 61) = true := by simp; omega
            have hout := fun w1 : World => out_bad (w := w1) (by omega) HC.out hg (st_bad (p := 0) (N := N) (fun hh => hd hh.1) (Or.inl (fun hh => hx61 (h61.1 hh))))
            have HO := Lib.hid hout
            clear hm hd hge hlt64 hx61 h61 hg hout
            go_wp2_with (go_at_call 34; refine (HN.out _).mono ?_; rintro e w' ⟨rfl, rfl⟩)
            go_ret2
            exact ⟨HO.out _, Below.refl _ _⟩
      · obtain ⟨h2b, hc2b⟩ := byte_at hc2
        have hy2 : ((ByteArray.mk s.toArray)[2]'h2b).toNat = 61 := by rw [hc2b]; rfl
        clear hc2 hc2b
        by_cases hx61 : x = 61
        · have hc61 := h61.2 hx61
          subst hc61
          have hx1 : ((x : Int) != 61) = false := by simp; omega
          rw [nb61] at HN
          have hout := fun (w1 : World) (B : Option Addr) => out_one (w := w1) (B := B) hs HC.out hg
          have HO := Lib.hid hout
          have HB := Lib.hid (bs_one N hN)
          clear hge hlt64 hx61 h61 hg hout
          go_wp2_with (go_at_call 34; refine (HN.out _).mono ?_; rintro e w' ⟨rfl, rfl⟩)
          go_ret2
          exact ⟨HO.out _ _ (by have := rdv w _ _ HB.out; exact this), (Below.refl _ _).alloc (Nat.le_refl _) _⟩
        · have hx1 : ((x : Int) != 61) = true := by simp; omega
          have hout := fun w1 : World => out_bad (w := w1) (by omega) HC.out hg (st_bad (p := 1) (N := N) (fun hh => by omega) (Or.inl (fun hh => hx61 (h61.1 hh))))
          have HO := Lib.hid hout
          clear hx61 h61 hg hout
          obtain ⟨v, hv⟩ : ∃ v, nb c = v := ⟨_, rfl⟩
          rw [hv] at HN hge hlt64
          clear hv
          by_cases hv0 : 0 ≤ v
          all_goals
            go_wp2_with (go_at_call 34; refine (HN.out _).mono ?_; rintro e w' ⟨rfl, rfl⟩)
            go_ret2
            exact ⟨HO.out _, Below.refl _ _⟩
      · omega
    · obtain rfl : k = s.length := by omega
      by_cases h4 : s.length = 4
      · rcases hg with ⟨h2, _⟩ | ⟨h2, _⟩ | ⟨h2, _⟩ | ⟨_, hN, hg⟩
        · omega
        · omega
        · omega
        · have HB := Lib.hid (bs_three N hN)
          have HG := Lib.hid hg
          have h4' : ¬ ((s.length : Int) < 4) := by omega
          have H4 := Lib.hid h4
          clear hg h4
          go_wp2
          go_ret2
          exact ⟨out_three H4.out HG.out (by have := rdv w _ _ HB.out; exact this), (Below.refl _ _).alloc (Nat.le_refl _) _⟩
      · have h4' : (s.length : Int) < 4 := by omega
        have hout : ∀ w1, GrpOut s (.returned (.tuple #[.slice none 0 0, .int .i64 (s.length : Int)])) w1 := by
          intro w1
          rcases hg with ⟨h2, hN, hg⟩ | ⟨h2, hN, _, hg⟩ | ⟨h2, hN, _, hg⟩ | ⟨h2, _⟩
          · exact out_end h0 (by omega) hg
          · rw [← h2] at hg; exact out_end (d := s.length) h0 (by omega) hg
          · rw [← h2] at hg; exact out_end (d := 2) (by omega) (by omega) hg
          · omega
        have HO := Lib.hid hout
        clear hg hout
        go_wp2
        go_ret2
        exact ⟨HO.out _, Below.refl _ _⟩
end Go.Proofs.Ytcoboifdmpeelaa
