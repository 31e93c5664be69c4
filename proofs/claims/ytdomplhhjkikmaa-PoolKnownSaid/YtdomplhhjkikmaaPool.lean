import Derived.Test.YtdomplhhjkikmaaPure
import Derived.Test.YtdomplhhjkikmaaQuiet
import Derived.Test.YtdomplhhjkikmaaMem2
import Derived.Test.YtdomplhhjkikmaaProg
import Derived.Deep.DeepCutAuto
/- The pool in memory, and what its reading methods answer. -/
namespace Go.Proofs.Ytdomplhhjkikmaa
open Go.RowKit
def str (k : List UInt8) : Value := .string ⟨k.toArray⟩
def strs (l : List (List UInt8)) : List Value := l.map str
def nums (l : List Int) : List Value := l.map (Value.int .i64)
structure PoolAt (w : World) (g : Nat) (ks us : Value) (E : List Ent) : Prop where
  blk : w.heap[g]? = some (.cells #[ks, us, .bool true] 56 (0, 0))
  kown : w.ownsRow 0 9 1 ks E.length (strs (keys E))
  aown : w.ownsRow 0 3 1 us E.length (nums (E.map (·.2)))
  kne : ks.ownBlock ≠ some g
  ane : us.ownBlock ≠ some g
  kane : ∀ b, ks.ownBlock = some b → us.ownBlock ≠ some b
/-- The blocks of a pool. -/
def foot (g : Nat) (ks us : Value) (b : Nat) : Prop := b = g ∨ ks.ownBlock = some b ∨ us.ownBlock = some b
/-- What a call that may write into the blocks F leaves. -/
structure Kept (F : Nat → Prop) (w w' : World) : Prop where
  os : w'.os = w.os
  tape : w'.tape = w.tape
  output : w'.output = w.output
  size : w.heap.size ≤ w'.heap.size
  block : ∀ j, j < w.heap.size → ¬ F j → w'.heap[j]? = w.heap[j]?
theorem Kept.of_below {F : Nat → Prop} {w w' : World} (h : Below w.heap.size w w') : Kept F w w' := ⟨h.os, h.tape, h.output, h.size, fun j hj _ => h.block j hj⟩
theorem Kept.trans {F G : Nat → Prop} {w w1 w2 : World} (h1 : Kept F w w1) (h2 : Kept G w1 w2) (hG : ∀ j, j < w.heap.size → G j → F j) : Kept F w w2 :=
  ⟨h2.os.trans h1.os, h2.tape.trans h1.tape, h2.output.trans h1.output, Nat.le_trans h1.size h2.size, fun j hj hF => (h2.block j (Nat.lt_of_lt_of_le hj h1.size) (fun hg => hF (hG j hj hg))).trans (h1.block j hj hF)⟩
theorem Kept.below {F : Nat → Prop} {B : Nat} {w w' : World} (h : Kept F w w') (hB : B ≤ w.heap.size) (hF : ∀ j, j < B → ¬ F j) : Below B w w' :=
  ⟨h.os, h.tape, h.output, h.size, fun j hj => h.block j (Nat.lt_of_lt_of_le hj hB) (hF j hj)⟩
theorem block_lt {w : World} {b : Nat} {o : Obj} (h : w.heap[b]? = some o) : b < w.heap.size := by
  rcases Nat.lt_or_ge b w.heap.size with h' | h'
  · exact h'
  · rw [Array.getElem?_eq_none h'] at h; cases h
theorem PoolAt.g_lt {w : World} {g : Nat} {ks us : Value} {E : List Ent} (h : PoolAt w g ks us E) : g < w.heap.size := block_lt h.blk
theorem own_lt {w : World} {base : Nat} {e : TypeId} {sz n : Nat} {v : Value} {xs : List Value} (h : w.ownsRow base e sz v n xs) {b : Nat} (hb : v.ownBlock = some b) : b < w.heap.size := (h.lt b hb).2
theorem PoolAt.foot_lt {w : World} {g : Nat} {ks us : Value} {E : List Ent} (h : PoolAt w g ks us E) {b : Nat} (hb : foot g ks us b) : b < w.heap.size := by
  rcases hb with rfl | hb | hb
  · exact h.g_lt
  · exact own_lt h.kown hb
  · exact own_lt h.aown hb
/-- A row is kept by whatever leaves its block alone. -/
theorem own_kept {F : Nat → Prop} {w w' : World} {base : Nat} {e : TypeId} {sz n : Nat} {v : Value} {xs : List Value} (h : w.ownsRow base e sz v n xs) (hk : Kept F w w') (hF : ∀ b, v.ownBlock = some b → ¬ F b) : w'.ownsRow base e sz v n xs := by
  refine ⟨h.1, ?_⟩
  rcases h.2 with h0 | ⟨g, cap, cur, rfl, hg, hh, h1, h2, h3, h4⟩
  · exact Or.inl h0
  · exact Or.inr ⟨g, cap, cur, rfl, hg, (hk.block g (block_lt hh) (hF g rfl)).trans hh, h1, h2, h3, h4⟩
theorem PoolAt.kept {F : Nat → Prop} {w w' : World} {g : Nat} {ks us : Value} {E : List Ent} (h : PoolAt w g ks us E) (hk : Kept F w w') (hF : ∀ b, foot g ks us b → ¬ F b) : PoolAt w' g ks us E :=
  ⟨(hk.block g h.g_lt (hF g (Or.inl rfl))).trans h.blk, own_kept h.kown hk (fun b hb => hF b (Or.inr (Or.inl hb))), own_kept h.aown hk (fun b hb => hF b (Or.inr (Or.inr hb))), h.kne, h.ane, h.kane⟩
theorem PoolAt.below {w w' : World} {g : Nat} {ks us : Value} {E : List Ent} (h : PoolAt w g ks us E) (hb : Below w.heap.size w w') : PoolAt w' g ks us E :=
  h.kept (F := fun _ => False) (Kept.of_below hb) (fun _ _ hf => hf)
theorem PoolAt.drewN {w : World} {g : Nat} {ks us : Value} {E : List Ent} (h : PoolAt w g ks us E) (n : Nat) : PoolAt (w.drewN n) g ks us E := h.below (below_drewN (Below.refl _ _) n)
theorem PoolAt.c0 {w : World} {g : Nat} {ks us : Value} {E : List Ent} (h : PoolAt w g ks us E) : w.cell? ⟨g, 0, none⟩ = some ks := by rw [cell_of_row w g 0 _ _ _ h.blk]; rfl
theorem PoolAt.c1 {w : World} {g : Nat} {ks us : Value} {E : List Ent} (h : PoolAt w g ks us E) : w.cell? ⟨g, 1, none⟩ = some us := by rw [cell_of_row w g 1 _ _ _ h.blk]; rfl
theorem PoolAt.c2 {w : World} {g : Nat} {ks us : Value} {E : List Ent} (h : PoolAt w g ks us E) : w.cell? ⟨g, 2, none⟩ = some (.bool true) := by rw [cell_of_row w g 2 _ _ _ h.blk]; rfl
theorem less_any (a b : List UInt8) (w : World) : Calls Try.prog 25 #[.string ⟨a.toArray⟩, .string ⟨b.toArray⟩] w fun e w' => e = .returned (.bool (lt a b)) ∧ w = w' := by
  go_enter Try.func25, Try.ntmps25
  go_wp2
  go_ret
  exact ⟨rfl, rfl⟩
theorem none_any (w : World) (g : Nat) (hc : w.cell? ⟨g, 2, none⟩ = some (.bool true)) : Calls Try.prog 26 #[.pointer (some ⟨g, 0, none⟩)] w fun e w' => e = .returned (.bool false) ∧ w = w' := by
  go_enter Try.func26, Try.ntmps26
  go_wp2
  go_ret
  exact ⟨rfl, rfl⟩
theorem new_any (w : World) : Calls Try.prog 9 #[] w fun e w' => e = .returned (.pointer (some ⟨w.heap.size, 0, none⟩)) ∧ w' = w.alloc (.cells #[.slice none 0 0, .slice none 0 0, .bool true] 56) := by
  go_enter Try.func9, Try.ntmps9
  go_wp2
  go_ret
  exact ⟨rfl, rfl⟩
theorem PoolAt.new (w : World) : PoolAt (w.alloc (.cells #[.slice none 0 0, .slice none 0 0, .bool true] 56)) w.heap.size (.slice none 0 0) (.slice none 0 0) [] :=
  ⟨heap_alloc_last _ _, World.ownsRow_nil _ _ _ _, World.ownsRow_nil _ _ _ _, by simp [Value.ownBlock], by simp [Value.ownBlock], by simp [Value.ownBlock]⟩
theorem drew_more {w w1 : World} (h : ∃ n, w1 = w.drewN n) (m : Nat) : ∃ n, w1.drewN m = w.drewN n := by
  obtain ⟨n, rfl⟩ := h
  exact ⟨n + m, World.drewN_drewN _ _ _⟩
theorem below_of_drew {w w1 : World} (h : ∃ n, w1 = w.drewN n) : Below w.heap.size w w1 := by
  obtain ⟨n, rfl⟩ := h
  exact below_drewN (Below.refl _ _) n
set_option maxRecDepth 100000 in
set_option maxHeartbeats 4000000 in
theorem place_any (g : Nat) (ks us : Value) (E : List Ent) (k : List UInt8) (w : World) (h : PoolAt w g ks us E) (hs : Srt E) (hn : E.length ≤ 1000000) :
    Calls Try.prog 27 #[.pointer (some ⟨g, 0, none⟩), .string ⟨k.toArray⟩] w fun e w' => e = .returned (.tuple #[.int .i64 (pos E k : Int), .bool (has E k)]) ∧ ∃ n, w' = w.drewN n := by
  have c0 := h.c0
  obtain ⟨A, c, rfl, hc1, hc2⟩ := own_shape h.kown
  have hR := Rd.of_own h.kown
  go_enter Try.func27, Try.ntmps27
  go_wp2
  go_quiet (fail)
  obtain ⟨w1, hw1⟩ : ∃ w1, w1 = w.drewN nq := ⟨_, rfl⟩
  have H1 := Lib.hid (show ∃ n, w1 = w.drewN n from ⟨nq, hw1⟩)
  have c01 : w1.cell? ⟨g, 0, none⟩ = some (.slice A E.length c) := by rw [hw1]; exact c0
  have hR1 : Rd w1 1 A E.length (strs (keys E)) := by rw [hw1]; exact hR.drewN nq
  rw [← hw1]
  clear hw1 c0 hR h
  go_wp2
  go_loop [6, 7] (fun lo hi => ∃ x y : Nat, x ≤ y ∧ y ≤ E.length ∧ lo = .int .i64 x ∧ hi = .int .i64 y ∧ Hid (∀ j e, E[j]? = some e → (j < x → lt e.1 k = true) ∧ (y ≤ j → lt e.1 k = false))) (fun lo hi => (intOf hi - intOf lo).toNat)
  case atStart => exact ⟨0, E.length, by omega, by omega, rfl, rfl, fun j e he => ⟨fun hj => by omega, fun hj => by have := (List.getElem?_eq_some_iff.1 he).1; omega⟩⟩
  case round =>
    obtain ⟨x, y, hxy, hy, rfl, rfl, hj⟩ := hrel
    by_cases hlt : x < y
    · obtain ⟨m, hm⟩ : ∃ m, x + (y - x) / 2 = m := ⟨_, rfl⟩
      have hmi : (x : Int) + ((y : Int) - (x : Int)) / 2 = (m : Int) := by omega
      have hm1 : x ≤ m := by omega
      have hm2 : m < y := by omega
      obtain ⟨e, he⟩ : ∃ e, E[m]? = some e := ⟨_, List.getElem?_eq_getElem (by omega)⟩
      obtain ⟨b, o, rfl, hbl, hcell⟩ := hR1.2 (by omega)
      have g1 := hcell m (str e.1) (by simp [strs, keys, he])
      unfold str at g1
      have HE := Lib.hid he
      clear hcell he hm
      cases hl : lt e.1 k with
      | false =>
        have HL := Lib.hid hl
        clear hl
        go_wp2_with (go_at_call 25; refine (less_any _ _ _).mono ?_; rintro e1 w2 ⟨rfl, rfl⟩; rw [HL.out])
        go_round
        case rel => exact ⟨x, m, by omega, by omega, rfl, rfl, fun j e' he' => ⟨fun hh => (hj.out j e' he').1 hh, fun hh => by
          rcases Nat.lt_or_ge m j with hmj | hmj
          · cases hc : lt e'.1 k
            · rfl
            · have := lt_trans _ _ _ (srt_get hs HE.out he' hmj) hc
              rw [HL.out] at this; cases this
          · obtain rfl : j = m := by omega
            have := HE.out.symm.trans he'
            injection this with this
            subst this
            exact HL.out⟩⟩
        case measure => simp [intOf]; omega
      | true =>
        have HL := Lib.hid hl
        clear hl
        go_wp2_with (go_at_call 25; refine (less_any _ _ _).mono ?_; rintro e1 w2 ⟨rfl, rfl⟩; rw [HL.out])
        go_round
        case rel => exact ⟨m + 1, y, by omega, by omega, by go_num, rfl, fun j e' he' => ⟨fun hh => by
          rcases Nat.lt_or_ge j m with hmj | hmj
          · exact lt_trans _ _ _ (srt_get hs he' HE.out hmj) HL.out
          · obtain rfl : j = m := by omega
            have := HE.out.symm.trans he'
            injection this with this
            subst this
            exact HL.out, fun hh => (hj.out j e' he').2 (by omega)⟩⟩
        case measure => simp [intOf]; omega
    · obtain rfl : x = y := by omega
      have hp := pos_of E k x hy hj.out
      have hh := has_at E k hs
      rw [hp] at hh
      by_cases hxl : x < E.length
      · obtain ⟨e, he⟩ : ∃ e, E[x]? = some e := ⟨_, List.getElem?_eq_getElem hxl⟩
        obtain ⟨b, o, rfl, hbl, hcell⟩ := hR1.2 (by omega)
        have g1 := hcell x (str e.1) (by simp [strs, keys, he])
        unfold str at g1
        rw [he] at hh
        have HH := Lib.hid hh
        have HP := Lib.hid hp
        have hxl1 : decide (x < E.length) = true := by simpa using hxl
        clear hcell he hh hp
        go_wp2
        go_quiet (fail)
        go_wp2
        go_ret2
        exact ⟨by rw [HP.out, HH.out]; rfl, drew_more H1.out nq⟩
      · have hn0 : E[x]? = none := List.getElem?_eq_none (by omega)
        rw [hn0] at hh
        have HH := Lib.hid hh
        have HP := Lib.hid hp
        have hxl1 : decide (x < E.length) = false := by simpa using hxl
        clear hh hp
        go_wp2
        go_quiet (fail)
        go_wp2
        go_ret2
        exact ⟨by rw [HP.out, HH.out]; rfl, drew_more H1.out nq⟩
set_option maxRecDepth 100000 in
set_option maxHeartbeats 4000000 in
theorem get_any (g : Nat) (ks us : Value) (E : List Ent) (k : List UInt8) (w : World) (h : PoolAt w g ks us E) (hs : Srt E) (hn : E.length ≤ 1000000) :
    Calls Try.prog 12 #[.pointer (some ⟨g, 0, none⟩), .string ⟨k.toArray⟩] w fun e w' => e = .returned (.tuple #[.int .i64 (if has E k = true then val E k else 0), .bool (has E k)]) ∧ Below w.heap.size w w' := by
  have c2 := h.c2
  have hp := Lib.hid (place_any g ks us E k w h hs hn)
  cases hh : has E k with
  | false =>
    rw [hh] at hp
    clear h hs hn hh
    go_enter Try.func12, Try.ntmps12
    go_wp2_with (first
      | (go_at_call 26; refine (none_any _ _ c2).mono ?_; rintro e w1 ⟨rfl, rfl⟩)
      | (go_at_call 27; refine hp.out.mono ?_; rintro e w1 ⟨rfl, hw⟩; have hb := below_of_drew hw))
    go_ret2
    exact ⟨rfl, hb⟩
  | true =>
    obtain ⟨e, he, hek, hv⟩ := val_at E k hs hh
    rw [hh] at hp
    obtain ⟨p, hpe⟩ : ∃ p, pos E k = p := ⟨_, rfl⟩
    rw [hpe] at hp he
    have hpl : p < E.length := (List.getElem?_eq_some_iff.1 he).1
    have c1 := h.c1
    obtain ⟨A, c, rfl, hc1, hc2⟩ := own_shape h.aown
    obtain ⟨b, o, rfl, hbl, hcell⟩ := (Rd.of_own h.aown).2 (by omega)
    have g1 := hcell p (.int .i64 e.2) (by simp [nums, he])
    have HV := Lib.hid hv
    obtain ⟨z, hz⟩ : ∃ z, e.2 = z := ⟨_, rfl⟩
    rw [hz] at g1 HV
    have hgl := h.g_lt
    clear hcell he hs hn hh hv hpe hek h hz
    go_enter Try.func12, Try.ntmps12
    go_wp2_with (first
      | (go_at_call 26; refine (none_any _ _ c2).mono ?_; rintro e w1 ⟨rfl, rfl⟩)
      | (go_at_call 27; refine hp.out.mono ?_; rintro e w1 ⟨rfl, n, rfl⟩; have hb := below_drewN (Below.refl w.heap.size w) n))
    go_ret2
    exact ⟨by rw [HV.out]; rfl, hb⟩
theorem len_any (g : Nat) (ks us : Value) (E : List Ent) (w : World) (h : PoolAt w g ks us E) :
    Calls Try.prog 17 #[.pointer (some ⟨g, 0, none⟩)] w fun e w' => e = .returned (.int .i64 (E.length : Int)) ∧ w = w' := by
  have c2 := h.c2
  have c0 := h.c0
  obtain ⟨A, c, rfl, hc1, hc2⟩ := own_shape h.kown
  clear h
  go_enter Try.func17, Try.ntmps17
  go_wp2_with (go_at_call 26; refine (none_any _ _ c2).mono ?_; rintro e w1 ⟨rfl, rfl⟩)
  go_ret
  exact ⟨rfl, rfl⟩
theorem gets_any (g : Nat) (ks us : Value) (E : List Ent) (k : List UInt8) (a : Int) (b : Bool) (w : World) (h : PoolAt w g ks us E) (hs : Srt E) (hn : E.length ≤ 1000000) (hb : has E k = b) (ha : (if has E k = true then val E k else 0) = a) :
    Calls Try.prog 22 #[.pointer (some ⟨g, 0, none⟩), .string ⟨k.toArray⟩, .int .i64 a, .bool b] w fun e w' => e = .returned (.bool true) ∧ Below w.heap.size w w' := by
  have hp := Lib.hid (get_any g ks us E k w h hs hn)
  rw [ha, hb] at hp
  clear h hs hn ha hb
  go_enter Try.func22, Try.ntmps22
  go_wp2_with (go_at_call 12; refine hp.out.mono ?_; rintro e w1 ⟨rfl, hb⟩)
  all_goals
    go_ret
    exact ⟨by simp, hb⟩
end Go.Proofs.Ytdomplhhjkikmaa
