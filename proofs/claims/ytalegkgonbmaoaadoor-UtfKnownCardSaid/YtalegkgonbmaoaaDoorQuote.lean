import Derived.Test.YtalegkgonbmaoaaDoorBuildO
import Derived.BigQuiet
import Derived.Deep.QuietTactic
/- utf.Quote: what it answers. -/
set_option linter.unusedVariables false
set_option linter.unusedSimpArgs false
namespace Go.Proofs.YtalegkgonbmaoaaDoor
open Go.RowKit
def quoteL : Nat → List UInt8 → List UInt8
  | 0, _ => []
  | f + 1, l => if l = [] then [] else quoteOne (Lib.decodeL l).1 ++ quoteL f (l.drop (Lib.decodeL l).2)
def quoteD (l : List UInt8) : List UInt8 := quoteL l.length l
theorem quoteL_fuel : ∀ (n m : Nat) (l : List UInt8), l.length ≤ n → l.length ≤ m → quoteL n l = quoteL m l
  | 0, 0, _, _, _ => rfl
  | 0, m + 1, l, hn, _ => by
    have : l = [] := List.eq_nil_of_length_eq_zero (by omega)
    simp [quoteL, this]
  | n + 1, 0, l, _, hm => by
    have : l = [] := List.eq_nil_of_length_eq_zero (by omega)
    simp [quoteL, this]
  | n + 1, m + 1, l, hn, hm => by
    by_cases h : l = []
    · simp [quoteL, h]
    · have hw := Lib.decodeL_width l
      have hl : 0 < l.length := List.length_pos_iff.2 h
      simp only [quoteL, h, if_false]
      rw [quoteL_fuel n m (l.drop (Lib.decodeL l).2) (by rw [List.length_drop]; omega) (by rw [List.length_drop]; omega)]
theorem quoteD_nil : quoteD [] = [] := rfl
theorem quoteD_step (l : List UInt8) (h : l ≠ []) : quoteD l = quoteOne (Lib.decodeL l).1 ++ quoteD (l.drop (Lib.decodeL l).2) := by
  have hw := Lib.decodeL_width l
  have hl : 0 < l.length := List.length_pos_iff.2 h
  obtain ⟨n, hn⟩ : ∃ n, l.length = n + 1 := ⟨l.length - 1, by omega⟩
  unfold quoteD
  rw [hn]
  simp only [quoteL, h, if_false]
  rw [quoteL_fuel n _ (l.drop (Lib.decodeL l).2) (by rw [List.length_drop]; omega) (Nat.le_refl _)]
/-- What Quote answers. -/
def quoteA (l : List UInt8) : List UInt8 × Nat := if Lib.validD l then ([34] ++ quoteD l ++ [34], 0) else ([], 40)
theorem BIn.other {B b o : Nat} {T : TypeId} {cs : Array Value} {p v : Value} {bs : List Value} {w w' : World} {it : Nat} {s : ByteArray} {pos : Nat} (h : BIn B b o T cs p v bs w) (hit : w.heap[it]? = some (.stringIter s pos)) (hw : ∀ j, j ≠ it → w'.heap[j]? = w.heap[j]?) : BIn B b o T cs p v bs w' := by
  have hb : b ≠ it := by
    intro e; subst e
    have := h.blk; rw [hit] at this; cases this
  refine ⟨h.hB, (hw b hb).trans h.blk, h.c0, h.c1, h.hp, ⟨h.own.1, ?_⟩, h.hT⟩
  rcases h.own.2 with h0 | ⟨g, cap, cur, hv, hg, hh, r⟩
  · exact .inl h0
  · refine .inr ⟨g, cap, cur, hv, hg, ?_, r⟩
    have : g ≠ it := by intro e; subst e; rw [hit] at hh; cases hh
    exact (hw g this).trans hh
theorem iterAt_ne (w : World) (k : Nat) (s : ByteArray) (pos : Nat) : ∀ j, j ≠ k → (w.iterAt k s pos).heap[j]? = w.heap[j]? := by
  intro j hj
  simp [World.iterAt, Array.getElem?_setIfInBounds, Ne.symm hj]
theorem BIn.own_ne {B b o : Nat} {T : TypeId} {cs : Array Value} {p v : Value} {bs : List Value} {w : World} {it : Nat} {s : ByteArray} {pos : Nat} (h : BIn B b o T cs p v bs w) (hit : w.heap[it]? = some (.stringIter s pos)) : v.ownBlock ≠ some it ∧ it ≠ b := by
  constructor
  · intro e
    rcases h.own.2 with ⟨rfl, _⟩ | ⟨g, cap, cur, rfl, hg, hh, r⟩
    · simp [Value.ownBlock] at e
    · simp [Value.ownBlock] at e; subst e; rw [hit] at hh; cases hh
  · intro e; subst e
    have := h.blk; rw [hit] at this; cases this
theorem BIn.new55 (w : World) (B : Nat) (hB : B ≤ w.heap.size) : BIn B w.heap.size 0 55 #[.pointer none, .slice none 0 0] (.pointer none) (.slice none 0 0) [] (w.alloc (.cells #[.pointer none, .slice none 0 0] 55)) :=
  ⟨hB, heap_alloc_last _ _, rfl, rfl, .inl rfl, World.ownsRow_nil _ _ _ _, by decide⟩
theorem quoteOne_len (r : Nat) : (quoteOne r).length ≤ 6 := by
  have : (Lib.encodeRune (r : Int)).length ≤ 4 := by have := Lib.runeCells_le (r : Int); rw [Lib.runeCells_length] at this; exact this.2
  unfold quoteOne
  repeat' split
  all_goals first | (simp; done) | omega
/-- The state of Quote's loop at pos. -/
structure QAt (l : List UInt8) (w0 : World) (b it : Nat) (pos : Nat) (wr : World) : Prop where
  bld : ∃ (acc : List UInt8) (cs : Array Value) (p v : Value), BIn w0.heap.size b 0 55 cs p v (Lib.byteCells acc) wr ∧ cs.size = 2 ∧ acc ++ quoteD (l.drop pos) = [34] ++ quoteD l ∧ acc.length ≤ 6 * pos + 1
  iter : wr.heap[it]? = some (.stringIter ⟨l.toArray⟩ pos)
  below : Below w0.heap.size w0 wr
  itB : w0.heap.size ≤ it
  le : pos ≤ l.length
theorem hexd_fin : ∀ k : Fin 16, (⟨#[48, 49, 50, 51, 52, 53, 54, 55, 56, 57, 97, 98, 99, 100, 101, 102]⟩ : ByteArray).extract k.val (k.val + 1) = ⟨[hexd k.val].toArray⟩ := by decide +kernel
theorem idxS_fin : ∀ n : Fin 128, n.val = 34 ∨ n.val = 92 ∨ n.val = 8 ∨ n.val = 12 ∨ n.val = 10 ∨ n.val = 13 ∨ n.val = 9 ∨ n.val = 47 ∨ Lib.indexByte meantL (UInt8.ofNat n.val) = -1 := by decide +kernel
theorem block_lt' {w : World} {b : Nat} {o : Obj} (h : w.heap[b]? = some o) : b < w.heap.size := (Array.getElem?_eq_some_iff.1 h).1
theorem size2 {cs : Array Value} (h : cs.size = 2) (x y : Value) : ((cs.setIfInBounds 0 x).setIfInBounds (0 + 1) y).size = 2 := by simp [h]
/-- From the loop's head to the world behind strings.IndexRune. -/
theorem QAt.look {l : List UInt8} {w0 wr w1 : World} {b it pos K : Nat} {acc : List UInt8} {cs : Array Value} {p v : Value} (hI : BIn w0.heap.size b 0 55 cs p v (Lib.byteCells acc) wr) (hit : wr.heap[it]? = some (.stringIter ⟨l.toArray⟩ pos)) (hb : Below w0.heap.size w0 wr) (hB : w0.heap.size ≤ it)
    (hbx : Below (wr.iterAt it ⟨l.toArray⟩ (pos + K)).heap.size (wr.iterAt it ⟨l.toArray⟩ (pos + K)) w1) : BIn w0.heap.size b 0 55 cs p v (Lib.byteCells acc) w1 ∧ w1.heap[it]? = some (.stringIter ⟨l.toArray⟩ (pos + K)) ∧ Below w0.heap.size w0 w1 := by
  have h2 := hI.other (w' := wr.iterAt it ⟨l.toArray⟩ (pos + K)) hit (iterAt_ne wr it _ _)
  have i2 := Lib.iterAt_heap wr it ⟨l.toArray⟩ pos (pos + K) hit
  have b2 := Lib.below_iterAt hb (k := it) hB ⟨l.toArray⟩ (pos + K)
  exact ⟨h2.below hbx, (hbx.block it (block_lt' i2)).trans i2, b2.trans (hbx.mono b2.size)⟩
theorem QAt.next {l : List UInt8} {w0 w1 w2 : World} {b it pos R K : Nat} {acc : List UInt8} {cs cs2 : Array Value} {p v p2 v2 : Value} (hI1 : BIn w0.heap.size b 0 55 cs p v (Lib.byteCells acc) w1) (hi1 : w1.heap[it]? = some (.stringIter ⟨l.toArray⟩ (pos + K))) (hB1 : Below w0.heap.size w0 w1) (hB : w0.heap.size ≤ it)
    (hI2 : BIn w0.heap.size b 0 55 cs2 p2 v2 (Lib.byteCells acc ++ Lib.byteCells (quoteOne R)) w2) (hcs : cs2.size = 2) (hb2 : Below w0.heap.size w1 w2) (ho : Oth b v w1 w2) (hacc : acc ++ quoteD (l.drop pos) = [34] ++ quoteD l) (hlen : acc.length ≤ 6 * pos + 1) (hR : Lib.decodeL (l.drop pos) = (R, K)) (hp : pos < l.length) : QAt l w0 b it (pos + K) w2 := by
  have hne := hI1.own_ne hi1
  have hd : l.drop pos ≠ [] := by intro e; have := congrArg List.length e; simp at this; omega
  have hw := Lib.decodeL_width (l.drop pos)
  have hle := Lib.decodeL_le (l.drop pos) hd
  rw [hR] at hw hle
  simp only [List.length_drop] at hw hle
  have hq := quoteOne_len R
  refine ⟨⟨acc ++ quoteOne R, cs2, p2, v2, ?_, hcs, ?_, ?_⟩, (ho.2 it (block_lt' hi1) hne.2 hne.1).trans hi1, hB1.trans hb2, hB, by omega⟩
  · rw [show Lib.byteCells (acc ++ quoteOne R) = Lib.byteCells acc ++ Lib.byteCells (quoteOne R) by simp [Lib.byteCells]]; exact hI2
  · rw [← hacc, quoteD_step _ hd, hR, List.drop_drop, List.append_assoc]
  · rw [List.length_append]; omega
theorem QAt.bound {l : List UInt8} {w0 wr : World} {b it pos : Nat} (h : QAt l w0 b it pos wr) : wr.iterPos it = pos := by simp [World.iterPos, h.iter]
theorem and15_fin : ∀ n : Fin 128, bits .and .i32 ((n.val : Nat) : Int) 15 = ((n.val % 16 : Nat) : Int) := by decide +kernel
theorem and15 (R : Nat) (h : R < 128) : bits .and .i32 (R : Int) 15 = ((R % 16 : Nat) : Int) := and15_fin ⟨R, h⟩
set_option maxRecDepth 100000 in
set_option maxHeartbeats 2000000 in
theorem quote_any (l : List UInt8) (w : World) (hT : Lib.Utf8Tabs 0 1 w) (hl : l.length ≤ 1000000) :
    Calls Tryd.prog 13 #[.string ⟨l.toArray⟩] w fun e w' => e = .returned (.tuple #[.string ⟨(quoteA l).1.toArray⟩, .int .i64 ((quoteA l).2 : Int)]) ∧ Below w.heap.size w w' := by
  have hsz : (ByteArray.mk l.toArray).size = l.length := by show l.toArray.size = _; simp
  have cV := valid_any l w hT hl
  unfold quoteA
  cases hv : Lib.validD l with
  | false =>
    rw [hv] at cV
    go_enter Tryd.func13, Tryd.ntmps13
    go_wp2_with (go_at_call 24; refine cV.mono ?_; rintro e w1 ⟨rfl, hb⟩)
    go_ret2
    exact ⟨rfl, hb⟩
  | true =>
    rw [hv] at cV
    have cW := fun w1 (hb : Below w.heap.size w w1) => writeRune_any w.heap.size w1.heap.size 0 55 _ _ _ _ 34 (by omega) (by omega) _ (BIn.new55 w1 w.heap.size hb.size) lies55 (by simp) (by have := hb.size; simp; omega)
    go_enter Tryd.func13, Tryd.ntmps13
    go_wp2_with (first | (go_at_call 24; refine cV.mono ?_; rintro e w1 ⟨rfl, hb1⟩) | (go_at_call 31; refine (cW _ hb1).mono ?_; rintro e w2 ⟨⟨x, rfl⟩, ⟨v2, h2⟩, hb2⟩))
    have hb12 : Below w.heap.size w w2 := (hb1.alloc hb1.size _).trans hb2
    have hQ0 : QAt l w w1.heap.size w2.heap.size 0 (w2.iter ⟨l.toArray⟩ 0) := by
      have h3 := h2.below ((Below.refl w2.heap.size w2).alloc (Nat.le_refl _) (.stringIter ⟨l.toArray⟩ 0))
      exact ⟨⟨[34], _, _, _, h3, by simp, rfl, by simp⟩, World.iter_heap w2 _ 0, hb12.alloc hb12.size _, hb12.size, Nat.zero_le _⟩
    obtain ⟨b, hb⟩ : ∃ b, w1.heap.size = b := ⟨_, rfl⟩
    obtain ⟨it, hit0⟩ : ∃ it, w2.heap.size = it := ⟨_, rfl⟩
    rw [hb, hit0] at hQ0
    rw [hb, hit0]
    clear hb hit0 hb2 hb12 h2 hb1 cV cW
    have HQ0 := Lib.hid hQ0
    clear hQ0
    go_loopw [7] (fun _ wr => ∃ pos, QAt l w b it pos wr) (fun _ wr => l.length - wr.iterPos it)
    case atStart => exact ⟨0, HQ0.out⟩
    case round =>
      obtain ⟨pos, hQ⟩ := hrel
      have hle := hQ.le
      have hpos := Lib.hid hQ.bound
      obtain ⟨acc, cs, p, v, hI, hcs, hacc, hlen⟩ := hQ.bld
      have hitr := hQ.iter
      have hbw := hQ.below
      have HQB := Lib.hid hQ.itB
      clear hQ
      by_cases hp : pos < l.length
      · have hnx : ∀ ty, (Instr.next (.pointer (some ⟨it, 0, none⟩)) true ty).run Tryd.prog wr = _ := fun ty => Lib.run_next_any_at wr it ⟨l.toArray⟩ pos ty hitr (by rw [hsz]; exact hp)
        obtain ⟨R, K, hRK⟩ : ∃ R K, Lib.decodeL (l.drop pos) = (R, K) := ⟨_, _, rfl⟩
        have hdd := Lib.decodeL_drop ⟨l.toArray⟩ pos
        simp only [hRK] at hdd
        rw [← hdd] at hnx
        simp only at hnx
        have hRv : Lib.validRune (R : Int) = true := by have := Lib.rune_valid ⟨(l.drop pos).toArray⟩; rw [show Utf8.decode ⟨(l.drop pos).toArray⟩ 0 = (R, K) from hRK] at this; exact this
        have hRl : R ≤ 1114111 := by have := Lib.decodeL_rune (l.drop pos); rw [hRK] at this; exact this
        have HRK := Lib.hid hRK
        have HACC := Lib.hid hacc
        have HLEN := Lib.hid hlen
        have hlen' : acc.length ≤ 6000001 := by omega
        have hQB := HQB
        clear hdd hRK hacc hlen
        by_cases q34 : R = 34
        · subst q34
          have cX : ∀ W, Calls Tryd.prog 32 #[.string ⟨#[34, 92, 47, 8, 12, 10, 13, 9]⟩, .int .i32 34] W fun e w' => e = .returned (.int .i64 0) ∧ Below W.heap.size W w' := fun W => (Tryd.strings_IndexRune_ascii ⟨#[34, 92, 47, 8, 12, 10, 13, 9]⟩ 34 W (by omega) (by omega)).mono fun e w' h => ⟨h.1.trans (by rw [show Lib.indexByte (⟨#[34, 92, 47, 8, 12, 10, 13, 9]⟩ : ByteArray).data.toList (34 : Int).toNat.toUInt8 = 0 from by decide]), by rw [h.2]; exact Below.refl _ _⟩
          have cW := fun w1 hbx => writeString_o w.heap.size b 0 55 cs p v _ ([92, 34]) w1 (QAt.look hI hitr hbw HQB.out (w1 := w1) (K := K) hbx).1 (by rw [hcs]; exact lies55) (by simp [Lib.byteCells_length]; omega) (by have := (QAt.look hI hitr hbw HQB.out (w1 := w1) (K := K) hbx).2.2.size; omega)
          have HH := Lib.hid (And.intro hI (And.intro hitr hbw))
          clear hI hitr hbw
          go_wp2_with (first | (go_at_call 32; refine (cX _).mono ?_; rintro e1 w3 ⟨rfl, hbx⟩) | (go_at_call 33; refine (cW _ hbx).mono ?_; rintro e2 w4 ⟨⟨x2, rfl⟩, ⟨v4, hI4⟩, hb4, ho4⟩))
          obtain ⟨k1, k2, k3⟩ := QAt.look HH.out.1 HH.out.2.1 HH.out.2.2 HQB.out hbx
          have hN := Lib.hid (QAt.next k1 k2 k3 HQB.out (hI4) (size2 hcs _ _) hb4 ho4 HACC.out HLEN.out HRK.out hp)
          go_wp2
          go_roundw
          case rel => exact ⟨pos + K, hN.out⟩
          case measure => rw [hN.out.bound, hpos.out]; have hw := Lib.decodeL_width (l.drop pos); rw [HRK.out] at hw; simp only at hw; omega
        by_cases q92 : R = 92
        · subst q92
          have cX : ∀ W, Calls Tryd.prog 32 #[.string ⟨#[34, 92, 47, 8, 12, 10, 13, 9]⟩, .int .i32 92] W fun e w' => e = .returned (.int .i64 1) ∧ Below W.heap.size W w' := fun W => (Tryd.strings_IndexRune_ascii ⟨#[34, 92, 47, 8, 12, 10, 13, 9]⟩ 92 W (by omega) (by omega)).mono fun e w' h => ⟨h.1.trans (by rw [show Lib.indexByte (⟨#[34, 92, 47, 8, 12, 10, 13, 9]⟩ : ByteArray).data.toList (92 : Int).toNat.toUInt8 = 1 from by decide]), by rw [h.2]; exact Below.refl _ _⟩
          have cW := fun w1 hbx => writeString_o w.heap.size b 0 55 cs p v _ ([92, 92]) w1 (QAt.look hI hitr hbw HQB.out (w1 := w1) (K := K) hbx).1 (by rw [hcs]; exact lies55) (by simp [Lib.byteCells_length]; omega) (by have := (QAt.look hI hitr hbw HQB.out (w1 := w1) (K := K) hbx).2.2.size; omega)
          have HH := Lib.hid (And.intro hI (And.intro hitr hbw))
          clear hI hitr hbw
          go_wp2_with (first | (go_at_call 32; refine (cX _).mono ?_; rintro e1 w3 ⟨rfl, hbx⟩) | (go_at_call 33; refine (cW _ hbx).mono ?_; rintro e2 w4 ⟨⟨x2, rfl⟩, ⟨v4, hI4⟩, hb4, ho4⟩))
          obtain ⟨k1, k2, k3⟩ := QAt.look HH.out.1 HH.out.2.1 HH.out.2.2 HQB.out hbx
          have hN := Lib.hid (QAt.next k1 k2 k3 HQB.out (hI4) (size2 hcs _ _) hb4 ho4 HACC.out HLEN.out HRK.out hp)
          go_wp2
          go_roundw
          case rel => exact ⟨pos + K, hN.out⟩
          case measure => rw [hN.out.bound, hpos.out]; have hw := Lib.decodeL_width (l.drop pos); rw [HRK.out] at hw; simp only at hw; omega
        by_cases q8 : R = 8
        · subst q8
          have cX : ∀ W, Calls Tryd.prog 32 #[.string ⟨#[34, 92, 47, 8, 12, 10, 13, 9]⟩, .int .i32 8] W fun e w' => e = .returned (.int .i64 3) ∧ Below W.heap.size W w' := fun W => (Tryd.strings_IndexRune_ascii ⟨#[34, 92, 47, 8, 12, 10, 13, 9]⟩ 8 W (by omega) (by omega)).mono fun e w' h => ⟨h.1.trans (by rw [show Lib.indexByte (⟨#[34, 92, 47, 8, 12, 10, 13, 9]⟩ : ByteArray).data.toList (8 : Int).toNat.toUInt8 = 3 from by decide]), by rw [h.2]; exact Below.refl _ _⟩
          have cW := fun w1 hbx => writeString_o w.heap.size b 0 55 cs p v _ ([92, 98]) w1 (QAt.look hI hitr hbw HQB.out (w1 := w1) (K := K) hbx).1 (by rw [hcs]; exact lies55) (by simp [Lib.byteCells_length]; omega) (by have := (QAt.look hI hitr hbw HQB.out (w1 := w1) (K := K) hbx).2.2.size; omega)
          have HH := Lib.hid (And.intro hI (And.intro hitr hbw))
          clear hI hitr hbw
          go_wp2_with (first | (go_at_call 32; refine (cX _).mono ?_; rintro e1 w3 ⟨rfl, hbx⟩) | (go_at_call 33; refine (cW _ hbx).mono ?_; rintro e2 w4 ⟨⟨x2, rfl⟩, ⟨v4, hI4⟩, hb4, ho4⟩))
          obtain ⟨k1, k2, k3⟩ := QAt.look HH.out.1 HH.out.2.1 HH.out.2.2 HQB.out hbx
          have hN := Lib.hid (QAt.next k1 k2 k3 HQB.out (hI4) (size2 hcs _ _) hb4 ho4 HACC.out HLEN.out HRK.out hp)
          go_wp2
          go_roundw
          case rel => exact ⟨pos + K, hN.out⟩
          case measure => rw [hN.out.bound, hpos.out]; have hw := Lib.decodeL_width (l.drop pos); rw [HRK.out] at hw; simp only at hw; omega
        by_cases q12 : R = 12
        · subst q12
          have cX : ∀ W, Calls Tryd.prog 32 #[.string ⟨#[34, 92, 47, 8, 12, 10, 13, 9]⟩, .int .i32 12] W fun e w' => e = .returned (.int .i64 4) ∧ Below W.heap.size W w' := fun W => (Tryd.strings_IndexRune_ascii ⟨#[34, 92, 47, 8, 12, 10, 13, 9]⟩ 12 W (by omega) (by omega)).mono fun e w' h => ⟨h.1.trans (by rw [show Lib.indexByte (⟨#[34, 92, 47, 8, 12, 10, 13, 9]⟩ : ByteArray).data.toList (12 : Int).toNat.toUInt8 = 4 from by decide]), by rw [h.2]; exact Below.refl _ _⟩
          have cW := fun w1 hbx => writeString_o w.heap.size b 0 55 cs p v _ ([92, 102]) w1 (QAt.look hI hitr hbw HQB.out (w1 := w1) (K := K) hbx).1 (by rw [hcs]; exact lies55) (by simp [Lib.byteCells_length]; omega) (by have := (QAt.look hI hitr hbw HQB.out (w1 := w1) (K := K) hbx).2.2.size; omega)
          have HH := Lib.hid (And.intro hI (And.intro hitr hbw))
          clear hI hitr hbw
          go_wp2_with (first | (go_at_call 32; refine (cX _).mono ?_; rintro e1 w3 ⟨rfl, hbx⟩) | (go_at_call 33; refine (cW _ hbx).mono ?_; rintro e2 w4 ⟨⟨x2, rfl⟩, ⟨v4, hI4⟩, hb4, ho4⟩))
          obtain ⟨k1, k2, k3⟩ := QAt.look HH.out.1 HH.out.2.1 HH.out.2.2 HQB.out hbx
          have hN := Lib.hid (QAt.next k1 k2 k3 HQB.out (hI4) (size2 hcs _ _) hb4 ho4 HACC.out HLEN.out HRK.out hp)
          go_wp2
          go_roundw
          case rel => exact ⟨pos + K, hN.out⟩
          case measure => rw [hN.out.bound, hpos.out]; have hw := Lib.decodeL_width (l.drop pos); rw [HRK.out] at hw; simp only at hw; omega
        by_cases q10 : R = 10
        · subst q10
          have cX : ∀ W, Calls Tryd.prog 32 #[.string ⟨#[34, 92, 47, 8, 12, 10, 13, 9]⟩, .int .i32 10] W fun e w' => e = .returned (.int .i64 5) ∧ Below W.heap.size W w' := fun W => (Tryd.strings_IndexRune_ascii ⟨#[34, 92, 47, 8, 12, 10, 13, 9]⟩ 10 W (by omega) (by omega)).mono fun e w' h => ⟨h.1.trans (by rw [show Lib.indexByte (⟨#[34, 92, 47, 8, 12, 10, 13, 9]⟩ : ByteArray).data.toList (10 : Int).toNat.toUInt8 = 5 from by decide]), by rw [h.2]; exact Below.refl _ _⟩
          have cW := fun w1 hbx => writeString_o w.heap.size b 0 55 cs p v _ ([92, 110]) w1 (QAt.look hI hitr hbw HQB.out (w1 := w1) (K := K) hbx).1 (by rw [hcs]; exact lies55) (by simp [Lib.byteCells_length]; omega) (by have := (QAt.look hI hitr hbw HQB.out (w1 := w1) (K := K) hbx).2.2.size; omega)
          have HH := Lib.hid (And.intro hI (And.intro hitr hbw))
          clear hI hitr hbw
          go_wp2_with (first | (go_at_call 32; refine (cX _).mono ?_; rintro e1 w3 ⟨rfl, hbx⟩) | (go_at_call 33; refine (cW _ hbx).mono ?_; rintro e2 w4 ⟨⟨x2, rfl⟩, ⟨v4, hI4⟩, hb4, ho4⟩))
          obtain ⟨k1, k2, k3⟩ := QAt.look HH.out.1 HH.out.2.1 HH.out.2.2 HQB.out hbx
          have hN := Lib.hid (QAt.next k1 k2 k3 HQB.out (hI4) (size2 hcs _ _) hb4 ho4 HACC.out HLEN.out HRK.out hp)
          go_wp2
          go_roundw
          case rel => exact ⟨pos + K, hN.out⟩
          case measure => rw [hN.out.bound, hpos.out]; have hw := Lib.decodeL_width (l.drop pos); rw [HRK.out] at hw; simp only at hw; omega
        by_cases q13 : R = 13
        · subst q13
          have cX : ∀ W, Calls Tryd.prog 32 #[.string ⟨#[34, 92, 47, 8, 12, 10, 13, 9]⟩, .int .i32 13] W fun e w' => e = .returned (.int .i64 6) ∧ Below W.heap.size W w' := fun W => (Tryd.strings_IndexRune_ascii ⟨#[34, 92, 47, 8, 12, 10, 13, 9]⟩ 13 W (by omega) (by omega)).mono fun e w' h => ⟨h.1.trans (by rw [show Lib.indexByte (⟨#[34, 92, 47, 8, 12, 10, 13, 9]⟩ : ByteArray).data.toList (13 : Int).toNat.toUInt8 = 6 from by decide]), by rw [h.2]; exact Below.refl _ _⟩
          have cW := fun w1 hbx => writeString_o w.heap.size b 0 55 cs p v _ ([92, 114]) w1 (QAt.look hI hitr hbw HQB.out (w1 := w1) (K := K) hbx).1 (by rw [hcs]; exact lies55) (by simp [Lib.byteCells_length]; omega) (by have := (QAt.look hI hitr hbw HQB.out (w1 := w1) (K := K) hbx).2.2.size; omega)
          have HH := Lib.hid (And.intro hI (And.intro hitr hbw))
          clear hI hitr hbw
          go_wp2_with (first | (go_at_call 32; refine (cX _).mono ?_; rintro e1 w3 ⟨rfl, hbx⟩) | (go_at_call 33; refine (cW _ hbx).mono ?_; rintro e2 w4 ⟨⟨x2, rfl⟩, ⟨v4, hI4⟩, hb4, ho4⟩))
          obtain ⟨k1, k2, k3⟩ := QAt.look HH.out.1 HH.out.2.1 HH.out.2.2 HQB.out hbx
          have hN := Lib.hid (QAt.next k1 k2 k3 HQB.out (hI4) (size2 hcs _ _) hb4 ho4 HACC.out HLEN.out HRK.out hp)
          go_wp2
          go_roundw
          case rel => exact ⟨pos + K, hN.out⟩
          case measure => rw [hN.out.bound, hpos.out]; have hw := Lib.decodeL_width (l.drop pos); rw [HRK.out] at hw; simp only at hw; omega
        by_cases q9 : R = 9
        · subst q9
          have cX : ∀ W, Calls Tryd.prog 32 #[.string ⟨#[34, 92, 47, 8, 12, 10, 13, 9]⟩, .int .i32 9] W fun e w' => e = .returned (.int .i64 7) ∧ Below W.heap.size W w' := fun W => (Tryd.strings_IndexRune_ascii ⟨#[34, 92, 47, 8, 12, 10, 13, 9]⟩ 9 W (by omega) (by omega)).mono fun e w' h => ⟨h.1.trans (by rw [show Lib.indexByte (⟨#[34, 92, 47, 8, 12, 10, 13, 9]⟩ : ByteArray).data.toList (9 : Int).toNat.toUInt8 = 7 from by decide]), by rw [h.2]; exact Below.refl _ _⟩
          have cW := fun w1 hbx => writeString_o w.heap.size b 0 55 cs p v _ ([92, 116]) w1 (QAt.look hI hitr hbw HQB.out (w1 := w1) (K := K) hbx).1 (by rw [hcs]; exact lies55) (by simp [Lib.byteCells_length]; omega) (by have := (QAt.look hI hitr hbw HQB.out (w1 := w1) (K := K) hbx).2.2.size; omega)
          have HH := Lib.hid (And.intro hI (And.intro hitr hbw))
          clear hI hitr hbw
          go_wp2_with (first | (go_at_call 32; refine (cX _).mono ?_; rintro e1 w3 ⟨rfl, hbx⟩) | (go_at_call 33; refine (cW _ hbx).mono ?_; rintro e2 w4 ⟨⟨x2, rfl⟩, ⟨v4, hI4⟩, hb4, ho4⟩))
          obtain ⟨k1, k2, k3⟩ := QAt.look HH.out.1 HH.out.2.1 HH.out.2.2 HQB.out hbx
          have hN := Lib.hid (QAt.next k1 k2 k3 HQB.out (hI4) (size2 hcs _ _) hb4 ho4 HACC.out HLEN.out HRK.out hp)
          go_wp2
          go_roundw
          case rel => exact ⟨pos + K, hN.out⟩
          case measure => rw [hN.out.bound, hpos.out]; have hw := Lib.decodeL_width (l.drop pos); rw [HRK.out] at hw; simp only at hw; omega
        by_cases q47 : R = 47
        · subst q47
          have cX : ∀ W, Calls Tryd.prog 32 #[.string ⟨#[34, 92, 47, 8, 12, 10, 13, 9]⟩, .int .i32 47] W fun e w' => e = .returned (.int .i64 2) ∧ Below W.heap.size W w' := fun W => (Tryd.strings_IndexRune_ascii ⟨#[34, 92, 47, 8, 12, 10, 13, 9]⟩ 47 W (by omega) (by omega)).mono fun e w' h => ⟨h.1.trans (by rw [show Lib.indexByte (⟨#[34, 92, 47, 8, 12, 10, 13, 9]⟩ : ByteArray).data.toList (47 : Int).toNat.toUInt8 = 2 from by decide]), by rw [h.2]; exact Below.refl _ _⟩
          have cW := fun w1 hbx => writeRune_o w.heap.size b 0 55 cs p v _ (47) (by omega) (by omega) w1 (QAt.look hI hitr hbw HQB.out (w1 := w1) (K := K) hbx).1 (by rw [hcs]; exact lies55) (by simp [Lib.byteCells_length]; omega) (by have := (QAt.look hI hitr hbw HQB.out (w1 := w1) (K := K) hbx).2.2.size; omega)
          have HH := Lib.hid (And.intro hI (And.intro hitr hbw))
          clear hI hitr hbw
          go_wp2_with (first | (go_at_call 32; refine (cX _).mono ?_; rintro e1 w3 ⟨rfl, hbx⟩) | (go_at_call 31; refine (cW _ hbx).mono ?_; rintro e2 w4 ⟨⟨x2, rfl⟩, ⟨v4, hI4⟩, hb4, ho4⟩))
          obtain ⟨k1, k2, k3⟩ := QAt.look HH.out.1 HH.out.2.1 HH.out.2.2 HQB.out hbx
          have hN := Lib.hid (QAt.next k1 k2 k3 HQB.out (hI4) (size2 hcs _ _) hb4 ho4 HACC.out HLEN.out HRK.out hp)
          go_wp2
          go_roundw
          case rel => exact ⟨pos + K, hN.out⟩
          case measure => rw [hN.out.bound, hpos.out]; have hw := Lib.decodeL_width (l.drop pos); rw [HRK.out] at hw; simp only at hw; omega
        by_cases q128 : R < 128
        · have hidx : Lib.indexByte (⟨#[34, 92, 47, 8, 12, 10, 13, 9]⟩ : ByteArray).data.toList ((R : Nat) : Int).toNat.toUInt8 = -1 := by
            have := idxS_fin ⟨R, q128⟩
            simp only at this
            rcases this with h | h | h | h | h | h | h | h | h
            all_goals first | exact h | (exfalso; omega)
          have cX : ∀ W, Calls Tryd.prog 32 #[.string ⟨#[34, 92, 47, 8, 12, 10, 13, 9]⟩, .int .i32 (R : Int)] W fun e w' => e = .returned (.int .i64 (-1)) ∧ Below W.heap.size W w' := fun W => (Tryd.strings_IndexRune_ascii ⟨#[34, 92, 47, 8, 12, 10, 13, 9]⟩ (R : Int) W (by omega) (by omega)).mono fun e w' h => ⟨h.1.trans (by rw [show Lib.indexByte (⟨#[34, 92, 47, 8, 12, 10, 13, 9]⟩ : ByteArray).data.toList ((R : Int) : Int).toNat.toUInt8 = (-1) from hidx]), by rw [h.2]; exact Below.refl _ _⟩
          by_cases q32 : R < 32
          · have q32z : (R : Int) < 32 := by omega
            obtain ⟨x, hx⟩ : ∃ x, R / 16 = x := ⟨_, rfl⟩
            obtain ⟨y, hy⟩ : ∃ y, R % 16 = y := ⟨_, rfl⟩
            have hxz : (R : Int) / 16 = (x : Int) := by omega
            have hyz : bits .and .i32 (R : Int) 15 = (y : Int) := by rw [and15 R q128]; omega
            have hx2 : x < 2 := by omega
            have hy2 : y < 16 := by omega
            have hq : quoteOne R = [92, 117, 48, 48, hexd x, hexd y] := by unfold quoteOne; simp only [q34, q92, q8, q12, q10, q13, q9, q32, if_false, if_true, hx, hy]
            have HQ := Lib.hid hq
            have ex := hexd_fin ⟨x, by omega⟩
            have ey := hexd_fin ⟨y, hy2⟩
            simp only at ex ey
            have ca := app_list [92, 117, 48, 48] [hexd x]
            have cb := app_list [92, 117, 48, 48, hexd x] [hexd y]
            have wx : IntKind.i32.wrap ((x : Int) + 1) = (x : Int) + 1 := by simp only [IntKind.wrap_i32]; omega
            have wy : IntKind.i32.wrap ((y : Int) + 1) = (y : Int) + 1 := by simp only [IntKind.wrap_i32]; omega
            have l1 : (x : Int) + 1 ≤ 16 := by omega
            have l2 : (y : Int) + 1 ≤ 16 := by omega
            have l3 : (x : Int) ≤ (x : Int) + 1 := by omega
            have l4 : (y : Int) ≤ (y : Int) + 1 := by omega
            have t1 : ((x : Int) + 1).toNat = x + 1 := by omega
            have t2 : ((y : Int) + 1).toNat = y + 1 := by omega
            have l5 : (0 : Int) ≤ (x : Int) + 1 := by omega
            have l6 : (0 : Int) ≤ (y : Int) + 1 := by omega
            clear hq hidx
            have cW := fun w1 hbx => writeString_o w.heap.size b 0 55 cs p v _ ([92, 117, 48, 48, hexd x, hexd y]) w1 (QAt.look hI hitr hbw HQB.out (w1 := w1) (K := K) hbx).1 (by rw [hcs]; exact lies55) (by simp [Lib.byteCells_length]; omega) (by have := (QAt.look hI hitr hbw HQB.out (w1 := w1) (K := K) hbx).2.2.size; omega)
            have HH := Lib.hid (And.intro hI (And.intro hitr hbw))
            clear hI hitr hbw
            clear q34 q92 q8 q12 q10 q13 q9 q47 hRv hRl q128 q32 hx hy
            go_wp2_with (go_at_call 32; refine (cX _).mono ?_; rintro e1 w3 ⟨rfl, hbx⟩)
            go_region_with (refine (cW _ (below_drewN hbx _)).mono ?_; rintro e2 w4 ⟨⟨x2, rfl⟩, ⟨v4, hI4⟩, hb4, ho4⟩)
            all_goals
              have hbx2 := below_drewN hbx 1
              obtain ⟨k1, k2, k3⟩ := QAt.look HH.out.1 HH.out.2.1 HH.out.2.2 HQB.out hbx2
              have hN := Lib.hid (QAt.next k1 k2 k3 HQB.out (by rw [HQ.out]; exact hI4) (size2 hcs _ _) hb4 ho4 HACC.out HLEN.out HRK.out hp)
              go_wp2
              go_roundw
              case rel => exact ⟨pos + K, hN.out⟩
              case measure => rw [hN.out.bound, hpos.out]; have hw := Lib.decodeL_width (l.drop pos); rw [HRK.out] at hw; simp only at hw; omega
          · have q32z : ¬ ((R : Int) < 32) := by omega
            have hq : quoteOne R = Lib.encodeRune (R : Int) := by unfold quoteOne; simp only [q34, q92, q8, q12, q10, q13, q9, q32, if_false]
            have HQ := Lib.hid hq
            clear hq hidx
            have cW := fun w1 hbx => writeRune_o w.heap.size b 0 55 cs p v _ ((R : Int)) (by omega) (by omega) w1 (QAt.look hI hitr hbw HQB.out (w1 := w1) (K := K) hbx).1 (by rw [hcs]; exact lies55) (by simp [Lib.byteCells_length]; omega) (by have := (QAt.look hI hitr hbw HQB.out (w1 := w1) (K := K) hbx).2.2.size; omega)
            have HH := Lib.hid (And.intro hI (And.intro hitr hbw))
            clear hI hitr hbw
            clear q34 q92 q8 q12 q10 q13 q9 q47 hRv hRl q128 q32
            go_wp2_with (first | (go_at_call 32; refine (cX _).mono ?_; rintro e1 w3 ⟨rfl, hbx⟩) | (go_at_call 31; refine (cW _ hbx).mono ?_; rintro e2 w4 ⟨⟨x2, rfl⟩, ⟨v4, hI4⟩, hb4, ho4⟩))
            obtain ⟨k1, k2, k3⟩ := QAt.look HH.out.1 HH.out.2.1 HH.out.2.2 HQB.out hbx
            have hN := Lib.hid (QAt.next k1 k2 k3 HQB.out (by rw [HQ.out, Lib.byteCells_encodeRune]; exact hI4) (size2 hcs _ _) hb4 ho4 HACC.out HLEN.out HRK.out hp)
            go_wp2
            go_roundw
            case rel => exact ⟨pos + K, hN.out⟩
            case measure => rw [hN.out.bound, hpos.out]; have hw := Lib.decodeL_width (l.drop pos); rw [HRK.out] at hw; simp only at hw; omega
        · have cX : ∀ W, Calls Tryd.prog 32 #[.string ⟨#[34, 92, 47, 8, 12, 10, 13, 9]⟩, .int .i32 (R : Int)] W fun e w' => e = .returned (.int .i64 (-1)) ∧ Below W.heap.size W w' := fun W => indexRune_high (R : Int) W (by omega) hRv
          have q32z : ¬ ((R : Int) < 32) := by omega
          have hq : quoteOne R = Lib.encodeRune (R : Int) := by unfold quoteOne; simp only [q34, q92, q8, q12, q10, q13, q9, show ¬ (R < 32) by omega, if_false]
          have HQ := Lib.hid hq
          clear hq
          have cW := fun w1 hbx => writeRune_o w.heap.size b 0 55 cs p v _ ((R : Int)) (by omega) (by omega) w1 (QAt.look hI hitr hbw HQB.out (w1 := w1) (K := K) hbx).1 (by rw [hcs]; exact lies55) (by simp [Lib.byteCells_length]; omega) (by have := (QAt.look hI hitr hbw HQB.out (w1 := w1) (K := K) hbx).2.2.size; omega)
          have HH := Lib.hid (And.intro hI (And.intro hitr hbw))
          clear hI hitr hbw
          clear q34 q92 q8 q12 q10 q13 q9 q47 hRv hRl q128
          go_wp2_with (first | (go_at_call 32; refine (cX _).mono ?_; rintro e1 w3 ⟨rfl, hbx⟩) | (go_at_call 31; refine (cW _ hbx).mono ?_; rintro e2 w4 ⟨⟨x2, rfl⟩, ⟨v4, hI4⟩, hb4, ho4⟩))
          obtain ⟨k1, k2, k3⟩ := QAt.look HH.out.1 HH.out.2.1 HH.out.2.2 HQB.out hbx
          have hN := Lib.hid (QAt.next k1 k2 k3 HQB.out (by rw [HQ.out, Lib.byteCells_encodeRune]; exact hI4) (size2 hcs _ _) hb4 ho4 HACC.out HLEN.out HRK.out hp)
          go_wp2
          go_roundw
          case rel => exact ⟨pos + K, hN.out⟩
          case measure => rw [hN.out.bound, hpos.out]; have hw := Lib.decodeL_width (l.drop pos); rw [HRK.out] at hw; simp only at hw; omega
      · obtain rfl : pos = l.length := by omega
        rw [List.drop_length, quoteD_nil, List.append_nil] at hacc
        have hnx : ∀ ty, (Instr.next (.pointer (some ⟨it, 0, none⟩)) true ty).run Tryd.prog wr = _ := fun ty => Lib.run_next_end_at wr it ⟨l.toArray⟩ l.length ty hitr (by rw [hsz]; omega)
        have hlen' : acc.length ≤ 6000001 := by omega
        have cE := writeRune_any w.heap.size b 0 55 cs p v _ 34 (by omega) (by omega) wr hI (by rw [hcs]; exact lies55) (by simp [Lib.byteCells_length]; omega) hbw.size
        have HBW := Lib.hid hbw
        have HACC := Lib.hid hacc
        have cS := fun w5 v5 (h5 : BIn w.heap.size b 0 55 ((cs.setIfInBounds 0 (.pointer (some ⟨b, 0, none⟩))).setIfInBounds (0 + 1) v5) (.pointer (some ⟨b, 0, none⟩)) v5 (Lib.byteCells acc ++ Lib.runeCells 34) w5) hb => string_any w.heap.size b 0 55 _ _ v5 (acc ++ [34]) w5 (by rw [show Lib.byteCells (acc ++ [34]) = Lib.byteCells acc ++ Lib.runeCells 34 from (by simp [Lib.byteCells]; rfl)]; exact h5) hb
        clear hI hitr hbw hacc hlen
        go_wp2_with (first | (go_at_call 31; refine cE.mono ?_; rintro e2 w5 ⟨⟨x2, rfl⟩, ⟨v5, h5⟩, hb5⟩) | (go_at_call 34; refine (cS _ _ h5 (HBW.out.trans hb5).size).mono ?_; rintro e3 w6 ⟨rfl, hb6⟩))
        go_ret2
        exact ⟨by rw [HACC.out]; rfl, (HBW.out.trans hb5).trans hb6⟩
end Go.Proofs.YtalegkgonbmaoaaDoor
