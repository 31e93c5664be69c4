import Derived.Test.YtcoboifdmpeelaaBits
import Derived.Test.YtcoboifdmpeelaaPut
import Derived.Laws.Concat
namespace Go.Proofs.Ytcoboifdmpeelaa
open Go.RowKit
def digs : List Nat → List UInt8
  | a :: b :: c :: d :: e :: f :: r => dg (2 * (2 * (2 * (2 * (2 * a + b) + c) + d) + e) + f) :: digs r
  | _ => []
def padded (l : List UInt8) : List Nat := bitsOf l ++ List.replicate ((6 - 8 * l.length % 6) % 6) 0
def encR (l : List UInt8) : List UInt8 := digs (padded l) ++ List.replicate ((4 - (digs (padded l)).length % 4) % 4) 61
theorem bitsOf_length (l : List UInt8) : (bitsOf l).length = 8 * l.length := by
  induction l with
  | nil => rfl
  | cons x r ih => simp only [bitsOf, List.flatMap_cons, List.length_append, List.length_cons] at *; rw [ih]; simp [bits8]; omega
theorem bitsOf_le (l : List UInt8) : ∀ b ∈ bitsOf l, b ≤ 1 := by
  intro b hb
  simp only [bitsOf, List.mem_flatMap, bits8] at hb
  obtain ⟨x, _, hb⟩ := hb
  simp only [List.mem_cons, List.not_mem_nil, or_false] at hb
  omega
theorem padded_length (l : List UInt8) : (padded l).length % 6 = 0 ∧ (padded l).length ≤ 8 * l.length + 5 := by
  simp only [padded, List.length_append, bitsOf_length, List.length_replicate]
  omega
theorem padded_le (l : List UInt8) : ∀ b ∈ padded l, b ≤ 1 := by
  intro b hb
  simp only [padded, List.mem_append, List.mem_replicate] at hb
  rcases hb with hb | ⟨_, rfl⟩
  · exact bitsOf_le l b hb
  · omega
theorem six {bs : List Nat} {i : Nat} (h6 : bs.length % 6 = 0) (hi : i % 6 = 0) (hlt : i < bs.length) : ∃ a b c d e f r, bs.drop i = a :: b :: c :: d :: e :: f :: r := by
  have hl : (bs.drop i).length = bs.length - i := List.length_drop
  match h : bs.drop i, hl with
  | a :: b :: c :: d :: e :: f :: r, _ => exact ⟨a, b, c, d, e, f, r, rfl⟩
  | [], hl => simp at hl; omega
  | [_], hl => simp at hl; omega
  | [_, _], hl => simp at hl; omega
  | [_, _, _], hl => simp at hl; omega
  | [_, _, _, _], hl => simp at hl; omega
  | [_, _, _, _, _], hl => simp at hl; omega
theorem padded_take (l : List UInt8) (N : Nat) (h0 : 8 * l.length ≤ N) (h1 : N < (padded l).length) : (padded l).take (N + 1) = (padded l).take N ++ [0] := by
  rw [List.take_succ_eq_append_getElem h1]
  congr 2
  simp only [padded]
  rw [List.getElem_append_right (by rw [bitsOf_length]; exact h0)]
  simp
def sLen : Value → Nat
  | .slice _ n _ => n
  | _ => 0
theorem str_app (a b : List UInt8) : (⟨a.toArray⟩ ++ ⟨b.toArray⟩ : ByteArray) = ⟨(a ++ b).toArray⟩ := by
  apply ByteArray.ext
  apply Array.ext'
  simp
theorem str_app' (a b : List UInt8) : Value.string (⟨a.toArray⟩ ++ ⟨b.toArray⟩) = Value.string ⟨(a ++ b).toArray⟩ := by rw [str_app]
def strLen : Value → Nat
  | .string b => b.size
  | _ => 0
theorem strLen_mk (a : List UInt8) : strLen (.string ⟨a.toArray⟩) = a.length := by show a.toArray.size = _; simp
theorem slice_dg (w : World) (V : Nat) (hV : V < 64) :
    (Instr.slice 9 (.string alphaS) (some (.int .i64 (V : Int))) (some (.int .i64 ((V : Int) + 1))) none).run Try.prog w = .ok (.string (alphaS.extract V (V + 1))) w := by
  have h := run_slice_string (P := Try.prog) w 9 alphaS .i64 .i64 (V : Int) ((V : Int) + 1) Try.underlying9 (by omega) (by omega) (by have : alphaS.size = 64 := rfl; omega)
  rw [h]
  congr 2
theorem cat_dg (w : World) (out : List UInt8) (V : Nat) (hV : V < 64) (ho : out.length ≤ 1000000000) :
    (Op.stringOp .add ⟨out.toArray⟩ (alphaS.extract V (V + 1))).run Try.prog w = .ok (.string ⟨(out ++ [dg V]).toArray⟩) w := by
  rw [run_string_add_sum]
  · congr 2
    apply ByteArray.ext
    apply Array.ext'
    have h1 : alphaS.data.toList[V]? = some (dg V) := by
      rw [Array.getElem?_toList, Array.getElem?_eq_getElem (show V < alphaS.data.size from hV), dg_cell V hV]
      rfl
    simp only [ByteArray.data_append, Array.toList_append, ByteArray.data_extract, Array.toList_extract, List.extract_eq_take_drop]
    rw [show V + 1 - V = 1 by omega, List.take_one, List.head?_drop, h1]
    rfl
  · have : (ByteArray.mk out.toArray).size = out.length := by show out.toArray.size = _; simp
    rw [this, ByteArray.size_extract]
    have : alphaS.size = 64 := rfl
    omega
set_option maxRecDepth 100000 in
set_option maxHeartbeats 8000000 in
theorem refPut_any (A : Option Addr) (n c : Nat) (l : List UInt8) (w : World) (hA : Rd w 1 A n (Lib.byteCells l)) (hn : n ≤ 1000000) :
    Calls Try.prog 13 #[.slice A n c] w fun e w' => e = .returned (.string ⟨(encR l).toArray⟩) ∧ Below w.heap.size w w' := by
  obtain ⟨i0, hi, hz0, hz1, hz2⟩ := info_parts info3'
  have hl : l.length = n := by have := hA.1; simpa [Lib.byteCells_length] using this
  obtain ⟨pl6, pll⟩ := padded_length l
  have HLE := Lib.hid (padded_le l)
  have HTK := Lib.hid (padded_take l)
  have hb0 : (padded l).take (8 * n) = bitsOf l := by
    rw [padded, List.take_append_of_le_length (by rw [bitsOf_length, hl]; exact Nat.le_refl _)]
    exact List.take_of_length_le (by rw [bitsOf_length, hl]; exact Nat.le_refl _)
  have hMn : (padded l).length = 8 * n + (6 - 8 * n % 6) % 6 := by simp [padded, bitsOf_length, hl]
  have hE : encR l = digs (padded l) ++ List.replicate ((4 - (digs (padded l)).length % 4) % 4) 61 := rfl
  rw [hE]
  rw [hl] at HTK pll
  generalize padded l = P at *
  have HM := Lib.hid (rfl : P.length = P.length)
  obtain ⟨M, hM⟩ : ∃ M, P.length = M := ⟨_, rfl⟩
  have HM := Lib.hid hM
  rw [hM] at HTK hMn pl6 pll
  clear hM hl hE
  go_enter Try.func13, Try.ntmps13
  go_wp2_with (go_at_call 26; refine (bits_any _ _ _ l _ hA hn).mono ?_; rintro e w' ⟨⟨v, rfl, hown⟩, hb⟩)
  clear hA
  rw [← hb0] at hown
  clear hb0
  obtain ⟨N0, hN0⟩ : ∃ N0, 8 * n = N0 := ⟨_, rfl⟩
  rw [hN0] at hown HTK hMn
  go_loopw [3] (fun v wr => ∃ N : Nat, N0 ≤ N ∧ N ≤ M ∧ wr.ownsRow w.heap.size 3 1 v N (nats (P.take N)) ∧ Below w.heap.size w wr) (fun v _ => M - sLen v)
  case atStart => exact ⟨N0, by omega, by omega, hown, hb⟩
  case round =>
    clear hown hb
    obtain ⟨N, hN, hNM, hown, hb⟩ := hrel
    obtain ⟨X, d, rfl, hd, _⟩ := own_shape hown
    by_cases hm : N % 6 = 0
    · have hm' : ((N : Int) % 6 != 0) = false := by simp; omega
      obtain rfl : N = M := by omega
      rw [← HM.out, List.take_length, HM.out] at hown
      clear hm hN0 hMn HTK
      have hX := Rd.of_own hown
      clear hown hNM
      go_wp2
      obtain ⟨wo, rfl⟩ : ∃ wo : World, wo = wr := ⟨_, rfl⟩
      go_loop [4, 5] (fun s i => ∃ (k : Nat) (out : List UInt8), k ≤ N ∧ k % 6 = 0 ∧ i = .int .i64 k ∧ s = .string ⟨out.toArray⟩ ∧ out.length * 6 = k ∧ digs P = out ++ digs (P.drop k)) (fun _ i => N - (intOf i).toNat)
      case atStart => exact ⟨0, [], by omega, by omega, rfl, rfl, by simp, by simp⟩
      case round =>
        obtain ⟨k, out, hk, hk6, rfl, rfl, hol, hdg⟩ := hrel
        by_cases hlt : k < N
        · obtain ⟨a, b, c', d', e, f, r, hdr⟩ := six (bs := P) (i := k) (by rw [HM.out]; exact pl6) hk6 (by rw [HM.out]; exact hlt)
          obtain ⟨b0, o, rfl, hbl, hcell⟩ := hX.2 (by omega)
          have at6 : ∀ (j : Nat) (x : Nat), (a :: b :: c' :: d' :: e :: f :: r)[j]? = some x → P[k + j]? = some x := by
            intro j x hx
            rw [← hdr, List.getElem?_drop] at hx
            exact hx
          have g0 := hcell (k + 0) (.int .i64 a) (by simp only [nats, List.getElem?_map, at6 0 a rfl, Option.map_some])
          have g1 := hcell (k + 1) (.int .i64 b) (by simp only [nats, List.getElem?_map, at6 1 b rfl, Option.map_some])
          have g2 := hcell (k + 2) (.int .i64 c') (by simp only [nats, List.getElem?_map, at6 2 c' rfl, Option.map_some])
          have g3 := hcell (k + 3) (.int .i64 d') (by simp only [nats, List.getElem?_map, at6 3 d' rfl, Option.map_some])
          have g4 := hcell (k + 4) (.int .i64 e) (by simp only [nats, List.getElem?_map, at6 4 e rfl, Option.map_some])
          have g5 := hcell (k + 5) (.int .i64 f) (by simp only [nats, List.getElem?_map, at6 5 f rfl, Option.map_some])
          rw [Nat.add_zero] at g0
          have l0 := HLE.out a (List.mem_of_getElem? (at6 0 a rfl))
          have l1 := HLE.out b (List.mem_of_getElem? (at6 1 b rfl))
          have l2 := HLE.out c' (List.mem_of_getElem? (at6 2 c' rfl))
          have l3 := HLE.out d' (List.mem_of_getElem? (at6 3 d' rfl))
          have l4 := HLE.out e (List.mem_of_getElem? (at6 4 e rfl))
          have l5 := HLE.out f (List.mem_of_getElem? (at6 5 f rfl))
          have HD := Lib.hid hdr
          have HG := Lib.hid hdg
          clear hcell at6 hdr hdg
          have hkN : k + 6 ≤ N := by omega
          go_wp2
          refine wp_loop_rounds 7 ?_
          rw [rounds_succ]; go_wp2
          rw [rounds_succ]; go_wp2
          rw [rounds_succ]; go_wp2
          rw [rounds_succ]; go_wp2
          rw [rounds_succ]; go_wp2
          rw [rounds_succ]; go_wp2
          obtain ⟨V, hV⟩ : ∃ V : Nat, 2 * (2 * (2 * (2 * (2 * a + b) + c') + d') + e) + f = V := ⟨_, rfl⟩
          have hv : (2 * (2 * (2 * (2 * (2 * (a : Int) + b) + c') + d') + e) + f) = (V : Int) := by omega
          have hVl : V < 64 := by omega
          have hadd := cat_dg wo out V hVl (by omega)
          have hsl := slice_dg wo V hVl
          unfold alphaS at hadd hsl
          rw [hv]
          clear hv
          rw [rounds_succ]; go_wp2
          refine ⟨⟨k + 6, out ++ [dg V], by omega, by omega, by rfl, rfl, by simp; omega, ?_⟩, by simp [intOf]; omega⟩
          have h6 : P.drop (k + 6) = r := by rw [← List.drop_drop, HD.out]; rfl
          rw [HG.out, HD.out, h6, digs, hV]
          simp
        · obtain rfl : k = N := by omega
          have hout : digs P = out := by rw [hdg, List.drop_of_length_le (by rw [HM.out]; exact Nat.le_refl _)]; simp [digs]
          have HO := Lib.hid hout
          clear hdg hout
          go_wp2
          go_loop [4] (fun s => ∃ j : Nat, j ≤ (4 - out.length % 4) % 4 ∧ s = .string ⟨(out ++ List.replicate j 61).toArray⟩) (fun s => out.length + 4 - strLen s)
          case atStart => exact ⟨0, by omega, by simp⟩
          case round =>
            obtain ⟨j, hj, rfl⟩ := hrel
            by_cases hm : (out.length + j) % 4 = 0
            · go_wp2
              go_ret
              have ej : j = (4 - out.length % 4) % 4 := by omega
              refine ⟨?_, hb⟩
              rw [HO.out, ← ej]
              rfl
            · go_wp2
              refine ⟨⟨j + 1, by omega, (str_app' (out ++ List.replicate j 61) [61]).trans (by rw [List.append_assoc, ← List.replicate_succ'])⟩, ?_⟩
              rw [str_app' (out ++ List.replicate j 61) [61]]
              simp only [strLen_mk, List.length_append, List.length_replicate, List.length_cons, List.length_nil]
              omega
    · have hm' : ((N : Int) % 6 != 0) = true := by simp; omega
      have hjn : N < M := by omega
      go_wp2_with (at_builtin; refine wpList_append_one rfl w _ _ _ 48 rfl w.heap.size 3 i0 (.int .i64 0) 8 Try.underlying48 hi hz0 hz1 hz2 rfl _ _ _ rfl hown _ rfl rfl (by omega) (by omega) hb (Nat.le_refl _) ?_; clear hown hb; intro v' w' hown hb)
      go_roundw
      case rel => exact ⟨N + 1, by omega, by omega, by rw [HTK.out N (by omega) hjn, nats_app]; exact hown, hb⟩
      case measure =>
        obtain ⟨X', d', rfl, _, _⟩ := own_shape hown
        simp only [sLen]
        omega
end Go.Proofs.Ytcoboifdmpeelaa
