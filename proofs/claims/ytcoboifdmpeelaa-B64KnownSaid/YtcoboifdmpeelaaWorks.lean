import Derived.Test.YtcoboifdmpeelaaSmall
import Derived.Test.YtcoboifdmpeelaaPut
import Derived.Lib.SlBytesConst
namespace Go.Proofs.Ytcoboifdmpeelaa
open Go.RowKit
set_option maxHeartbeats 1000000 in
theorem cut_any (A : Option Addr) (n c : Nat) (l : List UInt8) (w : World) (h : Rd w 1 A n (Lib.byteCells l)) (hnc : n ≤ c) :
    Calls Try.prog 19 #[.slice A n c] w fun e w' => (∃ v, e = .returned v ∧ w'.ownsRow w.heap.size 5 1 v (l.take 300).length (Lib.byteCells (l.take 300))) ∧ Below w.heap.size w w' := by
  have hl : l.length = n := by have := h.1; simpa [Lib.byteCells_length] using this
  have ek : l.take (min n 300) = l.take 300 := by rw [Nat.min_comm, ← List.take_take, ← hl, List.take_length]
  have hk : (min (n : Int) 300).toNat = min n 300 := by omega
  have h3 : Rd w 1 A (min (n : Int) 300).toNat (Lib.byteCells (l.take 300)) := by
    have := h.take1 (Nat.min_le_left n 300)
    rw [hk, ← ek]
    simpa [Lib.byteCells, List.map_take] using this
  have hm : (min (n : Int) 300).toNat ≤ 1000000 := by omega
  have hlen : (l.take 300).length = (min (n : Int) 300).toNat := by rw [List.length_take]; omega
  have HL := Lib.hid hlen
  clear hk ek hl h hlen
  go_enter Try.func19, Try.ntmps19
  go_wp2_with (go_at_call 11; refine (copyBytes_any A _ c _ _ h3 hm).mono ?_; rintro e w' ⟨⟨v, rfl, ho⟩, hb⟩)
  go_ret
  exact ⟨⟨_, rfl, by rw [HL.out]; exact ho⟩, hb⟩
theorem rdLf (w : World) (xs : List Value) (e : TypeId) (fz : Nat × Nat) : Rd (w.alloc (.cells xs.toArray e fz)) 1 (some ⟨w.heap.size, 0, none⟩) xs.length xs := by
  refine ⟨by simp, fun _ => ⟨w.heap.size, 0, rfl, by simp, fun k u hu => ?_⟩⟩
  rw [cell_of_row _ _ (0 + k) _ e fz (heap_alloc_last _ _)]
  simpa using hu
theorem below_alloc {w w1 : World} (h : Below w.heap.size w w1) (o : Obj) : Below w.heap.size w (w1.alloc o) := h.alloc h.size o
theorem put_lit0 (w : World) : Calls Try.prog 12 #[.slice (some ⟨w.heap.size, 0, none⟩) 1 1] (w.alloc (.cells #[.int .u8 102] 5 (1, 2))) fun e w' => e = .returned (.string ⟨#[90, 103, 61, 61]⟩) ∧ Below (w.alloc (.cells #[.int .u8 102] 5 (1, 2))).heap.size (w.alloc (.cells #[.int .u8 102] 5 (1, 2))) w' := by
  have hr : Rd (w.alloc (.cells #[.int .u8 102] 5 (1, 2))) 1 (some ⟨w.heap.size, 0, none⟩) 1 (Lib.byteCells [102]) := rdLf w [.int .u8 102] 5  (1, 2)
  have he : enc [102] = [90, 103, 61, 61] := by decide +kernel
  refine (put_any _ 1 1 [102] _ hr (by omega) (by omega)).mono ?_
  rintro e w' ⟨rfl, hb⟩
  exact ⟨by rw [he], hb⟩
theorem put_lit1 (w : World) : Calls Try.prog 12 #[.slice (some ⟨w.heap.size, 0, none⟩) 2 2] (w.alloc (.cells #[.int .u8 102, .int .u8 111] 5 (2, 3))) fun e w' => e = .returned (.string ⟨#[90, 109, 56, 61]⟩) ∧ Below (w.alloc (.cells #[.int .u8 102, .int .u8 111] 5 (2, 3))).heap.size (w.alloc (.cells #[.int .u8 102, .int .u8 111] 5 (2, 3))) w' := by
  have hr : Rd (w.alloc (.cells #[.int .u8 102, .int .u8 111] 5 (2, 3))) 1 (some ⟨w.heap.size, 0, none⟩) 2 (Lib.byteCells [102, 111]) := rdLf w [.int .u8 102, .int .u8 111] 5  (2, 3)
  have he : enc [102, 111] = [90, 109, 56, 61] := by decide +kernel
  refine (put_any _ 2 2 [102, 111] _ hr (by omega) (by omega)).mono ?_
  rintro e w' ⟨rfl, hb⟩
  exact ⟨by rw [he], hb⟩
theorem put_lit2 (w : World) : Calls Try.prog 12 #[.slice (some ⟨w.heap.size, 0, none⟩) 3 3] (w.alloc (.cells #[.int .u8 102, .int .u8 111, .int .u8 111] 5 (3, 4))) fun e w' => e = .returned (.string ⟨#[90, 109, 57, 118]⟩) ∧ Below (w.alloc (.cells #[.int .u8 102, .int .u8 111, .int .u8 111] 5 (3, 4))).heap.size (w.alloc (.cells #[.int .u8 102, .int .u8 111, .int .u8 111] 5 (3, 4))) w' := by
  have hr : Rd (w.alloc (.cells #[.int .u8 102, .int .u8 111, .int .u8 111] 5 (3, 4))) 1 (some ⟨w.heap.size, 0, none⟩) 3 (Lib.byteCells [102, 111, 111]) := rdLf w [.int .u8 102, .int .u8 111, .int .u8 111] 5  (3, 4)
  have he : enc [102, 111, 111] = [90, 109, 57, 118] := by decide +kernel
  refine (put_any _ 3 3 [102, 111, 111] _ hr (by omega) (by omega)).mono ?_
  rintro e w' ⟨rfl, hb⟩
  exact ⟨by rw [he], hb⟩
theorem put_lit3 (w : World) : Calls Try.prog 12 #[.slice (some ⟨w.heap.size, 0, none⟩) 4 4] (w.alloc (.cells #[.int .u8 251, .int .u8 239, .int .u8 190, .int .u8 255] 5)) fun e w' => e = .returned (.string ⟨#[43, 43, 43, 43, 47, 119, 61, 61]⟩) ∧ Below (w.alloc (.cells #[.int .u8 251, .int .u8 239, .int .u8 190, .int .u8 255] 5)).heap.size (w.alloc (.cells #[.int .u8 251, .int .u8 239, .int .u8 190, .int .u8 255] 5)) w' := by
  have hr : Rd (w.alloc (.cells #[.int .u8 251, .int .u8 239, .int .u8 190, .int .u8 255] 5)) 1 (some ⟨w.heap.size, 0, none⟩) 4 (Lib.byteCells [251, 239, 190, 255]) := rdLf w [.int .u8 251, .int .u8 239, .int .u8 190, .int .u8 255] 5 (0, 0)
  have he : enc [251, 239, 190, 255] = [43, 43, 43, 43, 47, 119, 61, 61] := by decide +kernel
  refine (put_any _ 4 4 [251, 239, 190, 255] _ hr (by omega) (by omega)).mono ?_
  rintro e w' ⟨rfl, hb⟩
  exact ⟨by rw [he], hb⟩
theorem got_lit0 (w : World) : Calls Try.prog 20 #[.string ⟨#[90, 109, 57, 118, 90, 103, 61, 61]⟩, .string ⟨#[102, 111, 111, 102]⟩] w fun e w' => e = .returned (.bool true) ∧ Below w.heap.size w w' := by
  have he : okOf [90, 109, 57, 118, 90, 103, 61, 61] [102, 111, 111, 102] = true := by decide +kernel
  refine (got_any [90, 109, 57, 118, 90, 103, 61, 61] [102, 111, 111, 102] w (by decide)).mono ?_
  rintro e w' ⟨rfl, hb⟩
  exact ⟨by rw [he], hb⟩
theorem got_lit1 (w : World) : Calls Try.prog 20 #[.string ⟨#[]⟩, .string ⟨#[]⟩] w fun e w' => e = .returned (.bool true) ∧ Below w.heap.size w w' := by
  have he : okOf [] [] = true := by decide +kernel
  refine (got_any [] [] w (by decide)).mono ?_
  rintro e w' ⟨rfl, hb⟩
  exact ⟨by rw [he], hb⟩
theorem fails_lit0 (w : World) : Calls Try.prog 22 #[.string ⟨#[90, 104, 61, 61]⟩, .int .i64 2] w fun e w' => e = .returned (.bool true) ∧ Below w.heap.size w w' := by
  have he : failsAt [90, 104, 61, 61] 2 = true := by decide +kernel
  refine (fails_any [90, 104, 61, 61] 2 w (by decide)).mono ?_
  rintro e w' ⟨rfl, hb⟩
  exact ⟨by rw [he], hb⟩
theorem fails_lit1 (w : World) : Calls Try.prog 22 #[.string ⟨#[90, 109, 57, 61]⟩, .int .i64 3] w fun e w' => e = .returned (.bool true) ∧ Below w.heap.size w w' := by
  have he : failsAt [90, 109, 57, 61] 3 = true := by decide +kernel
  refine (fails_any [90, 109, 57, 61] 3 w (by decide)).mono ?_
  rintro e w' ⟨rfl, hb⟩
  exact ⟨by rw [he], hb⟩
theorem fails_lit2 (w : World) : Calls Try.prog 22 #[.string ⟨#[90, 61, 61, 61]⟩, .int .i64 1] w fun e w' => e = .returned (.bool true) ∧ Below w.heap.size w w' := by
  have he : failsAt [90, 61, 61, 61] 1 = true := by decide +kernel
  refine (fails_any [90, 61, 61, 61] 1 w (by decide)).mono ?_
  rintro e w' ⟨rfl, hb⟩
  exact ⟨by rw [he], hb⟩
theorem fails_lit3 (w : World) : Calls Try.prog 22 #[.string ⟨#[90, 103, 61, 97]⟩, .int .i64 3] w fun e w' => e = .returned (.bool true) ∧ Below w.heap.size w w' := by
  have he : failsAt [90, 103, 61, 97] 3 = true := by decide +kernel
  refine (fails_any [90, 103, 61, 97] 3 w (by decide)).mono ?_
  rintro e w' ⟨rfl, hb⟩
  exact ⟨by rw [he], hb⟩
theorem fails_lit4 (w : World) : Calls Try.prog 22 #[.string ⟨#[90, 103, 61, 61, 90]⟩, .int .i64 4] w fun e w' => e = .returned (.bool true) ∧ Below w.heap.size w w' := by
  have he : failsAt [90, 103, 61, 61, 90] 4 = true := by decide +kernel
  refine (fails_any [90, 103, 61, 61, 90] 4 w (by decide)).mono ?_
  rintro e w' ⟨rfl, hb⟩
  exact ⟨by rw [he], hb⟩
theorem fails_lit5 (w : World) : Calls Try.prog 22 #[.string ⟨#[90, 109, 57]⟩, .int .i64 3] w fun e w' => e = .returned (.bool true) ∧ Below w.heap.size w w' := by
  have he : failsAt [90, 109, 57] 3 = true := by decide +kernel
  refine (fails_any [90, 109, 57] 3 w (by decide)).mono ?_
  rintro e w' ⟨rfl, hb⟩
  exact ⟨by rw [he], hb⟩
theorem fails_lit6 (w : World) : Calls Try.prog 22 #[.string ⟨#[90, 109, 32, 57]⟩, .int .i64 2] w fun e w' => e = .returned (.bool true) ∧ Below w.heap.size w w' := by
  have he : failsAt [90, 109, 32, 57] 2 = true := by decide +kernel
  refine (fails_any [90, 109, 32, 57] 2 w (by decide)).mono ?_
  rintro e w' ⟨rfl, hb⟩
  exact ⟨by rw [he], hb⟩
theorem fails_lit7 (w : World) : Calls Try.prog 22 #[.string ⟨#[90, 109, 45, 95]⟩, .int .i64 2] w fun e w' => e = .returned (.bool true) ∧ Below w.heap.size w w' := by
  have he : failsAt [90, 109, 45, 95] 2 = true := by decide +kernel
  refine (fails_any [90, 109, 45, 95] 2 w (by decide)).mono ?_
  rintro e w' ⟨rfl, hb⟩
  exact ⟨by rw [he], hb⟩
set_option maxRecDepth 100000 in
set_option maxHeartbeats 8000000 in
theorem works_any (w : World) : Calls Try.prog 15 #[] w fun e w' => e = .returned (.bool true) ∧ Below w.heap.size w w' := by
  have hk := Below.refl w.heap.size w
  have kc := fun (w : World) (C : Array Value) (n c : Nat) => Lib.run_convert_bytes_const w 22 5 C n c Try.underlying22 Try.underlying5
  go_enter Try.func15, Try.ntmps15
  go_wp2_with (first
    | (go_at_call 12; with_reducible refine (put_lit0 _).mono ?_; rintro e w' ⟨rfl, hb⟩; replace hk := below_then (below_alloc hk _) hb; clear hb)
    | (go_at_call 12; with_reducible refine (put_lit1 _).mono ?_; rintro e w' ⟨rfl, hb⟩; replace hk := below_then (below_alloc hk _) hb; clear hb)
    | (go_at_call 12; with_reducible refine (put_lit2 _).mono ?_; rintro e w' ⟨rfl, hb⟩; replace hk := below_then (below_alloc hk _) hb; clear hb)
    | (go_at_call 12; with_reducible refine (put_lit3 _).mono ?_; rintro e w' ⟨rfl, hb⟩; replace hk := below_then (below_alloc hk _) hb; clear hb)
    | (go_at_call 20; with_reducible refine (got_lit0 _).mono ?_; rintro e w' ⟨rfl, hb⟩; replace hk := below_then hk hb; clear hb)
    | (go_at_call 20; with_reducible refine (got_lit1 _).mono ?_; rintro e w' ⟨rfl, hb⟩; replace hk := below_then hk hb; clear hb)
    | (go_at_call 22; with_reducible refine (fails_lit0 _).mono ?_; rintro e w' ⟨rfl, hb⟩; replace hk := below_then hk hb; clear hb)
    | (go_at_call 22; with_reducible refine (fails_lit1 _).mono ?_; rintro e w' ⟨rfl, hb⟩; replace hk := below_then hk hb; clear hb)
    | (go_at_call 22; with_reducible refine (fails_lit2 _).mono ?_; rintro e w' ⟨rfl, hb⟩; replace hk := below_then hk hb; clear hb)
    | (go_at_call 22; with_reducible refine (fails_lit3 _).mono ?_; rintro e w' ⟨rfl, hb⟩; replace hk := below_then hk hb; clear hb)
    | (go_at_call 22; with_reducible refine (fails_lit4 _).mono ?_; rintro e w' ⟨rfl, hb⟩; replace hk := below_then hk hb; clear hb)
    | (go_at_call 22; with_reducible refine (fails_lit5 _).mono ?_; rintro e w' ⟨rfl, hb⟩; replace hk := below_then hk hb; clear hb)
    | (go_at_call 22; with_reducible refine (fails_lit6 _).mono ?_; rintro e w' ⟨rfl, hb⟩; replace hk := below_then hk hb; clear hb)
    | (go_at_call 22; with_reducible refine (fails_lit7 _).mono ?_; rintro e w' ⟨rfl, hb⟩; replace hk := below_then hk hb; clear hb))
  go_ret
  exact ⟨rfl, hk⟩
end Go.Proofs.Ytcoboifdmpeelaa
