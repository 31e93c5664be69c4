import Derived.Test.YtmepbafmocjnaaaSlices
import Derived.Deep.WholeRow
namespace Go.Proofs.Ytmepbafmocjnaaa
open Go.RowKit
theorem rd_lit (w : World) (zs : List Int) : Rd (w.alloc (.cells (ints zs).toArray 3)) 1 (some ⟨w.heap.size, 0, none⟩) zs.length (ints zs) := by
  refine ⟨by simp [ints], fun _ => ⟨w.heap.size, 0, rfl, by simp, fun k u hu => ?_⟩⟩
  rw [cell_of_row _ _ (0 + k) _ 3 (0, 0) (heap_alloc_last _ _)]
  simpa using hu
theorem max_3 (w : World) : Calls Try.prog 22 #[.slice (some ⟨w.heap.size, 0, none⟩) 3 3] (w.alloc (.cells #[.int .i64 1, .int .i64 4, .int .i64 2] 3)) fun e w' => e = .returned (.int .i64 4) ∧ Below (w.alloc (.cells #[.int .i64 1, .int .i64 4, .int .i64 2] 3)).heap.size (w.alloc (.cells #[.int .i64 1, .int .i64 4, .int .i64 2] 3)) w' :=
  max_any _ 3 3 [1, 4, 2] _ (rd_lit w [1, 4, 2]) (by omega)
theorem max_1 (w : World) : Calls Try.prog 22 #[.slice (some ⟨w.heap.size, 0, none⟩) 1 1] (w.alloc (.cells #[.int .i64 (-3)] 3)) fun e w' => e = .returned (.int .i64 1) ∧ Below (w.alloc (.cells #[.int .i64 (-3)] 3)).heap.size (w.alloc (.cells #[.int .i64 (-3)] 3)) w' :=
  max_any _ 1 1 [-3] _ (rd_lit w [-3]) (by omega)
theorem max_0 (w : World) : Calls Try.prog 22 #[.slice none 0 0] w fun e w' => e = .returned (.int .i64 1) ∧ Below w.heap.size w w' :=
  max_any _ 0 0 [] _ (Rd.none_ _ _ _) (by omega)
theorem below_alloc {w w1 : World} (h : Below w.heap.size w w1) (o : Obj) : Below w.heap.size w (w1.alloc o) := h.alloc h.size o
set_option maxHeartbeats 3200000 in
theorem works_any (w : World) : Calls Try.prog 18 #[] w fun e w' => e = .returned (.bool true) ∧ Below w.heap.size w w' := by
  have a0 : (ofW 0 != 1) = false := rfl
  have a1 : (ofW 255 != 1) = false := rfl
  have a2 : (ofW 256 != 2) = false := rfl
  have a3 : (ofW 65536 != 4) = false := rfl
  have a4 : (ofW 4294967296 != 8) = false := rfl
  have b0 : (oiW 127 != 1) = false := rfl
  have b1 : (oiW 128 != 2) = false := rfl
  have b2 : (oiW (-128) != 1) = false := rfl
  have b3 : (oiW (-129) != 2) = false := rfl
  have b4 : (oiW (-2147483649) != 8) = false := rfl
  go_enter Try.func18, Try.ntmps18
  go_wp2_with (first
    | (go_at_call 14; refine (of_any _ (by decide) (by decide) _).mono ?_; rintro e w' ⟨rfl, rfl⟩)
    | (go_at_call 16; refine (ofInt_any _ (by decide) (by decide) _).mono ?_; rintro e w' ⟨rfl, rfl⟩)
    | (go_at_call 10; refine (code_any _ _).mono ?_; rintro e w' ⟨rfl, rfl⟩)
    | (go_at_call 12; refine (back_any _ _).mono ?_; rintro e w' ⟨rfl, rfl⟩)
    | (go_at_call 20; refine (up_any _ _ _).mono ?_; rintro e w' ⟨rfl, rfl⟩)
    | (go_at_call 31; refine (is_yes _ _ _ _ (by rfl) (by rfl) _).mono ?_; rintro e w' ⟨rfl, rfl⟩)
    | (go_at_call 22; (with_reducible refine (max_3 _).mono ?_); rintro e w' ⟨rfl, hb⟩)
    | (go_at_call 22; (with_reducible refine (max_0 _).mono ?_); rintro e w' ⟨rfl, hb⟩)
    | (go_at_call 22; (with_reducible refine (max_1 _).mono ?_); rintro e w' ⟨rfl, hb⟩))
  go_ret
  exact ⟨rfl, by repeat (first | exact Below.refl _ _ | (refine below_then ?_ (by assumption)) | refine below_alloc ?_ _)⟩
end Go.Proofs.Ytmepbafmocjnaaa
