import Derived.Test.YtcoboifdmpeelaaWorks
import Derived.Test.YtcoboifdmpeelaaSame
import Derived.Test.YtcoboifdmpeelaaOpen
namespace Go.Proofs.Ytcoboifdmpeelaa
open Go.RowKit
/-- A list of integers that are bytes, as bytes. -/
def asBytes (zs : List Int) : List UInt8 := zs.map fun z => UInt8.ofNat z.toNat
theorem asBytes_cells {zs : List Int} (h : ∀ z ∈ zs, (Lit.int .u8 z).wf = true) : zs.map (Value.int .u8) = Lib.byteCells (asBytes zs) := by
  simp only [Lib.byteCells, asBytes, List.map_map]
  refine List.map_congr_left fun z hz => ?_
  have hb := h z hz
  simp [Lit.wf, IntKind.min, IntKind.max, IntKind.bits, IntKind.signed] at hb
  simp only [Function.comp, UInt8.toNat_ofNat']
  congr 1
  omega
theorem rdTake {w : World} {A : Option Addr} {n : Nat} {l : List UInt8} (h : Rd w 1 A n (Lib.byteCells l)) (k : Nat) : Rd w 1 A (min (n : Int) (k : Int)).toNat (Lib.byteCells (l.take k)) := by
  have hl : l.length = n := by have := h.1; simpa [Lib.byteCells_length] using this
  have hk : (min (n : Int) (k : Int)).toNat = min n k := by omega
  have ek : l.take (min n k) = l.take k := by rw [Nat.min_comm, ← List.take_take, ← hl, List.take_length]
  have := h.take1 (Nat.min_le_left n k)
  rw [hk, ← ek]
  simpa [Lib.byteCells, List.map_take] using this
set_option maxHeartbeats 2000000 in
theorem b64Puts_walk (A : Option Addr) (n c : Nat) (zs : List Int) (w : World) (h : IsInts .u8 w A n c zs) :
    Calls Try.prog 3 #[.slice A n c] w fun e w' => e = .returned (.bool true) ∧ Below w.heap.size w w' := by
  obtain ⟨hr, hn, hc, hwf⟩ := h
  unfold maxLen at hc
  rw [asBytes_cells hwf] at hr
  have h4 := rdTake hr 400
  have hm : (min (n : Int) ((400 : Nat) : Int)).toNat ≤ 1000000 := by omega
  rw [show ((400 : Nat) : Int) = 400 from rfl] at h4 hm
  generalize (asBytes zs).take 400 = l at h4
  clear hr hwf
  go_enter Try.func3, Try.ntmps3
  have hk := Below.refl w.heap.size w
  go_wp2_with (first
    | (go_at_call 11; refine (copyBytes_any A _ c l _ h4 hm).mono ?_; rintro e w1 ⟨⟨v, rfl, ho⟩, hb⟩; obtain ⟨B, d, rfl, hd, hd'⟩ := own_shape ho; have hB := Rd.of_own ho; replace h4 := h4.below hb; replace hk := below_then hk hb; clear hb ho)
    | (go_at_call 12; refine (put_any B _ d l _ hB hd hm).mono ?_; rintro e w1 ⟨rfl, hb⟩; replace h4 := h4.below hb; replace hB := hB.below hb; replace hk := below_then hk hb; clear hb)
    | (go_at_call 13; refine (refPut_any B _ d l _ hB hm).mono ?_; rintro e w1 ⟨rfl, hb⟩; rw [encR_eq]; replace h4 := h4.below hb; replace hB := hB.below hb; replace hk := below_then hk hb; clear hb)
    | (go_at_call 14; refine (eqBytes_any B _ d l A _ c l _ hB h4).mono ?_; rintro e w1 ⟨rfl, rfl⟩)
    | (go_at_call 15; refine (works_any _).mono ?_; rintro e w1 ⟨rfl, hb⟩))
  go_ret
  exact ⟨rfl, below_then hk (by assumption)⟩
end Go.Proofs.Ytcoboifdmpeelaa
