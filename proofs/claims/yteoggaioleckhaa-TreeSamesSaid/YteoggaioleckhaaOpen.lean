import Derived.Test.YteoggaioleckhaaMem
import Derived.ProofKit
import Derived.OpenShut
import Derived.ShutString
import Derived.ChangeOld
import Derived.SliceStrings
/- What a slice that came in reads as, in this claim's own words ('Rd'). -/
namespace Go.Proofs.Yteoggaioleckhaa
open Go.ChangeShapes Go.WideShapes Go.ChangeAt Go.RowKit
def IsInts (k : IntKind) (w : World) (A : Option Addr) (n c : Nat) (zs : List Int) : Prop :=
  Rd w 1 A n (zs.map (Value.int k)) ∧ n ≤ c ∧ c ≤ maxLen ∧ ∀ z ∈ zs, (Lit.int k z).wf = true
def IsStrs (w : World) (A : Option Addr) (n c : Nat) (ss : List ByteArray) : Prop :=
  Rd w 1 A n (ss.map Value.string) ∧ n ≤ c ∧ c ≤ maxLen ∧ ∀ s ∈ ss, s.size ≤ maxLen
section
variable {H : Type} {enc : TypeId × Value → H} {P : Program} {W : World}
theorem at_spot {a : Addr} {v : Value} (h : W.cell? a = some v) : ∃ b off, a = ⟨b, off, none⟩ ∧ b < W.heap.size := by
  obtain ⟨b, off, s⟩ := a
  cases s with
  | none => exact ⟨b, off, rfl, block_lt_of_cell h⟩
  | some x =>
    exfalso
    simp only [World.cell?] at h
    split at h
    · simp at h
    · cases h
theorem isInts_of {t e : TypeId} {k : IntKind} {A : Option Addr} {n c : Nat} {d : DataW H} {p : List MemPlace} (ht : P.underlying t = some (.slice e)) (he : P.underlying e = some (.int k)) (hc : P.cellsOf e = 1)
    (h : DataW.Trod enc P W 0 (fun _ => true) true t (.slice A n c) d p) : ∃ zs, IsInts k W A n c zs := by
  obtain ⟨fuel, hf⟩ := h
  rcases open_ints ht he hc hf with ⟨hcs, _⟩ | ⟨x, l, cp, zs, hcs, _, hl, hm, hz, _, hcell, hwz⟩
  · simp [Value.cells] at hcs
    obtain ⟨rfl, rfl, rfl⟩ := hcs
    exact ⟨[], Rd.none_ _ _ _, Nat.le_refl _, Nat.zero_le _, fun z hz => by cases hz⟩
  · simp [Value.cells] at hcs
    obtain ⟨rfl, rfl, rfl⟩ := hcs
    have hz' : n ≤ zs.length := by simp at hz; omega
    refine ⟨zs.take n, ⟨⟨by simp; omega, fun hp => ?_⟩, hl, hm, fun z hzm => hwz z (List.mem_of_mem_take hzm)⟩⟩
    obtain ⟨b, off, rfl, hcc⟩ := ints_at hcell (by omega)
    refine ⟨b, off, rfl, block_lt_of_cell (a := ⟨b, off + 0, none⟩) (hcc 0 (by omega)), fun j u hu => ?_⟩
    rw [List.getElem?_map, List.getElem?_take] at hu
    split at hu
    · rename_i hj
      have hj' : j < zs.length := by omega
      rw [hcc j hj']
      rw [List.getElem?_eq_getElem hj'] at hu
      simpa [List.getD, List.getElem?_eq_getElem hj'] using hu
    · cases hu
theorem isStrs_of {t e : TypeId} {A : Option Addr} {n c : Nat} {d : DataW H} {p : List MemPlace} (ht : P.underlying t = some (.slice e)) (he : P.underlying e = some .string) (hc : P.cellsOf e = 1)
    (h : DataW.Trod enc P W 0 (fun _ => true) true t (.slice A n c) d p) : ∃ ss, IsStrs W A n c ss := by
  obtain ⟨fuel, hf⟩ := h
  rcases open_strings ht he hc hf with ⟨hcs, _⟩ | ⟨x, l, cp, ss, hcs, _, hl, hm, hz, _, hcell, hwz⟩
  · simp [Value.cells] at hcs
    obtain ⟨rfl, rfl, rfl⟩ := hcs
    exact ⟨[], Rd.none_ _ _ _, Nat.le_refl _, Nat.zero_le _, fun z hz => by cases hz⟩
  · simp [Value.cells] at hcs
    obtain ⟨rfl, rfl, rfl⟩ := hcs
    have hz' : n ≤ ss.length := by simp at hz; omega
    refine ⟨ss.take n, ⟨⟨by simp; omega, fun hp => ?_⟩, hl, hm, fun z hzm => hwz z (List.mem_of_mem_take hzm)⟩⟩
    have hx : ∃ b off, x = ⟨b, off, none⟩ ∧ b < W.heap.size := by
      have h0 := hcell 0 (by omega)
      rw [show x.add 0 = x from rfl] at h0
      exact at_spot h0
    obtain ⟨b, off, rfl, hb⟩ := hx
    refine ⟨b, off, rfl, hb, fun j u hu => ?_⟩
    rw [List.getElem?_map, List.getElem?_take] at hu
    split at hu
    · rename_i hj
      have hj' : j < ss.length := by omega
      have hj2 := hcell j hj'
      rw [spot_add] at hj2
      rw [hj2]
      rw [List.getElem?_eq_getElem hj'] at hu
      simpa [List.getD, List.getElem?_eq_getElem hj'] using hu
    · cases hu
end
end Go.Proofs.Yteoggaioleckhaa
