import Derived.Test.YtcoboifdmpeelaaTake2
namespace Go.Proofs.Ytcoboifdmpeelaa
open Go.RowKit
def bs3 (V : Nat) : List UInt8 := [UInt8.ofNat (V / 65536), UInt8.ofNat (V / 256), UInt8.ofNat V]
theorem rdL (w : World) (xs : List Value) (e : TypeId) : Rd (w.alloc (.cells xs.toArray e)) 1 (some ⟨w.heap.size, 0, none⟩) xs.length xs := by
  refine ⟨by simp, fun _ => ⟨w.heap.size, 0, rfl, by simp, fun k u hu => ?_⟩⟩
  rw [cell_of_row _ _ (0 + k) _ e (0, 0) (heap_alloc_last _ _)]
  simpa using hu
theorem rd3 (w : World) (V : Nat) (hV : V < 16777216) : Rd (w.alloc (.cells #[.int .u8 ((V : Int) / 65536), .int .u8 ((V : Int) / 256 % 256), .int .u8 ((V : Int) % 256)] 5)) 1 (some ⟨w.heap.size, 0, none⟩) 3 (Lib.byteCells (bs3 V)) := by
  have e : Lib.byteCells (bs3 V) = [.int .u8 ((V : Int) / 65536), .int .u8 ((V : Int) / 256 % 256), .int .u8 ((V : Int) % 256)] := by
    simp only [Lib.byteCells, bs3, List.map_cons, List.map_nil, UInt8.toNat_ofNat']
    rw [Nat.mod_eq_of_lt (show V / 65536 < 2 ^ 8 by omega)]
    rfl
  rw [e]
  exact rdL w [.int .u8 ((V : Int) / 65536), .int .u8 ((V : Int) / 256 % 256), .int .u8 ((V : Int) % 256)] 5
set_option maxRecDepth 100000 in
set_option maxHeartbeats 8000000 in
theorem bytes0 (g n d : Nat) (w : World) (h : Grp w g n d 0) (hn : n < 16777216) :
    Calls Try.prog 29 #[.pointer (some ⟨g, 0, none⟩)] w fun e w' => (∃ A, e = .returned (.slice A 3 3) ∧ Rd w' 1 A 3 (Lib.byteCells ((bs3 (n * 1)).take 3))) ∧ Below w.heap.size w w' := by
  have c0 := h.c0
  have c2 : w.cell? ⟨g, 2, none⟩ = some (.int .i64 0) := h.c2
  obtain ⟨V, hV⟩ : ∃ V : Nat, n * 1 = V := ⟨_, rfl⟩
  have eV : (n : Int) = (V : Int) := by omega
  rw [hV]
  have hVl : V < 16777216 := by omega
  clear hV
  have hg : g < w.heap.size := by
    rcases Nat.lt_or_ge g w.heap.size with h' | h'
    · exact h'
    · simp [Grp, Array.getElem?_eq_none h'] at h
  have c3 : ∀ (k : Nat) (o : Obj), ((w.drewN k).alloc o).cell? ⟨g, 2, none⟩ = some (.int .i64 0) := fun k o => by
    have h2 : ((w.drewN k).alloc o).heap[g]? = w.heap[g]? := Lib.alloc_old (w.drewN k) o g hg
    rw [World.cell?_of_block h2]
    exact c2
  go_enter Try.func29, Try.ntmps29
  go_wp2
  go_quiet (fail)
  go_wp2
  go_quiet (fail)
  go_wp2
  go_ret
  refine ⟨⟨_, rfl, ?_⟩, below_drewN (Below.alloc (below_drewN (Below.refl _ _) _) (Nat.le_refl _) _) _⟩
  exact ((rd3 (w.drewN _) V hVl).drewN _).take1 (by omega)
set_option maxRecDepth 100000 in
set_option maxHeartbeats 8000000 in
theorem bytes1 (g n d : Nat) (w : World) (h : Grp w g n d 1) (hn : n < 262144) :
    Calls Try.prog 29 #[.pointer (some ⟨g, 0, none⟩)] w fun e w' => (∃ A, e = .returned (.slice A 2 2) ∧ Rd w' 1 A 2 (Lib.byteCells ((bs3 (n * 64)).take 2))) ∧ Below w.heap.size w w' := by
  have c0 := h.c0
  have c2 : w.cell? ⟨g, 2, none⟩ = some (.int .i64 1) := h.c2
  obtain ⟨V, hV⟩ : ∃ V : Nat, n * 64 = V := ⟨_, rfl⟩
  have eV : IntKind.i64.wrap ((n : Int) * 64) = (V : Int) := by rw [wrapi_id (by omega) (by omega)]; omega
  rw [hV]
  have hVl : V < 16777216 := by omega
  clear hV
  have hg : g < w.heap.size := by
    rcases Nat.lt_or_ge g w.heap.size with h' | h'
    · exact h'
    · simp [Grp, Array.getElem?_eq_none h'] at h
  have c3 : ∀ (k : Nat) (o : Obj), ((w.drewN k).alloc o).cell? ⟨g, 2, none⟩ = some (.int .i64 1) := fun k o => by
    have h2 : ((w.drewN k).alloc o).heap[g]? = w.heap[g]? := Lib.alloc_old (w.drewN k) o g hg
    rw [World.cell?_of_block h2]
    exact c2
  go_enter Try.func29, Try.ntmps29
  go_wp2
  go_quiet (fail)
  go_wp2
  go_quiet (fail)
  go_wp2
  go_ret
  refine ⟨⟨_, rfl, ?_⟩, below_drewN (Below.alloc (below_drewN (Below.refl _ _) _) (Nat.le_refl _) _) _⟩
  exact ((rd3 (w.drewN _) V hVl).drewN _).take1 (by omega)
set_option maxRecDepth 100000 in
set_option maxHeartbeats 8000000 in
theorem bytes2 (g n d : Nat) (w : World) (h : Grp w g n d 2) (hn : n < 4096) :
    Calls Try.prog 29 #[.pointer (some ⟨g, 0, none⟩)] w fun e w' => (∃ A, e = .returned (.slice A 1 1) ∧ Rd w' 1 A 1 (Lib.byteCells ((bs3 (n * 4096)).take 1))) ∧ Below w.heap.size w w' := by
  have c0 := h.c0
  have c2 : w.cell? ⟨g, 2, none⟩ = some (.int .i64 2) := h.c2
  obtain ⟨V, hV⟩ : ∃ V : Nat, n * 4096 = V := ⟨_, rfl⟩
  have eV : IntKind.i64.wrap ((n : Int) * 4096) = (V : Int) := by rw [wrapi_id (by omega) (by omega)]; omega
  rw [hV]
  have hVl : V < 16777216 := by omega
  clear hV
  have hg : g < w.heap.size := by
    rcases Nat.lt_or_ge g w.heap.size with h' | h'
    · exact h'
    · simp [Grp, Array.getElem?_eq_none h'] at h
  have c3 : ∀ (k : Nat) (o : Obj), ((w.drewN k).alloc o).cell? ⟨g, 2, none⟩ = some (.int .i64 2) := fun k o => by
    have h2 : ((w.drewN k).alloc o).heap[g]? = w.heap[g]? := Lib.alloc_old (w.drewN k) o g hg
    rw [World.cell?_of_block h2]
    exact c2
  go_enter Try.func29, Try.ntmps29
  go_wp2
  go_quiet (fail)
  go_wp2
  go_quiet (fail)
  go_wp2
  go_ret
  refine ⟨⟨_, rfl, ?_⟩, below_drewN (Below.alloc (below_drewN (Below.refl _ _) _) (Nat.le_refl _) _) _⟩
  exact ((rd3 (w.drewN _) V hVl).drewN _).take1 (by omega)
end Go.Proofs.Ytcoboifdmpeelaa
