import Derived.Test.YtiagpjjjggldeaaKinds
import Derived.Maps.OwnSet
import Derived.BigQuiet
import Derived.Deep.QuietTactic
namespace Go.Proofs.Ytiagpjjjggldeaa
open Go.RowKit Go.ChangeMaps

section
variable {P : Program}
theorem run_mapUpdate_new (w : World) (t k e : TypeId) (ht : P.underlying t = some (.map k e)) (b : Nat) (es : Array MapEntry) (clock : Nat) (hb : w.heap[b]? = some (.map es clock))
    (key val : Value) (hck : (Instr.checkKey false 10000 k key).run P w = .ok () w) (hf : (Instr.findKey k key es.toList).run P w = .ok none w) :
    (Instr.mapUpdate t (.map (some b)) key val).run P w = .ok () (setBlock w b (.map (es.push ⟨key, val, clock⟩) (clock + 1))) := by
  simp [Instr.mapUpdate, run_underlying ht, MapKept.run_getObj_map hb, hck, hf, MapKept.run_setObj_map _ hb, Result.andThen, setBlock]
theorem setBlock_alloc_new (w : World) (o o' : Obj) : setBlock (w.alloc o) w.heap.size o' = w.alloc o' := by
  unfold setBlock World.alloc
  simp only [World.mk.injEq, and_self, and_true]
  apply Array.ext_getElem?
  intro i
  rw [Array.getElem?_setIfInBounds, Array.getElem?_push, Array.getElem?_push]
  by_cases h : i = w.heap.size
  · subst h; simp
  · have h' : ¬ w.heap.size = i := fun e => h e.symm
    simp [h, h']
theorem run_mapUpdate_last (w : World) (t k e : TypeId) (ht : P.underlying t = some (.map k e)) (es : Array MapEntry) (clock : Nat)
    (key val : Value) (hck : (Instr.checkKey false 10000 k key).run P (w.alloc (.map es clock)) = .ok () (w.alloc (.map es clock))) (hf : (Instr.findKey k key es.toList).run P (w.alloc (.map es clock)) = .ok none (w.alloc (.map es clock))) :
    (Instr.mapUpdate t (.map (some w.heap.size)) key val).run P (w.alloc (.map es clock)) = .ok () (w.alloc (.map (es.push ⟨key, val, clock⟩) (clock + 1))) := by
  rw [run_mapUpdate_new (w.alloc (.map es clock)) t k e ht w.heap.size es clock (heap_alloc_last _ _) key val hck hf, setBlock_alloc_new]
theorem run_lookup_hit (w : World) (t k e : TypeId) (ht : P.underlying t = some (.map k e)) (b : Nat) (es : Array MapEntry) (clock : Nat) (hb : w.heap[b]? = some (.map es clock))
    (key v : Value) (i : Nat) (hck : (Instr.checkKey es.isEmpty 10000 k key).run P w = .ok () w) (hf : (Instr.findKey k key es.toList).run P w = .ok (some (i, v)) w) :
    (Instr.lookup t (.map (some b)) key true).run P w = .ok (.tuple #[v, .bool true]) w := by
  simp [Instr.lookup, run_underlying ht, MapKept.run_getObj_map hb, hck, hf, Result.andThen]
theorem run_lookup_miss (w : World) (t k e : TypeId) (ht : P.underlying t = some (.map k e)) (b : Nat) (es : Array MapEntry) (clock : Nat) (hb : w.heap[b]? = some (.map es clock))
    (key z : Value) (hz : (zeroValue e).run P w = .ok z w) (hck : (Instr.checkKey es.isEmpty 10000 k key).run P w = .ok () w) (hf : (Instr.findKey k key es.toList).run P w = .ok none w) :
    (Instr.lookup t (.map (some b)) key true).run P w = .ok (.tuple #[z, .bool false]) w := by
  simp [Instr.lookup, run_underlying ht, MapKept.run_getObj_map hb, hck, hf, hz, Result.andThen]
end

theorem field45 (a b c : Value) (w : World) : (Instr.field 45 (.agg #[a, b, c]) 0).run Try.prog w = .ok a w := by kernel_rfl

set_option maxHeartbeats 400000 in
theorem legal_any (t : Int) (w : World) :
    Calls Try.prog 19 #[.int .i64 t] w fun e w' => e = .returned (.bool (kIs t != 0)) ∧ Below w.heap.size w w' := by
  have hf := field45
  go_enter Try.func19, Try.ntmps19
  go_wp2_with (go_at_call 29; refine (of_any _ _).mono ?_; rintro e w' ⟨rfl, hb⟩)
  go_ret
  exact ⟨rfl, hb⟩
set_option maxHeartbeats 400000 in
theorem inline_any (t : Int) (w : World) :
    Calls Try.prog 21 #[.int .i64 t] w fun e w' => e = .returned (.bool (kIs t == 1)) ∧ Below w.heap.size w w' := by
  have hf := field45
  go_enter Try.func21, Try.ntmps21
  go_wp2_with (go_at_call 29; refine (of_any _ _).mono ?_; rintro e w' ⟨rfl, hb⟩)
  go_ret
  exact ⟨rfl, hb⟩
theorem below_drewN {B : Nat} {w w' : World} (h : Below B w w') (n : Nat) : Below B w (w'.drewN n) := ⟨h.os, h.tape, h.output, h.size, h.block⟩
set_option maxHeartbeats 400000 in
theorem elem_any (t : Int) (w : World) :
    Calls Try.prog 15 #[.int .i64 t] w fun e w' => e = .returned (.tuple #[.int .i64 (kElem t), .int .i64 (kMany t), .bool (kIs t == 3)]) ∧ Below w.heap.size w w' := by
  go_enter Try.func15, Try.ntmps15
  go_wp2_with (go_at_call 29; refine (of_any _ _).mono ?_; rintro e w' ⟨rfl, hb⟩)
  go_quiet (fail)
  go_wp2
  go_ret3
  exact ⟨rfl, below_drewN (hb.alloc hb.size _) _⟩

def pcode (x : Int) : Int := if x = 1 then 0 else if x = 2 then 1 else if x = 4 then 2 else if x = 8 then 3 else 0
def isW (x : Int) : Bool := decide (x = 1 ∨ x = 2 ∨ x = 4 ∨ x = 8)
def ents4 : Array MapEntry := #[⟨.int .i64 1, .int .i64 0, 0⟩, ⟨.int .i64 2, .int .i64 1, 1⟩, ⟨.int .i64 4, .int .i64 2, 2⟩, ⟨.int .i64 8, .int .i64 3, 3⟩]
theorem ins0 (w : World) : (Instr.mapUpdate 39 (.map (some w.heap.size)) (.int .i64 1) (.int .i64 0)).run Try.prog (w.alloc (.map #[] 0)) = .ok () (w.alloc (.map #[⟨.int .i64 1, .int .i64 0, 0⟩] 1)) :=
  run_mapUpdate_last w 39 3 3 Try.underlying39 _ _ _ _ (by kernel_rfl) (by kernel_rfl)
theorem ins1 (w : World) : (Instr.mapUpdate 39 (.map (some w.heap.size)) (.int .i64 2) (.int .i64 1)).run Try.prog (w.alloc (.map #[⟨.int .i64 1, .int .i64 0, 0⟩] 1)) = .ok () (w.alloc (.map #[⟨.int .i64 1, .int .i64 0, 0⟩, ⟨.int .i64 2, .int .i64 1, 1⟩] 2)) :=
  run_mapUpdate_last w 39 3 3 Try.underlying39 _ _ _ _ (by kernel_rfl) (by kernel_rfl)
theorem ins2 (w : World) : (Instr.mapUpdate 39 (.map (some w.heap.size)) (.int .i64 4) (.int .i64 2)).run Try.prog (w.alloc (.map #[⟨.int .i64 1, .int .i64 0, 0⟩, ⟨.int .i64 2, .int .i64 1, 1⟩] 2)) = .ok () (w.alloc (.map #[⟨.int .i64 1, .int .i64 0, 0⟩, ⟨.int .i64 2, .int .i64 1, 1⟩, ⟨.int .i64 4, .int .i64 2, 2⟩] 3)) :=
  run_mapUpdate_last w 39 3 3 Try.underlying39 _ _ _ _ (by kernel_rfl) (by kernel_rfl)
theorem ins3 (w : World) : (Instr.mapUpdate 39 (.map (some w.heap.size)) (.int .i64 8) (.int .i64 3)).run Try.prog (w.alloc (.map #[⟨.int .i64 1, .int .i64 0, 0⟩, ⟨.int .i64 2, .int .i64 1, 1⟩, ⟨.int .i64 4, .int .i64 2, 2⟩] 3)) = .ok () (w.alloc (.map ents4 4)) :=
  run_mapUpdate_last w 39 3 3 Try.underlying39 _ _ _ _ (by kernel_rfl) (by kernel_rfl)
theorem look4 (x : Int) (w : World) : (Instr.lookup 39 (.map (some w.heap.size)) (.int .i64 x) true).run Try.prog (w.alloc (.map ents4 4)) = .ok (.tuple #[.int .i64 (pcode x), .bool (isW x)]) (w.alloc (.map ents4 4)) := by
  by_cases h1 : x = 1
  · subst h1; exact run_lookup_hit _ 39 3 3 Try.underlying39 _ _ _ (heap_alloc_last _ _) _ _ 0 (by kernel_rfl) (by kernel_rfl)
  by_cases h2 : x = 2
  · subst h2; exact run_lookup_hit _ 39 3 3 Try.underlying39 _ _ _ (heap_alloc_last _ _) _ _ 1 (by kernel_rfl) (by kernel_rfl)
  by_cases h4 : x = 4
  · subst h4; exact run_lookup_hit _ 39 3 3 Try.underlying39 _ _ _ (heap_alloc_last _ _) _ _ 2 (by kernel_rfl) (by kernel_rfl)
  by_cases h8 : x = 8
  · subst h8; exact run_lookup_hit _ 39 3 3 Try.underlying39 _ _ _ (heap_alloc_last _ _) _ _ 3 (by kernel_rfl) (by kernel_rfl)
  have e1 : pcode x = 0 := by simp [pcode, h1, h2, h4, h8]
  have e2 : isW x = false := by simp [isW, h1, h2, h4, h8]
  rw [e1, e2]
  refine run_lookup_miss _ 39 3 3 Try.underlying39 _ _ _ (heap_alloc_last _ _) _ _ (by kernel_rfl) (by kernel_rfl) ?_
  have b1 : (x == 1) = false := by simp [h1]
  have b2 : (x == 2) = false := by simp [h2]
  have b4 : (x == 4) = false := by simp [h4]
  have b8 : (x == 8) = false := by simp [h8]
  have hn : Instr.findNow (.int .i64) (.int .i64 x) ents4.toList 0 = some none := by
    simp only [ents4, Instr.findNow, Instr.sameNow, if_true, b1, b2, b4, b8]
  unfold Instr.findKey
  simp only [Sem.run_bind, run_underlying Try.underlying3, Result.andThen_ok, hn, Sem.run_pure]

set_option maxHeartbeats 400000 in
theorem pack_type (t x : Int) (w : World) (h : (kIs t != 0) = false) :
    Calls Try.prog 10 #[.int .i64 t, .int .i64 x] w fun e w' => e = .returned (.tuple #[.int .u8 0, .int .i64 20]) ∧ Below w.heap.size w w' := by
  go_enter Try.func10, Try.ntmps10
  go_wp2_with (go_at_call 19; refine (legal_any _ _).mono ?_; rintro e w' ⟨rfl, hb⟩)
  go_ret2
  exact ⟨rfl, hb⟩
set_option maxHeartbeats 400000 in
theorem pack_arg (t x : Int) (w : World) (h : (kIs t != 0) = true) (hx : isW x = false) :
    Calls Try.prog 10 #[.int .i64 t, .int .i64 x] w fun e w' => e = .returned (.tuple #[.int .u8 0, .int .i64 2]) ∧ Below w.heap.size w w' := by
  have hmm := @run_makeMap Try.prog
  have i0 := ins0
  have i1 := ins1
  have i2 := ins2
  have i3 := ins3
  have l4 := look4
  go_enter Try.func10, Try.ntmps10
  go_wp2_with (go_at_call 19; refine (legal_any _ _).mono ?_; rintro e w' ⟨rfl, hb⟩)
  go_ret2
  exact ⟨rfl, hb.alloc hb.size _⟩
set_option maxHeartbeats 400000 in
theorem pack_ok (t x : Int) (w : World) (h : (kIs t != 0) = true) (hx : isW x = true) (t0 : 0 ≤ t) (t1 : t < 37) (c0 : 0 ≤ pcode x) (c1 : pcode x < 4) :
    Calls Try.prog 10 #[.int .i64 t, .int .i64 x] w fun e w' => e = .returned (.tuple #[.int .u8 (4 * t + pcode x), .int .i64 0]) ∧ Below w.heap.size w w' := by
  have hmm := @run_makeMap Try.prog
  have i0 := ins0
  have i1 := ins1
  have i2 := ins2
  have i3 := ins3
  have l4 := look4
  go_enter Try.func10, Try.ntmps10
  go_wp2_with (go_at_call 19; refine (legal_any _ _).mono ?_; rintro e w' ⟨rfl, hb⟩)
  go_ret2
  exact ⟨rfl, hb.alloc hb.size _⟩
def packC (t x : Int) : Int := if (kIs t != 0) = true then (if isW x = true then 4 * t + pcode x else 0) else 0
def packE (t x : Int) : Int := if (kIs t != 0) = true then (if isW x = true then 0 else 2) else 20
theorem kIs_range (t : Int) (h : (kIs t != 0) = true) : 0 ≤ t ∧ t < 37 := by
  by_cases h0 : t < 0
  · have := (k_low t (Or.inl h0)).1; simp [this] at h
  · by_cases h1 : 37 ≤ t
    · have := (k_low t (Or.inr h1)).1; simp [this] at h
    · omega
theorem pcode_range (x : Int) : 0 ≤ pcode x ∧ pcode x < 4 := by
  unfold pcode; split; omega; split; omega; split; omega; split <;> omega
theorem pack_any (t x : Int) (w : World) :
    Calls Try.prog 10 #[.int .i64 t, .int .i64 x] w fun e w' => e = .returned (.tuple #[.int .u8 (packC t x), .int .i64 (packE t x)]) ∧ Below w.heap.size w w' := by
  cases h : (kIs t != 0)
  · have e1 : packC t x = 0 := by simp [packC, h]
    have e2 : packE t x = 20 := by simp [packE, h]
    rw [e1, e2]
    exact pack_type t x w h
  · obtain ⟨t0, t1⟩ := kIs_range t h
    obtain ⟨c0, c1⟩ := pcode_range x
    cases hx : isW x
    · have e1 : packC t x = 0 := by simp [packC, hx]
      have e2 : packE t x = 2 := by simp [packE, h, hx]
      rw [e1, e2]
      exact pack_arg t x w h hx
    · have e1 : packC t x = 4 * t + pcode x := by simp [packC, h, hx]
      have e2 : packE t x = 0 := by simp [packE, h, hx]
      rw [e1, e2]
      exact pack_ok t x w h hx t0 t1 c0 c1
def wOf (c : Int) : Int := if c % 4 = 0 then 1 else if c % 4 = 1 then 2 else if c % 4 = 2 then 4 else 8
theorem pow_wOf (c : Int) : wrap64 (2 ^ (c % 4).toNat) = wOf c := by
  have h : c % 4 = 0 ∨ c % 4 = 1 ∨ c % 4 = 2 ∨ c % 4 = 3 := by omega
  unfold wOf
  rcases h with h | h | h | h <;> simp [h, wrap64]
def unT (c : Int) : Int := if (kIs (c / 4) != 0) = true then c / 4 else 0
def unW (c : Int) : Int := if (kIs (c / 4) != 0) = true then wOf c else 0
def unE (c : Int) : Int := if (kIs (c / 4) != 0) = true then 0 else 20
theorem ret3 {a b c a' b' c' : Value} (h1 : a = a') (h2 : b = b') (h3 : c = c') : Ending.returned (.tuple #[a, b, c]) = Ending.returned (.tuple #[a', b', c']) := by rw [h1, h2, h3]
set_option maxHeartbeats 400000 in
theorem unpack_any (c : Int) (w : World) (c0 : 0 ≤ c) (c1 : c < 256) :
    Calls Try.prog 12 #[.int .u8 c] w fun e w' => e = .returned (.tuple #[.int .i64 (unT c), .int .i64 (unW c), .int .i64 (unE c)]) ∧ Below w.heap.size w w' := by
  cases h : (kIs (c / 4) != 0)
  · have e1 : unT c = 0 := by simp [unT, h]
    have e2 : unW c = 0 := by simp [unW, h]
    have e3 : unE c = 20 := by simp [unE, h]
    rw [e1, e2, e3]
    clear e1 e2 e3
    go_enter Try.func12, Try.ntmps12
    go_wp2_with (go_at_call 19; refine (legal_any _ _).mono ?_; rintro e w' ⟨rfl, hb⟩)
    go_ret3
    exact ⟨rfl, hb⟩
  · have e1 : unT c = c / 4 := by simp [unT, h]
    have e2 : unW c = wOf c := by simp [unW, h]
    have e3 : unE c = 0 := by simp [unE, h]
    rw [e1, e2, e3]
    clear e1 e2 e3
    go_enter Try.func12, Try.ntmps12
    go_wp2_with (go_at_call 19; refine (legal_any _ _).mono ?_; rintro e w' ⟨rfl, hb⟩)
    go_ret3
    exact ⟨ret3 rfl (by rw [← pow_wOf]; rfl) rfl, hb⟩
end Go.Proofs.Ytiagpjjjggldeaa
