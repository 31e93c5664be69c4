import Derived.Test.YtalegkgonbmaoaaDoorReader
import Derived.BigRegion
import Derived.Deep.DeepCutAuto
/- The reader's method plain. -/
set_option linter.unusedVariables false
namespace Go.Proofs.YtalegkgonbmaoaaDoor
open Go.RowKit
theorem app_list (a b : List UInt8) : (⟨a.toArray⟩ : ByteArray) ++ ⟨b.toArray⟩ = ⟨(a ++ b).toArray⟩ := by
  apply ByteArray.ext
  simp [ByteArray.data_append]
theorem run_str {w : World} {A : Option Addr} {n c : Nat} {l : List UInt8} (hA : Rd w 1 A n (Lib.byteCells l)) :
    (convert 48 9 (.slice A n c)).run Tryd.prog w = .ok (.string ⟨l.toArray⟩) w := by
  have hl : l.length = n := by have := hA.1; simpa [Lib.byteCells_length] using this
  rcases Nat.eq_zero_or_pos n with h0 | h0
  · have : l = [] := List.eq_nil_of_length_eq_zero (by omega)
    subst this; subst h0
    rcases A with _ | a
    · rw [run_convert_bytes_string w 48 9 5 none 0 c Tryd.underlying48 Tryd.underlying5 Tryd.underlying9]
      rfl
    · exact run_convert_bytes_back w 48 9 5 a c [] Tryd.underlying48 Tryd.underlying5 Tryd.underlying9 (fun j hj => by simp at hj)
  · obtain ⟨b, o, rfl, hb, hcell⟩ := hA.2 h0
    subst hl
    refine run_convert_bytes_back w 48 9 5 ⟨b, o, none⟩ c l Tryd.underlying48 Tryd.underlying5 Tryd.underlying9 (fun j hj => ?_)
    rw [spot_add]
    exact hcell j _ (by simp [Lib.byteCells, hj])
theorem one_str (w : World) (c : UInt8) : (convert 48 9 (.slice (some ⟨w.heap.size, 0, none⟩) 1 1)).run Tryd.prog (w.alloc (.cells #[.int .u8 (c.toNat : Int)] 5)).drew = .ok (.string ⟨[c].toArray⟩) (w.alloc (.cells #[.int .u8 (c.toNat : Int)] 5)).drew :=
  run_str (l := [c]) (by
    refine ⟨rfl, fun _ => ⟨w.heap.size, 0, rfl, by show w.heap.size < (w.alloc (.cells #[.int .u8 (c.toNat : Int)] 5)).heap.size; simp, fun k u hu => ?_⟩⟩
    show (w.alloc (.cells #[.int .u8 (c.toNat : Int)] 5)).cell? _ = _
    rw [cell_of_row _ _ (0 + k) _ 5 (0, 0) (heap_alloc_last _ _)]
    simpa [Lib.byteCells] using hu)
theorem BIn.below {B b o : Nat} {T : TypeId} {cs : Array Value} {p v : Value} {bs : List Value} {w w' : World} (h : BIn B b o T cs p v bs w) (hb : Below w.heap.size w w') : BIn B b o T cs p v bs w' :=
  ⟨h.hB, (hb.block b h.blt).trans h.blk, h.c0, h.c1, h.hp, own_below h.own hb, h.hT⟩
theorem str_take (l : List UInt8) (k : Nat) : (ByteArray.mk l.toArray).extract 0 k = ⟨(l.take k).toArray⟩ := by
  apply ByteArray.ext
  simp
theorem str_drop (l : List UInt8) (k : Nat) : (ByteArray.mk l.toArray).extract k l.length = ⟨(l.drop k).toArray⟩ := by
  apply ByteArray.ext
  simp [List.take_of_length_le]
theorem nxt_le {l : List UInt8} {p : Nat × Nat} (h : nxt l = some p) : 1 ≤ p.2 ∧ p.2 ≤ l.length := by
  unfold nxt at h
  split at h
  · cases h
  · rename_i h0
    split at h
    · cases h
    · injection h with h; subst h
      exact ⟨Lib.decodeL_width l, Lib.decodeL_le l h0⟩
set_option maxRecDepth 100000 in
set_option maxHeartbeats 2000000 in
theorem plain_any (B b : Nat) (p v : Value) (s : St) (c : UInt8) (w : World) (h : RAt B b p v s w) (hT : Lib.Utf8Tabs 0 1 w) (hB2 : 2 ≤ B) (hlen : s.out.length ≤ 1000000000) (hru : s.rune.length ≤ 1000000000) (hBw : B ≤ w.heap.size) :
    Calls Tryd.prog 63 #[.pointer (some ⟨b, 0, none⟩), .int .u8 (c.toNat : Int)] w fun e w' => e = .returned (.int .i64 (errOf (plainS s c) : Int)) ∧ Left B b (plainS s c) w w' := by
  have hB := h.hB
  have f3 := h.f3
  have z3 := h.fz 3
  have H := Lib.hid h
  clear h
  have hone := one_str w c
  have happ := app_list s.rune [c]
  have hblt := H.out.blt
  have z3' : (w.alloc (.cells #[.int .u8 (c.toNat : Int)] 5)).frozen? ⟨b, 3, none⟩ = false := by
    have hx : (w.alloc (.cells #[.int .u8 (c.toNat : Int)] 5)).heap[b]? = _ := (Lib.alloc_old w _ b hblt).trans H.out.blk
    exact Lib.frozen_of_heap hx 3
  have f3' : (w.alloc (.cells #[.int .u8 (c.toNat : Int)] 5)).cell? ⟨b, 3, none⟩ = some (.string ⟨s.rune.toArray⟩) := by
    have hx : (w.alloc (.cells #[.int .u8 (c.toNat : Int)] 5)).heap[b]? = _ := (Lib.alloc_old w _ b hblt).trans H.out.blk
    rw [Lib.cell_of_heap hx]; rfl
  obtain ⟨ru, hru'⟩ : ∃ ru, s.rune ++ [c] = ru := ⟨_, rfl⟩
  have hrl : ru.length ≤ 1000000001 := by rw [← hru']; simp; omega
  have hps : ∀ p, nxt ru = some p → plainS s c = .ok { s with out := s.out ++ ru.take p.2, rune := [] } := fun p hp => by unfold plainS; rw [hru', hp]
  have hps2 : nxt ru = none → plainS s c = if full ru then .bad 40 else .ok { s with rune := ru } := fun hp => by unfold plainS; rw [hru', hp]
  obtain ⟨O, hO⟩ : ∃ O, plainS s c = O := ⟨_, rfl⟩
  rw [hO] at hps hps2 ⊢
  clear hO
  have HPS := Lib.hid (And.intro hps hps2)
  clear hps hps2
  rw [hru'] at happ
  have HRU := Lib.hid hru'
  clear hru'
  go_enter Tryd.func63, Tryd.ntmps63
  go_wp2
  go_region
  obtain ⟨w2, hw2⟩ : ∃ w2, ((w.setCell ⟨b, 3, none⟩ (.string ⟨ru.toArray⟩)).alloc (.cells #[.int .u8 (c.toNat : Int)] 5)).drew = w2 := ⟨_, rfl⟩
  have hb1 : Below B w (w.setCell ⟨b, 3, none⟩ (.string ⟨ru.toArray⟩)) := below_set (Below.refl B w) hB _ _
  have hbb : Below (w.setCell ⟨b, 3, none⟩ (.string ⟨ru.toArray⟩)).heap.size (w.setCell ⟨b, 3, none⟩ (.string ⟨ru.toArray⟩)) w2 := by rw [← hw2]; exact Below.drew ((Below.refl _ _).alloc (Nat.le_refl _) _)
  have h2 : RAt B b p v { s with rune := ru } w2 := (H.out.setRune ru).below hbb
  have hb2 : Below B w w2 := hb1.trans (hbb.mono hb1.size |>.mono hBw)
  rw [hw2]
  clear hw2 hbb hb1 f3 z3 f3' z3' hone happ HRU H hblt
  have hT2 := tabs_below hT hB2 hb2
  have HT := Lib.hid hT
  have f3 := h2.f3
  have H2 := Lib.hid h2
  have cN := next_any ru w2 hT2
  cases hn : nxt ru with
  | some P =>
    obtain rfl := HPS.out.1 P hn
    have hP := nxt_le hn
    obtain ⟨R, K⟩ := P
    unfold nextV at cN
    rw [hn] at cN
    simp only at cN hP ⊢
    have hKz : (K : Int) ≤ (ru.length : Int) := by omega
    have hst := str_take ru K
    clear hn h2 hT hT2
    have hkl : K ≤ ru.length := by omega
    go_wp2_with (go_at_call 19; refine cN.mono ?_)
    rintro e w3 rfl hb3
    have h3 : RAt B b p v { s with rune := ru } w3 := H2.out.below hb3
    have g3 := h3.f3
    have H3 := Lib.hid h3
    have hb3' := hb2.trans (hb3.mono hb2.size |>.mono hBw)
    have hBw3 : B ≤ w3.heap.size := by have := hb3'.size; omega
    have cW := fun k => writeString_any B b 1 71 _ p v _ (ru.take K) (w3.drewN k) (BIn.below h3 (below_drewN (Below.refl _ _) k)) lies71 (by simp [Lib.byteCells_length]; omega) hBw3
    clear h3 hb3 cN f3
    go_wp2
    go_region_with (refine (cW _).mono ?_; rintro e w4 ⟨⟨x, rfl⟩, ⟨v1, h4⟩, hb4⟩)
    have h5 : RAt B b (.pointer (some ⟨b, 1, none⟩)) v1 { s with rune := ru, out := s.out ++ ru.take K } w4 := by
      unfold RAt
      rw [show Lib.byteCells (s.out ++ ru.take K) = Lib.byteCells s.out ++ Lib.byteCells (ru.take K) by simp [Lib.byteCells]]
      exact h4
    have g4 := h5.f3
    have z4 := h5.fz 3
    have H5 := Lib.hid h5
    have hb5 := hb3'.trans ((below_drewN (Below.refl B w3) 1).trans hb4)
    clear h4 h5 hb4 cW hst g3
    go_wp2
    go_ret
    exact ⟨rfl, Left.ok (below_set hb5 hB _ _) (H5.out.setRune [])⟩
  | none =>
    have hO := HPS.out.2 hn
    unfold nextV at cN
    rw [hn] at cN
    simp only at cN
    clear hn h2 hT hT2
    go_wp2_with (go_at_call 19; refine cN.mono ?_)
    rintro e w3 rfl hb3
    have h3 : RAt B b p v { s with rune := ru } w3 := H2.out.below hb3
    have g3 := h3.f3
    have H3 := Lib.hid h3
    have hb3' := hb2.trans (hb3.mono hb2.size |>.mono hBw)
    have cF := full_any ru w3 (tabs_below HT.out hB2 hb3')
    cases hf : full ru with
    | true =>
      rw [hf] at cF hO
      rw [if_pos rfl] at hO
      subst hO
      clear h3 hb3 cN f3
      go_wp2_with (go_at_call 68; refine cF.mono ?_)
      rintro e w4 ⟨rfl, hb4⟩
      go_wp2
      go_ret
      exact ⟨rfl, Left.bad (hb3'.trans (hb4.mono hb3'.size |>.mono hBw))⟩
    | false =>
      rw [hf] at cF hO
      rw [if_neg (by decide)] at hO
      subst hO
      clear h3 hb3 cN f3
      go_wp2_with (go_at_call 68; refine cF.mono ?_)
      rintro e w4 ⟨rfl, hb4⟩
      go_wp2
      go_ret
      exact ⟨rfl, Left.ok (hb3'.trans (hb4.mono hb3'.size |>.mono hBw)) (H3.out.below hb4)⟩
end Go.Proofs.YtalegkgonbmaoaaDoor
