import Derived.Test.YtmepbafmocjnaaaPlaces
import Derived.Test.YtmepbafmocjnaaaOpen
import Derived.Deep.DeepCutAuto
import Derived.Deep.RegionWith
import Derived.OpenShut
import Derived.Test.YtmepbafmocjnaaaHeld
namespace Go.Proofs.Ytmepbafmocjnaaa
open Go.RowKit
def offsL : List Int := [-9223372036854775808, -1, 0, 1, 2, 3, 7, 8, 9, 9007199254740984, 9007199254740985, 9007199254740991, 9007199254740992, 9007199254740993, 9223372036854775807]
def offAt (j : Nat) : Int := offsL.getD j 0
theorem off_wf (j : Nat) (h1 : j < 15) : (Lit.int .i64 (offAt j)).wf = true := by
  have h : j = 0 ∨ j = 1 ∨ j = 2 ∨ j = 3 ∨ j = 4 ∨ j = 5 ∨ j = 6 ∨ j = 7 ∨ j = 8 ∨ j = 9 ∨ j = 10 ∨ j = 11 ∨ j = 12 ∨ j = 13 ∨ j = 14 := by omega
  rcases h with rfl | rfl | rfl | rfl | rfl | rfl | rfl | rfl | rfl | rfl | rfl | rfl | rfl | rfl | rfl <;> decide
theorem off_cell (w : World) (j : Nat) (h1 : j < 15) : (w.alloc (.cells (ints offsL).toArray 3)).cell? ⟨w.heap.size, j, none⟩ = some (.int .i64 (offAt j)) := by
  rw [cell_of_row _ _ _ _ 3 (0, 0) (heap_alloc_last _ _)]
  have h : j = 0 ∨ j = 1 ∨ j = 2 ∨ j = 3 ∨ j = 4 ∨ j = 5 ∨ j = 6 ∨ j = 7 ∨ j = 8 ∨ j = 9 ∨ j = 10 ∨ j = 11 ∨ j = 12 ∨ j = 13 ∨ j = 14 := by omega
  rcases h with rfl | rfl | rfl | rfl | rfl | rfl | rfl | rfl | rfl | rfl | rfl | rfl | rfl | rfl | rfl <;> rfl
theorem cells_keep {B : Nat} {w w' : World} (h : Hid (∀ j : Nat, j < 15 → w.cell? ⟨B, j, none⟩ = some (.int .i64 (offAt j)))) (hb : Below w.heap.size w w') (hB : B < w.heap.size) :
    Hid (∀ j : Nat, j < 15 → w'.cell? ⟨B, j, none⟩ = some (.int .i64 (offAt j))) :=
  fun j h1 => (hb.cell (by exact hB)).trans (h.out j h1)
theorem isInts_two (w : World) (a b : Int) (ha : (Lit.int .i64 a).wf = true) (hb : (Lit.int .i64 b).wf = true) : IsInts .i64 (w.alloc (.cells #[.int .i64 a, .int .i64 b] 3)) (some ⟨w.heap.size, 0, none⟩) 2 2 [a, b] := by
  refine ⟨rd_lit w [a, b], by omega, by unfold maxLen; omega, ?_⟩
  intro z hz
  simp at hz
  rcases hz with rfl | rfl <;> assumption
theorem below_d {w w1 : World} (h : Below w.drew.heap.size w.drew w1) : Below w.heap.size w w1 := ⟨h.os, h.tape, h.output, h.size, h.block⟩
theorem isInts_two_d (w : World) (a b : Int) (ha : (Lit.int .i64 a).wf = true) (hb : (Lit.int .i64 b).wf = true) : IsInts .i64 (w.alloc (.cells #[.int .i64 a, .int .i64 b] 3)).drew (some ⟨w.heap.size, 0, none⟩) 2 2 [a, b] := isInts_two w a b ha hb
theorem isInts_nil (w : World) : IsInts .i64 w none 0 0 [] := ⟨Rd.none_ _ _ _, by omega, by unfold maxLen; omega, fun z hz => by cases hz⟩
def KS (w : World) (B : Nat) (wx : World) : Prop := (∀ j : Nat, j < 15 → wx.cell? ⟨B, j, none⟩ = some (.int .i64 (offAt j))) ∧ B < wx.heap.size ∧ Below w.heap.size w wx
theorem KS.step {w wa wb : World} {B : Nat} (h : KS w B wa) (hb : Below wa.heap.size wa wb) : KS w B wb :=
  ⟨fun j hj => (hb.cell (by exact h.2.1)).trans (h.1 j hj), Nat.lt_of_lt_of_le h.2.1 hb.size, below_then h.2.2 hb⟩
/-- A marked operation that yields a value and turns the world in one known way. -/
theorem held_step {P : Program} {ops : Array Oper} {S : World → Prop} {Q : Act → World → Prop} {i : Nat} {o : Oper} {r : List (Nat × Bool)} {a : Act} {w w' : World} {u : Value} (ho : ops[i]? = some o) (hw : Region.wanted o (yielded ops a.tmps) = true) (hrun : (execOp a.eval o).run P w = .ok (.value u) w') (hS : S w')
    (h : wpHeld P ops S Q r (a.put o.dst u) w') : wpHeld P ops S Q ((i, true) :: r) a w := by
  unfold wpHeld
  simp only [ho]
  rw [if_pos hw, if_pos trivial]
  refine ⟨fun v w1 => v = u ∧ w1 = w', ?_, fun v w1 ⟨e1, e2⟩ _ => by rw [e1, e2]; exact h⟩
  unfold stepAt
  rw [hrun]
  exact ⟨⟨rfl, rfl⟩, hS⟩
set_option maxRecDepth 100000 in
set_option maxHeartbeats 20000000 in
theorem widthKnown_walk (w : World) : Calls Try.prog 9 #[] w fun e w' => e = .returned (.bool true) ∧ Below w.heap.size w w' := by
  go_enter Try.func9, Try.ntmps9
  go_wp2
  go_loopw [1, 2] (fun i _ wr => ∃ k : Nat, k ≤ 64 ∧ i = .int .i64 k ∧ Below w.heap.size w wr) (fun i _ _ => 64 - (intOf i).toNat)
  case atStart => exact ⟨0, by omega, rfl, Below.refl _ _⟩
  case round =>
    obtain ⟨k, hk, rfl, hb0⟩ := hrel
    by_cases hlt : k < 64
    · go_wp2_with (first
          | (go_at_call 3; refine (widthTells_walk _ _ _ (by go_wf2) (by go_wf2)).mono ?_; rintro e w' ⟨rfl, hb⟩; replace hb0 := below_then hb0 hb; clear hb)
          | (go_at_call 5; refine (widthLeast_walk _ _ (by go_wf2)).mono ?_; rintro e w' ⟨rfl, hb⟩; replace hb0 := below_then hb0 hb; clear hb))
      go_roundw
      case rel => exact ⟨k + 1, by omega, by go_num, hb0⟩
      case measure => simp [intOf]; omega
    · obtain rfl : k = 64 := by omega
      rw [show ((64 : Nat) : Int) = 64 from rfl]
      go_wp2
      obtain ⟨wo, rfl⟩ : ∃ wo : World, wo = wr := ⟨_, rfl⟩
      go_loopw [4, 5] (fun i _ wr => ∃ j : Nat, j ≤ 15 ∧ i = .int .i64 j ∧ (∀ j : Nat, j < 15 → wr.cell? ⟨wo.heap.size, j, none⟩ = some (.int .i64 (offAt j))) ∧ wo.heap.size < wr.heap.size ∧ Below w.heap.size w wr) (fun i _ _ => 15 - (intOf i).toNat)
      case atStart => exact ⟨0, by omega, rfl, off_cell wo, by simp, hb0.alloc hb0.size _⟩
      case round =>
        obtain ⟨j, hj, rfl, hc, hsz, hb1⟩ := hrel
        have HC := Lib.hid hc
        clear hc
        obtain ⟨w1, rfl⟩ : ∃ w1 : World, w1 = wr := ⟨_, rfl⟩
        by_cases hlt : j < 15
        · go_wp2
          go_loopw [5] (fun i wr => ∃ x : Int, -1 ≤ x ∧ x ≤ 18 ∧ i = .int .i64 x ∧ (∀ j : Nat, j < 15 → wr.cell? ⟨wo.heap.size, j, none⟩ = some (.int .i64 (offAt j))) ∧ wo.heap.size < wr.heap.size ∧ Below w.heap.size w wr) (fun i _ => (18 - intOf i).toNat)
          case atStart => exact ⟨-1, by omega, by omega, rfl, HC.out, hsz, hb1⟩
          case round =>
            obtain ⟨x, hx0, hx1, rfl, hc, hsz', hb2⟩ := hrel
            by_cases hltx : x < 18
            · have g1 := hc j hlt
              have HC2 := Lib.hid hc
              clear hc
              obtain ⟨w2, rfl⟩ : ∃ w2 : World, w2 = wr := ⟨_, rfl⟩
              go_upto_region 14 with fail
              go_cut [115] (fun s wx => s = .bool false ∧ (∀ j : Nat, j < 15 → wx.cell? ⟨wo.heap.size, j, none⟩ = some (.int .i64 (offAt j))) ∧ wo.heap.size < wx.heap.size ∧ Below w.heap.size w wx)
              case first =>
                haveI : Nonempty (InS (KS w wo.heap.size)) := ⟨⟨w2, HC2.out, hsz', hb2⟩⟩
                have hsd : KS w wo.heap.size w2.drew := KS.step (wa := w2) ⟨HC2.out, hsz', hb2⟩ (below_d (Below.refl _ w2.drew))
                have GS : ∀ q : InS (KS w wo.heap.size), q.it.cell? ⟨wo.heap.size, j, none⟩ = some (.int .i64 (offAt j)) := fun q => q.ok.1 j hlt
                have wfo := off_wf j hlt
                have wfx : (Lit.int .i64 x).wf = true := by go_wf2
                refine wp_region_held_seq (KS w wo.heap.size) [(0, false), (1, false), (2, false), (3, false), (4, false), (6, false), (7, false), (8, false), (9, false), (10, false), (5, true), (11, true), (12, false), (13, false), (14, false), (15, false), (16, false), (17, false), (18, false), (19, true), (20, false), (21, false), (22, false), (23, false), (24, false), (25, false), (26, false), (27, false), (28, true), (29, false), (30, false), (31, false), (32, false), (33, false), (34, false), (35, false), (36, false), (37, false), (38, true), (39, false), (40, false)] (fun i => i == 5 || i == 11 || i == 19 || i == 28 || i == 38) (by kernel_rfl) (by kernel_rfl) (by kernel_rfl) rfl hsd ?_
                repeat (refine held_read rfl rfl ?_; simp only [List.getElem_toArray, List.getElem_cons_zero, List.getElem_cons_succ]; go_big_quiet_step (fail); refine wpQuiet_nil ?_; show wpHeld _ _ _ _ _ _ _)
                have hs2 : KS w wo.heap.size (w2.drew.alloc (.cells #[.int .i64 (offAt j), .int .i64 x] 3)) := KS.step hsd (below_alloc (Below.refl _ _) _)
                refine held_step rfl (by kernel_rfl) (u := .slice (some ⟨w2.heap.size, 0, none⟩) 2 2) (w' := w2.drew.alloc (.cells #[.int .i64 (offAt j), .int .i64 x] 3)) (by kernel_rfl) hs2 ?_
                clear hsz' hb2
                simp only [List.getElem_toArray, List.getElem_cons_zero, List.getElem_cons_succ, Act.put, List.setIfInBounds_toArray, List.set_cons_succ, List.set_cons_zero]
                refine held_call 4 #[.slice (some ⟨w2.heap.size, 0, none⟩) 2 2, .int .i64 (offAt j), .int .i64 x] rfl (by kernel_rfl) (by kernel_rfl) (D := fun v _ => v = .bool true) ((widthPlaces_walk _ _ _ _ _ _ _ (isInts_two w2.drew _ _ wfo wfx) wfo wfx).mono fun e w3 ⟨he, hb⟩ => ⟨_, he, rfl, hs2.step hb⟩) ?_
                rintro v3 w3 rfl hs3
                simp only [List.getElem_toArray, List.getElem_cons_zero, List.getElem_cons_succ, Act.put, List.setIfInBounds_toArray, List.set_cons_succ, List.set_cons_zero]
                repeat (refine held_read rfl rfl ?_; simp only [List.getElem_toArray, List.getElem_cons_zero, List.getElem_cons_succ]; go_big_quiet_step (fail); refine wpQuiet_nil ?_; show wpHeld _ _ _ _ _ _ _)
                refine held_call 7 #[.int .i64 (offAt j), .int .i64 x] rfl (by kernel_rfl) (by kernel_rfl) (D := fun v _ => v = .bool true) ((widthUp_walk _ _ _ wfo wfx).mono fun e w3 ⟨he, hb⟩ => ⟨_, he, rfl, hs3.step hb⟩) ?_
                rintro v4 w4 rfl hs4
                simp only [List.getElem_toArray, List.getElem_cons_zero, List.getElem_cons_succ, Act.put, List.setIfInBounds_toArray, List.set_cons_succ, List.set_cons_zero]
                repeat (refine held_read rfl rfl ?_; simp only [List.getElem_toArray, List.getElem_cons_zero, List.getElem_cons_succ]; go_big_quiet_step (fail); refine wpQuiet_nil ?_; show wpHeld _ _ _ _ _ _ _)
                refine held_call 4 #[.slice none 0 0, .int .i64 x, .int .i64 (offAt j)] rfl (by kernel_rfl) (by kernel_rfl) (D := fun v _ => v = .bool true) ((widthPlaces_walk _ _ _ _ _ _ _ (isInts_nil _) wfx wfo).mono fun e w3 ⟨he, hb⟩ => ⟨_, he, rfl, hs4.step hb⟩) ?_
                rintro v5 w5 rfl hs5
                simp only [List.getElem_toArray, List.getElem_cons_zero, List.getElem_cons_succ, Act.put, List.setIfInBounds_toArray, List.set_cons_succ, List.set_cons_zero]
                repeat (refine held_read rfl rfl ?_; simp only [List.getElem_toArray, List.getElem_cons_zero, List.getElem_cons_succ]; go_big_quiet_step (fail); refine wpQuiet_nil ?_; show wpHeld _ _ _ _ _ _ _)
                refine held_call 3 #[.int .u64 (IntKind.u64.wrap x), .int .i64 (offAt j)] rfl (by kernel_rfl) (by kernel_rfl) (D := fun v _ => v = .bool true) ((widthTells_walk _ _ _ (by go_wf2) wfo).mono fun e w3 ⟨he, hb⟩ => ⟨_, he, rfl, hs5.step hb⟩) ?_
                rintro v6 w6 rfl hs6
                simp only [List.getElem_toArray, List.getElem_cons_zero, List.getElem_cons_succ, Act.put, List.setIfInBounds_toArray, List.set_cons_succ, List.set_cons_zero]
                repeat (refine held_read rfl rfl ?_; simp only [List.getElem_toArray, List.getElem_cons_zero, List.getElem_cons_succ]; go_big_quiet_step (fail); refine wpQuiet_nil ?_; show wpHeld _ _ _ _ _ _ _)
                refine held_nilEnd ?_
                intro hs
                go_wp2_with fail
                go_meet
                exact ⟨rfl, hs⟩
              case rest =>
                obtain ⟨rfl, hc, hsz', hb2⟩ := hcut
                have HC2 := Lib.hid hc
                clear hc
                go_wp2
                go_roundw
                case rel => exact ⟨x + 1, by omega, by omega, rfl, HC2.out, hsz', hb2⟩
                case measure => simp [intOf]; omega
            · have HC2 := Lib.hid hc
              clear hc
              go_wp2
              go_roundw
              case rel => exact ⟨j + 1, by omega, by go_num, HC2.out, hsz', hb2⟩
              case measure => simp [intOf]; omega
        · go_wp2_with (go_at_call 18; refine (works_any _).mono ?_; rintro e w' ⟨rfl, hb⟩)
          go_ret
          exact ⟨rfl, below_then hb1 hb⟩
end Go.Proofs.Ytmepbafmocjnaaa
