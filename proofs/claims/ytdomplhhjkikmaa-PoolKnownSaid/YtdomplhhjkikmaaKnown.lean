import Derived.Test.YtdomplhhjkikmaaBad
import Derived.Deep.DeepCutAuto
/- PoolKnown: the law without arguments. -/
namespace Go.Proofs.Ytdomplhhjkikmaa
open Go.RowKit
def endsL : List Int := [-9223372036854775808, -1, 0, 1, 9007199254740991, 9007199254740992, 9223372036854775807]
def txL : List (List UInt8) := [[], [0], [97], [97, 0], [97, 98], [98], [255]]
def en (j : Nat) : Int := endsL.getD j 0
def tx (j : Nat) : List UInt8 := txL.getD j []
def KS (w wx : World) : Prop := (∀ j : Nat, j < 7 → wx.cell? ⟨w.heap.size, j, none⟩ = some (.int .i64 (en j))) ∧ (∀ j : Nat, j < 7 → wx.cell? ⟨w.heap.size + 1, j, none⟩ = some (.string ⟨(tx j).toArray⟩)) ∧ w.heap.size + 1 < wx.heap.size ∧ Below w.heap.size w wx
theorem KS.step {w wa wb : World} (h : KS w wa) (hb : Below wa.heap.size wa wb) : KS w wb :=
  ⟨fun j hj => (hb.cell (p := ⟨w.heap.size, j, none⟩) (by have := h.2.2.1; show w.heap.size < _; omega)).trans (h.1 j hj), fun j hj => (hb.cell (p := ⟨w.heap.size + 1, j, none⟩) (by have := h.2.2.1; exact this)).trans (h.2.1 j hj), Nat.lt_of_lt_of_le h.2.2.1 hb.size, below_then h.2.2.2 hb⟩
theorem KS.start (w : World) : KS w ((w.alloc (.cells #[.int .i64 (-9223372036854775808), .int .i64 (-1), .int .i64 0, .int .i64 1, .int .i64 9007199254740991, .int .i64 9007199254740992, .int .i64 9223372036854775807] 3)).alloc
    (.cells #[.string ⟨#[]⟩, .string ⟨#[0]⟩, .string ⟨#[97]⟩, .string ⟨#[97, 0]⟩, .string ⟨#[97, 98]⟩, .string ⟨#[98]⟩, .string ⟨#[255]⟩] 9)) := by
  refine ⟨fun j hj => ?_, fun j hj => ?_, by simp, ((Below.refl _ _).alloc (Nat.le_refl _) _).alloc (by simp) _⟩
  · have hb := (Below.refl _ (w.alloc (.cells #[.int .i64 (-9223372036854775808), .int .i64 (-1), .int .i64 0, .int .i64 1, .int .i64 9007199254740991, .int .i64 9007199254740992, .int .i64 9223372036854775807] 3))).alloc (Nat.le_refl _) (.cells #[.string ⟨#[]⟩, .string ⟨#[0]⟩, .string ⟨#[97]⟩, .string ⟨#[97, 0]⟩, .string ⟨#[97, 98]⟩, .string ⟨#[98]⟩, .string ⟨#[255]⟩] 9)
    refine (hb.cell (p := ⟨w.heap.size, j, none⟩) (by simp)).trans ?_
    rw [cell_of_row _ _ _ _ 3 (0, 0) (heap_alloc_last _ _)]
    have h : j = 0 ∨ j = 1 ∨ j = 2 ∨ j = 3 ∨ j = 4 ∨ j = 5 ∨ j = 6 := by omega
    rcases h with rfl | rfl | rfl | rfl | rfl | rfl | rfl <;> rfl
  · have e : (w.alloc (.cells #[.int .i64 (-9223372036854775808), .int .i64 (-1), .int .i64 0, .int .i64 1, .int .i64 9007199254740991, .int .i64 9007199254740992, .int .i64 9223372036854775807] 3)).heap.size = w.heap.size + 1 := by simp
    rw [← e, cell_of_row _ _ _ _ 9 (0, 0) (heap_alloc_last _ _)]
    have h : j = 0 ∨ j = 1 ∨ j = 2 ∨ j = 3 ∨ j = 4 ∨ j = 5 ∨ j = 6 := by omega
    rcases h with rfl | rfl | rfl | rfl | rfl | rfl | rfl <;> rfl
theorem below_alloc {w w1 : World} (h : Below w.heap.size w w1) (o : Obj) : Below w.heap.size w (w1.alloc o) := h.alloc h.size o
theorem rd_pairs (w : World) (T : List Ent) : Rd (w.alloc (.cells (flat T).toArray 29)) 2 (some ⟨w.heap.size, 0, none⟩) T.length (flat T) := by
  refine ⟨flat_len T, fun _ => ⟨w.heap.size, 0, rfl, by simp, fun k u hu => ?_⟩⟩
  rw [cell_of_row _ _ (0 + k) _ 29 (0, 0) (heap_alloc_last _ _)]
  simpa using hu
section
variable {P : Program} {ops : Array Oper} {S : World → Prop} {Q : Act → World → Prop}
/-- A marked operation that yields a value and turns the world in one known way. -/
theorem held_step {i : Nat} {o : Oper} {r : List (Nat × Bool)} {a : Act} {w w' : World} {u : Value} (ho : ops[i]? = some o) (hw : Region.wanted o (yielded ops a.tmps) = true) (hrun : (execOp a.eval o).run P w = .ok (.value u) w') (hS : S w')
    (h : wpHeld P ops S Q r (a.put o.dst u) w') : wpHeld P ops S Q ((i, true) :: r) a w := by
  unfold wpHeld
  simp only [ho]
  rw [if_pos hw, if_pos trivial]
  refine ⟨fun v w1 => v = u ∧ w1 = w', ?_, fun v w1 ⟨e1, e2⟩ _ => by rw [e1, e2]; exact h⟩
  unfold stepAt
  rw [hrun]
  exact ⟨⟨rfl, rfl⟩, hS⟩
/-- An operation that yields one value in every world. -/
theorem held_val {i : Nat} {o : Oper} {r : List (Nat × Bool)} {a : Act} {w : World} (v : Value) (ho : ops[i]? = some o) (hw : Region.wanted o (yielded ops a.tmps) = true) (hrun : ∀ w1, (execOp a.eval o).run P w1 = .ok (.value v) w1)
    (h : wpHeld P ops S Q r (a.put o.dst v) w) : wpHeld P ops S Q ((i, false) :: r) a w := by
  unfold wpHeld
  simp only [ho]
  rw [if_pos hw, if_neg (by decide)]
  exact ⟨v, fun w1 _ => Or.inl (hrun w1), h⟩
end
set_option maxRecDepth 100000 in
set_option maxHeartbeats 16000000 in
theorem poolKnown_walk (w : World) : Calls Try.prog 8 #[] w fun e w' => e = .returned (.bool true) ∧ Below w.heap.size w w' := by
  go_enter Try.func8, Try.ntmps8
  go_wp2
  go_loopw [3, 4, 5] (fun i _ _ wr => ∃ x : Nat, x ≤ 7 ∧ i = .int .i64 x ∧ KS w wr) (fun i _ _ _ => 7 - (intOf i).toNat)
  case atStart => exact ⟨0, by omega, rfl, KS.start w⟩
  case round =>
    obtain ⟨i, hi, rfl, hb⟩ := hrel
    have hb1 := Lib.hid hb
    clear hb
    by_cases hlt : i < 7
    · have hlt' : (i : Int) < 7 := by omega
      go_wp2
      go_loopw [4, 5] (fun i _ wr => ∃ x : Nat, x ≤ 7 ∧ i = .int .i64 x ∧ KS w wr) (fun i _ _ => 7 - (intOf i).toNat)
      case atStart => exact ⟨0, by omega, rfl, hb1.out⟩
      case round =>
        obtain ⟨j, hj, rfl, hb⟩ := hrel
        have hb2 := Lib.hid hb
        clear hb
        by_cases hltj : j < 7
        · have hltj' : (j : Int) < 7 := by omega
          go_wp2
          go_loopw [5] (fun i wr => ∃ x : Nat, x ≤ 7 ∧ i = .int .i64 x ∧ KS w wr) (fun i _ => 7 - (intOf i).toNat)
          case atStart => exact ⟨0, by omega, rfl, hb2.out⟩
          case round =>
            obtain ⟨k, hk, rfl, hb⟩ := hrel
            have hb3 := Lib.hid hb
            clear hb
            obtain ⟨w2, rfl⟩ : ∃ w2 : World, w2 = wr := ⟨_, rfl⟩
            by_cases hltk : k < 7
            · have hltk' : (k : Int) < 7 := by omega
              go_upto_region 12 with fail
              go_cut [58] (fun s wx => s = .bool false ∧ KS w wx)
              case first =>
                have hsd : KS w w2.drew := hb3.out.step (below_drew_ w2)
                haveI : Nonempty (InS (KS w)) := ⟨⟨w2, hb3.out⟩⟩
                have G1 : ∀ q : InS (KS w), q.it.cell? ⟨w.heap.size, i, none⟩ = some (.int .i64 (en i)) := fun q => q.ok.1 i hlt
                have G2 : ∀ q : InS (KS w), q.it.cell? ⟨w.heap.size + 1, i, none⟩ = some (.string ⟨(tx i).toArray⟩) := fun q => q.ok.2.1 i hlt
                have G3 : ∀ q : InS (KS w), q.it.cell? ⟨w.heap.size + 1, j, none⟩ = some (.string ⟨(tx j).toArray⟩) := fun q => q.ok.2.1 j hltj
                have G4 : ∀ q : InS (KS w), q.it.cell? ⟨w.heap.size + 1, k, none⟩ = some (.string ⟨(tx k).toArray⟩) := fun q => q.ok.2.1 k hltk
                refine wp_region_held_seq (KS w) [(0, false), (1, false), (2, false), (3, false), (4, false), (5, false), (6, false), (7, false), (9, false), (10, false), (11, false), (12, false), (14, false), (15, false), (16, false), (17, false), (19, false), (20, false), (21, false), (22, false), (25, false), (26, false), (27, false), (28, false), (8, false), (13, false), (18, false), (23, false), (24, true), (29, true), (30, false)] (fun i => i == 24 || i == 29) (by kernel_rfl) (by kernel_rfl) (by kernel_rfl) rfl hsd ?_
                repeat (refine held_read rfl rfl ?_; simp only [List.getElem_toArray, List.getElem_cons_zero, List.getElem_cons_succ]; go_big_quiet_step (fail); refine wpQuiet_nil ?_; show wpHeld _ _ _ _ _ _ _)
                refine held_val (.agg #[.string ⟨(tx j).toArray⟩, .int .i64 (en i)]) rfl (by kernel_rfl) (fun w1 => by kernel_rfl) ?_
                simp only [List.getElem_toArray, List.getElem_cons_zero, List.getElem_cons_succ, Act.put, List.setIfInBounds_toArray, List.set_cons_succ, List.set_cons_zero]
                refine held_val (.agg #[.string ⟨(tx k).toArray⟩, .int .i64 1]) rfl (by kernel_rfl) (fun w1 => by kernel_rfl) ?_
                simp only [List.getElem_toArray, List.getElem_cons_zero, List.getElem_cons_succ, Act.put, List.setIfInBounds_toArray, List.set_cons_succ, List.set_cons_zero]
                refine held_val (.agg #[.string ⟨(tx i).toArray⟩, .int .i64 2]) rfl (by kernel_rfl) (fun w1 => by kernel_rfl) ?_
                simp only [List.getElem_toArray, List.getElem_cons_zero, List.getElem_cons_succ, Act.put, List.setIfInBounds_toArray, List.set_cons_succ, List.set_cons_zero]
                refine held_val (.agg #[.string ⟨(tx j).toArray⟩, .int .i64 3]) rfl (by kernel_rfl) (fun w1 => by kernel_rfl) ?_
                simp only [List.getElem_toArray, List.getElem_cons_zero, List.getElem_cons_succ, Act.put, List.setIfInBounds_toArray, List.set_cons_succ, List.set_cons_zero]
                have hs2 : KS w (w2.drew.alloc (.cells #[.string ⟨(tx j).toArray⟩, .int .i64 (en i), .string ⟨(tx k).toArray⟩, .int .i64 1, .string ⟨(tx i).toArray⟩, .int .i64 2, .string ⟨(tx j).toArray⟩, .int .i64 3] 29)) := hsd.step (below_alloc (Below.refl _ _) _)
                refine held_step rfl (by kernel_rfl) (u := .slice (some ⟨w2.heap.size, 0, none⟩) 4 4) (w' := w2.drew.alloc (.cells #[.string ⟨(tx j).toArray⟩, .int .i64 (en i), .string ⟨(tx k).toArray⟩, .int .i64 1, .string ⟨(tx i).toArray⟩, .int .i64 2, .string ⟨(tx j).toArray⟩, .int .i64 3] 29)) (by kernel_rfl) hs2 ?_
                simp only [List.getElem_toArray, List.getElem_cons_zero, List.getElem_cons_succ, Act.put, List.setIfInBounds_toArray, List.set_cons_succ, List.set_cons_zero]
                refine held_call 3 #[.slice (some ⟨w2.heap.size, 0, none⟩) 4 4, .string ⟨(tx k).toArray⟩] rfl (by kernel_rfl) (by kernel_rfl) (D := fun v _ => v = .bool true) ((plays_core _ 4 4 [(tx j, en i), (tx k, 1), (tx i, 2), (tx j, 3)] (tx k) _ (rd_pairs w2.drew [(tx j, en i), (tx k, 1), (tx i, 2), (tx j, 3)]) (by omega)).mono fun e w3 ⟨he, hb⟩ => ⟨_, he, rfl, hs2.step hb⟩) ?_
                rintro v3 w3 rfl hs3
                simp only [List.getElem_toArray, List.getElem_cons_zero, List.getElem_cons_succ, Act.put, List.setIfInBounds_toArray, List.set_cons_succ, List.set_cons_zero]
                repeat (refine held_read rfl rfl ?_; simp only [List.getElem_toArray, List.getElem_cons_zero, List.getElem_cons_succ]; go_big_quiet_step (fail); refine wpQuiet_nil ?_; show wpHeld _ _ _ _ _ _ _)
                refine held_nilEnd ?_
                intro hs
                go_wp2_with fail
                go_meet
                exact ⟨rfl, hs⟩
              case rest =>
                obtain ⟨rfl, hc⟩ := hcut
                have HC2 := Lib.hid hc
                clear hc
                go_wp2
                go_roundw
                case rel => exact ⟨k + 1, by omega, by go_num, HC2.out⟩
                case measure => simp [intOf]; omega
            · have hltk' : ¬ (k : Int) < 7 := by omega
              go_wp2
              go_roundw
              case rel => exact ⟨j + 1, by omega, by go_num, hb3.out⟩
              case measure => simp [intOf]; omega
        · have hltj' : ¬ (j : Int) < 7 := by omega
          go_wp2
          go_roundw
          case rel => exact ⟨i + 1, by omega, by go_num, hb2.out⟩
          case measure => simp [intOf]; omega
    · have hlt' : ¬ (i : Int) < 7 := by omega
      go_wp2
      have hbw := Lib.hid hb1.out.2.2.2
      clear hb1
      go_loopw [6, 7] (fun v i wr => ∃ x : Nat, x ≤ 2 ∧ i = .int .i64 x ∧ Hid (Bad wr v ∧ Below w.heap.size w wr)) (fun _ i _ => 2 - (intOf i).toNat)
      case atStart => exact ⟨0, by omega, rfl, Or.inl rfl, hbw.out⟩
      case round =>
        obtain ⟨x, hx, rfl, hb⟩ := hrel
        by_cases hltx : x < 2
        · have hltx' : (x : Int) < 2 := by omega
          have hbad := Lib.hid hb.out.1
          go_wp2_with (first
            | (go_at_call 14; refine (badPut _ _ _ _ hbad.out).mono ?_; rintro e w1 ⟨rfl, rfl⟩)
            | (go_at_call 22; refine (badGets _ _ _ hbad.out).mono ?_; rintro e w1 ⟨rfl, rfl⟩)
            | (go_at_call 17; refine (badLen _ _ hbad.out).mono ?_; rintro e w1 ⟨rfl, rfl⟩)
            | (go_at_call 16; refine (badList _ _ hbad.out).mono ?_; rintro e w1 ⟨rfl, rfl⟩))
          have hbb := Lib.hid hb.out.2
          go_roundw
          case rel => exact ⟨x + 1, by omega, by go_num, Or.inr ⟨_, rfl, by simp, by rw [cell_of_row _ _ _ _ 56 (0, 0) (heap_alloc_last _ _)]; rfl⟩, below_alloc hbb.out _⟩
          case measure => simp [intOf]; omega
        · have hltx' : ¬ (x : Int) < 2 := by omega
          go_wp2_with (go_at_call 20; refine (works_any _).mono ?_; rintro e w1 ⟨rfl, hbx⟩)
          go_ret
          exact ⟨rfl, below_then hb.out.2 hbx⟩
end Go.Proofs.Ytdomplhhjkikmaa
