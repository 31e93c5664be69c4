import Derived.Test.YtiagpjjjggldeaaRtyped
namespace Go.Proofs.Ytiagpjjjggldeaa
open Go.RowKit Go.ChangeMaps
def entL : List (Nat × MapEntry) := [(11, ⟨.agg #[.int .i64 3, .int .i64 1, .int .i64 0], .int .i64 11, 0⟩), (12, ⟨.agg #[.int .i64 3, .int .i64 2, .int .i64 0], .int .i64 12, 1⟩), (14, ⟨.agg #[.int .i64 3, .int .i64 4, .int .i64 0], .int .i64 14, 2⟩), (16, ⟨.agg #[.int .i64 3, .int .i64 1, .int .i64 2], .int .i64 16, 3⟩), (17, ⟨.agg #[.int .i64 3, .int .i64 2, .int .i64 2], .int .i64 17, 4⟩), (19, ⟨.agg #[.int .i64 3, .int .i64 1, .int .i64 3], .int .i64 19, 5⟩), (20, ⟨.agg #[.int .i64 3, .int .i64 2, .int .i64 3], .int .i64 20, 6⟩), (22, ⟨.agg #[.int .i64 3, .int .i64 1, .int .i64 4], .int .i64 22, 7⟩), (23, ⟨.agg #[.int .i64 3, .int .i64 2, .int .i64 4], .int .i64 23, 8⟩), (36, ⟨.agg #[.int .i64 3, .int .i64 26, .int .i64 0], .int .i64 36, 9⟩)]
def ents (k : Nat) : Array MapEntry := ((entL.filter (fun p => p.1 < k)).map (·.2)).toArray
def clk (k : Nat) : Nat := (ents k).size
def keyv (k : Nat) : Value := .agg #[.int .i64 (kIs k), .int .i64 (kElem k), .int .i64 (kMany k)]
theorem all37 {p : Nat → Prop} (h0 : p 0) (h1 : p 1) (h2 : p 2) (h3 : p 3) (h4 : p 4) (h5 : p 5) (h6 : p 6) (h7 : p 7) (h8 : p 8) (h9 : p 9) (h10 : p 10) (h11 : p 11) (h12 : p 12) (h13 : p 13) (h14 : p 14) (h15 : p 15) (h16 : p 16) (h17 : p 17) (h18 : p 18) (h19 : p 19) (h20 : p 20) (h21 : p 21) (h22 : p 22) (h23 : p 23) (h24 : p 24) (h25 : p 25) (h26 : p 26) (h27 : p 27) (h28 : p 28) (h29 : p 29) (h30 : p 30) (h31 : p 31) (h32 : p 32) (h33 : p 33) (h34 : p 34) (h35 : p 35) (h36 : p 36) : ∀ k, k < 37 → p k := by
  intro k hk
  have h : k = 0 ∨ k = 1 ∨ k = 2 ∨ k = 3 ∨ k = 4 ∨ k = 5 ∨ k = 6 ∨ k = 7 ∨ k = 8 ∨ k = 9 ∨ k = 10 ∨ k = 11 ∨ k = 12 ∨ k = 13 ∨ k = 14 ∨ k = 15 ∨ k = 16 ∨ k = 17 ∨ k = 18 ∨ k = 19 ∨ k = 20 ∨ k = 21 ∨ k = 22 ∨ k = 23 ∨ k = 24 ∨ k = 25 ∨ k = 26 ∨ k = 27 ∨ k = 28 ∨ k = 29 ∨ k = 30 ∨ k = 31 ∨ k = 32 ∨ k = 33 ∨ k = 34 ∨ k = 35 ∨ k = 36 := by omega
  rcases h with rfl | rfl | rfl | rfl | rfl | rfl | rfl | rfl | rfl | rfl | rfl | rfl | rfl | rfl | rfl | rfl | rfl | rfl | rfl | rfl | rfl | rfl | rfl | rfl | rfl | rfl | rfl | rfl | rfl | rfl | rfl | rfl | rfl | rfl | rfl | rfl | rfl
  · exact h0
  · exact h1
  · exact h2
  · exact h3
  · exact h4
  · exact h5
  · exact h6
  · exact h7
  · exact h8
  · exact h9
  · exact h10
  · exact h11
  · exact h12
  · exact h13
  · exact h14
  · exact h15
  · exact h16
  · exact h17
  · exact h18
  · exact h19
  · exact h20
  · exact h21
  · exact h22
  · exact h23
  · exact h24
  · exact h25
  · exact h26
  · exact h27
  · exact h28
  · exact h29
  · exact h30
  · exact h31
  · exact h32
  · exact h33
  · exact h34
  · exact h35
  · exact h36
theorem ents_no : ∀ k, k < 37 → (kIs (k : Nat) = 3 → False) → (ents (k + 1) = ents k) := by
  refine all37 ?_ ?_ ?_ ?_ ?_ ?_ ?_ ?_ ?_ ?_ ?_ ?_ ?_ ?_ ?_ ?_ ?_ ?_ ?_ ?_ ?_ ?_ ?_ ?_ ?_ ?_ ?_ ?_ ?_ ?_ ?_ ?_ ?_ ?_ ?_ ?_ ?_
  all_goals (intro h; first | rfl | exact (h rfl).elim)
theorem ents_yes : ∀ k, k < 37 → kIs (k : Nat) = 3 → (ents k).push ⟨keyv k, .int .i64 k, clk k⟩ = ents (k + 1) ∧ clk k + 1 = clk (k + 1) := by
  refine all37 ?_ ?_ ?_ ?_ ?_ ?_ ?_ ?_ ?_ ?_ ?_ ?_ ?_ ?_ ?_ ?_ ?_ ?_ ?_ ?_ ?_ ?_ ?_ ?_ ?_ ?_ ?_ ?_ ?_ ?_ ?_ ?_ ?_ ?_ ?_ ?_ ?_
  all_goals (intro h; first | (exact absurd h (by decide)) | (clear h; exact ⟨by kernel_rfl, by kernel_rfl⟩))
theorem find_no (w : World) : ∀ k, k < 37 → kIs (k : Nat) = 3 → (Instr.findKey 45 (keyv k) (ents k).toList).run Try.prog w = .ok none w := by
  refine all37 ?_ ?_ ?_ ?_ ?_ ?_ ?_ ?_ ?_ ?_ ?_ ?_ ?_ ?_ ?_ ?_ ?_ ?_ ?_ ?_ ?_ ?_ ?_ ?_ ?_ ?_ ?_ ?_ ?_ ?_ ?_ ?_ ?_ ?_ ?_ ?_ ?_
  all_goals (intro h; first | (exact absurd h (by decide)) | (clear h; show _ = _; kernel_rfl))
theorem check45 (x y z : Int) (em : Bool) (w : World) : (Instr.checkKey em 10000 45 (.agg #[.int .i64 x, .int .i64 y, .int .i64 z])).run Try.prog w = .ok () w := by kernel_rfl
theorem eq45 (a b c a' b' c' : Int) (w : World) : (Op.equal 45 (.agg #[.int .i64 a, .int .i64 b, .int .i64 c]) (.agg #[.int .i64 a', .int .i64 b', .int .i64 c'])).run Try.prog w = .ok (a == a' && b == b' && c == c') w := by
  unfold Op.equal Op.maxDepth
  rw [run_equalIn_struct w 9999 45 _ _ (by kernel_rfl) (by kernel_rfl)]
  simp [go_sem]
  by_cases h1 : a = a' <;> by_cases h2 : b = b' <;> by_cases h3 : c = c' <;> simp [h1, h2, h3]
theorem ask_skip (key : Value) (en : MapEntry) (es : List MapEntry) (i : Nat) (w : World) (h : (Op.equal 45 key en.key).run Try.prog w = .ok false w) :
    (Instr.findAsking 45 key (en :: es) i).run Try.prog w = (Instr.findAsking 45 key es (i + 1)).run Try.prog w := by
  simp only [Instr.findAsking, Sem.run_bind, h, Result.andThen_ok, Bool.false_eq_true, if_false]
theorem ask_nil (key : Value) (i : Nat) (w : World) : (Instr.findAsking 45 key [] i).run Try.prog w = .ok none w := by
  simp only [Instr.findAsking, Sem.run_pure]
theorem miss_key {e m a b : Int} (h : ¬ (e = a ∧ m = b)) : ((3 : Int) == 3 && e == a && m == b) = false := by
  simp
  intro h1 h2
  exact h ⟨h1, h2⟩
theorem look10 (e m : Int) (w : World) (b : Nat) (hb : w.heap[b]? = some (.map (ents 37) (clk 37))) :
    (Instr.lookup 47 (.map (some b)) (.agg #[.int .i64 3, .int .i64 e, .int .i64 m]) true).run Try.prog w = .ok (.tuple #[.int .i64 (tT e m), .bool (tB e m)]) w := by
  by_cases h0 : e = 1 ∧ m = 0
  · obtain ⟨rfl, rfl⟩ := h0
    exact run_lookup_hit _ 47 45 3 Try.underlying47 _ _ _ hb _ _ 0 (by kernel_rfl) (by kernel_rfl)
  by_cases h1 : e = 2 ∧ m = 0
  · obtain ⟨rfl, rfl⟩ := h1
    exact run_lookup_hit _ 47 45 3 Try.underlying47 _ _ _ hb _ _ 1 (by kernel_rfl) (by kernel_rfl)
  by_cases h2 : e = 4 ∧ m = 0
  · obtain ⟨rfl, rfl⟩ := h2
    exact run_lookup_hit _ 47 45 3 Try.underlying47 _ _ _ hb _ _ 2 (by kernel_rfl) (by kernel_rfl)
  by_cases h3 : e = 1 ∧ m = 2
  · obtain ⟨rfl, rfl⟩ := h3
    exact run_lookup_hit _ 47 45 3 Try.underlying47 _ _ _ hb _ _ 3 (by kernel_rfl) (by kernel_rfl)
  by_cases h4 : e = 2 ∧ m = 2
  · obtain ⟨rfl, rfl⟩ := h4
    exact run_lookup_hit _ 47 45 3 Try.underlying47 _ _ _ hb _ _ 4 (by kernel_rfl) (by kernel_rfl)
  by_cases h5 : e = 1 ∧ m = 3
  · obtain ⟨rfl, rfl⟩ := h5
    exact run_lookup_hit _ 47 45 3 Try.underlying47 _ _ _ hb _ _ 5 (by kernel_rfl) (by kernel_rfl)
  by_cases h6 : e = 2 ∧ m = 3
  · obtain ⟨rfl, rfl⟩ := h6
    exact run_lookup_hit _ 47 45 3 Try.underlying47 _ _ _ hb _ _ 6 (by kernel_rfl) (by kernel_rfl)
  by_cases h7 : e = 1 ∧ m = 4
  · obtain ⟨rfl, rfl⟩ := h7
    exact run_lookup_hit _ 47 45 3 Try.underlying47 _ _ _ hb _ _ 7 (by kernel_rfl) (by kernel_rfl)
  by_cases h8 : e = 2 ∧ m = 4
  · obtain ⟨rfl, rfl⟩ := h8
    exact run_lookup_hit _ 47 45 3 Try.underlying47 _ _ _ hb _ _ 8 (by kernel_rfl) (by kernel_rfl)
  by_cases h9 : e = 26 ∧ m = 0
  · obtain ⟨rfl, rfl⟩ := h9
    exact run_lookup_hit _ 47 45 3 Try.underlying47 _ _ _ hb _ _ 9 (by kernel_rfl) (by kernel_rfl)
  have hB : tB e m = false := by simp only [tB, decide_eq_false_iff_not, not_or]; exact ⟨h0, h1, h2, h3, h4, h5, h6, h7, h8, h9⟩
  have hT : tT e m = 0 := by unfold tT; rw [if_neg h0, if_neg h1, if_neg h2, if_neg h3, if_neg h4, if_neg h5, if_neg h6, if_neg h7, if_neg h8, if_neg h9]
  rw [hB, hT]
  refine run_lookup_miss _ 47 45 3 Try.underlying47 _ _ _ hb _ _ (by kernel_rfl) (by kernel_rfl) ?_
  have hn : Instr.findNow (.struct (Try.prog.fieldsOf 45)) (.agg #[.int .i64 3, .int .i64 e, .int .i64 m]) (ents 37).toList 0 = none := by kernel_rfl
  have hu : Try.prog.underlying 45 = some (.struct (Try.prog.fieldsOf 45)) := by kernel_rfl
  unfold Instr.findKey
  simp only [Sem.run_bind, run_underlying hu, Result.andThen_ok, hn]
  have hl : (ents 37).toList = entL.map (·.2) := by kernel_rfl
  rw [hl]
  unfold entL
  simp only [List.map_cons, List.map_nil]
  rw [ask_skip _ _ _ _ _ (by rw [eq45]; exact congrArg (fun x => Result.ok x w) (miss_key h0))]
  rw [ask_skip _ _ _ _ _ (by rw [eq45]; exact congrArg (fun x => Result.ok x w) (miss_key h1))]
  rw [ask_skip _ _ _ _ _ (by rw [eq45]; exact congrArg (fun x => Result.ok x w) (miss_key h2))]
  rw [ask_skip _ _ _ _ _ (by rw [eq45]; exact congrArg (fun x => Result.ok x w) (miss_key h3))]
  rw [ask_skip _ _ _ _ _ (by rw [eq45]; exact congrArg (fun x => Result.ok x w) (miss_key h4))]
  rw [ask_skip _ _ _ _ _ (by rw [eq45]; exact congrArg (fun x => Result.ok x w) (miss_key h5))]
  rw [ask_skip _ _ _ _ _ (by rw [eq45]; exact congrArg (fun x => Result.ok x w) (miss_key h6))]
  rw [ask_skip _ _ _ _ _ (by rw [eq45]; exact congrArg (fun x => Result.ok x w) (miss_key h7))]
  rw [ask_skip _ _ _ _ _ (by rw [eq45]; exact congrArg (fun x => Result.ok x w) (miss_key h8))]
  rw [ask_skip _ _ _ _ _ (by rw [eq45]; exact congrArg (fun x => Result.ok x w) (miss_key h9))]
  rw [ask_nil]

section
variable {P : Program} {ops : Array Oper} {rest : List Oper} {o : Oper} {a : Act} {Q : Exit → Act → World → Prop}
theorem wpList_mapUpdate_new (hg : o.guard = none) (w : World) (m x v : Operand) (t : TypeId) (hop : o.op = Op.mapUpdate t m x v) (k e : TypeId) (ht : P.underlying t = some (.map k e)) (b : Nat) (es : Array MapEntry) (clock : Nat)
    (hm : a.eval m = .map (some b)) (hb : w.heap[b]? = some (.map es clock)) (key val : Value) (hx : a.eval x = key) (hv : a.eval v = val)
    (hck : (Instr.checkKey false 10000 k key).run P w = .ok () w) (hf : (Instr.findKey k key es.toList).run P w = .ok none w)
    (hK : wpList P ops Q rest (a.put o.dst undef) (setBlock w b (.map (es.push ⟨key, val, clock⟩) (clock + 1)))) : wpList P ops Q (o :: rest) a w := by
  refine wpList_plain hg fun K hK' => ?_
  unfold Oper.wp
  simp only [execOp, hop, hm, hx, hv, Sem.run_bind, run_mapUpdate_new w t k e ht b es clock hb key val hck hf, Result.andThen]
  exact hK' _ _ hK
end
theorem below_setBlock {B b : Nat} {w w' : World} (h : Below B w w') (hb : B ≤ b) (o : Obj) : Below B w (setBlock w' b o) :=
  h.trans ⟨rfl, rfl, rfl, by simp [setBlock], fun k hk => by simp only [setBlock]; rw [Array.getElem?_setIfInBounds, if_neg (by omega)]⟩

theorem map_at (w : World) (b : Nat) (es es' : Array MapEntry) (c : Nat) {c' : Nat} (h : b < w.heap.size) (he : es = es') (hc : c = c') : (setBlock w b (.map es c)).heap[b]? = some (.map es' c') := by
  subst he hc
  simp [setBlock, h]
set_option maxHeartbeats 1600000 in
theorem typed_any (e m : Int) (w : World) :
    Calls Try.prog 17 #[.int .i64 e, .int .i64 m] w fun en w' => en = .returned (.tuple #[.int .i64 (tT e m), .bool (tB e m)]) ∧ Below w.heap.size w w' := by
  have hmm := @run_makeMap Try.prog
  go_enter Try.func17, Try.ntmps17
  go_wp2_with (go_at_call 30; refine (kinds_any _).mono ?_; rintro en w' ⟨rfl, rfl⟩)
  go_loopw [11] (fun i wr => ∃ k : Nat, k ≤ 37 ∧ i = .int .i64 k ∧ wr.heap[w.heap.size]? = some (.map (ents k) (clk k)) ∧ w.heap.size < wr.heap.size ∧ Below w.heap.size w wr) (fun i _ => 37 - (intOf i).toNat)
  case atStart => exact ⟨0, by omega, rfl, heap_alloc2_old _ _ _, by simp; omega, ((Below.refl _ _).alloc (Nat.le_refl _) _).alloc (by simp) _⟩
  case round =>
    obtain ⟨k, hk, rfl, hmap, hsz, hb⟩ := hrel
    have HM := Lib.hid hmap
    clear hmap
    by_cases hlt : k < 37
    · have hi := index48 (k : Int) (by omega) (by omega)
      cases h3 : (kIs (k : Int) == 3)
      · go_wp2
        go_roundw
        case rel => exact ⟨k + 1, by omega, by go_num, by rw [heap_alloc_old _ _ hsz, HM.out]; unfold clk; rw [ents_no k hlt (fun hh => beq_eq_false_iff_ne.1 h3 hh)], by simp; omega, hb.alloc hb.size _⟩
        case measure => simp [intOf]; omega
      · have e3 : kIs (k : Int) = 3 := eq_of_beq h3
        have HF := Lib.hid (fun w => find_no w k hlt e3)
        have HY := Lib.hid (ents_yes k hlt e3)
        clear e3
        go_wp2_with (refine wpList_mapUpdate_new rfl _ _ _ _ 47 rfl 45 3 Try.underlying47 w.heap.size (ents k) (clk k) rfl ((heap_alloc_old _ _ hsz).trans HM.out) (keyv k) (.int .i64 k) rfl rfl (check45 _ _ _ _ _) (HF.out _) ?_)
        go_roundw
        case rel => exact ⟨k + 1, by omega, by go_num, map_at _ _ _ _ _ (by simp; omega) HY.out.1 HY.out.2, by simp [setBlock]; omega, below_setBlock (hb.alloc hb.size _) (Nat.le_refl _) _⟩
        case measure => simp [intOf]; omega
    · obtain rfl : k = 37 := by omega
      have hl := fun wx hx => look10 e m wx w.heap.size hx
      have hl1 := hl _ HM.out
      clear hl
      go_wp2
      go_ret2
      exact ⟨rfl, hb⟩
end Go.Proofs.Ytiagpjjjggldeaa
