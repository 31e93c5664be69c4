import Derived.Test.YtdomplhhjkikmaaLayLaws
import Derived.IntWalk
namespace Go.Proofs.Ytdomplhhjkikmaa
open Go.RowKit
theorem str_one (l : List (List UInt8)) : ∀ u ∈ strs l, u.oneCell' = true := by
  intro u hu; simp [strs, str] at hu; obtain ⟨_, _, rfl⟩ := hu; rfl
theorem num_one (l : List Int) : ∀ u ∈ nums l, u.oneCell' = true := by
  intro u hu; simp [nums] at hu; obtain ⟨_, _, rfl⟩ := hu; rfl
theorem sz9 : (Try.prog.info? 9).map (·.size) = some 1 := by kernel_rfl
theorem sz3 : (Try.prog.info? 3).map (·.size) = some 1 := by kernel_rfl
theorem strs_snoc (l : List (List UInt8)) : strs (l ++ [[]]) = strs l ++ [.string ⟨#[]⟩] := by simp [strs, str]
theorem nums_snoc (l : List Int) : nums (l ++ [0]) = nums l ++ [.int .i64 0] := by simp [nums]
theorem lay0' {w w3 w5 : World} {g n : Nat} {ks us v3 v5 : Value} {kl : List (List UInt8)} {al : List Int} (hus : ∀ b, us.ownBlock = some b → b < w.heap.size) (hgl : g < w.heap.size)
    (hN : ks.ownBlock ≠ some g ∧ us.ownBlock ≠ some g ∧ ∀ b, ks.ownBlock = some b → us.ownBlock ≠ some b)
    (k3 : Kept (fun b => ks.ownBlock = some b) w w3) (h3 : w3.ownsRow 0 9 1 v3 n (strs kl ++ [.string ⟨#[]⟩])) (wh3 : Where w ks v3)
    (k5 : Kept (fun b => us.ownBlock = some b) w3 w5) (h5 : w5.ownsRow 0 3 1 v5 n (nums al ++ [.int .i64 0])) (wh5 : Where w3 us v5) (hb : w5.heap[g]? = some (.cells #[ks, us, .bool true] 56 (0, 0))) :
    Mid w g ks us n (strs (kl ++ [[]])) (nums (al ++ [0])) ((w5.setCell ⟨g, 0, none⟩ v3).setCell ⟨g, 1, none⟩ v5) := by
  rw [strs_snoc, nums_snoc]
  exact lay0 hus hgl hN k3 h3 wh3 k5 h5 wh5 hb
/-- Without the first statement: from a pool with one element more at its end. -/
def ShiftTo (w0 : World) (g : Nat) (ks us : Value) (n i : Nat) (k : List UInt8) (a : Int) (kl al : List Value) (w : World) : Prop :=
  Mid w0 g ks us n ((kl.take (i + 1) ++ (kl.drop i).take (n - (i + 1))).set i (str k)) ((al.take (i + 1) ++ (al.drop i).take (n - (i + 1))).set i (.int .i64 a)) w
set_option maxRecDepth 100000 in
set_option maxHeartbeats 16000000 in
theorem lay_any (g : Nat) (ks us : Value) (E : List Ent) (i : Nat) (k : List UInt8) (a : Int) (w : World) (h : PoolAt w g ks us E) (hi : i ≤ E.length) (hn : E.length ≤ 100000) :
    Calls Try.prog 28 #[.pointer (some ⟨g, 0, none⟩), .int .i64 (i : Int), .string ⟨k.toArray⟩, .int .i64 a] w fun e w' => e = .returned (.tuple #[]) ∧ ShiftTo w g ks us (E.length + 1) i k a (strs (keys E ++ [[]])) (nums (E.map (·.2) ++ [0])) w' := by
  obtain ⟨iS, hiS, hzS, hsS, hbS⟩ := info_parts infoS
  obtain ⟨iI, hiI, hzI, hsI, hbI⟩ := info_parts infoI
  have hg := h.blk
  have hgl := h.g_lt
  have c0 := h.c0
  have c1 := h.c1
  have ho1 := h.kown
  have ho2 := h.aown
  have hne1 := h.kne
  have hne2 := h.ane
  have hne3 := h.kane
  obtain ⟨A, c, rfl, hc1, hc2⟩ := own_shape ho1
  obtain ⟨B, d, rfl, hd1, hd2⟩ := own_shape ho2
  have HG := Lib.hid hg
  have HN := Lib.hid (And.intro hne1 (And.intro hne2 hne3))
  have HU := Lib.hid (fun b (hb : (Value.slice B E.length d).ownBlock = some b) => own_lt ho2 hb)
  clear hg hne1 hne2 hne3 h
  go_enter Try.func28, Try.ntmps28
  go_upto_region 0 with fail
  go_cut [] (fun wx => Mid w g (.slice A E.length c) (.slice B E.length d) (E.length + 1) (strs (keys E ++ [[]])) (nums (E.map (·.2) ++ [0])) wx)
  case first =>
    go_region_law (first
      | (refine step_append_where rfl _ _ _ 34 rfl 0 9 iS _ 1 16 Try.underlying34 hiS hzS hsS hbS rfl (by decide) _ E.length _ rfl (by first | exact ho1.alloc _ | exact (ho1.alloc _).alloc _) _ 1 1 (by decide) [_] rfl (by first | exact rdK1 w _ _ | exact rdK2 w _ _ _ _ | exact rdK3 w _ _ _ _) (by intro u hu; simp at hu; subst hu; rfl) (by unfold maxLen; omega) (by omega) (by simp) ?_; intro v3 w3 ho3 hg3 wh3; have k3 := grown_keptW (w := w) (by first | exact below_a1 _ _ | exact below_a2 _ _ _) hg3; replace wh3 := wh3.mono (w := w) (by simp <;> omega); have c13 := (World.cell?_of_block (a := ⟨g, 1, none⟩) (k3.block g hgl HN.out.1)).trans c1; have c13a := fun o => alloc_cell o c13; have ho23 := own_kept ho2 k3 (fun b hb => fun hh => HN.out.2.2 b hh hb); have hb3 := (k3.block g hgl HN.out.1).trans HG.out; have HB3 := Lib.hid hb3; clear hb3; have HO3 := Lib.hid (And.intro ho3 wh3); obtain ⟨A3, c3, rfl, _, _⟩ := own_shape ho3; clear ho3 wh3)
      | (refine step_append_where rfl _ _ _ 52 rfl 0 3 iI _ 1 8 Try.underlying52 hiI hzI hsI hbI rfl (by decide) _ E.length _ rfl (by first | exact ho23 | exact ho23.alloc _) _ 1 1 (by decide) [_] rfl (by first | exact rd1 w3 _ _ | exact rd_grown (rdK2 w _ _ _ _) hg3 (row_ne ho1 (by simp)) | exact rd_grown (rdK3 w _ _ _ _) hg3 (row_ne ho1 (by simp))) (by intro u hu; simp at hu; subst hu; rfl) (by unfold maxLen; omega) (by omega) (by simp) ?_; intro v5 w5 ho5 hg5 wh5; have k5 := grown_keptW (w := w3) (by first | exact Below.refl _ _ | exact (Below.refl _ _).alloc (Nat.le_refl _) _) hg5; replace wh5 := wh5.mono (w := w3) (by first | exact Nat.le_refl _ | simp); have hb5 := last_blk HB3.out (by first | exact Below.refl _ _ | exact (Below.refl _ _).alloc (Nat.le_refl _) _) hg5 HN.out.2.1; have c05 := pool_c0 hb5; have c15 := pool_c1 hb5; have f05 := pool_f hb5 0; have f15 := pool_f hb5 1; have HB5 := Lib.hid hb5; clear hb5; have HO5 := Lib.hid (And.intro ho5 wh5); obtain ⟨A5, c5, rfl, _, _⟩ := own_shape ho5; clear ho5 wh5))
    all_goals
      go_wp2_with fail
      go_meet
      exact lay0' HU.out hgl HN.out k3 HO3.out.1 HO3.out.2 k5 HO5.out.1 HO5.out.2 HB5.out
  case rest =>
    obtain ⟨ks1, us1, hR, hK, hW⟩ := hcut
    obtain ⟨w1, rfl⟩ : ∃ w1 : World, w1 = wc := ⟨_, rfl⟩
    obtain ⟨bk, ck, rfl, hck, hck2, hbk⟩ := own_has hR.kown (by omega)
    obtain ⟨bu, cu, rfl, hcu, hcu2, hbu⟩ := own_has hR.aown (by omega)
    have c0 := pool_c0 hR.blk
    have hil : (i : Int) ≤ (ck : Int) := by omega
    have hil2 : (i : Int) + 1 ≤ (ck : Int) := by omega
    have hil3 : (i : Int) ≤ ((E.length : Int) + 1) := by omega
    have hil4 : (i : Int) + 1 ≤ ((E.length : Int) + 1) := by omega
    have hne : ¬ (ck = i) := by omega
    have hRk := hR.kown
    have hwr : IntKind.i64.wrap ((i : Int) + 1) = (i : Int) + 1 := IntWalk.i64_in _ (by omega)
    have htn : ((i : Int) + 1).toNat = i + 1 := by omega
    have h01 : (0 : Int) ≤ (i : Int) + 1 := by omega
    go_upto_region 1 with fail
    go_cut [] (fun wx => Mid w g (.slice A E.length c) (.slice B E.length d) (E.length + 1) ((strs (keys E ++ [[]])).take (i + 1) ++ ((strs (keys E ++ [[]])).drop i).take (E.length + 1 - (i + 1))) (nums (E.map (·.2) ++ [0])) wx)
    case first =>
      have HR := Lib.hid hR
      by_cases hcap : ck = i + 1
      all_goals
        go_region_law (refine step_copy_shift rfl _ (.tmp 32) (.tmp 38) 34 rfl 9 Try.underlying34 sz9 0 bk (E.length + 1) ck _ hRk (str_one _) i (by omega) _ _ _ _ (by omega) rfl rfl (by intro h; first | rfl | omega) ?_; intro z w2 ho hk2)
        all_goals
          go_wp2_with fail
          go_meet
          exact Mid.next hK hW ⟨(hk2.block g HR.out.g_lt (fun e => HR.out.kne (by rw [e]; exact hbk))).trans HR.out.blk, ho, own_kept HR.out.aown (kept_drew hk2) (fun b hb e => HR.out.kane bk hbk (e ▸ hb)), HR.out.kne, HR.out.ane, HR.out.kane⟩ (kept_drew hk2) (fun b e => Or.inr (Or.inl (by rw [e]; exact hbk)))
    case rest =>
      clear hR hK hW c0 hRk hbk hbu hck hck2 hcu hcu2 hne hil hil2
      obtain ⟨ks1, us1, hR, hK, hW⟩ := hcut
      obtain ⟨w2, rfl⟩ : ∃ w2 : World, w2 = wc := ⟨_, rfl⟩
      obtain ⟨bk, ck, rfl, hck, hck2, hbk⟩ := own_has hR.kown (by omega)
      obtain ⟨bu, cu, rfl, hcu, hcu2, hbu⟩ := own_has hR.aown (by omega)
      have c1 := pool_c1 hR.blk
      have hil : (i : Int) ≤ (cu : Int) := by omega
      have hil2 : (i : Int) + 1 ≤ (cu : Int) := by omega
      have hne : ¬ (cu = i) := by omega
      have hRk := hR.aown
      go_upto_region 2 with fail
      go_cut [] (fun wx => Mid w g (.slice A E.length c) (.slice B E.length d) (E.length + 1) ((strs (keys E ++ [[]])).take (i + 1) ++ ((strs (keys E ++ [[]])).drop i).take (E.length + 1 - (i + 1))) ((nums (E.map (·.2) ++ [0])).take (i + 1) ++ ((nums (E.map (·.2) ++ [0])).drop i).take (E.length + 1 - (i + 1))) wx)
      case first =>
        have HR := Lib.hid hR
        by_cases hcap : cu = i + 1
        all_goals
          go_region_law (refine step_copy_shift rfl _ (.tmp 46) (.tmp 52) 52 rfl 3 Try.underlying52 sz3 0 bu (E.length + 1) cu _ hRk (num_one _) i (by omega) _ _ _ _ (by omega) rfl rfl (by intro h; first | rfl | omega) ?_; intro z w2 ho hk2)
          all_goals
            go_wp2_with fail
            go_meet
            exact Mid.next hK hW ⟨(hk2.block g HR.out.g_lt (fun e => HR.out.ane (by rw [e]; exact hbu))).trans HR.out.blk, own_kept HR.out.kown (kept_drew hk2) (fun b hb e => HR.out.kane b hb (by rw [e]; exact hbu)), ho, HR.out.kne, HR.out.ane, HR.out.kane⟩ (kept_drew hk2) (fun b e => Or.inr (Or.inr (by rw [e]; exact hbu)))
      case rest =>
        clear hR hK hW c1 hRk hbk hbu hck hck2 hcu hcu2 hne hil hil2
        obtain ⟨ks1, us1, hR, hK, hW⟩ := hcut
        obtain ⟨w2, rfl⟩ : ∃ w2 : World, w2 = wc := ⟨_, rfl⟩
        obtain ⟨bk, ck, rfl, hck, hck2, hbk⟩ := own_has hR.kown (by omega)
        obtain ⟨bu, cu, rfl, hcu, hcu2, hbu⟩ := own_has hR.aown (by omega)
        have c0 := pool_c0 hR.blk
        have c1 := pool_c1 hR.blk
        obtain ⟨x1, cx1⟩ := own_c hR.kown (show i < E.length + 1 by omega)
        obtain ⟨x2, cx2⟩ := own_c hR.aown (show i < E.length + 1 by omega)
        have f1 := own_f hR.kown i
        have f2 := own_f hR.aown i
        have hlt3 : (i : Int) < ((E.length : Int) + 1) := by omega
        have h0i : (0 : Int) ≤ (i : Int) := by omega
        have hbne : bk ≠ bu := fun e => hR.kane bk hbk (by rw [e]; exact hbu)
        have hbne2 : bu ≠ bk := fun e => hbne e.symm
        have HR := Lib.hid hR
        have HK := Lib.hid hK
        have HW := Lib.hid hW
        clear hR hK hW
        go_wp2
        go_region
        all_goals
          go_wp2_with fail
          go_end0
          exact ⟨rfl, lay3 HK.out HW.out HR.out _ _⟩
end Go.Proofs.Ytdomplhhjkikmaa
