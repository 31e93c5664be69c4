import Derived.Test.YtdomplhhjkikmaaRefList
import Derived.Test.YtdomplhhjkikmaaHeld
namespace Go.Proofs.Ytdomplhhjkikmaa
open Go.RowKit
/-- The pool and the reference's pool, side by side. -/
structure Two (w0 w : World) (g : Nat) (ks us : Value) (E : List Ent) (h : Nat) (lv : Value) (L : List Ent) : Prop where
  pl : PoolAt w g ks us E
  rf : RefAt w h lv L
  dis : ∀ b, foot g ks us b → ¬ rfoot h lv b
  new1 : ∀ b, foot g ks us b → w0.heap.size ≤ b
  new2 : ∀ b, rfoot h lv b → w0.heap.size ≤ b
  bel : Below w0.heap.size w0 w
  agr : Agr E L
  nod : (keys L).Nodup
  sht : ∀ x ∈ keys L, x.length ≤ 40
theorem Two.kept {F : Nat → Prop} {w0 w w' : World} {g : Nat} {ks us : Value} {E : List Ent} {h : Nat} {lv : Value} {L : List Ent} (t : Two w0 w g ks us E h lv L) (hk : Kept F w w') (h1 : ∀ b, foot g ks us b → ¬ F b) (h2 : ∀ b, rfoot h lv b → ¬ F b) (h3 : ∀ b, F b → w0.heap.size ≤ b) : Two w0 w' g ks us E h lv L :=
  ⟨t.pl.kept hk h1, t.rf.kept hk h2, t.dis, t.new1, t.new2, t.bel.trans (hk.below t.bel.size (fun j hj hf => by have := h3 j hf; omega)), t.agr, t.nod, t.sht⟩
theorem Two.below {w0 w w' : World} {g : Nat} {ks us : Value} {E : List Ent} {h : Nat} {lv : Value} {L : List Ent} (t : Two w0 w g ks us E h lv L) (hb : Below w.heap.size w w') : Two w0 w' g ks us E h lv L :=
  t.kept (F := fun _ => False) (Kept.of_below hb) (fun _ _ hf => hf) (fun _ _ hf => hf) (fun _ hf => hf.elim)
theorem nod_put {L : List Ent} {k : K} {a : Int} (hn : (keys L).Nodup) : (keys (putL L k a)).Nodup := by
  unfold putL
  split
  · exact hn
  · split
    · exact hn
    · rename_i hh
      have hh' : has L k = false := by simpa using hh
      rw [has_keys] at hh'
      have hk : k ∉ keys L := by simpa using hh'
      rw [show keys (L ++ [(k, a)]) = keys L ++ [k] by simp [keys], List.nodup_append]
      exact ⟨hn, by simp, fun x hx y hy => by simp at hy; subst hy; intro e; subst e; exact hk hx⟩
theorem sht_put {L : List Ent} {k : K} {a : Int} (hk : k.length ≤ 40) (hs : ∀ x ∈ keys L, x.length ≤ 40) : ∀ x ∈ keys (putL L k a), x.length ≤ 40 := by
  unfold putL
  split
  · exact hs
  · split
    · exact hs
    · intro x hx
      rw [show keys (L ++ [(k, a)]) = keys L ++ [k] by simp [keys]] at hx
      rcases List.mem_append.1 hx with hx | hx
      · exact hs x hx
      · simp at hx; subst hx; exact hk
theorem putL_len (L : List Ent) (k : K) (a : Int) : (putL L k a).length ≤ L.length + 1 := by
  unfold putL
  split
  · omega
  · split
    · omega
    · simp
theorem Two.mid {w0 w w1 : World} {g : Nat} {ks us : Value} {E : List Ent} {h : Nat} {lv : Value} {L : List Ent} {k : K} {a : Int} (t : Two w0 w g ks us E h lv L) (hg : Grown w g ks us (putE E k a) w1) : RefAt w1 h lv L ∧ Below w0.heap.size w0 w1 := by
  obtain ⟨_, _, _, hk, _⟩ := hg
  exact ⟨t.rf.kept hk (fun b hb hf => t.dis b hf hb), t.bel.trans (hk.below t.bel.size (fun j hj hf => by have := t.new1 j hf; omega))⟩
theorem Two.put {w0 w w1 w2 : World} {g : Nat} {ks us : Value} {E : List Ent} {h : Nat} {lv : Value} {L : List Ent} {k : K} {a : Int} (t : Two w0 w g ks us E h lv L) (hkl : k.length ≤ 40) (hg : Grown w g ks us (putE E k a) w1) (hr : RefGrown w1 h lv (putL L k a) w2) :
    ∃ ks' us' lv', Two w0 w2 g ks' us' (putE E k a) h lv' (putL L k a) := by
  obtain ⟨hm, hb1⟩ := t.mid hg
  obtain ⟨ks', us', hp, hk, hn⟩ := hg
  obtain ⟨lv', hp2, hk2, hn2⟩ := hr
  have d1 : ∀ b, foot g ks' us' b → ¬ rfoot h lv b := fun b hf hrf => by
    rcases hn b hf with h' | h'
    · exact t.dis b h' hrf
    · have := t.rf.foot_lt hrf; omega
  have n1 : ∀ b, foot g ks' us' b → w0.heap.size ≤ b := fun b hf => by
    rcases hn b hf with h' | h'
    · exact t.new1 b h'
    · exact Nat.le_trans t.bel.size h'
  refine ⟨ks', us', lv', hp.kept hk2 (fun b hf hrf => d1 b hf hrf), hp2, fun b hf hrf => ?_, n1, fun b hf => ?_, hb1.trans (hk2.below hb1.size (fun j hj hf => by have := t.new2 j hf; omega)), (t.agr.put k a).1, nod_put t.nod, sht_put hkl t.sht⟩
  · rcases hn2 b hrf with h' | h'
    · exact d1 b hf h'
    · have := hp.foot_lt hf; omega
  · rcases hn2 b hf with h' | h'
    · exact t.new2 b h'
    · exact Nat.le_trans hb1.size h'
theorem Two.start (w : World) : Two w ((w.alloc (.cells #[.slice none 0 0, .slice none 0 0, .bool true] 56)).alloc (.cells #[.slice none 0 0] 39)) w.heap.size (.slice none 0 0) (.slice none 0 0) [] (w.heap.size + 1) (.slice none 0 0) [] := by
  have hr := RefAt.new (w.alloc (.cells #[.slice none 0 0, .slice none 0 0, .bool true] 56))
  simp only [World.size_alloc] at hr
  refine ⟨(PoolAt.new w).below ((Below.refl _ _).alloc (Nat.le_refl _) _), hr, ?_, ?_, ?_, ((Below.refl _ _).alloc (Nat.le_refl _) _).alloc (by simp) _, Agr.nil, List.nodup_nil, fun x hx => by cases hx⟩
  · intro b hb hrb
    rcases hb with rfl | hb | hb
    · rcases hrb with h | h
      · omega
      · simp [Value.ownBlock] at h
    · simp [Value.ownBlock] at hb
    · simp [Value.ownBlock] at hb
  · intro b hb
    rcases hb with rfl | hb | hb
    · omega
    · simp [Value.ownBlock] at hb
    · simp [Value.ownBlock] at hb
  · intro b hb
    rcases hb with rfl | hb
    · omega
    · simp [Value.ownBlock] at hb
theorem own_drew {w : World} {base : Nat} {e : TypeId} {sz n : Nat} {v : Value} {xs : List Value} (h : w.ownsRow base e sz v n xs) (q : Nat) : (w.drewN q).ownsRow base e sz v n xs := h
set_option maxRecDepth 100000 in
set_option maxHeartbeats 16000000 in
theorem plays_core (A : Option Addr) (n c : Nat) (T : List Ent) (t : List UInt8) (w : World) (hA : Rd w 2 A n (flat T)) (hn : n ≤ 9223372036854775807) :
    Calls Try.prog 3 #[.slice A n c, .string ⟨t.toArray⟩] w fun e w' => e = .returned (.bool true) ∧ Below w.heap.size w w' := by
  have hl : T.length = n := by have := hA.1; rw [flat_len] at this; omega
  have sh0 := Lib.hid (fun w0 : World => short_any t 40 w0)
  generalize t.take 40 = o at sh0
  have HL := Lib.hid hl
  have HA := Lib.hid hA
  clear hl
  go_enter Try.func3, Try.ntmps3
  go_wp2_with (first
    | (go_at_call 9; refine (new_any w).mono ?_; rintro e w1 ⟨rfl, rfl⟩)
    | (go_at_call 10; refine (newr_any _).mono ?_; rintro e w2 ⟨rfl, rfl⟩)
    | (go_at_call 11; refine (sh0.out _).mono ?_; rintro e w3 ⟨rfl, rfl⟩))
  go_loopw [7] (fun i wr => ∃ k : Nat, k ≤ n ∧ k ≤ 60 ∧ i = .int .i64 k ∧ Hid (∃ ks us E lv L, Two w wr w.heap.size ks us E (w.heap.size + 1) lv L ∧ L.length ≤ k)) (fun i _ => n - (intOf i).toNat)
  case atStart => exact ⟨0, by omega, by omega, rfl, ⟨_, _, _, _, _, Two.start w, by simp⟩⟩
  case round =>
    obtain ⟨k, hk, hk60, rfl, hT⟩ := hrel
    obtain ⟨ks, us, E, lv, L, hT, hLk⟩ := hT.out
    have HT := Lib.hid hT
    have hEk : E.length ≤ k := by rw [hT.agr.len]; exact hLk
    clear hT
    by_cases hgo : k < n ∧ k < 60
    · obtain ⟨hkn, hk6⟩ := hgo
      obtain ⟨e, he⟩ : ∃ e, T[k]? = some e := ⟨_, List.getElem?_eq_getElem (by have := HL.out; omega)⟩
      obtain ⟨x0, z⟩ := e
      obtain ⟨f1, f2⟩ := flat_get T k _ he
      obtain ⟨b, of, rfl, hbl, hcell⟩ := (HA.out.below HT.out.bel).2 (by omega)
      have hbw : b < w.heap.size := by
        obtain ⟨b', o', e1, hb', _⟩ := HA.out.2 (by omega)
        simp only [Option.some.injEq, Addr.mk.injEq] at e1
        omega
      have g1 := hcell _ _ f1
      have g2 := hcell _ _ f2
      rw [← Nat.add_assoc] at g2
      unfold str at g1
      simp only at g1 g2
      have hx40 : (x0.take 40).length ≤ 40 := by rw [List.length_take]; omega
      have hsx := Lib.hid (fun w0 : World => short_any x0 40 w0)
      generalize x0.take 40 = x at hsx hx40
      have hkn1 : (k : Int) < (n : Int) := by omega
      have hk61 : (k : Int) < 60 := by omega
      have G2 := Lib.hid g2
      clear hcell f1 f2 he g2
      -- the two answers
      have p1 := get_any _ ks us E x _ HT.out.pl HT.out.agr.srt (by omega)
      rw [HT.out.agr.has_ x, HT.out.agr.val_ x] at p1
      have p2 := fun w1 (hb : Below wr.heap.size wr w1) => refGet_any _ lv L x w1 (HT.out.rf.below hb) (by omega)
      obtain ⟨V, hV⟩ : ∃ V, (if has L x = true then val L x else 0) = V := ⟨_, rfl⟩
      obtain ⟨H, hH⟩ : ∃ H, has L x = H := ⟨_, rfl⟩
      rw [hV, hH] at p1 p2
      have P1 := Lib.hid p1
      have P2 := Lib.hid p2
      clear p1 p2 hV hH
      go_wp2_with (first
        | (go_at_call 11; refine (hsx.out _).mono ?_; rintro e w3 ⟨rfl, rfl⟩)
        | (go_at_call 12; refine P1.out.mono ?_; rintro e w4 ⟨rfl, hb4⟩; have HB4 := Lib.hid hb4; clear hb4)
        | (go_at_call 13; refine (P2.out _ HB4.out).mono ?_; rintro e w5 ⟨rfl, rfl⟩))
      have HT4 := Lib.hid (HT.out.below HB4.out)
      have G := Lib.hid (fun w1 (hb : Below w.heap.size w w1) => (hb.cell (p := ⟨b, of + k * 2 + 1, none⟩) hbw).trans ((HT.out.bel.cell (p := ⟨b, of + k * 2 + 1, none⟩) hbw).symm.trans G2.out))
      have hput := Lib.hid (fun w1 (hb : Below w4.heap.size w4 w1) => put_any _ ks us E x z w1 (HT4.out.pl.below hb) HT4.out.agr.srt (by omega))
      have hput2 := Lib.hid (fun w1 (hr : RefAt w1 (w.heap.size + 1) lv L) => refPut_any _ lv L x z w1 hr (by omega))
      have hN := (HT4.out.agr.put x z).2
      obtain ⟨N, hNe⟩ : ∃ N, putN L x z = N := ⟨_, rfl⟩
      rw [hN, hNe] at hput
      rw [hNe] at hput2
      have hLk2 := putL_len L x z
      clear hN hNe
      have g4 := G.out _ HT4.out.bel
      clear g1
      go_upto_region 9 with fail
      go_cut [77] (fun s wx => s = .bool false ∧ Hid (∃ ks' us' lv', Two w wx w.heap.size ks' us' (putE E x z) (w.heap.size + 1) lv' (putL L x z)))
      case first =>
        have HC := Lib.hid ((hput.out w4.drew (below_drew_ w4)).mono (fun e w5 (h : e = .returned (.int .i64 N) ∧ Grown w4.drew w.heap.size ks us (putE E x z) w5) => (⟨_, h.1, rfl, h.2⟩ : ∃ v, e = .returned v ∧ (v = .int .i64 N ∧ Grown w4.drew w.heap.size ks us (putE E x z) w5))))
        have HD4 := Lib.hid (show Two w w4.drew w.heap.size ks us E (w.heap.size + 1) lv L from HT4.out.below (below_drew_ w4))
        clear hput
        haveI : Nonempty (InS fun w' : World => w'.cell? ⟨b, of + k * 2 + 1, none⟩ = some (.int .i64 z)) := ⟨⟨w4, g4⟩⟩
        have GS : ∀ q : InS fun w' : World => w'.cell? ⟨b, of + k * 2 + 1, none⟩ = some (.int .i64 z), q.it.cell? ⟨b, of + k * 2 + 1, none⟩ = some (.int .i64 z) := fun q => q.ok
        refine wp_region_held_seq (fun w' : World => w'.cell? ⟨b, of + k * 2 + 1, none⟩ = some (.int .i64 z)) [(0, false), (1, false), (2, false), (3, false), (4, false), (5, false), (6, false), (7, false), (8, false), (9, false), (10, false), (11, false), (12, false), (13, false), (14, false), (15, false), (17, false), (18, false), (19, false), (20, false), (21, false), (22, false), (23, false), (16, true), (24, true), (25, false), (26, false)] (fun i => i == 16 || i == 24) (by kernel_rfl) (by kernel_rfl) (by kernel_rfl) rfl g4 ?_
        repeat (refine held_read rfl rfl ?_; simp only [List.getElem_toArray, List.getElem_cons_zero, List.getElem_cons_succ]; go_big_quiet_step (fail); refine wpQuiet_nil ?_; show wpHeld _ _ _ _ _ _ _)
        refine held_call 14 #[.pointer (some ⟨w.heap.size, 0, none⟩), .string ⟨x.toArray⟩, .int .i64 z] rfl (by kernel_rfl) (by kernel_rfl) (D := fun v w5 => v = .int .i64 N ∧ Grown w4.drew w.heap.size ks us (putE E x z) w5) (HC.out.mono fun e w5 ⟨v, he, hv, hg⟩ => ⟨v, he, ⟨hv, hg⟩, G.out _ (HD4.out.mid hg).2⟩) ?_
        rintro v5 w5 ⟨rfl, hg5⟩ hs5
        have hm5 := HD4.out.mid hg5
        have HM5 := Lib.hid hm5
        have HG5 := Lib.hid hg5
        clear hm5 hg5
        refine held_call 15 #[.pointer (some ⟨w.heap.size + 1, 0, none⟩), .string ⟨x.toArray⟩, .int .i64 z] rfl (by kernel_rfl) (by kernel_rfl) (D := fun v w6 => v = .int .i64 N ∧ RefGrown w5 (w.heap.size + 1) lv (putL L x z) w6) ((hput2.out w5 HM5.out.1).mono fun e w6 ⟨he, hg⟩ => ⟨_, he, ⟨rfl, hg⟩, by obtain ⟨_, _, _, hTT⟩ := HD4.out.put hx40 HG5.out hg; exact G.out _ hTT.bel⟩) ?_
        rintro v6 w6 ⟨rfl, hr6⟩ hs6
        have HR6 := Lib.hid hr6
        clear hr6
        simp only [List.getElem_toArray, List.getElem_cons_zero, List.getElem_cons_succ, Act.put, List.setIfInBounds_toArray, List.set_cons_succ, List.set_cons_zero]
        repeat (refine held_read rfl rfl ?_; simp only [List.getElem_toArray, List.getElem_cons_zero, List.getElem_cons_succ]; go_big_quiet_step (fail); refine wpQuiet_nil ?_; show wpHeld _ _ _ _ _ _ _)
        refine held_nilEnd ?_
        intro _
        go_wp2_with fail
        go_meet
        exact ⟨rfl, HD4.out.put hx40 HG5.out HR6.out⟩
      case rest =>
        obtain ⟨rfl, hT6⟩ := hcut
        obtain ⟨w6, rfl⟩ : ∃ w6 : World, w6 = wc := ⟨_, rfl⟩
        obtain ⟨ks6, us6, lv6, hT6⟩ := hT6.out
        have HT6 := Lib.hid hT6
        clear hT6 g4
        have hE6 : (putE E x z).length ≤ 61 := by rw [HT6.out.agr.len]; omega
        have hL6 : (putL L x z).length ≤ 61 := by omega
        generalize putE E x z = E6 at *
        generalize putL L x z = L6 at *
        have q1 := get_any _ ks6 us6 E6 o _ HT6.out.pl HT6.out.agr.srt (by omega)
        rw [HT6.out.agr.has_ o, HT6.out.agr.val_ o] at q1
        have q2 := fun w1 (hb : Below w6.heap.size w6 w1) => refGet_any _ lv6 L6 o w1 (HT6.out.rf.below hb) (by omega)
        obtain ⟨V2, hV⟩ : ∃ V, (if has L6 o = true then val L6 o else 0) = V := ⟨_, rfl⟩
        obtain ⟨H2, hH⟩ : ∃ H, has L6 o = H := ⟨_, rfl⟩
        rw [hV, hH] at q1 q2
        have Q1 := Lib.hid q1
        have Q2 := Lib.hid q2
        clear q1 q2 hV hH
        go_wp2_with (first
          | (go_at_call 12; refine Q1.out.mono ?_; rintro e w7 ⟨rfl, hb7⟩; have HT7 := Lib.hid (HT6.out.below hb7); have HB7 := Lib.hid hb7; clear hb7)
          | (go_at_call 13; refine (Q2.out _ HB7.out).mono ?_; rintro e w8 ⟨rfl, rfl⟩)
          | (go_at_call 16; refine (list_any _ ks6 us6 E6 _ HT7.out.pl (by omega)).mono ?_; rintro e w8 ⟨⟨v, rfl, ho8⟩, hb8⟩; have HT8 := Lib.hid (HT7.out.below hb8); have HO8 := Lib.hid ho8; clear hb8; obtain ⟨Y, cy, rfl, hcy, hcy2⟩ := own_shape ho8; clear ho8))
        obtain ⟨A6, c6, rfl, hc61, hc62⟩ := own_shape HT8.out.rf.own
        have cl := HT8.out.rf.c0
        have hlen6 : (E6.length : Int) = (L6.length : Int) := by have := HT8.out.agr.len; omega
        have hlb : ((E6.length : Int) != (L6.length : Int)) = false := by simp; omega
        have HLB := Lib.hid hlb
        have HL6 := Lib.hid hlen6
        clear hlen6 hlb
        go_upto_region 14 with fail
        go_cut [116] (fun s wx => s = .bool false ∧ Hid (Two w wx w.heap.size ks6 us6 E6 (w.heap.size + 1) (.slice A6 L6.length c6) L6 ∧ Below w8.heap.size w8 wx))
        case first =>
          haveI : Nonempty (InS fun w' : World => w'.cell? ⟨w.heap.size + 1, 0, none⟩ = some (.slice A6 L6.length c6)) := ⟨⟨w8, cl⟩⟩
          have GS : ∀ q : InS fun w' : World => w'.cell? ⟨w.heap.size + 1, 0, none⟩ = some (.slice A6 L6.length c6), q.it.cell? ⟨w.heap.size + 1, 0, none⟩ = some (.slice A6 L6.length c6) := fun q => q.ok
          have HD8 := Lib.hid (show Two w w8.drew w.heap.size ks6 us6 E6 (w.heap.size + 1) (.slice A6 L6.length c6) L6 from HT8.out.below (below_drew_ w8))
          refine wp_region_held_seq (fun w' : World => w'.cell? ⟨w.heap.size + 1, 0, none⟩ = some (.slice A6 L6.length c6)) [(0, false), (1, false), (2, false), (3, false), (4, false), (5, false), (6, false), (7, false), (8, false), (9, false), (11, false), (12, false), (13, false), (14, false), (15, false), (10, true), (16, false), (17, false), (18, false), (19, false), (20, false), (21, true), (22, true), (23, false), (24, false)] (fun i => i == 10 || i == 21 || i == 22) (by kernel_rfl) (by kernel_rfl) (by kernel_rfl) rfl cl ?_
          repeat (refine held_read rfl rfl ?_; simp only [List.getElem_toArray, List.getElem_cons_zero, List.getElem_cons_succ]; go_big_quiet_step (fail); refine wpQuiet_nil ?_; show wpHeld _ _ _ _ _ _ _)
          refine held_nil (.tmp 103) ⟨w.heap.size + 1, 0, none⟩ rfl rfl (by kernel_rfl) (by kernel_rfl) rfl ?_
          simp only [List.getElem_toArray, List.getElem_cons_zero, List.getElem_cons_succ, Act.put, List.setIfInBounds_toArray, List.set_cons_succ, List.set_cons_zero]
          repeat (refine held_read rfl rfl ?_; simp only [List.getElem_toArray, List.getElem_cons_zero, List.getElem_cons_succ]; go_big_quiet_step (fail); refine wpQuiet_nil ?_; show wpHeld _ _ _ _ _ _ _)
          refine held_call 17 #[.pointer (some ⟨w.heap.size, 0, none⟩)] rfl (by kernel_rfl) (by kernel_rfl) (D := fun v w9 => v = .int .i64 (L6.length : Int) ∧ w9 = w8.drew) ((len_any _ ks6 us6 E6 _ HD8.out.pl).mono fun e w9 ⟨he, hw⟩ => ⟨_, he, ⟨by rw [HL6.out], hw.symm⟩, by rw [← hw]; exact cl⟩) ?_
          rintro v9 w9 ⟨rfl, rfl⟩ _
          simp only [List.getElem_toArray, List.getElem_cons_zero, List.getElem_cons_succ, Act.put, List.setIfInBounds_toArray, List.set_cons_succ, List.set_cons_zero]
          repeat (refine held_read rfl rfl ?_; simp only [List.getElem_toArray, List.getElem_cons_zero, List.getElem_cons_succ]; go_big_quiet_step (fail); refine wpQuiet_nil ?_; show wpHeld _ _ _ _ _ _ _)
          refine held_call 19 #[.pointer (some ⟨w.heap.size + 1, 0, none⟩)] rfl (by kernel_rfl) (by kernel_rfl) (D := fun v w9 => w9.ownsRow w8.heap.size 9 1 v L6.length (strs (srtK (keys L6))) ∧ Below w8.heap.size w8 w9) ((refList_any _ _ L6 _ HD8.out.rf (by omega) HD8.out.nod (fun x hx => by have := HD8.out.sht x hx; omega)).mono fun e w9 ⟨⟨v, he, ho⟩, hb⟩ => ⟨v, he, ⟨ho, ⟨hb.os, hb.tape, hb.output, hb.size, hb.block⟩⟩, (HD8.out.below hb).rf.c0⟩) ?_
          rintro v9 w9 ⟨ho9, hb9⟩ _
          obtain ⟨Z9, c9, rfl, hz1, hz2⟩ := own_shape ho9
          have HO9 := Lib.hid (And.intro (Rd.of_own ho9) hb9)
          clear ho9 hb9
          refine held_call 18 #[.slice Y E6.length cy, .slice Z9 L6.length c9] rfl (by kernel_rfl) (by kernel_rfl) (D := fun v w10 => v = .bool true ∧ Below w9.heap.size w9 w10) ((eqTexts_any Y _ cy (keys E6) Z9 _ c9 (srtK (keys L6)) _ ((Rd.of_own HO8.out).below HO9.out.2) HO9.out.1 (by omega) (by omega)).mono fun e w10 ⟨he, hb⟩ => ⟨_, he, ⟨by rw [HD8.out.agr.keys_, list_beq_self], hb⟩, ((HT8.out.below HO9.out.2).below hb).rf.c0⟩) ?_
          rintro v10 w10 ⟨rfl, hb10⟩ _
          have HB10 := Lib.hid (below_then HO9.out.2 hb10)
          clear hb10
          simp only [List.getElem_toArray, List.getElem_cons_zero, List.getElem_cons_succ, Act.put, List.setIfInBounds_toArray, List.set_cons_succ, List.set_cons_zero]
          repeat (refine held_read rfl rfl ?_; simp only [List.getElem_toArray, List.getElem_cons_zero, List.getElem_cons_succ]; go_big_quiet_step (fail); refine wpQuiet_nil ?_; show wpHeld _ _ _ _ _ _ _)
          refine held_nilEnd ?_
          intro _
          go_wp2_with fail
          go_meet
          exact ⟨rfl, HT8.out.below HB10.out, HB10.out⟩
        case rest =>
          obtain ⟨rfl, hT9⟩ := hcut
          obtain ⟨w9, rfl⟩ : ∃ w9 : World, w9 = wc := ⟨_, rfl⟩
          have HT9 := Lib.hid hT9.out.1
          have HO9 := Lib.hid (own_below HO8.out hT9.out.2)
          have HF := Lib.hid (fun b (hf : foot w.heap.size ks6 us6 b) => HT7.out.pl.foot_lt hf)
          have HF2 := Lib.hid (fun b (hf : rfoot (w.heap.size + 1) (.slice A6 L6.length c6) b) => HT7.out.rf.foot_lt hf)
          have HW7 := Lib.hid HT7.out.bel.size
          clear hT9 cl
          go_wp2
          go_loopw [18] (fun i wr => ∃ (j : Nat) (xs : List Value), j ≤ E6.length ∧ i = .int .i64 j ∧ Hid (wr.ownsRow w7.heap.size 9 1 (.slice Y E6.length cy) E6.length xs ∧ Kept (fun b => (Value.slice Y E6.length cy).ownBlock = some b) w9 wr)) (fun i _ => E6.length - (intOf i).toNat)
          case atStart => exact ⟨0, _, by omega, rfl, HO9.out, Kept.of_below (Below.refl _ _)⟩
          case round =>
            obtain ⟨j, xs, hj, rfl, hh⟩ := hrel
            by_cases hjl : j < E6.length
            · obtain ⟨bY, cY, hY, _, _, _⟩ := own_has hh.out.1 (by omega)
              injection hY with hY1 hY2 hY3
              subst hY1
              obtain ⟨xv, hxv⟩ := own_c hh.out.1 hjl
              have hfv := own_f hh.out.1 j
              have hjl1 : (j : Int) < (E6.length : Int) := by omega
              clear hY2 hY3
              go_wp2
              go_roundw
              case rel => exact ⟨j + 1, _, by omega, by go_num, own_set hh.out.1 _, hh.out.2.trans (kept_set _ _ _) (fun _ _ e => by rw [e]; rfl)⟩
              case measure => simp [intOf]; omega
            · obtain rfl : j = E6.length := by omega
              have hnx : ∀ b, (Value.slice Y E6.length cy).ownBlock = some b → w7.heap.size ≤ b := fun b hb => (hh.out.1.lt b hb).1
              have HTn := Lib.hid (HT9.out.kept hh.out.2 (fun b hf e => by have := hnx b e; have := HF.out b hf; omega) (fun b hf e => by have := hnx b e; have := HF2.out b hf; omega) (fun b e => Nat.le_trans HW7.out (hnx b e)))
              clear hnx
              go_wp2
              go_roundw
              case rel => exact ⟨k + 1, by omega, by omega, by go_num, _, _, _, _, _, HTn.out, by omega⟩
              case measure => simp [intOf]; omega
    · by_cases hkn : k < n
      · have hkn1 : (k : Int) < (n : Int) := by omega
        have hk61 : ¬ (k : Int) < 60 := by omega
        go_wp2_with (first
          | (go_at_call 16; refine (list_any _ ks us E _ HT.out.pl (by omega)).mono ?_; rintro e w2 ⟨⟨v, rfl, ho⟩, hb⟩; have HO := Lib.hid ho; have HT2 := Lib.hid (HT.out.below hb); clear hb; obtain ⟨Y, cy, rfl, hcy, hcy2⟩ := own_shape ho; clear ho)
          | (go_at_call 19; refine (refList_any _ lv L _ HT2.out.rf (by omega) HT2.out.nod (fun x hx => by have := HT2.out.sht x hx; omega)).mono ?_; rintro e w3 ⟨⟨v, rfl, ho3⟩, hb⟩; have HO3 := Lib.hid (And.intro ho3 hb); clear hb; obtain ⟨Z, cz, rfl, hcz, hcz2⟩ := own_shape ho3; clear ho3)
          | (go_at_call 18; refine (eqTexts_any Y _ cy (keys E) Z _ cz (srtK (keys L)) _ ((Rd.of_own HO.out).below HO3.out.2) (Rd.of_own HO3.out.1) (by omega) (by omega)).mono ?_; rintro e w4 ⟨rfl, hb⟩; rw [HT.out.agr.keys_, list_beq_self]; have HB4 := Lib.hid (below_then HT2.out.bel (below_then HO3.out.2 hb)); clear hb)
          | (go_at_call 20; refine (works_any _).mono ?_; rintro e w5 ⟨rfl, hb⟩))
        go_ret
        exact ⟨rfl, below_then HB4.out hb⟩
      · have hkn1 : ¬ (k : Int) < (n : Int) := by omega
        go_wp2_with (first
          | (go_at_call 16; refine (list_any _ ks us E _ HT.out.pl (by omega)).mono ?_; rintro e w2 ⟨⟨v, rfl, ho⟩, hb⟩; have HO := Lib.hid ho; have HT2 := Lib.hid (HT.out.below hb); clear hb; obtain ⟨Y, cy, rfl, hcy, hcy2⟩ := own_shape ho; clear ho)
          | (go_at_call 19; refine (refList_any _ lv L _ HT2.out.rf (by omega) HT2.out.nod (fun x hx => by have := HT2.out.sht x hx; omega)).mono ?_; rintro e w3 ⟨⟨v, rfl, ho3⟩, hb⟩; have HO3 := Lib.hid (And.intro ho3 hb); clear hb; obtain ⟨Z, cz, rfl, hcz, hcz2⟩ := own_shape ho3; clear ho3)
          | (go_at_call 18; refine (eqTexts_any Y _ cy (keys E) Z _ cz (srtK (keys L)) _ ((Rd.of_own HO.out).below HO3.out.2) (Rd.of_own HO3.out.1) (by omega) (by omega)).mono ?_; rintro e w4 ⟨rfl, hb⟩; rw [HT.out.agr.keys_, list_beq_self]; have HB4 := Lib.hid (below_then HT2.out.bel (below_then HO3.out.2 hb)); clear hb)
          | (go_at_call 20; refine (works_any _).mono ?_; rintro e w5 ⟨rfl, hb⟩))
        go_ret
        exact ⟨rfl, below_then HB4.out hb⟩
end Go.Proofs.Ytdomplhhjkikmaa
