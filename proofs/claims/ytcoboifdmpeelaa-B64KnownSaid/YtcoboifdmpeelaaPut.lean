import Derived.Test.YtcoboifdmpeelaaPlain
import Derived.BigQuiet
import Derived.Deep.QuietTactic
namespace Go.Proofs.Ytcoboifdmpeelaa
open Go.RowKit
theorem wrap64_id {n : Int} (h0 : 0 ≤ n) (h1 : n < 9223372036854775808) : wrap64 n = n := by unfold wrap64; omega
theorem three_spelled3 (x y z : UInt8) : bits .or .i64 (wrap64 (bits .or .i64 (wrap64 (bits .or .i64 0 (x.toNat : Int) * 256)) (y.toNat : Int) * 256)) (z.toNat : Int) = ((three x y z : Nat) : Int) := by
  have := x.toNat_lt; have := y.toNat_lt; have := z.toNat_lt
  rw [or_i64 (x := 0) (by omega) (by omega) (by omega) (by omega) (by omega), Int.zero_add, wrap64_id (n := (x.toNat : Int) * 256) (by omega) (by omega)]
  rw [or_i64 (x := (x.toNat : Int) * 256) (by omega) (by omega) (by omega) (by omega) (by omega), wrap64_id (n := ((x.toNat : Int) * 256 + y.toNat) * 256) (by omega) (by omega)]
  rw [or_i64 (by omega) (by omega) (by omega) (by omega) (by omega)]
  unfold three; omega
theorem three_spelled2 (x y : UInt8) : wrap64 (bits .or .i64 (wrap64 (bits .or .i64 0 (x.toNat : Int) * 256)) (y.toNat : Int) * 256) = ((three x y 0 : Nat) : Int) := by
  have := x.toNat_lt; have := y.toNat_lt
  rw [or_i64 (x := 0) (by omega) (by omega) (by omega) (by omega) (by omega), Int.zero_add, wrap64_id (n := (x.toNat : Int) * 256) (by omega) (by omega)]
  rw [or_i64 (x := (x.toNat : Int) * 256) (by omega) (by omega) (by omega) (by omega) (by omega), wrap64_id (n := ((x.toNat : Int) * 256 + y.toNat) * 256) (by omega) (by omega)]
  unfold three
  rw [show (0 : UInt8).toNat = 0 from rfl]
  omega
theorem three_spelled1 (x : UInt8) : wrap64 (wrap64 (bits .or .i64 0 (x.toNat : Int) * 256) * 256) = ((three x 0 0 : Nat) : Int) := by
  have := x.toNat_lt
  rw [or_i64 (x := 0) (by omega) (by omega) (by omega) (by omega) (by omega), Int.zero_add, wrap64_id (n := (x.toNat : Int) * 256) (by omega) (by omega)]
  rw [wrap64_id (n := (x.toNat : Int) * 256 * 256) (by omega) (by omega)]
  unfold three
  rw [show (0 : UInt8).toNat = 0 from rfl]
  omega
theorem rune61 : Lib.runeCells 61 = [.int .u8 61] := by rw [Lib.runeCells, Lib.encodeRuneZ_one (by omega) (by omega)]; rfl
theorem and_digit (V k : Nat) (K : Int) (hK : K = (k : Int)) (hV : V < 16777216) : bits .and .i64 ((V : Int) / K) 63 = ((V / k % 64 : Nat) : Int) := by
  subst hK
  have := Nat.div_le_self V k
  obtain ⟨t, ht⟩ : ∃ t, V / k = t := ⟨_, rfl⟩
  rw [← Int.natCast_ediv, ht, and63_i64 (by omega) (by omega)]
  omega
theorem byteCells_app (a b : List UInt8) : Lib.byteCells (a ++ b) = Lib.byteCells a ++ Lib.byteCells b := by simp [Lib.byteCells]
theorem dg_cell (i : Nat) (h : i < 64) : dg i = alphaS[i]'(by exact h) := by
  unfold dg
  rw [List.getD_eq_getElem?_getD, Array.getElem?_toList, Array.getElem?_eq_getElem (show i < alphaS.data.size from h)]
  rfl
set_option maxRecDepth 100000 in
set_option maxHeartbeats 8000000 in
theorem put_any (A : Option Addr) (n c : Nat) (l : List UInt8) (w : World) (hA : Rd w 1 A n (Lib.byteCells l)) (hc : n ≤ c) (hn : n ≤ 1000000) :
    Calls Try.prog 12 #[.slice A n c] w fun e w' => e = .returned (.string ⟨(enc l).toArray⟩) ∧ Below w.heap.size w w' := by
  have hl : l.length = n := by have := hA.1; simpa [Lib.byteCells_length] using this
  have hL := enc_length l
  obtain ⟨L, hL'⟩ : ∃ L, (enc l).length = L := ⟨_, rfl⟩
  have hL2 : L ≤ 2000000 := by omega
  clear hL
  go_enter Try.func12, Try.ntmps12
  go_wp2
  go_loopw [0] (fun s wr => ∃ (X : Option Addr) (m d : Nat) (rest done : List UInt8), s = .slice X m d ∧ m ≤ d ∧ Rd w 1 X m (Lib.byteCells rest) ∧ enc l = done ++ enc rest ∧ Lib.IsBuilderF 40 5 w.heap.size w.heap.size (Lib.byteCells done) wr ∧ Below w.heap.size w wr) (fun s _ => match s with | .slice _ m _ => m | _ => 0)
  case atStart => exact ⟨A, n, c, l, [], rfl, hc, hA, rfl, isBuilder_new w _ (Nat.le_refl _), (Below.refl _ w).alloc (Nat.le_refl _) _⟩
  case round =>
    obtain ⟨X, m, d, rest, done, rfl, hmd, hX, he, hB, hb⟩ := hrel
    have hm : rest.length = m := by have := hX.1; simpa [Lib.byteCells_length] using this
    have hdl : done.length ≤ 2000000 := by have := congrArg List.length he; simp at this; omega
    rcases rest with _ | ⟨x, _ | ⟨y, _ | ⟨z, r⟩⟩⟩
    ·
      obtain rfl : m = 0 := by simpa using hm.symm
      clear hm
      obtain rfl : done = enc l := by rw [he]; simp only [enc, List.append_nil]
      clear he
      go_wp2_with (go_at_call 25; refine (Try.Builder_String_any_f w.heap.size w.heap.size (enc l) _ hB hb.size).mono ?_; rintro e w' ⟨rfl, _, hb'⟩)
      go_ret
      exact ⟨rfl, hb.trans hb'⟩
    ·
      simp only [List.length_cons, List.length_nil] at hm
      have m1 : (0 : Int) < (m : Int) := by omega
      have m2 : min (3 : Int) (m : Int) = 1 := by omega
      have m3 : (1 : Int) ≤ (m : Int) := by omega
      have m4 : 1 ≤ d := by omega
      have m5 : m ≤ d := hmd
      obtain ⟨b, o, rfl, hbl, hcell⟩ := (hX.below hb).2 (by omega)
      have g0 := hcell 0 (.int .u8 x.toNat) rfl
      rw [Nat.add_zero] at g0
      clear hcell
      have bx := x.toNat_lt
      obtain ⟨x', hx'⟩ : ∃ x' : Nat, x.toNat = x' := ⟨_, rfl⟩
      rw [hx'] at g0 bx
      obtain ⟨V, hV⟩ : ∃ V : Nat, three x 0 0 = V := ⟨_, rfl⟩
      have HV : Hid (wrap64 (wrap64 (bits .or .i64 0 (x' : Int) * 256) * 256) = (V : Int)) := by
        have := three_spelled1 x
        rw [hx', hV] at this
        exact this
      go_wp2
      refine wp_loop_rounds 4 ?_
      rw [rounds_succ]; go_wp2
      rw [rounds_succ]; go_wp2
      rw [rounds_succ]; go_wp2
      rw [rounds_succ]; go_wp2
      have hVl : V < 16777216 := hV ▸ three_lt x 0 0
      obtain ⟨i1, hi1⟩ : ∃ i : Nat, V / 262144 % 64 = i := ⟨_, rfl⟩
      have j1 : i1 < 64 := by omega
      have q1 : bits .and .i64 ((V : Int) / 262144) 63 = (i1 : Int) := by rw [and_digit V 262144 262144 rfl hVl, hi1]
      obtain ⟨i2, hi2⟩ : ∃ i : Nat, V / 4096 % 64 = i := ⟨_, rfl⟩
      have j2 : i2 < 64 := by omega
      have q2 : bits .and .i64 ((V : Int) / 4096) 63 = (i2 : Int) := by rw [and_digit V 4096 4096 rfl hVl, hi2]
      rw [HV.out]
      refine wp_loop_rounds 5 ?_
      rw [rounds_succ]
      go_wp2_with (first
        | (go_at_call 24; refine (writeByte_any w.heap.size w.heap.size _ _ _ hB (by simp [Lib.byteCells_length]; omega) hb.size).mono ?_; rintro e w' ⟨rfl, hB', hb'⟩; replace hb := hb.trans hb'; clear hb'; replace hB := hB'; clear hB')
        | (go_at_call 23; refine (writeRune_any w.heap.size w.heap.size _ 61 (by omega) (by omega) _ hB (by simp [Lib.byteCells_length]; omega) hb.size).mono ?_; rintro e w' ⟨rfl, hB', hb'⟩; replace hb := hb.trans hb'; clear hb'; replace hB := hB'; clear hB'; rw [rune61] at hB))
      rw [rounds_succ]
      go_wp2_with (first
        | (go_at_call 24; refine (writeByte_any w.heap.size w.heap.size _ _ _ hB (by simp [Lib.byteCells_length]; omega) hb.size).mono ?_; rintro e w' ⟨rfl, hB', hb'⟩; replace hb := hb.trans hb'; clear hb'; replace hB := hB'; clear hB')
        | (go_at_call 23; refine (writeRune_any w.heap.size w.heap.size _ 61 (by omega) (by omega) _ hB (by simp [Lib.byteCells_length]; omega) hb.size).mono ?_; rintro e w' ⟨rfl, hB', hb'⟩; replace hb := hb.trans hb'; clear hb'; replace hB := hB'; clear hB'; rw [rune61] at hB))
      rw [rounds_succ]
      go_wp2_with (first
        | (go_at_call 24; refine (writeByte_any w.heap.size w.heap.size _ _ _ hB (by simp [Lib.byteCells_length]; omega) hb.size).mono ?_; rintro e w' ⟨rfl, hB', hb'⟩; replace hb := hb.trans hb'; clear hb'; replace hB := hB'; clear hB')
        | (go_at_call 23; refine (writeRune_any w.heap.size w.heap.size _ 61 (by omega) (by omega) _ hB (by simp [Lib.byteCells_length]; omega) hb.size).mono ?_; rintro e w' ⟨rfl, hB', hb'⟩; replace hb := hb.trans hb'; clear hb'; replace hB := hB'; clear hB'; rw [rune61] at hB))
      rw [rounds_succ]
      go_wp2_with (first
        | (go_at_call 24; refine (writeByte_any w.heap.size w.heap.size _ _ _ hB (by simp [Lib.byteCells_length]; omega) hb.size).mono ?_; rintro e w' ⟨rfl, hB', hb'⟩; replace hb := hb.trans hb'; clear hb'; replace hB := hB'; clear hB')
        | (go_at_call 23; refine (writeRune_any w.heap.size w.heap.size _ 61 (by omega) (by omega) _ hB (by simp [Lib.byteCells_length]; omega) hb.size).mono ?_; rintro e w' ⟨rfl, hB', hb'⟩; replace hb := hb.trans hb'; clear hb'; replace hB := hB'; clear hB'; rw [rune61] at hB))
      rw [rounds_succ]
      go_wp2
      refine ⟨⟨_, _, _, [], done ++ [dg i1, dg i2, 61, 61], rfl, by omega, ?_, ?_, ?_, hb⟩, by show m - 1 < m; omega⟩
      · have := hX.drop1 (k := 1) (c := d) (by omega) hmd
        simpa [spot_add, Lib.byteCells] using this
      · rw [he, show enc ([x]) = [dg i1, dg i2, 61, 61] ++ enc [] from by simp only [enc, List.cons_append, List.nil_append]; rw [hV, show V / 262144 = i1 by omega, hi2]]
        simp
      · refine (congrArg (fun z => Lib.IsBuilderF 40 5 w.heap.size w.heap.size z _) ?_).mp hB
        rw [byteCells_app, List.append_assoc, List.append_assoc, List.append_assoc]
        refine congrArg _ ?_
        simp only [Lib.byteCells, List.map_cons, List.map_nil, List.cons_append, List.nil_append]
        rw [dg_cell i1 j1, dg_cell i2 j2]
        rfl
    ·
      simp only [List.length_cons, List.length_nil] at hm
      have m1 : (0 : Int) < (m : Int) := by omega
      have m2 : min (3 : Int) (m : Int) = 2 := by omega
      have m3 : (2 : Int) ≤ (m : Int) := by omega
      have m4 : 2 ≤ d := by omega
      have m5 : m ≤ d := hmd
      obtain ⟨b, o, rfl, hbl, hcell⟩ := (hX.below hb).2 (by omega)
      have g0 := hcell 0 (.int .u8 x.toNat) rfl
      have g1 := hcell 1 (.int .u8 y.toNat) rfl
      rw [Nat.add_zero] at g0
      clear hcell
      have bx := x.toNat_lt
      obtain ⟨x', hx'⟩ : ∃ x' : Nat, x.toNat = x' := ⟨_, rfl⟩
      rw [hx'] at g0 bx
      have bY := y.toNat_lt
      obtain ⟨y', hy'⟩ : ∃ y' : Nat, y.toNat = y' := ⟨_, rfl⟩
      rw [hy'] at g1 bY
      obtain ⟨V, hV⟩ : ∃ V : Nat, three x y 0 = V := ⟨_, rfl⟩
      have HV : Hid (wrap64 (bits .or .i64 (wrap64 (bits .or .i64 0 (x' : Int) * 256)) (y' : Int) * 256) = (V : Int)) := by
        have := three_spelled2 x y
        rw [hx', hy', hV] at this
        exact this
      go_wp2
      refine wp_loop_rounds 4 ?_
      rw [rounds_succ]; go_wp2
      rw [rounds_succ]; go_wp2
      rw [rounds_succ]; go_wp2
      rw [rounds_succ]; go_wp2
      have hVl : V < 16777216 := hV ▸ three_lt x y 0
      obtain ⟨i1, hi1⟩ : ∃ i : Nat, V / 262144 % 64 = i := ⟨_, rfl⟩
      have j1 : i1 < 64 := by omega
      have q1 : bits .and .i64 ((V : Int) / 262144) 63 = (i1 : Int) := by rw [and_digit V 262144 262144 rfl hVl, hi1]
      obtain ⟨i2, hi2⟩ : ∃ i : Nat, V / 4096 % 64 = i := ⟨_, rfl⟩
      have j2 : i2 < 64 := by omega
      have q2 : bits .and .i64 ((V : Int) / 4096) 63 = (i2 : Int) := by rw [and_digit V 4096 4096 rfl hVl, hi2]
      obtain ⟨i3, hi3⟩ : ∃ i : Nat, V / 64 % 64 = i := ⟨_, rfl⟩
      have j3 : i3 < 64 := by omega
      have q3 : bits .and .i64 ((V : Int) / 64) 63 = (i3 : Int) := by rw [and_digit V 64 64 rfl hVl, hi3]
      rw [HV.out]
      refine wp_loop_rounds 5 ?_
      rw [rounds_succ]
      go_wp2_with (first
        | (go_at_call 24; refine (writeByte_any w.heap.size w.heap.size _ _ _ hB (by simp [Lib.byteCells_length]; omega) hb.size).mono ?_; rintro e w' ⟨rfl, hB', hb'⟩; replace hb := hb.trans hb'; clear hb'; replace hB := hB'; clear hB')
        | (go_at_call 23; refine (writeRune_any w.heap.size w.heap.size _ 61 (by omega) (by omega) _ hB (by simp [Lib.byteCells_length]; omega) hb.size).mono ?_; rintro e w' ⟨rfl, hB', hb'⟩; replace hb := hb.trans hb'; clear hb'; replace hB := hB'; clear hB'; rw [rune61] at hB))
      rw [rounds_succ]
      go_wp2_with (first
        | (go_at_call 24; refine (writeByte_any w.heap.size w.heap.size _ _ _ hB (by simp [Lib.byteCells_length]; omega) hb.size).mono ?_; rintro e w' ⟨rfl, hB', hb'⟩; replace hb := hb.trans hb'; clear hb'; replace hB := hB'; clear hB')
        | (go_at_call 23; refine (writeRune_any w.heap.size w.heap.size _ 61 (by omega) (by omega) _ hB (by simp [Lib.byteCells_length]; omega) hb.size).mono ?_; rintro e w' ⟨rfl, hB', hb'⟩; replace hb := hb.trans hb'; clear hb'; replace hB := hB'; clear hB'; rw [rune61] at hB))
      rw [rounds_succ]
      go_wp2_with (first
        | (go_at_call 24; refine (writeByte_any w.heap.size w.heap.size _ _ _ hB (by simp [Lib.byteCells_length]; omega) hb.size).mono ?_; rintro e w' ⟨rfl, hB', hb'⟩; replace hb := hb.trans hb'; clear hb'; replace hB := hB'; clear hB')
        | (go_at_call 23; refine (writeRune_any w.heap.size w.heap.size _ 61 (by omega) (by omega) _ hB (by simp [Lib.byteCells_length]; omega) hb.size).mono ?_; rintro e w' ⟨rfl, hB', hb'⟩; replace hb := hb.trans hb'; clear hb'; replace hB := hB'; clear hB'; rw [rune61] at hB))
      rw [rounds_succ]
      go_wp2_with (first
        | (go_at_call 24; refine (writeByte_any w.heap.size w.heap.size _ _ _ hB (by simp [Lib.byteCells_length]; omega) hb.size).mono ?_; rintro e w' ⟨rfl, hB', hb'⟩; replace hb := hb.trans hb'; clear hb'; replace hB := hB'; clear hB')
        | (go_at_call 23; refine (writeRune_any w.heap.size w.heap.size _ 61 (by omega) (by omega) _ hB (by simp [Lib.byteCells_length]; omega) hb.size).mono ?_; rintro e w' ⟨rfl, hB', hb'⟩; replace hb := hb.trans hb'; clear hb'; replace hB := hB'; clear hB'; rw [rune61] at hB))
      rw [rounds_succ]
      go_wp2
      refine ⟨⟨_, _, _, [], done ++ [dg i1, dg i2, dg i3, 61], rfl, by omega, ?_, ?_, ?_, hb⟩, by show m - 2 < m; omega⟩
      · have := hX.drop1 (k := 2) (c := d) (by omega) hmd
        simpa [spot_add, Lib.byteCells] using this
      · rw [he, show enc ([x, y]) = [dg i1, dg i2, dg i3, 61] ++ enc [] from by simp only [enc, List.cons_append, List.nil_append]; rw [hV, show V / 262144 = i1 by omega, hi2, hi3]]
        simp
      · refine (congrArg (fun z => Lib.IsBuilderF 40 5 w.heap.size w.heap.size z _) ?_).mp hB
        rw [byteCells_app, List.append_assoc, List.append_assoc, List.append_assoc]
        refine congrArg _ ?_
        simp only [Lib.byteCells, List.map_cons, List.map_nil, List.cons_append, List.nil_append]
        rw [dg_cell i1 j1, dg_cell i2 j2, dg_cell i3 j3]
        rfl
    ·
      simp only [List.length_cons] at hm
      have m1 : (0 : Int) < (m : Int) := by omega
      have m2 : min (3 : Int) (m : Int) = 3 := by omega
      have m3 : (3 : Int) ≤ (m : Int) := by omega
      have m4 : 3 ≤ d := by omega
      have m5 : m ≤ d := hmd
      obtain ⟨b, o, rfl, hbl, hcell⟩ := (hX.below hb).2 (by omega)
      have g0 := hcell 0 (.int .u8 x.toNat) rfl
      have g1 := hcell 1 (.int .u8 y.toNat) rfl
      have g2 := hcell 2 (.int .u8 z.toNat) rfl
      rw [Nat.add_zero] at g0
      clear hcell
      have bx := x.toNat_lt
      obtain ⟨x', hx'⟩ : ∃ x' : Nat, x.toNat = x' := ⟨_, rfl⟩
      rw [hx'] at g0 bx
      have bY := y.toNat_lt
      obtain ⟨y', hy'⟩ : ∃ y' : Nat, y.toNat = y' := ⟨_, rfl⟩
      rw [hy'] at g1 bY
      have bz := z.toNat_lt
      obtain ⟨z', hz'⟩ : ∃ z' : Nat, z.toNat = z' := ⟨_, rfl⟩
      rw [hz'] at g2 bz
      obtain ⟨V, hV⟩ : ∃ V : Nat, three x y z = V := ⟨_, rfl⟩
      have HV : Hid (bits .or .i64 (wrap64 (bits .or .i64 (wrap64 (bits .or .i64 0 (x' : Int) * 256)) (y' : Int) * 256)) (z' : Int) = (V : Int)) := by
        have := three_spelled3 x y z
        rw [hx', hy', hz', hV] at this
        exact this
      go_wp2
      refine wp_loop_rounds 4 ?_
      rw [rounds_succ]; go_wp2
      rw [rounds_succ]; go_wp2
      rw [rounds_succ]; go_wp2
      rw [rounds_succ]; go_wp2
      have hVl : V < 16777216 := hV ▸ three_lt x y z
      obtain ⟨i1, hi1⟩ : ∃ i : Nat, V / 262144 % 64 = i := ⟨_, rfl⟩
      have j1 : i1 < 64 := by omega
      have q1 : bits .and .i64 ((V : Int) / 262144) 63 = (i1 : Int) := by rw [and_digit V 262144 262144 rfl hVl, hi1]
      obtain ⟨i2, hi2⟩ : ∃ i : Nat, V / 4096 % 64 = i := ⟨_, rfl⟩
      have j2 : i2 < 64 := by omega
      have q2 : bits .and .i64 ((V : Int) / 4096) 63 = (i2 : Int) := by rw [and_digit V 4096 4096 rfl hVl, hi2]
      obtain ⟨i3, hi3⟩ : ∃ i : Nat, V / 64 % 64 = i := ⟨_, rfl⟩
      have j3 : i3 < 64 := by omega
      have q3 : bits .and .i64 ((V : Int) / 64) 63 = (i3 : Int) := by rw [and_digit V 64 64 rfl hVl, hi3]
      obtain ⟨i4, hi4⟩ : ∃ i : Nat, V % 64 = i := ⟨_, rfl⟩
      have j4 : i4 < 64 := by omega
      have q4 : bits .and .i64 (V : Int) 63 = (i4 : Int) := by rw [and63_i64 (by omega) (by omega)]; omega
      rw [HV.out]
      refine wp_loop_rounds 5 ?_
      rw [rounds_succ]
      go_wp2_with (first
        | (go_at_call 24; refine (writeByte_any w.heap.size w.heap.size _ _ _ hB (by simp [Lib.byteCells_length]; omega) hb.size).mono ?_; rintro e w' ⟨rfl, hB', hb'⟩; replace hb := hb.trans hb'; clear hb'; replace hB := hB'; clear hB')
        | (go_at_call 23; refine (writeRune_any w.heap.size w.heap.size _ 61 (by omega) (by omega) _ hB (by simp [Lib.byteCells_length]; omega) hb.size).mono ?_; rintro e w' ⟨rfl, hB', hb'⟩; replace hb := hb.trans hb'; clear hb'; replace hB := hB'; clear hB'; rw [rune61] at hB))
      rw [rounds_succ]
      go_wp2_with (first
        | (go_at_call 24; refine (writeByte_any w.heap.size w.heap.size _ _ _ hB (by simp [Lib.byteCells_length]; omega) hb.size).mono ?_; rintro e w' ⟨rfl, hB', hb'⟩; replace hb := hb.trans hb'; clear hb'; replace hB := hB'; clear hB')
        | (go_at_call 23; refine (writeRune_any w.heap.size w.heap.size _ 61 (by omega) (by omega) _ hB (by simp [Lib.byteCells_length]; omega) hb.size).mono ?_; rintro e w' ⟨rfl, hB', hb'⟩; replace hb := hb.trans hb'; clear hb'; replace hB := hB'; clear hB'; rw [rune61] at hB))
      rw [rounds_succ]
      go_wp2_with (first
        | (go_at_call 24; refine (writeByte_any w.heap.size w.heap.size _ _ _ hB (by simp [Lib.byteCells_length]; omega) hb.size).mono ?_; rintro e w' ⟨rfl, hB', hb'⟩; replace hb := hb.trans hb'; clear hb'; replace hB := hB'; clear hB')
        | (go_at_call 23; refine (writeRune_any w.heap.size w.heap.size _ 61 (by omega) (by omega) _ hB (by simp [Lib.byteCells_length]; omega) hb.size).mono ?_; rintro e w' ⟨rfl, hB', hb'⟩; replace hb := hb.trans hb'; clear hb'; replace hB := hB'; clear hB'; rw [rune61] at hB))
      rw [rounds_succ]
      go_wp2_with (first
        | (go_at_call 24; refine (writeByte_any w.heap.size w.heap.size _ _ _ hB (by simp [Lib.byteCells_length]; omega) hb.size).mono ?_; rintro e w' ⟨rfl, hB', hb'⟩; replace hb := hb.trans hb'; clear hb'; replace hB := hB'; clear hB')
        | (go_at_call 23; refine (writeRune_any w.heap.size w.heap.size _ 61 (by omega) (by omega) _ hB (by simp [Lib.byteCells_length]; omega) hb.size).mono ?_; rintro e w' ⟨rfl, hB', hb'⟩; replace hb := hb.trans hb'; clear hb'; replace hB := hB'; clear hB'; rw [rune61] at hB))
      rw [rounds_succ]
      go_wp2
      refine ⟨⟨_, _, _, r, done ++ [dg i1, dg i2, dg i3, dg i4], rfl, by omega, ?_, ?_, ?_, hb⟩, by show m - 3 < m; omega⟩
      · have := hX.drop1 (k := 3) (c := d) (by omega) hmd
        simpa [spot_add, Lib.byteCells] using this
      · rw [he, show enc (x :: y :: z :: r) = [dg i1, dg i2, dg i3, dg i4] ++ enc r from by simp only [enc, List.cons_append, List.nil_append]; rw [hV, show V / 262144 = i1 by omega, hi2, hi3, hi4]]
        simp
      · refine (congrArg (fun z => Lib.IsBuilderF 40 5 w.heap.size w.heap.size z _) ?_).mp hB
        rw [byteCells_app, List.append_assoc, List.append_assoc, List.append_assoc]
        refine congrArg _ ?_
        simp only [Lib.byteCells, List.map_cons, List.map_nil, List.cons_append, List.nil_append]
        rw [dg_cell i1 j1, dg_cell i2 j2, dg_cell i3 j3, dg_cell i4 j4]
        rfl
end Go.Proofs.Ytcoboifdmpeelaa
