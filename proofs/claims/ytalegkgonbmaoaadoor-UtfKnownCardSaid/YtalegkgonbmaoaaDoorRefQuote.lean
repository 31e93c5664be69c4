import Derived.Test.YtalegkgonbmaoaaDoorRefValid
import Derived.BigQuiet
import Derived.Deep.QuietTactic
import Derived.Deep.DeepCutAuto
/- The reference's Quote: it answers what the program's Quote answers. -/
set_option linter.unusedVariables false
set_option linter.unusedSimpArgs false
namespace Go.Proofs.YtalegkgonbmaoaaDoor
open Go.RowKit
set_option maxRecDepth 100000 in
set_option maxHeartbeats 40000000 in
theorem refQuote_any (l : List UInt8) (w : World) (hmax : l.length ≤ 100000) :
    Calls Tryd.prog 23 #[.string ⟨l.toArray⟩] w fun e w' => e = .returned (.tuple #[.string ⟨(quoteA l).1.toArray⟩, .int .i64 ((quoteA l).2 : Int)]) ∧ Below w.heap.size w w' := by
  have hsz : (ByteArray.mk l.toArray).size = l.length := by show l.toArray.size = _; simp
  have cV := refValid_any l w (by omega)
  unfold quoteA
  cases hv : Lib.validD l with
  | false =>
    rw [hv] at cV
    go_enter Tryd.func23, Tryd.ntmps23
    go_wp2_with (go_at_call 25; refine cV.mono ?_; rintro e w1 ⟨rfl, hb⟩)
    go_ret2
    exact ⟨rfl, hb⟩
  | true =>
    rw [hv] at cV
    have HQ := Lib.hid (bq_quote l.length l (Nat.le_refl _) hv)
    go_enter Tryd.func23, Tryd.ntmps23
    go_wp2_with (go_at_call 25; refine cV.mono ?_; rintro e w0 ⟨rfl, hb0⟩)
    have HB0 := Lib.hid hb0
    clear cV hb0 hv
    go_loopw [4, 5] (fun s i wr => ∃ k : Nat, k ≤ l.length ∧ i = .int .i64 (k : Int) ∧ s = .string ⟨([34] ++ (l.take k).flatMap bq).toArray⟩ ∧ Below w.heap.size w wr) (fun _ i _ => l.length - (intOf i).toNat)
    case atStart => exact ⟨0, by omega, rfl, by simp, HB0.out⟩
    case round =>
      obtain ⟨k, hk, rfl, rfl, hb⟩ := hrel
      by_cases hlt : k < l.length
      · obtain ⟨c, hc⟩ : ∃ c, l[k]? = some c := ⟨_, List.getElem?_eq_getElem hlt⟩
        have hx : (ByteArray.mk l.toArray)[k]'(by rw [hsz]; exact hlt) = c := by
          rw [List.getElem?_eq_getElem hlt] at hc
          injection hc
        have hgk : l[k]'hlt = c := hx
        obtain ⟨S, hS⟩ : ∃ S, [34] ++ (l.take k).flatMap bq = S := ⟨_, rfl⟩
        have hSl : S.length ≤ 700000 := by rw [← hS]; have := bqs_len (l.take k); rw [List.length_take] at this; simp only [List.length_append, List.length_cons, List.length_nil]; omega
        have hS1 : [34] ++ (l.take (k + 1)).flatMap bq = S ++ bq c := by
          rw [List.take_succ_eq_append_getElem hlt, List.flatMap_append, hgk, ← hS]; simp
        rw [hS]
        have hz : (k : Int) < (l.length : Int) := by omega
        have hk1 : k + 1 ≤ l.length := by omega
        have HB := Lib.hid hb
        have hcl := c.toNat_lt
        clear hc hS hb hgk
        rcases kinds c with rfl | rfl | rfl | rfl | rfl | rfl | rfl | rfl | ⟨n1, n2, n3, n4, n5, n6, n7, n8⟩
        · have hbq : bq 34 = [92, 34] := rfl
          rw [hbq, show S ++ [92, 34] = S ++ [92] ++ [34] by simp] at hS1
          have HS := Lib.hid hS1
          have happ := app_list S [92]
          have happ2 := app_list (S ++ [92]) [34]
          have hex : (⟨#[34, 92, 47, 98, 102, 110, 114, 116]⟩ : ByteArray).extract 0 1 = ⟨#[34]⟩ := rfl
          clear hbq hS1
          go_wp2
          refine wp_loop_rounds 10 ?_
          rw [rounds_succ]
          go_wp2
          go_quiet (fail)
          obtain ⟨w1, hw1⟩ : ∃ w1, wr.drewN nq = w1 := ⟨_, rfl⟩
          have hb1 : Below w.heap.size w w1 := by rw [← hw1]; exact below_drewN HB.out _
          rw [hw1]
          clear hw1
          go_wp2
          rw [rounds_succ]
          go_wp2
          go_quiet (fail)
          obtain ⟨w2, hw2⟩ : ∃ w2, w1.drewN nq = w2 := ⟨_, rfl⟩
          have hb2 : Below w.heap.size w w2 := by rw [← hw2]; exact below_drewN hb1 _
          rw [hw2]
          clear hw2 hb1
          go_wp2
          rw [rounds_succ]
          go_wp2
          go_quiet (fail)
          obtain ⟨w3, hw3⟩ : ∃ w3, w2.drewN nq = w3 := ⟨_, rfl⟩
          have hb3 : Below w.heap.size w w3 := by rw [← hw3]; exact below_drewN hb2 _
          rw [hw3]
          clear hw3 hb2
          go_wp2
          rw [rounds_succ]
          go_wp2
          go_quiet (fail)
          obtain ⟨w4, hw4⟩ : ∃ w4, w3.drewN nq = w4 := ⟨_, rfl⟩
          have hb4 : Below w.heap.size w w4 := by rw [← hw4]; exact below_drewN hb3 _
          rw [hw4]
          clear hw4 hb3
          go_wp2
          rw [rounds_succ]
          go_wp2
          go_quiet (fail)
          obtain ⟨w5, hw5⟩ : ∃ w5, w4.drewN nq = w5 := ⟨_, rfl⟩
          have hb5 : Below w.heap.size w w5 := by rw [← hw5]; exact below_drewN hb4 _
          rw [hw5]
          clear hw5 hb4
          go_wp2
          rw [rounds_succ]
          go_wp2
          go_quiet (fail)
          obtain ⟨w6, hw6⟩ : ∃ w6, w5.drewN nq = w6 := ⟨_, rfl⟩
          have hb6 : Below w.heap.size w w6 := by rw [← hw6]; exact below_drewN hb5 _
          rw [hw6]
          clear hw6 hb5
          go_wp2
          rw [rounds_succ]
          go_wp2
          go_quiet (fail)
          obtain ⟨w7, hw7⟩ : ∃ w7, w6.drewN nq = w7 := ⟨_, rfl⟩
          have hb7 : Below w.heap.size w w7 := by rw [← hw7]; exact below_drewN hb6 _
          rw [hw7]
          clear hw7 hb6
          go_wp2
          rw [rounds_succ]
          go_wp2
          go_quiet (fail)
          obtain ⟨w8, hw8⟩ : ∃ w8, w7.drewN nq = w8 := ⟨_, rfl⟩
          have hb8 : Below w.heap.size w w8 := by rw [← hw8]; exact below_drewN hb7 _
          rw [hw8]
          clear hw8 hb7
          go_wp2
          rw [rounds_succ]
          go_wp2
          go_roundw
          case rel => exact ⟨k + 1, hk1, by simp, by first | (rw [HS.out]; done) | (rw [HS.out]; simp), hb8⟩
          case measure => simp [intOf]; omega
        · have hbq : bq 92 = [92, 92] := rfl
          rw [hbq, show S ++ [92, 92] = S ++ [92] ++ [92] by simp] at hS1
          have HS := Lib.hid hS1
          have happ := app_list S [92]
          have happ2 := app_list (S ++ [92]) [92]
          have hex : (⟨#[34, 92, 47, 98, 102, 110, 114, 116]⟩ : ByteArray).extract 1 2 = ⟨#[92]⟩ := rfl
          clear hbq hS1
          go_wp2
          refine wp_loop_rounds 10 ?_
          rw [rounds_succ]
          go_wp2
          go_quiet (fail)
          obtain ⟨w1, hw1⟩ : ∃ w1, wr.drewN nq = w1 := ⟨_, rfl⟩
          have hb1 : Below w.heap.size w w1 := by rw [← hw1]; exact below_drewN HB.out _
          rw [hw1]
          clear hw1
          go_wp2
          rw [rounds_succ]
          go_wp2
          go_quiet (fail)
          obtain ⟨w2, hw2⟩ : ∃ w2, w1.drewN nq = w2 := ⟨_, rfl⟩
          have hb2 : Below w.heap.size w w2 := by rw [← hw2]; exact below_drewN hb1 _
          rw [hw2]
          clear hw2 hb1
          go_wp2
          rw [rounds_succ]
          go_wp2
          go_quiet (fail)
          obtain ⟨w3, hw3⟩ : ∃ w3, w2.drewN nq = w3 := ⟨_, rfl⟩
          have hb3 : Below w.heap.size w w3 := by rw [← hw3]; exact below_drewN hb2 _
          rw [hw3]
          clear hw3 hb2
          go_wp2
          rw [rounds_succ]
          go_wp2
          go_quiet (fail)
          obtain ⟨w4, hw4⟩ : ∃ w4, w3.drewN nq = w4 := ⟨_, rfl⟩
          have hb4 : Below w.heap.size w w4 := by rw [← hw4]; exact below_drewN hb3 _
          rw [hw4]
          clear hw4 hb3
          go_wp2
          rw [rounds_succ]
          go_wp2
          go_quiet (fail)
          obtain ⟨w5, hw5⟩ : ∃ w5, w4.drewN nq = w5 := ⟨_, rfl⟩
          have hb5 : Below w.heap.size w w5 := by rw [← hw5]; exact below_drewN hb4 _
          rw [hw5]
          clear hw5 hb4
          go_wp2
          rw [rounds_succ]
          go_wp2
          go_quiet (fail)
          obtain ⟨w6, hw6⟩ : ∃ w6, w5.drewN nq = w6 := ⟨_, rfl⟩
          have hb6 : Below w.heap.size w w6 := by rw [← hw6]; exact below_drewN hb5 _
          rw [hw6]
          clear hw6 hb5
          go_wp2
          rw [rounds_succ]
          go_wp2
          go_quiet (fail)
          obtain ⟨w7, hw7⟩ : ∃ w7, w6.drewN nq = w7 := ⟨_, rfl⟩
          have hb7 : Below w.heap.size w w7 := by rw [← hw7]; exact below_drewN hb6 _
          rw [hw7]
          clear hw7 hb6
          go_wp2
          rw [rounds_succ]
          go_wp2
          go_quiet (fail)
          obtain ⟨w8, hw8⟩ : ∃ w8, w7.drewN nq = w8 := ⟨_, rfl⟩
          have hb8 : Below w.heap.size w w8 := by rw [← hw8]; exact below_drewN hb7 _
          rw [hw8]
          clear hw8 hb7
          go_wp2
          rw [rounds_succ]
          go_wp2
          go_roundw
          case rel => exact ⟨k + 1, hk1, by simp, by first | (rw [HS.out]; done) | (rw [HS.out]; simp), hb8⟩
          case measure => simp [intOf]; omega
        · have hbq : bq 47 = [47] := rfl
          rw [hbq] at hS1
          have HS := Lib.hid hS1
          have happ := app_list S [47]
          have hex : (ByteArray.mk l.toArray).extract k (k + 1) = ⟨[47].toArray⟩ := one_at l k 47 hlt hx
          have hz1 : (k : Int) + 1 ≤ (l.length : Int) := by omega
          have t1 : ((k : Int) + 1).toNat = k + 1 := by omega
          have l3 : (k : Int) ≤ (k : Int) + 1 := by omega
          have l5 : (0 : Int) ≤ (k : Int) + 1 := by omega
          clear hbq hS1
          go_wp2
          refine wp_loop_rounds 10 ?_
          rw [rounds_succ]
          go_wp2
          go_quiet (fail)
          obtain ⟨w1, hw1⟩ : ∃ w1, wr.drewN nq = w1 := ⟨_, rfl⟩
          have hb1 : Below w.heap.size w w1 := by rw [← hw1]; exact below_drewN HB.out _
          rw [hw1]
          clear hw1
          go_wp2
          rw [rounds_succ]
          go_wp2
          go_quiet (fail)
          obtain ⟨w2, hw2⟩ : ∃ w2, w1.drewN nq = w2 := ⟨_, rfl⟩
          have hb2 : Below w.heap.size w w2 := by rw [← hw2]; exact below_drewN hb1 _
          rw [hw2]
          clear hw2 hb1
          go_wp2
          rw [rounds_succ]
          go_wp2
          go_quiet (fail)
          obtain ⟨w3, hw3⟩ : ∃ w3, w2.drewN nq = w3 := ⟨_, rfl⟩
          have hb3 : Below w.heap.size w w3 := by rw [← hw3]; exact below_drewN hb2 _
          rw [hw3]
          clear hw3 hb2
          go_wp2
          rw [rounds_succ]
          go_wp2
          go_quiet (fail)
          obtain ⟨w4, hw4⟩ : ∃ w4, w3.drewN nq = w4 := ⟨_, rfl⟩
          have hb4 : Below w.heap.size w w4 := by rw [← hw4]; exact below_drewN hb3 _
          rw [hw4]
          clear hw4 hb3
          go_wp2
          rw [rounds_succ]
          go_wp2
          go_quiet (fail)
          obtain ⟨w5, hw5⟩ : ∃ w5, w4.drewN nq = w5 := ⟨_, rfl⟩
          have hb5 : Below w.heap.size w w5 := by rw [← hw5]; exact below_drewN hb4 _
          rw [hw5]
          clear hw5 hb4
          go_wp2
          rw [rounds_succ]
          go_wp2
          go_quiet (fail)
          obtain ⟨w6, hw6⟩ : ∃ w6, w5.drewN nq = w6 := ⟨_, rfl⟩
          have hb6 : Below w.heap.size w w6 := by rw [← hw6]; exact below_drewN hb5 _
          rw [hw6]
          clear hw6 hb5
          go_wp2
          rw [rounds_succ]
          go_wp2
          go_quiet (fail)
          obtain ⟨w7, hw7⟩ : ∃ w7, w6.drewN nq = w7 := ⟨_, rfl⟩
          have hb7 : Below w.heap.size w w7 := by rw [← hw7]; exact below_drewN hb6 _
          rw [hw7]
          clear hw7 hb6
          go_wp2
          rw [rounds_succ]
          go_wp2
          go_quiet (fail)
          obtain ⟨w8, hw8⟩ : ∃ w8, w7.drewN nq = w8 := ⟨_, rfl⟩
          have hb8 : Below w.heap.size w w8 := by rw [← hw8]; exact below_drewN hb7 _
          rw [hw8]
          clear hw8 hb7
          go_wp2
          rw [rounds_succ]
          go_wp2
          go_roundw
          case rel => exact ⟨k + 1, hk1, by simp, by first | (rw [HS.out]; done) | (rw [HS.out]; simp), hb8⟩
          case measure => simp [intOf]; omega
        · have hbq : bq 8 = [92, 98] := rfl
          rw [hbq, show S ++ [92, 98] = S ++ [92] ++ [98] by simp] at hS1
          have HS := Lib.hid hS1
          have happ := app_list S [92]
          have happ2 := app_list (S ++ [92]) [98]
          have hex : (⟨#[34, 92, 47, 98, 102, 110, 114, 116]⟩ : ByteArray).extract 3 4 = ⟨#[98]⟩ := rfl
          clear hbq hS1
          go_wp2
          refine wp_loop_rounds 10 ?_
          rw [rounds_succ]
          go_wp2
          go_quiet (fail)
          obtain ⟨w1, hw1⟩ : ∃ w1, wr.drewN nq = w1 := ⟨_, rfl⟩
          have hb1 : Below w.heap.size w w1 := by rw [← hw1]; exact below_drewN HB.out _
          rw [hw1]
          clear hw1
          go_wp2
          rw [rounds_succ]
          go_wp2
          go_quiet (fail)
          obtain ⟨w2, hw2⟩ : ∃ w2, w1.drewN nq = w2 := ⟨_, rfl⟩
          have hb2 : Below w.heap.size w w2 := by rw [← hw2]; exact below_drewN hb1 _
          rw [hw2]
          clear hw2 hb1
          go_wp2
          rw [rounds_succ]
          go_wp2
          go_quiet (fail)
          obtain ⟨w3, hw3⟩ : ∃ w3, w2.drewN nq = w3 := ⟨_, rfl⟩
          have hb3 : Below w.heap.size w w3 := by rw [← hw3]; exact below_drewN hb2 _
          rw [hw3]
          clear hw3 hb2
          go_wp2
          rw [rounds_succ]
          go_wp2
          go_quiet (fail)
          obtain ⟨w4, hw4⟩ : ∃ w4, w3.drewN nq = w4 := ⟨_, rfl⟩
          have hb4 : Below w.heap.size w w4 := by rw [← hw4]; exact below_drewN hb3 _
          rw [hw4]
          clear hw4 hb3
          go_wp2
          rw [rounds_succ]
          go_wp2
          go_quiet (fail)
          obtain ⟨w5, hw5⟩ : ∃ w5, w4.drewN nq = w5 := ⟨_, rfl⟩
          have hb5 : Below w.heap.size w w5 := by rw [← hw5]; exact below_drewN hb4 _
          rw [hw5]
          clear hw5 hb4
          go_wp2
          rw [rounds_succ]
          go_wp2
          go_quiet (fail)
          obtain ⟨w6, hw6⟩ : ∃ w6, w5.drewN nq = w6 := ⟨_, rfl⟩
          have hb6 : Below w.heap.size w w6 := by rw [← hw6]; exact below_drewN hb5 _
          rw [hw6]
          clear hw6 hb5
          go_wp2
          rw [rounds_succ]
          go_wp2
          go_quiet (fail)
          obtain ⟨w7, hw7⟩ : ∃ w7, w6.drewN nq = w7 := ⟨_, rfl⟩
          have hb7 : Below w.heap.size w w7 := by rw [← hw7]; exact below_drewN hb6 _
          rw [hw7]
          clear hw7 hb6
          go_wp2
          rw [rounds_succ]
          go_wp2
          go_quiet (fail)
          obtain ⟨w8, hw8⟩ : ∃ w8, w7.drewN nq = w8 := ⟨_, rfl⟩
          have hb8 : Below w.heap.size w w8 := by rw [← hw8]; exact below_drewN hb7 _
          rw [hw8]
          clear hw8 hb7
          go_wp2
          rw [rounds_succ]
          go_wp2
          go_roundw
          case rel => exact ⟨k + 1, hk1, by simp, by first | (rw [HS.out]; done) | (rw [HS.out]; simp), hb8⟩
          case measure => simp [intOf]; omega
        · have hbq : bq 12 = [92, 102] := rfl
          rw [hbq, show S ++ [92, 102] = S ++ [92] ++ [102] by simp] at hS1
          have HS := Lib.hid hS1
          have happ := app_list S [92]
          have happ2 := app_list (S ++ [92]) [102]
          have hex : (⟨#[34, 92, 47, 98, 102, 110, 114, 116]⟩ : ByteArray).extract 4 5 = ⟨#[102]⟩ := rfl
          clear hbq hS1
          go_wp2
          refine wp_loop_rounds 10 ?_
          rw [rounds_succ]
          go_wp2
          go_quiet (fail)
          obtain ⟨w1, hw1⟩ : ∃ w1, wr.drewN nq = w1 := ⟨_, rfl⟩
          have hb1 : Below w.heap.size w w1 := by rw [← hw1]; exact below_drewN HB.out _
          rw [hw1]
          clear hw1
          go_wp2
          rw [rounds_succ]
          go_wp2
          go_quiet (fail)
          obtain ⟨w2, hw2⟩ : ∃ w2, w1.drewN nq = w2 := ⟨_, rfl⟩
          have hb2 : Below w.heap.size w w2 := by rw [← hw2]; exact below_drewN hb1 _
          rw [hw2]
          clear hw2 hb1
          go_wp2
          rw [rounds_succ]
          go_wp2
          go_quiet (fail)
          obtain ⟨w3, hw3⟩ : ∃ w3, w2.drewN nq = w3 := ⟨_, rfl⟩
          have hb3 : Below w.heap.size w w3 := by rw [← hw3]; exact below_drewN hb2 _
          rw [hw3]
          clear hw3 hb2
          go_wp2
          rw [rounds_succ]
          go_wp2
          go_quiet (fail)
          obtain ⟨w4, hw4⟩ : ∃ w4, w3.drewN nq = w4 := ⟨_, rfl⟩
          have hb4 : Below w.heap.size w w4 := by rw [← hw4]; exact below_drewN hb3 _
          rw [hw4]
          clear hw4 hb3
          go_wp2
          rw [rounds_succ]
          go_wp2
          go_quiet (fail)
          obtain ⟨w5, hw5⟩ : ∃ w5, w4.drewN nq = w5 := ⟨_, rfl⟩
          have hb5 : Below w.heap.size w w5 := by rw [← hw5]; exact below_drewN hb4 _
          rw [hw5]
          clear hw5 hb4
          go_wp2
          rw [rounds_succ]
          go_wp2
          go_quiet (fail)
          obtain ⟨w6, hw6⟩ : ∃ w6, w5.drewN nq = w6 := ⟨_, rfl⟩
          have hb6 : Below w.heap.size w w6 := by rw [← hw6]; exact below_drewN hb5 _
          rw [hw6]
          clear hw6 hb5
          go_wp2
          rw [rounds_succ]
          go_wp2
          go_quiet (fail)
          obtain ⟨w7, hw7⟩ : ∃ w7, w6.drewN nq = w7 := ⟨_, rfl⟩
          have hb7 : Below w.heap.size w w7 := by rw [← hw7]; exact below_drewN hb6 _
          rw [hw7]
          clear hw7 hb6
          go_wp2
          rw [rounds_succ]
          go_wp2
          go_quiet (fail)
          obtain ⟨w8, hw8⟩ : ∃ w8, w7.drewN nq = w8 := ⟨_, rfl⟩
          have hb8 : Below w.heap.size w w8 := by rw [← hw8]; exact below_drewN hb7 _
          rw [hw8]
          clear hw8 hb7
          go_wp2
          rw [rounds_succ]
          go_wp2
          go_roundw
          case rel => exact ⟨k + 1, hk1, by simp, by first | (rw [HS.out]; done) | (rw [HS.out]; simp), hb8⟩
          case measure => simp [intOf]; omega
        · have hbq : bq 10 = [92, 110] := rfl
          rw [hbq, show S ++ [92, 110] = S ++ [92] ++ [110] by simp] at hS1
          have HS := Lib.hid hS1
          have happ := app_list S [92]
          have happ2 := app_list (S ++ [92]) [110]
          have hex : (⟨#[34, 92, 47, 98, 102, 110, 114, 116]⟩ : ByteArray).extract 5 6 = ⟨#[110]⟩ := rfl
          clear hbq hS1
          go_wp2
          refine wp_loop_rounds 10 ?_
          rw [rounds_succ]
          go_wp2
          go_quiet (fail)
          obtain ⟨w1, hw1⟩ : ∃ w1, wr.drewN nq = w1 := ⟨_, rfl⟩
          have hb1 : Below w.heap.size w w1 := by rw [← hw1]; exact below_drewN HB.out _
          rw [hw1]
          clear hw1
          go_wp2
          rw [rounds_succ]
          go_wp2
          go_quiet (fail)
          obtain ⟨w2, hw2⟩ : ∃ w2, w1.drewN nq = w2 := ⟨_, rfl⟩
          have hb2 : Below w.heap.size w w2 := by rw [← hw2]; exact below_drewN hb1 _
          rw [hw2]
          clear hw2 hb1
          go_wp2
          rw [rounds_succ]
          go_wp2
          go_quiet (fail)
          obtain ⟨w3, hw3⟩ : ∃ w3, w2.drewN nq = w3 := ⟨_, rfl⟩
          have hb3 : Below w.heap.size w w3 := by rw [← hw3]; exact below_drewN hb2 _
          rw [hw3]
          clear hw3 hb2
          go_wp2
          rw [rounds_succ]
          go_wp2
          go_quiet (fail)
          obtain ⟨w4, hw4⟩ : ∃ w4, w3.drewN nq = w4 := ⟨_, rfl⟩
          have hb4 : Below w.heap.size w w4 := by rw [← hw4]; exact below_drewN hb3 _
          rw [hw4]
          clear hw4 hb3
          go_wp2
          rw [rounds_succ]
          go_wp2
          go_quiet (fail)
          obtain ⟨w5, hw5⟩ : ∃ w5, w4.drewN nq = w5 := ⟨_, rfl⟩
          have hb5 : Below w.heap.size w w5 := by rw [← hw5]; exact below_drewN hb4 _
          rw [hw5]
          clear hw5 hb4
          go_wp2
          rw [rounds_succ]
          go_wp2
          go_quiet (fail)
          obtain ⟨w6, hw6⟩ : ∃ w6, w5.drewN nq = w6 := ⟨_, rfl⟩
          have hb6 : Below w.heap.size w w6 := by rw [← hw6]; exact below_drewN hb5 _
          rw [hw6]
          clear hw6 hb5
          go_wp2
          rw [rounds_succ]
          go_wp2
          go_quiet (fail)
          obtain ⟨w7, hw7⟩ : ∃ w7, w6.drewN nq = w7 := ⟨_, rfl⟩
          have hb7 : Below w.heap.size w w7 := by rw [← hw7]; exact below_drewN hb6 _
          rw [hw7]
          clear hw7 hb6
          go_wp2
          rw [rounds_succ]
          go_wp2
          go_quiet (fail)
          obtain ⟨w8, hw8⟩ : ∃ w8, w7.drewN nq = w8 := ⟨_, rfl⟩
          have hb8 : Below w.heap.size w w8 := by rw [← hw8]; exact below_drewN hb7 _
          rw [hw8]
          clear hw8 hb7
          go_wp2
          rw [rounds_succ]
          go_wp2
          go_roundw
          case rel => exact ⟨k + 1, hk1, by simp, by first | (rw [HS.out]; done) | (rw [HS.out]; simp), hb8⟩
          case measure => simp [intOf]; omega
        · have hbq : bq 13 = [92, 114] := rfl
          rw [hbq, show S ++ [92, 114] = S ++ [92] ++ [114] by simp] at hS1
          have HS := Lib.hid hS1
          have happ := app_list S [92]
          have happ2 := app_list (S ++ [92]) [114]
          have hex : (⟨#[34, 92, 47, 98, 102, 110, 114, 116]⟩ : ByteArray).extract 6 7 = ⟨#[114]⟩ := rfl
          clear hbq hS1
          go_wp2
          refine wp_loop_rounds 10 ?_
          rw [rounds_succ]
          go_wp2
          go_quiet (fail)
          obtain ⟨w1, hw1⟩ : ∃ w1, wr.drewN nq = w1 := ⟨_, rfl⟩
          have hb1 : Below w.heap.size w w1 := by rw [← hw1]; exact below_drewN HB.out _
          rw [hw1]
          clear hw1
          go_wp2
          rw [rounds_succ]
          go_wp2
          go_quiet (fail)
          obtain ⟨w2, hw2⟩ : ∃ w2, w1.drewN nq = w2 := ⟨_, rfl⟩
          have hb2 : Below w.heap.size w w2 := by rw [← hw2]; exact below_drewN hb1 _
          rw [hw2]
          clear hw2 hb1
          go_wp2
          rw [rounds_succ]
          go_wp2
          go_quiet (fail)
          obtain ⟨w3, hw3⟩ : ∃ w3, w2.drewN nq = w3 := ⟨_, rfl⟩
          have hb3 : Below w.heap.size w w3 := by rw [← hw3]; exact below_drewN hb2 _
          rw [hw3]
          clear hw3 hb2
          go_wp2
          rw [rounds_succ]
          go_wp2
          go_quiet (fail)
          obtain ⟨w4, hw4⟩ : ∃ w4, w3.drewN nq = w4 := ⟨_, rfl⟩
          have hb4 : Below w.heap.size w w4 := by rw [← hw4]; exact below_drewN hb3 _
          rw [hw4]
          clear hw4 hb3
          go_wp2
          rw [rounds_succ]
          go_wp2
          go_quiet (fail)
          obtain ⟨w5, hw5⟩ : ∃ w5, w4.drewN nq = w5 := ⟨_, rfl⟩
          have hb5 : Below w.heap.size w w5 := by rw [← hw5]; exact below_drewN hb4 _
          rw [hw5]
          clear hw5 hb4
          go_wp2
          rw [rounds_succ]
          go_wp2
          go_quiet (fail)
          obtain ⟨w6, hw6⟩ : ∃ w6, w5.drewN nq = w6 := ⟨_, rfl⟩
          have hb6 : Below w.heap.size w w6 := by rw [← hw6]; exact below_drewN hb5 _
          rw [hw6]
          clear hw6 hb5
          go_wp2
          rw [rounds_succ]
          go_wp2
          go_quiet (fail)
          obtain ⟨w7, hw7⟩ : ∃ w7, w6.drewN nq = w7 := ⟨_, rfl⟩
          have hb7 : Below w.heap.size w w7 := by rw [← hw7]; exact below_drewN hb6 _
          rw [hw7]
          clear hw7 hb6
          go_wp2
          rw [rounds_succ]
          go_wp2
          go_quiet (fail)
          obtain ⟨w8, hw8⟩ : ∃ w8, w7.drewN nq = w8 := ⟨_, rfl⟩
          have hb8 : Below w.heap.size w w8 := by rw [← hw8]; exact below_drewN hb7 _
          rw [hw8]
          clear hw8 hb7
          go_wp2
          rw [rounds_succ]
          go_wp2
          go_roundw
          case rel => exact ⟨k + 1, hk1, by simp, by first | (rw [HS.out]; done) | (rw [HS.out]; simp), hb8⟩
          case measure => simp [intOf]; omega
        · have hbq : bq 9 = [92, 116] := rfl
          rw [hbq, show S ++ [92, 116] = S ++ [92] ++ [116] by simp] at hS1
          have HS := Lib.hid hS1
          have happ := app_list S [92]
          have happ2 := app_list (S ++ [92]) [116]
          have hex : (⟨#[34, 92, 47, 98, 102, 110, 114, 116]⟩ : ByteArray).extract 7 8 = ⟨#[116]⟩ := rfl
          clear hbq hS1
          go_wp2
          refine wp_loop_rounds 10 ?_
          rw [rounds_succ]
          go_wp2
          go_quiet (fail)
          obtain ⟨w1, hw1⟩ : ∃ w1, wr.drewN nq = w1 := ⟨_, rfl⟩
          have hb1 : Below w.heap.size w w1 := by rw [← hw1]; exact below_drewN HB.out _
          rw [hw1]
          clear hw1
          go_wp2
          rw [rounds_succ]
          go_wp2
          go_quiet (fail)
          obtain ⟨w2, hw2⟩ : ∃ w2, w1.drewN nq = w2 := ⟨_, rfl⟩
          have hb2 : Below w.heap.size w w2 := by rw [← hw2]; exact below_drewN hb1 _
          rw [hw2]
          clear hw2 hb1
          go_wp2
          rw [rounds_succ]
          go_wp2
          go_quiet (fail)
          obtain ⟨w3, hw3⟩ : ∃ w3, w2.drewN nq = w3 := ⟨_, rfl⟩
          have hb3 : Below w.heap.size w w3 := by rw [← hw3]; exact below_drewN hb2 _
          rw [hw3]
          clear hw3 hb2
          go_wp2
          rw [rounds_succ]
          go_wp2
          go_quiet (fail)
          obtain ⟨w4, hw4⟩ : ∃ w4, w3.drewN nq = w4 := ⟨_, rfl⟩
          have hb4 : Below w.heap.size w w4 := by rw [← hw4]; exact below_drewN hb3 _
          rw [hw4]
          clear hw4 hb3
          go_wp2
          rw [rounds_succ]
          go_wp2
          go_quiet (fail)
          obtain ⟨w5, hw5⟩ : ∃ w5, w4.drewN nq = w5 := ⟨_, rfl⟩
          have hb5 : Below w.heap.size w w5 := by rw [← hw5]; exact below_drewN hb4 _
          rw [hw5]
          clear hw5 hb4
          go_wp2
          rw [rounds_succ]
          go_wp2
          go_quiet (fail)
          obtain ⟨w6, hw6⟩ : ∃ w6, w5.drewN nq = w6 := ⟨_, rfl⟩
          have hb6 : Below w.heap.size w w6 := by rw [← hw6]; exact below_drewN hb5 _
          rw [hw6]
          clear hw6 hb5
          go_wp2
          rw [rounds_succ]
          go_wp2
          go_quiet (fail)
          obtain ⟨w7, hw7⟩ : ∃ w7, w6.drewN nq = w7 := ⟨_, rfl⟩
          have hb7 : Below w.heap.size w w7 := by rw [← hw7]; exact below_drewN hb6 _
          rw [hw7]
          clear hw7 hb6
          go_wp2
          rw [rounds_succ]
          go_wp2
          go_quiet (fail)
          obtain ⟨w8, hw8⟩ : ∃ w8, w7.drewN nq = w8 := ⟨_, rfl⟩
          have hb8 : Below w.heap.size w w8 := by rw [← hw8]; exact below_drewN hb7 _
          rw [hw8]
          clear hw8 hb7
          go_wp2
          rw [rounds_succ]
          go_wp2
          go_roundw
          case rel => exact ⟨k + 1, hk1, by simp, by first | (rw [HS.out]; done) | (rw [HS.out]; simp), hb8⟩
          case measure => simp [intOf]; omega
        · have hn := And.intro n1 (And.intro n2 (And.intro n3 (And.intro n4 (And.intro n5 (And.intro n6 (And.intro n7 n8))))))
          have y1 : ((34 : Int) == (c.toNat : Int)) = false := by simp; omega
          have y2 : ((92 : Int) == (c.toNat : Int)) = false := by simp; omega
          have y3 : ((47 : Int) == (c.toNat : Int)) = false := by simp; omega
          have y4 : ((8 : Int) == (c.toNat : Int)) = false := by simp; omega
          have y5 : ((12 : Int) == (c.toNat : Int)) = false := by simp; omega
          have y6 : ((10 : Int) == (c.toNat : Int)) = false := by simp; omega
          have y7 : ((13 : Int) == (c.toNat : Int)) = false := by simp; omega
          have y8 : ((9 : Int) == (c.toNat : Int)) = false := by simp; omega
          have i0 : ∀ h, (⟨#[34, 92, 47, 8, 12, 10, 13, 9]⟩ : ByteArray)[0]'h = (34 : UInt8) := fun _ => rfl
          have i1 : ∀ h, (⟨#[34, 92, 47, 8, 12, 10, 13, 9]⟩ : ByteArray)[1]'h = (92 : UInt8) := fun _ => rfl
          have i2 : ∀ h, (⟨#[34, 92, 47, 8, 12, 10, 13, 9]⟩ : ByteArray)[2]'h = (47 : UInt8) := fun _ => rfl
          have i3 : ∀ h, (⟨#[34, 92, 47, 8, 12, 10, 13, 9]⟩ : ByteArray)[3]'h = (8 : UInt8) := fun _ => rfl
          have i4 : ∀ h, (⟨#[34, 92, 47, 8, 12, 10, 13, 9]⟩ : ByteArray)[4]'h = (12 : UInt8) := fun _ => rfl
          have i5 : ∀ h, (⟨#[34, 92, 47, 8, 12, 10, 13, 9]⟩ : ByteArray)[5]'h = (10 : UInt8) := fun _ => rfl
          have i6 : ∀ h, (⟨#[34, 92, 47, 8, 12, 10, 13, 9]⟩ : ByteArray)[6]'h = (13 : UInt8) := fun _ => rfl
          have i7 : ∀ h, (⟨#[34, 92, 47, 8, 12, 10, 13, 9]⟩ : ByteArray)[7]'h = (9 : UInt8) := fun _ => rfl
          by_cases h32 : c.toNat < 32
          · have hbq : bq c = [92, 117, 48, 48, hexd (c.toNat / 16), hexd (c.toNat % 16)] := by
              unfold bq
              rw [if_pos (by omega)]
              unfold quoteOne
              rw [if_neg n1, if_neg n2, if_neg n4, if_neg n5, if_neg n6, if_neg n7, if_neg n8, if_pos h32]
            obtain ⟨u, hu⟩ : ∃ u, c.toNat = u := ⟨_, rfl⟩
            obtain ⟨x, hx1⟩ : ∃ x, u / 16 = x := ⟨_, rfl⟩
            obtain ⟨y, hy1⟩ : ∃ y, u % 16 = y := ⟨_, rfl⟩
            rw [hu] at h32 y1 y2 y3 y4 y5 y6 y7 y8
            rw [hu, hx1, hy1] at hbq
            rw [hbq, show S ++ [92, 117, 48, 48, hexd x, hexd y] = S ++ [92, 117, 48, 48] ++ [hexd x] ++ [hexd y] by simp] at hS1
            have HS := Lib.hid hS1
            have ex := hexd_fin ⟨x, by omega⟩
            have ey := hexd_fin ⟨y, by omega⟩
            simp only at ex ey
            have ca := app_list S [92, 117, 48, 48]
            have cb := app_list (S ++ [92, 117, 48, 48]) [hexd x]
            have cc := app_list (S ++ [92, 117, 48, 48, hexd x]) [hexd y]
            rw [show S ++ [92, 117, 48, 48, hexd x] ++ [hexd y] = S ++ [92, 117, 48, 48, hexd x, hexd y] by simp] at cc
            have tx : (u : Int).tdiv 16 = (x : Int) := by rw [Int.tdiv_eq_ediv_of_nonneg (by omega)]; omega
            have tx2 : (u : Int) / 16 = (x : Int) := by omega
            have ty : (u : Int).tmod 16 = (y : Int) := by rw [Int.tmod_eq_emod_of_nonneg (by omega)]; omega
            have ty2 : (u : Int) % 16 = (y : Int) := by omega
            have wx : IntKind.u8.wrap ((x : Int) + 1) = (x : Int) + 1 := by simp only [IntKind.wrap_u8]; omega
            have wy : IntKind.u8.wrap ((y : Int) + 1) = (y : Int) + 1 := by simp only [IntKind.wrap_u8]; omega
            have l1 : (x : Int) + 1 ≤ 16 := by omega
            have l2 : (y : Int) + 1 ≤ 16 := by omega
            have l3 : (x : Int) ≤ (x : Int) + 1 := by omega
            have l4 : (y : Int) ≤ (y : Int) + 1 := by omega
            have t1 : ((x : Int) + 1).toNat = x + 1 := by omega
            have t2 : ((y : Int) + 1).toNat = y + 1 := by omega
            have l5 : (0 : Int) ≤ (x : Int) + 1 := by omega
            have l6 : (0 : Int) ≤ (y : Int) + 1 := by omega
            have h32z : decide ((u : Int) < 32) = true := decide_eq_true (by omega)
            clear hbq hS1 hn n1 n2 n3 n4 n5 n6 n7 n8 h32 hx1 hy1 hcl
            go_wp2
            refine wp_loop_rounds 10 ?_
            rw [rounds_succ]
            go_wp2
            go_quiet (fail)
            obtain ⟨w1, hw1⟩ : ∃ w1, wr.drewN nq = w1 := ⟨_, rfl⟩
            have hb1 : Below w.heap.size w w1 := by rw [← hw1]; exact below_drewN HB.out _
            rw [hw1]
            clear hw1
            go_wp2
            rw [rounds_succ]
            go_wp2
            go_quiet (fail)
            obtain ⟨w2, hw2⟩ : ∃ w2, w1.drewN nq = w2 := ⟨_, rfl⟩
            have hb2 : Below w.heap.size w w2 := by rw [← hw2]; exact below_drewN hb1 _
            rw [hw2]
            clear hw2 hb1
            go_wp2
            rw [rounds_succ]
            go_wp2
            go_quiet (fail)
            obtain ⟨w3, hw3⟩ : ∃ w3, w2.drewN nq = w3 := ⟨_, rfl⟩
            have hb3 : Below w.heap.size w w3 := by rw [← hw3]; exact below_drewN hb2 _
            rw [hw3]
            clear hw3 hb2
            go_wp2
            rw [rounds_succ]
            go_wp2
            go_quiet (fail)
            obtain ⟨w4, hw4⟩ : ∃ w4, w3.drewN nq = w4 := ⟨_, rfl⟩
            have hb4 : Below w.heap.size w w4 := by rw [← hw4]; exact below_drewN hb3 _
            rw [hw4]
            clear hw4 hb3
            go_wp2
            rw [rounds_succ]
            go_wp2
            go_quiet (fail)
            obtain ⟨w5, hw5⟩ : ∃ w5, w4.drewN nq = w5 := ⟨_, rfl⟩
            have hb5 : Below w.heap.size w w5 := by rw [← hw5]; exact below_drewN hb4 _
            rw [hw5]
            clear hw5 hb4
            go_wp2
            rw [rounds_succ]
            go_wp2
            go_quiet (fail)
            obtain ⟨w6, hw6⟩ : ∃ w6, w5.drewN nq = w6 := ⟨_, rfl⟩
            have hb6 : Below w.heap.size w w6 := by rw [← hw6]; exact below_drewN hb5 _
            rw [hw6]
            clear hw6 hb5
            go_wp2
            rw [rounds_succ]
            go_wp2
            go_quiet (fail)
            obtain ⟨w7, hw7⟩ : ∃ w7, w6.drewN nq = w7 := ⟨_, rfl⟩
            have hb7 : Below w.heap.size w w7 := by rw [← hw7]; exact below_drewN hb6 _
            rw [hw7]
            clear hw7 hb6
            go_wp2
            rw [rounds_succ]
            go_wp2
            go_quiet (fail)
            obtain ⟨w8, hw8⟩ : ∃ w8, w7.drewN nq = w8 := ⟨_, rfl⟩
            have hb8 : Below w.heap.size w w8 := by rw [← hw8]; exact below_drewN hb7 _
            rw [hw8]
            clear hw8 hb7
            go_wp2
            rw [rounds_succ]
            go_wp2
            go_quiet (fail)
            obtain ⟨w9, hw9⟩ : ∃ w9, w8.drewN nq = w9 := ⟨_, rfl⟩
            have hb9 : Below w.heap.size w w9 := by rw [← hw9]; exact below_drewN hb8 _
            rw [hw9]
            clear hw9
            go_wp2
            go_roundw
            case rel => exact ⟨k + 1, hk1, by simp, by first | (rw [HS.out]; done) | (rw [HS.out]; simp), hb9⟩
            case measure => simp [intOf]; omega
          · have hbq : bq c = [c] := by
              unfold bq
              split
              · rename_i h128
                unfold quoteOne
                rw [if_neg n1, if_neg n2, if_neg n4, if_neg n5, if_neg n6, if_neg n7, if_neg n8, if_neg h32, enc1 h128]
                simp [by8]
              · rfl
            rw [hbq] at hS1
            have HS := Lib.hid hS1
            have happ := app_list S [c]
            have hex : (ByteArray.mk l.toArray).extract k (k + 1) = ⟨[c].toArray⟩ := one_at l k c hlt hx
            have hz1 : (k : Int) + 1 ≤ (l.length : Int) := by omega
            have t1 : ((k : Int) + 1).toNat = k + 1 := by omega
            have l3 : (k : Int) ≤ (k : Int) + 1 := by omega
            have l5 : (0 : Int) ≤ (k : Int) + 1 := by omega
            have h32z : decide ((c.toNat : Int) < 32) = false := decide_eq_false (by omega)
            have HN := Lib.hid hn
            clear hbq hS1 hn n1 n2 n3 n4 n5 n6 n7 n8 h32
            go_wp2
            refine wp_loop_rounds 10 ?_
            rw [rounds_succ]
            go_wp2
            go_quiet (fail)
            obtain ⟨w1, hw1⟩ : ∃ w1, wr.drewN nq = w1 := ⟨_, rfl⟩
            have hb1 : Below w.heap.size w w1 := by rw [← hw1]; exact below_drewN HB.out _
            rw [hw1]
            clear hw1
            go_wp2
            rw [rounds_succ]
            go_wp2
            go_quiet (fail)
            obtain ⟨w2, hw2⟩ : ∃ w2, w1.drewN nq = w2 := ⟨_, rfl⟩
            have hb2 : Below w.heap.size w w2 := by rw [← hw2]; exact below_drewN hb1 _
            rw [hw2]
            clear hw2 hb1
            go_wp2
            rw [rounds_succ]
            go_wp2
            go_quiet (fail)
            obtain ⟨w3, hw3⟩ : ∃ w3, w2.drewN nq = w3 := ⟨_, rfl⟩
            have hb3 : Below w.heap.size w w3 := by rw [← hw3]; exact below_drewN hb2 _
            rw [hw3]
            clear hw3 hb2
            go_wp2
            rw [rounds_succ]
            go_wp2
            go_quiet (fail)
            obtain ⟨w4, hw4⟩ : ∃ w4, w3.drewN nq = w4 := ⟨_, rfl⟩
            have hb4 : Below w.heap.size w w4 := by rw [← hw4]; exact below_drewN hb3 _
            rw [hw4]
            clear hw4 hb3
            go_wp2
            rw [rounds_succ]
            go_wp2
            go_quiet (fail)
            obtain ⟨w5, hw5⟩ : ∃ w5, w4.drewN nq = w5 := ⟨_, rfl⟩
            have hb5 : Below w.heap.size w w5 := by rw [← hw5]; exact below_drewN hb4 _
            rw [hw5]
            clear hw5 hb4
            go_wp2
            rw [rounds_succ]
            go_wp2
            go_quiet (fail)
            obtain ⟨w6, hw6⟩ : ∃ w6, w5.drewN nq = w6 := ⟨_, rfl⟩
            have hb6 : Below w.heap.size w w6 := by rw [← hw6]; exact below_drewN hb5 _
            rw [hw6]
            clear hw6 hb5
            go_wp2
            rw [rounds_succ]
            go_wp2
            go_quiet (fail)
            obtain ⟨w7, hw7⟩ : ∃ w7, w6.drewN nq = w7 := ⟨_, rfl⟩
            have hb7 : Below w.heap.size w w7 := by rw [← hw7]; exact below_drewN hb6 _
            rw [hw7]
            clear hw7 hb6
            go_wp2
            rw [rounds_succ]
            go_wp2
            go_quiet (fail)
            obtain ⟨w8, hw8⟩ : ∃ w8, w7.drewN nq = w8 := ⟨_, rfl⟩
            have hb8 : Below w.heap.size w w8 := by rw [← hw8]; exact below_drewN hb7 _
            rw [hw8]
            clear hw8 hb7
            go_wp2
            rw [rounds_succ]
            go_wp2
            go_roundw
            case rel => exact ⟨k + 1, hk1, by simp, by first | (rw [HS.out]; done) | (rw [HS.out]; simp), hb8⟩
            case measure => simp [intOf]; omega
      · obtain rfl : k = l.length := by omega
        rw [List.take_length, HQ.out]
        obtain ⟨S, hS⟩ : ∃ S, [34] ++ quoteD l = S := ⟨_, rfl⟩
        have hSl : S.length ≤ 700000 := by rw [← hS, ← HQ.out]; have := bqs_len l; simp only [List.length_append, List.length_cons, List.length_nil]; omega
        rw [hS]
        have happ := app_list S [34]
        have HS := Lib.hid hS
        have HB := Lib.hid hb
        clear hS hb hlt hk
        go_wp2
        go_ret2
        exact ⟨by have e := HS.out; subst e; rfl, HB.out⟩
end Go.Proofs.YtalegkgonbmaoaaDoor
