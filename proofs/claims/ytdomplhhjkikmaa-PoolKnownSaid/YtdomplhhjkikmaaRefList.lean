import Derived.Test.YtdomplhhjkikmaaRefOrder
namespace Go.Proofs.Ytdomplhhjkikmaa
open Go.RowKit
theorem keys_take (L : List Ent) (k : Nat) : keys (L.take k) = (keys L).take k := by simp [keys, List.map_take]
set_option maxRecDepth 100000 in
set_option maxHeartbeats 8000000 in
theorem refList_any (h : Nat) (lv : Value) (L : List Ent) (w : World) (hr : RefAt w h lv L) (hn : L.length ≤ 1000) (hd : (keys L).Nodup) (hs : ∀ x ∈ keys L, x.length ≤ 1000) :
    Calls Try.prog 19 #[.pointer (some ⟨h, 0, none⟩)] w fun e w' => (∃ v, e = .returned v ∧ w'.ownsRow w.heap.size 9 1 v L.length (strs (srtK (keys L)))) ∧ Below w.heap.size w w' := by
  obtain ⟨iS, hiS, hzS, hsS, hbS⟩ := info_parts infoS
  have c0 := hr.c0
  have hlt := block_lt hr.blk
  obtain ⟨A, c, rfl, hc1, hc2⟩ := own_shape hr.own
  have HR := Lib.hid (Rd.of_own hr.own)
  have HD := Lib.hid hd
  have HS := Lib.hid hs
  have C0 := Lib.hid c0
  clear hr hd hs c0
  go_enter Try.func19, Try.ntmps19
  go_wp2
  go_loopw [3, 5] (fun v i wr => ∃ k : Nat, k ≤ L.length ∧ i = .int .i64 k ∧ wr.ownsRow w.heap.size 9 1 v k (strs ((keys L).take k)) ∧ Below w.heap.size w wr) (fun _ i _ => L.length - (intOf i).toNat)
  case atStart => exact ⟨0, by omega, rfl, World.ownsRow_nil _ _ _ _, Below.refl _ _⟩
  case round =>
    obtain ⟨k, hk, rfl, hown, hb⟩ := hrel
    have c0 := (hb.cell (p := ⟨h, 0, none⟩) hlt).trans C0.out
    by_cases hltk : k < L.length
    · obtain ⟨e, he⟩ : ∃ e, L[k]? = some e := ⟨_, List.getElem?_eq_getElem hltk⟩
      obtain ⟨b, o, rfl, _, hcell⟩ := (HR.out.below hb).2 (by omega)
      have g1 := hcell _ _ (flat_get L k e he).1
      unfold str at g1
      have HK := Lib.hid (show strs ((keys L).take (k + 1)) = strs ((keys L).take k) ++ [.string ⟨e.1.toArray⟩] by rw [List.take_add_one]; simp [strs, str, keys, he])
      clear hcell he
      go_wp2_with (at_builtin; refine wpList_append_one rfl w _ _ _ 34 rfl w.heap.size 9 iS (.string ByteArray.empty) 16 Try.underlying34 hiS hzS hsS hbS rfl _ k _ rfl hown _ rfl rfl (by omega) (by omega) hb (Nat.le_refl _) ?_; intro v5 w5 hown5 hb5)
      go_roundw
      case rel => exact ⟨k + 1, by omega, by go_num, by rw [HK.out]; exact hown5, hb5⟩
      case measure => simp [intOf]; omega
    · obtain rfl : k = L.length := by omega
      rw [show (keys L).take L.length = keys L by rw [List.take_of_length_le (by simp [keys])]] at hown
      obtain ⟨B, d, rfl, hd1, hd2⟩ := own_shape hown
      obtain ⟨wo, rfl⟩ : ∃ wo : World, wo = wr := ⟨_, rfl⟩
      have HW := Lib.hid (Rd.of_own hown)
      have HB := Lib.hid hb
      clear hown hb
      go_wp2_with (go_at_call 29; refine (order_any B _ d (keys L) _ HW.out (by omega) HD.out HS.out).mono ?_; rintro e w2 ⟨⟨v, rfl, O, hO, hov⟩, hb2⟩; obtain ⟨P, p, rfl, hp1, hp2⟩ := own_shape hov; have HO := Lib.hid hO; have HP := Lib.hid (Rd.of_own hov); have HB2 := Lib.hid hb2; clear hO hov hb2)
      go_loopw [4, 8] (fun v i wr => ∃ k : Nat, k ≤ L.length ∧ i = .int .i64 k ∧ wr.ownsRow w2.heap.size 9 1 v k (strs ((at_ (keys L) O).take k)) ∧ Below w2.heap.size w2 wr) (fun _ i _ => L.length - (intOf i).toNat)
      case atStart => exact ⟨0, by omega, rfl, World.ownsRow_nil _ _ _ _, Below.refl _ _⟩
      case round =>
        obtain ⟨k, hk, rfl, hown, hb⟩ := hrel
        by_cases hltk : k < L.length
        · obtain ⟨o, ho⟩ : ∃ o, O[k]? = some o := ⟨_, List.getElem?_eq_getElem (by have := HO.out.len; omega)⟩
          have hol := HO.out.lt_ o (List.mem_of_getElem? ho)
          obtain ⟨b1, o1, rfl, _, hcell1⟩ := (HP.out.below hb).2 (by omega)
          obtain ⟨b2, o2, rfl, _, hcell2⟩ := ((HW.out.below HB2.out).below hb).2 (by omega)
          have g1 := hcell1 k (.int .i64 (o : Int)) (by simp [nats, ho])
          obtain ⟨x, hx⟩ : ∃ x, (keys L)[o]? = some x := ⟨_, List.getElem?_eq_getElem (by simpa [keys] using hol)⟩
          have g2 := hcell2 o (str x) (by simp [strs, hx])
          unfold str at g2
          have HK := Lib.hid (show strs ((at_ (keys L) O).take (k + 1)) = strs ((at_ (keys L) O).take k) ++ [.string ⟨x.toArray⟩] by rw [List.take_add_one, at_get ho]; simp [strs, str, List.getD_eq_getElem?_getD, hx])
          have on : (o : Int) < (L.length : Int) := by omega
          clear hcell1 hcell2 ho hx
          go_wp2_with (at_builtin; refine wpList_append_one rfl w2 _ _ _ 34 rfl w2.heap.size 9 iS (.string ByteArray.empty) 16 Try.underlying34 hiS hzS hsS hbS rfl _ k _ rfl hown _ rfl rfl (by omega) (by omega) hb (Nat.le_refl _) ?_; intro v5 w5 hown5 hb5)
          go_roundw
          case rel => exact ⟨k + 1, by omega, by go_num, by rw [HK.out]; exact hown5, hb5⟩
          case measure => simp [intOf]; omega
        · obtain rfl : k = L.length := by omega
          have hall : (at_ (keys L) O).take L.length = srtK (keys L) := by
            rw [List.take_of_length_le (by have := HO.out.len; simp [at_]; omega), HO.out.key, List.take_of_length_le (by simp [keys])]
          rw [hall] at hown
          have hbw := HB.out.trans ((HB2.out.trans (hb.mono HB2.out.size)).mono HB.out.size)
          clear hall
          go_wp2
          go_ret
          exact ⟨⟨_, rfl, own_base hown (Nat.le_trans HB.out.size HB2.out.size)⟩, hbw⟩
end Go.Proofs.Ytdomplhhjkikmaa
