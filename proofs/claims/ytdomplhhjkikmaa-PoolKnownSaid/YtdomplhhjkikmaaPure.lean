import Derived.WalkKit
import Derived.Lib.Hide
/- Byte strings in their order, and a sorted list of entries: plain words, no program in sight. -/
namespace Go.Proofs.Ytdomplhhjkikmaa
def lt (a b : List UInt8) : Bool := Op.bytesLess a b
theorem lt_nil (a : List UInt8) : lt a [] = false := by cases a <;> rfl
theorem lt_nil_cons (b : UInt8) (y : List UInt8) : lt [] (b :: y) = true := rfl
theorem lt_cons (a b : UInt8) (x y : List UInt8) : lt (a :: x) (b :: y) = (decide (a < b) || (a == b && lt x y)) := rfl
theorem lt_irrefl : ∀ (a : List UInt8), lt a a = false
  | [] => rfl
  | a :: x => by rw [lt_cons, lt_irrefl x]; simp
theorem lt_trans : ∀ (a b c : List UInt8), lt a b = true → lt b c = true → lt a c = true
  | _, _, [], _, h => by rw [lt_nil] at h; cases h
  | _, [], _ :: _, h, _ => by rw [lt_nil] at h; cases h
  | [], _ :: _, _ :: _, _, _ => rfl
  | a :: x, b :: y, c :: z, h1, h2 => by
    rw [lt_cons] at *
    simp only [Bool.or_eq_true, Bool.and_eq_true, decide_eq_true_eq, beq_iff_eq] at *
    rcases h1 with h1 | ⟨rfl, h1⟩
    · rcases h2 with h2 | ⟨rfl, _⟩
      · exact Or.inl (UInt8.lt_trans h1 h2)
      · exact Or.inl h1
    · rcases h2 with h2 | ⟨rfl, h2⟩
      · exact Or.inl h2
      · exact Or.inr ⟨rfl, lt_trans x y z h1 h2⟩
theorem lt_total : ∀ (a b : List UInt8), lt a b = false → lt b a = false → a = b
  | [], [], _, _ => rfl
  | [], _ :: _, h, _ => by rw [lt_nil_cons] at h; cases h
  | _ :: _, [], _, h => by rw [lt_nil_cons] at h; cases h
  | a :: x, b :: y, h1, h2 => by
    rw [lt_cons] at *
    simp only [Bool.or_eq_false_iff, Bool.and_eq_false_iff, decide_eq_false_iff_not, beq_eq_false_iff_ne, ne_eq] at h1 h2
    have hab : a = b := by
      apply UInt8.le_antisymm
      · exact UInt8.not_lt.1 h2.1
      · exact UInt8.not_lt.1 h1.1
    subst hab
    rw [lt_total x y (by rcases h1.2 with h | h; exact absurd rfl h; exact h) (by rcases h2.2 with h | h; exact absurd rfl h; exact h)]
theorem lt_asymm {a b : List UInt8} (h : lt a b = true) : lt b a = false := by
  cases hb : lt b a
  · rfl
  · have := lt_trans a b a h hb
    rw [lt_irrefl] at this
    cases this
theorem lt_ne {a b : List UInt8} (h : lt a b = true) : a ≠ b := by
  rintro rfl
  rw [lt_irrefl] at h
  cases h
abbrev Ent := List UInt8 × Int
def has (E : List Ent) (k : List UInt8) : Bool := E.any fun e => e.1 == k
def val (E : List Ent) (k : List UInt8) : Int := ((E.find? fun e => e.1 == k).map (·.2)).getD 0
def pos (E : List Ent) (k : List UInt8) : Nat := (E.takeWhile fun e => lt e.1 k).length
def ins (E : List Ent) (k : List UInt8) (a : Int) : List Ent := E.take (pos E k) ++ (k, a) :: E.drop (pos E k)
def Srt (E : List Ent) : Prop := E.Pairwise fun a b => lt a.1 b.1 = true
theorem pos_le (E : List Ent) (k : List UInt8) : pos E k ≤ E.length := (List.takeWhile_sublist _).length_le
theorem pos_cons (e : Ent) (E : List Ent) (k : List UInt8) : pos (e :: E) k = if lt e.1 k = true then pos E k + 1 else 0 := by
  unfold pos
  rw [List.takeWhile_cons]
  split <;> simp
theorem ins_nil (k : List UInt8) (a : Int) : ins [] k a = [(k, a)] := rfl
theorem ins_cons (e : Ent) (E : List Ent) (k : List UInt8) (a : Int) : ins (e :: E) k a = if lt e.1 k = true then e :: ins E k a else (k, a) :: e :: E := by
  unfold ins
  rw [pos_cons]
  split <;> simp
theorem ins_length (E : List Ent) (k : List UInt8) (a : Int) : (ins E k a).length = E.length + 1 := by
  have := pos_le E k
  simp [ins]; omega
/-- The place, by what stands before it and from it on. -/
theorem pos_of : ∀ (E : List Ent) (k : List UInt8) (p : Nat), p ≤ E.length → (∀ j e, E[j]? = some e → (j < p → lt e.1 k = true) ∧ (p ≤ j → lt e.1 k = false)) → pos E k = p
  | [], k, p, hp, _ => by simp only [List.length_nil, Nat.le_zero] at hp; subst hp; rfl
  | e :: E, k, p, hp, h => by
    rw [pos_cons]
    cases p with
    | zero => rw [(h 0 e rfl).2 (by omega)]; simp
    | succ p =>
      rw [(h 0 e rfl).1 (by omega), if_pos rfl]
      rw [pos_of E k p (by simpa using hp) (fun j x hx => ⟨fun hj => (h (j + 1) x (by simpa using hx)).1 (by omega), fun hj => (h (j + 1) x (by simpa using hx)).2 (by omega)⟩)]
theorem srt_get {E : List Ent} (h : Srt E) {i j : Nat} {a b : Ent} (ha : E[i]? = some a) (hb : E[j]? = some b) (hij : i < j) : lt a.1 b.1 = true := by
  obtain ⟨hi, rfl⟩ := List.getElem?_eq_some_iff.1 ha
  obtain ⟨hj, rfl⟩ := List.getElem?_eq_some_iff.1 hb
  exact (List.pairwise_iff_getElem.1 h) i j hi hj hij
theorem has_cons (e : Ent) (E : List Ent) (k : List UInt8) : has (e :: E) k = (e.1 == k || has E k) := rfl
theorem val_cons (e : Ent) (E : List Ent) (k : List UInt8) : val (e :: E) k = if e.1 == k then e.2 else val E k := by
  unfold val
  rw [List.find?_cons]
  cases e.1 == k <;> rfl
/-- Whether the string is there is seen at its place. -/
theorem has_at : ∀ (E : List Ent) (k : List UInt8), Srt E → has E k = (match E[pos E k]? with | some e => e.1 == k | none => false)
  | [], _, _ => rfl
  | e :: E, k, h => by
    obtain ⟨h1, h2⟩ := List.pairwise_cons.1 h
    rw [has_cons, pos_cons]
    cases hl : lt e.1 k with
    | true =>
      have hne : (e.1 == k) = false := beq_eq_false_iff_ne.2 (lt_ne hl)
      rw [hne, has_at E k h2]
      simp
    | false =>
      simp only [Bool.false_eq_true, if_false, List.getElem?_cons_zero]
      cases hk : e.1 == k with
      | true => simp
      | false =>
        rw [Bool.false_or]
        unfold has
        rw [List.any_eq_false]
        intro x hx hxk
        simp only [beq_iff_eq] at hxk
        have := h1 x hx
        rw [hxk, hl] at this
        cases this
theorem val_at : ∀ (E : List Ent) (k : List UInt8), Srt E → has E k = true → ∃ e, E[pos E k]? = some e ∧ e.1 = k ∧ val E k = e.2
  | [], _, _, h => by cases h
  | e :: E, k, h, hh => by
    obtain ⟨h1, h2⟩ := List.pairwise_cons.1 h
    rw [has_cons] at hh
    rw [pos_cons, val_cons]
    cases hl : lt e.1 k with
    | true =>
      have hne : (e.1 == k) = false := beq_eq_false_iff_ne.2 (lt_ne hl)
      rw [hne, Bool.false_or] at hh
      obtain ⟨x, hx, hxk, hv⟩ := val_at E k h2 hh
      refine ⟨x, by simpa using hx, hxk, ?_⟩
      rw [hne, ← hv]; simp
    | false =>
      simp only [Bool.false_eq_true, if_false, List.getElem?_cons_zero]
      have hs := has_at (e :: E) k h
      rw [has_cons, hh, pos_cons, hl] at hs
      simp only [Bool.false_eq_true, if_false, List.getElem?_cons_zero] at hs
      refine ⟨e, rfl, by simpa using hs.symm, ?_⟩
      rw [← hs, if_pos rfl]
theorem mem_ins {E : List Ent} {k : List UInt8} {a : Int} {x : Ent} (h : x ∈ ins E k a) : x = (k, a) ∨ x ∈ E := by
  simp only [ins, List.mem_append, List.mem_cons] at h
  rcases h with h | h | h
  · exact Or.inr (List.mem_of_mem_take h)
  · exact Or.inl h
  · exact Or.inr (List.mem_of_mem_drop h)
theorem srt_ins : ∀ (E : List Ent) (k : List UInt8) (a : Int), Srt E → has E k = false → Srt (ins E k a)
  | [], k, a, _, _ => by rw [ins_nil]; exact List.pairwise_singleton _ _
  | e :: E, k, a, h, hh => by
    obtain ⟨h1, h2⟩ := List.pairwise_cons.1 h
    rw [has_cons, Bool.or_eq_false_iff] at hh
    rw [ins_cons]
    cases hl : lt e.1 k with
    | true =>
      rw [if_pos rfl]
      refine List.pairwise_cons.2 ⟨fun x hx => ?_, srt_ins E k a h2 hh.2⟩
      rcases mem_ins hx with rfl | hx
      · exact hl
      · exact h1 x hx
    | false =>
      rw [if_neg (by simp)]
      have hk : lt k e.1 = true := by
        cases hx : lt k e.1
        · exact absurd (lt_total _ _ hl hx) (by simpa using hh.1)
        · rfl
      refine List.pairwise_cons.2 ⟨fun x hx => ?_, h⟩
      rcases List.mem_cons.1 hx with rfl | hx
      · exact hk
      · exact lt_trans _ _ _ hk (h1 x hx)
theorem has_ins : ∀ (E : List Ent) (k : List UInt8) (a : Int) (x : List UInt8), has (ins E k a) x = (k == x || has E x)
  | [], k, a, x => by rw [ins_nil]; rfl
  | e :: E, k, a, x => by
    rw [ins_cons]
    split
    · rw [has_cons, has_ins E k a x, has_cons]
      cases e.1 == x <;> cases k == x <;> simp
    · rw [has_cons, has_cons]
theorem val_ins : ∀ (E : List Ent) (k : List UInt8) (a : Int) (x : List UInt8), has E k = false → val (ins E k a) x = if k == x then a else val E x
  | [], k, a, x, _ => by rw [ins_nil, val_cons]
  | e :: E, k, a, x, h => by
    rw [has_cons, Bool.or_eq_false_iff] at h
    rw [ins_cons]
    split
    · rw [val_cons, val_ins E k a x h.2, val_cons]
      by_cases hx : (e.1 == x) = true
      · rw [if_pos hx, if_pos hx]
        have he : e.1 = x := by simpa using hx
        rw [if_neg]
        intro hk
        have hk' : k = x := by simpa using hk
        rw [he, ← hk'] at h
        simp at h
      · rw [if_neg hx, if_neg hx]
    · rw [val_cons]
/-- The keys alone, sorted by insertion. -/
def insK (s : List (List UInt8)) (k : List UInt8) : List (List UInt8) := s.take (s.takeWhile fun x => lt x k).length ++ k :: s.drop (s.takeWhile fun x => lt x k).length
def srtK (l : List (List UInt8)) : List (List UInt8) := l.foldl insK []
def keys (E : List Ent) : List (List UInt8) := E.map (·.1)
theorem pos_keys : ∀ (E : List Ent) (k : List UInt8), ((keys E).takeWhile fun x => lt x k).length = pos E k
  | [], _ => rfl
  | e :: E, k => by
    have := pos_keys E k
    unfold keys at *
    rw [List.map_cons, List.takeWhile_cons, pos_cons]
    split <;> simp [this]
theorem keys_ins (E : List Ent) (k : List UInt8) (a : Int) : keys (ins E k a) = insK (keys E) k := by
  unfold insK
  rw [pos_keys]
  simp [keys, ins, List.map_take, List.map_drop]
theorem srtK_snoc (l : List (List UInt8)) (k : List UInt8) : srtK (l ++ [k]) = insK (srtK l) k := by simp [srtK]
theorem has_keys (E : List Ent) (k : List UInt8) : has E k = (keys E).contains k := by
  induction E with
  | nil => rfl
  | cons e E ih =>
    rw [has_cons, ih]
    unfold keys
    rw [List.map_cons, List.contains_cons]
    congr 1
    exact Bool.beq_comm
theorem has_append (E F : List Ent) (k : List UInt8) : has (E ++ F) k = (has E k || has F k) := by simp [has]
theorem val_append : ∀ (E F : List Ent) (k : List UInt8), val (E ++ F) k = if has E k = true then val E k else val F k
  | [], F, k => by simp [has]
  | e :: E, F, k => by
    rw [List.cons_append, val_cons, val_append E F k, has_cons, val_cons]
    cases e.1 == k <;> simp
/-- One Put: the entries and the error's number behind it. -/
def putE (E : List Ent) (k : List UInt8) (a : Int) : List Ent := if a < 0 ∨ 9007199254740991 < a then E else if has E k = true then E else ins E k a
def putN (E : List Ent) (k : List UInt8) (a : Int) : Int := if a < 0 ∨ 9007199254740991 < a then 2 else if has E k = true then 71 else 0
def putL (L : List Ent) (k : List UInt8) (a : Int) : List Ent := if a < 0 ∨ 9007199254740991 < a then L else if has L k = true then L else L ++ [(k, a)]
/-- The pool and the list of the reference say the same. -/
structure Agr (E L : List Ent) : Prop where
  srt : Srt E
  has_ : ∀ k, has E k = has L k
  val_ : ∀ k, val E k = val L k
  len : E.length = L.length
  keys_ : keys E = srtK (keys L)
theorem Agr.nil : Agr [] [] := ⟨List.Pairwise.nil, fun _ => rfl, fun _ => rfl, rfl, rfl⟩
theorem Agr.put {E L : List Ent} (h : Agr E L) (k : List UInt8) (a : Int) : Agr (putE E k a) (putL L k a) ∧ putN E k a = putN L k a := by
  unfold putE putL putN
  rw [h.has_ k]
  by_cases h1 : a < 0 ∨ 9007199254740991 < a
  · rw [if_pos h1, if_pos h1]
    exact ⟨h, rfl⟩
  · rw [if_neg h1, if_neg h1]
    cases hh : has L k with
    | true => exact ⟨by simpa using h, rfl⟩
    | false =>
      refine ⟨?_, rfl⟩
      simp only [Bool.false_eq_true, if_false]
      have hE : has E k = false := by rw [h.has_, hh]
      refine ⟨srt_ins E k a h.srt hE, fun x => ?_, fun x => ?_, ?_, ?_⟩
      · rw [has_ins, has_append, h.has_ x, Bool.or_comm]
        simp [has]
      · rw [val_ins E k a x hE, val_append, h.val_ x]
        by_cases hx : (k == x) = true
        · have hkx : k = x := by simpa using hx
          subst hkx
          rw [if_pos hx, hh, if_neg (by simp), val_cons, if_pos hx]
        · rw [if_neg hx]
          cases hLx : has L x with
          | true => simp
          | false =>
            rw [if_neg (by simp), val_cons, if_neg hx]
            have : ∀ (M : List Ent), has M x = false → val M x = 0 := by
              intro M
              induction M with
              | nil => intro _; rfl
              | cons e M ih =>
                intro hm
                rw [has_cons, Bool.or_eq_false_iff] at hm
                rw [val_cons, hm.1, if_neg (by simp), ih hm.2]
            rw [this L hLx]
            rfl
      · rw [ins_length, h.len]; simp
      · rw [keys_ins, h.keys_]
        simp [keys, srtK_snoc]
end Go.Proofs.Ytdomplhhjkikmaa
