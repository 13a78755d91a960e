/- A reader of requests, plain: how its bytes are cut plays no part. -/
import Derived.Test.YtageanmjdfodnaaGreatDoorHttpRd
namespace Go.Proofs.YtageanmjdfodnaaGreatDoor
open Go.RowKit Go.Cx Go.Maps

def HS.plus (s : HS) (y : List Nat) : HS := { s with b := s.b ++ y }
theorem headGo_app (y : List Nat) : ∀ (r : List Nat) (ret : Bool) (cur : List Nat) (l : List (List Nat)) (i : Nat), headGo r ret cur l i ≠ some none → headGo (r ++ y) ret cur l i = headGo r ret cur l i
  | [], _, _, _, _, h => absurd rfl h
  | c :: r, ret, cur, l, i, h => by
    rw [List.cons_append, headGo, headGo]
    rw [headGo] at h
    by_cases h1 : decide (c = 10) ≠ ret
    · rw [if_pos h1, if_pos h1]
    · rw [if_neg h1, if_neg h1]
      rw [if_neg h1] at h
      by_cases h2 : inLine c = true
      · rw [if_pos h2, if_pos h2]
        rw [if_pos h2] at h
        exact headGo_app y r _ _ _ _ h
      · rw [if_neg h2, if_neg h2]
        rw [if_neg h2] at h
        by_cases h3 : c ≠ 10
        · rw [if_pos h3, if_pos h3]
        · rw [if_neg h3, if_neg h3]
          rw [if_neg h3] at h
          by_cases h4 : cur.length = 1
          · rw [if_pos h4, if_pos h4]
          · rw [if_neg h4, if_neg h4]
            rw [if_neg h4] at h
            exact headGo_app y r _ _ _ _ h
theorem headL_app (b y : List Nat) (h : headL b ≠ some none) : headL (b ++ y) = headL b := by
  unfold headL at h ⊢
  by_cases hb : 2000 ≤ b.length
  · have e : (b ++ y).take 2000 = b.take 2000 := List.take_append_of_le_length hb
    rw [e]
    have h1 : ¬ (b ++ y).length < 2000 := by rw [List.length_append]; omega
    have h2 : ¬ b.length < 2000 := by omega
    rw [if_neg h1, if_neg h2]
  · have hb2 : b.take 2000 = b := List.take_of_length_le (by omega)
    rw [hb2] at h ⊢
    have hne : headGo b false [] [] 0 ≠ some none := by
      intro hh
      rw [hh] at h
      simp at h
      omega
    have e : (b ++ y).take 2000 = b ++ y.take (2000 - b.length) := by rw [List.take_append, hb2]
    rw [e, headGo_app _ _ _ _ _ _ hne]
    cases hg : headGo b false [] [] 0 with
    | none => rfl
    | some x =>
      cases x with
      | none => exact absurd hg hne
      | some x => rfl
theorem feedGo_app (y : List Nat) : ∀ (l : List Nat) (s : CS) (k : Nat), feedGo (l ++ y) s k = if (feedGo l s k).1.2.2 ≠ 0 ∨ (feedGo l s k).1.2.1 = true then feedGo l s k else feedGo y (feedGo l s k).2 (feedGo l s k).1.1
  | [], s, k => by
    by_cases h7 : s.st = 7
    · rw [List.nil_append, feed_whole _ _ _ h7, feed_whole _ _ _ h7]; simp
    · rw [List.nil_append, feed_nil _ _ h7]; simp
  | c :: l, s, k => by
    by_cases h7 : s.st = 7
    · rw [List.cons_append, feed_whole _ _ _ h7, feed_whole _ _ _ h7]; simp
    · rw [List.cons_append, feed_cons _ _ _ _ h7, feed_cons _ _ _ _ h7]
      rcases cbyte s c with ⟨e, s'⟩
      cases e with
      | zero => exact feedGo_app y l s' (k + 1)
      | succ m => simp
theorem feedGo_all : ∀ (l : List Nat) (s : CS) (k : Nat), (feedGo l s k).1.2.2 = 0 → (feedGo l s k).1.2.1 = false → (feedGo l s k).1.1 = k + l.length
  | [], s, k, _, h => by
    by_cases h7 : s.st = 7
    · rw [feed_whole _ _ _ h7] at h; cases h
    · rw [feed_nil _ _ h7]; rfl
  | c :: l, s, k, he, h => by
    by_cases h7 : s.st = 7
    · rw [feed_whole _ _ _ h7] at h; cases h
    · rw [feed_cons _ _ _ _ h7] at he h ⊢
      generalize cbyte s c = q at he h ⊢
      obtain ⟨e, s'⟩ := q
      cases e with
      | zero =>
        have := feedGo_all l s' (k + 1) he h
        show (feedGo l s' (k + 1)).1.1 = _
        rw [this, List.length_cons]
        omega
      | succ m => simp at he
theorem feedGo_same : ∀ (l : List Nat) (s : CS) (k : Nat), (feedGo l s k).1.2.2 = 0 → (feedGo l s k).2.e = s.e
  | [], s, k, _ => by
    by_cases h7 : s.st = 7
    · rw [feed_whole _ _ _ h7]
    · rw [feed_nil _ _ h7]
  | c :: l, s, k, he => by
    by_cases h7 : s.st = 7
    · rw [feed_whole _ _ _ h7]
    · rw [feed_cons _ _ _ _ h7] at he ⊢
      have hce := cbyte_e s c
      generalize cbyte s c = q at he hce ⊢
      obtain ⟨e, s'⟩ := q
      cases e with
      | zero => exact (feedGo_same l s' (k + 1) he).trans hce
      | succ m => simp at he
theorem feedGo_shift : ∀ (l : List Nat) (s : CS) (k : Nat), feedGo l s k = ((if (feedGo l s 0).1.2.2 = 0 then k + (feedGo l s 0).1.1 else 0, (feedGo l s 0).1.2), (feedGo l s 0).2)
  | [], s, k => by
    by_cases h7 : s.st = 7
    · rw [feed_whole _ _ _ h7, feed_whole _ _ _ h7]; simp
    · rw [feed_nil _ _ h7, feed_nil _ _ h7]; simp
  | c :: l, s, k => by
    by_cases h7 : s.st = 7
    · rw [feed_whole _ _ _ h7, feed_whole _ _ _ h7]; simp
    · rw [feed_cons _ _ _ _ h7, feed_cons _ _ _ _ h7]
      rcases cbyte s c with ⟨e, s'⟩
      cases e with
      | zero =>
        simp only
        rw [feedGo_shift l s' (k + 1), feedGo_shift l s' (0 + 1)]
        simp only
        split
        · congr 2; omega
        · rfl
      | succ m => simp
/-- what a turn does, behind a head, to bytes and then more -/
theorem turnB_app (d : Bd) (b y : List Nat) :
    (turnB false d b = .stop 130 ⟨true, [], none⟩ ∧ turnB false d (b ++ y) = .stop 130 ⟨true, [], none⟩) ∨
    (∃ d', turnB false d b = .stop 0 ⟨false, [], some d'⟩ ∧ turnB false d (b ++ y) = turnB false d' y) ∨
    (∃ r s', turnB false d b = .more r s' ∧ turnB false d (b ++ y) = .more r (s'.plus y)) := by
  cases hc : d.c with
  | none =>
    have t1 : ∀ z, takeB d z = ((min d.left z.length, decide (d.left ≤ z.length), 0), { d with got := d.got ++ z.take d.left, left := d.left - z.length }) := fun z => by unfold takeB; rw [hc]
    by_cases hl : d.left ≤ b.length
    · right; right
      have hl2 : d.left ≤ (b ++ y).length := by rw [List.length_append]; omega
      refine ⟨⟨d.got ++ b.take d.left, d.keep⟩, ⟨!d.keep, b.drop d.left, none⟩, ?_, ?_⟩
      · unfold turnB
        rw [t1]
        simp only [decide_eq_true hl, Nat.min_eq_left hl]
        simp
      · unfold turnB
        rw [t1]
        simp only [decide_eq_true hl2, Nat.min_eq_left hl2]
        rw [List.take_append_of_le_length hl, List.drop_append_of_le_length hl]
        simp [HS.plus]
    · right; left
      have hl' : b.length ≤ d.left := by omega
      refine ⟨{ d with got := d.got ++ b, left := d.left - b.length }, ?_, ?_⟩
      · unfold turnB
        rw [t1]
        simp only [decide_eq_false hl, Nat.min_eq_right hl']
        rw [List.take_of_length_le hl', List.drop_length]
        simp
      · have t2 : takeB { d with got := d.got ++ b, left := d.left - b.length } y = ((min (d.left - b.length) y.length, decide (d.left - b.length ≤ y.length), 0), { d with got := d.got ++ b ++ y.take (d.left - b.length), left := d.left - b.length - y.length }) := by
          unfold takeB
          simp only [hc]
        unfold turnB
        rw [t1, t2]
        have e1 : decide (d.left ≤ (b ++ y).length) = decide (d.left - b.length ≤ y.length) := by
          rw [decide_eq_decide, List.length_append]; omega
        have e2 : (b ++ y).take d.left = b ++ y.take (d.left - b.length) := by rw [List.take_append, List.take_of_length_le hl']
        have e3 : (b ++ y).drop (min d.left (b ++ y).length) = y.drop (min (d.left - b.length) y.length) := by
          rw [List.length_append, List.drop_append, List.drop_eq_nil_of_le (by omega), List.nil_append]
          congr 1
          omega
        have e4 : d.left - (b ++ y).length = d.left - b.length - y.length := by rw [List.length_append]; omega
        simp only [e1, e2, e3, e4, List.append_assoc]
  | some s =>
    have t1 : ∀ z, takeB d z = ((feed s z).1, { d with got := (feed s z).2.body, c := some (feed s z).2 }) := fun z => by unfold takeB; rw [hc]
    by_cases hse : s.e ≠ 0
    · left
      have f1 : ∀ z, feed s z = ((0, false, s.e), s) := fun z => by unfold feed; rw [if_pos hse]
      constructor
      · unfold turnB; rw [t1, f1]; simp [hse]
      · unfold turnB; rw [t1, f1]; simp [hse]
    · have f1 : ∀ z, feed s z = feedGo z s 0 := fun z => by unfold feed; rw [if_neg hse]
      have happ := feedGo_app y b s 0
      have hall := feedGo_all b s 0
      have hsame := feedGo_same b s 0
      rcases hg : feedGo b s 0 with ⟨⟨n, whole, e⟩, s'⟩
      rw [hg] at happ hall hsame
      simp only at happ hall hsame
      by_cases he : e = 0
      · subst he
        cases whole with
        | true =>
          right; right
          simp only [or_true, if_true] at happ
          have hn : n ≤ b.length := by
            have := feedGo_le b s 0
            rw [hg] at this
            simpa using this
          refine ⟨⟨s'.body, d.keep⟩, ⟨!d.keep, b.drop n, none⟩, ?_, ?_⟩
          · unfold turnB
            rw [t1, f1, hg]
            simp
          · unfold turnB
            rw [t1, f1, happ]
            simp only
            rw [List.drop_append_of_le_length hn]
            simp [HS.plus]
        | false =>
          right; left
          have hn := hall rfl rfl
          rw [Nat.zero_add] at hn
          have hse2 := hsame rfl
          simp only [ne_eq, not_true_eq_false, Bool.false_eq_true, or_self, if_false] at happ
          refine ⟨{ d with got := s'.body, c := some s' }, ?_, ?_⟩
          · unfold turnB
            rw [t1, f1, hg]
            simp only
            rw [hn, List.drop_length]
            simp
          · have t2 : takeB { d with got := s'.body, c := some s' } y = ((feedGo y s' 0).1, { d with got := (feedGo y s' 0).2.body, c := some (feedGo y s' 0).2 }) := by
              unfold takeB
              simp only
              unfold feed
              rw [if_neg (by rw [hse2]; exact hse)]
            unfold turnB
            rw [t1, f1, happ, t2, feedGo_shift y s' n]
            rcases hg2 : feedGo y s' 0 with ⟨⟨n2, whole2, e2⟩, s2⟩
            simp only
            by_cases he2 : e2 = 0
            · subst he2
              simp only [if_true]
              rw [hn, List.drop_append, List.drop_eq_nil_of_le (by omega), List.nil_append, Nat.add_sub_cancel_left]
            · simp only [he2, ne_eq, not_false_eq_true, if_true]
      · left
        simp only [he, ne_eq, not_false_eq_true, true_or, if_true] at happ
        constructor
        · unfold turnB
          rw [t1, f1, hg]
          simp [he]
        · unfold turnB
          rw [t1, f1, happ]
          simp [he]
theorem turnL_app (s : HS) (y : List Nat) (hs : s.ended = false) :
    (turnL s = .stop 130 ⟨true, [], none⟩ ∧ turnL (s.plus y) = .stop 130 ⟨true, [], none⟩) ∨
    (∃ s2 : HS, turnL s = .stop 0 s2 ∧ s2.ended = false ∧ turnL (s.plus y) = turnL (s2.plus y)) ∨
    (∃ r s', turnL s = .more r s' ∧ turnL (s.plus y) = .more r (s'.plus y)) := by
  obtain ⟨en, b, body⟩ := s
  simp only at hs
  subst hs
  cases body with
  | some d =>
    rcases turnB_app d b y with ⟨h1, h2⟩ | ⟨d', h1, h2⟩ | ⟨r, s', h1, h2⟩
    · exact .inl ⟨h1, h2⟩
    · refine .inr (.inl ⟨⟨false, [], some d'⟩, h1, rfl, ?_⟩)
      show turnB false d (b ++ y) = turnB false d' ([] ++ y)
      rw [h2, List.nil_append]
    · exact .inr (.inr ⟨r, s', h1, h2⟩)
  | none =>
    have e1 : ∀ z : List Nat, turnL ⟨false, z, none⟩ = match headL z with
      | none => .stop 130 ⟨true, [], none⟩
      | some none => .stop 0 ⟨false, z, none⟩
      | some (some (l, n)) => match beginL l with
        | none => .stop 130 ⟨true, [], none⟩
        | some d => turnB false d (z.drop n) := fun z => rfl
    show (turnL ⟨false, b, none⟩ = _ ∧ turnL ⟨false, b ++ y, none⟩ = _) ∨ (∃ s2 : HS, turnL ⟨false, b, none⟩ = _ ∧ _ ∧ turnL ⟨false, b ++ y, none⟩ = _) ∨ (∃ r s', turnL ⟨false, b, none⟩ = _ ∧ turnL ⟨false, b ++ y, none⟩ = _)
    by_cases hnn : headL b = some none
    · refine .inr (.inl ⟨⟨false, b, none⟩, ?_, rfl, rfl⟩)
      rw [e1, hnn]
    · have happ := headL_app b y hnn
      rw [e1, e1, happ]
      cases hh : headL b with
      | none => exact .inl ⟨rfl, rfl⟩
      | some x =>
        cases x with
        | none => exact absurd hh hnn
        | some x =>
          obtain ⟨l, n⟩ := x
          simp only
          cases hg : beginL l with
          | none => exact .inl ⟨rfl, rfl⟩
          | some d =>
            simp only
            have hn := (headL_pos hh).2
            rw [List.drop_append_of_le_length hn]
            rcases turnB_app d (b.drop n) y with ⟨h1, h2⟩ | ⟨d', h1, h2⟩ | ⟨r, s', h1, h2⟩
            · exact .inl ⟨h1, h2⟩
            · refine .inr (.inl ⟨⟨false, [], some d'⟩, h1, rfl, ?_⟩)
              show turnB false d (b.drop n ++ y) = turnB false d' ([] ++ y)
              rw [h2, List.nil_append]
            · exact .inr (.inr ⟨r, s', h1, h2⟩)
/-- all rounds -/
def feedW (s : HS) (l : List Rq) : (List Rq × Nat) × HS := feedN (mz s + 1) s l
theorem feedN_fuel : ∀ (k : Nat) (s : HS) (l : List Rq) (k' : Nat), mz s < k → mz s < k' → feedN k s l = feedN k' s l
  | 0, _, _, _, h, _ => by omega
  | _ + 1, _, _, 0, _, h => by omega
  | k + 1, s, l, k' + 1, h, h' => by
    rw [feedN, feedN]
    split
    · rfl
    · cases ht : turnL s with
      | stop e s' => rfl
      | more r s' =>
        have := turnL_more ht
        exact feedN_fuel k s' _ k' (by omega) (by omega)
theorem feedN_W {k : Nat} {s : HS} {l : List Rq} (h : mz s < k) : feedN k s l = feedW s l := feedN_fuel _ _ _ _ h (Nat.lt_succ_self _)
theorem feedW_eq (s : HS) (l : List Rq) : feedW s l = if s.ended then ((l, 0), s) else match turnL s with
    | .stop e s' => ((l, e), s')
    | .more r s' => feedW s' (l ++ [r]) := by
  conv => lhs; unfold feedW; rw [feedN]
  split
  · rfl
  · cases ht : turnL s with
    | stop e s' => rfl
    | more r s' => exact feedN_W (turnL_more ht)
def HS.fin (s : HS) : HS := if s.ended then ⟨true, [], none⟩ else s
theorem feedW_app (y : List Nat) : ∀ (n : Nat) (s : HS) (l : List Rq), mz s < n → s.ended = false →
    ((feedW s l).1.2 ≠ 0 ∨ (feedW s l).2.ended = true → (feedW (s.plus y) l).1 = (feedW s l).1 ∧ (feedW (s.plus y) l).2.fin = (feedW s l).2.fin) ∧
    ((feedW s l).1.2 = 0 → (feedW s l).2.ended = false → feedW (s.plus y) l = feedW ((feedW s l).2.plus y) (feedW s l).1.1)
  | 0, _, _, h, _ => by omega
  | n + 1, s, l, h, hs => by
    have hp : (s.plus y).ended = false := hs
    rcases turnL_app s y hs with ⟨h1, h2⟩ | ⟨s2, h1, h2, h3⟩ | ⟨r, s', h1, h2⟩
    · have a : feedW s l = ((l, 130), ⟨true, [], none⟩) := by rw [feedW_eq, hs, h1]; rfl
      have b : feedW (s.plus y) l = ((l, 130), ⟨true, [], none⟩) := by rw [feedW_eq, hp, h2]; rfl
      rw [a, b]
      exact ⟨fun _ => ⟨rfl, rfl⟩, fun h => by cases h⟩
    · have a : feedW s l = ((l, 0), s2) := by rw [feedW_eq, hs, h1]; rfl
      rw [a]
      refine ⟨fun h => ?_, fun _ _ => ?_⟩
      · rcases h with h | h
        · exact absurd rfl h
        · rw [h2] at h; cases h
      · have hp2 : (s2.plus y).ended = false := h2
        rw [feedW_eq, hp, h3, feedW_eq (s2.plus y), hp2]
        simp only [Bool.false_eq_true, if_false]
    · have a : feedW s l = feedW s' (l ++ [r]) := by rw [feedW_eq, hs, h1]; rfl
      have b : feedW (s.plus y) l = feedW (s'.plus y) (l ++ [r]) := by rw [feedW_eq, hp, h2]; rfl
      rw [a, b]
      cases he : s'.ended with
      | false => exact feedW_app y n s' (l ++ [r]) (by have := turnL_more h1; omega) he
      | true =>
        have hp' : (s'.plus y).ended = true := he
        have a1 : feedW s' (l ++ [r]) = ((l ++ [r], 0), s') := by rw [feedW_eq, he]; rfl
        have b1 : feedW (s'.plus y) (l ++ [r]) = ((l ++ [r], 0), s'.plus y) := by rw [feedW_eq, hp']; rfl
        rw [a1, b1]
        refine ⟨fun _ => ⟨rfl, ?_⟩, fun _ h => ?_⟩
        · show (s'.plus y).fin = s'.fin
          unfold HS.fin
          rw [if_pos hp', if_pos he]
        · exact absurd (he.symm.trans h) (by simp)
theorem feedW_acc : ∀ (n : Nat) (s : HS) (l : List Rq), mz s < n → feedW s l = ((l ++ (feedW s []).1.1, (feedW s []).1.2), (feedW s []).2)
  | 0, _, _, h => by omega
  | n + 1, s, l, h => by
    rw [feedW_eq s l, feedW_eq s []]
    split
    · simp
    · cases ht : turnL s with
      | stop e s' => simp
      | more r s' =>
        have := turnL_more ht
        simp only
        rw [feedW_acc n s' (l ++ [r]) (by omega), feedW_acc n s' ([] ++ [r]) (by omega)]
        simp
/-- a reader is fed; what is told, what it then is -/
theorem feedH_W (s : HS) (x : List Nat) (hs : s.ended = false) : feedH s x = feedW (s.plus x) [] := by
  unfold feedH
  rw [if_neg (by rw [hs]; simp)]
  apply feedN_W
  show (s.b ++ x).length + (if s.body.isSome then 1 else 0) < _
  rw [List.length_append]
  split <;> omega
/-- bytes fed so far: what was told, what the reader is -/
def Fed (p : List Nat) (rs : List Rq) (s : HS) : Prop := feedW ⟨false, p, none⟩ [] = ((rs, 0), s) ∧ s.ended = false
theorem Fed.start : Fed [] [] ⟨false, [], none⟩ := by
  refine ⟨?_, rfl⟩
  rw [feedW_eq]
  rfl
/-- one more feeding, when all bytes together are told without an error -/
theorem Fed.more {p q x : List Nat} {rs all : List Rq} {s send : HS} (h : Fed p rs s) (hall : feedW ⟨false, p ++ x ++ q, none⟩ [] = ((all, 0), send)) (hend : send.ended = false) :
    ∃ rs2 s2, feedH s x = ((rs2, 0), s2) ∧ Fed (p ++ x) (rs ++ rs2) s2 ∧ ∃ rs3, all = rs ++ rs2 ++ rs3 := by
  have key : feedW ⟨false, p ++ x, none⟩ [] = ((rs ++ (feedH s x).1.1, (feedH s x).1.2), (feedH s x).2) := by
    have h1 := (feedW_app x _ ⟨false, p, none⟩ [] (Nat.lt_succ_self _) rfl).2 (by rw [h.1]) (by rw [h.1]; exact h.2)
    rw [h.1] at h1
    have e : (⟨false, p, none⟩ : HS).plus x = ⟨false, p ++ x, none⟩ := rfl
    rw [e] at h1
    rw [h1, feedH_W s x h.2]
    exact feedW_acc _ _ _ (Nat.lt_succ_self _)
  have h2 := feedW_app q _ ⟨false, p ++ x, none⟩ [] (Nat.lt_succ_self _) rfl
  have e : (⟨false, p ++ x, none⟩ : HS).plus q = ⟨false, p ++ x ++ q, none⟩ := rfl
  rw [e, hall, key] at h2
  obtain ⟨a, b⟩ := h2
  rcases hf : feedH s x with ⟨⟨rs2, e2⟩, s2⟩
  rw [hf] at a b key
  simp only at a b key
  by_cases hbad : e2 ≠ 0 ∨ s2.ended = true
  · obtain ⟨a1, a2⟩ := a hbad
    injection a1 with a1 a3
    rcases hbad with hb | hb
    · exact absurd a3.symm hb
    · unfold HS.fin at a2
      rw [hend, hb] at a2
      simp only [Bool.false_eq_true, if_false, if_true] at a2
      rw [a2] at hend
      cases hend
  · have hb1 : e2 = 0 := by
      rcases Nat.eq_zero_or_pos e2 with h | h
      · exact h
      · exact absurd (.inl (by omega)) hbad
    have hb2 : s2.ended = false := by
      cases he : s2.ended with
      | false => rfl
      | true => exact absurd (.inr he) hbad
    subst hb1
    refine ⟨rs2, s2, rfl, ⟨key, hb2⟩, ?_⟩
    have b1 := b rfl hb2
    rw [feedW_acc _ _ (rs ++ rs2) (Nat.lt_succ_self _)] at b1
    injection b1 with b1 _
    injection b1 with b1 _
    exact ⟨_, b1⟩
end Go.Proofs.YtageanmjdfodnaaGreatDoor
