/- Requests that are asked, plain: a reader tells them. -/
import Derived.Test.YtageanmjdfodnaaGreatDoorHttpW
import Derived.Test.YtageanmjdfodnaaGreatDoorChunkLaw
namespace Go.Proofs.YtageanmjdfodnaaGreatDoor
open Go.RowKit Go.Cx Go.Maps

def hostL : List Nat := [72, 111, 115, 116, 58, 32, 114, 101, 115, 111, 108, 118, 101, 114]
def ctL : List Nat := [67, 111, 110, 116, 101, 110, 116, 45, 84, 121, 112, 101, 58, 32, 97, 112, 112, 108, 105, 99, 97, 116, 105, 111, 110, 47, 100, 110, 115, 45, 109, 101, 115, 115, 97, 103, 101]
def clenH : List Nat := [67, 111, 110, 116, 101, 110, 116, 45, 76, 101, 110, 103, 116, 104, 58, 32]
def chunkH : List Nat := [84, 114, 97, 110, 115, 102, 101, 114, 45, 69, 110, 99, 111, 100, 105, 110, 103, 58, 32, 99, 104, 117, 110, 107, 101, 100]
def shutH : List Nat := [67, 79, 78, 78, 69, 67, 84, 73, 79, 78, 58, 32, 32, 67, 108, 111, 115, 101, 32]
/-- a head of lines -/
def textL (ls : List (List Nat)) : List Nat := (ls.map fun s => s ++ [13, 10]).flatten ++ [13, 10]
/-- what stands in a line -/
def lineOk (s : List Nat) : Bool := decide (s ≠ []) && s.all fun c => inLine c && decide (c ≠ 13)
theorem headGo_chars : ∀ (s r cur : List Nat) (l : List (List Nat)) (i : Nat), (s.all fun c => inLine c && decide (c ≠ 13)) = true → headGo (s ++ r) false cur l i = headGo r false (cur ++ s) l (i + s.length)
  | [], r, cur, l, i, _ => by simp
  | c :: s, r, cur, l, i, h => by
    simp only [List.all_cons, Bool.and_eq_true, decide_eq_true_eq] at h
    obtain ⟨⟨h1, h2⟩, h3⟩ := h
    have h10 : c ≠ 10 := by rintro rfl; rw [inLine_10] at h1; cases h1
    rw [List.cons_append, headGo, if_neg (by simp [h10]), if_pos h1, decide_eq_false h2, headGo_chars s r (cur ++ [c]) l (i + 1) (by simpa using h3), List.append_assoc, List.length_cons]
    simp only [List.singleton_append]
    congr 1
    omega
theorem headGo_end (r cur : List Nat) (l : List (List Nat)) (i : Nat) : headGo (13 :: 10 :: r) false cur l i = if cur = [] then some (some (l, i + 2)) else headGo r false [] (l ++ [cur]) (i + 2) := by
  rw [headGo, if_neg (by decide), if_pos (by decide), headGo, if_neg (by decide), if_neg (by decide), if_neg (by decide)]
  have e : (cur ++ [13]).length = 1 ↔ cur = [] := by
    rw [List.length_append, List.length_singleton]
    constructor
    · intro h
      exact List.eq_nil_of_length_eq_zero (by omega)
    · rintro rfl
      rfl
  by_cases h : cur = []
  · rw [if_pos h, if_pos (e.2 h)]
  · rw [if_neg h, if_neg (fun h' => h (e.1 h')), List.dropLast_concat]
theorem headGo_text (r : List Nat) : ∀ (ls l : List (List Nat)) (i : Nat), ls.all lineOk = true → headGo (textL ls ++ r) false [] l i = some (some (l ++ ls, i + (textL ls).length))
  | [], l, i, _ => by
    show headGo (13 :: 10 :: r) false [] l i = _
    rw [headGo_end, if_pos rfl, List.append_nil]
    rfl
  | s :: ls, l, i, h => by
    rw [List.all_cons, Bool.and_eq_true] at h
    obtain ⟨h1, h2⟩ := h
    unfold lineOk at h1
    rw [Bool.and_eq_true, decide_eq_true_eq] at h1
    have e : textL (s :: ls) ++ r = s ++ (13 :: 10 :: (textL ls ++ r)) := by simp [textL]
    have el : (textL (s :: ls)).length = s.length + 2 + (textL ls).length := by simp [textL]; omega
    rw [e, headGo_chars s _ [] l i h1.2, headGo_end, List.nil_append, if_neg h1.1, headGo_text r ls (l ++ [s]) _ h2, el, List.append_assoc, List.singleton_append]
    congr 3
    omega
theorem headL_text (ls : List (List Nat)) (r : List Nat) (h : ls.all lineOk = true) (hl : (textL ls).length ≤ 2000) : headL (textL ls ++ r) = some (some (ls, (textL ls).length)) := by
  unfold headL
  have e : (textL ls ++ r).take 2000 = textL ls ++ r.take (2000 - (textL ls).length) := by rw [List.take_append, List.take_of_length_le hl]
  rw [e, headGo_text _ ls [] 0 h, List.nil_append, Nat.zero_add]
/-- a number's digits in a field -/
theorem cutF_name : ∀ (a b : List Nat), (a.all fun c => decide (c ≠ 58)) = true → cutF (a ++ 58 :: b) = some (a, b)
  | [], b, _ => by simp [cutF]
  | c :: a, b, h => by
    rw [List.all_cons, Bool.and_eq_true, decide_eq_true_eq] at h
    rw [List.cons_append, cutF, if_neg h.1, cutF_name a b h.2]
theorem low_dig {d : List Nat} (h : d.all isDig = true) : smallF d = d := by
  induction d with
  | nil => rfl
  | cons c d ih =>
    rw [List.all_cons, Bool.and_eq_true] at h
    show lowF c :: smallF d = c :: d
    rw [ih h.2]
    have : lowF c = c := by
      have h1 := h.1
      simp only [isDig, Bool.and_eq_true, decide_eq_true_eq] at h1
      unfold lowF
      rw [if_neg (by omega)]
    rw [this]
theorem blank_dig {c : Nat} (h : isDig c = true) : blankF c = false := by
  simp only [isDig, Bool.and_eq_true, decide_eq_true_eq] at h
  unfold blankF
  simp
  omega
theorem trim_dig {d : List Nat} (h : d.all isDig = true) (hne : d ≠ []) : trimF (32 :: d) = d := by
  unfold trimF
  have e1 : ((32 :: d).reverse).dropWhile blankF = (32 :: d).reverse := by
    rw [List.reverse_cons]
    cases hr : d.reverse with
    | nil => exact absurd (List.reverse_eq_nil_iff.1 hr) hne
    | cons c t =>
      have hc : c ∈ d := by rw [← List.mem_reverse, hr]; simp
      rw [List.cons_append, List.dropWhile_cons_of_neg (by rw [blank_dig (List.all_eq_true.1 h c hc)]; simp)]
  rw [e1, List.reverse_reverse, List.dropWhile_cons_of_pos (by decide)]
  cases d with
  | nil => rfl
  | cons c t => rw [List.dropWhile_cons_of_neg (by rw [blank_dig (List.all_eq_true.1 h c (by simp))]; simp)]
theorem field_len {d : List Nat} (h : d.all isDig = true) (hne : d ≠ []) : fieldL (clenH ++ d) = some (clenL, d) := by
  have e : clenH ++ d = [67, 111, 110, 116, 101, 110, 116, 45, 76, 101, 110, 103, 116, 104] ++ 58 :: (32 :: d) := rfl
  unfold fieldL
  rw [e, cutF_name _ _ (by decide)]
  simp only
  rw [if_neg (by decide), trim_dig h hne, low_dig h]
  rfl
theorem itoa_all (n : Nat) : (itoaL n).all isDig = true := List.all_eq_true.2 (itoa_dig n)
theorem sizeL_of {n : Nat} (h : n ≤ 65535) : sizeL (itoaL n) = some n := by
  have h1 := sizeL_itoa h
  have hl := itoa_len n 4 (by omega)
  rwa [List.take_of_length_le (by omega)] at h1
/-- the lines of a request; shut: it is not kept -/
def askLines (n : Nat) (chunked shut : Bool) : List (List Nat) :=
  [firstL] ++ (if shut then [shutH] else []) ++ [hostL, ctL, if chunked then chunkH else clenH ++ itoaL n]
theorem begin_ask {n : Nat} (h : n ≤ 65535) (chunked shut : Bool) : beginL (askLines n chunked shut) = some (if chunked then ⟨!shut, 0, [], some (new0 65535)⟩ else ⟨!shut, n, [], none⟩) := by
  have hf := field_len (itoa_all n) (itoa_ne n)
  have hs := sizeL_of h
  have f1 : fieldL hostL = some ([104, 111, 115, 116], [114, 101, 115, 111, 108, 118, 101, 114]) := by decide
  have f2 : fieldL ctL = some (ctypeL, kindL) := by decide
  have f3 : fieldL chunkH = some (codedL, chunkedL) := by decide
  have f4 : fieldL shutH = some (connL, shutL) := by decide
  cases chunked <;> cases shut
  all_goals
    unfold askLines beginL
    simp only [if_true, Bool.false_eq_true, if_false, List.append_nil, List.cons_append, List.nil_append, ne_eq, not_true_eq_false]
    simp only [fieldsL_cons, f1, f2, f3, f4, hf]
    first
      | rfl
      | (show Option.map _ (sizeL (itoaL n)) = _
         rw [hs]
         rfl)
def askL (b : List Nat) (chunked shut : Bool) : List Nat := textL (askLines b.length chunked shut) ++ if chunked then encL 99 b else b
theorem lines_ok {n : Nat} (chunked shut : Bool) : (askLines n chunked shut).all lineOk = true := by
  have h1 : lineOk (clenH ++ itoaL n) = true := by
    unfold lineOk
    rw [Bool.and_eq_true, decide_eq_true_eq]
    refine ⟨by simp [clenH], ?_⟩
    rw [List.all_append, Bool.and_eq_true]
    refine ⟨by decide, List.all_eq_true.2 fun c hc => ?_⟩
    have := itoa_dig n c hc
    simp only [isDig, Bool.and_eq_true, decide_eq_true_eq] at this
    unfold inLine
    simp only [Bool.and_eq_true, Bool.or_eq_true, decide_eq_true_eq]
    omega
  have h2 : lineOk firstL = true ∧ lineOk hostL = true ∧ lineOk ctL = true ∧ lineOk chunkH = true ∧ lineOk shutH = true := by decide
  unfold askLines
  cases chunked <;> cases shut <;> simp [h1, h2]
theorem text_len {n : Nat} (h : n ≤ 65535) (chunked shut : Bool) : 26 ≤ (textL (askLines n chunked shut)).length ∧ (textL (askLines n chunked shut)).length ≤ 200 := by
  have hl := itoa_len n 4 (by omega)
  have h2 : firstL.length = 24 ∧ hostL.length = 14 ∧ ctL.length = 37 ∧ chunkH.length = 26 ∧ shutH.length = 19 ∧ clenH.length = 16 := by decide
  obtain ⟨a1, a2, a3, a4, a5, a6⟩ := h2
  unfold askLines textL
  cases chunked <;> cases shut <;> simp [a1, a2, a3, a4, a5, a6] <;> omega
theorem ask_turn {b : List Nat} (hb : b.length ≤ 65535) (chunked shut : Bool) (r : List Nat) : turnL ⟨false, askL b chunked shut ++ r, none⟩ = .more ⟨b, !shut⟩ ⟨shut, r, none⟩ := by
  have hlen := text_len hb chunked shut
  have hh := headL_text (askLines b.length chunked shut) ((if chunked then encL 99 b else b) ++ r) (lines_ok _ _) (by omega)
  have e : askL b chunked shut ++ r = textL (askLines b.length chunked shut) ++ ((if chunked then encL 99 b else b) ++ r) := by unfold askL; rw [List.append_assoc]
  unfold turnL
  simp only
  rw [e, hh]
  simp only
  rw [begin_ask hb]
  simp only
  rw [List.drop_left]
  cases chunked with
  | false =>
    simp only [Bool.false_eq_true, if_false]
    unfold turnB takeB
    simp only [List.length_append]
    rw [Nat.min_eq_left (by omega), decide_eq_true (by omega)]
    simp
  | true =>
    simp only [if_true]
    obtain ⟨d, hr⟩ := run_enc 65535 99 (by omega) b.length b [] rfl (by simpa using hb)
    have hg := feedGo_run (encL 99 b) r ⟨65535, 0, 0, 0, [], 0⟩ _ 0 hr
    rw [List.nil_append, feed_whole _ (⟨65535, d, 7, 0, b, 0⟩ : CS) _ rfl, Nat.zero_add] at hg
    have hfeed : feed (new0 65535) (encL 99 b ++ r) = (((encL 99 b).length, true, 0), ⟨65535, d, 7, 0, b, 0⟩) := by
      have e0 : new0 65535 = ⟨65535, 0, 0, 0, [], 0⟩ := rfl
      unfold feed
      rw [e0, if_neg (by simp)]
      exact hg
    unfold turnB takeB
    simp only
    rw [hfeed]
    simp
/-- requests, one behind the other -/
theorem asks_W : ∀ (l : List (List Nat × Bool)) (acc : List Rq), (∀ x ∈ l, x.1.length ≤ 65535) → feedW ⟨false, (l.map fun x => askL x.1 x.2 false).flatten, none⟩ acc = ((acc ++ l.map fun x => ⟨x.1, true⟩, 0), ⟨false, [], none⟩)
  | [], acc, _ => by
    rw [feedW_eq]
    simp [turnL, headL, headGo]
  | x :: l, acc, h => by
    rw [feedW_eq]
    simp only [List.map_cons, List.flatten_cons, Bool.false_eq_true, if_false]
    rw [ask_turn (h x (by simp)) x.2 false]
    simp only
    rw [asks_W l _ fun y hy => h y (by simp [hy])]
    simp
end Go.Proofs.YtageanmjdfodnaaGreatDoor
