/- Replies: what a reader of them answers, in plain lists. -/
import Derived.Test.YtageanmjdfodnaaGreatDoorStrs
import Derived.Lib.ItoaNum
import Derived.Lib.Atoi
namespace Go.Proofs.YtageanmjdfodnaaGreatDoor

def goodL : List Nat := [72, 84, 84, 80, 47, 49, 46, 49, 32, 50, 48, 48, 32, 79, 75, 13, 10, 67, 111, 110, 116, 101, 110, 116, 45, 84, 121, 112, 101, 58, 32, 97, 112, 112, 108, 105, 99, 97, 116, 105, 111, 110, 47, 100, 110, 115, 45, 109, 101, 115, 115, 97, 103, 101, 13, 10, 67, 111, 110, 116, 101, 110, 116, 45, 76, 101, 110, 103, 116, 104, 58, 32]
def badL : List Nat := [72, 84, 84, 80, 47, 49, 46, 49, 32, 52, 48, 48, 32, 66, 97, 100, 32, 82, 101, 113, 117, 101, 115, 116, 13, 10, 67, 111, 110, 116, 101, 110, 116, 45, 76, 101, 110, 103, 116, 104, 58, 32, 48, 13, 10, 67, 111, 110, 110, 101, 99, 116, 105, 111, 110, 58, 32, 99, 108, 111, 115, 101, 13, 10, 13, 10]
def endL : List Nat := [13, 10, 13, 10]
def closeL : List Nat := [13, 10, 67, 111, 110, 110, 101, 99, 116, 105, 111, 110, 58, 32, 99, 108, 111, 115, 101, 13, 10, 13, 10]

def isDig (b : Nat) : Bool := decide (48 ≤ b) && decide (b ≤ 57)
def afterL (s want : List Nat) : List Nat × Nat := if want <+: s then (s.drop want.length, 0) else if s <+: want then ([], 20) else ([], 130)
def valFrom : Nat → List Nat → Nat
  | a, [] => a
  | a, b :: l => valFrom (a * 10 + (b - 48)) l
def sizeL (l : List Nat) : Option Nat := if 1 ≤ l.length ∧ l.length ≤ 5 ∧ l.all isDig = true ∧ valFrom 0 l ≤ 65535 then some (valFrom 0 l) else none
def itoaL (n : Nat) : List Nat := (Lib.decDigits n).map UInt8.toNat
abbrev Reply := Nat × List Nat × List Nat × Nat
/-- one of the two ends is tried -/
def tryEnd (t want : List Nat) (n found : Nat) (k : Nat → Reply) : Reply :=
  match afterL t want with
  | (r, 0) => if n ≤ r.length then (200, r.take n, r.drop n, 0) else (0, [], [], 20)
  | (_, e) => k (if e = 20 then 20 else found)
def sizedL (s : List Nat) : Reply :=
  if s = [] then (0, [], [], 20) else
  match sizeL ((s.takeWhile isDig).take 6) with
  | none => (0, [], [], 130)
  | some n => if itoaL n ≠ s.takeWhile isDig then (0, [], [], 130) else
    tryEnd (s.drop (s.takeWhile isDig).length) endL n 130 fun f => tryEnd (s.drop (s.takeWhile isDig).length) closeL n f fun f => (0, [], [], f)
def parseL (s : List Nat) : Reply :=
  match afterL s badL with
  | (rest, 0) => (400, [], rest, 0)
  | (_, e) => match afterL s goodL with
    | (rest, 0) => sizedL rest
    | (_, x) => (0, [], [], if e = 20 then e else x)

theorem itoa_small {n : Nat} (h : n < 10) : itoaL n = [n + 48] := by
  unfold itoaL
  rw [Lib.decDigits_one h]
  simp
  omega
theorem itoa_big {n : Nat} (h : ¬ n < 10) : itoaL n = itoaL (n / 10) ++ [n % 10 + 48] := by
  unfold itoaL
  rw [Lib.decDigits, dif_neg h, List.map_append]
  simp
  omega
theorem itoa_dig (n : Nat) : ∀ b ∈ itoaL n, isDig b = true := by
  induction n using Nat.strongRecOn with
  | _ n ih =>
    by_cases h : n < 10
    · rw [itoa_small h]
      simp [isDig]
      omega
    · rw [itoa_big h]
      intro b hb
      rcases List.mem_append.1 hb with hb | hb
      · exact ih (n / 10) (by omega) b hb
      · simp at hb
        subst hb
        simp [isDig]
        omega
theorem itoa_len (n k : Nat) (h : n < 10 ^ (k + 1)) : 1 ≤ (itoaL n).length ∧ (itoaL n).length ≤ k + 1 := by
  induction k generalizing n with
  | zero => rw [itoa_small (by omega)]; simp
  | succ k ih =>
    by_cases h10 : n < 10
    · rw [itoa_small h10]; simp
    · rw [itoa_big h10, List.length_append]
      have := ih (n / 10) (by rw [Nat.pow_succ] at h; omega)
      simp
      omega
theorem valFrom_append (l : List Nat) (b a : Nat) : valFrom a (l ++ [b]) = valFrom a l * 10 + (b - 48) := by
  induction l generalizing a with
  | nil => rfl
  | cons c l ih => exact ih _
theorem itoa_val (n : Nat) : valFrom 0 (itoaL n) = n := by
  induction n using Nat.strongRecOn with
  | _ n ih =>
    by_cases h : n < 10
    · have h1 : valFrom 0 [n + 48] = 0 * 10 + (n + 48 - 48) := rfl
      rw [itoa_small h, h1, Nat.zero_mul, Nat.zero_add, Nat.add_sub_cancel]
    · rw [itoa_big h, valFrom_append, ih (n / 10) (by omega)]
      omega
/-- a number's first digits are a number's digits -/
theorem itoa_take (n : Nat) : ∀ j, 1 ≤ j → j ≤ (itoaL n).length → ∃ m, m ≤ n ∧ (itoaL n).take j = itoaL m := by
  induction n using Nat.strongRecOn with
  | _ n ih =>
    intro j h1 h2
    by_cases h : n < 10
    · refine ⟨n, Nat.le_refl _, List.take_of_length_le ?_⟩
      rw [itoa_small h]
      exact h1
    · rw [itoa_big h] at h2 ⊢
      rw [List.length_append] at h2
      by_cases hj : j ≤ (itoaL (n / 10)).length
      · obtain ⟨m, hm, he⟩ := ih (n / 10) (by omega) j h1 hj
        refine ⟨m, by omega, ?_⟩
        rw [List.take_append_of_le_length hj, he]
      · refine ⟨n, Nat.le_refl _, ?_⟩
        rw [itoa_big h, List.take_of_length_le]
        rw [List.length_append]
        simp at h2 ⊢
        omega
theorem sizeL_itoa {n : Nat} (h : n ≤ 65535) : sizeL ((itoaL n).take 6) = some n := by
  have hl := itoa_len n 4 (by omega)
  rw [List.take_of_length_le (by omega)]
  unfold sizeL
  rw [itoa_val, if_pos ⟨hl.1, hl.2, List.all_eq_true.2 (itoa_dig n), h⟩]
theorem takeWhile_itoa (n : Nat) {t : List Nat} (ht : t.head?.all (fun b => !isDig b) = true) : (itoaL n ++ t).takeWhile isDig = itoaL n := by
  rw [List.takeWhile_append_of_pos (itoa_dig n)]
  cases t with
  | nil => simp
  | cons b t =>
    simp at ht
    rw [List.takeWhile_cons_of_neg (by simp [ht]), List.append_nil]
theorem itoa_ne (n : Nat) : itoaL n ≠ [] := by
  intro h
  by_cases h10 : n < 10
  · rw [itoa_small h10] at h; cases h
  · rw [itoa_big h10] at h; simp at h
/-- behind the digits -/
theorem sizedL_of {n : Nat} (h : n ≤ 65535) {t : List Nat} (ht : t.head?.all (fun b => !isDig b) = true) :
    sizedL (itoaL n ++ t) = tryEnd t endL n 130 fun f => tryEnd t closeL n f fun f => (0, [], [], f) := by
  unfold sizedL
  rw [if_neg (by simp [itoa_ne]), takeWhile_itoa n ht, sizeL_itoa h]
  simp

theorem after_here (a b : List Nat) : afterL (a ++ b) a = (b, 0) := by
  unfold afterL
  rw [if_pos (List.prefix_append a b), List.drop_left]
/-- a proper beginning -/
theorem after_short {s want : List Nat} (h : s <+: want) (hl : s.length < want.length) : afterL s want = ([], 20) := by
  unfold afterL
  rw [if_neg (fun h' => by have := h'.length_le; omega), if_pos h]
/-- what differs within the first bytes of both -/
theorem after_other {s want : List Nat} (k : Nat) (h : s.take k ≠ want.take k) (hs : k ≤ s.length) (hw : k ≤ want.length) : afterL s want = ([], 130) := by
  unfold afterL
  rw [if_neg, if_neg]
  · rintro ⟨r, rfl⟩
    exact h (by rw [List.take_append_of_le_length hs])
  · rintro ⟨r, rfl⟩
    exact h (by rw [List.take_append_of_le_length hw])
theorem after_not {s want : List Nat} (h : ¬ want <+: s) : afterL s want = ([], 20) ∨ afterL s want = ([], 130) := by
  unfold afterL
  rw [if_neg h]
  split
  · exact .inl rfl
  · exact .inr rfl

def behindL (keep : Bool) : List Nat := if keep then endL else closeL
def replyL (body : List Nat) (keep : Bool) : List Nat := goodL ++ itoaL body.length ++ behindL keep ++ body

theorem parse_good (t : List Nat) : parseL (goodL ++ t) = sizedL t := by
  unfold parseL
  rw [after_other 10 (by rw [List.take_append_of_le_length (by decide +kernel)]; decide +kernel) (by rw [List.length_append]; exact Nat.le_trans (show 10 ≤ goodL.length by decide +kernel) (by omega)) (by decide +kernel), after_here]
  rfl

/-- P13.2: it is parsed as it was written -/
theorem parse_reply (body rest : List Nat) (keep : Bool) (h : body.length ≤ 65535) : parseL (replyL body keep ++ rest) = (200, body, rest, 0) := by
  unfold replyL
  rw [List.append_assoc, List.append_assoc, List.append_assoc, parse_good]
  have fin : ∀ want found k, tryEnd (want ++ (body ++ rest)) want body.length found k = (200, body, rest, 0) := by
    intro want found k
    unfold tryEnd
    rw [after_here]
    simp
  cases keep with
  | true =>
    rw [show behindL true = endL from rfl, sizedL_of h rfl, fin]
  | false =>
    rw [show behindL false = closeL from rfl, sizedL_of h rfl]
    have : afterL (closeL ++ (body ++ rest)) endL = ([], 130) := after_other 4 (by rw [List.take_append_of_le_length (by decide +kernel)]; decide +kernel) (by rw [List.length_append]; exact Nat.le_trans (show 4 ≤ closeL.length by decide +kernel) (by omega)) (by decide +kernel)
    rw [tryEnd, this]
    simp only
    exact fin _ _ _

theorem tryEnd_short {q body : List Nat} {want : List Nat} (found : Nat) (k : Nat → Reply) (hq : q <+: want ++ body) (hl : q.length < (want ++ body).length) (hk : k 20 = (0, [], [], 20)) :
    tryEnd q want body.length found k = (0, [], [], 20) := by
  unfold tryEnd
  by_cases h : want.length ≤ q.length
  · have hw : want <+: q := List.prefix_of_prefix_length_le (List.prefix_append want body) hq h
    obtain ⟨r, rfl⟩ := hw
    rw [after_here]
    simp only
    rw [List.length_append, List.length_append] at hl
    rw [if_neg (by omega)]
  · have hw : q <+: want := List.prefix_of_prefix_length_le hq (List.prefix_append want body) (by omega)
    rw [after_short hw (by omega)]
    simp only
    exact hk
theorem tryEnd_not {q want : List Nat} (n found : Nat) (k : Nat → Reply) (h : ¬ want <+: q) : ∃ f, (f = 20 ∨ f = found) ∧ tryEnd q want n found k = k f := by
  unfold tryEnd
  rcases after_not h with h | h
  · rw [h]; exact ⟨20, .inl rfl, rfl⟩
  · rw [h]; exact ⟨found, .inr rfl, rfl⟩

theorem sized_short {body q : List Nat} {keep : Bool} (h : body.length ≤ 65535) (hq : q <+: itoaL body.length ++ behindL keep ++ body) (hl : q.length < (itoaL body.length ++ behindL keep ++ body).length) : sizedL q = (0, [], [], 20) := by
  by_cases h0 : q = []
  · rw [h0]; rfl
  have hpos := List.length_pos_iff.2 h0
  rw [List.append_assoc] at hq hl
  by_cases hd : q.length ≤ (itoaL body.length).length
  · have hw : q <+: itoaL body.length := List.prefix_of_prefix_length_le hq (List.prefix_append _ _) hd
    obtain ⟨m, hm, he⟩ := itoa_take body.length q.length hpos hd
    rw [← List.prefix_iff_eq_take.1 hw] at he
    rw [he]
    have := sizedL_of (n := m) (t := []) (by omega) rfl
    rw [List.append_nil] at this
    rw [this]
    rfl
  · have hw : itoaL body.length <+: q := List.prefix_of_prefix_length_le (List.prefix_append _ _) hq (by omega)
    obtain ⟨r, rfl⟩ := hw
    have hr : r <+: behindL keep ++ body := (List.prefix_append_right_inj _).1 hq
    have hrl : r.length < (behindL keep ++ body).length := by
      have e1 : (itoaL body.length ++ r).length = (itoaL body.length).length + r.length := List.length_append
      have e2 : (itoaL body.length ++ (behindL keep ++ body)).length = (itoaL body.length).length + (behindL keep ++ body).length := List.length_append
      omega
    have hr0 : r ≠ [] := by
      rintro rfl
      simp at hd
    have hhead : r.head?.all (fun b => !isDig b) = true := by
      obtain ⟨u, hu⟩ := hr
      cases r with
      | nil => rfl
      | cons b r =>
        have hb : b = 13 := by
          have h1 : (behindL keep ++ body).head? = some 13 := by cases keep <;> rfl
          rw [← hu] at h1
          simpa using h1
        rw [hb]
        rfl
    rw [sizedL_of h hhead]
    cases keep with
    | true =>
      refine tryEnd_short _ _ hr hrl ?_
      have hno : ¬ closeL <+: r := by
        rintro ⟨u, rfl⟩
        obtain ⟨v, hv⟩ := hr
        have h4 := congrArg (List.take 4) hv
        rw [List.append_assoc, List.take_append_of_le_length (by decide +kernel), List.take_append_of_le_length (by decide +kernel)] at h4
        revert h4
        decide +kernel
      obtain ⟨f, hf, he⟩ := tryEnd_not (q := r) (want := closeL) body.length 20 (fun f => (0, [], [], f)) hno
      rw [he]
      rcases hf with rfl | rfl <;> rfl
    | false =>
      have hno : ¬ endL <+: r := by
        rintro ⟨u, rfl⟩
        obtain ⟨v, hv⟩ := hr
        have h4 := congrArg (List.take 4) hv
        rw [List.append_assoc, List.take_append_of_le_length (by decide +kernel), List.take_append_of_le_length (by decide +kernel)] at h4
        revert h4
        decide +kernel
      obtain ⟨f, hf, he⟩ := tryEnd_not (q := r) (want := endL) body.length 130 (fun f => tryEnd r closeL body.length f fun f => (0, [], [], f)) hno
      rw [he]
      exact tryEnd_short _ _ hr hrl rfl

/-- P13.5: each beginning is too short -/
theorem parse_short (body : List Nat) (keep : Bool) (h : body.length ≤ 65535) (k : Nat) (hk : k < (replyL body keep).length) : parseL ((replyL body keep).take k) = (0, [], [], 20) := by
  obtain ⟨p, hp⟩ : ∃ p, (replyL body keep).take k = p := ⟨_, rfl⟩
  have hpre : p <+: replyL body keep := hp ▸ List.take_prefix _ _
  have hpl : p.length = k := by rw [← hp, List.length_take]; omega
  rw [hp]
  unfold replyL at hpre hk
  rw [List.append_assoc, List.append_assoc] at hpre hk
  by_cases hg : p.length < goodL.length
  · have hw : p <+: goodL := List.prefix_of_prefix_length_le hpre (List.prefix_append _ _) (by omega)
    have hno : ¬ badL <+: p := fun hb => absurd (hb.trans hw) (by decide +kernel)
    unfold parseL
    rw [after_short hw hg]
    rcases after_not hno with h | h <;> rw [h] <;> rfl
  · have hw : goodL <+: p := List.prefix_of_prefix_length_le (List.prefix_append _ _) hpre (by omega)
    obtain ⟨q, rfl⟩ := hw
    rw [parse_good]
    refine sized_short (keep := keep) h ?_ ?_
    · rw [List.append_assoc]; exact (List.prefix_append_right_inj _).1 hpre
    · rw [List.append_assoc]
      rw [List.length_append] at hpl
      rw [List.length_append] at hk
      omega
end Go.Proofs.YtageanmjdfodnaaGreatDoor
