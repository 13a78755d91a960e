/- The fields of a head, plain: the program's way and the document's come to the same. -/
namespace Go.Cx
/-- a letter made small -/
def lowF (c : Nat) : Nat := if 65 ≤ c ∧ c ≤ 90 then c + 32 else c
def smallF (s : List Nat) : List Nat := s.map lowF
/-- what may not stand in a name that is small -/
def oddC (c : Nat) : Bool := (decide (c < 97) || decide (122 < c)) && (decide (c < 48) || decide (57 < c)) && decide (c ≠ 45)
/-- what may not stand in a name -/
def oddR (c : Nat) : Bool := (decide (c < 97) || decide (122 < c)) && (decide (c < 65) || decide (90 < c)) && (decide (c < 48) || decide (57 < c)) && decide (c ≠ 45)
def blankF (c : Nat) : Bool := decide (c = 32) || decide (c = 9)
/-- without blanks at both ends -/
def trimF (s : List Nat) : List Nat := ((s.reverse.dropWhile blankF).reverse).dropWhile blankF
/-- at the first colon -/
def cutF : List Nat → Option (List Nat × List Nat)
  | [] => none
  | c :: r => if c = 58 then some ([], r) else match cutF r with
    | none => none
    | some (a, b) => some (c :: a, b)
/-- the program's: a line's name and value -/
def fieldL (s : List Nat) : Option (List Nat × List Nat) :=
  match cutF s with
  | none => none
  | some (a, b) => if smallF a = [] ∨ (smallF a).any oddC = true then none else some (smallF a, smallF (trimF b))
/-- the document's -/
def fieldR : List Nat → List Nat → Option (List Nat × List Nat)
  | _, [] => none
  | a, c :: r => if c = 58 then (if a = [] then none else some (smallF a, smallF (trimF r))) else if oddR c then none else fieldR (a ++ [c]) r
theorem oddC_low (c : Nat) (h : c < 256) : oddC (lowF c) = oddR c := by
  unfold oddC oddR lowF
  by_cases h1 : 65 ≤ c ∧ c ≤ 90
  · rw [if_pos h1]
    have a1 : ¬ c + 32 < 97 := by omega
    have a2 : ¬ 122 < c + 32 := by omega
    have a3 : ¬ c < 65 := by omega
    have a4 : ¬ 90 < c := by omega
    simp [a1, a2, a3, a4]
  · rw [if_neg h1]
    have : (decide (c < 65) || decide (90 < c)) = true := by
      by_cases c < 65
      · simp [*]
      · have : 90 < c := by omega
        simp [this]
    rw [this]
    simp
theorem fieldR_eq : ∀ (r a : List Nat), (∀ c ∈ r, c < 256) → (smallF a).any oddC = false → fieldR a r = match cutF r with
    | none => none
    | some (x, b) => if smallF (a ++ x) = [] ∨ (smallF (a ++ x)).any oddC = true then none else some (smallF (a ++ x), smallF (trimF b))
  | [], a, _, _ => rfl
  | c :: r, a, hb, ha => by
    rw [fieldR, cutF]
    by_cases hc : c = 58
    · rw [if_pos hc, if_pos hc]
      simp only [List.append_nil]
      rw [ha]
      by_cases h : a = []
      · subst h; simp [smallF]
      · rw [if_neg h, if_neg]
        simp [smallF, h]
    · rw [if_neg hc, if_neg hc]
      have hb0 := hb c (by simp)
      cases ho : oddR c with
      | true =>
        rw [if_pos rfl]
        cases cutF r with
        | none => rfl
        | some x =>
          obtain ⟨x, b⟩ := x
          simp only
          rw [if_pos]
          right
          simp only [smallF, List.map_append, List.map_cons, List.any_append, List.any_cons, oddC_low c hb0, ho]
          simp
      | false =>
        rw [if_neg (by simp)]
        rw [fieldR_eq r (a ++ [c]) (fun d hd => hb d (by simp [hd])) (by
          simp only [smallF, List.map_append, List.any_append, List.map_cons, List.map_nil, List.any_cons, List.any_nil, oddC_low c hb0, ho]
          simpa [smallF] using ha)]
        cases cutF r with
        | none => rfl
        | some x => simp
theorem field_eq (s : List Nat) (h : ∀ c ∈ s, c < 256) : fieldR [] s = fieldL s := by
  rw [fieldR_eq s [] h rfl]
  rfl
/-- all values of a name; none: a line is none -/
def fieldsL (l : List (List Nat)) : Option (List (List Nat × List Nat)) :=
  l.foldr (fun s r => match fieldL s, r with | some f, some fs => some (f :: fs) | _, _ => none) (some [])
def valuesOf (fs : List (List Nat × List Nat)) (nm : List Nat) : List (List Nat) := (fs.filter fun f => f.1 = nm).map (·.2)
theorem fieldsL_cons (s : List Nat) (l : List (List Nat)) : fieldsL (s :: l) = match fieldL s, fieldsL l with | some f, some fs => some (f :: fs) | _, _ => none := rfl
theorem fieldsL_snoc : ∀ (l : List (List Nat)) (s : List Nat), fieldsL (l ++ [s]) = match fieldsL l, fieldL s with | some fs, some f => some (fs ++ [f]) | _, _ => none
  | [], s => by
    rw [List.nil_append, fieldsL_cons]
    show (match fieldL s, some [] with | some f, some fs => some (f :: fs) | _, _ => none) = _
    cases fieldL s <;> rfl
  | a :: l, s => by
    rw [List.cons_append, fieldsL_cons, fieldsL_snoc l s, fieldsL_cons]
    cases fieldL a with
    | none => cases fieldsL l <;> cases fieldL s <;> rfl
    | some f => cases fieldsL l <;> cases fieldL s <;> rfl
theorem fieldsL_none (l : List (List Nat)) (k : Nat) (h : fieldsL (l.take k) = none) : fieldsL l = none := by
  induction l generalizing k with
  | nil => simpa using h
  | cons a l ih =>
    cases k with
    | zero => cases h
    | succ k =>
      rw [List.take_succ_cons, fieldsL_cons] at h
      rw [fieldsL_cons]
      cases ha : fieldL a with
      | none => rfl
      | some f =>
        rw [ha] at h
        cases hl : fieldsL (l.take k) with
        | none => rw [ih k hl]
        | some fs => rw [hl] at h; cases h
theorem fieldsL_len : ∀ (l : List (List Nat)) (fs : List (List Nat × List Nat)), fieldsL l = some fs → fs.length = l.length
  | [], fs, h => by
    have h : some [] = some fs := h
    injection h with h
    subst h
    rfl
  | s :: l, fs, h => by
    rw [fieldsL_cons] at h
    cases hs : fieldL s with
    | none => rw [hs] at h; cases h
    | some f =>
      rw [hs] at h
      cases hl : fieldsL l with
      | none => rw [hl] at h; cases h
      | some gs =>
        rw [hl] at h
        simp only [Option.some.injEq] at h
        rw [← h, List.length_cons, List.length_cons, fieldsL_len l gs hl]
theorem valuesOf_len (fs : List (List Nat × List Nat)) (nm : List Nat) : (valuesOf fs nm).length ≤ fs.length := by
  unfold valuesOf
  rw [List.length_map]
  exact List.length_filter_le _ _
theorem valuesOf_snoc (fs : List (List Nat × List Nat)) (f : List Nat × List Nat) (nm : List Nat) : valuesOf (fs ++ [f]) nm = if f.1 = nm then valuesOf fs nm ++ [f.2] else valuesOf fs nm := by
  unfold valuesOf
  rw [List.filter_append, List.map_append]
  by_cases h : f.1 = nm
  · rw [if_pos h]; simp [h]
  · rw [if_neg h]; simp [h]
end Go.Cx
