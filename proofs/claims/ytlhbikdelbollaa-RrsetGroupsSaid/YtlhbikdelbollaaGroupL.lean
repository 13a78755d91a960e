/- Sets of records, in plain lists. -/
import Derived.Test.YtlhbikdelbollaaBy
namespace Go.Proofs.Ytlhbikdelbollaa

/-- data put in order -/
def insL (d : List Nat) : List (List Nat) → List (List Nat)
  | [] => [d]
  | x :: t => if cmpN d x < 0 then d :: x :: t else if cmpN d x = 0 then x :: t else x :: insL d t
def orderL (l : List (List Nat)) : List (List Nat) := l.foldl (fun a d => insL d a) []
theorem insL_mem (d : List Nat) (l : List (List Nat)) (y : List Nat) : y ∈ insL d l ↔ y = d ∨ y ∈ l := by
  induction l with
  | nil => simp [insL]
  | cons x t ih =>
    rw [insL]
    by_cases h1 : cmpN d x < 0
    · rw [if_pos h1]; simp
    · rw [if_neg h1]
      by_cases h2 : cmpN d x = 0
      · rw [if_pos h2, cmpN_eq h2]; simp
      · rw [if_neg h2, List.mem_cons, ih, List.mem_cons]
        constructor
        · rintro (h | h | h)
          · exact .inr (.inl h)
          · exact .inl h
          · exact .inr (.inr h)
        · rintro (h | h | h)
          · exact .inr (.inl h)
          · exact .inl h
          · exact .inr (.inr h)
theorem insL_sorted (d : List Nat) (l : List (List Nat)) (h : l.Pairwise fun x y => cmpN x y < 0) : (insL d l).Pairwise fun x y => cmpN x y < 0 := by
  induction l with
  | nil => simp [insL]
  | cons x t ih =>
    obtain ⟨h1, h2⟩ := List.pairwise_cons.1 h
    rw [insL]
    by_cases c1 : cmpN d x < 0
    · rw [if_pos c1]
      refine List.pairwise_cons.2 ⟨fun y hy => ?_, h⟩
      rcases List.mem_cons.1 hy with rfl | hy
      · exact c1
      · exact cmpN_trans c1 (h1 y hy)
    · rw [if_neg c1]
      by_cases c2 : cmpN d x = 0
      · rw [if_pos c2]; exact h
      · rw [if_neg c2]
        refine List.pairwise_cons.2 ⟨fun y hy => ?_, ih h2⟩
        rcases (insL_mem d t y).1 hy with rfl | hy
        · have := cmpN_swap x y
          rcases cmpN_range y x with c3 | c3 | c3 <;> omega
        · exact h1 y hy
theorem orderL_ordered (l : List (List Nat)) : Ordered (orderL l) l := by
  have h : ∀ (l a : List (List Nat)), (a.Pairwise fun x y => cmpN x y < 0) → (l.foldl (fun a d => insL d a) a).Pairwise (fun x y => cmpN x y < 0) ∧ ∀ y, y ∈ l.foldl (fun a d => insL d a) a ↔ y ∈ a ∨ y ∈ l := by
    intro l
    induction l with
    | nil => intro a ha; exact ⟨ha, by simp⟩
    | cons d l ih =>
      intro a ha
      obtain ⟨i1, i2⟩ := ih (insL d a) (insL_sorted d a ha)
      refine ⟨i1, fun y => ?_⟩
      rw [List.foldl_cons, i2, insL_mem, List.mem_cons]
      constructor
      · rintro ((h | h) | h)
        · exact .inr (.inl h)
        · exact .inl h
        · exact .inr (.inr h)
      · rintro (h | h | h)
        · exact .inl (.inr h)
        · exact .inl (.inl h)
        · exact .inr h
  obtain ⟨h1, h2⟩ := h l [] List.Pairwise.nil
  exact ⟨h1, fun d => by rw [orderL, h2]; simp⟩
/-- there is one such list -/
theorem sorted_unique : ∀ (a b : List (List Nat)), (a.Pairwise fun x y => cmpN x y < 0) → (b.Pairwise fun x y => cmpN x y < 0) → (∀ d, d ∈ a ↔ d ∈ b) → a = b
  | [], [], _, _, _ => rfl
  | [], y :: b, _, _, h => absurd ((h y).2 (by simp)) (by simp)
  | x :: a, [], _, _, h => absurd ((h x).1 (by simp)) (by simp)
  | x :: a, y :: b, ha, hb, h => by
    obtain ⟨a1, a2⟩ := List.pairwise_cons.1 ha
    obtain ⟨b1, b2⟩ := List.pairwise_cons.1 hb
    have hxy : x = y := by
      rcases List.mem_cons.1 ((h x).1 (by simp)) with e | e
      · exact e
      · rcases List.mem_cons.1 ((h y).2 (by simp)) with e' | e'
        · exact e'.symm
        · have c1 := b1 x e
          have c2 := a1 y e'
          have := cmpN_swap x y
          omega
    subst hxy
    have : a = b := sorted_unique a b a2 b2 fun d => by
      constructor
      · intro hd
        rcases List.mem_cons.1 ((h d).1 (List.mem_cons_of_mem _ hd)) with e | e
        · subst e
          have := a1 d hd
          rw [cmpN_self] at this
          omega
        · exact e
      · intro hd
        rcases List.mem_cons.1 ((h d).2 (List.mem_cons_of_mem _ hd)) with e | e
        · subst e
          have := b1 d hd
          rw [cmpN_self] at this
          omega
        · exact e
    rw [this]
theorem ordered_eq {a l : List (List Nat)} (h : Ordered a l) : a = orderL l :=
  sorted_unique a (orderL l) h.1 (orderL_ordered l).1 fun d => by rw [h.2, (orderL_ordered l).2]

theorem insL_len (d : List Nat) (l : List (List Nat)) : (insL d l).length ≤ l.length + 1 := by
  induction l with
  | nil => simp [insL]
  | cons x t ih =>
    rw [insL]
    split
    · simp
    · split
      · simp
      · simp only [List.length_cons]; omega
theorem orderL_len (l : List (List Nat)) : (orderL l).length ≤ l.length := by
  have h : ∀ (l a : List (List Nat)), (l.foldl (fun a d => insL d a) a).length ≤ a.length + l.length := by
    intro l
    induction l with
    | nil => intro a; simp
    | cons d l ih =>
      intro a
      have h1 := ih (insL d a)
      have h2 := insL_len d a
      simp only [List.foldl_cons, List.length_cons]
      omega
  have := h l []
  rw [List.length_nil, Nat.zero_add] at this
  exact this
def minLife (first : Int) (g : List RRC) : Int := g.foldl (fun a r => min a (lifeL r.ttl)) first
/-- the set of records of one key -/
def setOf (rank now : Int) : List RRC → SetC
  | [] => ⟨[], 0, 0, rank, 0, timeL now, [], []⟩
  | r :: t => ⟨r.name, r.type, r.cls, rank, 0, timeL now + minLife (lifeL r.ttl) (r :: t), [], orderL ((r :: t).map RRC.data)⟩
def setsOf (rank now : Int) (gs : List Grp) : List SetC := (gs.map fun g => setOf rank now (g.2.map RRV.said)).filter canSet
theorem byL_ne (rs : List RRV) : ∀ g ∈ byL rs, g.2 ≠ [] := by
  have h : ∀ (rs : List RRV) (gs : List Grp), (∀ g ∈ gs, g.2 ≠ []) → ∀ g ∈ rs.foldl byAdd gs, g.2 ≠ [] := by
    intro rs
    induction rs with
    | nil => intro gs h; simpa using h
    | cons r rs ih =>
      intro gs h g hg
      refine ih (byAdd gs r) (fun g hg => ?_) g hg
      unfold byAdd at hg
      split at hg
      · split at hg
        · rw [List.mem_iff_getElem?] at hg
          obtain ⟨j, hj⟩ := hg
          rw [List.getElem?_modify] at hj
          cases hx : gs[j]? with
          | none => rw [hx] at hj; simp at hj
          | some x =>
            rw [hx] at hj
            have hxm := h x (List.mem_of_getElem? hx)
            simp only [Option.map_eq_map, Option.map_some, Option.some.injEq] at hj
            split at hj
            · subst hj; simp
            · subst hj; exact hxm
        · rcases List.mem_append.1 hg with hg | hg
          · exact h g hg
          · simp only [List.mem_singleton] at hg
            subst hg
            simp
      · exact h g hg
  exact h rs [] (by simp)
/-- a record of a group came in, and plays a part -/
theorem byL_sub (rs : List RRV) : ∀ g ∈ byL rs, ∀ r ∈ g.2, r ∈ rs ∧ mayL r.said = true := by
  have h : ∀ (rs : List RRV) (gs : List Grp) (P : RRV → Prop), (∀ g ∈ gs, ∀ r ∈ g.2, P r) → (∀ r ∈ rs, mayL r.said = true → P r) → ∀ g ∈ rs.foldl byAdd gs, ∀ r ∈ g.2, P r := by
    intro rs
    induction rs with
    | nil => intro gs P h _; simpa using h
    | cons r rs ih =>
      intro gs P h hP g hg
      refine ih (byAdd gs r) P (fun g hg => ?_) (fun x hx => hP x (by simp [hx])) g hg
      unfold byAdd at hg
      split at hg
      · rename_i hmay
        have hr := hP r (by simp) hmay
        split at hg
        · rw [List.mem_iff_getElem?] at hg
          obtain ⟨j, hj⟩ := hg
          rw [List.getElem?_modify] at hj
          cases hx : gs[j]? with
          | none => rw [hx] at hj; simp at hj
          | some x =>
            rw [hx] at hj
            have hxm := h x (List.mem_of_getElem? hx)
            simp only [Option.map_eq_map, Option.map_some, Option.some.injEq] at hj
            split at hj
            · subst hj
              intro y hy
              rcases List.mem_append.1 hy with hy | hy
              · exact hxm y hy
              · simp only [List.mem_singleton] at hy
                subst hy
                exact hr
            · subst hj; exact hxm
        · rcases List.mem_append.1 hg with hg | hg
          · exact h g hg
          · simp only [List.mem_singleton] at hg
            subst hg
            intro y hy
            simp only [List.mem_singleton] at hy
            subst hy
            exact hr
      · exact h g hg
  exact h rs [] (fun r => r ∈ rs ∧ mayL r.said = true) (by simp) fun r hr hm => ⟨hr, hm⟩
end Go.Proofs.Ytlhbikdelbollaa
