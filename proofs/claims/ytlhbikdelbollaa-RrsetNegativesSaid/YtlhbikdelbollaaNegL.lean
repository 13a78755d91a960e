/- Names and sets, plain: the document's way to tell them comes to the same. -/
import Derived.Test.YtlhbikdelbollaaEntryD
import Derived.Test.YtlhbikdelbollaaRrsetA
namespace Go.Proofs.Ytlhbikdelbollaa

/-- midway in a name: so many bytes were met -/
def CanTo (l : List Nat) (a : Nat) : Prop := (a < l.length ∧ restL (l.drop a) = restL l) ∨ (l.length ≤ a ∧ restL l ≠ [0])
theorem CanTo.start (l : List Nat) : CanTo l 0 := by
  cases l with
  | nil => exact .inr ⟨Nat.le_refl _, by rw [restL_none rfl]; simp⟩
  | cons k t => exact .inl ⟨by simp, rfl⟩
theorem drop_at {l : List Nat} {a k : Nat} (h : l[a]? = some k) : l.drop a = k :: l.drop (a + 1) := by
  have ha := (List.getElem?_eq_some_iff.1 h).1
  rw [List.drop_eq_getElem_cons ha]
  congr 1
  rw [List.getElem?_eq_getElem ha] at h
  injection h
theorem CanTo.rest {l : List Nat} {a : Nat} (h : CanTo l a) (ha : a < l.length) : restL (l.drop a) = restL l := by
  rcases h with h | h
  · exact h.2
  · omega
theorem CanTo.zero {l : List Nat} {a : Nat} (h : CanTo l a) (hk : l[a]? = some 0) : restL l = [0] ↔ a + 1 = l.length := by
  have ha := (List.getElem?_eq_some_iff.1 hk).1
  have h1 := h.rest ha
  rw [drop_at hk] at h1
  rw [restL_none (by rw [nextL, if_pos (.inl rfl)])] at h1
  rw [← h1]
  constructor
  · intro h2
    simp only [List.cons.injEq, true_and] at h2
    have := List.drop_eq_nil_iff.1 h2
    omega
  · intro h2
    rw [List.drop_of_length_le (by omega)]
theorem CanTo.big {l : List Nat} {a k : Nat} (h : CanTo l a) (hk : l[a]? = some k) (h63 : 63 < k) : restL l ≠ [0] := by
  have ha := (List.getElem?_eq_some_iff.1 hk).1
  have h1 := h.rest ha
  rw [drop_at hk, restL_none (by rw [nextL, if_pos (.inr (.inl h63))])] at h1
  rw [← h1]
  simp
  omega
theorem CanTo.on {l : List Nat} {a k : Nat} (h : CanTo l a) (hk : l[a]? = some k) (h0 : k ≠ 0) (h63 : k ≤ 63) : CanTo l (a + (1 + k)) := by
  have ha := (List.getElem?_eq_some_iff.1 hk).1
  have h1 := h.rest ha
  have hl : (l.drop (a + 1)).length = l.length - (a + 1) := List.length_drop
  by_cases hs : (l.drop (a + 1)).length < 1 + k
  · right
    rw [drop_at hk, restL_none (by rw [nextL, if_pos (.inr (.inr hs))])] at h1
    refine ⟨by omega, ?_⟩
    rw [← h1]
    simp
    omega
  · left
    refine ⟨by omega, ?_⟩
    rw [← h1, drop_at hk, restL_some (n := k :: l.drop (a + 1)) (k := 1 + k) (by rw [nextL, if_neg (by omega)])]
    rw [← drop_at hk, List.drop_drop]
theorem CanTo.end {l : List Nat} {a : Nat} (h : CanTo l a) (ha : l.length ≤ a) : restL l ≠ [0] := by
  rcases h with h | h
  · omega
  · exact h.2
theorem canL_not {l : List Nat} (h : restL l ≠ [0]) : canL l = false := by unfold canL; rw [decide_eq_false h]; rfl
theorem canL_long {l : List Nat} (h : 255 < l.length) : canL l = false := by unfold canL; rw [decide_eq_false (show ¬ l.length ≤ 255 by omega)]; simp
theorem CanTo.fin {l : List Nat} {a : Nat} (h : CanTo l a) (hk : l[a]? = some 0) (hl : l.length ≤ 255) : canL l = decide (a + 1 = l.length) := by
  unfold canL
  rw [decide_eq_true hl, Bool.and_true, decide_eq_decide]
  exact h.zero hk

/-- a name at the beginning of bytes ends where the labels end -/
theorem can_at : ∀ (m : Nat) (n b : List Nat), n.length = m → n <+: b → restL n = [0] → atL b + 1 = n.length := by
  intro m
  induction m using Nat.strongRecOn with
  | _ m ih =>
    intro n b hm hp hr
    cases hn : nextL n with
    | none =>
      rw [restL_none hn] at hr
      subst hr
      obtain ⟨t, rfl⟩ := hp
      show atL (0 :: t) + 1 = _
      rw [atL_zero]
      rfl
    | some k =>
      rw [restL_some hn] at hr
      have hpos := nextL_pos hn
      obtain ⟨t, rfl⟩ := hp
      cases n with
      | nil => cases hn
      | cons c n =>
        have hc : ¬ (c = 0 ∨ 63 < c ∨ n.length < 1 + c) := by
          intro h
          rw [nextL, if_pos h] at hn
          cases hn
        rw [nextL, if_neg hc] at hn
        injection hn with hn
        subst hn
        have h1 := ih ((c :: n).drop (1 + c)).length (by rw [List.length_drop, ← hm]; omega) ((c :: n).drop (1 + c)) (((c :: n) ++ t).drop (1 + c)) rfl (by
          rw [List.drop_append_of_le_length (by omega)]
          exact List.prefix_append _ _) hr
        rw [List.length_drop] at h1
        rw [List.cons_append, atL_cons _ (by omega)]
        rw [List.cons_append, Nat.add_comm 1 c, List.drop_succ_cons] at h1
        omega
theorem canL_rest {n : List Nat} (h : canL n = true) : restL n = [0] ∧ n.length ≤ 255 := by
  unfold canL at h
  simp only [Bool.and_eq_true, decide_eq_true_eq] at h
  exact h
theorem cutL_some {b : List Nat} {k : Nat} (hk : k ≤ b.length) (h : canL (b.take k) = true) : cutL b = some (b.take k, b.drop k) := by
  obtain ⟨h1, _⟩ := canL_rest h
  have h2 := can_at _ _ b rfl (List.take_prefix k b) h1
  rw [List.length_take, Nat.min_eq_left hk] at h2
  unfold cutL
  rw [h2, if_pos ⟨by omega, h⟩]
theorem cutL_none {b : List Nat} (h : ∀ k, 1 ≤ k → k ≤ b.length → k ≤ 255 → canL (b.take k) = false) : cutL b = none := by
  unfold cutL
  rw [if_neg]
  rintro ⟨h1, h2⟩
  have h3 := (canL_rest h2).2
  rw [List.length_take, Nat.min_eq_left (by omega)] at h3
  rw [h _ (by omega) (by omega) h3] at h2
  cases h2
theorem writeL_len (s : SetC) : (writeL s).length = 19 + s.name.length + s.zone.length + sumL s.datas := by
  unfold writeL
  simp only [List.length_append, numL_len, datasL_len, List.length_cons, List.length_nil]
  omega
/-- what a set that says that there is nothing wants -/
theorem canSet_neg8 (s : SetC) (d : List Nat) (hd : s.datas = [d]) (hk : keyL s.name s.type s.cls = true) (hr : 1 ≤ s.rank ∧ s.rank ≤ 3 ∧ 0 ≤ s.exp ∧ s.exp ≤ 1099511627776) (h : s.kind = 1 ∨ s.kind = 2)
    (ha : rdataL 6 d = true) (hz : canL s.zone = true) (ht : decide (s.type = 0) = decide (s.kind = 2)) : canSet s = decide ((writeL s).length ≤ 4000) := by
  by_cases hw : (writeL s).length ≤ 4000
  · have hs : sumL s.datas ≤ 4000 := by have := writeL_len s; omega
    exact canSet_neg s hk hr (by rw [hd]; simp) hs (by omega) h (by rw [hd]; simp [ha]) hz (by rw [hd]; rfl) ht
  · rw [decide_eq_false hw]
    unfold canSet
    rw [if_neg (show ¬ s.kind = 0 by omega), if_neg (show ¬ s.kind = 0 by omega), if_pos h, decide_eq_false hw]
    simp
theorem canSet_key (s : SetC) (h : keyL s.name s.type s.cls = false) : canSet s = false := by unfold canSet; rw [h]; simp
theorem canSet_true {s : SetC} (h : canSet s = true) : keyL s.name s.type s.cls = true ∧ 1 ≤ s.rank ∧ s.rank ≤ 3 ∧ 0 ≤ s.exp ∧ s.exp ≤ 1099511627776 ∧ sumL s.datas ≤ 4000 ∧ (s.kind ≠ 0 → (s.kind = 1 ∨ s.kind = 2) ∧ canL s.zone = true ∧ s.datas.length = 1 ∧ decide (s.type = 0) = decide (s.kind = 2) ∧ s.datas.all (fun d => rdataL 6 d) = true) := by
  unfold canSet at h
  simp only [Bool.and_eq_true, decide_eq_true_eq] at h
  obtain ⟨⟨⟨⟨⟨⟨⟨⟨h1, h2⟩, h3⟩, h4⟩, h5⟩, h6⟩, h7⟩, h8⟩, h9⟩ := h
  refine ⟨h1, h2, h3, h4, h5, h7, fun hk => ?_⟩
  rw [if_neg hk] at h9 h8
  split at h9
  · rename_i hk2
    simp only [Bool.and_eq_true, decide_eq_true_eq, beq_iff_eq] at h9
    exact ⟨hk2, h9.1.1.1, h9.1.1.2, h9.1.2, h8⟩
  · cases h9
/-- the set that says that there is nothing -/
def negS (qn : List Nat) (qt qc kind : Int) (sn : List Nat) (sttl : Int) (sd : List Nat) (least now : Int) : SetC := ⟨qn, if kind = 2 then 0 else qt, qc, 3, kind, timeL now + min (lifeL sttl) (lifeL least), sn, [sd]⟩
def negL (qn : List Nat) (qt qc kind : Int) (sn : List Nat) (st sttl : Int) (sd : List Nat) (now : Int) : Option SetC :=
  if kind ≠ 1 ∧ kind ≠ 2 ∨ qt < 1 ∨ 65536 ≤ qt ∨ st ≠ 6 then none else
  match soaL sd with
  | none => none
  | some x => if canSet (negS qn qt qc kind sn sttl sd (x.five.getD 4 0 : Nat) now) = true then some (negS qn qt qc kind sn sttl sd (x.five.getD 4 0 : Nat) now) else none
theorem negL_bad {qn : List Nat} {qt qc kind : Int} {sn : List Nat} {st sttl : Int} {sd : List Nat} {now : Int} (h : kind ≠ 1 ∧ kind ≠ 2 ∨ qt < 1 ∨ 65536 ≤ qt ∨ st ≠ 6) : negL qn qt qc kind sn st sttl sd now = none := by unfold negL; rw [if_pos h]
theorem negL_soa {qn : List Nat} {qt qc kind : Int} {sn : List Nat} {st sttl : Int} {sd : List Nat} {now : Int} (h : soaL sd = none) : negL qn qt qc kind sn st sttl sd now = none := by
  unfold negL
  split
  · rfl
  · rw [h]
theorem negL_can {qn : List Nat} {qt qc kind : Int} {sn : List Nat} {st sttl : Int} {sd : List Nat} {now : Int} {x : SoaL} (h : ¬ (kind ≠ 1 ∧ kind ≠ 2 ∨ qt < 1 ∨ 65536 ≤ qt ∨ st ≠ 6)) (hs : soaL sd = some x) :
    negL qn qt qc kind sn st sttl sd now = if canSet (negS qn qt qc kind sn sttl sd (x.five.getD 4 0 : Nat) now) = true then some (negS qn qt qc kind sn sttl sd (x.five.getD 4 0 : Nat) now) else none := by
  unfold negL
  rw [if_neg h, hs]
theorem negL_key {qn : List Nat} {qt qc kind : Int} {sn : List Nat} {st sttl : Int} {sd : List Nat} {now : Int} (h : canL qn = false ∨ canL sn = false ∨ qc < 0 ∨ 65535 < qc) : negL qn qt qc kind sn st sttl sd now = none := by
  unfold negL
  split
  · rfl
  · split
    · rfl
    · rename_i h0 _ x hx
      rw [if_neg]
      intro hc
      obtain ⟨h1, _, _, _, _, _, h2⟩ := canSet_true hc
      have hk : (negS qn qt qc kind sn sttl sd (x.five.getD 4 0 : Nat) now).kind ≠ 0 := by
        show kind ≠ 0
        omega
      obtain ⟨_, h3, _⟩ := h2 hk
      have h4 := key_size h1
      rcases h with h | h | h | h
      · rw [show (negS qn qt qc kind sn sttl sd (x.five.getD 4 0 : Nat) now).name = qn from rfl, h] at h4; exact absurd h4.2.2.2.2.2 (by simp)
      · rw [show (negS qn qt qc kind sn sttl sd (x.five.getD 4 0 : Nat) now).zone = sn from rfl, h] at h3; cases h3
      · have := h4.2.2.2.1; simp only [negS] at this; omega
      · have := h4.2.2.2.2.1; simp only [negS] at this; omega
end Go.Proofs.Ytlhbikdelbollaa
