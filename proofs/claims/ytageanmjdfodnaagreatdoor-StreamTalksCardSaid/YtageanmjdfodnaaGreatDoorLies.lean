/- A slice of one's own that may begin within its block: cut at its front, appended to. -/
import Derived.Test.YtageanmjdfodnaaGreatDoorAppend
import Derived.Laws.CopyRow
namespace Go.Cx
open Go.RowKit

/-- The slice v of n elements of one cell lies in a block of one's own, from block B on, and holds xs. -/
def Lies (w : World) (B : Nat) (e : TypeId) (v : Value) (n : Nat) (xs : List Value) : Prop :=
  xs.length = n ∧ ((v = .slice none 0 0 ∧ n = 0) ∨ ∃ g o cap cur, v = .slice (some ⟨g, o, none⟩) n cap ∧ B ≤ g ∧ w.heap[g]? = some (.cells cur e (0, 0)) ∧ n ≤ cap ∧ o + cap ≤ cur.size ∧ (cur.toList.drop o).take n = xs)

section
variable {w w' : World} {B n : Nat} {e : TypeId} {v : Value} {xs : List Value}
theorem Lies.nil (w : World) (B : Nat) (e : TypeId) : Lies w B e (.slice none 0 0) 0 [] := ⟨rfl, .inl ⟨rfl, rfl⟩⟩
theorem Lies.of_own (h : w.ownsRow B e 1 v n xs) : Lies w B e v n xs := by
  obtain ⟨h1, h2⟩ := h
  rw [Nat.mul_one] at h1
  rcases h2 with h2 | ⟨g, cap, cur, hv, hB, hg, hn, _, hs, hx⟩
  · exact ⟨h1, .inl h2⟩
  · rw [Nat.mul_one] at hs hx
    exact ⟨h1, .inr ⟨g, 0, cap, cur, hv, hB, hg, hn, by omega, by rw [List.drop_zero]; exact hx⟩⟩
theorem Lies.form (h : Lies w B e v n xs) : ∃ A c, v = .slice A n c ∧ n ≤ c := by
  rcases h.2 with ⟨rfl, rfl⟩ | ⟨g, o, cap, cur, rfl, _, _, hn, _⟩
  · exact ⟨none, 0, rfl, Nat.le_refl _⟩
  · exact ⟨_, _, rfl, hn⟩
theorem Lies.lt (h : Lies w B e v n xs) {b : Nat} (hb : v.ownBlock = some b) : b < w.heap.size ∧ B ≤ b := by
  rcases h.2 with ⟨rfl, _⟩ | ⟨g, o, cap, cur, rfl, hB, hg, _⟩
  · cases hb
  · simp only [Value.ownBlock, Option.some.injEq] at hb
    subst hb
    exact ⟨(Array.getElem?_eq_some_iff.1 hg).1, hB⟩
theorem Lies.rd (h : Lies w B e v n xs) {A : Option Addr} {c : Nat} (hv : v = .slice A n c) : Rd w w.heap.size 1 A n xs := by
  refine ⟨by simpa using h.1, fun hn => ?_⟩
  rcases h.2 with ⟨_, rfl⟩ | ⟨g, o, cap, cur, hv', hB, hg, hnc, hs, hx⟩
  · omega
  · rw [hv] at hv'
    injection hv' with hA
    refine ⟨_, hA, (Array.getElem?_eq_some_iff.1 hg).1, fun j u hu => ?_⟩
    have hadd : (⟨g, o, none⟩ : Addr).add j = ⟨g, o + j, none⟩ := by unfold Addr.add; split <;> simp_all
    rw [hadd, cell_of_row w g (o + j) cur e (0, 0) hg]
    rw [← hx, List.getElem?_take] at hu
    split at hu
    · rw [List.getElem?_drop] at hu
      simpa using hu
    · cases hu
theorem Lies.keep (h : Lies w B e v n xs) (hk : ∀ b, v.ownBlock = some b → w'.heap[b]? = w.heap[b]?) : Lies w' B e v n xs := by
  refine ⟨h.1, ?_⟩
  rcases h.2 with h2 | ⟨g, o, cap, cur, rfl, hB, hg, r⟩
  · exact .inl h2
  · exact .inr ⟨g, o, cap, cur, rfl, hB, (hk g rfl).trans hg, r⟩
theorem Lies.upd {S : Nat → Prop} (h : Lies w B e v n xs) (k : Upd S w w') (hS : ∀ b, v.ownBlock = some b → ¬ S b) : Lies w' B e v n xs := h.keep fun b hb => k.heap (h.lt hb).1 (hS b hb)
theorem Lies.base {B' : Nat} (h : Lies w B e v n xs) (hB : ∀ b, v.ownBlock = some b → B' ≤ b) : Lies w B' e v n xs := by
  refine ⟨h.1, ?_⟩
  rcases h.2 with h2 | ⟨g, o, cap, cur, rfl, _, hg, r⟩
  · exact .inl h2
  · exact .inr ⟨g, o, cap, cur, rfl, hB g rfl, hg, r⟩
/-- cut at its front -/
theorem Lies.cut {A : Option Addr} {c k : Nat} (h : Lies w B e (.slice A n c) n xs) (hk : k ≤ n) : Lies w B e (.slice (if c = k then A else A.map (·.add (k * 1))) (n - k) (c - k)) (n - k) (xs.drop k) := by
  refine ⟨by rw [List.length_drop, h.1], ?_⟩
  rcases h.2 with ⟨hv, rfl⟩ | ⟨g, o, cap, cur, hv, hB, hg, hnc, hs, hx⟩
  · injection hv with h1 h2 h3
    subst h1 h3
    left
    obtain rfl : k = 0 := by omega
    exact ⟨by simp, rfl⟩
  · injection hv with h1 h2 h3
    subst h1 h3
    right
    by_cases hck : c = k
    · refine ⟨g, o, 0, cur, ?_, hB, hg, by omega, by omega, ?_⟩
      · rw [if_pos hck, show c - k = 0 by omega]
      · rw [show n - k = 0 by omega, List.take_zero, List.drop_eq_nil_of_le (by rw [h.1]; omega)]
    · refine ⟨g, o + k, c - k, cur, ?_, hB, hg, by omega, by omega, ?_⟩
      · rw [if_neg hck]
        have hadd : (⟨g, o, none⟩ : Addr).add (k * 1) = ⟨g, o + k, none⟩ := by rw [Nat.mul_one]; unfold Addr.add; split <;> simp_all
        rw [Option.map_some, hadd]
      · rw [← hx, List.drop_take, List.drop_drop]
end
theorem own_from {w : World} {B : Nat} {e : TypeId} {size n : Nat} {v : Value} {xs : List Value} (h : w.ownsRow B e size v n xs) (b : Nat) (hb : v.ownBlock = some b) : B ≤ b := by
  rcases h.2 with ⟨rfl, _⟩ | ⟨g, cap, cur, rfl, hg, _⟩
  · cases hb
  · simp only [Value.ownBlock, Option.some.injEq] at hb
    omega
section
variable {P : Program} (w : World)
theorem run_app_lies (B : Nat) (t ty e : TypeId) (i : TypeInfo) (z : Value) (bytes : Nat) (ht : P.underlying t = some (.slice e)) (hi : P.info? e = some i) (hz : i.zero = some z)
    (hsize : i.size = 1) (hby : i.bytes = bytes) (hzs : z.cells.size = 1)
    (v : Value) (n : Nat) (xs : List Value) (hown : Lies w B e v n xs)
    (B' : Nat) (A : Option Addr) (m c : Nat) (news : List Value) (hr : Rd w B' 1 A m news) (h1 : ∀ u ∈ news, u.oneCell' = true)
    (h63 : n + m ≤ maxLen) (hbytes : (n + m) * bytes ≤ 140737488355328) (hB : B ≤ w.heap.size) :
    ∃ v' w', (Builtin.append_ #[t, t] ty #[v, .slice A m c]).run P w = .ok v' w' ∧ Lies w' B e v' (n + m) (xs ++ news) ∧ w.grownBy w' v.ownBlock ∧
      (v'.ownBlock = v.ownBlock ∨ v'.ownBlock = some w.heap.size) := by
  have hml : news.length = m := by simpa using hr.1
  have same : m = 0 → ∃ v' w', (Builtin.append_ #[t, t] ty #[v, .slice A m c]).run P w = .ok v' w' ∧ Lies w' B e v' (n + m) (xs ++ news) ∧ w.grownBy w' v.ownBlock ∧ (v'.ownBlock = v.ownBlock ∨ v'.ownBlock = some w.heap.size) := by
    rintro rfl
    have hn : news = [] := List.eq_nil_of_length_eq_zero hml
    subst hn
    refine ⟨v, w, ?_, by simpa using hown, World.grownBy.refl w _, .inl rfl⟩
    rcases hown.2 with ⟨rfl, rfl⟩ | ⟨g, o, cap, cur, rfl, _, _, hnc, _⟩
    · cases A <;> simp [Builtin.append_, run_underlying ht, sizeOf, typeInfo, hi, Builtin.lenOf, Builtin.firstCells, loadCells, loadCellsFrom]
    · cases A <;> simp [Builtin.append_, run_underlying ht, sizeOf, typeInfo, hi, Builtin.lenOf, Builtin.firstCells, hnc, loadCells, loadCellsFrom, storeCells]
  rcases Nat.eq_zero_or_pos m with h0 | h0
  · exact same h0
  obtain ⟨ad, rfl, _, hcells⟩ := hr.2 h0
  rcases hown.2 with ⟨rfl, rfl⟩ | ⟨g, o, cap, cur, rfl, hg0, hg, hnc, hs, hx⟩
  · have hx0 : xs = [] := List.eq_nil_of_length_eq_zero hown.1
    subst hx0
    obtain ⟨v', w', h1, h2, h3, _, h5⟩ := run_append_own_at (P := P) w B t ty e i z 1 bytes ht hi hz hsize hby hzs (by omega) (.slice none 0 0) 0 [] ⟨rfl, .inl ⟨rfl, rfl⟩⟩ ad m c news hr.1 hcells h1 h63 hbytes hB
    exact ⟨v', w', h1, Lies.of_own h2, h3, h5⟩
  · have hglt := (Array.getElem?_eq_some_iff.1 hg).1
    have holds : ∀ j u, xs[j]? = some u → w.cell? ((⟨g, o, none⟩ : Addr).add j) = some u := by
      intro j u hu
      have hadd : (⟨g, o, none⟩ : Addr).add j = ⟨g, o + j, none⟩ := by unfold Addr.add; split <;> simp_all
      rw [hadd, cell_of_row w g (o + j) cur e (0, 0) hg]
      rw [← hx, List.getElem?_take] at hu
      split at hu
      · rw [List.getElem?_drop] at hu
        simpa using hu
      · cases hu
    by_cases hroom : n + m ≤ cap
    · have hf := run_firstCells_some (P := P) w i.size m ad m c news (by rw [hsize]; omega) hcells
      have hst := run_storeCells_at (P := P) g (o + n) e news 0 cur w hg (by omega) h1
      simp only [Nat.add_zero] at hst
      have hadd : (⟨g, o, none⟩ : Addr).add n = ⟨g, o + n, none⟩ := by unfold Addr.add; split <;> simp_all
      have hrun : (Builtin.append_ #[t, t] ty #[.slice (some ⟨g, o, none⟩) n cap, .slice (some ad) m c]).run P w =
          .ok (.slice (some ⟨g, o, none⟩) (n + m) cap) (w.setRow g (cur.toList.take (o + n) ++ news ++ cur.toList.drop (o + n + news.length)).toArray) := by
        rw [hsize] at hf
        simp [Builtin.append_, run_underlying ht, sizeOf, typeInfo, hi, hsize, Builtin.lenOf, hroom, hf, hadd, hst]
      refine ⟨_, _, hrun, ⟨by simp [hown.1, hml], .inr ⟨g, o, cap, _, rfl, hg0, setRow_heap w g cur _ e _ hg, hroom, ?_, ?_⟩⟩, ⟨rfl, rfl, rfl, by simp, fun k _ hk => setRow_other w g k _ (fun e => hk (by simp [e, Value.ownBlock]))⟩, .inl rfl⟩
      · simp only [List.size_toArray, List.length_append, List.length_take, List.length_drop, Array.length_toList]
        omega
      · have hl : (cur.toList.take (o + n)).length = o + n := by rw [List.length_take, Array.length_toList]; omega
        rw [List.append_assoc, List.drop_append_of_le_length (by omega)]
        have e1 : (cur.toList.take (o + n)).drop o = xs := by rw [← hx, List.drop_take, show o + n - o = n by omega]
        rw [e1, ← List.append_assoc, List.take_append_of_le_length (by simp [hown.1, hml]), List.take_of_length_le (by simp [hown.1, hml])]
    · have hr' := run_append_grow (P := P) w t ty e i z ht hi hz ⟨g, o, none⟩ n cap xs (by rw [hsize, hown.1]; omega) holds ad m c news (by rw [hsize]; omega) hcells (by omega) (by unfold maxLen at h63; omega) (growslice_fits (by omega) (by rw [hby]; omega))
      have hge := grownCap_ge w (n + m) cap e
      refine ⟨_, _, hr', ⟨by simp [hown.1, hml], .inr ⟨w.heap.size, 0, _, _, rfl, hB, heap_alloc_new w.drew _, hge, ?_, ?_⟩⟩, ⟨rfl, rfl, rfl, by simp, fun k hk _ => heap_alloc_old w.drew _ hk⟩, .inr rfl⟩
      · simp only [Array.size_append, List.size_toArray, size_zeroCells, hzs, hown.1, hml]
        omega
      · rw [List.drop_zero, Array.toList_append, Array.toList_append]
        rw [List.take_append_of_le_length (by simp [hown.1, hml]), List.take_of_length_le (by simp [hown.1, hml])]

/-- 'append(v, x...)' at the operation, v cut at its front before -/
theorem wpList_app_lies {ops : Array Oper} {rest : List Oper} {o : Oper} {a : Act} {Q : Exit → Act → World → Prop} (hgd : o.guard = none) (s x : Operand) (t : TypeId)
    (ho : o.op = .call { callee := .builtin .append, args := #[s, x], argTypes := #[t, t] })
    (B : Nat) (e : TypeId) (i : TypeInfo) (z : Value) (bytes : Nat) (ht : P.underlying t = some (.slice e)) (hi : P.info? e = some i) (hz : i.zero = some z)
    (hsize : i.size = 1) (hby : i.bytes = bytes) (hzs : z.cells.size = 1)
    (v : Value) (n : Nat) (xs : List Value) (hs : a.eval s = v) (hown : Lies w B e v n xs)
    (B' : Nat) (A : Option Addr) (m c : Nat) (news : List Value) (hx : a.eval x = .slice A m c) (hr : Rd w B' 1 A m news) (h1 : ∀ u ∈ news, u.oneCell' = true)
    (h63 : n + m ≤ maxLen) (hbytes : (n + m) * bytes ≤ 140737488355328) (hB : B ≤ w.heap.size)
    (h : ∀ A' c' w', Lies w' B e (.slice A' (n + m) c') (n + m) (xs ++ news) → w.grownBy w' v.ownBlock → ((Value.slice A' (n + m) c').ownBlock = v.ownBlock ∨ (Value.slice A' (n + m) c').ownBlock = some w.heap.size) → wpList P ops Q rest (a.put o.dst (.slice A' (n + m) c')) w') : wpList P ops Q (o :: rest) a w :=
  wpList_plain hgd fun _ hK => by
    obtain ⟨v', w', hrun, h2, h3, h4⟩ := run_app_lies (P := P) w B t o.type e i z bytes ht hi hz hsize hby hzs v n xs hown B' A m c news hr h1 h63 hbytes hB
    unfold Oper.wp execOp
    simp only [ho, resolve, invoke, builtin, Sem.run_bind, Sem.run_pure, Result.andThen_ok, List.map_toArray, List.map_cons, List.map_nil, hs, hx, hrun]
    obtain ⟨A', c', rfl, _⟩ := h2.form
    exact hK _ _ (h A' c' w' h2 h3 h4)
end
end Go.Cx
