/- What comes in, opened: slices of whole numbers, of structs of whole numbers, strings; with what the form's reach says of their size. -/
import Derived.Test.YtageanmjdfodnaaGreatDoorBase
import Derived.Test.YtageanmjdfodnaaGreatDoorRows
import Derived.ProofKit
import Derived.OpenShut
import Derived.ShutString
import Derived.ChangeOld
import Derived.SizedLaws
import Derived.Deep.Slices
import Derived.Deep.Fields
import Derived.Lib.SmallJoins
namespace Go.Cx
open Go.ChangeShapes Go.WideShapes Go.ChangeAt Go.RowKit Go.Deep Go.Joins
section
variable {H : Type} {enc : TypeId × Value → H} {P : Program} {W : World}

/-- what the form says of a parameter's size -/
def Small (P : Program) (t : TypeId) (d : DataW H) : Prop := ∀ n ∈ d.weights P t, n ≤ reachBytes

theorem small_of {ts : List TypeId} {ds : List (DataW H)} (h : (DataW.weightsEach P ts ds).all (· ≤ reachBytes) = true) {j : Nat} {t : TypeId} {d : DataW H} (ht : ts[j]? = some t) (hd : ds[j]? = some d) : Small P t d :=
  fun n hn => by simpa using List.all_eq_true.1 h _ (DataW.weights_mem_each ht hd n hn)

theorem in_ints {r : Reach} {b0 : Nat} {t e : TypeId} {k : IntKind} {v : Value} {d : DataW H} {p : List MemPlace} (ht : P.underlying t = some (.slice e)) (he : P.underlying e = some (.int k)) (hc : P.cellsOf e = 1)
    (hv : Value.okWide P W r b0 t v) (h : DataW.Trod enc P W 0 (fun _ => true) true t v d p) (hw : Small P t d) :
    ∃ (A : Option Addr) (n c : Nat) (xs : List Int), v = .slice A n c ∧ n ≤ c ∧ c * P.bytesOf e ≤ reachBytes ∧ Rd W W.heap.size 1 A n (xs.map (.int k)) ∧ ∀ x ∈ xs, (Lit.int k x).wf = true := by
  obtain ⟨A, n, c, rfl⟩ := okWide_slice ht hv
  obtain ⟨fuel, hf⟩ := h
  have hlt := DataW.trod_lt fuel _ _ _ hf
  rcases open_ints ht he hc hf with ⟨hcs, _⟩ | ⟨x, l, c', zs, hcs, _, hl, hm, hz, hx, hcell, hwz⟩
  · simp [Value.cells] at hcs
    obtain ⟨rfl, rfl, rfl⟩ := hcs
    exact ⟨none, 0, 0, [], rfl, Nat.le_refl _, by simp, Rd.nil, by simp⟩
  · simp [Value.cells] at hcs
    obtain ⟨rfl, rfl, rfl⟩ := hcs
    simp only [if_true] at hz
    simp only [Prod.mk.injEq] at hx
    obtain ⟨rfl, rfl⟩ := hx
    refine ⟨_, n, c, zs.take n, rfl, hl, ?_, ⟨by simp [hz]; omega, fun hn => ⟨x, rfl, ?_, ?_⟩⟩, fun y hy => hwz y (List.mem_of_mem_take hy)⟩
    · have := hw ((zs.take n).length * P.bytesOf e + (zs.drop n).length * P.bytesOf e) (by simp [DataW.weights, ht, lits, Nat.add_mul])
      rw [← Nat.add_mul, ← List.length_append, List.take_append_drop, hz] at this
      exact this
    · have hc0 := hcell 0 (by omega)
      have := block_lt_of_cell hc0
      rwa [block_add] at this
    · intro j u hu
      simp only [List.getElem?_map] at hu
      cases hj : (zs.take n)[j]? with
      | none => rw [hj] at hu; simp at hu
      | some y =>
        rw [hj] at hu
        simp only [Option.map_some, Option.some.injEq] at hu
        have hjn : j < n := by
          have := (List.getElem?_eq_some_iff.1 hj).1
          simp at this
          omega
        rw [List.getElem?_take, if_pos hjn] at hj
        rw [hcell j (by omega), ← hu]
        simp [hj]
/-- a struct of two whole numbers, by value -/
theorem in_two {r : Reach} {b0 : Nat} {t : TypeId} {f0 f1 : Field} {q0 q1 : IntKind} {v : Value} {d : DataW H} {p : List MemPlace} (hs : P.underlying t = some (.struct #[f0, f1])) (hone : oneCellFields P #[f0, f1] = true) (hC : P.cellsOf t = 2)
    (h0 : P.underlying f0.type = some (.int q0)) (h1 : P.underlying f1.type = some (.int q1)) (hv : Value.okWide P W r b0 t v) (h : DataW.Trod enc P W 0 (fun _ => true) true t v d p) (_hw : Small P t d) :
    ∃ x y : Int, v = .agg #[.int q0 x, .int q1 y] ∧ (Lit.int q0 x).wf = true ∧ (Lit.int q1 y).wf = true := by
  obtain ⟨c0, c1, y0, y1, m, rfl, rfl, _, hy0, hy1⟩ := open_agg2 hs hone hC hv h
  obtain ⟨a, e0, _, wa⟩ := DataW.trod_int h0 hy0
  obtain ⟨b, e1, _, wb⟩ := DataW.trod_int h1 hy1
  simp at e0 e1
  subst e0 e1
  exact ⟨a, b, rfl, wa, wb⟩
/-- the cells cs read as a value of type t, and are no more than the form lets in -/
def Cells (enc : TypeId × Value → H) (P : Program) (W : World) (t : TypeId) (cs : List Value) : Prop :=
  ∃ fuel x, DataW.trod enc P W 0 (fun _ => true) true fuel t cs = some x ∧ Small P t x.1

theorem cells_in {t : TypeId} {v : Value} {d : DataW H} {p : List MemPlace} (h : DataW.Trod enc P W 0 (fun _ => true) true t v d p) (hw : Small P t d) : Cells enc P W t v.cells.toList := by
  obtain ⟨fuel, hf⟩ := h
  exact ⟨fuel, _, hf, hw⟩

theorem cells_int {t : TypeId} {k : IntKind} {cs : List Value} (ht : P.underlying t = some (.int k)) (h : Cells enc P W t cs) : ∃ n, cs = [.int k n] ∧ (Lit.int k n).wf = true := by
  obtain ⟨fuel, x, hf, _⟩ := h
  obtain ⟨n, rfl, _, hn⟩ := DataW.trod_int ht hf
  exact ⟨n, rfl, hn⟩
theorem cells_bool {t : TypeId} {cs : List Value} (ht : P.underlying t = some .bool) (h : Cells enc P W t cs) : ∃ b, cs = [.bool b] := by
  obtain ⟨fuel, x, hf, _⟩ := h
  obtain ⟨b, rfl, _⟩ := DataW.trod_bool ht hf
  exact ⟨b, rfl⟩
theorem cells_string {t : TypeId} {cs : List Value} (ht : P.underlying t = some .string) (h : Cells enc P W t cs) : ∃ s : ByteArray, cs = [.string s] ∧ s.size ≤ reachBytes := by
  obtain ⟨fuel, x, hf, hw⟩ := h
  obtain ⟨s, rfl, rfl, _⟩ := DataW.trod_string ht hf
  refine ⟨s, rfl, ?_⟩
  have := hw s.data.toList.length (by simp [DataW.weights])
  simpa using this

theorem weightsAll_mem {e : TypeId} : ∀ {l : List (DataW H)} {d : DataW H}, d ∈ l → ∀ n ∈ d.weights P e, n ∈ DataW.weightsAll P e l
  | d0 :: l, d, hd, n, hn => by
    rw [DataW.weightsAll]
    rcases List.mem_cons.1 hd with rfl | h
    · exact List.mem_append.2 (.inl hn)
    · exact List.mem_append.2 (.inr (weightsAll_mem h n hn))

theorem cells_slice {t e : TypeId} {cs : List Value} (ht : P.underlying t = some (.slice e)) (hpos : 0 < P.cellsOf e) (h : Cells enc P W t cs) :
    ∃ (A : Option Addr) (n c : Nat) (els : List (List Value)), cs = [.slice A n c] ∧ n ≤ c ∧ c * P.bytesOf e ≤ reachBytes ∧ els.length = n ∧ Rd W W.heap.size (P.cellsOf e) A n els.flatten ∧ ∀ el ∈ els, Cells enc P W e el ∧ el.length = P.cellsOf e := by
  obtain ⟨fuel, x, hf, hw⟩ := h
  rcases open_slice ht hf with ⟨rfl, rfl⟩ | ⟨a, len, cap, m, n, D, Pl, rfl, _, hlc, _, hm, rfl, hi⟩
  · exact ⟨none, 0, 0, [], rfl, Nat.le_refl _, by simp, rfl, ⟨by simp, fun hn => absurd hn (by omega)⟩, by simp⟩
  · simp only [if_true] at hm
    subst hm
    have hall : ∀ i, i < m → ∃ el, W.cells? 0 (a.add (i * P.cellsOf e)) (P.cellsOf e) = some el ∧ DataW.trod enc P W 0 (fun _ => true) true n e el = some (D i, Pl i) := hi
    obtain ⟨g, hg⟩ := choose_lt hall
    have hlen : ∀ i, i < m → (g i).length = P.cellsOf e := fun i him => (World.cells?_some (hg i him).1).2.1
    have hat : ∀ i, i < m → ∀ j, j < P.cellsOf e → W.cell? (a.add (i * P.cellsOf e + j)) = (g i)[j]? := fun i him j hj => by
      have := (World.cells?_some (hg i him).1).2.2 j hj
      rwa [Go.Deep.add_add] at this
    have hfl : ∀ k, (((List.range k).map g).flatten).length = k * P.cellsOf e ∨ m < k := by
      intro k
      induction k with
      | zero => left; simp
      | succ k ih =>
        by_cases hk : m < k + 1
        · exact .inr hk
        · rcases ih with h | h
          · left
            rw [List.range_succ, List.map_append, List.flatten_append, List.length_append, h]
            simp [hlen k (by omega), Nat.add_mul]
          · omega
    have hget : ∀ k, k ≤ m → ∀ j u, (((List.range k).map g).flatten)[j]? = some u → W.cell? (a.add j) = some u := by
      intro k
      induction k with
      | zero => intro _ j u hu; simp at hu
      | succ k ih =>
        intro hk j u hu
        have hl := (hfl k).resolve_right (by omega)
        rw [List.range_succ, List.map_append, List.flatten_append] at hu
        rw [List.getElem?_append] at hu
        split at hu
        · exact ih (by omega) j u hu
        · rename_i hge
          rw [hl] at hu hge
          simp only [List.map_cons, List.map_nil, List.flatten_cons, List.flatten_nil, List.append_nil] at hu
          have hj : j - k * P.cellsOf e < P.cellsOf e := by
            have := (List.getElem?_eq_some_iff.1 hu).1
            rwa [hlen k (by omega)] at this
          have := hat k (by omega) (j - k * P.cellsOf e) hj
          rw [hu] at this
          rw [← this]
          congr 2
          omega
    refine ⟨some a, len, m, (List.range len).map g, rfl, hlc, ?_, by simp, ⟨(hfl len).resolve_right (by omega), fun hn => ⟨a, rfl, ?_, hget len hlc⟩⟩, ?_⟩
    · have := hw ((len + (m - len)) * P.bytesOf e) (by simp [DataW.weights, ht])
      rwa [show len + (m - len) = m by omega] at this
    · have h0 := hat 0 (by omega) 0 hpos
      have hl0 := hlen 0 (by omega)
      rw [List.getElem?_eq_getElem (by omega)] at h0
      have := block_lt_of_cell h0
      rwa [block_add] at this
    · intro el hel
      obtain ⟨i, him, rfl⟩ := List.mem_map.1 hel
      have hil : i < len := List.mem_range.1 him
      refine ⟨⟨n, _, (hg i (by omega)).2, fun y hy => hw y ?_⟩, hlen i (by omega)⟩
      simp only [DataW.weights, ht]
      refine List.mem_cons_of_mem _ (List.mem_append.2 (.inl (weightsAll_mem (d := D i) (List.mem_map.2 ⟨i, him, rfl⟩) y hy)))

theorem weightsEach_mem {ts : List TypeId} {ds : List (DataW H)} {j : Nat} {t : TypeId} {d : DataW H} (ht : ts[j]? = some t) (hd : ds[j]? = some d) : ∀ n ∈ d.weights P t, n ∈ DataW.weightsEach P ts ds :=
  DataW.weights_mem_each ht hd

theorem cells_struct {t : TypeId} {fs : Array Field} {cs : List Value} (ht : P.underlying t = some (.struct fs)) (h : Cells enc P W t cs) :
    cs.length = P.cellsOf t ∧ ∀ (i : Nat) (f : Field), fs[i]? = some f → Cells enc P W f.type ((cs.drop f.offset).take (P.cellsOf f.type)) := by
  obtain ⟨fuel, x, hf, hw⟩ := h
  obtain ⟨xs, n, _, rfl, hlen, hxl, hg⟩ := DataW.trod_struct ht hf
  refine ⟨hlen, fun i f hfi => ?_⟩
  have h1 := hg i f hfi
  have hil : i < fs.size := (Array.getElem?_eq_some_iff.1 hfi).1
  rw [List.getElem?_eq_getElem (by omega)] at h1
  refine ⟨n, _, h1, fun y hy => hw y ?_⟩
  simp only [DataW.weights, ht]
  refine weightsEach_mem (j := i) (t := f.type) (d := (xs[i]'(by omega)).1) ?_ ?_ y hy
  · simp [hfi]
  · simp [List.getElem?_eq_getElem (show i < xs.length by omega)]

/-- from 'each element is some g p' to 'the list is l.map g' -/
theorem list_of {α β : Type} (Q : α → Prop) (g : α → β) : ∀ els : List β, (∀ el ∈ els, ∃ p, el = g p ∧ Q p) → ∃ l : List α, els = l.map g ∧ ∀ p ∈ l, Q p
  | [], _ => ⟨[], rfl, by simp⟩
  | el :: els, h => by
    obtain ⟨p, rfl, hp⟩ := h el (by simp)
    obtain ⟨l, rfl, hl⟩ := list_of Q g els (fun e he => h e (by simp [he]))
    exact ⟨p :: l, rfl, by simpa using ⟨hp, hl⟩⟩
end
end Go.Cx
