/- What a client sends a stream, plain; frames by their numbers. -/
import Derived.Test.YtageanmjdfodnaaGreatDoorStrS
import Derived.Test.YtageanmjdfodnaaGreatDoorRefAsk
import Derived.Test.YtageanmjdfodnaaGreatDoorRowsB
namespace Go.Proofs.YtageanmjdfodnaaGreatDoor
open Go.RowKit Go.Cx Go.Maps

theorem umod (x : Int) (k : Nat) (h0 : 0 < k) (hk : k ≤ 4294967296) : ∃ a : Nat, wrap64 ((IntKind.u64.wrap x).tmod (k : Int)) = (a : Int) ∧ a < k := by
  rw [IntKind.wrap_u64]
  have h1 : 0 ≤ x % 18446744073709551616 := Int.emod_nonneg _ (by omega)
  rw [Int.tmod_eq_emod_of_nonneg h1]
  have h2 : 0 ≤ (x % 18446744073709551616) % (k : Int) := Int.emod_nonneg _ (by omega)
  have h3 : (x % 18446744073709551616) % (k : Int) < k := Int.emod_lt_of_pos _ (by omega)
  refine ⟨((x % 18446744073709551616) % (k : Int)).toNat, ?_, by omega⟩
  generalize (x % 18446744073709551616) % (k : Int) = z at *
  unfold wrap64
  omega
/-- what a client sends -/
def encS (http : Bool) (y : List Nat × Bool) : List Nat := if http then askL y.1 y.2 false else encP y.1
theorem whole_enc (http : Bool) (ys : List (List Nat × Bool)) (h : ∀ y ∈ ys, y.1.length ≤ 400) : WholeS http ((ys.map (encS http)).flatten) (ys.map fun y => ⟨false, y.1⟩) := by
  cases http with
  | false =>
    show _ = _
    have h1 := framesP_encs (ys.map Prod.fst)
    have h2 : (ys.map (encS false)).flatten = ((ys.map Prod.fst).map encP).flatten := by rw [List.map_map]; rfl
    rw [h2, h1, List.map_map]
    rfl
  | true =>
    have h1 := asks_W ys [] (fun y hy => by have := h y hy; omega)
    refine ⟨ys.map fun x => ⟨x.1, true⟩, ?_, ?_⟩
    · exact h1
    · rw [List.map_map]
      rfl
theorem encS_long {http : Bool} {y : List Nat × Bool} (h : y.1.length ≤ 400) : (encS http y).length ≤ 4000 := by
  unfold encS
  cases http with
  | false => simp [encP]; omega
  | true =>
    have h1 := text_len (n := y.1.length) (by omega) y.2 false
    have h2 := encL_len 99 y.1
    simp only [if_true]
    unfold askL
    rw [List.length_append]
    split <;> omega
theorem askL_lt2 {l : List Nat} (h : ∀ b ∈ l, b < 256) (ch : Bool) : ∀ b ∈ askL l ch false, b < 256 := by
  have h1 : ∀ b ∈ preL, b < 256 := by decide +kernel
  have h2 : ∀ b ∈ chunkH, b < 256 := by decide +kernel
  have h3 : ∀ b ∈ endL, b < 256 := by decide +kernel
  have h4 : ∀ b ∈ clenH, b < 256 := by decide +kernel
  cases ch with
  | false =>
    intro b hb
    unfold askL at hb
    rw [text_plain] at hb
    simp only [Bool.false_eq_true, if_false, List.mem_append] at hb
    rcases hb with (((hb | hb) | hb) | hb) | hb
    · exact h1 b hb
    · exact h4 b hb
    · have := itoa_dig _ b hb
      simp [isDig] at this
      omega
    · exact h3 b hb
    · exact h b hb
  | true =>
    intro b hb
    unfold askL at hb
    rw [text_chunk] at hb
    simp only [if_true, List.mem_append] at hb
    rcases hb with ((hb | hb) | hb) | hb
    · exact h1 b hb
    · exact h2 b hb
    · exact h3 b hb
    · exact encL_lt 99 l h b hb
theorem encS_lt {http : Bool} {y : List Nat × Bool} (h : ∀ b ∈ y.1, b < 256) (hl : y.1.length ≤ 400) : ∀ b ∈ encS http y, b < 256 := by
  unfold encS
  cases http with
  | true => exact askL_lt2 h y.2
  | false =>
    intro b hb
    simp only [Bool.false_eq_true, if_false, encP, List.mem_append, List.mem_cons, List.not_mem_nil, or_false] at hb
    rcases hb with (rfl | rfl) | hb
    · omega
    · omega
    · exact h b hb
theorem encs_lt {http : Bool} {ys : List (List Nat × Bool)} (h : ∀ y ∈ ys, ∀ b ∈ y.1, b < 256) (hl : ∀ y ∈ ys, y.1.length ≤ 400) : ∀ b ∈ (ys.map (encS http)).flatten, b < 256 := by
  intro b hb
  obtain ⟨l, hl2, hb⟩ := List.mem_flatten.1 hb
  obtain ⟨y, hy, rfl⟩ := List.mem_map.1 hl2
  exact encS_lt (h y hy) (hl y hy) b hb
/-- the cells of the i-th frame -/
theorem flat_at2 {α : Type} (f : α → List Value) (k : Nat) (hk : ∀ x, (f x).length = k) : ∀ (l : List α) (i j : Nat) (x : α), l[i]? = some x → j < k → (l.map f).flatten[i * k + j]? = (f x)[j]?
  | [], i, j, x, h, _ => by simp at h
  | y :: l, 0, j, x, h, hj => by
    simp only [List.getElem?_cons_zero, Option.some.injEq] at h
    subst h
    rw [List.map_cons, List.flatten_cons, Nat.zero_mul, Nat.zero_add, List.getElem?_append_left (by rw [hk]; exact hj)]
  | y :: l, i + 1, j, x, h, hj => by
    rw [List.getElem?_cons_succ] at h
    rw [List.map_cons, List.flatten_cons, List.getElem?_append_right (by rw [hk, Nat.succ_mul]; omega), hk, show (i + 1) * k + j - k = i * k + j by rw [Nat.succ_mul]; omega]
    exact flat_at2 f k hk l i j x h hj
theorem FrsOwn.at {base c n i : Nat} {A : Option Addr} {fs : List FrV} {w : World} (h : FrsOwn base A c fs w) (hn : fs.length = n) (hi : i < n) :
    ∃ go f, fs[i]? = some f ∧ A = some ⟨go, 0, none⟩ ∧ go < w.heap.size ∧ w.cell? ⟨go, i * 2, none⟩ = some (.slice f.row.A f.row.n f.row.c) ∧ w.cell? ⟨go, i * 2 + 1, none⟩ = some (.bool f.bad) ∧ Rd w w.heap.size 1 f.row.A f.row.n (byts f.row.l) ∧ ∀ b ∈ f.row.l, b < 256 := by
  subst hn
  obtain ⟨f, hf⟩ : ∃ f, fs[i]? = some f := ⟨_, List.getElem?_eq_getElem hi⟩
  obtain ⟨ad, hA, hB, hc⟩ := (Rd.own h.out).2 (by omega)
  rcases h.out.2 with ⟨hv, h0⟩ | ⟨g, cap, cur, hv, hg, _⟩
  · injection hv with h1 h2 h3
    omega
  · injection hv with h1 h2 h3
    rw [h1] at hA
    injection hA with hA
    subst hA
    have hadd : ∀ j, (⟨g, 0, none⟩ : Addr).add j = ⟨g, j, none⟩ := fun j => by
      unfold Addr.add
      split <;> simp_all
    have k0 := hc (i * 2 + 0) _ (by rw [flat_at2 FrV.cells 2 (fun _ => rfl) fs i 0 f hf (by omega)]; rfl)
    have k1 := hc (i * 2 + 1) _ (by rw [flat_at2 FrV.cells 2 (fun _ => rfl) fs i 1 f hf (by omega)]; rfl)
    rw [hadd] at k0 k1
    have h2 := h.rows f (List.mem_of_getElem? hf)
    exact ⟨g, f, hf, h1, hB, k0, k1, Rd.own h2.1, h2.2.2⟩
end Go.Proofs.YtageanmjdfodnaaGreatDoor
