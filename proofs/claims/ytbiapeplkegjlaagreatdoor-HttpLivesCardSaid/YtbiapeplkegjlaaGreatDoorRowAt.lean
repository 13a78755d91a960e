/- A row of bytes that is the call's own, made of a string: read, written. -/
import Derived.Test.YtbiapeplkegjlaaGreatDoorStrs
namespace Go.Proofs.YtbiapeplkegjlaaGreatDoor
open Go.RowKit Go.Cx

/-- the first n bytes of block g are l; none of the row is frozen -/
def RowAt (w : World) (g n : Nat) (l : List Nat) : Prop :=
  ∃ cur fz, w.heap[g]? = some (.cells cur 5 fz) ∧ n ≤ cur.size ∧ cur.size ≤ fz.1 ∧ l.length = n ∧ cur.toList.take n = byts l
theorem RowAt.str (w : World) (s : ByteArray) : RowAt (Lib.bytesWorld w 5 s) w.heap.size s.size (bytesOf s) := by
  have hcs : (Lib.bytesCells w 5 s).size = grownCap w s.size 0 5 := by
    have hcap := grownCap_ge w s.size 0 5
    unfold Lib.bytesCells
    simp only [Array.size_append, Array.size_map, Array.size_replicate]
    have : s.data.size = s.size := rfl
    omega
  refine ⟨_, _, Lib.bytesWorld_at_new w 5 s, ?_, Nat.le_refl _, bytesOf_len s, ?_⟩
  · rw [hcs]; exact grownCap_ge w s.size 0 5
  · rw [byts_of]
    unfold Lib.bytesCells Lib.strCells
    rw [Array.toList_append, List.take_append_of_le_length (by simp only [Array.toList_map, List.length_map, Array.length_toList]; exact Nat.le_refl _)]
    rw [List.take_of_length_le (by simp only [Array.toList_map, List.length_map, Array.length_toList]; exact Nat.le_refl _)]
    simp
theorem RowAt.lt {w : World} {g n : Nat} {l : List Nat} (h : RowAt w g n l) : g < w.heap.size := by
  obtain ⟨cur, fz, hg, _⟩ := h
  exact (Array.getElem?_eq_some_iff.1 hg).1
theorem RowAt.cell {w : World} {g n i b : Nat} {l : List Nat} (h : RowAt w g n l) (hb : l[i]? = some b) : w.cell? ⟨g, i, none⟩ = some (.int .u8 b) := by
  obtain ⟨cur, fz, hg, h1, h2, h3, h4⟩ := h
  have hi : i < n := by
    have := (List.getElem?_eq_some_iff.1 hb).1
    omega
  rw [cell_of_row w g i cur 5 fz hg]
  have h5 : (byts l)[i]? = some (.int .u8 b) := by rw [byts, List.getElem?_map, hb]; rfl
  rw [← h4, List.getElem?_take, if_pos hi] at h5
  simpa using h5
theorem RowAt.free {w : World} {g n i : Nat} {l : List Nat} (h : RowAt w g n l) (hi : i < n) : w.frozen? ⟨g, i, none⟩ = false := by
  obtain ⟨cur, ⟨lo, up⟩, hg, h1, h2, h3, h4⟩ := h
  simp only [World.frozen?, hg, Bool.and_eq_false_iff, decide_eq_false_iff_not]
  left
  simp only at h2
  omega
theorem RowAt.set {w : World} {g n i : Nat} {l : List Nat} (h : RowAt w g n l) (b : Nat) : RowAt (w.setCell ⟨g, i, none⟩ (.int .u8 b)) g n (l.set i b) := by
  obtain ⟨cur, fz, hg, h1, h2, h3, h4⟩ := h
  refine ⟨cur.setIfInBounds i (.int .u8 b), fz, ?_, by simpa using h1, by simpa using h2, by simpa using h3, ?_⟩
  · rw [setCell_eq_setRow w g i cur 5 fz _ hg]
    exact setRow_heap w g cur _ _ _ hg
  · rw [Array.toList_setIfInBounds, List.take_set, h4]
    simp [byts, List.map_set]
theorem RowAt.keep {w w' : World} {g n : Nat} {l : List Nat} (h : RowAt w g n l) (hb : w'.heap[g]? = w.heap[g]?) : RowAt w' g n l := by
  obtain ⟨cur, fz, hg, r⟩ := h
  exact ⟨cur, fz, hb.trans hg, r⟩
theorem RowAt.rd {w : World} {g n : Nat} {l : List Nat} (h : RowAt w g n l) : Rd w w.heap.size 1 (some ⟨g, 0, none⟩) n (byts l) := by
  have hl : l.length = n := by obtain ⟨_, _, _, _, _, h3, _⟩ := h; exact h3
  refine ⟨by simp [byts, hl], fun _ => ⟨_, rfl, h.lt, fun j u hu => ?_⟩⟩
  have hadd : (⟨g, 0, none⟩ : Addr).add j = ⟨g, j, none⟩ := by unfold Addr.add; split <;> simp_all
  rw [hadd]
  simp only [byts, List.getElem?_map] at hu
  obtain ⟨b, hb, rfl⟩ := Option.map_eq_some_iff.1 hu
  exact h.cell hb
end Go.Proofs.YtbiapeplkegjlaaGreatDoor
