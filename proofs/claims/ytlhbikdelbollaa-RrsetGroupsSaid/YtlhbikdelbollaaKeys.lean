/- The keys of records: a struct as a map's key. -/
import Derived.Test.YtlhbikdelbollaaRRs
import Derived.Test.YtlhbikdelbollaaMap
import Derived.DeepKeys3
namespace Go.Proofs.Ytlhbikdelbollaa
open Go.RowKit Go.Cx Go.Maps

structure KeyC where
  name : List Nat
  type : Int
  cls : Int
  deriving DecidableEq
def KeyC.val (k : KeyC) : Value := .agg #[.string (strN k.name), .int .i64 k.type, .int .i64 k.cls]

set_option maxRecDepth 100000 in
theorem key_law : Keyed Try.prog 56 := Keyed.of_law (deep_law (m := 4) (by omega) (by kernel_rfl) (by kernel_rfl) (by rw [Try.underlying56]))

structure KeyOk (k : KeyC) : Prop where
  bytes : ∀ b ∈ k.name, b < 256
  len : k.name.length ≤ 140737488355328
  t : (Lit.int .i64 k.type).wf = true
  c : (Lit.int .i64 k.cls).wf = true
theorem KeyC.inj {k k' : KeyC} (h : KeyOk k) (h' : KeyOk k') (e : k.val = k'.val) : k = k' := by
  unfold KeyC.val at e
  simp only [Value.agg.injEq, Array.mk.injEq, List.cons.injEq, Value.string.injEq, Value.int.injEq, true_and, and_true] at e
  obtain ⟨e1, e2, e3⟩ := e
  have := congrArg bytesOf e1
  rw [bytesOf_strN h.bytes, bytesOf_strN h'.bytes] at this
  cases k
  cases k'
  simp_all
set_option maxRecDepth 100000 in
theorem key_lit {k : KeyC} (h : KeyOk k) : ∃ l, keyOf Try.prog 56 k.val = some l := by
  have hs : (strN k.name).size ≤ maxLen := by
    rw [strN_size]
    have := h.len
    unfold maxLen
    omega
  have h1 : Try.prog.keyType 56 = true := by kernel_rfl
  have h2 : k.val.formed Try.prog 56 = true := by
    unfold KeyC.val Value.formed
    simp only [Try.underlying56]
    kernel_rfl
  have h3 : ∃ m, Try.prog.types.size = m + 1 := ⟨Try.prog.types.size - 1, by kernel_rfl⟩
  obtain ⟨m, hm⟩ := h3
  have e1 : Try.prog.keyLits (m + 1) 9 [.string (strN k.name)] = some [.string (strN k.name).data.toList] := by
    unfold Program.keyLits
    simp only [Try.underlying9, hs, if_true]
  have e2 : ∀ z, (Lit.int .i64 z).wf = true → Try.prog.keyLits (m + 1) 3 [.int .i64 z] = some [.int .i64 z] := by
    intro z hz
    unfold Program.keyLits
    simp only [Try.underlying3, hz, and_self, if_true]
  have h4 : ∃ ls, Try.prog.keyLits (Try.prog.types.size + 1) 56 k.val.cells.toList = some ls := by
    rw [hm]
    unfold KeyC.val
    simp only [Value.cells]
    unfold Program.keyLits
    simp only [Try.underlying56]
    have c9 : Try.prog.cellsOf 9 = 1 := by kernel_rfl
    have c3 : Try.prog.cellsOf 3 = 1 := by kernel_rfl
    rw [if_pos ⟨by kernel_rfl, by simp⟩]
    simp [c9, c3, e1, e2 _ h.t, e2 _ h.c]
  obtain ⟨ls, h4⟩ := h4
  refine ⟨.string (keyBytes ls), ?_⟩
  unfold keyOf
  simp only [Try.underlying56]
  rw [h1, h2, h4]
  rfl
end Go.Proofs.Ytlhbikdelbollaa
