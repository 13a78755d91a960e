/- What the bound on the bulk gives of a set. -/
import Derived.Test.YtlhbikdelbollaaBulk
import Derived.Test.YtlhbikdelbollaaOpenSet
namespace Go.Proofs.Ytlhbikdelbollaa
open Go.RowKit Go.Cx Go.ChangeShapes Go.WideShapes Go.ChangeAt Go.Deep Go.Joins
set_option maxRecDepth 100000 in
theorem bulk_set {H : Type} {enc : TypeId × Value → H} {W : World} {s : SetV} {d : DataW H} {p : List MemPlace} (h : DataW.Trod enc Try.prog W 0 (fun _ => true) true 28 s.agg d p) : s.dn ≤ Rows.uptoBulk d := by
  obtain ⟨fuel, hf⟩ := h
  obtain ⟨xs, n, _, hx, hlen, hxl, hg⟩ := DataW.trod_struct Try.underlying28 hf
  have hd : d = .agg (xs.map (·.1)) := congrArg Prod.fst hx
  have c3 : Try.prog.cellsOf 26 = 1 := by kernel_rfl
  have h7 := hg 7 _ rfl
  have h8 : xs.length = 8 := hxl
  rw [List.getElem?_eq_getElem (by omega : 7 < xs.length)] at h7
  have h7' : DataW.trod enc Try.prog W 0 (fun _ => true) true n 26 ((s.cells.drop 7).take (Try.prog.cellsOf 26)) = some (xs[7]'(by omega)) := h7
  rw [c3] at h7'
  have h9 : DataW.Trod enc Try.prog W 0 (fun _ => true) true 26 (.slice s.dA s.dn s.dc) (xs[7]'(by omega)).1 (xs[7]'(by omega)).2 := ⟨n, h7'⟩
  have hb := bulk_slice Try.underlying26 h9
  have hm : (xs[7]'(by omega)).1 ∈ xs.map (·.1) := List.mem_map.2 ⟨_, List.getElem_mem _, rfl⟩
  have hp := bulk_part hm
  rw [hd]
  simp only [Rows.uptoBulk]
  omega
end Go.Proofs.Ytlhbikdelbollaa
