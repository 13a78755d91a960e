/- rrset.Negative, kind 0. -/
import Derived.Test.YtlhbikdelbollaaNegS
namespace Go.Proofs.Ytlhbikdelbollaa
open Go.RowKit Go.Cx Go.Maps

set_option maxRecDepth 100000 in
set_option maxHeartbeats 12800000 in
theorem rrset_neg0 (qn : ByteArray) (qt qc kind : Int) (r : RRV) (now : Int) (w : World) (h : RRAt w w.heap.size r) (_hqn : qn.size ≤ 140737488355328) (_hqt : (Lit.int .i64 qt).wf = true) (_hqc : (Lit.int .i64 qc).wf = true) (_hki : (Lit.int .i64 kind).wf = true) (hk : kind ≠ 1 ∧ kind ≠ 2) :
    Calls Try.prog 18 #[.agg #[.string qn, .int .i64 qt, .int .i64 qc], .int .i64 kind, r.agg, .int .i64 now] w (NegIs (negL (bytesOf qn) qt qc kind (bytesOf r.name) r.type r.ttl r.data.l now) w) := by
  have H := Lib.hid h
  have hdn := h.data.len
  clear h
  unfold RRV.agg
  obtain ⟨g, hg⟩ : ∃ g, w.heap.size = g := ⟨_, rfl⟩
  go_enter Try.func18, Try.ntmps18
  go_upto_region 1 with fail
  have hn3 : N3 w g qn qt qc r (((w.alloc (.cells #[.string qn, .int .i64 qt, .int .i64 qc] 41)).alloc (.cells #[.string r.name, .int .i64 r.type, .int .i64 r.cls, .int .i64 r.ttl, .slice r.data.A r.data.n r.data.c] 35)).alloc (.cells zero8 28)) :=
    ⟨((Blk.new' _ _ _ hg.symm).alloc _).alloc _, (Blk.new' _ _ _ (by simp [hg])).alloc _, Blk.new' _ _ _ (by simp [hg]), (((Below.refl g w).alloc (by omega) _).alloc (by simp; omega) _).alloc (by simp; omega) _⟩
  unfold zero8 at hn3
  rw [show g + 1 + 1 = g + 2 from rfl]
  generalize (((w.alloc (.cells #[.string qn, .int .i64 qt, .int .i64 qc] 41)).alloc (.cells #[.string r.name, .int .i64 r.type, .int .i64 r.cls, .int .i64 r.ttl, .slice r.data.A r.data.n r.data.c] 35)).alloc (.cells #[.string ⟨#[]⟩, .int .i64 0, .int .i64 0, .int .i64 0, .int .i64 0, .int .i64 0, .string ⟨#[]⟩, .slice none 0 0] 28)) = wa at *
  have HG := Lib.hid hg
  have HN := Lib.hid hn3
  have hsl := (H.out.data.below (hn3.bel.mono (B' := w.heap.size) (by omega)))
  have hsz : w.heap.size ≤ wa.heap.size := by have := hn3.sb.lt; omega
  have hd : ∀ i, wa.cell? ⟨g + 1, i, none⟩ = _ := fun i => hn3.rb.cell i
  have HSL := Lib.hid hsl
  clear hn3 hsl hg
  go_wp2_with fail
  clear hd
  refine (rdata_soa _ _ _ _ wa wa.heap.size (HSL.out.more hsz) (Nat.le_refl _)).mono ?_
  rintro e w1 ⟨hso, hu1⟩
  obtain ⟨xm, xr, f0, f1, f2, f3, f4, ok, rfl, hsb⟩ := hso.both
  unfold soaCells
  have HSO := Lib.hid hsb
  clear hso hsb
  go_upto_region 2 with fail
  obtain ⟨x, hx⟩ : ∃ x, w1.heap.size = x := ⟨_, rfl⟩
  have hxb : Blk (w1.alloc (.cells #[.string xm, .string xr, .int .i64 f0, .int .i64 f1, .int .i64 f2, .int .i64 f3, .int .i64 f4] 66)) x 66 #[.string xm, .string xr, .int .i64 f0, .int .i64 f1, .int .i64 f2, .int .i64 f3, .int .i64 f4] := Blk.new' _ _ _ hx.symm
  have hu2 : Upd Nix wa (w1.alloc (.cells #[.string xm, .string xr, .int .i64 f0, .int .i64 f1, .int .i64 f2, .int .i64 f3, .int .i64 f4] 66)) := hu1.alloc _
  rw [hx]
  generalize w1.alloc (.cells #[.string xm, .string xr, .int .i64 f0, .int .i64 f1, .int .i64 f2, .int .i64 f3, .int .i64 f4] 66) = w2 at *
  have HN2 := Lib.hid (HN.out.upd hu2)
  have HXB := Lib.hid hxb
  have HS2 := Lib.hid (HSL.out.below (hu2.belowNix hsz))
  have hsz2 : w.heap.size ≤ w2.heap.size := Nat.le_trans hsz hu2.size
  have hq2 : ∀ i, w2.cell? ⟨g, i, none⟩ = _ := fun i => HN2.out.qb.cell i
  have hr2 : ∀ i, w2.cell? ⟨g + 1, i, none⟩ = _ := fun i => HN2.out.rb.cell i
  have hc0 : ∀ i, w2.cell? ⟨g + 2, i, none⟩ = _ := fun i => HN2.out.sb.cell i
  have hf0 : ∀ i, w2.frozen? ⟨g + 2, i, none⟩ = _ := fun i => HN2.out.sb.free i
  have hl0 := HN2.out.sb.lt
  have hx2 : ∀ i, w2.cell? ⟨x, i, none⟩ = _ := fun i => HXB.out.cell i
  unfold zero8 at hc0
  clear hxb hu1 hu2 hx HN HSL hsz
  · have hk1 : (kind != 1) = true := by simpa using hk.1
    have hk2 : (kind != 2) = true := by simpa using hk.2
    have HV := Lib.hid (show negL (bytesOf qn) qt qc kind (bytesOf r.name) r.type r.ttl r.data.l now = none from negL_bad (.inl hk))
    go_wp2_with fail
    refine bodyPost_ret (v := .tuple #[.agg zero8, .int .i64 1]) (by simp [results, Try.results18, zero8, go_sem, hc0]) rfl ?_
    rw [HV.out]
    refine ⟨Upd.of_below' ?_, .inl ⟨rfl, rfl⟩⟩
    rw [HG.out]
    exact ((((((((HN2.out.bel.setCell (by simp) _).setCell (by simp) _).setCell (by simp) _).setCell (by simp) _).setCell (by simp) _).setCell (by simp) _).setCell (by simp) _).setCell (by simp) _)
end Go.Proofs.Ytlhbikdelbollaa
