/- The law RrsetNegatives: the walk. -/
import Derived.Test.YtlhbikdelbollaaNegP0
import Derived.Test.YtlhbikdelbollaaNegP1
import Derived.Test.YtlhbikdelbollaaNegP2
import Derived.Test.YtlhbikdelbollaaNegR0
import Derived.Test.YtlhbikdelbollaaNegR1
import Derived.Test.YtlhbikdelbollaaNegR2
import Derived.Test.YtlhbikdelbollaaAwake
import Derived.Test.YtlhbikdelbollaaSame8
namespace Go.Proofs.Ytlhbikdelbollaa
open Go.RowKit Go.Cx Go.Maps

theorem rrset_negative (qn : ByteArray) (qt qc kind : Int) (r : RRV) (now : Int) (w : World) (h : RRAt w w.heap.size r) (hqn : qn.size ≤ 140737488355328) (hqt : (Lit.int .i64 qt).wf = true) (hqc : (Lit.int .i64 qc).wf = true) (hki : (Lit.int .i64 kind).wf = true) :
    Calls Try.prog 18 #[.agg #[.string qn, .int .i64 qt, .int .i64 qc], .int .i64 kind, r.agg, .int .i64 now] w (NegIs (negL (bytesOf qn) qt qc kind (bytesOf r.name) r.type r.ttl r.data.l now) w) := by
  by_cases h1 : kind = 1
  · exact rrset_neg1 qn qt qc kind r now w h hqn hqt hqc hki h1
  · by_cases h2 : kind = 2
    · exact rrset_neg2 qn qt qc kind r now w h hqn hqt hqc hki h2
    · exact rrset_neg0 qn qt qc kind r now w h hqn hqt hqc hki ⟨h1, h2⟩
theorem ref_negative (qn : ByteArray) (qt qc kind : Int) (r : RRV) (now : Int) (w : World) (h : RRAt w w.heap.size r) (hqn : qn.size ≤ 140737488355328) (hqt : (Lit.int .i64 qt).wf = true) (hqc : (Lit.int .i64 qc).wf = true) (hki : (Lit.int .i64 kind).wf = true) :
    Calls Try.prog 19 #[.agg #[.string qn, .int .i64 qt, .int .i64 qc], .int .i64 kind, r.agg, .int .i64 now] w (NegIs (negL (bytesOf qn) qt qc kind (bytesOf r.name) r.type r.ttl r.data.l now) w) := by
  by_cases h1 : kind = 1
  · exact ref_neg1 qn qt qc kind r now w h hqn hqt hqc hki h1
  · by_cases h2 : kind = 2
    · exact ref_neg2 qn qt qc kind r now w h hqn hqt hqc hki h2
    · exact ref_neg0 qn qt qc kind r now w h hqn hqt hqc hki ⟨h1, h2⟩
def noSet : SetC := ⟨[], 0, 0, 0, 0, 0, [], []⟩
/-- what both answer, a set in either case -/
theorem NegIs.both {res : Option SetC} {w w' : World} {e : Ending} (h : NegIs res w e w') : Upd Nix w w' ∧ ∃ (s : SetV) (er : Int), e = .returned (.tuple #[s.agg, .int .i64 er]) ∧ RowsAt w' w'.heap.size s.dA s.dn s.dc s.rows ∧ s.said = res.getD noSet ∧ er = if res = none then 1 else 0 := by
  obtain ⟨hu, ⟨h1, h2⟩ | ⟨s, h1, h2, h3⟩⟩ := h
  · refine ⟨hu, ⟨⟨#[]⟩, 0, 0, 0, 0, 0, ⟨#[]⟩, none, 0, 0, []⟩, 1, h2, ⟨rfl, Nat.le_refl _, (by show (0 : Nat) ≤ _; omega), ⟨rfl, fun h => absurd h (Nat.lt_irrefl 0)⟩, fun r hr => by cases hr⟩, ?_, by rw [h1]; rfl⟩
    rw [h1]
    rfl
  · exact ⟨hu, s, 0, h2, h3.rows, by rw [h1]; rfl, by rw [h1]; rfl⟩
set_option maxRecDepth 100000 in
set_option maxHeartbeats 6400000 in
theorem rrsetNegatives (qn : ByteArray) (qt qc kind : Int) (r : RRV) (now : Int) (w : World) (h : RRAt w w.heap.size r) (hqn : qn.size ≤ 140737488355328) (hqt : (Lit.int .i64 qt).wf = true) (hqc : (Lit.int .i64 qc).wf = true) (hki : (Lit.int .i64 kind).wf = true) :
    Calls Try.prog 6 #[.agg #[.string qn, .int .i64 qt, .int .i64 qc], .int .i64 kind, r.agg, .int .i64 now] w fun e w' => e = .returned (.bool true) ∧ Below w.heap.size w w' := by
  have P := Lib.hid fun W (h : RRAt W W.heap.size r) => rrset_negative qn qt qc kind r now W h hqn hqt hqc hki
  have R := Lib.hid fun W (h : RRAt W W.heap.size r) => ref_negative qn qt qc kind r now W h hqn hqt hqc hki
  obtain ⟨res, hres⟩ : ∃ res, negL (bytesOf qn) qt qc kind (bytesOf r.name) r.type r.ttl r.data.l now = res := ⟨_, rfl⟩
  rw [hres] at P R
  have H := Lib.hid h
  clear h hres hqt hqc hki
  unfold RRV.agg at P R ⊢
  obtain ⟨g, hg⟩ : ∃ g, w.heap.size = g := ⟨_, rfl⟩
  go_enter Try.func6, Try.ntmps6
  go_upto_region 1 with fail
  have hq : Blk ((w.alloc (.cells #[.string qn, .int .i64 qt, .int .i64 qc] 41)).alloc (.cells #[.string r.name, .int .i64 r.type, .int .i64 r.cls, .int .i64 r.ttl, .slice r.data.A r.data.n r.data.c] 35)) g 41 #[.string qn, .int .i64 qt, .int .i64 qc] := (Blk.new' _ _ _ hg.symm).alloc _
  have hr : Blk ((w.alloc (.cells #[.string qn, .int .i64 qt, .int .i64 qc] 41)).alloc (.cells #[.string r.name, .int .i64 r.type, .int .i64 r.cls, .int .i64 r.ttl, .slice r.data.A r.data.n r.data.c] 35)) (g + 1) 35 #[.string r.name, .int .i64 r.type, .int .i64 r.cls, .int .i64 r.ttl, .slice r.data.A r.data.n r.data.c] := Blk.new' _ _ _ (by simp [hg])
  have hu0 : Upd Nix w ((w.alloc (.cells #[.string qn, .int .i64 qt, .int .i64 qc] 41)).alloc (.cells #[.string r.name, .int .i64 r.type, .int .i64 r.cls, .int .i64 r.ttl, .slice r.data.A r.data.n r.data.c] 35)) := ((Upd.refl _ _).alloc _).alloc _
  generalize ((w.alloc (.cells #[.string qn, .int .i64 qt, .int .i64 qc] 41)).alloc (.cells #[.string r.name, .int .i64 r.type, .int .i64 r.cls, .int .i64 r.ttl, .slice r.data.A r.data.n r.data.c] 35)) = wa at *
  have HQ := Lib.hid hq
  have HR := Lib.hid hr
  have HU0 := Lib.hid hu0
  have hat := ((H.out.below (hu0.belowNix (Nat.le_refl _))).more hu0.size)
  have HP := Lib.hid (P.out wa hat)
  have c1 : ∀ i, wa.cell? ⟨g, i, none⟩ = _ := fun i => hq.cell i
  have c2 : ∀ i, wa.cell? ⟨g + 1, i, none⟩ = _ := fun i => hr.cell i
  have l1 := hq.lt
  have l2 := hr.lt
  clear hq hr hu0 hat hg
  go_wp2_with fail
  refine HP.out.mono ?_
  intro e w1 hneg
  obtain ⟨hu1, s, er, rfl, hrows, hsaid, her⟩ := hneg.both
  obtain ⟨n1, t1, k1, r1, d1, x1, z1, A1, m1, q1, rows1⟩ := s
  have HSAID := Lib.hid hsaid
  have HER := Lib.hid her
  clear hsaid her
  unfold SetV.agg
  simp only
  clear c1 c2 l1 l2 hneg
  go_upto_region 2 with fail
  obtain ⟨a9, ha9⟩ : ∃ a, w1.heap.size = a := ⟨_, rfl⟩
  have hb9 : Blk (w1.alloc (.cells #[.string n1, .int .i64 t1, .int .i64 k1, .int .i64 r1, .int .i64 d1, .int .i64 x1, .string z1, .slice A1 m1 q1] 28)) a9 28 #[.string n1, .int .i64 t1, .int .i64 k1, .int .i64 r1, .int .i64 d1, .int .i64 x1, .string z1, .slice A1 m1 q1] := Blk.new' _ _ _ ha9.symm
  have hk2 : Upd Nix w1 (w1.alloc (.cells #[.string n1, .int .i64 t1, .int .i64 k1, .int .i64 r1, .int .i64 d1, .int .i64 x1, .string z1, .slice A1 m1 q1] 28)) := (Upd.refl _ _).alloc _
  rw [ha9]
  generalize w1.alloc (.cells #[.string n1, .int .i64 t1, .int .i64 k1, .int .i64 r1, .int .i64 d1, .int .i64 x1, .string z1, .slice A1 m1 q1] 28) = w2 at *
  have hu2 := hu1.trans hk2 fun _ _ h => h
  have hrows2 := (hrows.below (hk2.belowNix (Nat.le_refl _))).more hk2.size
  have HU2 := Lib.hid (HU0.out.trans hu2 fun _ _ h => h)
  have hq2 := HQ.out.upd hu2 (by simp [Nix])
  have hr2 := HR.out.upd hu2 (by simp [Nix])
  have HB9 := Lib.hid hb9
  have HROWS := Lib.hid hrows2
  have HP2 := Lib.hid (R.out w2 ((H.out.below (HU2.out.belowNix (Nat.le_refl _))).more HU2.out.size))
  have c1 : ∀ i, w2.cell? ⟨g, i, none⟩ = _ := fun i => hq2.cell i
  have c2 : ∀ i, w2.cell? ⟨g + 1, i, none⟩ = _ := fun i => hr2.cell i
  clear hb9 hk2 hu2 hrows2 hrows hq2 hr2 hu1 ha9 HP
  go_wp2_with fail
  refine HP2.out.mono ?_
  intro e w3 hneg
  obtain ⟨hu3, s, er2, rfl, hrows, hsaid, her⟩ := hneg.both
  obtain ⟨n2, t2, k2, r2, d2, x2, z2, A2, m2, q2, rows2⟩ := s
  unfold SetV.agg
  simp only
  have hee : er2 = er := by rw [her, HER.out]
  subst hee
  have hss := HSAID.out.trans hsaid.symm
  unfold SetV.said at hss
  simp only [SetC.mk.injEq] at hss
  obtain ⟨e1, rfl, rfl, rfl, rfl, rfl, e2, e3⟩ := hss
  obtain rfl := bytesOf_inj e1
  obtain rfl := bytesOf_inj e2
  have hm : m2 = m1 := by
    have h1 := congrArg List.length e3
    simp only [List.length_map] at h1
    have h2 : rows2.length = m2 := hrows.len
    have h3 : rows1.length = m1 := HROWS.out.len
    omega
  subst hm
  clear hneg c1 c2 hsaid her e1 e2
  go_upto_region 3 with fail
  obtain ⟨a11, ha11⟩ : ∃ a, w3.heap.size = a := ⟨_, rfl⟩
  have hb11 : Blk (w3.alloc (.cells #[.string n1, .int .i64 t1, .int .i64 k1, .int .i64 r1, .int .i64 d1, .int .i64 x1, .string z1, .slice A2 m2 q2] 28)) a11 28 #[.string n1, .int .i64 t1, .int .i64 k1, .int .i64 r1, .int .i64 d1, .int .i64 x1, .string z1, .slice A2 m2 q2] := Blk.new' _ _ _ ha11.symm
  have hk4 : Upd Nix w3 (w3.alloc (.cells #[.string n1, .int .i64 t1, .int .i64 k1, .int .i64 r1, .int .i64 d1, .int .i64 x1, .string z1, .slice A2 m2 q2] 28)) := (Upd.refl _ _).alloc _
  rw [ha11]
  generalize w3.alloc (.cells #[.string n1, .int .i64 t1, .int .i64 k1, .int .i64 r1, .int .i64 d1, .int .i64 x1, .string z1, .slice A2 m2 q2] 28) = w4 at *
  have hu4 := hu3.trans hk4 fun _ _ h => h
  have hr4 := (hrows.below (hk4.belowNix (Nat.le_refl _))).more hk4.size
  have hr9 := (HROWS.out.below (hu4.belowNix (Nat.le_refl _))).more hu4.size
  have hb9 := HB9.out.upd hu4 (by simp [Nix])
  have SAME := Lib.hid (same8 n1 z1 t1 k1 r1 d1 x1 A1 A2 m2 q1 q2 rows1 rows2 w4 hr9 hr4 e3)
  have HU4 := Lib.hid (HU2.out.trans hu4 fun _ _ h => h)
  have c1 : ∀ i, w4.cell? ⟨a9, i, none⟩ = _ := fun i => hb9.cell i
  have c2 : ∀ i, w4.cell? ⟨a11, i, none⟩ = _ := fun i => hb11.cell i
  clear hb9 hb11 hk4 hu4 hr4 hr9 hrows hu3 e3 ha11
  go_wp2_with (first
    | (go_at_call 11; refine SAME.out.mono ?_; rintro e w5 ⟨rfl, hu5⟩; have HU5 := Lib.hid (HU4.out.trans hu5 fun _ _ h => h); clear hu5)
    | (go_at_call 12; refine (law_awake _).mono ?_; rintro e w6 ⟨rfl, hu6⟩; have HU6 := Lib.hid (HU5.out.trans hu6 fun _ _ h => h); clear hu6))
  go_ret
  exact ⟨rfl, HU6.out.belowNix (Nat.le_refl _)⟩
end Go.Proofs.Ytlhbikdelbollaa
