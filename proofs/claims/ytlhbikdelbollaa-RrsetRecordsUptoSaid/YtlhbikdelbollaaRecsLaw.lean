/- RrsetRecords: the walk. -/
import Derived.Test.YtlhbikdelbollaaRefRecs
import Derived.Test.YtlhbikdelbollaaSpoil
import Derived.Test.YtlhbikdelbollaaSame8
import Derived.Test.YtlhbikdelbollaaAwake
import Derived.Test.YtlhbikdelbollaaEnds
namespace Go.Proofs.Ytlhbikdelbollaa
open Go.RowKit Go.Cx Go.Maps

theorem own_rrs {base : Nat} {A : Option Addr} {n c : Nat} {rs : List RRV} {w : World} (h : RRsOwn base A n c rs w) (hn : n ≤ 2000000) : RRsAt w w.heap.size A n c rs :=
  ⟨h.len, own_cap h.out, by omega, Rd.own h.out, fun r hr => ⟨(h.ints r hr).1, (h.ints r hr).2.1, (h.ints r hr).2.2.1, (h.ints r hr).2.2.2, (h.rows r hr).sl⟩⟩
def RecQ (q : Nat) (L : List RRC) (w : World) (e : Ending) (w' : World) : Prop :=
  ∃ (A' : Option Addr) (c' : Nat) (rs : List RRV), e = .returned (.slice A' q c') ∧ RRsOwn w.heap.size A' q c' rs w' ∧ rs.map RRV.said = L ∧ Upd Nix w w'
theorem RecQ.of {s : SetC} {now : Int} {w : World} {e : Ending} {w' : World} {L : List RRC} {q : Nat} (h : RecordsIs s now w e w') (hL : recordsL s now = L) (hq : L.length = q) : RecQ q L w e w' := by
  obtain ⟨A, c, rs, he, h1, h2, h3⟩ := h
  have : rs.length = q := by rw [← hq, ← hL, ← h2, List.length_map]
  rw [this] at he h1
  exact ⟨A, c, rs, he, h1, h2.trans hL, h3⟩
/-- the cells of the i-th record -/
theorem rr_idx {base c q i : Nat} {A : Option Addr} {rs : List RRV} {w : World} {r : RRV} (h : w.ownsRow base 35 5 (.slice A q c) q ((rs.map RRV.cells).flatten)) (hq : rs.length = q) (hr : rs[i]? = some r) :
    ∃ go, A = some ⟨go, 0, none⟩ ∧ ∀ j, j < 5 → w.cell? ⟨go, i * 5 + j, none⟩ = r.cells[j]? := by
  subst hq
  have hi : i < rs.length := (List.getElem?_eq_some_iff.1 hr).1
  obtain ⟨ad, hA, hB, hc⟩ := (Rd.own h).2 (by omega)
  rcases h.2 with ⟨hv, h0⟩ | ⟨g, cap, cur, hv, hg, _⟩
  · injection hv with h1 h2 h3
    omega
  · injection hv with h1 h2 h3
    rw [h1] at hA
    injection hA with hA
    subst hA
    refine ⟨g, h1, fun j hj => ?_⟩
    have hadd : (⟨g, 0, none⟩ : Addr).add (i * 5 + j) = ⟨g, i * 5 + j, none⟩ := by
      unfold Addr.add
      split <;> simp_all
    have h5 : j < r.cells.length := hj
    have k0 := hc (i * 5 + j) _ (by rw [flat_at RRV.cells 5 (fun _ => rfl) rs i j r hr hj, List.getElem?_eq_getElem h5])
    rw [hadd] at k0
    rw [k0, List.getElem?_eq_getElem h5]
set_option maxRecDepth 100000 in
set_option maxHeartbeats 6400000 in
theorem rrsetRecords (s : SetV) (now : Int) (w : World) (h : SetAt w w.heap.size s) (_hw : (Lit.int .i64 now).wf = true) (hn : s.dn ≤ 1048576) : Calls Try.prog 7 #[s.agg, .int .i64 now] w fun e w' => e = .returned (.bool true) ∧ Below w.heap.size w w' := by
  have H := Lib.hid h
  clear h
  have hb : Blk (w.alloc (.cells s.cells.toArray 28)) w.heap.size 28 s.cells.toArray := Blk.new w _ _
  have hu : Upd Nix w (w.alloc (.cells s.cells.toArray 28)) := (Upd.refl _ _).alloc _
  have hcopy := ref_copy s (w.alloc (.cells s.cells.toArray 28)) ((H.out.below (hu.belowNix (Nat.le_refl _))).more hu.size) (by omega)
  have hsz : (w.alloc (.cells s.cells.toArray 28)).heap.size = w.heap.size + 1 := by simp
  unfold SetV.agg at hcopy ⊢
  unfold SetV.cells at hb hu hcopy hsz
  have HB := Lib.hid hb
  have HU := Lib.hid hu
  have HCOPY := Lib.hid hcopy
  have HSZ := Lib.hid hsz
  have hc : ∀ i, (w.alloc (.cells [Value.string s.name, .int .i64 s.type, .int .i64 s.cls, .int .i64 s.rank, .int .i64 s.kind, .int .i64 s.exp, .string s.zone, .slice s.dA s.dn s.dc].toArray 28)).cell? ⟨w.heap.size, i, none⟩ = _ := fun i => hb.cell i
  clear hb hu hcopy hsz
  go_enter Try.func7, Try.ntmps7
  go_wp2_with fail
  refine HCOPY.out.mono ?_
  rintro e w1 ⟨A1, c1, rows1, rfl, hnx, hrows⟩
  have hu1 := hnx.upd
  have hb1 := HB.out.upd hu1 fun h => h
  have hrn : rows1.length = s.dn := by have := hnx.own.1; simpa using this
  obtain ⟨gs, hgs⟩ : ∃ gs : SetV, gs = { s with dA := A1, dc := c1, rows := rows1 } := ⟨_, rfl⟩
  have hsaid : gs.said = s.said := by rw [hgs]; simp [SetV.said, hrows]
  have hgat : SetAt w1 w1.heap.size gs := by
    rw [hgs]
    exact ⟨H.out.t, H.out.c, H.out.r, H.out.k, H.out.e, H.out.name, H.out.zone, ⟨hrn, own_cap hnx.own, by have := H.out.rows.small; exact this, Rd.own hnx.own, fun r hr => (hnx.rows r hr).sl⟩⟩
  have hgagg : gs.agg = .agg #[.string s.name, .int .i64 s.type, .int .i64 s.cls, .int .i64 s.rank, .int .i64 s.kind, .int .i64 s.exp, .string s.zone, .slice A1 s.dn c1] := by rw [hgs]; rfl
  have hgdn : gs.dn = s.dn := by rw [hgs]
  have hgrec := fun (W : World) (hW : Upd Nix w1 W) => rrset_records gs now W w1.heap.size (hgat.below (hW.belowNix (Nat.le_refl _))) hW.size (by rw [hgdn]; omega)
  have hgfresh := fun (W : World) => rrset_fresh gs now W
  rw [hgagg] at hgrec hgfresh
  have hsrec := fun (W : World) (hW : Upd Nix w1 W) => ref_records s now W w.heap.size (H.out.below ((HU.out.trans (hu1.trans hW fun _ _ h => h) fun _ _ h => h).belowNix (Nat.le_refl _))) (Nat.le_trans (HU.out.trans hu1 fun _ _ h => h).size hW.size) (by omega)
  have hsfresh := fun (W : World) => ref_fresh s now W
  unfold SetV.agg at hsrec hsfresh
  have hga : RowsAt w1 w1.heap.size A1 s.dn c1 rows1 := ⟨hrn, own_cap hnx.own, H.out.rows.small, Rd.own hnx.own, fun r hr => (hnx.rows r hr).sl⟩
  have HGA := Lib.hid hga
  have hgl := hb1.lt
  clear hga
  have HROWS := Lib.hid hrows
  have HU1 := Lib.hid (HU.out.trans hu1 fun _ _ h => h)
  have HB1 := Lib.hid hb1
  have HSAID := Lib.hid hsaid
  have HGAT := Lib.hid hgat
  have HGREC := Lib.hid hgrec
  have HGFR := Lib.hid hgfresh
  have HSREC := Lib.hid hsrec
  have HSFR := Lib.hid hsfresh
  have HGDN := Lib.hid hgdn
  have hc1 : ∀ i, w1.cell? ⟨w.heap.size, i, none⟩ = _ := fun i => hb1.cell i
  clear hu1 hb1 hnx hrows hsaid hgat hgagg hgdn hgrec hgfresh hsrec hsfresh hc hrn hgs
  go_wp2_with fail
  obtain ⟨RL, hRL⟩ : ∃ RL, recordsL s.said now = RL := ⟨_, rfl⟩
  obtain ⟨q, hq⟩ : ∃ q, RL.length = q := ⟨_, rfl⟩
  have hqn : q ≤ 2000000 := by
    have h1 := recordsL_len s.said now
    rw [hRL, hq] at h1
    have h2 : s.said.datas.length = s.dn := by simp [SetV.said, H.out.rows.len]
    omega
  have hgRL : recordsL gs.said now = RL := by rw [HSAID.out]; exact hRL
  have hu2 : Upd Nix w1 (w1.alloc (.cells #[.string s.name, .int .i64 s.type, .int .i64 s.cls, .int .i64 s.rank, .int .i64 s.kind, .int .i64 s.exp, .string s.zone, .slice A1 s.dn c1] 28)) := (Upd.refl _ _).alloc _
  have hb5 := Blk.new w1 28 #[.string s.name, .int .i64 s.type, .int .i64 s.cls, .int .i64 s.rank, .int .i64 s.kind, .int .i64 s.exp, .string s.zone, .slice A1 s.dn c1]
  generalize (w1.alloc (.cells #[.string s.name, .int .i64 s.type, .int .i64 s.cls, .int .i64 s.rank, .int .i64 s.kind, .int .i64 s.exp, .string s.zone, .slice A1 s.dn c1] 28)) = w2 at *
  refine (HGREC.out w2 hu2).mono ?_
  intro e w3 hrec
  obtain ⟨A3, c3, rs3, rfl, ho3, hs3, hu3⟩ := RecQ.of hrec hgRL hq
  have hu13 : Upd Nix w1 w3 := hu2.trans hu3 fun _ _ h => h
  have hb03 := HB1.out.upd hu13 fun h => h
  have hb53 := hb5.upd hu3 fun h => h
  obtain ⟨g, hg⟩ : ∃ g, w.heap.size = g := ⟨_, rfl⟩
  obtain ⟨g5, hg5⟩ : ∃ g5, w1.heap.size = g5 := ⟨_, rfl⟩
  have hg5B : g5 < w2.heap.size := by have := hb5.lt; omega
  have hgB : g < g5 := by omega
  have hw3 : w2.heap.size ≤ w3.heap.size := hu3.size
  rw [hg] at hb03 ⊢
  rw [hg5] at hb53 ⊢
  have hkeep : ∀ W, Upd Nix w3 W → (∀ i, W.cell? ⟨g, i, none⟩ = ([Value.string s.name, .int .i64 s.type, .int .i64 s.cls, .int .i64 s.rank, .int .i64 s.kind, .int .i64 s.exp, .string s.zone, .slice s.dA s.dn s.dc].toArray)[i]?) ∧ (∀ i, W.cell? ⟨g5, i, none⟩ = (#[Value.string s.name, .int .i64 s.type, .int .i64 s.cls, .int .i64 s.rank, .int .i64 s.kind, .int .i64 s.exp, .string s.zone, .slice A1 s.dn c1])[i]?) := fun W hW =>
    ⟨(hb03.upd hW fun h => h).cell, (hb53.upd hW fun h => h).cell⟩
  have hrecs : ∀ W, Upd Nix w3 W → Calls Try.prog 21 #[.agg #[.string s.name, .int .i64 s.type, .int .i64 s.cls, .int .i64 s.rank, .int .i64 s.kind, .int .i64 s.exp, .string s.zone, .slice s.dA s.dn s.dc], .int .i64 now] W (RecQ q RL W) := fun W hW =>
    (HSREC.out W (hu13.trans hW fun _ _ h => h)).mono fun e w' h => RecQ.of h hRL hq
  have hsame : ∀ W A4 c4 rs4 B4, Upd Nix w3 W → RRsOwn B4 A4 q c4 rs4 W → rs4.map RRV.said = RL → Calls Try.prog 17 #[.slice A3 q c3, .slice A4 q c4] W fun e w' => e = .returned (.bool true) ∧ Upd Nix W w' := fun W A4 c4 rs4 B4 hW ho4 hs4 =>
    same_rrs A3 A4 q c3 c4 rs3 rs4 W (own_rrs (ho3.upd hW) hqn) (own_rrs ho4 hqn) (hs3.trans hs4.symm)
  have HG := Lib.hid hg
  have HG5 := Lib.hid hg5
  have HO3 := Lib.hid ho3
  have HS3 := Lib.hid hs3
  have HU3 := Lib.hid hu13
  have HB03 := Lib.hid hb03
  have HB53 := Lib.hid hb53
  have KEEP := Lib.hid hkeep
  have RECS := Lib.hid hrecs
  have SAME := Lib.hid hsame
  have hgf : ∀ W, Calls Try.prog 22 #[.agg #[.string s.name, .int .i64 s.type, .int .i64 s.cls, .int .i64 s.rank, .int .i64 s.kind, .int .i64 s.exp, .string s.zone, .slice A1 s.dn c1], .int .i64 now] W fun e w' => e = .returned (.bool (freshL s.said now)) ∧ Upd Nix W w' := fun W => by
    have := HGFR.out W
    rw [HSAID.out] at this
    exact this
  have GFR := Lib.hid hgf
  obtain ⟨fr, hfr⟩ : ∃ fr, freshL s.said now = fr := ⟨_, rfl⟩
  rw [hfr] at GFR HSFR
  clear hRL hq hgRL hu2 hb5 hrec ho3 hs3 hu3 hu13 hb03 hb53 hkeep hrecs hsame hgf hfr hg hg5 hc1
  go_wp2_with fail
  go_region_held3 (fun w' => (∀ i, w'.cell? ⟨g, i, none⟩ = ([Value.string s.name, .int .i64 s.type, .int .i64 s.cls, .int .i64 s.rank, .int .i64 s.kind, .int .i64 s.exp, .string s.zone, .slice s.dA s.dn s.dc].toArray)[i]?) ∧ (∀ i, w'.cell? ⟨g5, i, none⟩ = (#[Value.string s.name, .int .i64 s.type, .int .i64 s.cls, .int .i64 s.rank, .int .i64 s.kind, .int .i64 s.exp, .string s.zone, .slice A1 s.dn c1])[i]?))
    (first | with_reducible exact KEEP.out _ HU7.out | with_reducible exact KEEP.out _ HU6.out | with_reducible exact KEEP.out _ HU5.out | with_reducible exact KEEP.out _ HU4.out | with_reducible exact KEEP.out _ (Upd.refl _ _).drew | fail)
    ((first
    | (go_at_call 21; (with_reducible refine (RECS.out _ (Upd.refl _ _).drew).mono ?_); rintro e w4 ⟨A4, c4, rs4, rfl, ho4, hs4, hu4⟩; have HU4 := Lib.hid ((Upd.refl Nix w3).drew.trans hu4 fun _ _ h => h); have HO4 := Lib.hid ho4; have HS4 := Lib.hid hs4; clear ho4 hs4 hu4)
    | (go_at_call 17; (with_reducible refine (SAME.out _ _ _ _ _ HU4.out HO4.out HS4.out).mono ?_); rintro e w5 ⟨rfl, hu5⟩; have HU5 := Lib.hid (HU4.out.trans hu5 fun _ _ h => h); clear hu5)
    | (go_at_call 22; (with_reducible refine (GFR.out _).mono ?_); rintro e w6 ⟨rfl, hu6⟩; have HU6 := Lib.hid (HU5.out.trans hu6 fun _ _ h => h); clear hu6)
    | (go_at_call 23; (with_reducible refine (HSFR.out _).mono ?_); rintro e w7 ⟨rfl, hu7⟩; have HU7 := Lib.hid (HU6.out.trans hu7 fun _ _ h => h); clear hu7)))
  all_goals
    have ho7 := HO3.out.upd HU7.out
    have hrow7 : ∀ r ∈ rs3, RowU w7 w2.heap.size r.data := fun r hr => RowU.of (ho7.rows r hr)
    have hsm : ∀ r ∈ rs3, r.data.n ≤ 140737488355328 := fun r hr => (ho7.rows r hr).small
    have hlen7 := ho7.len
    have hout7 := ho7.out
    obtain ⟨B3, hB3⟩ : ∃ B3, w2.heap.size = B3 := ⟨_, rfl⟩
    rw [hB3] at hrow7 hout7 hg5B hw3
    have hw7 : B3 ≤ w7.heap.size := Nat.le_trans hw3 HU7.out.size
    have HROW7 := Lib.hid hrow7
    have HOUT7 := Lib.hid hout7
    have HSM := Lib.hid hsm
    have HL7 := Lib.hid hlen7
    clear ho7 hrow7 hsm hlen7 hout7 hB3
    go_wp2_with fail
    go_loopw [31] (fun s31 wr => ∃ k : Nat, k ≤ q ∧ s31 = .int .i64 (k : Nat) ∧ Below B3 w7 wr ∧ wr.ownsRow B3 35 5 (.slice A3 q c3) q ((rs3.map RRV.cells).flatten) ∧ ∀ r ∈ rs3, RowU wr B3 r.data) (fun s31 _ => q - (intOf s31).toNat)
    case atStart => exact ⟨0, by omega, rfl, Below.refl _ _, HOUT7.out, HROW7.out⟩
    case round =>
      obtain ⟨k, hk, rfl, hbel, hout, hrow⟩ := hrel
      by_cases hkq : k < q
      · have hki : (k : Int) < (q : Int) := by omega
        obtain ⟨r, hr⟩ : ∃ r, rs3[k]? = some r := ⟨_, List.getElem?_eq_getElem (by rw [HL7.out]; exact hkq)⟩
        obtain ⟨go, rfl, hcells⟩ := rr_idx hout HL7.out hr
        have hmem := List.mem_of_getElem? hr
        have k0 : wr.cell? ⟨go, k * 5, none⟩ = some (.string r.name) := hcells 0 (by omega)
        have k1 : wr.cell? ⟨go, k * 5 + 1, none⟩ = some (.int .i64 r.type) := hcells 1 (by omega)
        have k2 : wr.cell? ⟨go, k * 5 + 2, none⟩ = some (.int .i64 r.cls) := hcells 2 (by omega)
        have k3 : wr.cell? ⟨go, k * 5 + 3, none⟩ = some (.int .i64 r.ttl) := hcells 3 (by omega)
        have k4 : wr.cell? ⟨go, k * 5 + 4, none⟩ = some (.slice r.data.A r.data.n r.data.c) := hcells 4 (by omega)
        have hsp : ∀ W, Upd Nix wr W → W.cell? ⟨wr.heap.size + 1, 0, none⟩ = some (.slice r.data.A r.data.n r.data.c) → Calls Try.prog 16 #[.slice (some ⟨wr.heap.size + 1, 0, none⟩) 1 1] W (SpoilIs r.data W) := fun W hW hc =>
          spoil_one r.data (wr.heap.size + 1) B3 W hc ((hrow r hmem).upd hW fun _ _ h => h) (HSM.out r hmem)
        have HSP := Lib.hid hsp
        have HBEL := Lib.hid hbel
        have HOUT := Lib.hid hout
        have HROW := Lib.hid hrow
        have HMEM := Lib.hid hmem
        have hBw : B3 ≤ wr.heap.size := Nat.le_trans hw7 hbel.size
        clear hsp hbel hout hrow hcells hr hmem
        have hcl : ∀ (O : Obj) (v : Value), ((wr.alloc O).alloc (.cells #[v] 33)).cell? ⟨wr.heap.size + 1, 0, none⟩ = some v := fun O v => (Blk.new' (wr.alloc O) 33 #[v] (by simp)).cell 0
        have HCL := Lib.hid hcl
        clear hcl
        go_wp2_with fail
        have hW : Upd Nix wr ((wr.alloc (.cells #[.string r.name, .int .i64 r.type, .int .i64 r.cls, .int .i64 r.ttl, .slice r.data.A r.data.n r.data.c] 35)).alloc (.cells #[.slice r.data.A r.data.n r.data.c] 33)) := ((Upd.refl _ _).alloc _).alloc _
        refine (HSP.out _ hW (HCL.out _ _)).mono ?_
        rintro e w8 ⟨rfl, hu8, hk8⟩
        obtain ⟨l9, ho9, _⟩ := (HROW.out r HMEM.out).upd hW fun _ _ h => h
        have hbel8 : Below B3 w7 w8 := HBEL.out.trans ((hW.belowNix hBw).trans (hu8.below (Nat.le_trans hBw hW.size) fun b _ hb => own_ge ho9 b hb))
        have hoW := own_upd' HOUT.out hW fun _ _ h => h
        have hout8 := own_upd' hoW hu8 fun b hb hS => own_ne_own hoW ho9 (by decide) b hb hS
        have hrow8 : ∀ r' ∈ rs3, RowU w8 B3 r'.data := fun r' hr' => hk8 B3 r'.data ((HROW.out r' hr').upd hW fun _ _ h => h)
        have HX8 := Lib.hid (And.intro hbel8 (And.intro hout8 hrow8))
        clear hW hu8 hk8 ho9 hoW hbel8 hout8 hrow8
        go_wp2_with fail
        refine ⟨⟨k + 1, by omega, by rfl, HX8.out.1, HX8.out.2.1, HX8.out.2.2⟩, ?_⟩
        simp only [intOf]; omega
      · have hki : ¬ (k : Int) < (q : Int) := by omega
        have hB3w : B3 ≤ wr.heap.size := Nat.le_trans hw7 hbel.size
        have h17 : Below w1.heap.size w1 w7 := ((HU3.out.trans HU7.out fun _ _ h => h)).belowNix (Nat.le_refl _)
        have hgB3 : w1.heap.size ≤ B3 := by have := HG5.out; omega
        have h1r : Below w1.heap.size w1 wr := h17.trans (hbel.mono hgB3)
        have h0r : Below w.heap.size w wr := (HU1.out.belowNix (Nat.le_refl _)).trans (h1r.mono HU1.out.size)
        have hga : RowsAt wr wr.heap.size A1 s.dn c1 rows1 := (HGA.out.below h1r).more (Nat.le_trans hgB3 hB3w)
        have hsa : RowsAt wr wr.heap.size s.dA s.dn s.dc s.rows := (H.out.rows.below h0r).more h0r.size
        have hsame8 := same8 s.name s.zone s.type s.cls s.rank s.kind s.exp A1 s.dA s.dn c1 s.dc rows1 s.rows wr hga hsa HROWS.out
        have hb0 := (HB03.out.upd HU7.out fun h => h).below hbel (by omega)
        have hb5 := (HB53.out.upd HU7.out fun h => h).below hbel hg5B
        have hc0 : ∀ i, wr.cell? ⟨g, i, none⟩ = _ := fun i => hb0.cell i
        have hc5 : ∀ i, wr.cell? ⟨g5, i, none⟩ = _ := fun i => hb5.cell i
        have HSM8 := Lib.hid hsame8
        have H0R := Lib.hid h0r
        have hsz : w.heap.size ≤ wr.heap.size := h0r.size
        clear hbel hout hrow h17 h1r h0r hga hsa hsame8 hb0 hb5
        go_wp2_with fail
        refine HSM8.out.mono ?_
        rintro e w8 ⟨rfl, hu8⟩
        have HU8 := Lib.hid hu8
        clear hu8 hc0 hc5
        go_wp2_with (go_at_call 12; refine (law_awake _).mono ?_; rintro e w9 ⟨rfl, hu9⟩; have HU9 := Lib.hid (HU8.out.trans hu9 fun _ _ h => h); clear hu9)
        go_ret
        exact ⟨rfl, H0R.out.trans (HU9.out.belowNix hsz)⟩
end Go.Proofs.Ytlhbikdelbollaa
