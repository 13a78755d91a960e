/- The law RrsetBack, walked. -/
import Derived.Test.YtlhbikdelbollaaEnds
import Derived.Test.YtlhbikdelbollaaBackL
import Derived.Test.YtlhbikdelbollaaSame8
namespace Go.Proofs.Ytlhbikdelbollaa
open Go.RowKit Go.Cx Go.Maps

theorem RRsOwn.rrs {base : Nat} {A : Option Addr} {n c : Nat} {rs : List RRV} {wr : World} (h : RRsOwn base A n c rs wr) (hn : n ≤ 10000000000000) : RRsAt wr wr.heap.size A n c rs :=
  ⟨h.len, own_cap h.out, hn, Rd.own h.out, fun r hr => by
    obtain ⟨i1, i2, i3, i4⟩ := h.ints r hr
    exact ⟨i1, i2, i3, i4, (h.rows r hr).sl⟩⟩
theorem set_eq {s x : SetV} (h : x.said = s.said) (h1 : x.dn = x.rows.length) (h2 : s.dn = s.rows.length) : x.name = s.name ∧ x.type = s.type ∧ x.cls = s.cls ∧ x.rank = s.rank ∧ x.kind = s.kind ∧ x.exp = s.exp ∧ x.zone = s.zone ∧ x.dn = s.dn ∧ x.rows.map Row.l = s.rows.map Row.l := by
  have e9 : x.rows.map Row.l = s.rows.map Row.l := congrArg SetC.datas h
  have e10 := congrArg List.length e9
  rw [List.length_map, List.length_map] at e10
  exact ⟨bytesOf_inj (congrArg SetC.name h), congrArg SetC.type h, congrArg SetC.cls h, congrArg SetC.rank h, congrArg SetC.kind h, congrArg SetC.exp h, bytesOf_inj (congrArg SetC.zone h), by omega, e9⟩

set_option maxRecDepth 100000 in
set_option maxHeartbeats 6400000 in
theorem law_back (A : Option Addr) (n c : Nat) (rs : List RRV) (x y : Int) (hx : (Lit.int .i64 x).wf = true) (hy : (Lit.int .i64 y).wf = true) (w : World) (h : RRsAt w w.heap.size A n c rs) :
    Calls Try.prog 3 #[.slice A n c, .int .i64 x, .int .i64 y] w fun e w' => e = .returned (.bool true) ∧ Below w.heap.size w w' := by
  have H := Lib.hid h
  have hnc := h.nc
  have hsm := h.small
  have hx' := wf_i64 hx
  have hy' := wf_i64 hy
  clear h
  go_enter Try.func3, Try.ntmps3
  go_upto_region 1 with fail
  go_cut [1] (fun s1 wx => w = wx ∧ ∃ a : Nat, s1 = .int .i64 a ∧ a < 1000000)
  case first =>
    go_wp2_with fail
    go_meet
    obtain ⟨a, ha, ha2⟩ := umod x 1000000 (by omega) (by omega)
    exact ⟨rfl, a, congrArg (Value.int .i64) ha, ha2⟩
  case rest =>
  obtain ⟨rfl, a, rfl, ha⟩ := hcut
  obtain ⟨b, hb, hb2⟩ := umod y 100000 (by omega) (by omega)
  have HBM := Lib.hid hb
  clear hx hy hx' hy' hb
  obtain ⟨m, hm⟩ : ∃ m, (min (n : Int) 30).toNat = m := ⟨_, rfl⟩
  have hmn : m ≤ n := by omega
  have hm30 : m ≤ 30 := by omega
  have HF := Lib.hid (H.out.front hmn)
  have HMM := Lib.hid hm
  clear hm
  go_wp2_with fail
  rw [HMM.out]
  refine (rrset_group A m c (rs.take m) 3 a (by decide) w w.heap.size HF.out (Nat.le_refl _) (by omega)).mono ?_
  rintro e w1 ⟨A1, c1, ss, rfl, hS, hsaid, hu⟩
  have hform : ∀ s ∈ ss, s.said.kind = 0 ∧ s.said.rank = 3 ∧ s.said.zone = [] ∧ canSet s.said = true ∧ s.said.datas.Pairwise (fun x y => cmpN x y < 0) ∧ s.exp ≤ a + 86400 := by
    intro s hs
    have h1 : s.said ∈ setsOf 3 a (byL (rs.take m)) := by rw [← hsaid]; exact List.mem_map.2 ⟨s, hs, rfl⟩
    obtain ⟨f1, f2, f3, f4, f5⟩ := setsOf_form (byL_ne _) h1
    have h2 := setsOf_exp 3 a _ (byL_ne _) _ h1
    have h3 : timeL (a : Int) = a := by unfold timeL; omega
    rw [h3] at h2
    exact ⟨f1, f2, f3, f4, f5, h2.2.2⟩
  have HS := Lib.hid hS
  have HFORM := Lib.hid hform
  have hdn4 : ∀ s ∈ ss, s.dn ≤ 1000000 ∧ s.dn = s.rows.length := by
    intro s hs
    have h2 := canSet_small (hform s hs).2.2.2.1
    have h3 := (hS.rows s hs).1.1
    simp only [List.length_map, Nat.mul_one] at h3
    have h4 : s.said.datas.length = s.rows.length := by show (s.rows.map Row.l).length = _; rw [List.length_map]
    omega
  have HDN4 := Lib.hid hdn4
  have HDN := Lib.hid (fun s hs => Nat.le_trans (hdn4 s hs).1 (by omega) : ∀ s ∈ ss, s.dn ≤ 10000000000000)
  clear hdn4
  have HU := Lib.hid hu
  obtain ⟨q, hq⟩ : ∃ q, ss.length = q := ⟨_, rfl⟩
  have hql : q ≤ 30 := by
    have h1 := congrArg List.length hsaid
    have h2 := setsOf_len 3 (a : Int) (byL (rs.take m))
    have h3 := byL_len (rs.take m)
    rw [List.length_map] at h1
    rw [List.length_take] at h3
    omega
  rw [hq] at HS ⊢
  have HQ := Lib.hid hq
  clear hS hsaid hform hu hq
  go_wp2_with fail
  go_loopw [24] (fun s24 wr => ∃ k : Nat, k ≤ q ∧ s24 = .int .i64 k ∧ Upd Nix w1 wr) (fun s24 _ => q - (intOf s24).toNat)
  case atStart => exact ⟨0, Nat.zero_le _, rfl, Upd.refl _ _⟩
  case round =>
    obtain ⟨k, hk, rfl, hur⟩ := hrel
    have HUR := Lib.hid hur
    clear hur
    by_cases hkq : k < q
    · have hki : (k : Int) < (q : Int) := by omega
      obtain ⟨s, hs⟩ : ∃ s, ss[k]? = some s := ⟨_, List.getElem?_eq_getElem (by rw [HQ.out]; exact hkq)⟩
      have hSr := HS.out.upd HUR.out
      obtain ⟨go, hcells, hidx⟩ := hSr.idx hkq hs
      have hsm := List.mem_of_getElem? hs
      have HSF := Lib.hid (HFORM.out s hsm)
      have HD := Lib.hid (HDN4.out s hsm)
      have HSAT := Lib.hid (hSr.at HDN.out s hsm)
      have hd0 : wr.cell? ⟨go, k * 8, none⟩ = some (.string s.name) := hcells 0 (by omega)
      have hd1 : wr.cell? ⟨go, k * 8 + 1, none⟩ = some (.int .i64 s.type) := hcells 1 (by omega)
      have hd2 : wr.cell? ⟨go, k * 8 + 2, none⟩ = some (.int .i64 s.cls) := hcells 2 (by omega)
      have hd3 : wr.cell? ⟨go, k * 8 + 3, none⟩ = some (.int .i64 s.rank) := hcells 3 (by omega)
      have hd4 : wr.cell? ⟨go, k * 8 + 4, none⟩ = some (.int .i64 s.kind) := hcells 4 (by omega)
      have hd5 : wr.cell? ⟨go, k * 8 + 5, none⟩ = some (.int .i64 s.exp) := hcells 5 (by omega)
      have hd6 : wr.cell? ⟨go, k * 8 + 6, none⟩ = some (.string s.zone) := hcells 6 (by omega)
      have hd7 : wr.cell? ⟨go, k * 8 + 7, none⟩ = some (.slice s.dA s.dn s.dc) := hcells 7 (by omega)
      clear hs hSr hcells hsm
      go_wp2_with fail
      obtain ⟨t, ht⟩ : ∃ t : Nat, wrap64 ((a : Int) + wrap64 ((IntKind.u64.wrap y).tmod 100000)) = (t : Int) ∧ t = a + b := ⟨a + b, by
        have hbb := HBM.out
        rw [show ((100000 : Nat) : Int) = 100000 from rfl] at hbb
        rw [hbb]
        unfold wrap64
        omega, rfl⟩
      obtain ⟨ht, htab⟩ := ht
      rw [ht]
      have htl : timeL (t : Int) = t := by unfold timeL; omega
      have htlt : t < 1100000 := by omega
      have hat : a ≤ t := by omega
      clear ht htab
      generalize IntKind.u64.wrap y = y1 at *
      generalize hy2 : y1.tmod 100000 = y2 at *
      clear hy2
      obtain ⟨g8, hg8⟩ : ∃ g, wr.heap.size = g := ⟨_, rfl⟩
      have hb8 : Blk (wr.alloc (.cells s.cells.toArray 28)) g8 28 s.cells.toArray := Blk.new' _ _ _ hg8.symm
      have hub : Upd Nix wr (wr.alloc (.cells s.cells.toArray 28)) := (Upd.refl _ _).alloc _
      have hsb : SetAt (wr.alloc (.cells s.cells.toArray 28)) (wr.heap.size) s := HSAT.out.below ((Below.refl _ _).alloc (Nat.le_refl _) _)
      have hrec := rrset_records s (t : Int) _ _ hsb (by simp) HD.out.1
      unfold SetV.agg at hrec
      unfold SetV.cells at hb8 hub hrec
      rw [hg8] at *
      refine hrec.mono ?_
      clear hrec hd0 hd1 hd2 hd3 hd4 hd5 hd6 hd7 hidx hsb
      rintro e w3 ⟨A3, c3, rs3, rfl, hro, hrs3, hu3⟩
      have hb3 := hb8.upd hu3 (by simp [Nix])
      have HB3 := Lib.hid hb3
      have HU3 := Lib.hid (HUR.out.trans (hub.trans hu3 fun _ _ h => h) fun _ _ h => h)
      have HU03 := Lib.hid (hub.trans hu3 fun _ _ h => h)
      have hl3 : rs3.length ≤ 1000000 := by
        have h1 := congrArg List.length hrs3
        rw [List.length_map] at h1
        have h2 := recordsL_len s.said (t : Int)
        have h3 := HD.out
        have h4 : s.said.datas.length = s.rows.length := by show (s.rows.map Row.l).length = _; rw [List.length_map]
        omega
      have hc8 : ∀ i, w3.cell? ⟨g8, i, none⟩ = _ := fun i => hb3.cell i
      have hg8l := hb3.lt
      by_cases hex : s.exp ≤ (t : Int)
      · have hz : rs3.length = 0 := by
          have hno : ¬ (s.said.kind = 0 ∧ timeL (t : Int) < s.said.exp) := by
            rintro ⟨_, h⟩
            rw [htl] at h
            have h' : (t : Int) < s.exp := h
            omega
          rw [recordsL_no _ _ hno] at hrs3
          have := congrArg List.length hrs3
          simpa using this
        rw [hz] at hro ⊢
        have HZ := Lib.hid hz
        clear hz hro hrs3 hb3 hb8 hub hu3 hg8
        go_wp2_with fail
        refine ⟨⟨k + 1, by omega, by rfl, HU3.out⟩, ?_⟩
        simp only [intOf]; omega
      · have hlt : (t : Int) < s.exp := by omega
        have HFI := Lib.hid (back_law HSF.out.1 HSF.out.2.1 HSF.out.2.2.1 HSF.out.2.2.2.1 HSF.out.2.2.2.2.1 hrs3 (by rw [htl]; exact hlt) (by rw [htl]; have h1 := HSF.out.2.2.2.2.2; show s.exp ≤ _; omega))
        obtain ⟨z, hz⟩ : ∃ z, rs3.length = z := ⟨_, rfl⟩
        rw [hz] at hro hl3 ⊢
        have HRR := Lib.hid (hro.rrs (by omega))
        clear hz hro hrs3 hb3 hb8 hub hu3 hg8
        go_wp2_with fail
        refine (rrset_group A3 z c3 rs3 3 t (by decide) w3 w3.heap.size HRR.out (Nat.le_refl _) hl3).mono ?_
        rintro e w4 ⟨A4, c4, xs, rfl, hX, hxs, hu4⟩
        rw [HFI.out] at hxs
        obtain ⟨x0, rfl⟩ : ∃ x, xs = [x] := by
          have h1 := congrArg List.length hxs
          rw [List.length_map] at h1
          exact List.length_eq_one_iff.1 h1
        simp only [List.map_cons, List.map_nil, List.cons.injEq, and_true, List.length_cons, List.length_nil, Nat.zero_add] at hX hxs ⊢
        have hxr := hX.rows x0 (by simp)
        have hxd : x0.dn = x0.rows.length := by
          have h1 := hxr.1.1
          simp only [List.length_map, Nat.mul_one] at h1
          omega
        obtain ⟨e1, e2, e3, e4, e5, e6, e7, e8, e9⟩ := set_eq hxs hxd HD.out.2
        obtain ⟨go4, hcells4, hidx4⟩ := hX.idx (i := 0) (by omega) (by rfl)
        have hxat := hX.at (by intro s' hs'; simp only [List.mem_singleton] at hs'; subst hs'; rw [e8]; have := HD.out.1; omega) x0 (by simp)
        have hsame : ∀ W, Upd Nix w4 W → Calls Try.prog 11 #[.agg #[.string s.name, .int .i64 s.type, .int .i64 s.cls, .int .i64 s.rank, .int .i64 s.kind, .int .i64 s.exp, .string s.zone, .slice x0.dA s.dn x0.dc], .agg #[.string s.name, .int .i64 s.type, .int .i64 s.cls, .int .i64 s.rank, .int .i64 s.kind, .int .i64 s.exp, .string s.zone, .slice s.dA s.dn s.dc]] W fun e w' => e = .returned (.bool true) ∧ Upd Nix W w' := by
          intro W hW
          have r1 := ((hxat.rows.below (Upd.belowNix hW (Nat.le_refl _))).more hW.size)
          have u2 : Upd Nix wr W := (HU03.out.trans hu4 fun _ _ h => h).trans hW fun _ _ h => h
          have r2 := ((HSAT.out.rows.below (Upd.belowNix u2 (Nat.le_refl _))).more u2.size)
          rw [e8] at r1
          exact same8 s.name s.zone s.type s.cls s.rank s.kind s.exp x0.dA s.dA s.dn x0.dc s.dc x0.rows s.rows W r1 r2 e9
        have HSAME := Lib.hid hsame
        have hq0 : w4.cell? ⟨go4, 0, none⟩ = some (.string s.name) := by rw [← e1]; exact hcells4 0 (by omega)
        have hq1 : w4.cell? ⟨go4, 1, none⟩ = some (.int .i64 s.type) := by rw [← e2]; exact hcells4 1 (by omega)
        have hq2 : w4.cell? ⟨go4, 2, none⟩ = some (.int .i64 s.cls) := by rw [← e3]; exact hcells4 2 (by omega)
        have hq3 : w4.cell? ⟨go4, 3, none⟩ = some (.int .i64 s.rank) := by rw [← e4]; exact hcells4 3 (by omega)
        have hq4 : w4.cell? ⟨go4, 4, none⟩ = some (.int .i64 s.kind) := by rw [← e5]; exact hcells4 4 (by omega)
        have hq5 : w4.cell? ⟨go4, 5, none⟩ = some (.int .i64 s.exp) := by rw [← e6]; exact hcells4 5 (by omega)
        have hq6 : w4.cell? ⟨go4, 6, none⟩ = some (.string s.zone) := by rw [← e7]; exact hcells4 6 (by omega)
        have hq7 : w4.cell? ⟨go4, 7, none⟩ = some (.slice x0.dA s.dn x0.dc) := by rw [← e8]; exact hcells4 7 (by omega)
        have hidx : ∀ W, (Instr.indexAt 24 (.slice A4 1 c4) (.int .i64 0)).run Try.prog W = .ok (.pointer (some ⟨go4, 0, none⟩)) W := hidx4
        have hb4 := HB3.out.upd hu4 (by simp [Nix])
        have hc84 : ∀ i, w4.cell? ⟨g8, i, none⟩ = _ := fun i => hb4.cell i
        have hg84 := hb4.lt
        have HU4 := Lib.hid (HU3.out.trans hu4 fun _ _ h => h)
        clear hcells4 hidx4 hsame hb4 hu4 e1 e2 e3 e4 e5 e6 e7 e8 e9 hxr hxd hxat hX hxs hc8 hg8l
        go_wp2_with fail
        go_region_with ((go_at_call 11; (with_reducible refine (HSAME.out _ (Upd.refl _ _).drew).mono ?_); rintro e w5 ⟨rfl, hu5⟩))
        all_goals
          have HU5 := Lib.hid ((HU4.out.drew).trans hu5 fun _ _ h => h)
          clear hu5
          go_wp2_with fail
          refine ⟨⟨k + 1, by omega, by rfl, HU5.out⟩, ?_⟩
          simp only [intOf]; omega
    · have hki : ¬ (k : Int) < (q : Int) := by omega
      go_wp2_with fail
      refine (law_awake wr).mono ?_
      rintro e w4 ⟨rfl, hu4⟩
      go_wp2_with fail
      go_ret
      exact ⟨rfl, ((HU.out.trans HUR.out fun _ _ h => h).trans hu4 fun _ _ h => h).belowNix (Nat.le_refl _)⟩
theorem back_walk (A : Option Addr) (n c : Nat) (rs : List RRV) (x y : Int) (w : World) (h : RRsAt w w.heap.size A n c rs) (hx : (Lit.int .i64 x).wf = true) (hy : (Lit.int .i64 y).wf = true) :
    Calls Try.prog 3 #[.slice A n c, .int .i64 x, .int .i64 y] w fun e w' => e = .returned (.bool true) ∧ Below w.heap.size w w' := law_back A n c rs x y hx hy w h
end Go.Proofs.Ytlhbikdelbollaa
