/- rrset.Group. -/
import Derived.Test.YtlhbikdelbollaaGroupL
import Derived.Test.YtlhbikdelbollaaEntryD
import Derived.Deep.RegionHeld3
namespace Go.Proofs.Ytlhbikdelbollaa
open Go.RowKit Go.Cx Go.Maps

/-- groups that can be read -/
structure GR (base : Nat) (A : Option Addr) (n c : Nat) (gs : List Grp) (svs : List Sv) (wr : World) : Prop where
  out : wr.ownsRow base 22 1 (.slice A n c) n (svs.map Sv.val)
  len : gs.length = n
  grp : ∀ (i : Nat) (g : Grp) (sv : Sv), gs[i]? = some g → svs[i]? = some sv → wr.ownsRow base 35 5 sv.val g.2.length ((g.2.map RRV.cells).flatten) ∧ sv.n = g.2.length
section
variable {base n c : Nat} {A : Option Addr} {gs : List Grp} {svs : List Sv} {wr wr' : World}
theorem GR.upd (h : GR base A n c gs svs wr) (k : Upd Nix wr wr') : GR base A n c gs svs wr' :=
  ⟨own_upd' h.out k fun _ _ h => h, h.len, fun i g sv h1 h2 => ⟨own_upd' (h.grp i g sv h1 h2).1 k fun _ _ h => h, (h.grp i g sv h1 h2).2⟩⟩
theorem GR.own {base' e size m : Nat} {v : Value} {xs : List Value} (h : GR base A n c gs svs wr) (hv : wr.ownsRow base' e size v m xs) (h1 : e ≠ 22) (h2 : e ≠ 35) (k : Upd (Own v) wr wr') : GR base A n c gs svs wr' :=
  ⟨own_upd' h.out k fun b hb hS => own_ne_own h.out hv (Ne.symm h1) b hb hS, h.len, fun i g sv e1 e2 => ⟨own_upd' (h.grp i g sv e1 e2).1 k fun b hb hS => own_ne_own (h.grp i g sv e1 e2).1 hv (Ne.symm h2) b hb hS, (h.grp i g sv e1 e2).2⟩⟩
theorem sizeRRss (W : World) : (sizeOf (Try.prog.elem 53)).run Try.prog W = .ok 1 W := by kernel_rfl
set_option maxRecDepth 100000 in
theorem GR.idx (h : GR base A n c gs svs wr) (hne : ∀ g ∈ gs, g.2 ≠ []) {i : Nat} (hi : i < n) : ∃ (go gb sc : Nat) (g : Grp), gs[i]? = some g ∧ wr.cell? ⟨go, i, none⟩ = some (.slice (some ⟨gb, 0, none⟩) g.2.length sc) ∧ go < wr.heap.size ∧
    (∀ W, (Instr.indexAt 53 (.slice A n c) (.int .i64 (i : Int))).run Try.prog W = .ok (.pointer (some ⟨go, i, none⟩)) W) ∧ wr.ownsRow base 35 5 (.slice (some ⟨gb, 0, none⟩) g.2.length sc) g.2.length ((g.2.map RRV.cells).flatten) := by
  have hsl : svs.length = n := by have := h.out.1; simpa using this
  obtain ⟨g, hg⟩ : ∃ g, gs[i]? = some g := ⟨_, List.getElem?_eq_getElem (by rw [h.len]; exact hi)⟩
  obtain ⟨sv, hs⟩ : ∃ sv, svs[i]? = some sv := ⟨_, List.getElem?_eq_getElem (by omega)⟩
  obtain ⟨hown, hsn⟩ := h.grp i g sv hg hs
  have hpos := List.length_pos_iff.2 (hne g (List.mem_of_getElem? hg))
  obtain ⟨go, rfl⟩ : ∃ go, A = some ⟨go, 0, none⟩ := by
    rcases h.out.2 with ⟨hv, h0⟩ | ⟨go, cap, cur, hv, _⟩
    · omega
    · injection hv with e1
      exact ⟨go, e1⟩
  obtain ⟨sA, sn, sc⟩ := sv
  simp only at hsn
  subst hsn
  obtain ⟨gb, rfl⟩ : ∃ gb, sA = some ⟨gb, 0, none⟩ := by
    rcases hown.2 with ⟨hv, h0⟩ | ⟨go, cap, cur, hv, _⟩
    · omega
    · injection hv with e1
      exact ⟨go, e1⟩
  have hc := own_cell h.out (i := i) (show (svs.map Sv.val)[i]? = some (.slice (some ⟨gb, 0, none⟩) g.2.length sc) by rw [List.getElem?_map, hs]; rfl)
  refine ⟨go, gb, sc, g, hg, hc.1, lt_of_cell hc.1, fun W => ?_, hown⟩
  rw [run_indexAt_slice W 53 ⟨go, 0, none⟩ n c .i64 (i : Int) Try.underlying53, if_pos ⟨by omega, by omega⟩, sizeRRss W]
  simp [Result.andThen, Addr.add]
  intro h
  omega
/-- the cells of a group's record -/
theorem grp_cells {gb sc : Nat} {g : List RRV} (h : wr.ownsRow base 35 5 (.slice (some ⟨gb, 0, none⟩) g.length sc) g.length ((g.map RRV.cells).flatten)) {j : Nat} {r : RRV} (hr : g[j]? = some r) : gb < wr.heap.size ∧ ∀ i, i < 5 → wr.cell? ⟨gb, j * 5 + i, none⟩ = r.cells[i]? := by
  have hj := (List.getElem?_eq_some_iff.1 hr).1
  obtain ⟨ad, hA, hB, hc⟩ := (Rd.own h).2 (by omega)
  injection hA with hA
  subst hA
  refine ⟨hB, fun i hi => ?_⟩
  have h1 := flat_at RRV.cells 5 (fun _ => rfl) g j i r hr hi
  have h2 : i < r.cells.length := hi
  rw [List.getElem?_eq_getElem h2] at h1 ⊢
  have := hc _ _ h1
  have hadd : (⟨gb, 0, none⟩ : Addr).add (j * 5 + i) = ⟨gb, j * 5 + i, none⟩ := by unfold Addr.add; split <;> simp_all
  rwa [hadd] at this
end

/-- the sets that are there: where they lie -/
structure SetsAt (base : Nat) (A : Option Addr) (n c : Nat) (ss : List SetV) (wr : World) : Prop where
  out : wr.ownsRow base 28 8 (.slice A n c) n ((ss.map SetV.cells).flatten)
  len : ss.length = n
  rows : ∀ s ∈ ss, wr.ownsRow base 33 1 (.slice s.dA s.dn s.dc) s.dn (s.rows.map Row.val) ∧ ∀ r ∈ s.rows, OwnRow wr base r
  ints : ∀ s ∈ ss, (Lit.int .i64 s.type).wf = true ∧ (Lit.int .i64 s.cls).wf = true ∧ (Lit.int .i64 s.rank).wf = true ∧ (Lit.int .i64 s.kind).wf = true ∧ (Lit.int .i64 s.exp).wf = true ∧ s.name.size ≤ 140737488355328 ∧ s.zone.size ≤ 140737488355328
theorem SetsAt.upd {base : Nat} {A : Option Addr} {n c : Nat} {ss : List SetV} {wr wr' : World} (h : SetsAt base A n c ss wr) (k : Upd Nix wr wr') : SetsAt base A n c ss wr' :=
  ⟨own_upd' h.out k fun _ _ h => h, h.len, fun s hs => ⟨own_upd' (h.rows s hs).1 k fun _ _ h => h, fun r hr => ((h.rows s hs).2 r hr).upd k fun _ _ h => h⟩, h.ints⟩

theorem timeL_range (t : Int) : 0 ≤ timeL t ∧ timeL t ≤ 1099511541376 := by unfold timeL; omega
theorem lifeL_range (t : Int) : 0 ≤ lifeL t ∧ lifeL t ≤ 86400 := by unfold lifeL; split <;> omega
theorem minLife_range (r0 : RRV) (g : List RRV) : 0 ≤ minLife (lifeL r0.ttl) (g.map RRV.said) ∧ minLife (lifeL r0.ttl) (g.map RRV.said) ≤ 86400 := by
  have h : ∀ (l : List RRC) (a : Int), 0 ≤ a → a ≤ 86400 → 0 ≤ minLife a l ∧ minLife a l ≤ 86400 := by
    intro l
    induction l with
    | nil => intro a h1 h2; exact ⟨h1, h2⟩
    | cons r l ih =>
      intro a h1 h2
      have := lifeL_range r.ttl
      exact ih (min a (lifeL r.ttl)) (by omega) (by omega)
  have := lifeL_range r0.ttl
  exact h _ _ this.1 this.2
theorem upd8 {w w5 : World} {z : Nat} {a b c d e f g h : Value} (k : Upd Nix w w5) (hz : w.heap.size ≤ z) :
    Upd Nix w ((((((((w5.setCell ⟨z, 0, none⟩ a).setCell ⟨z, 1, none⟩ b).setCell ⟨z, 2, none⟩ c).setCell ⟨z, 3, none⟩ d).setCell ⟨z, 4, none⟩ e).setCell ⟨z, 5, none⟩ f).setCell ⟨z, 6, none⟩ g).setCell ⟨z, 7, none⟩ h) := by
  refine (((((((k.setCell ?_ _).setCell ?_ _).setCell ?_ _).setCell ?_ _).setCell ?_ _).setCell ?_ _).setCell ?_ _).setCell ?_ _ <;> (intro h; simp only at h; omega)
theorem own_base {w : World} {b b' : Nat} {e : TypeId} {size n : Nat} {v : Value} {xs : List Value} (h : w.ownsRow b e size v n xs) (hb : b' ≤ b) : w.ownsRow b' e size v n xs := by
  refine ⟨h.1, ?_⟩
  rcases h.2 with h | ⟨g, cap, cur, hv, hb2, r⟩
  · exact .inl h
  · exact .inr ⟨g, cap, cur, hv, Nat.le_trans hb hb2, r⟩
theorem SetsAt.push {base : Nat} {A A' : Option Addr} {n c c' : Nat} {ss : List SetV} {s : SetV} {w6 w10 : World} {o : Obj} (h : SetsAt base A n c ss w6) (hn : ss.length = n) (ho : w6.ownsRow base 33 1 (.slice s.dA s.dn s.dc) s.dn (s.rows.map Row.val) ∧ ∀ r ∈ s.rows, OwnRow w6 base r)
    (hi : (Lit.int .i64 s.type).wf = true ∧ (Lit.int .i64 s.cls).wf = true ∧ (Lit.int .i64 s.rank).wf = true ∧ (Lit.int .i64 s.kind).wf = true ∧ (Lit.int .i64 s.exp).wf = true ∧ s.name.size ≤ 140737488355328 ∧ s.zone.size ≤ 140737488355328)
    (hown : w10.ownsRow base 28 8 (.slice A' (n + 1) c') (n + 1) ((ss.map SetV.cells).flatten ++ s.cells)) (hg : (w6.alloc o).grownBy w10 (Value.slice A n c).ownBlock) : SetsAt base A' (n + 1) c' (ss ++ [s]) w10 := by
  have u1 : Upd Nix w6 (w6.alloc o) := (Upd.refl _ _).alloc o
  have u2 := upd_grown (v := .slice A n c) hg
  have hout := own_upd' h.out u1 fun _ _ h => h
  have keep : ∀ x : SetV, (w6.ownsRow base 33 1 (.slice x.dA x.dn x.dc) x.dn (x.rows.map Row.val) ∧ ∀ r ∈ x.rows, OwnRow w6 base r) → (w10.ownsRow base 33 1 (.slice x.dA x.dn x.dc) x.dn (x.rows.map Row.val) ∧ ∀ r ∈ x.rows, OwnRow w10 base r) := fun x hx => by
    refine ⟨?_, fun r hr => ?_⟩
    · have h1 := own_upd' hx.1 u1 fun _ _ h => h
      exact own_upd' h1 u2 fun b hb hS => own_ne_own h1 hout (by decide) b hb hS
    · have h1 := (hx.2 r hr).upd u1 fun _ _ h => h
      exact h1.upd u2 fun b hb hS => own_ne_own h1.own hout (by decide) b hb hS
  refine ⟨by simpa using hown, by simp [hn], fun x hx => ?_, fun x hx => ?_⟩
  · rcases List.mem_append.1 hx with hx | hx
    · exact keep x (h.rows x hx)
    · simp only [List.mem_singleton] at hx
      subst hx
      exact keep x ho
  · rcases List.mem_append.1 hx with hx | hx
    · exact h.ints x hx
    · simp only [List.mem_singleton] at hx
      subst hx
      exact hi
def SetBuilt (b0 : Nat) (wr : World) (cells : Option Addr → Nat → Nat → Array Value) (ds : List (List Nat)) (p : Value) (W : World) : Prop :=
  ∃ (z : Nat) (A9 : Option Addr) (n9 c9 : Nat) (rows9 : List Row), p = .pointer (some ⟨z, 0, none⟩) ∧ Blk W z 28 (cells A9 n9 c9) ∧ W.ownsRow b0 33 1 (.slice A9 n9 c9) n9 (rows9.map Row.val) ∧ Ordered (rows9.map Row.l) ds ∧ (∀ r ∈ rows9, OwnRow W b0 r) ∧ Upd Nix wr W
theorem SetBuilt.ofAlloc {b0 b1 : Nat} {wr w5 : World} {cells : Option Addr → Nat → Nat → Array Value} {ds : List (List Nat)} {A9 : Option Addr} {n9 c9 : Nat} {rows9 : List Row} (hR : w5.ownsRow b1 33 1 (.slice A9 n9 c9) n9 (rows9.map Row.val) ∧ Ordered (rows9.map Row.l) ds ∧ ∀ r ∈ rows9, OwnRow w5 b1 r)
    (hb : b0 ≤ b1) (hU : Upd Nix wr w5) : SetBuilt b0 wr cells ds (.pointer (some ⟨w5.heap.size, 0, none⟩)) (w5.alloc (.cells (cells A9 n9 c9) 28)) :=
  ⟨_, A9, n9, c9, rows9, rfl, Blk.new _ _ _, (own_base hR.1 hb).alloc _, hR.2.1, fun r hr => ((hR.2.2 r hr).base' hb).upd ((Upd.refl Nix _).alloc _) fun _ _ h => h, hU.alloc _⟩
theorem SetBuilt.ofStore {b0 b1 z : Nat} {wr w5 : World} {zs : Array Value} {a b c d e f g : Value} {ds : List (List Nat)} {A9 : Option Addr} {n9 c9 : Nat} {rows9 : List Row} (hR : w5.ownsRow b1 33 1 (.slice A9 n9 c9) n9 (rows9.map Row.val) ∧ Ordered (rows9.map Row.l) ds ∧ ∀ r ∈ rows9, OwnRow w5 b1 r)
    (hb : b0 ≤ b1) (hU : Upd Nix wr w5) (hz : wr.heap.size ≤ z) (hB : Blk w5 z 28 zs) (hzs : zs.size = 8) :
    SetBuilt b0 wr (fun A n cc => #[a, b, c, d, e, f, g, .slice A n cc]) ds (.pointer (some ⟨z, 0, none⟩))
      ((((((((w5.setCell ⟨z, 0, none⟩ a).setCell ⟨z, 1, none⟩ b).setCell ⟨z, 2, none⟩ c).setCell ⟨z, 3, none⟩ d).setCell ⟨z, 4, none⟩ e).setCell ⟨z, 5, none⟩ f).setCell ⟨z, 6, none⟩ g).setCell ⟨z, 7, none⟩ (.slice A9 n9 c9)) := by
  have hone : One z z := rfl
  have hk : Upd (One z) w5 ((((((((w5.setCell ⟨z, 0, none⟩ a).setCell ⟨z, 1, none⟩ b).setCell ⟨z, 2, none⟩ c).setCell ⟨z, 3, none⟩ d).setCell ⟨z, 4, none⟩ e).setCell ⟨z, 5, none⟩ f).setCell ⟨z, 6, none⟩ g).setCell ⟨z, 7, none⟩ (.slice A9 n9 c9)) := by
    iterate 8 refine Upd.set ?_ hone _
    exact Upd.refl _ _
  obtain ⟨x0, x1, x2, x3, x4, x5, x6, x7, rfl⟩ : ∃ x0 x1 x2 x3 x4 x5 x6 x7, zs = #[x0, x1, x2, x3, x4, x5, x6, x7] := by
    obtain ⟨l⟩ := zs
    match l, hzs with
    | [x0, x1, x2, x3, x4, x5, x6, x7], _ => exact ⟨_, _, _, _, _, _, _, _, rfl⟩
  have hbl := (((((((hB.set 0 a).set 1 b).set 2 c).set 3 d).set 4 e).set 5 f).set 6 g).set 7 (.slice A9 n9 c9)
  simp only [List.setIfInBounds_toArray, List.set_cons_zero, List.set_cons_succ] at hbl
  refine ⟨z, A9, n9, c9, rows9, rfl, hbl, own_upd' (own_base hR.1 hb) hk (fun b hb hS => ?_), hR.2.1, fun r hr => ((hR.2.2 r hr).base' hb).upd hk (fun b hb hS => ?_), upd8 hU hz⟩
  · have hS' : b = z := hS
    subst hS'
    exact own_ne_blk' hR.1 hB (by decide) hb
  · have hS' : b = z := hS
    subst hS'
    exact own_ne_blk' (hR.2.2 r hr).own hB (by decide) hb
theorem infoSet : (Try.prog.info? 28).map (fun i => (i.zero, i.size, i.bytes)) = some (some (.agg #[.string ⟨#[]⟩, .int .i64 0, .int .i64 0, .int .i64 0, .int .i64 0, .int .i64 0, .string ⟨#[]⟩, .slice none 0 0]), 8, 96) := by kernel_rfl
def GroupIs (rs : List RRV) (rank now : Int) (w : World) (e : Ending) (w' : World) : Prop :=
  ∃ (A' : Option Addr) (c' : Nat) (ss : List SetV), e = .returned (.slice A' ss.length c') ∧ SetsAt w.heap.size A' ss.length c' ss w' ∧ ss.map SetV.said = setsOf rank now (byL rs) ∧ Upd Nix w w'

set_option maxRecDepth 100000 in
set_option maxHeartbeats 6400000 in
theorem rrset_group (A : Option Addr) (n c : Nat) (rs : List RRV) (rank now : Int) (hrank : (Lit.int .i64 rank).wf = true) (w : World) (B : Nat) (h : RRsAt w B A n c rs) (hB : B ≤ w.heap.size) (hn : n ≤ 1000000) :
    Calls Try.prog 9 #[.slice A n c, .int .i64 rank, .int .i64 now] w (GroupIs rs rank now w) := by
  obtain ⟨i0, hi0, hz0, hz1, hz2⟩ := info_parts infoRow
  have H := Lib.hid h
  clear h
  go_enter Try.func9, Try.ntmps9
  go_wp2_with fail
  refine (rrset_by A n c rs w B H.out hB hn).mono ?_
  rintro e w1 ⟨A1, c1, M, svs, f, rfl, hG⟩
  have hgr : GR w.heap.size A1 (byL rs).length c1 (byL rs) svs w1 := ⟨hG.out, hG.len, hG.grp⟩
  have hsub := byL_sub rs
  have hne := byL_ne rs
  have hgl := byL_grp rs
  have hml := byL_len rs
  rw [H.out.len] at hml hgl
  generalize hgs : byL rs = gs at *
  obtain ⟨m, hm⟩ : ∃ m, gs.length = m := ⟨_, rfl⟩
  rw [hm] at hgr hml ⊢
  have HBEL := Lib.hid (Upd.of_below' hG.bel)
  have HG := Lib.hid hgr
  have HSUB := Lib.hid hsub
  have HNE := Lib.hid hne
  have HGL := Lib.hid hgl
  have HM := Lib.hid hm
  have HGS := Lib.hid hgs
  clear hG hgr hsub hne hgl hm hgs
  go_wp2_with fail
  go_loopw [7, 18] (fun s7 s18 wr => ∃ (k : Nat) (A2 : Option Addr) (c2 : Nat) (ss : List SetV), k ≤ m ∧ s18 = .int .i64 k ∧ s7 = .slice A2 ss.length c2 ∧ SetsAt w.heap.size A2 ss.length c2 ss wr ∧ ss.map SetV.said = setsOf rank now (gs.take k) ∧ ss.length ≤ k ∧ GR w.heap.size A1 m c1 gs svs wr ∧ Upd Nix w wr) (fun _ s18 _ => m - (intOf s18).toNat)
  case atStart => exact ⟨0, none, 0, [], Nat.zero_le _, rfl, rfl, ⟨⟨rfl, .inl ⟨rfl, rfl⟩⟩, rfl, by simp, by simp⟩, rfl, Nat.le_refl _, HG.out, HBEL.out⟩
  case round =>
    obtain ⟨k, A2, c2, ss, hk, rfl, rfl, hS, hsaid, hssk, hG, hu⟩ := hrel
    have HS := Lib.hid hS
    have HSAID := Lib.hid hsaid
    have HU := Lib.hid hu
    obtain ⟨sl, hsl⟩ : ∃ sl, ss.length = sl := ⟨_, rfl⟩
    rw [hsl] at HS hssk ⊢
    have HSL := Lib.hid hsl
    have hsz := hu.size
    by_cases hkm : k < m
    · have hki : (k : Int) < (m : Int) := by omega
      obtain ⟨go, gb, sc, g, hg, hcell, hgo, hidx, hown⟩ := hG.idx HNE.out hkm
      obtain ⟨r0, t0, hr0⟩ : ∃ r0 t0, g.2 = r0 :: t0 := by
        cases hx : g.2 with
        | nil => exact absurd hx (HNE.out g (List.mem_of_getElem? hg))
        | cons a t => exact ⟨a, t, rfl⟩
      have hgc0 := grp_cells hown (j := 0) (r := r0) (by rw [hr0]; rfl)
      have hL : g.2.length ≤ n := HGL.out g (List.mem_of_getElem? hg)
      have hgm := List.mem_of_getElem? hg
      have hra : ∀ r ∈ g.2, RRAt w B r ∧ mayL r.said = true := fun r hr => ⟨H.out.each r (HSUB.out g hgm r hr).1, (HSUB.out g hgm r hr).2⟩
      have HRA := Lib.hid hra
      have HG := Lib.hid hG
      have HGI := Lib.hid hg
      have HOWN := Lib.hid hown
      have hpos : 0 < g.2.length := by rw [hr0]; simp
      obtain ⟨L, hLL⟩ : ∃ L, g.2.length = L := ⟨_, rfl⟩
      rw [hLL] at hcell hL hpos
      have HLL := Lib.hid hLL
      have HR0 := Lib.hid hr0
      have hq0 : wr.cell? ⟨gb, 0, none⟩ = some (.string r0.name) := hgc0.2 0 (by omega)
      have hq1 : wr.cell? ⟨gb, 1, none⟩ = some (.int .i64 r0.type) := hgc0.2 1 (by omega)
      have hq2 : wr.cell? ⟨gb, 2, none⟩ = some (.int .i64 r0.cls) := hgc0.2 2 (by omega)
      have hq3 : wr.cell? ⟨gb, 3, none⟩ = some (.int .i64 r0.ttl) := hgc0.2 3 (by omega)
      have hgbl := hgc0.1
      have hposi : (0 : Int) < (L : Int) := by omega
      clear hG hg hown hr0 hgc0 hgm hra hLL hS hsaid hu hsl
      go_wp2_with fail
      refine (rrset_life r0.ttl wr).mono ?_
      rintro e w2 ⟨rfl, rfl⟩
      clear hcell hidx hq3
      go_wp2_with fail
      obtain ⟨wo, rfl⟩ : ∃ wo : World, wo = wr := ⟨_, rfl⟩
      go_loopw [10, 11, 29] (fun s10 s11 s29 wi => ∃ (j : Nat) (Ad : Option Addr) (cd : Nat), j ≤ L ∧ s29 = .int .i64 j ∧ s10 = .int .i64 (minLife (lifeL r0.ttl) ((g.2.take j).map RRV.said)) ∧ s11 = .slice Ad j cd ∧
          wi.ownsRow wo.heap.size 33 1 (.slice Ad j cd) j (((g.2.take j).map RRV.data).map Row.val) ∧ Upd Nix wo wi) (fun _ _ s29 _ => L - (intOf s29).toNat)
      case atStart => exact ⟨0, none, 0, Nat.zero_le _, rfl, by rw [List.take_zero]; rfl, rfl, ⟨rfl, .inl ⟨rfl, rfl⟩⟩, Upd.refl _ _⟩
      case round =>
        obtain ⟨j, Ad, cd, hj, rfl, rfl, rfl, hdo, hui⟩ := hrel
        have HDO := Lib.hid hdo
        have HUI := Lib.hid hui
        have hlr := minLife_range r0 (g.2.take j)
        have hszi := hui.size
        by_cases hjL : j < L
        · have hji : (j : Int) < (L : Int) := by omega
          obtain ⟨r, hr⟩ : ∃ r, g.2[j]? = some r := ⟨_, List.getElem?_eq_getElem (by rw [HLL.out]; exact hjL)⟩
          have hoi := own_upd' HOWN.out hui fun _ _ h => h
          have hgc := grp_cells hoi hr
          have HR := Lib.hid hr
          have hp0 : wr.cell? ⟨gb, j * 5, none⟩ = some (.string r.name) := hgc.2 0 (by omega)
          have hp1 : wr.cell? ⟨gb, j * 5 + 1, none⟩ = some (.int .i64 r.type) := hgc.2 1 (by omega)
          have hp2 : wr.cell? ⟨gb, j * 5 + 2, none⟩ = some (.int .i64 r.cls) := hgc.2 2 (by omega)
          have hp3 : wr.cell? ⟨gb, j * 5 + 3, none⟩ = some (.int .i64 r.ttl) := hgc.2 3 (by omega)
          have hp4 : wr.cell? ⟨gb, j * 5 + 4, none⟩ = some (.slice r.data.A r.data.n r.data.c) := hgc.2 4 (by omega)
          clear hr hoi hgc hdo hui
          obtain ⟨left, hleft⟩ : ∃ left, minLife (lifeL r0.ttl) ((g.2.take j).map RRV.said) = left := ⟨_, rfl⟩
          rw [hleft] at hlr ⊢
          have HLEFT := Lib.hid hleft
          clear hleft
          have hlf := lifeL_range r.ttl
          obtain ⟨lf, hlfe⟩ : ∃ lf, lifeL r.ttl = lf := ⟨_, rfl⟩
          rw [hlfe] at hlf
          have HLF := Lib.hid hlfe
          clear hlfe
          go_upto_region 10 with fail
          have HB13 := Lib.hid (Blk.new wr 35 #[.string r.name, .int .i64 r.type, .int .i64 r.cls, .int .i64 r.ttl, .slice r.data.A r.data.n r.data.c])
          have hui2 : Upd Nix wr (wr.alloc (.cells #[.string r.name, .int .i64 r.type, .int .i64 r.cls, .int .i64 r.ttl, .slice r.data.A r.data.n r.data.c] 35)) := (Upd.refl _ _).alloc _
          obtain ⟨g13, hg13⟩ : ∃ x, wr.heap.size = x := ⟨_, rfl⟩
          rw [hg13] at HB13 ⊢
          have HUI2 := Lib.hid hui2
          clear hui2 hp0 hp1 hp2 hp3 hp4
          have HG13 := Lib.hid hg13
          clear hg13
          generalize (wr.alloc (.cells #[.string r.name, .int .i64 r.type, .int .i64 r.cls, .int .i64 r.ttl, .slice r.data.A r.data.n r.data.c] 35)) = wb at *
          have hcb : ∀ i, wb.cell? ⟨g13, i, none⟩ = _ := fun i => HB13.out.cell i
          go_cut [10] (fun s10 wx => wb = wx ∧ s10 = .int .i64 (min left lf))
          case first =>
            go_wp2_with fail
            refine (rrset_life r.ttl wb).mono ?_
            rw [HLF.out]
            rintro e w3 ⟨rfl, rfl⟩
            go_wp2_with fail
            all_goals
              go_meet
              exact ⟨rfl, congrArg (Value.int .i64) (by omega)⟩
          case rest =>
          obtain ⟨rfl, rfl⟩ := hcut
          have hdo := own_upd' HDO.out HUI2.out fun _ _ h => h
          have hsb : wo.heap.size ≤ wb.heap.size := Nat.le_trans hszi HUI2.out.size
          have HDO2 := Lib.hid hdo
          have hjm : j + 1 ≤ maxLen := by unfold maxLen; omega
          clear hdo
          go_wp2_with (at_builtin; refine wpList_app _ rfl (.tmp 38) (.tmp 41) 26 rfl wo.heap.size 33 i0 _ 1 24 Try.underlying26 hi0 hz0 hz1 hz2 rfl (by omega) (.slice Ad j cd) j _ rfl (HDO2.out.alloc _) (wb.heap.size + 1) (some ⟨wb.heap.size, 0, none⟩) 1 1 [.slice r.data.A r.data.n r.data.c] rfl (Rd.lit1 _ _ _) (by intro u hu; simp only [List.mem_singleton] at hu; subst hu; rfl) hjm (by omega) (by simp; omega) ?_; intro A5 c5 w5 hown5 hg5 hat5)
          refine ⟨⟨j + 1, A5, c5, by omega, by rfl, ?_, rfl, ?_, ?_⟩, ?_⟩
          · rw [List.take_add_one, HR.out]
            simp only [Option.toList_some, List.map_append, List.map_cons, List.map_nil]
            unfold minLife
            rw [List.foldl_append]
            show Value.int .i64 (min left lf) = .int .i64 (min (minLife (lifeL r0.ttl) ((g.2.take j).map RRV.said)) (lifeL r.ttl))
            rw [HLEFT.out, HLF.out]
          · rw [List.take_add_one, HR.out]
            simp only [Option.toList_some, List.map_append, List.map_cons, List.map_nil]
            exact hown5
          · refine ((HUI.out.trans HUI2.out fun _ _ h => h).alloc _).grown hg5 fun b hb hlt => ?_
            have := own_ge HDO2.out b hb
            omega
          · simp only [intOf]; omega
        · have hji : ¬ (j : Int) < (L : Int) := by omega
          have hjl : j = L := by omega
          subst hjl
          rw [List.take_of_length_le (by rw [HLL.out]; exact Nat.le_refl _)] at HDO
          have htk : g.2.take j = g.2 := List.take_of_length_le (by rw [HLL.out]; exact Nat.le_refl _)
          rw [htk] at hlr ⊢
          obtain ⟨left, hleft⟩ : ∃ left, minLife (lifeL r0.ttl) (g.2.map RRV.said) = left := ⟨_, rfl⟩
          rw [hleft] at hlr ⊢
          have HLEFT := Lib.hid hleft
          clear hleft htk hdo hui
          go_wp2_with fail
          have hkeep : ∀ W, Upd Nix wr W → W.cell? ⟨gb, 0, none⟩ = some (.string r0.name) ∧ W.cell? ⟨gb, 1, none⟩ = some (.int .i64 r0.type) ∧ W.cell? ⟨gb, 2, none⟩ = some (.int .i64 r0.cls) := fun W hW => by
            have ho := own_upd' HOWN.out (HUI.out.trans hW fun _ _ h => h) fun _ _ h => h
            have := (grp_cells ho (j := 0) (r := r0) (by rw [HR0.out]; rfl)).2
            exact ⟨this 0 (by omega), this 1 (by omega), this 2 (by omega)⟩
          have horder : ∀ W, Upd Nix wr W → Calls Try.prog 24 #[.slice Ad j cd] W _ := fun W hW =>
            rrset_order Ad j cd (g.2.map RRV.data) W W.heap.size
              (by
                have hd := own_upd' HDO.out hW fun _ _ h => h
                have hlen : (g.2.map RRV.data).length = j := by rw [List.length_map]; exact HLL.out
                refine ⟨hlen, own_cap hd, by omega, Rd.own hd, fun x hx => ?_⟩
                obtain ⟨y, hy, rfl⟩ := List.mem_map.1 hx
                have hWu := HU.out.trans (HUI.out.trans hW fun _ _ h => h) fun _ _ h => h
                exact ((HRA.out y hy).1.data.below (hWu.belowNix hB)).more (Nat.le_trans hB hWu.size)) (Nat.le_refl _) (by omega)
          have KEEP := Lib.hid hkeep
          have ORD := Lib.hid horder
          clear hkeep horder hq0 hq1 hq2
          obtain ⟨z, hz⟩ : ∃ z, wr.heap.size = z := ⟨_, rfl⟩
          have htl := timeL_range now
          have hwr : IntKind.i64.wrap (timeL now + left) = timeL now + left := by rw [IntKind.wrap_i64]; omega
          have hbase : w.heap.size ≤ wr.heap.size := Nat.le_trans hsz hszi
          go_cut [14] (fun s14 wx => SetBuilt w.heap.size wr (fun A9 n9 c9 => #[.string r0.name, .int .i64 r0.type, .int .i64 r0.cls, .int .i64 rank, .int .i64 0, .int .i64 (timeL now + left), .string ⟨#[]⟩, .slice A9 n9 c9]) ((g.2.map RRV.data).map Row.l) s14 wx)
          case first =>
            clear hj hjL hji hL hgo hgbl hn hml hki hkm hk hssk hB hrank hi0 hz0 hz1 hz2 hsz hszi HBEL HG HSUB HNE HGL HM HGS HSAID HSL HRA HGI HR0 HU HS HOWN HDO HUI HLL HLEFT H
            go_region_held3 (fun w' => w'.cell? ⟨gb, 0, none⟩ = some (.string r0.name) ∧ w'.cell? ⟨gb, 1, none⟩ = some (.int .i64 r0.type) ∧ w'.cell? ⟨gb, 2, none⟩ = some (.int .i64 r0.cls))
              (first | with_reducible exact KEEP.out _ (upd8 HU9b.out (Nat.le_of_eq hz)) | with_reducible exact KEEP.out _ (HU9a.out.alloc _) | with_reducible exact KEEP.out _ HU9a.out | with_reducible exact KEEP.out _ HU9b.out | with_reducible exact KEEP.out _ (Upd.refl _ _).drew | with_reducible exact KEEP.out _ ((Upd.refl Nix wr).alloc _).drew | fail)
              ((first
              | (go_at_call 33; (with_reducible refine (rrset_time now _).mono ?_); rintro e wt ⟨rfl, rfl⟩)
              | (go_at_call 24; (with_reducible refine (ORD.out _ (Upd.refl _ _).drew).mono ?_); rintro e w5 ⟨A9, n9, c9, rows9, rfl, hown9, hord9, hrows9, hu9⟩; have HU9a := Lib.hid ((Upd.refl Nix wr).drew.trans hu9 (fun _ _ h => h)); have HR9 := Lib.hid (And.intro hown9 (And.intro hord9 hrows9)); clear hown9 hord9 hrows9 hu9)
              | (go_at_call 24; (with_reducible refine (ORD.out _ ((Upd.refl Nix wr).alloc _).drew).mono ?_); rintro e w5 ⟨A9, n9, c9, rows9, rfl, hown9, hord9, hrows9, hu9⟩; have HU9b := Lib.hid (((Upd.refl Nix wr).alloc _).drew.trans hu9 (fun _ _ h => h)); have HR9 := Lib.hid (And.intro hown9 (And.intro hord9 hrows9)); have hb14 := ((Blk.new wr 28 #[.string ⟨#[]⟩, .int .i64 0, .int .i64 0, .int .i64 0, .int .i64 0, .int .i64 0, .string ⟨#[]⟩, .slice none 0 0]).drew).upd hu9 (fun h => h); have hl14 := hb14.lt; rw [hz] at hb14 hl14; have hc14 := (fun i => hb14.cell i); have hf14 := (fun i => hb14.free i); have HB14 := Lib.hid hb14; clear hown9 hord9 hrows9 hu9 hb14)))
            all_goals go_wp2_with fail
            all_goals
              go_meet
              first
              | exact SetBuilt.ofAlloc (cells := fun A9 n9 c9 => #[.string r0.name, .int .i64 r0.type, .int .i64 r0.cls, .int .i64 rank, .int .i64 0, .int .i64 (timeL now + left), .string ⟨#[]⟩, .slice A9 n9 c9]) HR9.out hbase HU9a.out
              | exact SetBuilt.ofStore HR9.out (by simp; omega) HU9b.out (Nat.le_of_eq hz) HB14.out rfl
          case rest =>
          obtain ⟨b14, A9, n9, c9, rows9, rfl, hb14, hown9, hord9, hrows9, hu9⟩ := hcut
          have hl9 : rows9.length = n9 := by have := hown9.1; simpa using this
          have heq9 := ordered_eq hord9
          have hn9 : n9 ≤ j := by
            have h1 := congrArg List.length heq9
            have h2 := orderL_len ((g.2.map RRV.data).map Row.l)
            simp only [List.length_map] at h1 h2
            have h3 := HLL.out
            omega
          obtain ⟨s, hs⟩ : ∃ s : SetV, s = ⟨r0.name, r0.type, r0.cls, rank, 0, timeL now + left, ⟨#[]⟩, A9, n9, c9, rows9⟩ := ⟨_, rfl⟩
          have hsaid9 : s.said = setOf rank now (g.2.map RRV.said) := by
            rw [hs, HR0.out]
            show (⟨bytesOf r0.name, r0.type, r0.cls, rank, 0, timeL now + left, bytesOf ⟨#[]⟩, rows9.map Row.l⟩ : SetC) = _
            rw [heq9, ← HLEFT.out, HR0.out]
            simp only [setOf, List.map_cons, List.map_map, Function.comp_def]
            rfl
          have hra0 := (HRA.out r0 (by rw [HR0.out]; simp)).1
          have hsat : SetAt wc wc.heap.size s := by
            rw [hs]
            refine ⟨hra0.t, hra0.c, hrank, (by show (Lit.int .i64 0).wf = true; decide), ?_, hra0.name, (by show (0 : Nat) ≤ _; omega), ⟨hl9, own_cap hown9, by show n9 ≤ 10000000000000; omega, Rd.own hown9, fun r hr => (hrows9 r hr).sl⟩⟩
            show (Lit.int .i64 (timeL now + left)).wf = true
            exact WalkArith.wf_i64 (by omega)
          have HSAT := Lib.hid hsat
          have HSAID9 := Lib.hid hsaid9
          have huc := HUI.out.trans hu9 fun _ _ h => h
          have HUC := Lib.hid huc
          have hS2 := HS.out.upd huc
          have HS2 := Lib.hid hS2
          have hG2 := HG.out.upd huc
          have HG2 := Lib.hid hG2
          have hcan := entry_can s wc wc.heap.size hsat (Nat.le_refl _)
          unfold SetV.agg at hcan
          rw [hs] at hcan
          have hcb : ∀ i, wc.cell? ⟨b14, i, none⟩ = _ := fun i => hb14.cell i
          have HB14 := Lib.hid hb14
          have HOWN9 := Lib.hid (And.intro hown9 hrows9)
          clear hord9 heq9 hsaid9 hsat huc hS2 hG2 hb14 hown9 hrows9 hu9 hra0
          have hcl14 := HB14.out.lt
          go_wp2_with fail
          refine hcan.mono ?_
          clear hcan
          rintro e w6 ⟨rfl, hu6⟩
          have HUC6 := Lib.hid (HUC.out.trans hu6 fun _ _ h => h)
          have HS6 := Lib.hid (HS2.out.upd hu6)
          have HG6 := Lib.hid (HG2.out.upd hu6)
          have HB6 := Lib.hid (HB14.out.upd hu6 (by simp [Nix]))
          have HOWN6 := Lib.hid (And.intro (own_upd' HOWN9.out.1 hu6 fun _ _ h => h) (fun r (hr : r ∈ rows9) => (HOWN9.out.2 r hr).upd hu6 fun _ _ h => h))
          have hcb6 : ∀ i, w6.cell? ⟨b14, i, none⟩ = _ := fun i => HB6.out.cell i
          have hcl6 := HB6.out.lt
          have hsp : setsOf rank now (gs.take (k + 1)) = setsOf rank now (gs.take k) ++ (if canSet s.said = true then [s.said] else []) := by
            unfold setsOf
            rw [List.take_add_one, HGI.out]
            simp only [Option.toList_some, List.map_append, List.map_cons, List.map_nil, List.filter_append]
            rw [← HSAID9.out]
            simp [List.filter_cons]
          have HSP := Lib.hid hsp
          have HSE := Lib.hid hs
          rw [← hs]
          clear hsp hu6 hcb hcl14
          cases hc6 : canSet s.said with
          | false =>
            have HC6 := Lib.hid hc6
            clear hc6 hs
            go_wp2_with fail
            refine ⟨⟨k + 1, A2, c2, ss, by omega, by rfl, by rw [HSL.out], by rw [HSL.out]; exact HS6.out, ?_, by have := HSL.out; omega, HG6.out, HU.out.trans HUC6.out fun _ _ h => h⟩, ?_⟩
            · rw [HSP.out, HC6.out, HSAID.out]
              simp
            · simp only [intOf]; omega
          | true =>
            have HC6 := Lib.hid hc6
            clear hc6 hs
            obtain ⟨i2, hi2, hx0, hx1, hx2⟩ := info_parts infoSet
            have hsz6 := (HU.out.trans HUC6.out fun _ _ h => h).size
            have hslm : sl + 1 ≤ maxLen := by unfold maxLen; omega
            go_wp2_with (at_builtin; refine wpList_app _ rfl (.tmp 66) (.tmp 68) 24 rfl w.heap.size 28 i2 _ 8 96 Try.underlying24 hi2 hx0 hx1 hx2 rfl (by omega) (.slice A2 sl c2) sl ((ss.map SetV.cells).flatten) rfl (HS6.out.out.alloc _) (w6.heap.size + 1) (some ⟨w6.heap.size, 0, none⟩) 1 1 [.string r0.name, .int .i64 r0.type, .int .i64 r0.cls, .int .i64 rank, .int .i64 0, .int .i64 (timeL now + left), .string ⟨#[]⟩, .slice A9 n9 c9] rfl (Rd.lit _ _ _ 8 1 rfl) (by intro u hu; simp only [List.mem_cons, List.not_mem_nil, or_false] at hu; rcases hu with rfl | rfl | rfl | rfl | rfl | rfl | rfl | rfl <;> rfl) hslm (by omega) (by simp; omega) ?_; intro A10 c10 w10 hown10 hg10 hat10)
            have hsint := HSAT.out
            have hown6 : w6.ownsRow w.heap.size 33 1 (.slice s.dA s.dn s.dc) s.dn (s.rows.map Row.val) ∧ ∀ r ∈ s.rows, OwnRow w6 w.heap.size r := by rw [HSE.out]; exact HOWN6.out
            have hscells : s.cells = [.string r0.name, .int .i64 r0.type, .int .i64 r0.cls, .int .i64 rank, .int .i64 0, .int .i64 (timeL now + left), .string ⟨#[]⟩, .slice A9 n9 c9] := by rw [HSE.out]; rfl
            rw [← hscells] at hown10
            have hpush := HS6.out.push HSL.out hown6 ⟨hsint.t, hsint.c, hsint.r, hsint.k, hsint.e, hsint.name, hsint.zone⟩ hown10 hg10
            have hG10 : GR w.heap.size A1 m c1 gs svs w10 := (HG6.out.upd ((Upd.refl _ _).alloc _)).own (own_upd' HS6.out.out ((Upd.refl Nix _).alloc _) fun _ _ h => h) (by decide) (by decide) (upd_grown (v := .slice A2 sl c2) hg10)
            have hl10 : (ss ++ [s]).length = sl + 1 := by rw [List.length_append, HSL.out]; rfl
            refine ⟨⟨k + 1, A10, c10, ss ++ [s], by omega, by rfl, by rw [hl10], by rw [hl10]; exact hpush, ?_, by rw [hl10]; omega, hG10, ?_⟩, ?_⟩
            · rw [HSP.out, HC6.out, List.map_append, HSAID.out]
              rfl
            · refine ((HU.out.trans HUC6.out fun _ _ h => h).alloc _).grown hg10 fun b hb hlt => ?_
              have := own_ge HS6.out.out b hb
              omega
            · simp only [intOf]; omega
    · have hki : ¬ (k : Int) < (m : Int) := by omega
      have hkm' : k = m := by omega
      rw [List.take_of_length_le (by rw [HM.out]; omega), ← HGS.out] at HSAID
      clear hS hsaid hG hu hsl
      go_wp2_with fail
      go_ret
      refine ⟨A2, c2, ss, by rw [HSL.out]; rfl, by rw [HSL.out]; exact HS.out, HSAID.out, HU.out⟩
end Go.Proofs.Ytlhbikdelbollaa
