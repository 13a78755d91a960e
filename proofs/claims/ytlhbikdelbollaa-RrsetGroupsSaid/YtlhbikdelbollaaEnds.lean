/- The law RrsetEnds, walked. -/
import Derived.Test.YtlhbikdelbollaaRecords
import Derived.Test.YtlhbikdelbollaaAwake
namespace Go.Proofs.Ytlhbikdelbollaa
open Go.RowKit Go.Cx Go.Maps

/-- the first k records -/
theorem RRsAt.front {w : World} {B n c k : Nat} {A : Option Addr} {rs : List RRV} (h : RRsAt w B A n c rs) (hk : k ≤ n) : RRsAt w B A k c (rs.take k) := by
  have hl := h.len
  refine ⟨by rw [List.length_take]; omega, by have := h.nc; omega, by have := h.small; omega, ?_, fun r hr => h.each r (List.mem_of_mem_take hr)⟩
  have := h.rd.front hk
  have e : (rs.map RRV.cells).flatten.take (k * 5) = ((rs.take k).map RRV.cells).flatten := by
    have key : ∀ (l : List RRV) (k : Nat), (l.map RRV.cells).flatten.take (k * 5) = ((l.take k).map RRV.cells).flatten := by
      intro l
      induction l with
      | nil => intro k; simp
      | cons r l ih =>
        intro k
        cases k with
        | zero => simp
        | succ k =>
          rw [List.map_cons, List.flatten_cons, List.take_succ_cons, List.map_cons, List.flatten_cons, ← ih k, List.take_append]
          have hr : r.cells.length = 5 := rfl
          rw [List.take_of_length_le (by rw [hr]; omega), hr, show (k + 1) * 5 - 5 = k * 5 by omega]
    exact key rs k
  rwa [e] at this

theorem minLife_pos (a : Int) (l : List RRC) (h : 0 ≤ a ∧ a ≤ 86400) : 0 ≤ minLife a l ∧ minLife a l ≤ 86400 := by
  induction l generalizing a with
  | nil => exact h
  | cons r l ih =>
    have := lifeL_range r.ttl
    exact ih (min a (lifeL r.ttl)) (by omega)
theorem setsOf_exp (rank now : Int) (gs : List Grp) (hne : ∀ g ∈ gs, g.2 ≠ []) (s : SetC) (h : s ∈ setsOf rank now gs) : s.kind = 0 ∧ timeL now ≤ s.exp ∧ s.exp ≤ timeL now + 86400 := by
  unfold setsOf at h
  obtain ⟨h1, _⟩ := List.mem_filter.1 h
  obtain ⟨g, hg, rfl⟩ := List.mem_map.1 h1
  have := hne g hg
  cases hx : g.2 with
  | nil => exact absurd hx this
  | cons r t =>
    have h2 := minLife_pos (lifeL r.said.ttl) (r.said :: t.map RRV.said) (lifeL_range _)
    refine ⟨rfl, ?_, ?_⟩
    · show timeL now ≤ timeL now + minLife (lifeL r.said.ttl) (r.said :: t.map RRV.said)
      omega
    · show timeL now + minLife (lifeL r.said.ttl) (r.said :: t.map RRV.said) ≤ _
      omega
theorem setsOf_can {rank now : Int} {gs : List Grp} {s : SetC} (h : s ∈ setsOf rank now gs) : canSet s = true := by
  unfold setsOf at h
  exact (List.mem_filter.1 h).2
theorem canSet_sum {s : SetC} (h : canSet s = true) : sumL s.datas ≤ 4000 := by
  unfold canSet at h
  simp only [Bool.and_eq_true, decide_eq_true_eq] at h
  exact h.1.1.2
theorem canSet_small {s : SetC} (h : canSet s = true) : s.datas.length ≤ 4000 := Nat.le_trans (sumL_ge _) (canSet_sum h)
theorem setsOf_len (rank now : Int) (gs : List Grp) : (setsOf rank now gs).length ≤ gs.length := by
  unfold setsOf
  exact Nat.le_trans (List.length_filter_le _ _) (by rw [List.length_map]; exact Nat.le_refl _)
theorem sizeSets (W : World) : (sizeOf (Try.prog.elem 24)).run Try.prog W = .ok 8 W := by kernel_rfl
set_option maxRecDepth 100000 in
/-- the i-th set, as the walk reads it -/
theorem SetsAt.idx {base : Nat} {A : Option Addr} {n c i : Nat} {ss : List SetV} {s : SetV} {wr : World} (h : SetsAt base A n c ss wr) (hi : i < n) (hs : ss[i]? = some s) : ∃ go : Nat, (∀ j, j < 8 → wr.cell? ⟨go, i * 8 + j, none⟩ = s.cells[j]?) ∧
    ∀ W, (Instr.indexAt 24 (.slice A n c) (.int .i64 (i : Int))).run Try.prog W = .ok (.pointer (some ⟨go, i * 8, none⟩)) W := by
  obtain ⟨go, rfl⟩ : ∃ go, A = some ⟨go, 0, none⟩ := by
    rcases h.out.2 with ⟨hv, h0⟩ | ⟨go, cap, cur, hv, _⟩
    · omega
    · injection hv with e1
      exact ⟨go, e1⟩
  obtain ⟨ad, hA, hB, hc⟩ := (Rd.own h.out).2 (by omega)
  injection hA with hA
  subst hA
  refine ⟨go, fun j hj => ?_, fun W => ?_⟩
  · have h1 := flat_at SetV.cells 8 (fun _ => rfl) ss i j s hs hj
    have h2 : j < s.cells.length := hj
    rw [List.getElem?_eq_getElem h2] at h1 ⊢
    have := hc _ _ h1
    have hadd : (⟨go, 0, none⟩ : Addr).add (i * 8 + j) = ⟨go, i * 8 + j, none⟩ := by unfold Addr.add; split <;> simp_all
    rwa [hadd] at this
  · rw [run_indexAt_slice W 24 ⟨go, 0, none⟩ n c .i64 (i : Int) Try.underlying24, if_pos ⟨by omega, by omega⟩, sizeSets W]
    simp only [Result.andThen]
    have hadd : (⟨go, 0, none⟩ : Addr).add (i * 8) = ⟨go, i * 8, none⟩ := by unfold Addr.add; split <;> simp_all
    rw [show ((i : Int).toNat * 8) = i * 8 by omega, hadd]
theorem SetsAt.at {base : Nat} {A : Option Addr} {n c : Nat} {ss : List SetV} {wr : World} (h : SetsAt base A n c ss wr) (hn : ∀ s ∈ ss, s.dn ≤ 10000000000000) : ∀ s ∈ ss, SetAt wr wr.heap.size s := fun s hs => by
  obtain ⟨i1, i2, i3, i4, i5, i6, i7⟩ := h.ints s hs
  obtain ⟨r1, r2⟩ := h.rows s hs
  exact ⟨i1, i2, i3, i4, i5, i6, i7, ⟨by have := r1.1; simpa using this, own_cap r1, hn s hs, Rd.own r1, fun r hr => (r2 r hr).sl⟩⟩
theorem recordsL_len (s : SetC) (now : Int) : (recordsL s now).length ≤ s.datas.length := by
  unfold recordsL
  split <;> simp
theorem RRsOwn.idx {base : Nat} {A : Option Addr} {n c i : Nat} {rs : List RRV} {r : RRV} {wr : World} (h : RRsOwn base A n c rs wr) (hi : i < n) (hs : rs[i]? = some r) : ∃ go : Nat, (∀ j, j < 5 → wr.cell? ⟨go, i * 5 + j, none⟩ = r.cells[j]?) ∧
    ∀ W, (Instr.indexAt 22 (.slice A n c) (.int .i64 (i : Int))).run Try.prog W = .ok (.pointer (some ⟨go, i * 5, none⟩)) W := by
  obtain ⟨go, rfl⟩ : ∃ go, A = some ⟨go, 0, none⟩ := by
    rcases h.out.2 with ⟨hv, h0⟩ | ⟨go, cap, cur, hv, _⟩
    · omega
    · injection hv with e1
      exact ⟨go, e1⟩
  obtain ⟨ad, hA, hB, hc⟩ := (Rd.own h.out).2 (by omega)
  injection hA with hA
  subst hA
  refine ⟨go, fun j hj => ?_, fun W => ?_⟩
  · have h1 := flat_at RRV.cells 5 (fun _ => rfl) rs i j r hs hj
    have h2 : j < r.cells.length := hj
    rw [List.getElem?_eq_getElem h2] at h1 ⊢
    have := hc _ _ h1
    have hadd : (⟨go, 0, none⟩ : Addr).add (i * 5 + j) = ⟨go, i * 5 + j, none⟩ := by unfold Addr.add; split <;> simp_all
    rwa [hadd] at this
  · rw [idx_rrs _ n c i hi W]
    have hadd : (⟨go, 0, none⟩ : Addr).add (i * 5) = ⟨go, i * 5, none⟩ := by unfold Addr.add; split <;> simp_all
    rw [hadd]
theorem umod (x : Int) (k : Nat) (h0 : 0 < k) (hk : k ≤ 4294967296) : ∃ a : Nat, wrap64 ((IntKind.u64.wrap x).tmod (k : Int)) = (a : Int) ∧ a < k := by
  rw [IntKind.wrap_u64]
  have h1 : 0 ≤ x % 18446744073709551616 := Int.emod_nonneg _ (by omega)
  rw [Int.tmod_eq_emod_of_nonneg h1]
  have h2 : 0 ≤ (x % 18446744073709551616) % (k : Int) := Int.emod_nonneg _ (by omega)
  have h3 : (x % 18446744073709551616) % (k : Int) < k := Int.emod_lt_of_pos _ (by omega)
  refine ⟨((x % 18446744073709551616) % (k : Int)).toNat, ?_, by omega⟩
  generalize (x % 18446744073709551616) % (k : Int) = z at *
  unfold wrap64
  omega

set_option maxRecDepth 100000 in
set_option maxHeartbeats 6400000 in
theorem law_ends (A : Option Addr) (n c : Nat) (rs : List RRV) (x y : Int) (hx : (Lit.int .i64 x).wf = true) (hy : (Lit.int .i64 y).wf = true) (w : World) (h : RRsAt w w.heap.size A n c rs) :
    Calls Try.prog 4 #[.slice A n c, .int .i64 x, .int .i64 y] w fun e w' => e = .returned (.bool true) ∧ Below w.heap.size w w' := by
  have H := Lib.hid h
  have hnc := h.nc
  have hsm := h.small
  have hx' := wf_i64 hx
  have hy' := wf_i64 hy
  clear h
  go_enter Try.func4, Try.ntmps4
  go_upto_region 1 with fail
  go_cut [1, 2] (fun s1 s2 wx => w = wx ∧ ∃ a b : Nat, s1 = .int .i64 a ∧ s2 = .int .i64 b ∧ a < 1000000 ∧ b < 1000)
  case first =>
    go_wp2_with fail
    go_meet
    obtain ⟨a, ha, ha2⟩ := umod x 1000000 (by omega) (by omega)
    obtain ⟨b, hb, hb2⟩ := umod y 1000 (by omega) (by omega)
    exact ⟨rfl, a, b, congrArg (Value.int .i64) ha, congrArg (Value.int .i64) hb, ha2, hb2⟩
  case rest =>
  obtain ⟨rfl, a, b, rfl, rfl, ha, hb⟩ := hcut
  clear hx hy hx' hy'
  obtain ⟨m, hm⟩ : ∃ m, (min (n : Int) 30).toNat = m := ⟨_, rfl⟩
  have hmn : m ≤ n := by omega
  have hm30 : m ≤ 30 := by omega
  have HF := Lib.hid (H.out.front hmn)
  have HMM := Lib.hid hm
  clear hm
  go_wp2_with fail
  rw [HMM.out]
  refine (rrset_group A m c (rs.take m) 1 a (by decide) w w.heap.size HF.out (Nat.le_refl _) (by omega)).mono ?_
  rintro e w1 ⟨A1, c1, ss, rfl, hS, hsaid, hu⟩
  have hexp : ∀ s ∈ ss, s.kind = 0 ∧ (a : Int) ≤ s.exp ∧ s.exp ≤ a + 86400 := by
    intro s hs
    have h1 : s.said ∈ setsOf 1 a (byL (rs.take m)) := by rw [← hsaid]; exact List.mem_map.2 ⟨s, hs, rfl⟩
    have h2 := setsOf_exp 1 a _ (byL_ne _) _ h1
    have h3 : timeL (a : Int) = a := by unfold timeL; omega
    rw [h3] at h2
    exact h2
  have HS := Lib.hid hS
  have HEXP := Lib.hid hexp
  have hdn : ∀ s ∈ ss, s.dn ≤ 10000000000000 := by
    intro s hs
    have h1 : s.said ∈ setsOf 1 a (byL (rs.take m)) := by rw [← hsaid]; exact List.mem_map.2 ⟨s, hs, rfl⟩
    have h2 := canSet_small (setsOf_can h1)
    have h3 := (hS.rows s hs).1.1
    simp only [List.length_map, Nat.mul_one] at h3
    have h4 : s.said.datas.length = s.rows.length := by show (s.rows.map Row.l).length = _; rw [List.length_map]
    omega
  have HDN := Lib.hid hdn
  have hdn4 : ∀ s ∈ ss, s.dn ≤ 1000000 := by
    intro s hs
    have h1 : s.said ∈ setsOf 1 a (byL (rs.take m)) := by rw [← hsaid]; exact List.mem_map.2 ⟨s, hs, rfl⟩
    have h2 := canSet_small (setsOf_can h1)
    have h3 := (hS.rows s hs).1.1
    simp only [List.length_map, Nat.mul_one] at h3
    have h4 : s.said.datas.length = s.rows.length := by show (s.rows.map Row.l).length = _; rw [List.length_map]
    omega
  have HDN4 := Lib.hid hdn4
  clear hdn hdn4
  have HU := Lib.hid hu
  obtain ⟨q, hq⟩ : ∃ q, ss.length = q := ⟨_, rfl⟩
  have hql : q ≤ 30 := by
    have h1 := congrArg List.length hsaid
    have h2 := setsOf_len 1 (a : Int) (byL (rs.take m))
    have h3 := byL_len (rs.take m)
    rw [List.length_map] at h1
    rw [List.length_take] at h3
    omega
  rw [hq] at HS ⊢
  have HQ := Lib.hid hq
  clear hS hsaid hexp hu hq
  go_wp2_with fail
  go_loopw [27] (fun s27 wr => ∃ k : Nat, k ≤ q ∧ s27 = .int .i64 k ∧ Upd Nix w1 wr) (fun s27 _ => q - (intOf s27).toNat)
  case atStart => exact ⟨0, Nat.zero_le _, rfl, Upd.refl _ _⟩
  case round =>
    obtain ⟨k, hk, rfl, hur⟩ := hrel
    have HUR := Lib.hid hur
    clear hur
    by_cases hkq : k < q
    · have hki : (k : Int) < (q : Int) := by omega
      obtain ⟨s, hs⟩ : ∃ s, ss[k]? = some s := ⟨_, List.getElem?_eq_getElem (by rw [HQ.out]; exact hkq)⟩
      have hSr := HS.out.upd HUR.out
      obtain ⟨go, hcells, hidx⟩ := hSr.idx hkq hs
      have hsm := List.mem_of_getElem? hs
      have hse := HEXP.out s hsm
      have HK0 := Lib.hid hse.1
      have hse1 := hse.2.1
      have hse2 := hse.2.2
      clear hse
      have hdn4 := HDN4.out s hsm
      have hsat := hSr.at HDN.out s hsm
      have HSAT := Lib.hid hsat
      have hd0 : wr.cell? ⟨go, k * 8, none⟩ = some (.string s.name) := hcells 0 (by omega)
      have hd1 : wr.cell? ⟨go, k * 8 + 1, none⟩ = some (.int .i64 s.type) := hcells 1 (by omega)
      have hd2 : wr.cell? ⟨go, k * 8 + 2, none⟩ = some (.int .i64 s.cls) := hcells 2 (by omega)
      have hd3 : wr.cell? ⟨go, k * 8 + 3, none⟩ = some (.int .i64 s.rank) := hcells 3 (by omega)
      have hd4 : wr.cell? ⟨go, k * 8 + 4, none⟩ = some (.int .i64 s.kind) := hcells 4 (by omega)
      have hd5 : wr.cell? ⟨go, k * 8 + 5, none⟩ = some (.int .i64 s.exp) := hcells 5 (by omega)
      have hd6 : wr.cell? ⟨go, k * 8 + 6, none⟩ = some (.string s.zone) := hcells 6 (by omega)
      have hd7 : wr.cell? ⟨go, k * 8 + 7, none⟩ = some (.slice s.dA s.dn s.dc) := hcells 7 (by omega)
      have he1 : ¬ s.exp < (a : Int) := by omega
      have he2 : ¬ 86400 < s.exp - (a : Int) := by omega
      clear hs hSr hcells hsat
      go_wp2_with fail
      obtain ⟨g8, hg8⟩ : ∃ g, wr.heap.size = g := ⟨_, rfl⟩
      have hb8 : Blk (wr.alloc (.cells s.cells.toArray 28)) g8 28 s.cells.toArray := Blk.new' _ _ _ hg8.symm
      have hub : Upd Nix wr (wr.alloc (.cells s.cells.toArray 28)) := (Upd.refl _ _).alloc _
      have hsb : SetAt (wr.alloc (.cells s.cells.toArray 28)) (wr.heap.size) s := HSAT.out.below ((Below.refl _ _).alloc (Nat.le_refl _) _)
      have hrec := rrset_records s ((a : Int) + b) _ _ hsb (by simp) (Nat.le_trans hdn4 (by decide))
      unfold SetV.agg at hrec
      unfold SetV.cells at hb8 hub hrec
      rw [hg8] at *
      refine hrec.mono ?_
      clear hrec hd0 hd1 hd2 hd3 hd4 hd5 hd6 hd7 hidx hsb
      rintro e w3 ⟨A3, c3, rs3, rfl, hro, hrs3, hu3⟩
      have hb3 := hb8.upd hu3 (by simp [Nix])
      have HU3 := Lib.hid (HUR.out.trans (hub.trans hu3 fun _ _ h => h) fun _ _ h => h)
      have httl : ∀ r ∈ rs3, r.ttl = s.exp - a - b ∧ 1 ≤ s.exp - (a : Int) - b := by
        intro r hr
        have h1 : r.said ∈ recordsL s.said ((a : Int) + b) := by rw [← hrs3]; exact List.mem_map.2 ⟨r, hr, rfl⟩
        have h3 : timeL ((a : Int) + b) = a + b := by unfold timeL; omega
        by_cases hf : (s.said.kind = 0 ∧ timeL ((a : Int) + b) < s.said.exp)
        · rw [recordsL_yes _ _ hf] at h1
          obtain ⟨d, _, hd⟩ := List.mem_map.1 h1
          have h4 : r.said.ttl = s.exp - timeL ((a : Int) + b) := by rw [← hd]; rfl
          have h5 : r.ttl = s.exp - timeL ((a : Int) + b) := h4
          have h6 : timeL ((a : Int) + b) < s.exp := hf.2
          rw [h3] at h5 h6
          exact ⟨by omega, by omega⟩
        · rw [recordsL_no _ _ hf] at h1
          cases h1
      have hl3 : rs3.length ≤ 1000000 := by
        have h1 := congrArg List.length hrs3
        rw [List.length_map] at h1
        have h2 := recordsL_len s.said ((a : Int) + b)
        have h3 := (HSAT.out).rows.len
        have h4 : s.said.datas.length = s.rows.length := by show (s.rows.map Row.l).length = _; rw [List.length_map]
        omega
      obtain ⟨z, hz⟩ : ∃ z, rs3.length = z := ⟨_, rfl⟩
      rw [hz] at hro hl3 ⊢
      have HRO := Lib.hid hro
      have HTTL := Lib.hid httl
      have HB3 := Lib.hid hb3
      have HZ := Lib.hid hz
      clear hro httl hb3 hrs3 hu3 hub hb8 hz hg8
      go_wp2_with fail
      go_loopw [48] (fun s48 wi => ∃ j : Nat, j ≤ z ∧ s48 = .int .i64 j ∧ Upd Nix w3 wi) (fun s48 _ => z - (intOf s48).toNat)
      case atStart => exact ⟨0, Nat.zero_le _, rfl, Upd.refl _ _⟩
      case round =>
        obtain ⟨j, hj, rfl, hui⟩ := hrel
        have HUI := Lib.hid hui
        clear hui
        by_cases hjz : j < z
        · have hji : (j : Int) < (z : Int) := by omega
          obtain ⟨r, hr⟩ : ∃ r, rs3[j]? = some r := ⟨_, List.getElem?_eq_getElem (by rw [HZ.out]; exact hjz)⟩
          have ht := HTTL.out r (List.mem_of_getElem? hr)
          have hRi := HRO.out.upd HUI.out
          obtain ⟨gr, hrc, hridx⟩ := hRi.idx hjz hr
          have hb8 := HB3.out.upd HUI.out (by simp [Nix])
          have hc8 : ∀ i, wr.cell? ⟨g8, i, none⟩ = _ := fun i => hb8.cell i
          have hq0 : wr.cell? ⟨gr, j * 5, none⟩ = some (.string r.name) := hrc 0 (by omega)
          have hq1 : wr.cell? ⟨gr, j * 5 + 1, none⟩ = some (.int .i64 r.type) := hrc 1 (by omega)
          have hq2 : wr.cell? ⟨gr, j * 5 + 2, none⟩ = some (.int .i64 r.cls) := hrc 2 (by omega)
          have hq3 : wr.cell? ⟨gr, j * 5 + 3, none⟩ = some (.int .i64 r.ttl) := hrc 3 (by omega)
          have hq4 : wr.cell? ⟨gr, j * 5 + 4, none⟩ = some (.slice r.data.A r.data.n r.data.c) := hrc 4 (by omega)
          have hg8l := hb8.lt
          have ht1 : (r.ttl != s.exp - (a : Int) - (b : Int)) = false := by simp [ht.1]
          have ht2 : ¬ r.ttl < 1 := by omega
          clear hr ht hRi hrc hb8
          go_wp2_with fail
          refine ⟨⟨j + 1, by omega, by rfl, HUI.out.alloc _⟩, ?_⟩
          simp only [intOf]; omega
        · have hji : ¬ (j : Int) < (z : Int) := by omega
          go_wp2_with fail
          refine ⟨⟨k + 1, by omega, by rfl, HU3.out.trans HUI.out fun _ _ h => h⟩, ?_⟩
          simp only [intOf]; omega
    · have hki : ¬ (k : Int) < (q : Int) := by omega
      go_wp2_with fail
      refine (law_awake wr).mono ?_
      rintro e w4 ⟨rfl, hu4⟩
      go_wp2_with fail
      go_ret
      exact ⟨rfl, ((HU.out.trans HUR.out fun _ _ h => h).trans hu4 fun _ _ h => h).belowNix (Nat.le_refl _)⟩
theorem ends_walk (A : Option Addr) (n c : Nat) (rs : List RRV) (x y : Int) (w : World) (h : RRsAt w w.heap.size A n c rs) (hx : (Lit.int .i64 x).wf = true) (hy : (Lit.int .i64 y).wf = true) :
    Calls Try.prog 4 #[.slice A n c, .int .i64 x, .int .i64 y] w fun e w' => e = .returned (.bool true) ∧ Below w.heap.size w w' := law_ends A n c rs x y hx hy w h
end Go.Proofs.Ytlhbikdelbollaa
