/- ciceroneref09.Order, walked. -/
import Derived.Test.YtlhbikdelbollaaRefOrdL
namespace Go.Proofs.Ytlhbikdelbollaa
open Go.RowKit Go.Cx Go.Maps

theorem ref_take {d : List Nat} {o : List (List Nat)} {j : Nat} {x : List Nat} {s : List (List Nat) × Bool} (h : s = (o.take j).foldl (refStep d) ([], false)) (hx : o[j]? = some x) : (o.take (j + 1)).foldl (refStep d) ([], false) = refStep d s x := by
  rw [List.take_add_one, hx, List.foldl_append, ← h]
  rfl

set_option maxRecDepth 100000 in
set_option maxHeartbeats 6400000 in
theorem ref_order (A : Option Addr) (n c : Nat) (rows : List Row) (w : World) (h : RowsAt w w.heap.size A n c rows) (hn : n ≤ 1000000) :
    Calls Try.prog 26 #[.slice A n c] w fun e w' => ∃ (A' : Option Addr) (n' c' : Nat) (rows' : List Row), e = .returned (.slice A' n' c') ∧ w'.ownsRow w.heap.size 33 1 (.slice A' n' c') n' (rows'.map Row.val) ∧
      rows'.map Row.l = orderL (rows.map Row.l) ∧ (∀ r ∈ rows', OwnRow w' w.heap.size r) ∧ Upd Nix w w' := by
  obtain ⟨i0, hi0, hz0, hz1, hz2⟩ := info_parts infoRow
  obtain ⟨i1, hi1, hy0, hy1, hy2⟩ := info_parts infoU8
  have H := Lib.hid h
  clear h
  go_enter Try.func26, Try.ntmps26
  go_wp2_with fail
  go_loopw [3, 12] (fun s3 s12 wr => ∃ (k : Nat) (A1 : Option Addr) (m c1 : Nat) (done : List Row), k ≤ n ∧ s12 = .int .i64 k ∧ s3 = .slice A1 m c1 ∧ wr.ownsRow w.heap.size 33 1 (.slice A1 m c1) m (done.map Row.val) ∧
      done.map Row.l = orderL ((rows.map Row.l).take k) ∧ (∀ r ∈ done, OwnRow wr w.heap.size r) ∧ Upd Nix w wr) (fun _ s12 _ => n - (intOf s12).toNat)
  case atStart => exact ⟨0, none, 0, 0, [], Nat.zero_le _, rfl, rfl, ⟨rfl, .inl ⟨rfl, rfl⟩⟩, rfl, by simp, Upd.refl _ _⟩
  case round =>
    obtain ⟨k, A1, m, c1, done, hk, rfl, rfl, hown, hdone, hrows, hu⟩ := hrel
    have hml : m ≤ k := by
      have h1 := hown.1
      have h2 := congrArg List.length hdone
      have h3 := orderL_len ((rows.map Row.l).take k)
      simp only [List.length_map, Nat.mul_one] at h1 h2
      rw [List.length_take, List.length_map] at h3
      omega
    have HO := Lib.hid hown
    have HD := Lib.hid hdone
    have HR := Lib.hid hrows
    have HU := Lib.hid hu
    clear hown hdone hrows hu
    by_cases hkn : k < n
    · have hki : (k : Int) < (n : Int) := by omega
      have hrows := H.out.below (HU.out.belowNix (Nat.le_refl _))
      obtain ⟨ad, r, hadB, hr, hmem, hcell, hidx⟩ := hrows.idx hkn
      have hsl := (hrows.each r hmem).more HU.out.size
      have HSL := Lib.hid hsl
      have HRr := Lib.hid hr
      clear hr hsl hrows
      go_wp2_with fail
      clear hcell hidx hadB hmem
      obtain ⟨wo, rfl⟩ : ∃ x, x = wr := ⟨_, rfl⟩
      have hrn := HSL.out.len
      have hRl : r.l ∈ rows.map Row.l := List.mem_map.2 ⟨r, List.mem_of_getElem? HRr.out, rfl⟩
      have hwo := HU.out.size
      go_loopw [6, 7, 18] (fun s6 s7 s18 wi => ∃ (j : Nat) (A2 : Option Addr) (p c2 : Nat) (put : Bool) (nx : List Row), j ≤ m ∧ s18 = .int .i64 j ∧ s6 = .slice A2 p c2 ∧ s7 = .bool put ∧ NxAt w wo A2 p c2 nx wi ∧
        (nx.map Row.l, put) = ((done.map Row.l).take j).foldl (refStep r.l) ([], false) ∧ p ≤ 2 * j) (fun _ _ s18 _ => m - (intOf s18).toNat)
      case atStart => exact ⟨0, none, 0, 0, false, [], Nat.zero_le _, rfl, rfl, rfl, ⟨⟨rfl, .inl ⟨rfl, rfl⟩⟩, by simp, Upd.refl _ _⟩, rfl, Nat.le_refl _⟩
      case round =>
        obtain ⟨j, A2, p, c2, put, nx, hj, rfl, rfl, rfl, hna, hst, hp⟩ := hrel
        have hwr := Nat.le_trans hwo hna.upd.size
        have hwr2 := hna.upd.size
        have HN := Lib.hid hna
        have HST := Lib.hid hst
        have HSR := Lib.hid (HSL.out.upd hna.upd)
        have HRD := Lib.hid HSR.out.rd
        have hkm : p + 1 ≤ maxLen := by unfold maxLen; omega
        have hkm2 : p + 1 + 1 ≤ maxLen := by unfold maxLen; omega
        have hrm : 0 + r.n ≤ maxLen := by unfold maxLen; omega
        clear hna hst
        by_cases hjm : j < m
        · have hji : (j : Int) < (m : Int) := by omega
          obtain ⟨x, hx⟩ : ∃ x, done[j]? = some x := ⟨_, List.getElem?_eq_getElem (by have h1 := HO.out.1; simp only [List.length_map, Nat.mul_one] at h1; omega)⟩
          obtain ⟨g1, rfl⟩ : ∃ g, A1 = some ⟨g, 0, none⟩ := by
            rcases HO.out.2 with ⟨hv, h⟩ | ⟨g, cap, cur, hv, _⟩
            · omega
            · injection hv with e1
              exact ⟨g, e1⟩
          have hoi := own_upd' HO.out HN.out.upd fun _ _ h => h
          have hcell := (RowBlk.of hoi).1.cell hx
          have hidx := idx_blk g1 m c1 j hjm
          have hxo := (HR.out x (List.mem_of_getElem? hx)).upd HN.out.upd fun _ _ h => h
          have HXO := Lib.hid hxo
          have HNX := Lib.hid (ref_take HST.out (by rw [List.getElem?_map, hx]; rfl : (done.map Row.l)[j]? = some x.l))
          have HXB := Lib.hid hxo.sl.bytes
          have hxm := List.mem_of_getElem? hx
          have xow := fun (W : World) (hW : Upd Nix wo W) => (HR.out x hxm).upd hW fun _ _ h => h
          have kx := fun (W : World) (hW : Upd Nix wo W) => run_conv W ((HR.out x hxm).upd hW fun _ _ h => h).sl.rd x.c
          have kr := fun (W : World) (hW : Upd Nix wo W) => run_conv W (HSL.out.upd hW).rd r.c
          have XOW := Lib.hid xow
          have KX := Lib.hid kx
          have KR := Lib.hid kr
          have kx0 := kx wr HN.out.upd
          have kr0 := kr wr HN.out.upd
          have hbq := strN_beq x.l r.l HXB.out HSR.out.bytes
          clear hx hoi hxo kx kr xow hxm
          cases put with
          | true =>
            by_cases hxe : x.l = r.l
            · rw [decide_eq_true hxe] at hbq
              have HXE := Lib.hid hxe
              clear hxe
              go_wp2_with fail
              refine ⟨⟨j + 1, A2, p, c2, true, nx, by omega, by rfl, rfl, rfl, HN.out, ?_, by omega⟩, ?_⟩
              · rw [HNX.out]; simp [refStep, HXE.out]
              · simp only [intOf]; omega
            · rw [decide_eq_false hxe] at hbq
              have HXE := Lib.hid hxe
              clear hxe
              go_wp2_with (at_builtin; (refine wpList_app _ rfl (.tmp 42) (.tmp 44) 26 rfl wo.heap.size 33 i0 _ 1 24 Try.underlying26 hi0 hz0 hz1 hz2 rfl (by omega) (.slice A2 p c2) p (nx.map Row.val) rfl (HN.out.own.alloc _) (wr.heap.size + 1) (some ⟨wr.heap.size, 0, none⟩) 1 1 [.slice x.A x.n x.c] rfl (Rd.lit1 _ _ _) (by intro u hu; simp only [List.mem_singleton] at hu; subst hu; rfl) hkm (by omega) (by simp; omega) ?_; intro A3 c3 w3 hown3 hg3 hat3))
              refine ⟨⟨j + 1, A3, p + 1, c3, true, nx ++ [x], by omega, by rfl, rfl, rfl, HN.out.push HXO.out hown3 hg3, ?_, by omega⟩, ?_⟩
              · rw [HNX.out]; simp [refStep, HXE.out]
              · simp only [intOf]; omega
          | false =>
            have hge := run_geq x.l r.l HXB.out HSR.out.bytes 9 wr
            by_cases hc : 0 ≤ cmpN x.l r.l
            · rw [decide_eq_true hc] at hge
              have HC := Lib.hid hc
              clear hc
              by_cases hxe : x.l = r.l
              · rw [decide_eq_true hxe] at hbq
                have HXE := Lib.hid hxe
                clear hxe
                go_upto_region 13 with (at_builtin; first | (refine wpList_app _ rfl (.tmp 32) (.tmp 33) 33 rfl wr.heap.size 5 i1 _ 1 1 Try.underlying33 hi1 hy0 hy1 hy2 rfl (by omega) (.slice (some ⟨wr.heap.size, 0, none⟩) 0 0) 0 [] rfl (World.ownsRow_lit wr #[] 0 (Nat.le_refl _) (by decide) rfl) wr.heap.size r.A r.n r.c (byts r.l) rfl (HRD.out.alloc (Nat.le_refl _) _) (by intro u hu; simp only [byts, List.mem_map] at hu; obtain ⟨b, _, rfl⟩ := hu; rfl) hrm (by omega) (by simp) ?_; intro A4 c4 w4 hown4 hg4 hat4; simp only [Nat.zero_add, List.nil_append] at hown4 hat4; try simp only [Nat.zero_add]; have hu4 : Upd Nix wr w4 := ((Upd.refl Nix wr).alloc _).grown hg4 fun b hb hl => (by simp only [Value.ownBlock, Option.some.injEq] at hb; omega); have HN4 := Lib.hid (HN.out.go hu4); have hs4 := hu4.size; have hnew : OwnRow w4 w.heap.size ⟨A4, r.n, c4, r.l⟩ := (⟨hown4, HSR.out.bytes, HSR.out.len⟩ : OwnRow w4 wr.heap.size ⟨A4, r.n, c4, r.l⟩).base' hwr; have HNEW := Lib.hid hnew; clear hnew hu4 hown4 hat4 hg4) | (refine wpList_app _ rfl (.tmp 31) (.tmp 35) 26 rfl wo.heap.size 33 i0 _ 1 24 Try.underlying26 hi0 hz0 hz1 hz2 rfl (by omega) (.slice A2 p c2) p (nx.map Row.val) rfl (HN4.out.own.alloc _) (w4.heap.size + 1) (some ⟨w4.heap.size, 0, none⟩) 1 1 [.slice A4 r.n c4] rfl (Rd.lit1 _ _ _) (by intro u hu; simp only [List.mem_singleton] at hu; subst hu; rfl) hkm (by omega) (by simp; omega) ?_; intro A5 c5 w5 hown5 hg5 hat5; have HN5 := Lib.hid (HN4.out.push HNEW.out hown5 hg5); have hs5 := HN5.out.upd.size; clear hown5 hg5 hat5))
                have kx5 := KX.out w5 HN5.out.upd
                have kr5 := KR.out w5 HN5.out.upd
                clear kx0 kr0 hge hcell
                go_wp2_with fail
                refine ⟨⟨j + 1, A5, p + 1, c5, true, nx ++ [⟨A4, r.n, c4, r.l⟩], by omega, by rfl, rfl, rfl, HN5.out, ?_, by omega⟩, ?_⟩
                · rw [HNX.out]; have h1 := HC.out; have h2 := HXE.out; rw [h2] at h1 ⊢; simp [refStep, h1]
                · simp only [intOf]; omega
              · rw [decide_eq_false hxe] at hbq
                have HXE := Lib.hid hxe
                clear hxe
                go_upto_region 13 with (at_builtin; first | (refine wpList_app _ rfl (.tmp 32) (.tmp 33) 33 rfl wr.heap.size 5 i1 _ 1 1 Try.underlying33 hi1 hy0 hy1 hy2 rfl (by omega) (.slice (some ⟨wr.heap.size, 0, none⟩) 0 0) 0 [] rfl (World.ownsRow_lit wr #[] 0 (Nat.le_refl _) (by decide) rfl) wr.heap.size r.A r.n r.c (byts r.l) rfl (HRD.out.alloc (Nat.le_refl _) _) (by intro u hu; simp only [byts, List.mem_map] at hu; obtain ⟨b, _, rfl⟩ := hu; rfl) hrm (by omega) (by simp) ?_; intro A4 c4 w4 hown4 hg4 hat4; simp only [Nat.zero_add, List.nil_append] at hown4 hat4; try simp only [Nat.zero_add]; have hu4 : Upd Nix wr w4 := ((Upd.refl Nix wr).alloc _).grown hg4 fun b hb hl => (by simp only [Value.ownBlock, Option.some.injEq] at hb; omega); have HN4 := Lib.hid (HN.out.go hu4); have hs4 := hu4.size; have hnew : OwnRow w4 w.heap.size ⟨A4, r.n, c4, r.l⟩ := (⟨hown4, HSR.out.bytes, HSR.out.len⟩ : OwnRow w4 wr.heap.size ⟨A4, r.n, c4, r.l⟩).base' hwr; have HNEW := Lib.hid hnew; clear hnew hu4 hown4 hat4 hg4) | (refine wpList_app _ rfl (.tmp 31) (.tmp 35) 26 rfl wo.heap.size 33 i0 _ 1 24 Try.underlying26 hi0 hz0 hz1 hz2 rfl (by omega) (.slice A2 p c2) p (nx.map Row.val) rfl (HN4.out.own.alloc _) (w4.heap.size + 1) (some ⟨w4.heap.size, 0, none⟩) 1 1 [.slice A4 r.n c4] rfl (Rd.lit1 _ _ _) (by intro u hu; simp only [List.mem_singleton] at hu; subst hu; rfl) hkm (by omega) (by simp; omega) ?_; intro A5 c5 w5 hown5 hg5 hat5; have HN5 := Lib.hid (HN4.out.push HNEW.out hown5 hg5); have hs5 := HN5.out.upd.size; clear hown5 hg5 hat5))
                have kx5 := KX.out w5 HN5.out.upd
                have kr5 := KR.out w5 HN5.out.upd
                clear kx0 kr0 hge hcell
                go_wp2_with (at_builtin; (refine wpList_app _ rfl (.tmp 42) (.tmp 44) 26 rfl wo.heap.size 33 i0 _ 1 24 Try.underlying26 hi0 hz0 hz1 hz2 rfl (by omega) (.slice A5 (p + 1) c5) (p + 1) ((nx ++ [(⟨A4, r.n, c4, r.l⟩ : Row)]).map Row.val) rfl (HN5.out.own.alloc _) (w5.heap.size + 1) (some ⟨w5.heap.size, 0, none⟩) 1 1 [.slice x.A x.n x.c] rfl (Rd.lit1 _ _ _) (by intro u hu; simp only [List.mem_singleton] at hu; subst hu; rfl) hkm2 (by omega) (by simp; omega) ?_; intro A3 c3 w3 hown3 hg3 hat3))
                refine ⟨⟨j + 1, A3, p + 1 + 1, c3, true, nx ++ [⟨A4, r.n, c4, r.l⟩] ++ [x], by omega, by rfl, rfl, rfl, HN5.out.push (XOW.out w5 HN5.out.upd) hown3 hg3, ?_, by omega⟩, ?_⟩
                · rw [HNX.out]; have h1 := HC.out; have h2 := HXE.out; simp [refStep, h1, h2]
                · simp only [intOf]; omega
            · rw [decide_eq_false hc] at hge
              have hxe : ¬ x.l = r.l := by
                intro e
                rw [e, cmpN_self] at hc
                omega
              rw [decide_eq_false hxe] at hbq
              have HXE := Lib.hid hxe
              have HC := Lib.hid hc
              clear hxe hc
              go_wp2_with (at_builtin; (refine wpList_app _ rfl (.tmp 42) (.tmp 44) 26 rfl wo.heap.size 33 i0 _ 1 24 Try.underlying26 hi0 hz0 hz1 hz2 rfl (by omega) (.slice A2 p c2) p (nx.map Row.val) rfl (HN.out.own.alloc _) (wr.heap.size + 1) (some ⟨wr.heap.size, 0, none⟩) 1 1 [.slice x.A x.n x.c] rfl (Rd.lit1 _ _ _) (by intro u hu; simp only [List.mem_singleton] at hu; subst hu; rfl) hkm (by omega) (by simp; omega) ?_; intro A3 c3 w3 hown3 hg3 hat3))
              refine ⟨⟨j + 1, A3, p + 1, c3, false, nx ++ [x], by omega, by rfl, rfl, rfl, HN.out.push HXO.out hown3 hg3, ?_, by omega⟩, ?_⟩
              · rw [HNX.out]; have h1 := HC.out; have h2 := HXE.out; simp [refStep, h1, h2]
              · simp only [intOf]; omega
        · have hji : ¬ (j : Int) < (m : Int) := by omega
          have hje : j = m := by omega
          have hdl : (done.map Row.l).length = m := by have h1 := HO.out.1; simp only [List.length_map, Nat.mul_one] at h1 ⊢; omega
          have hfin : refEnd r.l (nx.map Row.l, put) = orderL ((rows.map Row.l).take (k + 1)) := by
            rw [HST.out, hje, List.take_of_length_le (by omega), orderL_take (d := r.l) (by rw [List.getElem?_map, HRr.out]; rfl), ← HD.out]
            have h1 := refIns_eq r.l (done.map Row.l) [] (by rw [HD.out]; exact (orderL_ordered _).1)
            rw [h1]
            rfl
          have HFIN := Lib.hid hfin
          clear hje hdl hfin
          cases put with
          | true =>
            go_wp2_with fail
            refine ⟨⟨k + 1, A2, p, c2, nx, by omega, by rfl, rfl, own_base HN.out.own hwo, HFIN.out, HN.out.rows, HU.out.trans HN.out.upd fun _ _ h => h⟩, ?_⟩
            simp only [intOf]; omega
          | false =>
            go_wp2_with (at_builtin; first | (refine wpList_app _ rfl (.tmp 50) (.tmp 51) 33 rfl wr.heap.size 5 i1 _ 1 1 Try.underlying33 hi1 hy0 hy1 hy2 rfl (by omega) (.slice (some ⟨wr.heap.size, 0, none⟩) 0 0) 0 [] rfl (World.ownsRow_lit wr #[] 0 (Nat.le_refl _) (by decide) rfl) wr.heap.size r.A r.n r.c (byts r.l) rfl (HRD.out.alloc (Nat.le_refl _) _) (by intro u hu; simp only [byts, List.mem_map] at hu; obtain ⟨b, _, rfl⟩ := hu; rfl) hrm (by omega) (by simp) ?_; intro A4 c4 w4 hown4 hg4 hat4; simp only [Nat.zero_add, List.nil_append] at hown4 hat4; try simp only [Nat.zero_add]; have hu4 : Upd Nix wr w4 := ((Upd.refl Nix wr).alloc _).grown hg4 fun b hb hl => (by simp only [Value.ownBlock, Option.some.injEq] at hb; omega); have HN4 := Lib.hid (HN.out.go hu4); have hs4 := hu4.size; have hnew : OwnRow w4 w.heap.size ⟨A4, r.n, c4, r.l⟩ := (⟨hown4, HSR.out.bytes, HSR.out.len⟩ : OwnRow w4 wr.heap.size ⟨A4, r.n, c4, r.l⟩).base' hwr; have HNEW := Lib.hid hnew; clear hnew hu4 hown4 hat4 hg4) | (refine wpList_app _ rfl (.tmp 49) (.tmp 53) 26 rfl wo.heap.size 33 i0 _ 1 24 Try.underlying26 hi0 hz0 hz1 hz2 rfl (by omega) (.slice A2 p c2) p (nx.map Row.val) rfl (HN4.out.own.alloc _) (w4.heap.size + 1) (some ⟨w4.heap.size, 0, none⟩) 1 1 [.slice A4 r.n c4] rfl (Rd.lit1 _ _ _) (by intro u hu; simp only [List.mem_singleton] at hu; subst hu; rfl) hkm (by omega) (by simp; omega) ?_; intro A5 c5 w5 hown5 hg5 hat5; have HN5 := Lib.hid (HN4.out.push HNEW.out hown5 hg5); have hs5 := HN5.out.upd.size; clear hown5 hg5 hat5))
            refine ⟨⟨k + 1, A5, p + 1, c5, nx ++ [⟨A4, r.n, c4, r.l⟩], by omega, by rfl, rfl, own_base HN5.out.own hwo, ?_, HN5.out.rows, HU.out.trans HN5.out.upd fun _ _ h => h⟩, ?_⟩
            · rw [← HFIN.out]; simp [refEnd]
            · simp only [intOf]; omega
    · have hki : ¬ (k : Int) < (n : Int) := by omega
      have hke : k = n := by omega
      subst hke
      rw [List.take_of_length_le (by rw [List.length_map, H.out.len]; exact Nat.le_refl _)] at HD
      go_wp2_with fail
      go_ret
      exact ⟨A1, m, c1, rfl, done, HO.out, HD.out, HR.out, HU.out⟩
end Go.Proofs.Ytlhbikdelbollaa
