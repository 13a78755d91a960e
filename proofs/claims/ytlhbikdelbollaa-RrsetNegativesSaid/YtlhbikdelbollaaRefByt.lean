/- ciceroneref08.bytes, Size: how many bytes an entry has. -/
import Derived.Test.YtlhbikdelbollaaRefBig
namespace Go.Proofs.Ytlhbikdelbollaa
open Go.RowKit Go.Cx Go.Maps

theorem WAt.quiet {w : World} {s : SetV} {g : Nat} {A : Option Addr} {n c : Nat} {l : List Nat} {wr wr' : World} (h : WAt w s g A n c l wr) (k : Upd Nix wr wr') : WAt w s g A n c l wr' :=
  h.upd (k.mono fun _ _ h => h.elim) (own_upd' h.own k fun _ _ h => h)
theorem byts_app (a b : List Nat) : byts (a ++ b) = byts a ++ byts b := List.map_append
theorem byts_one (l : List Nat) : ∀ u ∈ byts l, u.oneCell' = true := by
  intro u hu
  obtain ⟨b, _, rfl⟩ := List.mem_map.1 hu
  rfl
theorem sumL_one (l : List (List Nat)) (k : Nat) (d : List Nat) (h : l[k]? = some d) : sumL (l.take k) + (2 + d.length) ≤ sumL l := by
  have h1 := sumL_snoc l k d h
  have h2 := sumL_take l (k + 1)
  omega
set_option maxRecDepth 100000 in
set_option maxHeartbeats 6400000 in
theorem ref_bytes (name zone : ByteArray) (tN cN rN kN eN : Nat) (dA : Option Addr) (dn dc : Nat) (rows : List Row) (w : World) (B : Nat) (h : RowsAt w B dA dn dc rows) (hB : B ≤ w.heap.size) (hname : name.size < 256) (hzone : zone.size < 256)
    (hbt : tN < 65536) (hbc : cN < 65536) (hbr : rN < 256) (hbk : kN < 256) (hbe : eN < 4611686018427387904) (hdn : dn ≤ 4000) (hsz : sumL (rows.map Row.l) ≤ 300000000) :
    Calls Try.prog 78 #[.agg #[.bool false, .string name, .int .i64 tN, .int .i64 cN, .int .i64 rN, .int .i64 kN, .int .i64 eN, .string zone, .slice dA dn dc]] w fun e w' => ∃ A n c, e = .returned (.slice A n c) ∧ n = 19 + name.size + zone.size + sumL (rows.map Row.l) ∧ Upd Nix w w' := by
  obtain ⟨i0, hi0, hz0, hz1, hz2⟩ := info_parts infoU8
  obtain ⟨s, hs⟩ : ∃ s : SetV, s = ⟨name, tN, cN, rN, kN, eN, zone, dA, dn, dc, rows⟩ := ⟨_, rfl⟩
  have H := Lib.hid h
  clear h
  obtain ⟨g, hg⟩ : ∃ g, w.heap.size = g := ⟨_, rfl⟩
  go_enter Try.func78, Try.ntmps78
  go_upto_region 2 with fail
  have hat : WAt w s g none 0 0 [] ((w.alloc (.cells s.earr 83)).alloc (.cells s.cells.toArray 28)) :=
    ⟨(Blk.new' _ _ _ hg.symm).alloc _, Blk.new' _ _ _ (by simp [hg]), ⟨rfl, .inl ⟨rfl, rfl⟩⟩, ((Below.refl g w).alloc (by omega) _).alloc (by simp; omega) _⟩
  have HG := Lib.hid hg
  have hBg : B ≤ g := by rw [← hg]; exact hB
  clear hg
  have hea : s.earr = #[.bool false, .string name, .int .i64 tN, .int .i64 cN, .int .i64 rN, .int .i64 kN, .int .i64 eN, .string zone, .slice dA dn dc] := by rw [hs]; rfl
  have hca : s.cells = [.string name, .int .i64 tN, .int .i64 cN, .int .i64 rN, .int .i64 kN, .int .i64 eN, .string zone, .slice dA dn dc] := by rw [hs]; rfl
  rw [hea, hca] at hat
  have HEA := Lib.hid hea
  have HCA := Lib.hid hca
  clear hea hca hs
  generalize ((w.alloc (.cells #[.bool false, .string name, .int .i64 tN, .int .i64 cN, .int .i64 rN, .int .i64 kN, .int .i64 eN, .string zone, .slice dA dn dc] 83)).alloc (.cells [Value.string name, .int .i64 tN, .int .i64 cN, .int .i64 rN, .int .i64 kN, .int .i64 eN, .string zone, .slice dA dn dc].toArray 28)) = wa at *
  have HAT := Lib.hid hat
  have hbase := hat.size
  clear hat
  have hd : ∀ i, wa.cell? ⟨g + 1, i, none⟩ = _ := fun i => HAT.out.box.cell i
  have he : ∀ i, wa.cell? ⟨g, i, none⟩ = _ := fun i => HAT.out.ebox.cell i
  rw [HCA.out] at hd
  rw [HEA.out] at he
  have hwn : IntKind.u8.wrap (name.size : Int) = (name.size : Int) := wrap_u8_small hname
  go_upto_region 3 with fail
  clear hd he
  obtain ⟨q, hq⟩ : ∃ q, wa.heap.size = q := ⟨_, rfl⟩
  rw [hq]
  have hlit : WAt w s g (some ⟨q, 0, none⟩) 2 2 [0, name.size] (wa.alloc (.cells #[.int .u8 0, .int .u8 name.size] 5)) := by
    have h1 := World.ownsRow_lit (base := g + 2) (e := 5) (size := 1) wa #[.int .u8 0, .int .u8 name.size] 2 (by omega) (by decide) rfl
    rw [hq] at h1
    exact ⟨HAT.out.ebox.alloc _, HAT.out.box.alloc _, h1, HAT.out.bel.alloc (by omega) _⟩
  generalize wa.alloc (.cells #[.int .u8 0, .int .u8 name.size] 5) = wb at *
  have HW := Lib.hid hlit
  have BT := Lib.hid (fun W => show Calls Try.prog 92 #[.int .i64 tN, .int .i64 2] W _ from ref_big tN 2 (by omega) ⟨by omega, by omega⟩ W)
  have BC := Lib.hid (fun W => show Calls Try.prog 92 #[.int .i64 cN, .int .i64 2] W _ from ref_big cN 2 (by omega) ⟨by omega, by omega⟩ W)
  have BE := Lib.hid (fun W => show Calls Try.prog 92 #[.int .i64 eN, .int .i64 8] W _ from ref_big eN 8 (by omega) ⟨by omega, by omega⟩ W)
  have cells : ∀ (A : Option Addr) (n c : Nat) (l : List Nat) (wr : World), WAt w s g A n c l wr → wr.cell? ⟨g + 1, 0, none⟩ = some (.string name) ∧ wr.cell? ⟨g + 1, 1, none⟩ = some (.int .i64 tN) ∧ wr.cell? ⟨g + 1, 2, none⟩ = some (.int .i64 cN) ∧ wr.cell? ⟨g + 1, 3, none⟩ = some (.int .i64 rN) ∧ wr.cell? ⟨g + 1, 4, none⟩ = some (.int .i64 kN) ∧ wr.cell? ⟨g + 1, 5, none⟩ = some (.int .i64 eN) ∧ wr.cell? ⟨g + 1, 6, none⟩ = some (.string zone) ∧ wr.cell? ⟨g + 1, 7, none⟩ = some (.slice dA dn dc) := by
    intro A n c l wr h
    have hb := h.box
    rw [HCA.out] at hb
    exact ⟨hb.cell 0, hb.cell 1, hb.cell 2, hb.cell 3, hb.cell 4, hb.cell 5, hb.cell 6, hb.cell 7⟩
  have CE := Lib.hid cells
  have ecell : ∀ (A : Option Addr) (n c : Nat) (l : List Nat) (wr : World), WAt w s g A n c l wr → wr.cell? ⟨g, 0, none⟩ = some (.bool false) := by
    intro A n c l wr h
    have hb := h.ebox
    rw [HEA.out] at hb
    exact hb.cell 0
  have EC := Lib.hid ecell
  have he := ecell _ _ _ _ _ hlit
  clear hlit hq cells ecell hwn
  go_wp2_with fail
  go_region_held3 (fun w' => w'.cell? ⟨g + 1, 0, none⟩ = some (.string name) ∧ w'.cell? ⟨g + 1, 1, none⟩ = some (.int .i64 tN) ∧ w'.cell? ⟨g + 1, 2, none⟩ = some (.int .i64 cN))
    (first | exact ⟨(CE.out _ _ _ _ _ HW.out.drew).1, (CE.out _ _ _ _ _ HW.out.drew).2.1, (CE.out _ _ _ _ _ HW.out.drew).2.2.1⟩ | exact ⟨(CE.out _ _ _ _ _ hw).1, (CE.out _ _ _ _ _ hw).2.1, (CE.out _ _ _ _ _ hw).2.2.1⟩)
    ((first
    | (refine step_app_s _ rfl (.tmp 18) (.tmp 20) 33 9 rfl (g + 2) 5 i0 Try.underlying33 Try.underlying9 hi0 hz0 hz1 hz2 (.slice (some ⟨q, 0, none⟩) 2 2) 2 _ rfl HW.out.drew.own name rfl (by omega) HW.out.drew.size ?_; intro A2 c2 w2 hown2 hg2 hat2; have hw := HW.out.drew.grown hg2 hown2; clear hown2 hg2 hat2)
    | (go_at_call 92; (with_reducible refine (BT.out _).mono ?_); rintro e w3 ⟨rfl, hb3, hu3⟩; have hw := hw.quiet hu3)
    | (refine step_app _ rfl (.tmp 21) (.tmp 24) 33 rfl (g + 2) 5 i0 _ 1 1 Try.underlying33 hi0 hz0 hz1 hz2 rfl (by omega) (.slice A2 (2 + name.size) c2) (2 + name.size) _ rfl hw.own w3.heap.size (some ⟨w2.heap.size, 0, none⟩) 2 2 (byts (beN 2 tN)) rfl (Rd.own hb3) (byts_one _) (by unfold maxLen; omega) (by omega) hw.size ?_; intro A4 c4 w4 hown4 hg4 hat4; have hw := hw.grown (l' := _ ++ beN 2 tN) hg4 (by rw [byts_app]; exact hown4); clear hown4 hg4 hat4)
    | (go_at_call 92; (with_reducible refine (BC.out _).mono ?_); rintro e w5 ⟨rfl, hb5, hu5⟩; have hw := hw.quiet hu5)
    | (refine step_app _ rfl (.tmp 25) (.tmp 28) 33 rfl (g + 2) 5 i0 _ 1 1 Try.underlying33 hi0 hz0 hz1 hz2 rfl (by omega) (.slice A4 (2 + name.size + 2) c4) (2 + name.size + 2) _ rfl hw.own w5.heap.size (some ⟨w4.heap.size, 0, none⟩) 2 2 (byts (beN 2 cN)) rfl (Rd.own hb5) (byts_one _) (by unfold maxLen; omega) (by omega) hw.size ?_; intro A6 c6 w6 hown6 hg6 hat6; have hw := hw.grown (l' := _ ++ beN 2 cN) hg6 (by rw [byts_app]; exact hown6); clear hown6 hg6 hat6)))
  have HW6 := Lib.hid hw
  have he6 := EC.out _ _ _ _ _ hw
  clear he hw hb3 hu3 hb5 hu5
  obtain ⟨n6, hn6⟩ : ∃ n, 2 + name.size + 2 + 2 = n := ⟨_, rfl⟩
  rw [hn6] at HW6 ⊢
  obtain ⟨l6, hl6⟩ : ∃ l, [0, name.size] ++ bytesOf name ++ beN 2 tN ++ beN 2 cN = l := ⟨_, rfl⟩
  rw [hl6] at HW6
  clear hl6
  have hwr : IntKind.u8.wrap (rN : Int) = (rN : Int) := wrap_u8_small hbr
  have hwk : IntKind.u8.wrap (kN : Int) = (kN : Int) := wrap_u8_small hbk
  go_wp2_with fail
  clear he6
  go_region_held3 (fun w' => w'.cell? ⟨g + 1, 3, none⟩ = some (.int .i64 rN) ∧ w'.cell? ⟨g + 1, 4, none⟩ = some (.int .i64 kN) ∧ w'.cell? ⟨g + 1, 5, none⟩ = some (.int .i64 eN))
    (first | exact (let x := CE.out _ _ _ _ _ HW6.out.drew; ⟨x.2.2.2.1, x.2.2.2.2.1, x.2.2.2.2.2.1⟩) | exact (let x := CE.out _ _ _ _ _ (HW6.out.alloc _).drew; ⟨x.2.2.2.1, x.2.2.2.2.1, x.2.2.2.2.2.1⟩) | exact (let x := CE.out _ _ _ _ _ hw; ⟨x.2.2.2.1, x.2.2.2.2.1, x.2.2.2.2.2.1⟩))
    ((first
    | (refine step_app _ rfl (.tmp 33) (.tmp 40) 33 rfl (g + 2) 5 i0 _ 1 1 Try.underlying33 hi0 hz0 hz1 hz2 rfl (by omega) (.slice A6 n6 c6) n6 _ rfl (HW6.out.alloc _).drew.own (w6.heap.size + 1) (some ⟨w6.heap.size, 0, none⟩) 2 2 (byts [rN, kN]) rfl ((Rd.lit _ _ _ 1 2 rfl).drewN 1) (byts_one _) (by unfold maxLen; omega) (by omega) (HW6.out.alloc _).drew.size ?_; intro A7 c7 w7 hown7 hg7 hat7; have hw := ((HW6.out.alloc _).drew).grown (l' := _ ++ [rN, kN]) hg7 (by rw [byts_app]; exact hown7); clear hown7 hg7 hat7)
    | (go_at_call 92; (with_reducible refine (BE.out _).mono ?_); rintro e w8 ⟨rfl, hb8, hu8⟩; have hw := hw.quiet hu8)
    | (refine step_app _ rfl (.tmp 41) (.tmp 44) 33 rfl (g + 2) 5 i0 _ 1 1 Try.underlying33 hi0 hz0 hz1 hz2 rfl (by omega) (.slice A7 (n6 + 2) c7) (n6 + 2) _ rfl hw.own w8.heap.size (some ⟨w7.heap.size, 0, none⟩) 8 8 (byts (beN 8 eN)) rfl (Rd.own hb8) (byts_one _) (by unfold maxLen; omega) (by omega) hw.size ?_; intro A9 c9 w9 hown9 hg9 hat9; have hw := hw.grown (l' := _ ++ beN 8 eN) hg9 (by rw [byts_app]; exact hown9); clear hown9 hg9 hat9)))
  have HW9 := Lib.hid hw
  clear hw hb8 hu8
  obtain ⟨l9, hl9⟩ : ∃ l, l6 ++ [rN, kN] ++ beN 8 eN = l := ⟨_, rfl⟩
  rw [hl9] at HW9
  clear hl9
  obtain ⟨n9, hn9⟩ : ∃ n, n6 + 2 + 8 = n := ⟨_, rfl⟩
  rw [hn9] at HW9 ⊢
  have hwz : IntKind.u8.wrap (zone.size : Int) = (zone.size : Int) := wrap_u8_small hzone
  go_wp2_with fail
  go_region_held3 (fun w' => w'.cell? ⟨g + 1, 6, none⟩ = some (.string zone))
    (first | exact (CE.out _ _ _ _ _ HW9.out.drew).2.2.2.2.2.2.1 | exact (CE.out _ _ _ _ _ (HW9.out.alloc _).drew).2.2.2.2.2.2.1 | exact (CE.out _ _ _ _ _ hw).2.2.2.2.2.2.1)
    ((first
    | (refine step_app _ rfl (.tmp 46) (.tmp 51) 33 rfl (g + 2) 5 i0 _ 1 1 Try.underlying33 hi0 hz0 hz1 hz2 rfl (by omega) (.slice A9 n9 c9) n9 _ rfl (HW9.out.alloc _).drew.own (w9.heap.size + 1) (some ⟨w9.heap.size, 0, none⟩) 1 1 (byts [zone.size]) rfl ((Rd.lit _ _ _ 1 1 rfl).drewN 1) (byts_one _) (by unfold maxLen; omega) (by omega) (HW9.out.alloc _).drew.size ?_; intro A10 c10 w10 hown10 hg10 hat10; have hw := ((HW9.out.alloc _).drew).grown (l' := _ ++ [zone.size]) hg10 (by rw [byts_app]; exact hown10); clear hown10 hg10 hat10)
    | (refine step_app_s _ rfl (.tmp 52) (.tmp 54) 33 9 rfl (g + 2) 5 i0 Try.underlying33 Try.underlying9 hi0 hz0 hz1 hz2 (.slice A10 (n9 + 1) c10) (n9 + 1) _ rfl hw.own zone rfl (by omega) hw.size ?_; intro A11 c11 w11 hown11 hg11 hat11; have hw := hw.grown hg11 hown11; clear hown11 hg11 hat11)))
  have HW11 := Lib.hid hw
  clear hw
  obtain ⟨l11, hl11⟩ : ∃ l, l9 ++ [zone.size] ++ bytesOf zone = l := ⟨_, rfl⟩
  rw [hl11] at HW11
  clear hl11
  obtain ⟨n11, hn11⟩ : ∃ n, n9 + 1 + zone.size = n := ⟨_, rfl⟩
  rw [hn11] at HW11 ⊢
  have BN := Lib.hid (fun W => show Calls Try.prog 92 #[.int .i64 dn, .int .i64 2] W _ from ref_big dn 2 (by omega) ⟨by omega, by omega⟩ W)
  have c7 := (CE.out _ _ _ _ _ HW11.out).2.2.2.2.2.2.2
  go_wp2_with fail
  refine (BN.out _).mono ?_
  rintro e w12 ⟨rfl, hb12, hu12⟩
  have HW12 := Lib.hid (HW11.out.quiet hu12)
  have HB12 := Lib.hid hb12
  clear hb12 hu12 c7
  go_wp2_with (at_builtin; refine wpList_app _ rfl (.tmp 56) (.tmp 60) 33 rfl (g + 2) 5 i0 _ 1 1 Try.underlying33 hi0 hz0 hz1 hz2 rfl (by omega) (.slice A11 n11 c11) n11 _ rfl HW12.out.own w12.heap.size (some ⟨w11.heap.size, 0, none⟩) 2 2 (byts (beN 2 dn)) rfl (Rd.own HB12.out) (byts_one _) (by unfold maxLen; omega) (by omega) HW12.out.size ?_; intro A13 c13 w13 hown13 hg13 hat13; have hw := HW12.out.grown (l' := _ ++ beN 2 dn) hg13 (by rw [byts_app]; exact hown13); clear hown13 hg13 hat13; have c7 := (CE.out _ _ _ _ _ hw).2.2.2.2.2.2.2)
  have HW13 := Lib.hid hw
  clear hw c7
  go_loopw [4, 65] (fun s4 s65 wr => ∃ (k : Nat) (A : Option Addr) (n c : Nat) (l : List Nat), k ≤ dn ∧ s65 = .int .i64 k ∧ s4 = .slice A n c ∧ n = n11 + 2 + sumL ((rows.map Row.l).take k) ∧ WAt w s g A n c l wr) (fun _ s65 _ => dn - (intOf s65).toNat)
  case atStart => exact ⟨0, A13, n11 + 2, c13, _, Nat.zero_le _, rfl, rfl, by simp [sumL], HW13.out⟩
  case round =>
    obtain ⟨k, A, n, c, l, hk, rfl, rfl, hnk, hwr⟩ := hrel
    have HWR := Lib.hid hwr
    have HNK := Lib.hid hnk
    clear hwr hnk
    by_cases hkn : k < dn
    · have hki : (k : Int) < (dn : Int) := by omega
      have hrows := H.out.below (HWR.out.bel.mono (B' := B) hBg)
      obtain ⟨ad, r, hadB, hr, hmem, hcell, hidx⟩ := hrows.idx hkn
      have hsl := hrows.each r hmem
      have hsn := hsl.len
      have hrl := hsl.llen
      have hr2 : (rows.map Row.l)[k]? = some r.l := by rw [List.getElem?_map, hr]; rfl
      have hsn2 := sumL_snoc _ k _ hr2
      have hone := sumL_one _ k _ hr2
      rw [hrl] at hsn2 hone
      have hnb : n ≤ n11 + 2 + 300000000 := by have := HNK.out; omega
      have hrb : r.n ≤ 300000000 := by omega
      have HSL := Lib.hid hsl
      have HSN := Lib.hid hsn2
      have BR := Lib.hid (fun W => show Calls Try.prog 92 #[.int .i64 r.n, .int .i64 2] W _ from ref_big r.n 2 (by omega) ⟨by omega, by omega⟩ W)
      clear hr hrows hsl hrl hr2 hsn2 hone
      go_wp2_with fail
      refine (BR.out _).mono ?_
      rintro e w14 ⟨rfl, hb14, hu14⟩
      have HW14 := Lib.hid (HWR.out.quiet hu14)
      have HB14 := Lib.hid hb14
      have HS14 := Lib.hid (HSL.out.below (hu14.belowNix (by have := HWR.out.size; omega)))
      clear hb14 hu14
      go_wp2_with (at_builtin; first
        | (refine wpList_app _ rfl (.tmp 69) (.tmp 72) 33 rfl (g + 2) 5 i0 _ 1 1 Try.underlying33 hi0 hz0 hz1 hz2 rfl (by omega) (.slice A n c) n _ rfl HW14.out.own w14.heap.size (some ⟨wr.heap.size, 0, none⟩) 2 2 (byts (beN 2 r.n)) rfl (Rd.own HB14.out) (byts_one _) (by unfold maxLen; omega) (by omega) HW14.out.size ?_; intro A15 c15 w15 hown15 hg15 hat15; have HW15 := Lib.hid (HW14.out.grown (l' := _ ++ beN 2 r.n) hg15 (by rw [byts_app]; exact hown15)); have HS15 := Lib.hid (HS14.out.below (((Upd.refl (Own (.slice A n c)) w14).grown hg15 fun _ hb _ => hb).below (by have := HW14.out.size; omega) (fun b _ hb => by have := HW14.out.own_ge b hb; omega))); clear hown15 hg15 hat15)
        | (refine wpList_app _ rfl (.tmp 73) (.tmp 74) 33 rfl (g + 2) 5 i0 _ 1 1 Try.underlying33 hi0 hz0 hz1 hz2 rfl (by omega) (.slice A15 (n + 2) c15) (n + 2) _ rfl HW15.out.own B r.A r.n r.c (byts r.l) rfl HS15.out.rd (byts_one _) (by unfold maxLen; omega) (by omega) HW15.out.size ?_; intro A16 c16 w16 hown16 hg16 hat16; have HW16 := Lib.hid (HW15.out.grown (l' := _ ++ r.l) hg16 (by rw [byts_app]; exact hown16)); clear hown16 hg16 hat16))
      refine ⟨⟨k + 1, A16, n + 2 + r.n, c16, _, by omega, by rfl, rfl, ?_, HW16.out⟩, ?_⟩
      · have h1 := HSN.out
        have h2 := HNK.out
        omega
      · simp only [intOf]; omega
    · have hki : ¬ (k : Int) < (dn : Int) := by omega
      have hk2 : k = dn := by omega
      subst hk2
      go_wp2_with fail
      go_ret
      refine ⟨A, n, ⟨c, rfl⟩, ?_, ?_⟩
      · have h1 := HNK.out
        rw [List.take_of_length_le (by rw [List.length_map, H.out.len]; exact Nat.le_refl _)] at h1
        omega
      · have h3 := HG.out
        have h4 := HWR.out.bel
        rw [← h3] at h4
        exact Upd.of_below' h4
set_option maxRecDepth 100000 in
theorem ref_size (name zone : ByteArray) (tN cN rN kN eN : Nat) (dA : Option Addr) (dn dc : Nat) (rows : List Row) (w : World) (B : Nat) (h : RowsAt w B dA dn dc rows) (hB : B ≤ w.heap.size) (hname : name.size < 256) (hzone : zone.size < 256)
    (hbt : tN < 65536) (hbc : cN < 65536) (hbr : rN < 256) (hbk : kN < 256) (hbe : eN < 4611686018427387904) (hdn : dn ≤ 4000) (hsz : sumL (rows.map Row.l) ≤ 300000000) :
    Calls Try.prog 62 #[.agg #[.string name, .int .i64 tN, .int .i64 cN, .int .i64 rN, .int .i64 kN, .int .i64 eN, .string zone, .slice dA dn dc]] w fun e w' => e = .returned (.int .i64 ((19 + name.size + zone.size + sumL (rows.map Row.l) : Nat) : Int)) ∧ Upd Nix w w' := by
  have hu := (Upd.refl Nix w).alloc (.cells #[.string name, .int .i64 tN, .int .i64 cN, .int .i64 rN, .int .i64 kN, .int .i64 eN, .string zone, .slice dA dn dc] 28)
  have HU := Lib.hid hu
  have HC := Lib.hid (ref_bytes name zone tN cN rN kN eN dA dn dc rows (w.alloc (.cells #[.string name, .int .i64 tN, .int .i64 cN, .int .i64 rN, .int .i64 kN, .int .i64 eN, .string zone, .slice dA dn dc] 28)) B (h.below (hu.belowNix hB)) (by simp; omega) hname hzone hbt hbc hbr hbk hbe hdn hsz)
  clear h hu
  go_enter Try.func62, Try.ntmps62
  go_wp2_with fail
  refine HC.out.mono ?_
  rintro e w1 ⟨A, n, c, rfl, hn, hu1⟩
  have HN := Lib.hid hn
  have HU1 := Lib.hid (HU.out.trans hu1 fun _ _ h => h)
  clear hn hu1 HC
  go_wp2_with fail
  go_ret
  exact ⟨by rw [← HN.out]; rfl, HU1.out⟩
end Go.Proofs.Ytlhbikdelbollaa
