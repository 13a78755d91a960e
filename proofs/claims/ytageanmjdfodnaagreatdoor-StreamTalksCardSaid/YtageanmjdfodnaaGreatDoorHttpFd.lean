/- A reader of requests: Feed. -/
import Derived.Test.YtageanmjdfodnaaGreatDoorHttpFa
namespace Go.Proofs.YtageanmjdfodnaaGreatDoor
open Go.RowKit Go.Cx Go.Maps

set_option maxRecDepth 100000 in
set_option maxHeartbeats 12800000 in
theorem http_feed (base rb : Nat) (bv : Value) (l : List Nat) (body : Option BdV) (A : Option Addr) (n c : Nat) (x : List Nat) (w : World) (h : RdW w base rb bv l body) (hx : Rd w w.heap.size 1 A n (byts x)) (hxb : ∀ b ∈ x, b < 256) (hl : l.length ≤ 2000) (hn : n ≤ 140737488353000) (hB : base ≤ w.heap.size) :
    Calls Tryz.prog 80 #[.pointer (some ⟨rb, 0, none⟩), .slice A n c] w (FeedIs base rb bv l body x w) := by
  obtain ⟨i1, hi1, hy0, hy1, hy2⟩ := info_parts infoU8
  obtain ⟨i3, hi3, hz0, hz1, hz2⟩ := info_parts infoReq
  have hxl := hx.1
  simp only [byts, List.length_map, Nat.mul_one] at hxl
  obtain ⟨Ab, cb, rfl, hbc⟩ := h.buf.form
  have hc : ∀ i, w.cell? ⟨rb, i, none⟩ = _ := fun i => h.blk.cell i
  have hrl := h.blk.lt
  have H := Lib.hid h
  have HX := Lib.hid hx
  have HXB := Lib.hid hxb
  have HXL := Lib.hid hxl
  obtain ⟨ll, hll⟩ : ∃ ll, l.length = ll := ⟨_, rfl⟩
  have HLL := Lib.hid hll
  have HBUF := Lib.hid h.buf
  rw [hll] at hc hl HBUF hbc
  obtain ⟨bp, hbp⟩ : ∃ bp, (body.map fun x => (⟨x.bb, 0, none⟩ : Addr)) = bp := ⟨_, rfl⟩
  rw [hbp] at hc
  have HBP := Lib.hid hbp
  clear h hx hxb hxl hll hbp
  have hml : ll + n ≤ maxLen := by unfold maxLen; omega
  go_enter Tryz.func80, Tryz.ntmps80
  go_wp2_with (at_builtin; refine wpList_app_lies _ rfl (.tmp 31) (.tmp 32) 29 rfl base 5 i1 _ 1 Tryz.underlying29 hi1 hy0 hy1 hy2 rfl (.slice Ab ll cb) ll (byts l) rfl HBUF.out w.heap.size A n c (byts x) rfl HX.out (by intro u hu; simp only [byts, List.mem_map] at hu; obtain ⟨b, _, rfl⟩ := hu; rfl) hml (by omega) hB ?_; intro A5 c5 w5 hl5 hg5 hat5; have hb5 := H.out.blk.upd (upd_own hg5) (fun h => lies_ne HBUF.out H.out.blk (by decide) h); have hc5 : ∀ i, w5.cell? ⟨rb, i, none⟩ = _ := fun i => hb5.cell i; have hf5 : ∀ i, w5.frozen? ⟨rb, i, none⟩ = _ := fun i => hb5.free i)
  have hst := FdAt.start (n := n) H.out (by rw [HLL.out]; exact hl5) (by rw [HLL.out]; exact hg5) (by rw [HLL.out]; exact hat5) HXB.out HXL.out
  rw [HLL.out] at hst
  have hfe : feedH ⟨false, l, body.map BdV.d⟩ x = feedN (l.length + x.length + 2) ⟨false, l ++ x, body.map BdV.d⟩ [] := rfl
  have hmz : mz ⟨false, l ++ x, body.map BdV.d⟩ + 1 ≤ l.length + x.length + 2 := by unfold mz; rw [List.length_append]; simp only; split <;> omega
  have hln : ([] : List ReqV).length * 48 + (l ++ x).length + (if (body.map BdV.d).isSome = true then 48 else 0) ≤ ll + n + 48 := by
    rw [List.length_append]
    have := HXL.out
    have := HLL.out
    simp only [List.length_nil]
    split <;> omega
  obtain ⟨R, hR⟩ : ∃ R, feedH ⟨false, l, body.map BdV.d⟩ x = R := ⟨_, rfl⟩
  rw [hR] at hfe
  have HR := Lib.hid hR
  have HFE := Lib.hid hfe
  have HST := Lib.hid hst
  generalize w5.setCell ⟨rb, 2, none⟩ (.slice A5 (ll + n) c5) = wa at *
  obtain ⟨K, hK⟩ : ∃ K, l.length + x.length + 2 = K := ⟨_, rfl⟩
  rw [hK] at HFE hmz
  obtain ⟨V, hV⟩ : ∃ V, Value.slice Ab ll cb = V := ⟨_, rfl⟩
  rw [hV] at HST
  have HV := Lib.hid hV
  clear hR hfe hst hb5 hc5 hf5 hl5 hg5 hat5 hml hc hrl hK hV
  go_loopg [6] K (fun k s6 wr => ∃ (s : HS) (bv' : Value) (body' : Option BdV) (A1 : Option Addr) (c1 : Nat) (rqs : List ReqV), s6 = .slice A1 rqs.length c1 ∧ FdAt w base rb (RFoot rb V body) s bv' body' A1 c1 rqs wr ∧ feedN k s (rqs.map ReqV.said) = R ∧ mz s + 1 ≤ k ∧ rqs.length * 48 + s.b.length + (if s.body.isSome = true then 48 else 0) ≤ ll + n + 48)
  case atStart => exact ⟨_, _, _, none, 0, [], rfl, HST.out, HFE.out.symm, hmz, hln⟩
  case round =>
    obtain ⟨s, bv1, body1, A1, c1, rqs, rfl, hfd, hfn, hm, hsl⟩ := hrel
    obtain ⟨k, rfl⟩ : ∃ k, gk = k + 1 := ⟨gk - 1, by omega⟩
    have HFD := Lib.hid hfd
    have HFN := Lib.hid hfn
    obtain ⟨q, hq⟩ : ∃ q, rqs.length = q := ⟨_, rfl⟩
    rw [hq]
    rw [hq] at hsl
    have HQ := Lib.hid hq
    obtain ⟨z, hz⟩ : ∃ z, (if s.body.isSome = true then 48 else 0) = z := ⟨_, rfl⟩
    rw [hz] at hsl
    have HZ := Lib.hid hz
    clear hz
    cases hen : s.ended with
    | true =>
      obtain ⟨v, p, hb⟩ := hfd.off hen
      have hc : ∀ i, wr.cell? ⟨rb, i, none⟩ = _ := fun i => hb.cell i
      have hres : R = ((rqs.map ReqV.said, 0), s) := by rw [← hfn, feedN, hen, if_pos rfl]
      have HRES := Lib.hid hres
      have HEN := Lib.hid hen
      clear hfd hfn hb hres hen
      go_wp2_with fail
      go_ret2
      have hRR := HR.out
      have hVV := HV.out
      rw [HLL.out, hVV]
      refine ⟨A1, c1, rqs, bv1, body1, ?_, ?_, ?_⟩
      · rw [hRR, HRES.out, HQ.out]; rfl
      · rw [hRR, HRES.out]
      · rw [hRR, HRES.out]; exact HFD.out
    | false =>
      obtain ⟨hrd, hbd, hft⟩ := hfd.on hen
      obtain ⟨Ab1, cb1, rfl, hbc1⟩ := hrd.buf.form
      have hc : ∀ i, wr.cell? ⟨rb, i, none⟩ = _ := fun i => hrd.blk.cell i
      have hf : ∀ i, wr.frozen? ⟨rb, i, none⟩ = _ := fun i => hrd.blk.free i
      have hrl := hrd.blk.lt
      obtain ⟨sl, hsl2⟩ : ∃ sl, s.b.length = sl := ⟨_, rfl⟩
      have HSL := Lib.hid hsl2
      have HRD := Lib.hid hrd
      have HBD := Lib.hid hbd
      have HFT := Lib.hid hft
      have HEN := Lib.hid hen
      rw [hsl2] at hc hsl hbc1
      clear hfd hfn hrd hbd hft hen hsl2 hq
      go_upto_if 45 with fail
      go_cut [6] (fun s6 wx => s6 = .slice A1 q c1 ∧ ∃ bv2 x2 l2, FdAt w base rb (RFoot rb V body) ⟨false, l2, some x2.d⟩ bv2 (some x2) A1 c1 rqs wx ∧ turnL s = turnB false x2.d l2 ∧ q * 48 + l2.length ≤ ll + n)
      case first =>
        cases hbo : body1 with
        | some x1 =>
          rw [hbo] at hc
          have HBO := Lib.hid hbo
          clear hbo
          go_wp2_with fail
          go_meet
          have hB1 := HBO.out
          subst hB1
          have hs2 : s = ⟨false, s.b, some x1.d⟩ := by
            have h1 := HBD.out
            have h2 := HEN.out
            obtain ⟨e, b, bo⟩ := s
            simp only [Option.map_some] at h1 h2
            rw [← h1, h2]
          have hfd := HFD.out
          rw [hs2] at hfd
          refine ⟨rfl, _, x1, s.b, hfd, ?_, by have h1 := HZ.out; rw [← HBD.out] at h1; simp at h1; rw [HSL.out]; omega⟩
          rw [hs2]
          rfl
        | none =>
          rw [hbo] at hc
          have HBO := Lib.hid hbo
          clear hbo
          have hB0 := HBO.out
          subst hB0
          clear HBO
          have hsb : s.body = none := by rw [← HBD.out]; rfl
          have HSB := Lib.hid hsb
          clear hsb
          go_wp2_with fail
          refine (http_head Ab1 sl cb1 s.b wr (by have := HRD.out.buf.rd rfl; rwa [HSL.out] at this) HRD.out.bytes hbc1 (by omega)).mono ?_
          rintro e w1 ⟨hu1, ⟨hh, rfl⟩ | ⟨hh, rfl⟩ | ⟨A2, m2, c2, i, ss, hh, rfl, hso⟩⟩
          · have hres : R = ((rqs.map ReqV.said, 130), ⟨true, [], none⟩) := by
              rw [← HFN.out, feedN, HEN.out, if_neg (by simp)]
              unfold turnL
              rw [HSB.out]
              simp only
              rw [hh]
            have hfd1 := HFD.out.quiet hu1
            have hb1 := ((HFD.out.quiet hu1).on HEN.out).1.blk
            have hc1 : ∀ i, w1.cell? ⟨rb, i, none⟩ = _ := fun i => hb1.cell i
            have hf1 : ∀ i, w1.frozen? ⟨rb, i, none⟩ = _ := fun i => hb1.free i
            rw [HSL.out] at hc1
            have HRES := Lib.hid hres
            have HFD1 := Lib.hid hfd1
            clear hu1 hh hres hfd1 hb1 hc hf
            go_wp2_with fail
            go_ret2
            have hVV := HV.out
            rw [HLL.out, hVV]
            exact feed_fin (HR.out.trans HRES.out) HQ.out (HFD1.out.shut HEN.out)
          · have hres : R = ((rqs.map ReqV.said, 0), s) := by
              rw [← HFN.out, feedN, HEN.out, if_neg (by simp)]
              unfold turnL
              rw [HSB.out]
              simp only
              rw [hh]
            have hfd1 := HFD.out.quiet hu1
            have HRES := Lib.hid hres
            have HFD1 := Lib.hid hfd1
            clear hu1 hh hres hfd1 hc hf
            go_wp2_with fail
            go_ret2
            have hVV := HV.out
            rw [HLL.out, hVV]
            exact feed_fin (HR.out.trans HRES.out) HQ.out HFD1.out
          · have hpos := headL_pos hh
            rw [HSL.out] at hpos
            have hsm := headL_small hh
            have hsat := hso.at (by have := hso.len; have := hsm.1; rw [List.length_map] at this; omega) (fun y hy => by have := hsm.2 _ (List.mem_map.2 ⟨y, hy, rfl⟩); rwa [bytesOf_len] at this)
            have hi0 : ((i : Int) == 0) = false := by simp; omega
            have hfd1 := HFD.out.quiet hu1
            have hrd1 := (hfd1.on HEN.out).1
            have hb1 := hrd1.blk
            have HB1 := Lib.hid hb1
            have HFD1 := Lib.hid hfd1
            have HHH := Lib.hid hh
            have HSAT := Lib.hid hsat
            have HRD1 := Lib.hid hrd1
            clear hu1 hh hfd1 hb1 hc hf hsat hsm hso hrd1
            go_wp2_with fail
            refine (http_begin A2 m2 c2 ss w1 HSAT.out).mono ?_
            rintro e w2 ⟨hu2, ⟨hg, rfl⟩ | ⟨d, bb, p, hg, rfl, hbd2⟩⟩
            · have hres : R = ((rqs.map ReqV.said, 130), ⟨true, [], none⟩) := by
                rw [← HFN.out, feedN, HEN.out, if_neg (by simp)]
                unfold turnL
                rw [HSB.out]
                simp only
                rw [HHH.out]
                simp only
                rw [hg]
              have hfd2 := HFD1.out.quiet hu2
              have hb2 := ((HFD1.out.quiet hu2).on HEN.out).1.blk
              have hc2 : ∀ i, w2.cell? ⟨rb, i, none⟩ = _ := fun i => hb2.cell i
              have hf2 : ∀ i, w2.frozen? ⟨rb, i, none⟩ = _ := fun i => hb2.free i
              have hrl2 := hb2.lt
              rw [HSL.out] at hc2
              have HRES := Lib.hid hres
              have hk : Upd (One rb) w2 (w2.setCell ⟨rb, 3, none⟩ (.pointer none)) := (Upd.refl (One rb) _).set rfl _
              have hrd2 := (hfd2.on HEN.out).1
              have hne2 := hrd2.not_rb
              have hfd3 : FdAt w base rb (RFoot rb V body) s (.slice Ab1 s.b.length cb1) none A1 c1 rqs (w2.setCell ⟨rb, 3, none⟩ (.pointer none)) :=
                hfd2.write HEN.out HEN.out hk ⟨hrd2.blk.set 3 (.pointer none), hrd2.buf.upd hk (fun b hb hs => hne2.1 (hs ▸ hb)), hrd2.bytes, hrd2.ge, fun x hx => (by cases hx)⟩ HBD.out (fun b hb _ => hb) (fun b hb hlt => absurd (hrd2.lt b hb).1 hlt)
              have HFD3 := Lib.hid hfd3
              clear hu2 hg hres hfd2 hb2 hk hrd2 hne2 hfd3
              go_wp2_with fail
              go_ret2
              have hVV := HV.out
              rw [HLL.out, hVV]
              exact feed_fin (HR.out.trans HRES.out) HQ.out (HFD3.out.shut HEN.out)
            · have hfd2 := HFD1.out.quiet hu2
              have hrd2 := (hfd2.on HEN.out).1
              have hb2 := hrd2.blk
              have hc2 : ∀ i, w2.cell? ⟨rb, i, none⟩ = _ := fun i => hb2.cell i
              have hf2 : ∀ i, w2.frozen? ⟨rb, i, none⟩ = _ := fun i => hb2.free i
              have hrl2 := hb2.lt
              rw [HSL.out] at hc2
              have hturn : turnL s = turnB false d (s.b.drop i) := by
                unfold turnL
                rw [HSB.out]
                simp only
                rw [HHH.out]
                simp only
                rw [hg]
                simp only
                rw [HEN.out]
              have hi66 := head_long HHH.out hg
              have hinv : d.c = none → d.got.length + d.left ≤ 65535 := by
                intro hcn
                have h0 := (hbd2.own hcn).2.2
                have h1 : d.got.length = 0 := by
                  rcases h0 with ⟨_, h⟩ | ⟨_, _, _, h, _⟩
                  · exact h
                  · cases h
                have := hbd2.left
                omega
              have hfin : ∀ v2, v2 = Value.slice (if cb1 = i then Ab1 else Ab1.map (·.add (i * 1))) (s.b.length - i) (cb1 - i) → FdAt w base rb (RFoot rb V body) ⟨false, s.b.drop i, some d⟩ v2 (some ⟨bb, .slice none 0 0, p, .slice none 0 0, d⟩) A1 c1 rqs ((w2.setCell ⟨rb, 3, none⟩ (.pointer (some ⟨bb, 0, none⟩))).setCell ⟨rb, 2, none⟩ v2) := by
                intro v2 hv2
                have hk : Upd (One rb) w2 ((w2.setCell ⟨rb, 3, none⟩ (.pointer (some ⟨bb, 0, none⟩))).setCell ⟨rb, 2, none⟩ v2) := ((Upd.refl (One rb) _).set rfl _).set rfl _
                have hne2 := hrd2.not_rb
                have hbl := hbd2.lt
                have hbn := hbd2.not_blk hrd2.blk (by decide) (by decide) (by decide)
                have hrf := (HRD1.out.lt)
                have hown : v2.ownBlock = (Value.slice Ab1 s.b.length cb1).ownBlock := by rw [hv2]; exact own_cutv
                refine HFD1.out.write HEN.out rfl ((hu2.mono fun _ _ h => h.elim).trans hk fun _ _ h => h) ⟨(hrd2.blk.set 3 _).set 2 v2, ?_, fun b hb => hrd2.bytes b (List.mem_of_mem_drop hb), hrd2.ge, fun y hy => ?_⟩ rfl (fun b hb hlt => ?_) (fun b hb hlt => ?_)
                · have h1 := hrd2.buf.cut (k := i) (by rw [HSL.out]; exact hpos.2)
                  rw [Nat.mul_one] at hv2
                  have h2 := h1.upd hk (fun b hb hs => hne2.1 (by
                    have hs : b = rb := hs
                    subst hs
                    rw [← own_cutv (i := i)]
                    exact hb))
                  rw [List.length_drop]
                  simp only [byts, List.map_drop] at h2 ⊢
                  subst hv2
                  simpa using h2
                · injection hy with hy
                  subst hy
                  refine ⟨(hbd2.upd hk fun b hb hs => hbn (hs ▸ hb)).weaken (Nat.le_trans hB (Nat.le_trans HFD1.out.upd.size (Nat.le_refl _))), hinv, fun b hb hs => ?_⟩
                  rw [hown] at hs
                  have h1 := (hbl b hb).2
                  have h2 := (HRD1.out.buf.lt hs).1
                  omega
                · rcases hb with rfl | hb | ⟨y, hy, hb⟩
                  · exact .inl rfl
                  · exact .inr (.inl (by rw [← hown]; exact hb))
                  · injection hy with hy
                    subst hy
                    have := (hbl b hb).2
                    omega
                · have := HFD1.out.upd.size
                  omega
              have HFIN := Lib.hid hfin
              have HTURN := Lib.hid hturn
              clear hu2 hg hfd2 hb2 hrd2 hturn hinv hfin hbd2
              have hln2 : q * 48 + (s.b.drop i).length ≤ ll + n := by rw [List.length_drop, HSL.out]; omega
              by_cases hci : cb1 = i
              · go_wp2_with fail
                go_meet
                have hv := HFIN.out _ rfl
                rw [if_pos hci, HSL.out, show cb1 - i = 0 by omega] at hv
                exact ⟨rfl, _, ⟨bb, .slice none 0 0, p, .slice none 0 0, d⟩, _, hv, HTURN.out, hln2⟩
              · go_wp2_with fail
                go_meet
                have hv := HFIN.out _ rfl
                rw [if_neg hci, HSL.out, Nat.mul_one] at hv
                exact ⟨rfl, _, ⟨bb, .slice none 0 0, p, .slice none 0 0, d⟩, _, hv, HTURN.out, hln2⟩
      case rest =>
      obtain ⟨rfl, bv2, x2, l2, hfd2, hturn, hl2⟩ := hcut
      obtain ⟨hrd2, _, _⟩ := hfd2.on rfl
      obtain ⟨Ab2, cb2, rfl, hbc2⟩ := hrd2.buf.form
      have hc2 : ∀ i, wc.cell? ⟨rb, i, none⟩ = _ := fun i => hrd2.blk.cell i
      have hrl2 := hrd2.blk.lt
      obtain ⟨sl2, hsl2⟩ : ∃ sl2, l2.length = sl2 := ⟨_, rfl⟩
      obtain ⟨T, hT⟩ : ∃ T, takeB x2.d l2 = T := ⟨_, rfl⟩
      obtain ⟨⟨m, whole, er⟩, d3⟩ := T
      have htb := takeB_le x2.d l2
      have hti := takeB_inv (l := l2) (hrd2.bd x2 rfl).2.1
      rw [hT] at htb hti
      simp only at htb hti
      have htake := fun (W : World) (hW : Upd Nix wc W) => by
        have h1 := (hfd2.quiet hW).on rfl
        have h2 := h1.1.bd x2 rfl
        have h3 := body_take x2 base Ab2 l2.length cb2 l2 W h2.1 h2.2.1 (h1.1.buf.rd rfl) h1.1.bytes (fun b hb hs => h2.2.2 b hb hs) (by omega) hbc2 (Nat.le_trans hB (Nat.le_trans hfd2.upd.size hW.size))
        rw [hT, hsl2] at h3
        exact h3
      have HTAKE := Lib.hid htake
      have HFD2 := Lib.hid hfd2
      have HTURN := Lib.hid hturn
      have HSL2 := Lib.hid hsl2
      have HT := Lib.hid hT
      have HTI := Lib.hid hti
      rw [hsl2] at hc2 htb hl2 hbc2
      clear hfd2 hturn hrd2 hsl2 hT hti htake hc hf hrl
      go_upto_region 16 with fail
      go_cut [10, 11, 12] (fun s10 s11 s12 wx => s10 = .int .i64 m ∧ s11 = .bool whole ∧ s12 = .int .i64 er ∧ TookIs w base rb (RFoot rb V body) l2 (.slice Ab2 l2.length cb2) x2 d3 A1 c1 rqs wx)
      case first =>
        go_wp2_with fail
        go_region_with ((go_at_call 84; (with_reducible refine (HTAKE.out _ (Upd.refl _ _).drew).mono ?_); rintro e w3 ⟨rfl, hu3, gv3, cv3, hbd3, hft3, A3, c3, hgv3, hrd3⟩))
        all_goals
          have hfin : TookIs w base rb (RFoot rb V body) l2 (.slice Ab2 l2.length cb2) x2 d3 A1 c1 rqs w3 := ⟨gv3, cv3, A3, c3, hgv3, FdAt.took HFD2.out ((Upd.refl x2.Foot _).drew.trans hu3 fun _ _ h => h) hbd3 hft3 HTI.out, hrd3⟩
          clear hu3 hbd3 hft3 hgv3 hrd3
          have HFIN := Lib.hid hfin
          clear hfin
          go_wp2_with fail
          go_simp
          go_meet
          exact ⟨rfl, rfl, rfl, HFIN.out⟩
      case rest =>
      obtain ⟨rfl, rfl, rfl, gv3, cv3, A3, c3, rfl, hfd3, hrd3⟩ := hcut
      clear hc2 hrl2
      have hb3 := (hfd3.on rfl).1.blk
      have hc3 : ∀ i, wc.cell? ⟨rb, i, none⟩ = _ := fun i => hb3.cell i
      have hf3 : ∀ i, wc.frozen? ⟨rb, i, none⟩ = _ := fun i => hb3.free i
      have hrl3 := hb3.lt
      rw [HSL2.out] at hc3
      have HFD3 := Lib.hid hfd3
      have HRD3 := Lib.hid hrd3
      clear hfd3 hrd3 hb3
      by_cases her : er = 0
      · have e0 : ((er : Int) != 0) = false := by simp [her]
        subst her
        go_upto_region 20 with fail
        go_cut [6] (fun s6 wx => s6 = .slice A1 q c1 ∧ CutIs4 w base rb (RFoot rb V body) (l2.drop m) x2 (.slice A3 d3.got.length c3) cv3 A3 d3 A1 c1 rqs wx)
        case first =>
          have hfin : ∀ v2, v2 = Value.slice (if cb2 = m then Ab2 else Ab2.map (·.add (m * 1))) (l2.length - m) (cb2 - m) → CutIs4 w base rb (RFoot rb V body) (l2.drop m) x2 (.slice A3 d3.got.length c3) cv3 A3 d3 A1 c1 rqs (wc.setCell ⟨rb, 2, none⟩ v2) := fun v2 hv =>
            ⟨v2, FdAt.cut (x := ⟨x2.bb, .slice A3 d3.got.length c3, x2.p, cv3, d3⟩) HFD3.out (by rw [HSL2.out]; exact htb) hv, by have := rd_rb (i := 2) (v := v2) (HFD3.out.on rfl).1 HRD3.out; simpa using this⟩
          have HFIN := Lib.hid hfin
          clear hfin
          by_cases hcm : cb2 = m
          · go_wp2_with fail
            go_meet
            have hv := HFIN.out _ rfl
            rw [if_pos hcm, HSL2.out, show cb2 - m = 0 by omega] at hv
            exact ⟨rfl, hv⟩
          · go_wp2_with fail
            go_meet
            have hv := HFIN.out _ rfl
            rw [if_neg hcm, HSL2.out, Nat.mul_one] at hv
            exact ⟨rfl, hv⟩
        case rest =>
        obtain ⟨rfl, v4, hfd4, hrd4⟩ := hcut
        have HFD4 := Lib.hid hfd4
        have HRD4 := Lib.hid hrd4
        clear hc3 hf3 hrl3 hfd4 hrd4
        cases whole with
        | false =>
          have hres : R = ((rqs.map ReqV.said, 0), ⟨false, l2.drop m, some d3⟩) := by
            rw [← HFN.out, feedN, HEN.out, if_neg (by simp), HTURN.out]
            unfold turnB
            rw [HT.out]
            simp
          have HRES := Lib.hid hres
          clear hres
          go_wp2_with fail
          go_ret2
          have hVV := HV.out
          rw [HLL.out, hVV]
          exact feed_fin (HR.out.trans HRES.out) HQ.out HFD4.out
        | true =>
          have hmore : turnL s = .more ⟨d3.got, d3.keep⟩ ⟨!d3.keep, l2.drop m, none⟩ := by
            rw [HTURN.out]
            unfold turnB
            rw [HT.out]
            simp
          have hnext : feedN k ⟨!d3.keep, l2.drop m, none⟩ (rqs.map ReqV.said ++ [⟨d3.got, d3.keep⟩]) = R := by
            rw [← HFN.out, feedN, HEN.out, if_neg (by simp), hmore]
          have hmz2 := turnL_more hmore
          have HNEXT := Lib.hid hnext
          have h4 := HFD4.out.on rfl
          have hx4 := h4.1.bd _ rfl
          have hsmall : d3.got.length ≤ 65535 := by
            cases hc3 : d3.c with
            | none => have := hx4.2.1 hc3; simp only at this; omega
            | some s3 =>
              obtain ⟨r3, _, _, hci, _⟩ := hx4.1.chk s3 hc3
              have h5 := takeB_body x2.d l2 s3
              rw [HT.out] at h5
              rw [h5 hc3]
              exact Nat.le_trans hci.body hci.most
          have hgotb := hx4.1.got
          have HGB := Lib.hid hgotb
          have keep : ∀ W, Upd Nix wc W → W.cell? ⟨rb, 3, none⟩ = some (.pointer (some ⟨x2.bb, 0, none⟩)) ∧ W.cell? ⟨x2.bb, 2, none⟩ = some (.slice A3 d3.got.length c3) ∧ W.cell? ⟨x2.bb, 0, none⟩ = some (.bool d3.keep) := fun W hW => by
            have h5 := (HFD4.out.quiet hW).on rfl
            have h6 := h5.1.bd _ rfl
            exact ⟨h5.1.blk.cell 3, h6.1.blk.cell 2, h6.1.blk.cell 0⟩
          have KEEP := Lib.hid keep
          have hqm : q + 1 ≤ maxLen := by unfold maxLen; omega
          have hclone : ∀ W, Upd Nix wc W → Calls Tryz.prog 19 #[.slice A3 d3.got.length c3] W _ := fun W hW =>
            bytes_clone W wc.heap.size A3 d3.got.length c3 d3.got (HRD4.out.below (hW.belowNix (Nat.le_refl _))) hW.size (by omega)
          have CLONE := Lib.hid hclone
          clear hmore hnext h4 hx4 keep hgotb hclone
          go_wp2_with fail
          go_region_held3 (fun w' => w'.cell? ⟨rb, 3, none⟩ = some (.pointer (some ⟨x2.bb, 0, none⟩)) ∧ w'.cell? ⟨x2.bb, 2, none⟩ = some (.slice A3 d3.got.length c3) ∧ w'.cell? ⟨x2.bb, 0, none⟩ = some (.bool d3.keep))
            (first | exact HK6.out | with_reducible exact KEEP.out _ (HU5.out.alloc _) | with_reducible exact KEEP.out _ HU5.out | with_reducible exact KEEP.out _ (Upd.refl _ _).drew | fail)
            ((first
            | (go_at_call 19; (with_reducible refine (CLONE.out _ (Upd.refl _ _).drew).mono ?_); rintro e w5 ⟨A7, c7, rfl, hown7, hnil7, hge7, hu7⟩; have HU5 := Lib.hid ((Upd.refl Nix wc).drew.trans hu7 (fun _ _ h => h)); have HO7 := Lib.hid hown7; have hg7 := HU5.out.size; have HL7 := Lib.hid (HFD4.out.quiet HU5.out).rq.out; rw [HQ.out] at HL7; clear hown7 hnil7 hge7 hu7)
            | (refine step_app _ rfl (.tmp 114) (.tmp 131) 136 rfl w.heap.size 140 i3 _ 3 48 Tryz.underlying136 hi3 hz0 hz1 hz2 rfl (by omega) (.slice A1 q c1) q ((rqs.map ReqV.cells).flatten) rfl (HL7.out.alloc _) (w5.heap.size + 1) (some ⟨w5.heap.size, 0, none⟩) 1 1 [.string firstS, .slice A7 d3.got.length c7, .bool d3.keep] rfl (Rd.lit _ _ _ 3 1 rfl) (by intro u hu; simp only [List.mem_cons, List.not_mem_nil, or_false] at hu; rcases hu with rfl | rfl | rfl <;> rfl) hqm (by omega) (by have := HFD4.out.upd.size; simp; omega) ?_; intro A8 c8 w8 hown8 hg8 hat8; have HFD8 := Lib.hid (HFD4.out.push (row := ⟨A7, d3.got.length, c7, d3.got⟩) (keep := d3.keep) rfl HQ.out HU5.out HO7.out HGB.out hsmall hown8 hg8); have HK6 : Hid (w8.cell? ⟨rb, 3, none⟩ = some (.pointer (some ⟨x2.bb, 0, none⟩)) ∧ w8.cell? ⟨x2.bb, 2, none⟩ = some (.slice A3 d3.got.length c3) ∧ w8.cell? ⟨x2.bb, 0, none⟩ = some (.bool d3.keep)) := Lib.hid (⟨(HFD8.out.on rfl).1.blk.cell 3, ((HFD8.out.on rfl).1.bd _ rfl).1.blk.cell 2, ((HFD8.out.on rfl).1.bd _ rfl).1.blk.cell 0⟩); clear hown8 hg8 hat8)))
          all_goals
            have hb8 := (HFD8.out.on rfl).1.blk
            have hbx := ((HFD8.out.on rfl).1.bd _ rfl).1.blk
            have hc8 : ∀ i, w8.cell? ⟨rb, i, none⟩ = _ := fun i => hb8.cell i
            have hf8 : ∀ i, w8.frozen? ⟨rb, i, none⟩ = _ := fun i => hb8.free i
            have hcx : ∀ i, w8.cell? ⟨x2.bb, i, none⟩ = _ := fun i => hbx.cell i
            have hrl8 := hb8.lt
            clear hb8 hbx hg7
            go_wp2_with fail
            have hl10 : (rqs ++ [(⟨⟨A7, d3.got.length, c7, d3.got⟩, d3.keep⟩ : ReqV)]).length = q + 1 := by rw [List.length_append, HQ.out]; rfl
            have hln := HSL2.out
            go_roundg k
            case measure => omega
            case rel =>
              refine ⟨_, _, none, A8, c8, rqs ++ [⟨⟨A7, d3.got.length, c7, d3.got⟩, d3.keep⟩], by rw [hl10], HFD8.out.done d3.keep, ?_, by omega, ?_⟩
              · rw [List.map_append]; exact HNEXT.out
              · rw [hl10, List.length_drop]; simp only [Option.isSome_none]; simp; omega
      · have e0 : ((er : Int) != 0) = true := by simp; omega
        have hres : R = ((rqs.map ReqV.said, 130), ⟨true, [], none⟩) := by
          rw [← HFN.out, feedN, HEN.out, if_neg (by simp), HTURN.out]
          unfold turnB
          rw [HT.out]
          simp only
          rw [if_pos her]
        have HRES := Lib.hid hres
        clear hres her
        go_wp2_with fail
        go_ret2
        have hVV := HV.out
        rw [HLL.out, hVV]
        exact feed_fin (HR.out.trans HRES.out) HQ.out (HFD3.out.shut rfl)
end Go.Proofs.YtageanmjdfodnaaGreatDoor
