/- The body behind a head: http.begin. -/
import Derived.Test.YtageanmjdfodnaaGreatDoorHttpFs
import Derived.Test.YtageanmjdfodnaaGreatDoorHttpM
import Derived.Deep.RegionWith
import Derived.Deep.DeepCutAuto
import Derived.Deep.CutBlock
namespace Go.Proofs.YtageanmjdfodnaaGreatDoor
open Go.RowKit Go.Cx Go.Maps

theorem str_lit (a : ByteArray) (l : List UInt8) (k : List Nat) (hk : l.map UInt8.toNat = k) : (a.toList == l) = decide (bytesOf a = k) := by
  subst hk
  unfold bytesOf
  rw [Lib.toList_data]
  by_cases h : a.data.toList = l
  · rw [h, decide_eq_true rfl]; exact beq_self_eq_true _
  · rw [decide_eq_false (fun e => h (toNat_inj _ _ e))]
    simpa using h
/-- a body that comes, in memory: its block, what it has, its reader of chunks -/
structure BdAt (w : World) (base bb : Nat) (gv : Value) (p : Option Nat) (cv : Value) (d : Bd) : Prop where
  blk : Blk w bb 150 #[.bool d.keep, .int .i64 d.left, gv, .pointer (p.map fun r => ⟨r, 0, none⟩)]
  form : ∃ A n c, gv = .slice A n c
  own : d.c = none → p = none ∧ w.ownsRow base 5 1 gv d.got.length (byts d.got)
  chk : ∀ s, d.c = some s → ∃ r, p = some r ∧ CR w r cv s ∧ CInv s ∧ ∀ b, Foot r cv b → base ≤ b
  left : d.left ≤ 65535
  got : ∀ b ∈ d.got, b < 256
  base : base ≤ bb
def BeginIs (l : List (List Nat)) (w : World) (e : Ending) (w' : World) : Prop :=
  Upd Nix w w' ∧ ((beginL l = none ∧ e = .returned (.pointer none)) ∨ ∃ d bb p, beginL l = some d ∧ e = .returned (.pointer (some ⟨bb, 0, none⟩)) ∧ BdAt w' w.heap.size bb (.slice none 0 0) p (.slice none 0 0) d)
/-- texts behind the first -/
theorem StrsAt.tail1 {w : World} {B n c : Nat} {ad : Addr} {ss : List ByteArray} (h : StrsAt w B (some ad) n c ss) (hn : 1 ≤ n) (hc : ¬ c = 1) : StrsAt w B (some (ad.add 1)) (n - 1) (c - 1) (ss.drop 1) := by
  have h1 := h.rd.cut (k := 1) hn h.nc
  rw [if_neg hc, Nat.mul_one] at h1
  have hnc := h.nc
  have hs := h.small
  exact ⟨by rw [List.map_drop]; exact h1, by omega, by rw [List.length_drop, h.len], by omega, fun s hs => h.each s (List.mem_of_mem_drop hs)⟩
theorem StrsAt.tail0 {w : World} {B n : Nat} {ad : Addr} {ss : List ByteArray} (h : StrsAt w B (some ad) n 1 ss) (hn : 1 ≤ n) : StrsAt w B (some ad) (n - 1) (1 - 1) (ss.drop 1) := by
  have h1 := h.rd.cut (k := 1) hn h.nc
  rw [if_pos rfl, Nat.mul_one] at h1
  have hnc := h.nc
  have hs := h.small
  exact ⟨by rw [List.map_drop]; exact h1, by omega, by rw [List.length_drop, h.len], by omega, fun s hs => h.each s (List.mem_of_mem_drop hs)⟩
/-- the first of some texts -/
theorem StrsOwn.first {base : Nat} {A : Option Addr} {n c : Nat} {ss : List ByteArray} {w : World} (h : StrsOwn base A n c ss w) (hn : 0 < n) : ∃ g s, A = some ⟨g, 0, none⟩ ∧ ss[0]? = some s ∧ g < w.heap.size ∧ ∀ W, Upd Nix w W → W.cell? ⟨g, 0, none⟩ = some (.string s) := by
  obtain ⟨g, cap, he, hb, hg⟩ := h.own.form hn
  injection he with hA
  obtain ⟨s, hs⟩ : ∃ s, ss[0]? = some s := ⟨_, List.getElem?_eq_getElem (by rw [h.len]; exact hn)⟩
  refine ⟨g, s, hA, hs, hg, fun W hW => ?_⟩
  have h1 := (h.upd hW).own
  rw [hA] at h1
  have h2 := h1.cells (g := g) rfl 0 (.string s) (by rw [List.getElem?_map, hs]; rfl)
  have hadd : (⟨g, 0, none⟩ : Addr).add 0 = ⟨g, 0, none⟩ := rfl
  rwa [hadd] at h2
theorem strs_map {ss : List ByteArray} {l : List (List Nat)} {n : Nat} (hs : ss.map bytesOf = l) (hn : ss.length = n) : l.length = n := by rw [← hs, List.length_map, hn]
set_option maxRecDepth 100000 in
theorem equal_one (A : Option Addr) (n c g : Nat) (ss : List ByteArray) (K : ByteArray) (base : Nat) (w : World) (h : StrsOwn base A n c ss w) (hg : w.cell? ⟨g, 0, none⟩ = some (.string K)) (hn : n ≤ 1000000) :
    Calls Tryz.prog 86 #[.slice A n c, .slice (some ⟨g, 0, none⟩) 1 1] w fun e w' => e = .returned (.bool (decide (ss = [K]))) ∧ Upd Nix w w' := by
  by_cases h0 : n = 0
  · subst h0
    have hss : ss = [] := List.eq_nil_of_length_eq_zero h.len
    refine (Tryz.slices_Equal_string_empty A _ c 1 1 w (by omega)).mono fun e w' ⟨he, hw⟩ => ⟨?_, hw ▸ Upd.refl _ _⟩
    rw [he, hss]
    rfl
  · obtain ⟨g1, cap, he, _, _⟩ := h.own.form (by omega)
    injection he with hA
    subst hA
    have hcells : ∀ j, j < ss.length → w.cell? ⟨g1, 0 + j, none⟩ = some (.string (ss.getD j ByteArray.empty)) := by
      intro j hj
      have h2 := h.own.cells (g := g1) rfl j (.string (ss.getD j ByteArray.empty)) (by rw [List.getElem?_map, List.getElem?_eq_getElem hj, List.getD_eq_getElem?_getD, List.getElem?_eq_getElem hj]; rfl)
      have hadd : (⟨g1, 0, none⟩ : Addr).add j = ⟨g1, j, none⟩ := by unfold Addr.add; split <;> simp_all
      rw [hadd] at h2
      rw [Nat.zero_add]
      exact h2
    refine (Tryz.slices_Equal_string g1 0 n c g 0 1 1 ss [K] w (by rw [h.len]; exact Nat.le_refl _) (by simp) (by omega) (by omega) hcells (fun j hj => by
      obtain rfl : j = 0 := by simpa using hj
      exact hg)).mono fun e w' ⟨he, q, hw⟩ => ⟨?_, hw ▸ (Upd.refl _ _).drewN q⟩
    rw [he, List.take_of_length_le (by rw [h.len]; exact Nat.le_refl _)]
    rfl
theorem one_iff {ss : List ByteArray} {l : List (List Nat)} {K : ByteArray} {k : List Nat} (h : ss.map bytesOf = l) (hK : bytesOf K = k) : decide (ss = [K]) = decide (l = [k]) := by
  by_cases e : ss = [K]
  · rw [decide_eq_true e, decide_eq_true]
    rw [← h, e, List.map_cons, List.map_nil, hK]
  · rw [decide_eq_false e, decide_eq_false]
    intro e2
    apply e
    rw [← h, ← hK] at e2
    match ss, e2 with
    | [a], e2 =>
      simp only [List.map_cons, List.map_nil, List.cons.injEq, and_true] at e2
      rw [bytesOf_inj e2]
    | [], e2 => cases e2
    | _ :: _ :: _, e2 => simp at e2
set_option maxRecDepth 100000 in
set_option maxHeartbeats 6400000 in
theorem http_begin (A : Option Addr) (n c : Nat) (ss : List ByteArray) (w : World) (h : StrsAt w w.heap.size A n c ss) : Calls Tryz.prog 83 #[.slice A n c] w (BeginIs (ss.map bytesOf) w) := by
  have hn := h.small
  have hlen := h.len
  have H := Lib.hid h
  clear h
  go_enter Tryz.func83, Tryz.ntmps83
  by_cases hn0 : n = 0
  · have e0 : ((n : Int) == 0) = true := by simp [hn0]
    have hb : beginL (ss.map bytesOf) = none := by
      have : ss = [] := List.eq_nil_of_length_eq_zero (by omega)
      rw [this]; rfl
    have HB := Lib.hid hb
    clear hb hn0 hlen
    go_wp2_with fail
    go_ret
    exact ⟨Upd.refl _ _, .inl ⟨HB.out, rfl⟩⟩
  · have e0 : ((n : Int) == 0) = false := by simp; omega
    obtain ⟨s0, hs0⟩ : ∃ s, ss[0]? = some s := ⟨_, List.getElem?_eq_getElem (by omega)⟩
    obtain ⟨ad, rfl, hB, hcl⟩ := H.out.rd.2 (by omega)
    have hcell : w.cell? ad = some (.string s0) := by
      have := hcl 0 (.string s0) (by rw [List.getElem?_map, hs0]; rfl)
      simpa [Addr.add] using this
    have hn1 : 0 < n := by omega
    have hss : ss.map bytesOf = bytesOf s0 :: (ss.drop 1).map bytesOf := by
      match ss, hs0 with
      | a :: r, h => simp at h; subst h; rfl
    have HSS := Lib.hid hss
    have hq := str_lit s0 [80, 79, 83, 84, 32, 47, 100, 110, 115, 45, 113, 117, 101, 114, 121, 32, 72, 84, 84, 80, 47, 49, 46, 49] firstL rfl
    clear hcl hs0 hss hlen
    by_cases hf : bytesOf s0 = firstL
    · rw [decide_eq_true hf] at hq
      have hbeg : beginL (ss.map bytesOf) = match fieldsL ((ss.drop 1).map bytesOf) with
        | none => none
        | some fs => if valuesOf fs ctypeL ≠ [kindL] then none else match keepOf (valuesOf fs connL) with
          | none => none
          | some keep => longOf (valuesOf fs clenL) (valuesOf fs codedL) keep := by
        rw [HSS.out, beginL, if_neg (fun h => h hf)]
        rfl
      have HBEG := Lib.hid hbeg
      clear hbeg hf
      go_upto_region 3 with fail
      go_cut [3, 4] (fun s3 s4 wx => Upd Nix w wx ∧ ((fieldsL ((ss.drop 1).map bytesOf) = none ∧ s3 = .map none ∧ s4 = .bool false) ∨ ∃ fs M f, fieldsL ((ss.drop 1).map bytesOf) = some fs ∧ s3 = .map (some M) ∧ s4 = .bool true ∧ FAt w.heap.size M f fs wx))
      case first =>
        clear hcell hq
        have hnc := H.out.nc
        by_cases hc1 : c = 1
        · subst hc1
          obtain rfl : n = 1 := by omega
          have h00 : StrsAt w w.heap.size (some ad) 0 0 (ss.drop 1) := H.out.tail0 hn1
          have hcall := http_fields _ _ _ _ _ h00
          have HCALL := Lib.hid hcall
          clear hcall
          go_wp2_with fail
          refine HCALL.out.mono ?_
          rintro e w1 ⟨hu, ⟨hf, rfl⟩ | ⟨fs, M, f, hf, rfl, hfa⟩⟩
          · go_wp2_with fail
            go_meet
            exact ⟨hu, .inl ⟨hf, rfl, rfl⟩⟩
          · have HF := Lib.hid hf
            have HFA := Lib.hid hfa
            have HU := Lib.hid hu
            clear hf hfa hu
            go_wp2_with fail
            go_meet
            exact ⟨HU.out, .inr ⟨fs, M, f, HF.out, rfl, rfl, HFA.out⟩⟩
        · have hcall := http_fields _ _ _ _ _ (H.out.tail1 hn1 hc1)
          have HCALL := Lib.hid hcall
          clear hcall
          go_wp2_with fail
          refine HCALL.out.mono ?_
          rintro e w1 ⟨hu, ⟨hf, rfl⟩ | ⟨fs, M, f, hf, rfl, hfa⟩⟩
          · go_wp2_with fail
            go_meet
            exact ⟨hu, .inl ⟨hf, rfl, rfl⟩⟩
          · have HF := Lib.hid hf
            have HFA := Lib.hid hfa
            have HU := Lib.hid hu
            clear hf hfa hu
            go_wp2_with fail
            go_meet
            exact ⟨HU.out, .inr ⟨fs, M, f, HF.out, rfl, rfl, HFA.out⟩⟩
      case rest =>
      obtain ⟨hu, ⟨hf, rfl, rfl⟩ | ⟨fs, M, f, hf, rfl, rfl, hfa⟩⟩ := hcut
      · have HU := Lib.hid hu
        have HB := Lib.hid (show beginL (ss.map bytesOf) = none by rw [HBEG.out, hf])
        clear hu hf hcell hq
        go_wp2_with fail
        go_ret
        exact ⟨HU.out, .inl ⟨HB.out, rfl⟩⟩
      · have HU := Lib.hid hu
        have HFA := Lib.hid hfa
        have hbeg := HBEG.out
        rw [hf] at hbeg
        simp only at hbeg
        have HBEG2 := Lib.hid hbeg
        have hfl : fs.length ≤ 2000 := by
          have h1 := fieldsL_len _ _ hf
          rw [List.length_map, List.length_drop] at h1
          have := H.out.len
          omega
        clear hu hf hbeg hcell hq HBEG HSS hB H
        obtain ⟨A1, n1, c1, ss1, hg1, ho1, hv1, _⟩ := hfa.get ⟨#[99, 111, 110, 116, 101, 110, 116, 45, 116, 121, 112, 101]⟩
        obtain ⟨A2, n2, c2, ss2, hg2, ho2, hv2, _⟩ := hfa.get ⟨#[99, 111, 110, 110, 101, 99, 116, 105, 111, 110]⟩
        obtain ⟨A3, n3, c3, ss3, hg3, ho3, hv3, _⟩ := hfa.get ⟨#[99, 111, 110, 116, 101, 110, 116, 45, 108, 101, 110, 103, 116, 104]⟩
        obtain ⟨A4, n4, c4, ss4, hg4, ho4, hv4, _⟩ := hfa.get ⟨#[116, 114, 97, 110, 115, 102, 101, 114, 45, 101, 110, 99, 111, 100, 105, 110, 103]⟩
        have hn1 : n1 ≤ 2000 := by have h1 := strs_map hv1 ho1.len; have h2 := valuesOf_len fs (bytesOf ⟨#[99, 111, 110, 116, 101, 110, 116, 45, 116, 121, 112, 101]⟩); omega
        have hn2 : n2 ≤ 2000 := by have h1 := strs_map hv2 ho2.len; have h2 := valuesOf_len fs (bytesOf ⟨#[99, 111, 110, 110, 101, 99, 116, 105, 111, 110]⟩); omega
        have hn3 : n3 ≤ 2000 := by have h1 := strs_map hv3 ho3.len; have h2 := valuesOf_len fs (bytesOf ⟨#[99, 111, 110, 116, 101, 110, 116, 45, 108, 101, 110, 103, 116, 104]⟩); omega
        have hn4 : n4 ≤ 2000 := by have h1 := strs_map hv4 ho4.len; have h2 := valuesOf_len fs (bytesOf ⟨#[116, 114, 97, 110, 115, 102, 101, 114, 45, 101, 110, 99, 111, 100, 105, 110, 103]⟩); omega
        have HL1 := Lib.hid fun W (k : Upd Nix wc W) => (hfa.upd k).look ⟨#[99, 111, 110, 116, 101, 110, 116, 45, 116, 121, 112, 101]⟩ (by decide) hg1
        have HL2 := Lib.hid fun W (k : Upd Nix wc W) => (hfa.upd k).look ⟨#[99, 111, 110, 110, 101, 99, 116, 105, 111, 110]⟩ (by decide) hg2
        have HL3 := Lib.hid fun W (k : Upd Nix wc W) => (hfa.upd k).look ⟨#[99, 111, 110, 116, 101, 110, 116, 45, 108, 101, 110, 103, 116, 104]⟩ (by decide) hg3
        have HL4 := Lib.hid fun W (k : Upd Nix wc W) => (hfa.upd k).look ⟨#[116, 114, 97, 110, 115, 102, 101, 114, 45, 101, 110, 99, 111, 100, 105, 110, 103]⟩ (by decide) hg4
        have HO1 := Lib.hid ho1
        have HO2 := Lib.hid ho2
        have HO3 := Lib.hid ho3
        have HO4 := Lib.hid ho4
        have HV1 := Lib.hid (show ss1.map bytesOf = valuesOf fs ctypeL from hv1)
        have HV2 := Lib.hid (show ss2.map bytesOf = valuesOf fs connL from hv2)
        have HV3 := Lib.hid (show ss3.map bytesOf = valuesOf fs clenL from hv3)
        have HV4 := Lib.hid (show ss4.map bytesOf = valuesOf fs codedL from hv4)
        have l1 := HL1.out wc (Upd.refl _ _)
        clear hfa hg1 hg2 hg3 hg4 ho1 ho2 ho3 ho4 hv1 hv2 hv3 hv4
        go_wp2_with fail
        have hk1 : Blk (wc.alloc (.cells #[.string ⟨#[97, 112, 112, 108, 105, 99, 97, 116, 105, 111, 110, 47, 100, 110, 115, 45, 109, 101, 115, 115, 97, 103, 101]⟩] 9)) wc.heap.size 9 #[.string ⟨#[97, 112, 112, 108, 105, 99, 97, 116, 105, 111, 110, 47, 100, 110, 115, 45, 109, 101, 115, 115, 97, 103, 101]⟩] := Blk.new _ _ _
        refine (equal_one A1 n1 c1 wc.heap.size ss1 ⟨#[97, 112, 112, 108, 105, 99, 97, 116, 105, 111, 110, 47, 100, 110, 115, 45, 109, 101, 115, 115, 97, 103, 101]⟩ _ _ (HO1.out.upd ((Upd.refl _ _).alloc _)) (hk1.cell 0) (by omega)).mono ?_
        rintro e w1 ⟨rfl, hu1⟩
        have HX1 := Lib.hid (((Upd.refl Nix wc).alloc (.cells #[.string ⟨#[97, 112, 112, 108, 105, 99, 97, 116, 105, 111, 110, 47, 100, 110, 115, 45, 109, 101, 115, 115, 97, 103, 101]⟩] 9)).trans hu1 fun _ _ h => h)
        rw [one_iff HV1.out (show bytesOf ⟨#[97, 112, 112, 108, 105, 99, 97, 116, 105, 111, 110, 47, 100, 110, 115, 45, 109, 101, 115, 115, 97, 103, 101]⟩ = kindL from rfl)]
        clear hk1 hu1 l1
        by_cases hk : valuesOf fs ctypeL = [kindL]
        · rw [decide_eq_true hk]
          have hbeg := HBEG2.out
          rw [if_neg (fun h => h hk)] at hbeg
          have HBEG3 := Lib.hid hbeg
          have l2 := HL2.out (w1.alloc (.cells #[.bool true, .int .i64 0, .slice none 0 0, .pointer none] 150)) (HX1.out.alloc _)
          clear hbeg hk HBEG2
          go_upto_block 0 with fail
          obtain ⟨bb, hbb⟩ : ∃ bb, w1.heap.size = bb := ⟨_, rfl⟩
          have hbk : Blk (w1.alloc (.cells #[.bool true, .int .i64 0, .slice none 0 0, .pointer none] 150)) bb 150 #[.bool true, .int .i64 0, .slice none 0 0, .pointer none] := Blk.new' _ _ _ hbb.symm
          have hx2 := HX1.out.alloc (.cells #[.bool true, .int .i64 0, .slice none 0 0, .pointer none] 150)
          rw [hbb]
          clear l2
          generalize w1.alloc (.cells #[.bool true, .int .i64 0, .slice none 0 0, .pointer none] 150) = w2 at *
          have HX2 := Lib.hid hx2
          have HBK := Lib.hid hbk
          have hwb : wc.heap.size ≤ bb := by have := HX1.out.size; omega
          clear hx2 hbb
          go_cut [5] (fun s5 wx => s5 = .pointer (some ⟨bb, 0, none⟩) ∧ Upd Nix wc wx ∧ ∃ keep, keepOf (valuesOf fs connL) = some keep ∧ Blk wx bb 150 #[.bool keep, .int .i64 0, .slice none 0 0, .pointer none])
          case first =>
            by_cases h0 : n2 = 0
            · have e2 : ((n2 : Int) == 0) = true := by simp [h0]
              have e3 : ¬ (1 : Int) < (n2 : Int) := by omega
              have hke : keepOf (valuesOf fs connL) = some true := by
                have h1 := strs_map HV2.out HO2.out.len
                rw [List.eq_nil_of_length_eq_zero (h1.trans h0)]
                rfl
              have HKE := Lib.hid hke
              clear h0 hke hbk
              go_wp2_with fail
              go_meet
              exact ⟨rfl, HX2.out, true, HKE.out, HBK.out⟩
            · have e2 : ((n2 : Int) == 0) = false := by simp; omega
              by_cases h1 : 1 < n2
              · have e3 : (1 : Int) < (n2 : Int) := by omega
                have hke : keepOf (valuesOf fs connL) = none := by
                  have h3 := strs_map HV2.out HO2.out.len
                  match hv : valuesOf fs connL, h3 with
                  | [], h3 => simp at h3; omega
                  | [_], h3 => simp at h3; omega
                  | _ :: _ :: _, _ => rfl
                have HB := Lib.hid (show beginL (ss.map bytesOf) = none by rw [HBEG3.out, hke])
                clear h0 h1 hke hbk
                go_wp2_with fail
                go_ret
                exact ⟨HU.out.trans HX2.out fun _ _ h => h, .inl ⟨HB.out, rfl⟩⟩
              · have e3 : ¬ (1 : Int) < (n2 : Int) := by omega
                obtain rfl : n2 = 1 := by omega
                obtain ⟨g2, s2, hA2, hs2, hg2, hcells⟩ := HO2.out.first (by omega)
                subst hA2
                have hv : valuesOf fs connL = [bytesOf s2] := by
                  have h3 := HO2.out.len
                  rw [← HV2.out]
                  match ss2, h3, hs2 with
                  | [a], _, h => simp at h; subst h; rfl
                have hcell := hcells w2 HX2.out
                have hq := str_lit s2 [107, 101, 101, 112, 45, 97, 108, 105, 118, 101] keepL rfl
                have hq2 := str_lit s2 [99, 108, 111, 115, 101] shutL rfl
                have hg2' : g2 < w2.heap.size := by have := HX2.out.size; omega
                have HVV := Lib.hid hv
                clear h0 h1 e2 e3 hs2 hcells hv
                by_cases hka : bytesOf s2 = keepL
                · rw [decide_eq_true hka] at hq
                  have HKE := Lib.hid (show keepOf (valuesOf fs connL) = some true by rw [HVV.out, keepOf, if_pos hka])
                  clear hka hbk hq2
                  go_wp2_with fail
                  go_meet
                  exact ⟨rfl, HX2.out, true, HKE.out, HBK.out⟩
                · rw [decide_eq_false hka] at hq
                  by_cases hcl : bytesOf s2 = shutL
                  · rw [decide_eq_true hcl] at hq2
                    have HKE := Lib.hid (show keepOf (valuesOf fs connL) = some false by rw [HVV.out, keepOf, if_neg hka, if_pos hcl])
                    have hc0 := hbk.cell 0
                    have hf0 := hbk.free 0
                    clear hka hcl hbk
                    go_wp2_with fail
                    go_meet
                    exact ⟨rfl, HX2.out.setCell (fun h => absurd h (by simp only; omega)) _, false, HKE.out, HBK.out.set 0 (.bool false)⟩
                  · rw [decide_eq_false hcl] at hq2
                    have hke : keepOf (valuesOf fs connL) = none := by rw [HVV.out, keepOf, if_neg hka, if_neg hcl]
                    have HB := Lib.hid (show beginL (ss.map bytesOf) = none by rw [HBEG3.out, hke])
                    clear hka hcl hke hbk
                    go_wp2_with fail
                    go_ret
                    exact ⟨HU.out.trans HX2.out fun _ _ h => h, .inl ⟨HB.out, rfl⟩⟩
          case rest =>
          obtain ⟨rfl, hx3, keep, hke, hb3⟩ := hcut
          have hbeg := HBEG3.out
          rw [hke] at hbeg
          simp only at hbeg
          have HBEG4 := Lib.hid hbeg
          clear hbeg hke HBEG3
          go_wp2_with fail
          have l3 := HL3.out wc.drew hx3.drew
          have l4 := HL4.out wc.drew hx3.drew
          have HX3 := Lib.hid hx3.drew
          have HB3 := Lib.hid hb3.drew
          clear hx3 hb3
          go_region
          clear l3 l4
          generalize wc.drew = wz at *
          by_cases hsum : n3 + n4 = 1
          · have es : ((n3 : Int) + (n4 : Int) != 1) = false := by simp; omega
            by_cases h3 : n3 = 1
            · obtain rfl : n3 = 1 := h3
              obtain rfl : n4 = 0 := by omega
              obtain ⟨g3, s3, hA3, hs3, hg3, hcells⟩ := HO3.out.first (by omega)
              subst hA3
              have hv3 : valuesOf fs clenL = [bytesOf s3] := by
                have h3 := HO3.out.len
                rw [← HV3.out]
                match ss3, h3, hs3 with
                | [a], _, h => simp at h; subst h; rfl
              have hv4 : valuesOf fs codedL = [] := List.eq_nil_of_length_eq_zero (strs_map HV4.out HO4.out.len)
              have hlong : longOf (valuesOf fs clenL) (valuesOf fs codedL) keep = (sizeL (bytesOf s3)).map fun n => ⟨keep, n, [], none⟩ := by rw [hv3, hv4]; rfl
              have HLO := Lib.hid hlong
              have hcell := hcells wz HX3.out
              have hg3' : g3 < wz.heap.size := by have := HX3.out.size; omega
              clear hsum hs3 hcells hv3 hv4 hlong es
              go_wp2_with fail
              refine (http_size s3 wz).mono ?_
              rintro e w5 ⟨⟨m, hm, rfl⟩ | ⟨hm, m, rfl⟩, hu5⟩
              · have hb5 := HB3.out.upd hu5 (by simp [Nix])
                have hc1 := hb5.cell 1
                have hf1 := hb5.free 1
                have HB5 := Lib.hid hb5
                have HM5 := Lib.hid hm
                have HX5 := Lib.hid (HX3.out.trans hu5 fun _ _ h => h)
                have hml : m ≤ 65535 := by
                  unfold sizeL at hm
                  split at hm
                  · injection hm with hm; omega
                  · cases hm
                clear hm hu5 hb5
                go_wp2_with fail
                go_ret
                refine ⟨HU.out.trans (HX5.out.setCell (fun h => absurd h (by simp only; omega)) _) fun _ _ h => h, .inr ⟨⟨keep, m, [], none⟩, bb, none, by rw [HBEG4.out, HLO.out, HM5.out]; rfl, rfl, ⟨HB5.out.set 1 (.int .i64 m), ⟨none, 0, 0, rfl⟩, fun _ => ⟨rfl, rfl, .inl ⟨rfl, rfl⟩⟩, fun s h => (by cases h), hml, by simp, by have := HU.out.size; omega⟩⟩⟩
              · have hb5 := HB3.out.upd hu5 (by simp [Nix])
                have hc1 := hb5.cell 1
                have hf1 := hb5.free 1
                have HX5 := Lib.hid (HX3.out.trans hu5 fun _ _ h => h)
                have HB := Lib.hid (show beginL (ss.map bytesOf) = none by rw [HBEG4.out, HLO.out, hm]; rfl)
                clear hm hu5 hb5
                go_wp2_with fail
                go_ret
                exact ⟨HU.out.trans (HX5.out.setCell (fun h => absurd h (by simp only; omega)) _) fun _ _ h => h, .inl ⟨HB.out, rfl⟩⟩
            · obtain rfl : n3 = 0 := by omega
              obtain rfl : n4 = 1 := by omega
              obtain ⟨g4, s4, hA4, hs4, hg4, hcells⟩ := HO4.out.first (by omega)
              subst hA4
              have hv4 : valuesOf fs codedL = [bytesOf s4] := by
                have h3 := HO4.out.len
                rw [← HV4.out]
                match ss4, h3, hs4 with
                | [a], _, h => simp at h; subst h; rfl
              have hv3 : valuesOf fs clenL = [] := List.eq_nil_of_length_eq_zero (strs_map HV3.out HO3.out.len)
              have hlong : longOf (valuesOf fs clenL) (valuesOf fs codedL) keep = if bytesOf s4 = chunkedL then some ⟨keep, 0, [], some (new0 65535)⟩ else none := by rw [hv3, hv4]; rfl
              have HLO := Lib.hid hlong
              have hcell := hcells wz HX3.out
              have hg4' : g4 < wz.heap.size := by have := HX3.out.size; omega
              have hq := str_lit s4 [99, 104, 117, 110, 107, 101, 100] chunkedL rfl
              clear hsum hs4 hcells hv3 hv4 hlong es h3
              by_cases hch : bytesOf s4 = chunkedL
              · rw [decide_eq_true hch] at hq
                have HB4 := Lib.hid (show beginL (ss.map bytesOf) = some ⟨keep, 0, [], some (new0 65535)⟩ by rw [HBEG4.out, HLO.out, if_pos hch])
                clear hch
                go_wp2_with fail
                refine (chunk_new 65535 wz).mono ?_
                rintro e w5 ⟨rfl, hcr, hu5, hs5⟩
                have hb5 := HB3.out.upd hu5 (by simp)
                have hc3 := hb5.cell 3
                have hf3 := hb5.free 3
                have HB5 := Lib.hid hb5
                have HCR := Lib.hid hcr
                have HX5 := Lib.hid (HX3.out.trans hu5 fun _ _ h => h)
                have hbz := HB3.out.lt
                have hwz := HX3.out.size
                clear hu5 hb5 hcr
                go_wp2_with fail
                go_ret
                refine ⟨HU.out.trans (HX5.out.setCell (fun h => absurd h (by simp only; omega)) _) fun _ _ h => h, .inr ⟨_, bb, some wz.heap.size, HB4.out, rfl, ⟨HB5.out.set 3 _, ⟨none, 0, 0, rfl⟩, fun h => (by cases h), fun s h => ?_, Nat.zero_le _, by simp, by have := HU.out.size; omega⟩⟩⟩
                injection h with h
                subst h
                have hw := HU.out.size
                refine ⟨wz.heap.size, rfl, HCR.out.upd ((Upd.refl (One bb) _).set rfl _) ?_, new0_inv _, ?_⟩
                · rintro b (rfl | hb) h
                  · have h : wz.heap.size = bb := h
                    omega
                  · cases hb
                · rintro b (rfl | hb)
                  · omega
                  · cases hb
              · rw [decide_eq_false hch] at hq
                have HB := Lib.hid (show beginL (ss.map bytesOf) = none by rw [HBEG4.out, HLO.out, if_neg hch])
                clear hch
                go_wp2_with fail
                go_ret
                exact ⟨HU.out.trans HX3.out fun _ _ h => h, .inl ⟨HB.out, rfl⟩⟩
          · have es : ((n3 : Int) + (n4 : Int) != 1) = true := by simp; omega
            have hlong : longOf (valuesOf fs clenL) (valuesOf fs codedL) keep = none := by
              have h3 := strs_map HV3.out HO3.out.len
              have h4 := strs_map HV4.out HO4.out.len
              unfold longOf
              split
              · rename_i e1 e2; rw [e1] at h3; rw [e2] at h4; simp at h3 h4; omega
              · rename_i e1 e2; rw [e1] at h3; rw [e2] at h4; simp at h3 h4; omega
              · rfl
            have HB := Lib.hid (show beginL (ss.map bytesOf) = none by rw [HBEG4.out, hlong])
            clear hsum hlong
            go_wp2_with fail
            go_ret
            exact ⟨HU.out.trans HX3.out fun _ _ h => h, .inl ⟨HB.out, rfl⟩⟩
        · rw [decide_eq_false hk]
          have HB := Lib.hid (show beginL (ss.map bytesOf) = none by rw [HBEG2.out, if_pos hk])
          clear hk
          go_wp2_with fail
          go_ret
          exact ⟨HU.out.trans HX1.out fun _ _ h => h, .inl ⟨HB.out, rfl⟩⟩
    · rw [decide_eq_false hf] at hq
      have hb : beginL (ss.map bytesOf) = none := by rw [HSS.out, beginL, if_pos hf]
      have HB := Lib.hid hb
      clear hb hf
      go_wp2_with fail
      go_ret
      exact ⟨Upd.refl _ _, .inl ⟨HB.out, rfl⟩⟩
end Go.Proofs.YtageanmjdfodnaaGreatDoor
