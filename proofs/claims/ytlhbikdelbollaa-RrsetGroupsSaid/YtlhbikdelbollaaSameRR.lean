/- ciceroneplain.sameRR, SameRRs: of equal records they say so; ciceroneref09.Time. -/
import Derived.Test.YtlhbikdelbollaaEnds
import Derived.Test.YtlhbikdelbollaaTexts
namespace Go.Proofs.Ytlhbikdelbollaa
open Go.RowKit Go.Cx Go.Maps

set_option maxRecDepth 100000 in
set_option maxHeartbeats 3200000 in
theorem same_rr (nm : ByteArray) (ty cl tt : Int) (d d' : Row) (w : World) (h : Sl w w.heap.size d.A d.n d.c d.l) (h' : Sl w w.heap.size d'.A d'.n d'.c d'.l) (he : d.l = d'.l) :
    Calls Try.prog 43 #[.agg #[.string nm, .int .i64 ty, .int .i64 cl, .int .i64 tt, .slice d.A d.n d.c], .agg #[.string nm, .int .i64 ty, .int .i64 cl, .int .i64 tt, .slice d'.A d'.n d'.c]] w fun e w' => e = .returned (.bool true) ∧ Upd Nix w w' := by
  have hcall := fun (W : World) (hW : Upd Nix w W) => bytes_equal W _ _ d.A d'.A d.n d'.n d.c d'.c d.l d'.l (h.upd hW).rd (h'.upd hW).rd h.bytes h'.bytes
  have hdec : decide (d.l = d'.l) = true := decide_eq_true he
  rw [hdec] at hcall
  have HC := Lib.hid hcall
  clear hcall hdec h h' he
  go_enter Try.func43, Try.ntmps43
  go_wp2_with fail
  refine (HC.out _ (((Upd.refl _ _).alloc _).alloc _)).mono ?_
  rintro e w1 ⟨rfl, rfl⟩
  go_wp2_with fail
  go_ret
  exact ⟨rfl, ((Upd.refl _ _).alloc _).alloc _⟩
set_option maxRecDepth 100000 in
theorem ref_time (t : Int) (w : World) : Calls Try.prog 40 #[.int .i64 t] w fun e w' => e = .returned (.int .i64 (timeL t)) ∧ w = w' := by
  go_enter Try.func40, Try.ntmps40
  go_wp2_with fail
  go_ret
  exact ⟨rfl, rfl⟩
theorem RRsAt.cells {w : World} {B n c i : Nat} {A : Option Addr} {rs : List RRV} (h : RRsAt w B A n c rs) (hi : i < n) : ∃ (ad : Addr) (r : RRV), rs[i]? = some r ∧ (ad.add (i * 5)).block < B ∧ RRAt w B r ∧ (∀ j, j < 5 → w.cell? (ad.add (i * 5 + j)) = r.cells[j]?) ∧
    ∀ W, (Instr.indexAt 22 (.slice A n c) (.int .i64 (i : Int))).run Try.prog W = .ok (.pointer (some (ad.add (i * 5)))) W := by
  obtain ⟨ad, r, hB, hr, hm, hc, rfl⟩ := h.idx hi
  have e : (ad.add (i * 5)).block = ad.block := by unfold Addr.add; split <;> rfl
  exact ⟨ad, r, hr, by rw [e]; exact hB, h.each r hm, hc, fun W => idx_rrs ad n c i hi W⟩
set_option maxRecDepth 100000 in
set_option maxHeartbeats 3200000 in
theorem equal_rrs (A A' : Option Addr) (n c c' : Nat) (rs rs' : List RRV) (w : World) (h : RRsAt w w.heap.size A n c rs) (h' : RRsAt w w.heap.size A' n c' rs') (he : rs.map RRV.said = rs'.map RRV.said) :
    Calls Try.prog 42 #[.slice A n c, .slice A' n c', .func (.func 43) #[] #[]] w fun e w' => e = .returned (.bool true) ∧ Upd Nix w w' := by
  have hs := h.small
  have H := Lib.hid h
  have H' := Lib.hid h'
  have HE := Lib.hid he
  clear h h' he
  go_enter Try.func42, Try.ntmps42
  go_wp2_with fail
  go_loopw [17] (fun s17 wr => ∃ k : Nat, k ≤ n ∧ s17 = .int .i64 k ∧ Upd Nix w wr) (fun s17 _ => n - (intOf s17).toNat)
  case atStart => exact ⟨0, Nat.zero_le _, rfl, Upd.refl _ _⟩
  case round =>
    obtain ⟨k, hk, rfl, hur⟩ := hrel
    have HUR := Lib.hid hur
    by_cases hkn : k < n
    · have hki : (k : Int) < (n : Int) := by omega
      have hR := H.out.below (Upd.belowNix hur (Nat.le_refl _))
      have hR' := H'.out.below (Upd.belowNix hur (Nat.le_refl _))
      obtain ⟨ad, r, hr, hbl, hat, hcells, hidx⟩ := hR.cells hkn
      obtain ⟨ad', r', hr', hbl', hat', hcells', hidx'⟩ := hR'.cells hkn
      have hl : r.said = r'.said := by
        have h1 := congrArg (fun x => x[k]?) HE.out
        simp only [List.getElem?_map, hr, hr', Option.map_some, Option.some.injEq] at h1
        exact h1
      obtain ⟨nm, ty, cl, tt, d⟩ := r
      obtain ⟨nm', ty', cl', tt', d'⟩ := r'
      obtain rfl : nm = nm' := bytesOf_inj (congrArg RRC.name hl)
      obtain rfl : ty = ty' := congrArg RRC.type hl
      obtain rfl : cl = cl' := congrArg RRC.cls hl
      obtain rfl : tt = tt' := congrArg RRC.ttl hl
      have hd : d.l = d'.l := congrArg RRC.data hl
      have hsl : Sl wr wr.heap.size d.A d.n d.c d.l := hat.data.more hur.size
      have hsl' : Sl wr wr.heap.size d'.A d'.n d'.c d'.l := hat'.data.more hur.size
      have hc0 : wr.cell? (ad.add (k * 5)) = some (.string nm) := hcells 0 (by omega)
      have hc1 : wr.cell? ⟨(ad.add (k * 5)).block, (ad.add (k * 5)).off + 1, none⟩ = some (.int .i64 ty) := by rw [add_nth _ _ _ (by omega)]; exact hcells 1 (by omega)
      have hc2 : wr.cell? ⟨(ad.add (k * 5)).block, (ad.add (k * 5)).off + 2, none⟩ = some (.int .i64 cl) := by rw [add_nth _ _ _ (by omega)]; exact hcells 2 (by omega)
      have hc3 : wr.cell? ⟨(ad.add (k * 5)).block, (ad.add (k * 5)).off + 3, none⟩ = some (.int .i64 tt) := by rw [add_nth _ _ _ (by omega)]; exact hcells 3 (by omega)
      have hc4 : wr.cell? ⟨(ad.add (k * 5)).block, (ad.add (k * 5)).off + 4, none⟩ = some (.slice d.A d.n d.c) := by rw [add_nth _ _ _ (by omega)]; exact hcells 4 (by omega)
      have hp0 : wr.cell? (ad'.add (k * 5)) = some (.string nm) := hcells' 0 (by omega)
      have hp1 : wr.cell? ⟨(ad'.add (k * 5)).block, (ad'.add (k * 5)).off + 1, none⟩ = some (.int .i64 ty) := by rw [add_nth _ _ _ (by omega)]; exact hcells' 1 (by omega)
      have hp2 : wr.cell? ⟨(ad'.add (k * 5)).block, (ad'.add (k * 5)).off + 2, none⟩ = some (.int .i64 cl) := by rw [add_nth _ _ _ (by omega)]; exact hcells' 2 (by omega)
      have hp3 : wr.cell? ⟨(ad'.add (k * 5)).block, (ad'.add (k * 5)).off + 3, none⟩ = some (.int .i64 tt) := by rw [add_nth _ _ _ (by omega)]; exact hcells' 3 (by omega)
      have hp4 : wr.cell? ⟨(ad'.add (k * 5)).block, (ad'.add (k * 5)).off + 4, none⟩ = some (.slice d'.A d'.n d'.c) := by rw [add_nth _ _ _ (by omega)]; exact hcells' 4 (by omega)
      have HC := Lib.hid (fun (W : World) (hW : Upd Nix wr W) => same_rr nm ty cl tt d d' W (hsl.upd hW) (hsl'.upd hW) hd)
      clear hur hR hR' hr hr' hat hat' hl hd hsl hsl' hcells hcells'
      have hsz := HUR.out.size
      generalize ad.add (k * 5) = qa at *
      generalize ad'.add (k * 5) = qb at *
      obtain ⟨ga, oa, na⟩ := qa
      obtain ⟨gb, ob, nb⟩ := qb
      simp only at hbl hbl' hc1 hc2 hc3 hc4 hp1 hp2 hp3 hp4
      have hla : ga < wr.heap.size := by omega
      have hlb : gb < wr.heap.size := by omega
      clear hbl hbl' hsz
      go_wp2_with fail
      refine (HC.out _ (((Upd.refl _ _).alloc _).alloc _)).mono ?_
      rintro e w1 ⟨rfl, hu1⟩
      have HU1 := Lib.hid (HUR.out.trans ((((Upd.refl _ _).alloc _).alloc _).trans hu1 fun _ _ h => h) fun _ _ h => h)
      clear HC hu1
      go_wp2_with fail
      refine ⟨⟨k + 1, by omega, by rfl, HU1.out⟩, ?_⟩
      simp only [intOf]; omega
    · have hki : ¬ (k : Int) < (n : Int) := by omega
      clear hur
      go_wp2_with fail
      go_ret
      exact ⟨rfl, HUR.out⟩
theorem same_rrs (A A' : Option Addr) (n c c' : Nat) (rs rs' : List RRV) (w : World) (h : RRsAt w w.heap.size A n c rs) (h' : RRsAt w w.heap.size A' n c' rs') (he : rs.map RRV.said = rs'.map RRV.said) :
    Calls Try.prog 17 #[.slice A n c, .slice A' n c'] w fun e w' => e = .returned (.bool true) ∧ Upd Nix w w' := by
  have HC := Lib.hid (equal_rrs A A' n c c' rs rs' w h h' he)
  clear h h' he
  go_enter Try.func17, Try.ntmps17
  go_wp2_with fail
  refine HC.out.mono ?_
  rintro e w1 ⟨rfl, hu1⟩
  have HU1 := Lib.hid hu1
  clear HC hu1
  go_wp2_with fail
  go_ret
  exact ⟨rfl, HU1.out⟩
set_option maxRecDepth 100000 in
set_option maxHeartbeats 800000 in
theorem ref_fresh (s : SetV) (now : Int) (w : World) : Calls Try.prog 23 #[s.agg, .int .i64 now] w fun e w' => e = .returned (.bool (freshL s.said now)) ∧ Upd Nix w w' := by
  unfold SetV.agg freshL SetV.said
  obtain ⟨name, t, c, rank, kind, exp, zone, dA, dn, dc, rows⟩ := s
  simp only
  go_enter Try.func23, Try.ntmps23
  go_wp2_with fail
  have HT := Lib.hid (fun W => ref_time now W)
  go_quiet ((go_at_call 40; exact quietL (HT.out _)))
  go_wp2_with fail
  go_ret
  exact ⟨rfl, ((Upd.refl _ _).alloc _).drewN _⟩
end Go.Proofs.Ytlhbikdelbollaa
