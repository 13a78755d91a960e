/- rrset: of, life, time. -/
import Derived.Test.YtlhbikdelbollaaRRs
import Derived.Test.YtlhbikdelbollaaEntryB
import Derived.Deep.RegionHeld3

namespace Go.Proofs.Ytlhbikdelbollaa
open Go.RowKit Go.Cx Go.Maps

theorem ret_int {k : IntKind} {a b : Int} (h : a = b) : Ending.returned (.int k a) = .returned (.int k b) := by rw [h]
/-- whether a record plays a part -/
def mayL (r : RRC) : Bool := canL r.name && decide (0 < r.type) && decide (r.type < 65536) && decide (0 ≤ r.cls) && decide (r.cls < 65536) && rdataL r.type r.data
def lifeL (t : Int) : Int := if t < 0 ∨ 2147483647 < t then 0 else min t 86400
def timeL (t : Int) : Int := min (max t 0) 1099511541376

set_option maxRecDepth 100000 in
set_option maxHeartbeats 800000 in
theorem rrset_life (t : Int) (w : World) : Calls Try.prog 32 #[.int .i64 t] w fun e w' => e = .returned (.int .i64 (lifeL t)) ∧ w = w' := by
  go_enter Try.func32, Try.ntmps32
  by_cases h0 : t < 0
  · have hv : lifeL t = 0 := by unfold lifeL; rw [if_pos (.inl h0)]
    have HV := Lib.hid hv
    clear hv
    go_wp2_with fail
    go_ret
    rw [HV.out]
    exact ⟨rfl, rfl⟩
  · by_cases h1 : 2147483647 < t
    · have hv : lifeL t = 0 := by unfold lifeL; rw [if_pos (.inr h1)]
      have HV := Lib.hid hv
      clear hv
      go_wp2_with fail
      go_ret
      rw [HV.out]
      exact ⟨rfl, rfl⟩
    · have hv : lifeL t = min t 86400 := by unfold lifeL; rw [if_neg (by omega)]
      have HV := Lib.hid hv
      clear hv
      go_wp2_with fail
      all_goals
        go_ret
        exact ⟨ret_int (by rw [HV.out]; omega), rfl⟩

set_option maxRecDepth 100000 in
set_option maxHeartbeats 800000 in
theorem rrset_time (t : Int) (w : World) : Calls Try.prog 33 #[.int .i64 t] w fun e w' => e = .returned (.int .i64 (timeL t)) ∧ w = w' := by
  go_enter Try.func33, Try.ntmps33
  go_wp2_with fail
  all_goals
    go_ret
    exact ⟨ret_int (by unfold timeL; omega), rfl⟩

set_option maxRecDepth 100000 in
set_option maxHeartbeats 3200000 in
theorem rrset_of (r : RRV) (w : World) (B : Nat) (h : RRAt w B r) (hB : B ≤ w.heap.size) : Calls Try.prog 31 #[r.agg] w fun e w' =>
    (∃ low : ByteArray, e = .returned (.tuple #[.agg #[.string low, .int .i64 r.type, .int .i64 r.cls], .bool (mayL r.said)]) ∧ bytesOf low = lowerL (bytesOf r.name)) ∧ Upd Nix w w' := by
  have hname := h.name
  have H := Lib.hid h
  clear h
  unfold RRV.agg
  obtain ⟨g, hg⟩ : ∃ g, w.heap.size = g := ⟨_, rfl⟩
  have hb0 : Blk (w.alloc (.cells r.cells.toArray 35)) g 35 r.cells.toArray := Blk.new' _ _ _ hg.symm
  have hb1 := hb0.alloc (.cells #[.string ⟨#[]⟩, .int .i64 0, .int .i64 0] 56)
  have hb2 : Blk ((w.alloc (.cells r.cells.toArray 35)).alloc (.cells #[.string ⟨#[]⟩, .int .i64 0, .int .i64 0] 56)) (g + 1) 56 #[.string ⟨#[]⟩, .int .i64 0, .int .i64 0] := Blk.new' _ _ _ (by simp [hg])
  have hu0 : Upd Nix w ((w.alloc (.cells r.cells.toArray 35)).alloc (.cells #[.string ⟨#[]⟩, .int .i64 0, .int .i64 0] 56)) := ((Upd.refl _ _).alloc _).alloc _
  unfold RRV.cells at hb1 hb2 hu0
  have HB1 := Lib.hid hb1
  have HB2 := Lib.hid hb2
  have HU0 := Lib.hid hu0
  clear hb0 hb1 hb2 hu0
  go_enter Try.func31, Try.ntmps31
  go_upto_region 1 with fail
  have HG := Lib.hid hg
  clear hg
  generalize ((w.alloc (.cells [Value.string r.name, .int .i64 r.type, .int .i64 r.cls, .int .i64 r.ttl, .slice r.data.A r.data.n r.data.c].toArray 35)).alloc (.cells #[.string ⟨#[]⟩, .int .i64 0, .int .i64 0] 56)) = wa at *
  go_cut [4] (fun s4 wx => s4 = .bool (mayL r.said) ∧ Upd Nix wa wx)
  case first =>
    have hca : ∀ i, wa.cell? ⟨g, i, none⟩ = _ := fun i => HB1.out.cell i
    go_wp2_with fail
    clear hca
    refine (name_can r.name wa hname).mono ?_
    rintro e w1 ⟨rfl, hu1⟩
    have hb1 := HB1.out.upd hu1 (by simp [Nix])
    have HU := Lib.hid hu1
    have hc : ∀ i, w1.cell? ⟨g, i, none⟩ = _ := fun i => hb1.cell i
    have HBB := Lib.hid hb1
    clear hb1 hu1
    cases hcan : canL (bytesOf r.name) with
    | false =>
      have hv : mayL r.said = false := by unfold mayL RRV.said; simp [hcan]
      have HV := Lib.hid hv
      clear hv hcan
      go_wp2_with fail
      go_meet
      rw [HV.out]
      exact ⟨rfl, HU.out⟩
    | true =>
      have hcase : (¬ 0 < r.type) ∨ (0 < r.type ∧ ¬ r.type < 65536) ∨ (0 < r.type ∧ r.type < 65536 ∧ ¬ 0 ≤ r.cls) ∨ (0 < r.type ∧ r.type < 65536 ∧ 0 ≤ r.cls ∧ ¬ r.cls < 65536) ∨ (0 < r.type ∧ r.type < 65536 ∧ 0 ≤ r.cls ∧ r.cls < 65536) := by omega
      have fin : mayL r.said = (decide (0 < r.type) && decide (r.type < 65536) && decide (0 ≤ r.cls) && decide (r.cls < 65536) && rdataL r.type r.data.l) := by unfold mayL RRV.said; simp [hcan]
      have FIN := Lib.hid fin
      clear fin hcan
      rcases hcase with h1 | ⟨h1, h2⟩ | ⟨h1, h2, h3⟩ | ⟨h1, h2, h3, h4⟩ | ⟨h1, h2, h3, h4⟩
      · have hd : decide (0 < r.type) = false := decide_eq_false h1
        have hv : mayL r.said = false := by rw [FIN.out, hd]; rfl
        have HV := Lib.hid hv
        clear hv h1
        go_wp2_with fail
        go_meet
        rw [HV.out]
        exact ⟨rfl, HU.out⟩
      · have hd : decide (r.type < 65536) = false := decide_eq_false h2
        have hv : mayL r.said = false := by rw [FIN.out, hd]; simp
        have HV := Lib.hid hv
        clear hv h2
        go_wp2_with fail
        go_meet
        rw [HV.out]
        exact ⟨rfl, HU.out⟩
      · have hd : decide (0 ≤ r.cls) = false := decide_eq_false h3
        have hv : mayL r.said = false := by rw [FIN.out, hd]; simp
        have HV := Lib.hid hv
        clear hv h3
        go_wp2_with fail
        go_meet
        rw [HV.out]
        exact ⟨rfl, HU.out⟩
      · have hd : decide (r.cls < 65536) = false := decide_eq_false h4
        have hv : mayL r.said = false := by rw [FIN.out, hd]; simp
        have HV := Lib.hid hv
        clear hv h4
        go_wp2_with fail
        go_meet
        rw [HV.out]
        exact ⟨rfl, HU.out⟩
      · have hv : mayL r.said = rdataL r.type r.data.l := by rw [FIN.out]; simp [h1, h2, h3, h4]
        have HV := Lib.hid hv
        clear hv
        have hsl := ((H.out.data.below (HU0.out.belowNix hB)).below (HU.out.belowNix (Nat.le_trans hB HU0.out.size))).more (Nat.le_trans hB (Nat.le_trans HU0.out.size HU.out.size))
        have HSL := Lib.hid hsl
        have ht := H.out.t
        clear hsl
        go_wp2_with fail
        refine (rdata_can r.type ht r.data.A r.data.n r.data.c r.data.l w1 HSL.out).mono ?_
        rintro e w2 ⟨rfl, hu2⟩
        have HU2 := Lib.hid (HU.out.trans hu2 fun _ _ h => h)
        clear hu2
        rw [← HV.out]
        go_wp2_with fail
        go_meet
        exact ⟨rfl, HU2.out⟩
  case rest =>
  obtain ⟨rfl, hu1⟩ := hcut
  have hb1 := HB1.out.upd hu1 (by simp [Nix])
  have hb2 := HB2.out.upd hu1 (by simp [Nix])
  have HUA := Lib.hid (HU0.out.trans hu1 fun _ _ h => h)
  clear hu1
  have HC1 := Lib.hid hb1
  have HC2 := Lib.hid hb2
  have nlow := fun W => name_lower r.name W hname
  have NLOW := Lib.hid nlow
  clear hb1 hb2 nlow
  go_wp2_with fail
  go_region_held3 (fun w' => w'.cell? ⟨g, 0, none⟩ = some (.string r.name) ∧ w'.cell? ⟨g, 1, none⟩ = some (.int .i64 r.type) ∧ w'.cell? ⟨g, 2, none⟩ = some (.int .i64 r.cls))
    (first | exact ⟨HC1.out.cell 0, HC1.out.cell 1, HC1.out.cell 2⟩ | exact ⟨hd1.cell 0, hd1.cell 1, hd1.cell 2⟩ | go_keep)
    ((go_at_call 54; (with_reducible refine (NLOW.out _).mono ?_); rintro e w2 ⟨⟨low, rfl, hlow⟩, hu2⟩; have hd1 := (HC1.out.drew).upd hu2 (by simp [Nix]); have hd2 := (HC2.out.drew).upd hu2 (by simp [Nix]); have hc2 : ∀ i, w2.cell? ⟨g + 1, i, none⟩ = _ := (fun i => hd2.cell i); have hf2 : ∀ i, w2.frozen? ⟨g + 1, i, none⟩ = _ := (fun i => hd2.free i)))
  have hbx := ((hd2.set 0 (.string low)).set 1 (.int .i64 r.type)).set 2 (.int .i64 r.cls)
  have hux : Below w.heap.size w (((w2.setCell ⟨g + 1, 0, none⟩ (.string low)).setCell ⟨g + 1, 1, none⟩ (.int .i64 r.type)).setCell ⟨g + 1, 2, none⟩ (.int .i64 r.cls)) := by
    have hG := HG.out
    refine (((((HUA.out.drewN 1).trans hu2 fun _ _ h => h).belowNix (Nat.le_refl _)).setCell ?_ _).setCell ?_ _).setCell ?_ _ <;> simp <;> omega
  have hcx : ∀ i, (((w2.setCell ⟨g + 1, 0, none⟩ (.string low)).setCell ⟨g + 1, 1, none⟩ (.int .i64 r.type)).setCell ⟨g + 1, 2, none⟩ (.int .i64 r.cls)).cell? ⟨g + 1, i, none⟩ = #[Value.string low, .int .i64 r.type, .int .i64 r.cls][i]? := fun i => hbx.cell i
  have HUX := Lib.hid hux
  have HLOW := Lib.hid hlow
  clear hux hlow hbx hd1 hd2 hc2 hf2 hu2
  generalize (((w2.setCell ⟨g + 1, 0, none⟩ (.string low)).setCell ⟨g + 1, 1, none⟩ (.int .i64 r.type)).setCell ⟨g + 1, 2, none⟩ (.int .i64 r.cls)) = w3 at *
  go_wp2_with fail
  refine bodyPost_ret (v := .tuple #[.agg #[.string low, .int .i64 r.type, .int .i64 r.cls], .bool (mayL r.said)]) (by simp [results, Try.results31, go_sem, hcx]) rfl ?_
  exact ⟨⟨low, rfl, HLOW.out⟩, Upd.of_below' HUX.out⟩
end Go.Proofs.Ytlhbikdelbollaa
