/- Data of records: the walk of cut. -/
import Derived.Test.YtlhbikdelbollaaRdataA
import Derived.Deep.RegionWith
namespace Go.Proofs.Ytlhbikdelbollaa
open Go.RowKit Go.Cx Go.Maps

theorem atL_le : ∀ (n : Nat) (l : List Nat), l.length = n → (∀ b ∈ l, b < 256) → atL l ≤ n + 256 := by
  intro n
  induction n using Nat.strongRecOn with
  | _ n ih =>
    intro l hl hb
    cases l with
    | nil => rw [atL_nil]; omega
    | cons k t =>
      by_cases hk : k = 0
      · subst hk; rw [atL_zero]; omega
      · rw [atL_cons t hk]
        simp only [List.length_cons] at hl
        have hk256 := hb k (by simp)
        by_cases hkt : k ≤ t.length
        · have := ih (t.drop k).length (by rw [List.length_drop]; omega) (t.drop k) rfl (fun b h => hb b (List.mem_cons_of_mem _ (List.mem_of_mem_drop h)))
          rw [List.length_drop] at this
          omega
        · rw [List.drop_of_length_le (by omega), atL_nil]
          omega
/-- one label further -/
theorem atL_step {l : List Nat} {a k : Nat} (h : l[a]? = some k) (hk : k ≠ 0) : a + atL (l.drop a) = (a + (1 + k)) + atL (l.drop (a + (1 + k))) := by
  have ha := (List.getElem?_eq_some_iff.1 h).1
  have hd : l.drop a = k :: l.drop (a + 1) := by
    rw [List.drop_eq_getElem_cons ha]
    congr 1
    rw [List.getElem?_eq_getElem ha] at h
    injection h
  rw [hd, atL_cons _ hk, List.drop_drop, show a + 1 + k = a + (1 + k) by omega]
  omega
theorem atL_stop {l : List Nat} {a : Nat} (h : l[a]? = some 0 ∨ l.length ≤ a) : atL (l.drop a) = 0 := by
  rcases h with h | h
  · have ha := (List.getElem?_eq_some_iff.1 h).1
    have hd : l.drop a = 0 :: l.drop (a + 1) := by
      rw [List.drop_eq_getElem_cons ha]
      congr 1
      rw [List.getElem?_eq_getElem ha] at h
      injection h
    rw [hd, atL_zero]
  · rw [List.drop_of_length_le h, atL_nil]

/-- the name ahead, and what stands behind it -/
def CutIs (l : List Nat) (B : Nat) (e : Ending) (w' : World) : Prop :=
  (cutL l = none ∧ e = .returned (.tuple #[.string ⟨#[]⟩, .slice none 0 0, .bool false])) ∨
  ∃ m r s A n c, cutL l = some (m, r) ∧ bytesOf s = m ∧ Sl w' B A n c r ∧ e = .returned (.tuple #[.string s, .slice A n c, .bool true])

set_option maxRecDepth 100000 in
set_option maxHeartbeats 3200000 in
theorem rdata_cut (A : Option Addr) (n c : Nat) (l : List Nat) (w : World) (B : Nat) (h : Sl w B A n c l) (hwB : B ≤ w.heap.size) :
    Calls Try.prog 63 #[.slice A n c] w fun e w' => CutIs l B e w' ∧ Upd Nix w w' := by
  have hl := h.llen
  have hnc := h.nc
  have hn := h.len
  have hal := atL_le n l hl h.bytes
  have H := Lib.hid h
  clear h
  obtain ⟨a0, ha0⟩ : ∃ a, atL l = a := ⟨_, rfl⟩
  rw [ha0] at hal
  have HA := Lib.hid ha0
  clear ha0
  go_enter Try.func63, Try.ntmps63
  go_upto_block 0 with fail
  go_cut [5] (fun s5 wx => w = wx ∧ s5 = .int .i64 a0)
  case first =>
    go_wp2_with fail
    go_loopw [5] (fun s5 wr => w = wr ∧ ∃ a : Nat, s5 = .int .i64 a ∧ a ≤ a0 ∧ a + atL (l.drop a) = a0) (fun s5 _ => a0 - (intOf s5).toNat)
    case atStart => exact ⟨rfl, 0, rfl, Nat.zero_le _, by rw [List.drop_zero, HA.out, Nat.zero_add]⟩
    case round =>
      obtain ⟨rfl, a, rfl, haa, hat⟩ := hrel
      have HT := Lib.hid hat
      clear hat
      by_cases han : a < n
      · have hani : (a : Int) < (n : Int) := by omega
        obtain ⟨k, hk⟩ : ∃ k, l[a]? = some k := ⟨_, List.getElem?_eq_getElem (by omega)⟩
        obtain ⟨ad, rfl, hB, hcell⟩ := H.out.cell hk
        have hk256 := H.out.bytes k (List.mem_of_getElem? hk)
        have HK := Lib.hid hk
        clear hk
        by_cases hk0 : k = 0
        · subst hk0
          have hfin : a = a0 := by rw [← HT.out, atL_stop (.inl HK.out), Nat.add_zero]
          subst hfin
          clear haa
          go_wp2_with fail
          go_meet
          exact ⟨rfl, rfl⟩
        · have hki : ((k : Int) == 0) = false := by rw [beq_eq_false_iff_ne]; omega
          have hst := atL_step HK.out hk0
          rw [HT.out] at hst
          have HST := Lib.hid hst
          have hle : a + (1 + k) ≤ a0 := by omega
          clear hst
          go_wp2_with fail
          refine ⟨⟨trivial, a + (1 + k), by rfl, hle, HST.out.symm⟩, ?_⟩
          simp only [intOf]
          omega
      · have hani : decide ((a : Int) < (n : Int)) = false := decide_eq_false (by omega)
        have hani2 : ¬ (a : Int) < (n : Int) := by omega
        have hfin : a = a0 := by rw [← HT.out, atL_stop (.inr (by omega)), Nat.add_zero]
        subst hfin
        clear haa
        go_wp2_with fail
        go_meet
        exact ⟨rfl, rfl⟩
  case rest =>
  obtain ⟨rfl, rfl⟩ := hcut
  by_cases han : a0 < n
  · have hani : ¬ (n : Int) ≤ (a0 : Int) := by omega
    have hfr := H.out.front (k := a0 + 1) (by omega)
    have k0 := run_conv w hfr.rd c
    have hbs := bytesOf_strN hfr.bytes
    have hss : (strN (l.take (a0 + 1))).size ≤ 140737488355328 := by rw [strN_size, List.length_take]; omega
    obtain ⟨st, hst⟩ : ∃ st, strN (l.take (a0 + 1)) = st := ⟨_, rfl⟩
    rw [hst] at k0 hbs hss
    have HBS := Lib.hid hbs
    have HFR := Lib.hid hfr
    have HST := Lib.hid hst
    clear hbs hfr hst
    go_wp2_with fail
    refine (name_can st w hss).mono ?_
    rw [HBS.out]
    rintro e w1 ⟨rfl, hu1⟩
    have HU1 := Lib.hid hu1
    have hr1 := (HFR.out.below (Upd.belowNix HU1.out hwB)).rd
    have k2 := fun q => run_conv (w1.drewN q) (hr1.drewN q) c
    have k3 := run_conv w1.drew (hr1.drewN 1) c
    rw [HST.out] at k3
    simp only [HST.out] at k2
    clear hr1
    clear hu1 k0
    cases hc : canL (l.take (a0 + 1)) with
    | true =>
      have hv : cutL l = some (l.take (a0 + 1), l.drop (a0 + 1)) := by
        unfold cutL
        rw [HA.out, if_pos ⟨by omega, hc⟩]
      have HV := Lib.hid hv
      have hcut := (H.out.below (Upd.belowNix HU1.out hwB)).cut (k := a0 + 1) (by omega)
      have hwr : IntKind.i64.wrap ((a0 : Int) + 1) = (a0 : Int) + 1 := by
        rw [IntKind.wrap_i64]
        omega
      have h00 : (0 : Int) ≤ (a0 : Int) + 1 := by omega
      have h1 : (a0 : Int) + 1 ≤ (n : Int) := by omega
      have h2 : (a0 : Int) + 1 ≤ (c : Int) := by omega
      by_cases hca : c = a0 + 1
      · rw [if_pos hca, hca, Nat.sub_self, show n - (a0 + 1) = 0 by omega] at hcut
        have HC := Lib.hid hcut
        clear hv hc hcut
        subst hca
        go_wp2_with fail
        go_quiet (fail)
        go_wp2_with fail
        refine bodyPost_ret (results_tmp3 rfl _ _ _) rfl ?_
        exact ⟨.inr ⟨_, _, _, _, _, _, HV.out, HBS.out, HC.out.drewN _, rfl⟩, HU1.out.drewN _⟩
      · rw [if_neg hca] at hcut
        have HC := Lib.hid hcut
        clear hv hc hcut
        go_wp2_with fail
        go_quiet (fail)
        go_wp2_with fail
        refine bodyPost_ret (results_tmp3 rfl _ _ _) rfl ?_
        exact ⟨.inr ⟨_, _, _, _, _, _, HV.out, HBS.out, HC.out.drewN _, rfl⟩, HU1.out.drewN _⟩
    | false =>
      have hv : cutL l = none := by unfold cutL; rw [HA.out, if_neg (fun h => by rw [hc] at h; cases h.2)]
      have HV := Lib.hid hv
      clear hv hc
      go_wp2_with fail
      refine bodyPost_ret (results_tmp3 rfl _ _ _) rfl ?_
      exact ⟨.inl ⟨HV.out, rfl⟩, HU1.out⟩
  · have hani : (n : Int) ≤ (a0 : Int) := by omega
    have hv : cutL l = none := by unfold cutL; rw [if_neg (fun h => by have := h.1; rw [HA.out] at this; omega)]
    have HV := Lib.hid hv
    clear hv
    go_wp2_with fail
    refine bodyPost_ret (results_tmp3 rfl _ _ _) rfl ?_
    exact ⟨.inl ⟨HV.out, rfl⟩, Upd.refl _ _⟩
end Go.Proofs.Ytlhbikdelbollaa
