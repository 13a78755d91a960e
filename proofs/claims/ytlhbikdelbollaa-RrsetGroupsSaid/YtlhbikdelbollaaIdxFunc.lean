/- slices.IndexFunc, slices.ContainsFunc on slices of bytes, at a function value that may make memory. -/
import Derived.Test.YtlhbikdelbollaaSets
import Derived.Deep.LoopGhost
namespace Go.Proofs.Ytlhbikdelbollaa
open Go.RowKit Go.Cx

/-- what a predicate on rows must do, wherever it is called -/
def PredRows (g : Nat) (lb : Array Value) (p : Row → Bool) (rows : List Row) (w : World) : Prop :=
  ∀ W, Upd Nix w W → ∀ r ∈ rows, Calls Try.prog g (#[.slice r.A r.n r.c] ++ lb) W fun e w' => e = .returned (.bool (p r)) ∧ Upd Nix W w'

def idxRows (p : Row → Bool) (rows : List Row) : Int := if rows.any p = true then ((rows.findIdx p : Nat) : Int) else -1

theorem idxRows_hit (p : Row → Bool) : ∀ (rows : List Row) (k : Nat) (r : Row), (rows.take k).any p = false → rows[k]? = some r → p r = true → idxRows p rows = (k : Int)
  | [], k, r, _, hr, _ => by simp at hr
  | x :: rows, 0, r, _, hr, hp => by
    simp only [List.getElem?_cons_zero, Option.some.injEq] at hr
    subst hr
    simp [idxRows, hp, List.findIdx_cons]
  | x :: rows, k + 1, r, hn, hr, hp => by
    simp only [List.take_succ_cons, List.any_cons, Bool.or_eq_false_iff] at hn
    rw [List.getElem?_cons_succ] at hr
    have ih := idxRows_hit p rows k r hn.2 hr hp
    have hany : rows.any p = true := List.any_eq_true.2 ⟨r, List.mem_of_getElem? hr, hp⟩
    unfold idxRows at ih ⊢
    rw [if_pos hany] at ih
    rw [if_pos (by simp [hany]), List.findIdx_cons, hn.1]
    simp only [cond_false]
    omega

set_option maxRecDepth 100000 in
set_option maxHeartbeats 1600000 in
theorem index_func (g : Nat) (lb : Array Value) (eg : ∀ args w, (callFunc g args).run Try.prog w = .ok (.enter g args) w) (p : Row → Bool) (A : Option Addr) (n c : Nat) (rows : List Row) (w : World) (B : Nat) (h : RowsAt w B A n c rows) (hB : B ≤ w.heap.size) (hp : PredRows g lb p rows w) :
    Calls Try.prog 73 #[.slice A n c, .func (.func g) #[] lb] w fun e w' => e = .returned (.int .i64 (idxRows p rows)) ∧ Upd Nix w w' := by
  have hs := h.small
  have H := Lib.hid h
  have HP := Lib.hid hp
  clear h hp
  go_enter Try.func73, Try.ntmps73
  go_wp2_with fail
  go_loopw [5, 8] (fun _ s8 wr => Upd Nix w wr ∧ ∃ k : Nat, k ≤ n ∧ s8 = .int .i64 k ∧ (rows.take k).any p = false) (fun _ s8 _ => n - (intOf s8).toNat)
  case atStart => exact ⟨Upd.refl _ _, 0, Nat.zero_le _, rfl, rfl⟩
  case round =>
    obtain ⟨hu, k, hk, rfl, hno⟩ := hrel
    have HU := Lib.hid hu
    have HN := Lib.hid hno
    clear hu hno
    by_cases hkn : k < n
    · have hki : (k : Int) < (n : Int) := by omega
      have hr2 := H.out.below (HU.out.belowNix hB)
      obtain ⟨ad, r, hadB, hr, hm, hcell, hidx⟩ := hr2.idx hkn
      have hcall := HP.out wr HU.out r hm
      have HC := Lib.hid hcall
      have HR := Lib.hid hr
      clear hr hcall hr2
      go_wp2_with fail
      refine HC.out.mono ?_
      rintro e w1 ⟨rfl, hu1⟩
      have HU1 := Lib.hid (HU.out.trans hu1 fun _ _ h => h)
      clear hu1 HC hcell hidx
      cases hpr : p r with
      | true =>
        have hv := idxRows_hit p rows k r HN.out HR.out hpr
        have HV := Lib.hid hv
        clear hpr hv
        go_wp2_with fail
        go_ret
        rw [HV.out]
        exact ⟨rfl, HU1.out⟩
      | false =>
        have hv : (rows.take (k + 1)).any p = false := by
          rw [List.take_add_one, HR.out, List.any_append, HN.out]
          simp [hpr]
        have HV := Lib.hid hv
        clear hpr hv
        go_wp2_with fail
        refine ⟨⟨HU1.out, k + 1, by omega, by rfl, HV.out⟩, ?_⟩
        simp only [intOf]
        omega
    · have hki : ¬ (k : Int) < (n : Int) := by omega
      have hv : idxRows p rows = -1 := by
        have h1 := HN.out
        rw [List.take_of_length_le (by rw [H.out.len]; omega)] at h1
        unfold idxRows
        rw [h1]
        rfl
      have HV := Lib.hid hv
      clear hv
      go_wp2_with fail
      go_ret
      rw [HV.out]
      exact ⟨rfl, HU.out⟩

set_option maxRecDepth 100000 in
set_option maxHeartbeats 1600000 in
theorem contains_func (g : Nat) (lb : Array Value) (eg : ∀ args w, (callFunc g args).run Try.prog w = .ok (.enter g args) w) (p : Row → Bool) (A : Option Addr) (n c : Nat) (rows : List Row) (w : World) (B : Nat) (h : RowsAt w B A n c rows) (hB : B ≤ w.heap.size) (hp : PredRows g lb p rows w) :
    Calls Try.prog 56 #[.slice A n c, .func (.func g) #[] lb] w fun e w' => e = .returned (.bool (rows.any p)) ∧ Upd Nix w w' := by
  have HC := Lib.hid (index_func g lb eg p A n c rows w B h hB hp)
  clear h hp
  go_enter Try.func56, Try.ntmps56
  go_wp2_with fail
  refine HC.out.mono ?_
  rintro e w1 ⟨rfl, hu1⟩
  have HU := Lib.hid hu1
  clear hu1 HC
  by_cases hany : rows.any p = true
  · have h1 : (0 : Int) ≤ idxRows p rows := by unfold idxRows; rw [if_pos hany]; omega
    have HA := Lib.hid hany
    clear hany
    go_wp2_with fail
    go_ret
    rw [HA.out]
    exact ⟨rfl, HU.out⟩
  · have h1 : decide ((0 : Int) ≤ idxRows p rows) = false := decide_eq_false (by unfold idxRows; rw [if_neg hany]; omega)
    have h2 : rows.any p = false := by simpa using hany
    have HA := Lib.hid h2
    clear hany h2
    go_wp2_with fail
    go_ret
    rw [HA.out]
    exact ⟨rfl, HU.out⟩
end Go.Proofs.Ytlhbikdelbollaa
