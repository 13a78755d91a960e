/- slices.EqualFunc with bytes.Equal and ciceroneplain.SameTexts: of equal texts they say so. -/
import Derived.Test.YtlhbikdelbollaaCompact
import Derived.Test.YtlhbikdelbollaaIdxFunc
namespace Go.Proofs.Ytlhbikdelbollaa
open Go.RowKit Go.Cx Go.Maps

set_option maxRecDepth 100000 in
set_option maxHeartbeats 3200000 in
theorem equal_func (A A' : Option Addr) (n c c' : Nat) (rows rows' : List Row) (w : World) (h : RowsAt w w.heap.size A n c rows) (h' : RowsAt w w.heap.size A' n c' rows') (he : rows.map Row.l = rows'.map Row.l) :
    Calls Try.prog 50 #[.slice A n c, .slice A' n c', .func (.func 49) #[] #[]] w fun e w' => e = .returned (.bool true) ∧ Upd Nix w w' := by
  have hs := h.small
  have H := Lib.hid h
  have H' := Lib.hid h'
  have HE := Lib.hid he
  clear h h' he
  go_enter Try.func50, Try.ntmps50
  go_wp2_with fail
  go_loopw [17] (fun s17 wr => ∃ k : Nat, k ≤ n ∧ s17 = .int .i64 k ∧ Upd Nix w wr) (fun s17 _ => n - (intOf s17).toNat)
  case atStart => exact ⟨0, Nat.zero_le _, rfl, Upd.refl _ _⟩
  case round =>
    obtain ⟨k, hk, rfl, hur⟩ := hrel
    have HUR := Lib.hid hur
    by_cases hkn : k < n
    · have hki : (k : Int) < (n : Int) := by omega
      have hR := H.out.below (Upd.belowNix hur (Nat.le_refl _))
      have hR' := H'.out.below (Upd.belowNix hur (Nat.le_refl _))
      obtain ⟨ad, r, _, hr, hrm, hrc, hidx⟩ := hR.idx hkn
      obtain ⟨ad', r', _, hr', hrm', hrc', hidx'⟩ := hR'.idx hkn
      have hsl := hR.each r hrm
      have hsl' := hR'.each r' hrm'
      have hl : r.l = r'.l := by
        have h1 := congrArg (fun x => x[k]?) HE.out
        simp only [List.getElem?_map, hr, hr', Option.map_some, Option.some.injEq] at h1
        exact h1
      have hcall := bytes_equal wr _ _ r.A r'.A r.n r'.n r.c r'.c r.l r'.l hsl.rd hsl'.rd hsl.bytes hsl'.bytes
      rw [hl] at hcall
      simp only [decide_true] at hcall
      have HC := Lib.hid hcall
      clear hur hR hR' hr hrm hsl hr' hrm' hsl' hl hcall
      go_wp2_with fail
      refine HC.out.mono ?_
      rintro e w1 ⟨rfl, rfl⟩
      clear HC
      go_wp2_with fail
      refine ⟨⟨k + 1, by omega, by rfl, HUR.out⟩, ?_⟩
      simp only [intOf]; omega
    · have hki : ¬ (k : Int) < (n : Int) := by omega
      clear hur
      go_wp2_with fail
      go_ret
      exact ⟨rfl, HUR.out⟩
theorem same_texts (A A' : Option Addr) (n c c' : Nat) (rows rows' : List Row) (w : World) (h : RowsAt w w.heap.size A n c rows) (h' : RowsAt w w.heap.size A' n c' rows') (he : rows.map Row.l = rows'.map Row.l) :
    Calls Try.prog 25 #[.slice A n c, .slice A' n c'] w fun e w' => e = .returned (.bool true) ∧ Upd Nix w w' := by
  have HC := Lib.hid (equal_func A A' n c c' rows rows' w h h' he)
  clear h h' he
  go_enter Try.func25, Try.ntmps25
  go_wp2_with fail
  refine HC.out.mono ?_
  rintro e w1 ⟨rfl, hu1⟩
  have HU1 := Lib.hid hu1
  clear HC hu1
  go_wp2_with fail
  go_ret
  exact ⟨rfl, HU1.out⟩
end Go.Proofs.Ytlhbikdelbollaa
