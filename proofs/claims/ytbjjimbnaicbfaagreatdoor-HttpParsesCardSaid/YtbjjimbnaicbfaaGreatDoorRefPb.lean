/- ciceroneref13.short; ParseReply of what does not begin with the text of 400. -/
import Derived.Test.YtbjjimbnaicbfaaGreatDoorRefPar
namespace Go.Proofs.YtbjjimbnaicbfaaGreatDoor
open Go.RowKit Go.Cx Go.Maps

/-- the digits of a length, behind the first 72 bytes: what number and decimal say of them -/
theorem numZ_neg {d : List Nat} (h : sizeL d = none) : numZ d = -1 := by unfold numZ; rw [h]
theorem numZ_pos {d : List Nat} {m : Nat} (h : sizeL d = some m) : numZ d = (m : Int) ∧ m ≤ 65535 := by
  refine ⟨by unfold numZ; rw [h], ?_⟩
  unfold sizeL at h
  split at h
  · rename_i h2
    injection h with h
    omega
  · cases h
set_option maxRecDepth 100000 in
set_option maxHeartbeats 3200000 in
/-- bytes that end ahead of a length's digits, or within them -/
theorem ref_short (s : ByteArray) (l : List Nat) (w : World) (hbs : bytesOf s = l) (hs : s.size ≤ 140737488355328) (at_ : Nat) (hat : at_ = s.size ∨ (s.size ≤ 72 ∧ at_ = 72)) (h72 : 72 ≤ at_) (hd : 72 < s.size → l.drop 72 = digP (l.drop 72)) :
    Calls Tryz.prog 28 #[.string s, .int .i64 (at_ : Nat)] w fun e w' => e = .returned (.tuple #[.int .i64 0, .slice none 0 0, .slice none 0 0, .int .i64 ((sizedL (l.drop 72)).2.2.2 : Nat)]) ∧ Upd Nix w w' := by
  have hlen := bytesOf_len s
  rw [hbs] at hlen
  by_cases h : s.size ≤ 72
  · have hi : (s.size : Int) ≤ 72 := by omega
    have h0 : l.drop 72 = [] := List.drop_eq_nil_of_le (by omega)
    rw [h0, sized_nil]
    clear hbs hlen h0 hd hat h72
    go_enter Tryz.func28, Tryz.ntmps28
    go_wp2_with fail
    refine bodyPost_ret (results_tmp4 rfl _ _ _) rfl ?_
    exact ⟨rfl, Upd.refl _ _⟩
  · have hi : ¬ (s.size : Int) ≤ 72 := by omega
    have hat2 : at_ = s.size := by omega
    subst hat2
    have hdd := hd (by omega)
    obtain ⟨D, hD⟩ : ∃ D, s.extract 72 s.size = D := ⟨_, rfl⟩
    have hDl : bytesOf D = l.drop 72 := by rw [← hD, bytesOf_from, hbs]
    have hDs : D.size ≤ 140737488355328 := by rw [← bytesOf_len, hDl, List.length_drop]; omega
    have hne : l.drop 72 ≠ [] := by
      intro h'
      have := congrArg List.length h'
      rw [List.length_drop, List.length_nil] at this
      omega
    obtain ⟨t, ht⟩ : ∃ t, l.drop 72 = t := ⟨_, rfl⟩
    rw [ht] at hdd hDl hne ⊢
    have hnum := fun (W : World) => ref_number D W hDs
    rw [hDl] at hnum
    have HD := Lib.hid hD
    have HDL := Lib.hid hDl
    have HNUM := Lib.hid hnum
    have hi72 : (72 : Int) ≤ (s.size : Int) := by omega
    cases hsz : sizeL t with
    | none =>
      have hz : sizedL t = (0, [], [], 130) := sized_none hne (by rw [← hdd]; exact hsz)
      rw [hz]
      rw [numZ_neg hsz] at HNUM
      clear hbs hlen hd hD hDl hnum hdd hne ht hz hsz hat h72 h
      go_enter Tryz.func28, Tryz.ntmps28
      go_wp2_with fail
      rw [HD.out]
      refine (HNUM.out w).mono ?_
      rintro e w1 ⟨rfl, rfl⟩
      go_wp2_with fail
      refine bodyPost_ret (results_tmp4 rfl _ _ _) rfl ?_
      exact ⟨rfl, Upd.refl _ _⟩
    | some m =>
      obtain ⟨hz1, hz2⟩ := numZ_pos hsz
      rw [hz1] at HNUM
      by_cases hi2 : itoaL m = t
      · have hz : sizedL t = (0, [], [], 20) := by
          rw [sized_ends (by rw [← hdd]; exact hsz) (by rw [← hdd]; exact hi2), ← hdd, List.drop_length, ends_nil]
        rw [hz]
        have HI := Lib.hid hi2
        clear hbs hlen hd hD hDl hnum hdd hne ht hz hsz hat h72 h hz1 hi2
        go_enter Tryz.func28, Tryz.ntmps28
        go_wp2_with fail
        rw [HD.out]
        refine (HNUM.out w).mono ?_
        rintro e w1 ⟨rfl, rfl⟩
        go_wp2_with fail
        refine (ref_decimal m hz2 w).mono ?_
        rintro e w1 ⟨x, rfl, hx, rfl⟩
        obtain rfl : x = D := bytesOf_inj (by rw [hx, HDL.out, HI.out])
        clear hx
        go_wp2_with fail
        refine bodyPost_ret (results_tmp4 rfl _ _ _) rfl ?_
        exact ⟨rfl, Upd.refl _ _⟩
      · have hz : sizedL t = (0, [], [], 130) := sized_odd (by rw [← hdd]; exact hsz) (by rw [← hdd]; exact hi2)
        rw [hz]
        have HI := Lib.hid hi2
        clear hbs hlen hd hD hDl hnum hdd hne ht hz hsz hat h72 h hz1 hi2
        go_enter Tryz.func28, Tryz.ntmps28
        go_wp2_with fail
        rw [HD.out]
        refine (HNUM.out w).mono ?_
        rintro e w1 ⟨rfl, rfl⟩
        go_wp2_with fail
        refine (ref_decimal m hz2 w).mono ?_
        rintro e w1 ⟨x, rfl, hx, rfl⟩
        have hxd : (x.toList == D.toList) = false := by
          rw [str_eq, hx, HDL.out]
          exact decide_eq_false HI.out
        clear hx
        go_wp2_with fail
        refine bodyPost_ret (results_tmp4 rfl _ _ _) rfl ?_
        exact ⟨rfl, Upd.refl _ _⟩
end Go.Proofs.YtbjjimbnaicbfaaGreatDoor
