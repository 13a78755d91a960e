/- The document's best of some addresses. -/
import Derived.Test.YtphnehfablaakaaRef16
namespace Go.Proofs.Ytphnehfablaakaa
open Go.RowKit Go.Maps Go.Cx

theorem infoInt' : (Try.prog.info? 3).map (fun i => (i.zero, i.size, i.bytes)) = some (some (.int .i64 0), 1, 8) := infoInt

/-- what stands in the three variables behind k elements -/
def refTo (T : Int → Nat × Nat) (xs : List Int) : Nat → List Int × Nat × Nat
  | 0 => ([], 0, 0)
  | k + 1 => (bestTo T xs k, (T ((bestTo T xs k).headD 0)).1, (T ((bestTo T xs k).headD 0)).2)

set_option maxHeartbeats 2000000 in
theorem ref_best (B rb : Nat) (l : List Known) (draw : Int) (A : Option Addr) (n c : Nat) (xs : List Int) (w : World) (hT : RTab w B rb l)
    (hx : Rd w w.heap.size 1 A n (ints xs)) (hn : 0 < n) (hreach : n * 8 ≤ 140737488351232) :
    Calls Try.prog 17 #[.pointer (some ⟨rb, 0, none⟩), .slice A n c, .int .i64 draw] w fun e w' => e = .returned (.tuple #[.int .i64 (bestOf (knownOf l) xs draw), .bool true]) ∧ Upd Nix w w' := by
  have hlen := hx.1
  obtain ⟨ad, rfl, hbB, hcell⟩ := hx.2 hn
  simp only [ints, List.length_map, Nat.mul_one] at hlen
  obtain ⟨i0, hi, hz0, hz1, hz2⟩ := info_parts infoInt'
  have hn0 : ((n : Int) == 0) = false := by simp; omega
  have HT := Lib.hid hT
  have HC := Lib.hid hcell
  have Hlen := Lib.hid hlen
  clear hT hx hlen hcell
  go_enter Try.func17, Try.ntmps17
  go_wp2
  go_loopw [8, 9, 10, 20] (fun v tk fl i wr => ∃ (k : Nat) (A' : Option Addr) (c' : Nat), k ≤ n ∧ i = .int .i64 k ∧ tk = .int .i64 (refTo (knownOf l) xs k).2.1 ∧ fl = .int .i64 (refTo (knownOf l) xs k).2.2 ∧ v = .slice A' (refTo (knownOf l) xs k).1.length c' ∧
      wr.ownsRow w.heap.size 3 1 (.slice A' (refTo (knownOf l) xs k).1.length c') (refTo (knownOf l) xs k).1.length (ints (refTo (knownOf l) xs k).1) ∧ Upd Nix w wr) (fun _ _ _ i _ => n - (intOf i).toNat)
  case atStart => exact ⟨0, none, 0, Nat.zero_le _, rfl, rfl, rfl, rfl, World.ownsRow_nil _ _ _ _, Upd.refl _ _⟩
  case round =>
    obtain ⟨k, A0, c0, hk, rfl, rfl, rfl, rfl, hown, hu⟩ := hrel
    have hub := hu.belowNix (Nat.le_refl _)
    by_cases hkn : k < n
    · have hkl : k < xs.length := by rw [Hlen.out]; exact hkn
      obtain ⟨y, hy⟩ : ∃ y, y = xs[k] := ⟨_, rfl⟩
      have hcy : wr.cell? (ad.add k) = some (.int .i64 y) := (hub.cell (by rw [block_add]; exact hbB)).trans (HC.out k (.int .i64 y) (by rw [ints, List.getElem?_map, List.getElem?_eq_getElem hkl, hy]; rfl))
      have HY := Lib.hid hy
      clear hy
      have hstep : (k = 0 ∧ (refTo (knownOf l) xs (k + 1)).1 = [y]) ∨ (0 < k ∧ ∃ b, refTo (knownOf l) xs k = ((refTo (knownOf l) xs k).1, (knownOf l b).1, (knownOf l b).2) ∧
          (refTo (knownOf l) xs (k + 1)).1 = if bet (knownOf l y) (knownOf l b) then [y] else if knownOf l y = knownOf l b then (refTo (knownOf l) xs k).1 ++ [y] else (refTo (knownOf l) xs k).1) := by
        cases k with
        | zero =>
          left
          refine ⟨rfl, ?_⟩
          cases xs with
          | nil => simp at hkl
          | cons x xs => rw [HY.out]; exact bestTo_zero (knownOf l) x xs
        | succ k =>
          right
          refine ⟨by omega, (bestTo (knownOf l) xs k).headD 0, rfl, ?_⟩
          have := bestTo_succ (knownOf l) xs k hkl
          have hyy : xs.getD (k + 1) 0 = y := by rw [HY.out]; simp [List.getElem?_eq_getElem hkl]
          rw [hyy] at this
          exact this
      have hhead : (refTo (knownOf l) xs (k + 1)).2 = knownOf l ((refTo (knownOf l) xs (k + 1)).1.headD 0) := rfl
      have HH := Lib.hid hhead
      clear hhead
      have hBl : (refTo (knownOf l) xs k).1.length ≤ k := by
        cases k with
        | zero => simp [refTo]
        | succ k => exact (bestTo_len (knownOf l) xs (by omega) k (by omega)).2
      generalize hR : refTo (knownOf l) xs k = R at *
      obtain ⟨Bk, tk, fl⟩ := R
      have HR := Lib.hid hR
      clear hR
      simp only at hown hBl hstep ⊢
      generalize hky : knownOf l y = ky at *
      obtain ⟨y1, y2⟩ := ky
      have HKY := Lib.hid hky
      clear hky
      rcases hstep with ⟨hk0, hnew⟩ | ⟨hk0, b, hb, hnew⟩
      · have hk0' : ((k : Int) == 0) = true := by simp; omega
        have HN := Lib.hid hnew
        clear hnew hk0
        go_wp2_with fail
        refine (ref_of B rb l y _ (HT.out.nix hu)).mono ?_
        rw [HKY.out]
        rintro e w2 ⟨rfl, hu2⟩
        have hs2 : w.heap.size ≤ w2.heap.size := Nat.le_trans hu.size hu2.size
        have hnil := World.ownsRow_nil w2 w.heap.size 3 1
        go_wp2_with (at_builtin; refine wpList_app _ rfl (.tmp 58) (.tmp 60) 22 rfl w.heap.size 3 i0 _ 1 8 Try.underlying22 hi hz0 hz1 hz2 rfl (by omega) (.slice none 0 0) 0 [] rfl (hnil.alloc _) (w2.heap.size + 1) (some ⟨w2.heap.size, 0, none⟩) 1 1 [.int .i64 y] rfl (Rd.lit1 w2 (.int .i64 y) _) (oneInt _ _) (by unfold maxLen; omega) (by omega) (by simp; omega) ?_; intro A3 c3 w3 hown3 hg3 _)
        go_roundw
        case rel =>
          have h2 : (refTo (knownOf l) xs (k + 1)).2 = (y1, y2) := by rw [HH.out, HN.out]; exact HKY.out
          exact ⟨k + 1, A3, c3, by omega, by go_num, by rw [h2], by rw [h2], by rw [HN.out]; rfl, by rw [HN.out]; exact hown3, ((hu.then hu2).alloc _).grown hg3 (by simp [Value.ownBlock])⟩
        case measure => simp [intOf]; omega
      · have hk0' : ((k : Int) == 0) = false := by simp; omega
        have hbt : knownOf l (Bk.headD 0) = (tk, fl) := by
          cases k with
          | zero => simp at hk0'
          | succ k =>
            have h1 := congrArg (·.2) HR.out
            have h2 := congrArg (·.1) HR.out
            simp only [refTo] at h1 h2
            rw [h2] at h1
            exact h1
        have hB0 : Bk ≠ [] := by
          cases k with
          | zero => simp at hk0'
          | succ k =>
            have h2 := congrArg (·.1) HR.out
            simp only [refTo] at h2
            obtain ⟨b', r, hbr⟩ := bestTo_head (knownOf l) xs k (by omega)
            rw [h2] at hbr
            rw [hbr]
            simp
        have HBT := Lib.hid hbt
        have HB0 := Lib.hid hB0
        clear hbt hB0
        generalize hkb : knownOf l b = kb at *
        obtain ⟨b1, b2⟩ := kb
        simp only [Prod.mk.injEq, true_and] at hb
        obtain ⟨rfl, rfl⟩ := hb
        have HKB := Lib.hid hkb
        clear hkb hk0
        by_cases hbet : bet (y1, y2) (tk, fl) = true
        · have hg : y2 < fl ∨ ¬ y2 < fl ∧ y2 = fl ∧ y1 < tk := by
            simp only [bet, Bool.or_eq_true, Bool.and_eq_true, decide_eq_true_eq] at hbet
            omega
          rw [if_pos hbet] at hnew
          have HN := Lib.hid hnew
          clear hnew hbet
          rcases hg with hg | ⟨hg1, rfl, hg2⟩
          all_goals
            go_wp2_with fail
            refine (ref_of B rb l y _ (HT.out.nix hu)).mono ?_
            rw [HKY.out]
            rintro e w2 ⟨rfl, hu2⟩
            have hs2 : w.heap.size ≤ w2.heap.size := Nat.le_trans hu.size hu2.size
            have hnil := World.ownsRow_nil w2 w.heap.size 3 1
            go_wp2_with (at_builtin; refine wpList_app _ rfl (.tmp 58) (.tmp 60) 22 rfl w.heap.size 3 i0 _ 1 8 Try.underlying22 hi hz0 hz1 hz2 rfl (by omega) (.slice none 0 0) 0 [] rfl (hnil.alloc _) (w2.heap.size + 1) (some ⟨w2.heap.size, 0, none⟩) 1 1 [.int .i64 y] rfl (Rd.lit1 w2 (.int .i64 y) _) (oneInt _ _) (by unfold maxLen; omega) (by omega) (by simp; omega) ?_; intro A3 c3 w3 hown3 hg3 _)
            go_roundw
            case rel =>
              have h2 : (refTo (knownOf l) xs (k + 1)).2 = (y1, y2) := by rw [HH.out, HN.out]; exact HKY.out
              exact ⟨k + 1, A3, c3, by omega, by go_num, by rw [h2], by rw [h2], by rw [HN.out]; rfl, by rw [HN.out]; exact hown3, ((hu.then hu2).alloc _).grown hg3 (by simp [Value.ownBlock])⟩
            case measure => simp [intOf]; omega
        · have hbet : bet (y1, y2) (tk, fl) = false := by simpa using hbet
          rw [if_neg (by rw [hbet]; decide)] at hnew
          simp only [bet, Bool.or_eq_false_iff, Bool.and_eq_false_iff, decide_eq_false_iff_not] at hbet
          by_cases heq : (y1, y2) = (tk, fl)
          · rw [if_pos heq] at hnew
            simp only [Prod.mk.injEq] at heq
            obtain ⟨rfl, rfl⟩ := heq
            have HN := Lib.hid hnew
            clear hnew hbet
            go_wp2_with fail
            refine (ref_of B rb l y _ (HT.out.nix hu)).mono ?_
            rw [HKY.out]
            rintro e w2 ⟨rfl, hu2⟩
            have hs2 : w.heap.size ≤ w2.heap.size := Nat.le_trans hu.size hu2.size
            have hown2 := own_upd hown hu2 fun _ _ hh => hh
            go_wp2_with (at_builtin; refine wpList_app _ rfl (.tmp 58) (.tmp 60) 22 rfl w.heap.size 3 i0 _ 1 8 Try.underlying22 hi hz0 hz1 hz2 rfl (by omega) (.slice A0 Bk.length c0) Bk.length (ints Bk) rfl (hown2.alloc _) (w2.heap.size + 1) (some ⟨w2.heap.size, 0, none⟩) 1 1 [.int .i64 y] rfl (Rd.lit1 w2 (.int .i64 y) _) (oneInt _ _) (by unfold maxLen; omega) (by omega) (by simp; omega) ?_; intro A3 c3 w3 hown3 hg3 _)
            go_roundw
            case rel =>
              have h2 : (refTo (knownOf l) xs (k + 1)).2 = (y1, y2) := by
                rw [HH.out, HN.out]
                cases Bk with
                | nil => exact absurd rfl HB0.out
                | cons z r => exact HBT.out
              exact ⟨k + 1, A3, c3, by omega, by go_num, by rw [h2], by rw [h2], by rw [HN.out, List.length_append]; rfl, by rw [HN.out, List.length_append]; simpa [ints] using hown3, ((hu.then hu2).alloc _).grown hg3 (fun b hb hlt => by have := (hown2.lt b hb).1; omega)⟩
            case measure => simp [intOf]; omega
          · rw [if_neg heq] at hnew
            have HN := Lib.hid hnew
            clear hnew
            have hg1 : ¬ y2 < fl := by omega
            have hg2 : (¬ y2 = fl) ∨ (y2 = fl ∧ ¬ y1 < tk ∧ ¬ y1 = tk) := by
              by_cases h : y2 = fl
              · right
                refine ⟨h, by omega, fun h1 => heq (by rw [h1, h])⟩
              · exact .inl h
            have Hold : Hid ((refTo (knownOf l) xs (k + 1)).2 = (tk, fl)) := by
              show (refTo (knownOf l) xs (k + 1)).2 = (tk, fl)
              rw [HH.out, HN.out]
              exact HBT.out
            clear hbet heq
            have fin : ∀ w2, Upd Nix wr w2 → (∃ (k' : Nat) (A' : Option Addr) (c' : Nat), k' ≤ n ∧ Value.int .i64 ((k : Int) + 1) = .int .i64 k' ∧ Value.int .i64 (tk : Int) = .int .i64 (refTo (knownOf l) xs k').2.1 ∧ Value.int .i64 (fl : Int) = .int .i64 (refTo (knownOf l) xs k').2.2 ∧ Value.slice A0 Bk.length c0 = .slice A' (refTo (knownOf l) xs k').1.length c' ∧
      w2.ownsRow w.heap.size 3 1 (.slice A' (refTo (knownOf l) xs k').1.length c') (refTo (knownOf l) xs k').1.length (ints (refTo (knownOf l) xs k').1) ∧ Upd Nix w w2) := fun w2 hu2 =>
              ⟨k + 1, A0, c0, by omega, by go_num, by rw [Hold.out], by rw [Hold.out], by rw [HN.out], by rw [HN.out]; exact own_upd hown hu2 fun _ _ hh => hh, hu.then hu2⟩
            have Fin := Lib.hid fin
            clear fin
            rcases hg2 with hg2 | ⟨rfl, hg2, hg3⟩
            · have b1 : ((y2 : Int) == (fl : Int)) = false := by simp; omega
              go_wp2_with fail
              refine (ref_of B rb l y _ (HT.out.nix hu)).mono ?_
              rw [HKY.out]
              rintro e w2 ⟨rfl, hu2⟩
              have hs2 : w.heap.size ≤ w2.heap.size := Nat.le_trans hu.size hu2.size
              by_cases hx1 : y1 = tk
              · subst hx1
                go_wp2
                go_roundw
                case rel => exact Fin.out _ hu2
                case measure => simp [intOf]; omega
              · have b2 : ((y1 : Int) == (tk : Int)) = false := by simp; omega
                go_wp2
                go_roundw
                case rel => exact Fin.out _ hu2
                case measure => simp [intOf]; omega
            · have b2 : ((y1 : Int) == (tk : Int)) = false := by simp; omega
              go_wp2_with fail
              refine (ref_of B rb l y _ (HT.out.nix hu)).mono ?_
              rw [HKY.out]
              rintro e w2 ⟨rfl, hu2⟩
              have hs2 : w.heap.size ≤ w2.heap.size := Nat.le_trans hu.size hu2.size
              go_wp2
              go_roundw
              case rel => exact Fin.out _ hu2
              case measure => simp [intOf]; omega
    · have hkk : k = n := by omega
      subst hkk
      obtain ⟨m, rfl⟩ : ∃ m, k = m + 1 := ⟨k - 1, by omega⟩
      have hend : (refTo (knownOf l) xs (m + 1)).1 = bestL (knownOf l) xs := bestTo_end (knownOf l) xs m (by rw [Hlen.out]; omega)
      have hbl := bestTo_len (knownOf l) xs (by rw [Hlen.out]; omega) m (by rw [Hlen.out]; omega)
      have hbl' : 1 ≤ (refTo (knownOf l) xs (m + 1)).1.length ∧ (refTo (knownOf l) xs (m + 1)).1.length ≤ m + 1 := hbl
      have hfin : bestOf (knownOf l) xs draw = (refTo (knownOf l) xs (m + 1)).1.getD (drawI draw % (refTo (knownOf l) xs (m + 1)).1.length) 0 := by
        unfold bestOf; rw [hend]
      have Hfin := Lib.hid hfin
      clear hfin hbl hend
      generalize refTo (knownOf l) xs (m + 1) = R at *
      obtain ⟨Bk, tk, fl⟩ := R
      simp only at hown hbl' Hfin ⊢
      have hM : drawI draw % Bk.length < Bk.length := Nat.mod_lt _ (by omega)
      have hr := Rd.own hown
      obtain ⟨ab, rfl, hab, hcl⟩ := hr.2 (by omega)
      have hcl := hcl (drawI draw % Bk.length) (.int .i64 (Bk.getD (drawI draw % Bk.length) 0)) (by rw [ints, List.getElem?_map, List.getElem?_eq_getElem hM]; simp [List.getElem?_eq_getElem hM])
      have e1 := wrap_draw draw
      have e2 := wrap_len Bk.length (by omega)
      have e3 := tmod_nat (drawI draw) Bk.length
      have hM' : drawI draw % Bk.length ≤ 140737488351232 := by omega
      have HBL := Lib.hid hbl'
      clear hr hbl'
      generalize drawI draw % Bk.length = M at *
      go_wp2
      go_ret2
      exact ⟨by rw [Hfin.out]; simp [hM], hu⟩
end Go.Proofs.Ytphnehfablaakaa
