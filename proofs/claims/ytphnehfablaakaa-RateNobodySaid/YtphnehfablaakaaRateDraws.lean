/- The law RateDraws, as a walk. -/
import Derived.Test.YtphnehfablaakaaBest
import Derived.Deep.DeepCutAuto
namespace Go.Proofs.Ytphnehfablaakaa
open Go.RowKit Go.Maps Go.Cx

theorem foldl_same (xs B : List Int) (hB : B ≠ []) : xs.foldl (bestStep fun _ => (0, 0)) B = B ++ xs := by
  induction xs generalizing B with
  | nil => simp
  | cons x xs ih =>
    have e : bestStep (fun _ => (0, 0)) B x = B ++ [x] := by unfold bestStep bet; simp
    rw [List.foldl_cons, e, ih _ (by simp)]
    simp
theorem bestL_same (xs : List Int) : bestL (fun _ => (0, 0)) xs = xs := by
  cases xs with
  | nil => rfl
  | cons x xs => rw [bestL_cons, foldl_same xs [x] (by simp)]; rfl
theorem bestOf_same (xs : List Int) (d : Nat) (hd : d < 9223372036854775807) : bestOf (fun _ => (0, 0)) xs (d : Int) = xs.getD (d % xs.length) 0 := by
  unfold bestOf drawI
  rw [bestL_same]
  have e : ((d : Int) % 18446744073709551616).toNat = d := by omega
  rw [e]

set_option maxHeartbeats 1000000 in
theorem draws (A : Option Addr) (len cap : Nat) (xs : List Int) (draw : Int) (w : World) (hx : Rd w w.heap.size 1 A len (ints xs)) (hlc : len ≤ cap) (hw : ∀ x ∈ xs, (Lit.int .i64 x).wf = true) (_hc : cap * Try.prog.bytesOf 3 ≤ reachBytes) (_hd : (Lit.int .i64 draw).wf = true) :
    Calls Try.prog 3 #[.slice A len cap, .int .i64 draw] w fun e w' => e = .returned (.bool true) ∧ Below w.heap.size w w' := by
  go_enter Try.func3, Try.ntmps3
  go_upto_region 1 with fail
  go_cut [0] (fun s0 wx => ∃ (n : Nat) (ys : List Int), s0 = .slice A n cap ∧ n ≤ 20 ∧ n ≤ cap ∧ Rd w w.heap.size 1 A n (ints ys) ∧ (∀ x ∈ ys, (Lit.int .i64 x).wf = true) ∧ wx = w)
  case first =>
    by_cases hl : len ≤ 20
    · go_wp2
      go_meet
      exact ⟨len, xs, rfl, hl, hlc, hx, hw, rfl⟩
    · go_wp2
      go_meet
      have hf := hx.front (k := 20) (by omega)
      refine ⟨20, xs.take 20, rfl, Nat.le_refl _, by omega, by simpa [ints] using hf, fun x h => hw x (List.mem_of_mem_take h), rfl⟩
  case rest =>
    obtain ⟨n, ys, rfl, hn, hnc, hy, hwy, rfl⟩ := hcut
    clear hx hw xs hlc len
    have hc0 := hy.2
    have hylen := hy.1
    simp only [ints, List.length_map, Nat.mul_one] at hylen
    have HY := Lib.hid hy
    have HL := Lib.hid hylen
    have HC := Lib.hid hc0
    clear hy hylen hc0
    go_upto_region 3 with (go_at_call 9; refine (rate_new _).mono ?_; rintro e w1 ⟨rfl, hT, hu, _⟩)
    go_cut [1] (fun s1 wx => ∃ D : Nat, s1 = .int .i64 D ∧ D < 72057594037927936 ∧ wx = w1)
    case first =>
      go_wp2
      go_meet
      refine ⟨(draw % 18446744073709551616 / 256).toNat, ?_, by omega, rfl⟩
      rw [IntKind.wrap_u64]
      congr 1
      unfold wrap64
      omega
    case rest =>
    obtain ⟨D, rfl, hD', rfl⟩ := hcut
    go_wp2
    go_loopw [23] (fun i wr => ∃ k : Nat, k ≤ n ∧ i = .int .i64 k ∧ Upd Nix wc wr) (fun i _ => n - (intOf i).toNat)
    case atStart => exact ⟨0, Nat.zero_le _, rfl, Upd.refl _ _⟩
    case round =>
      obtain ⟨k, hk, rfl, hur⟩ := hrel
      have hTr := hT.upd hur
      have hbr := (hu.then hur).belowNix (Nat.le_refl _)
      by_cases hkn : k < n
      · obtain ⟨ad, rfl, hadB, hcell⟩ := HC.out (by omega)
        have hM : (D + k) % n < n := Nat.mod_lt _ (by omega)
        obtain ⟨M, hM'⟩ : ∃ M, M = (D + k) % n := ⟨_, rfl⟩
        obtain ⟨yv, hyv⟩ : ∃ yv, yv = ys.getD M 0 := ⟨_, rfl⟩
        have hbo : bestOf (fun _ => (0, 0)) ys ((D : Int) + (k : Int)) = yv := by
          have := bestOf_same ys (D + k) (by omega)
          rw [HL.out, ← hM', ← hyv] at this
          rw [← this]; congr 1
        have hmod : ((D : Int) + (k : Int)) % (n : Int) = (M : Int) := by rw [hM']; exact (Int.natCast_emod (D + k) n).symm
        rw [← hM'] at hM
        have hcM := hcell M (.int .i64 yv) (by
          have hl : M < ys.length := by rw [HL.out]; exact hM
          rw [ints, List.getElem?_map, List.getElem?_eq_getElem hl, hyv]
          simp [List.getElem?_eq_getElem hl])
        have HM := Lib.hid hM'
        have Hbo := Lib.hid hbo
        have HcM := Lib.hid hcM
        have Hyv := Lib.hid hyv
        clear hM' hbo hcM hyv hcell
        go_wp2_with (first
          | (go_at_call 10; refine (best_some _ _ (fun _ => (0, 0)) ((D : Int) + (k : Int)) ad n cap ys _ hTr ((HY.out.below hbr).more hbr.size) (by omega) hnc hwy (by omega)).mono ?_; rintro e w2 ⟨he, hu2⟩; rw [Hbo.out] at he; subst he; have hc2 := (Upd.on hbr hu2 hbr.size (fun b _ hh => hh.elim)).cell (p := ad.add M) (by rw [block_add]; exact hadB); rw [HcM.out] at hc2))
        go_roundw
        case rel => exact ⟨k + 1, by omega, by go_num, hur.then hu2⟩
        case measure => simp [intOf]; omega
      · go_wp2_with fail
        refine (best_some _ _ (fun _ => (0, 0)) (D : Int) ⟨wr.heap.size, 0, none⟩ 2 2 [9, 9] _ (hTr.below ((Below.refl _ _).alloc (Nat.le_refl _) _)) ((Rd.lit _ [.int .i64 9, .int .i64 9] _ 1 2 rfl).more (by simp)) (by omega) (by omega) (by decide) (by omega)).mono ?_
        rintro e w2 ⟨he, hu2⟩
        have hbo : bestOf (fun _ => (0, 0)) [9, 9] (D : Int) = 9 := by
          rw [bestOf_same [9, 9] D (by omega)]
          have : D % [(9 : Int), 9].length = 0 ∨ D % [(9 : Int), 9].length = 1 := by simp only [List.length_cons, List.length_nil]; omega
          rcases this with h | h <;> rw [h] <;> rfl
        rw [hbo] at he
        subst he
        clear hbo
        go_wp2
        go_ret
        exact ⟨rfl, (hbr.alloc hbr.size _).trans (hu2.belowNix (Nat.le_trans hbr.size (by simp)))⟩
end Go.Proofs.Ytphnehfablaakaa
