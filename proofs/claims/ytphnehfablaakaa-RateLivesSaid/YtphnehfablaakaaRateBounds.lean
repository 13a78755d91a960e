/- The law RateBounds, as a walk. -/
import Derived.Test.YtphnehfablaakaaBest
import Derived.Deep.DeepCutAuto
namespace Go.Proofs.Ytphnehfablaakaa
open Go.RowKit Go.Maps Go.Cx

theorem ord_gt (a b : Nat) (ha : a ≤ 8192) (hb : b ≤ 8192) : (FloatKind.f64.format.order (fb a) (fb b) == some .gt) = decide (b < a) := by
  rw [order_fb (by omega) (by omega)]
  rcases Nat.lt_trichotomy a b with h | h | h
  · rw [Nat.compare_eq_lt.2 h]
    have : ¬ b < a := by omega
    simp [this]
  · rw [Nat.compare_eq_eq.2 h]; simp [h]
  · rw [Nat.compare_eq_gt.2 h]; simp [h]

theorem failed_mono (tb mb : Nat) (T : Int → Nat × Nat) (a : Int) (w : World) (hT : Tab w tb mb T) (ha : (Lit.int .i64 a).wf = true) :
    Calls Try.prog 12 #[.pointer (some ⟨tb, 0, none⟩), .int .i64 a] w fun e w' => e = .returned (.int .i64 0) ∧ (∃ T', Tab w' tb mb T' ∧ (T a).2 ≤ (T' a).2) ∧ Upd (One mb) w w' :=
  (rate_failed tb mb T a w hT ha).mono fun _ _ ⟨h1, h2, h3⟩ => ⟨h1, ⟨_, h2, by have := hT.2.2 a; simp [failT]; omega⟩, h3⟩
theorem answered_mono (tb mb : Nat) (T : Int → Nat × Nat) (a : Int) (n : Nat) (w : World) (hT : Tab w tb mb T) (ha : (Lit.int .i64 a).wf = true) (hn : n ≤ 1000) :
    Calls Try.prog 13 #[.pointer (some ⟨tb, 0, none⟩), .int .i64 a, .int .i64 n] w fun e w' => e = .returned (.int .i64 0) ∧ (∃ T', Tab w' tb mb T' ∧ (T' a).2 ≤ (T a).2) ∧ Upd (One mb) w w' :=
  (rate_answered tb mb T a n w hT ha hn).mono fun _ _ ⟨h1, h2, h3⟩ => ⟨h1, ⟨_, h2, by simp [ansT]; omega⟩, h3⟩

set_option maxRecDepth 100000 in
set_option maxHeartbeats 1600000 in
theorem bounds (addr : Int) (A : Option Addr) (len cap : Nat) (xs : List Int) (w : World) (ha : (Lit.int .i64 addr).wf = true) (hx : Rd w w.heap.size 1 A len (ints xs)) (_hlc : len ≤ cap) (_hw : ∀ x ∈ xs, (Lit.int .i64 x).wf = true)
    (_hc : cap * Try.prog.bytesOf 3 ≤ reachBytes) :
    Calls Try.prog 4 #[.int .i64 addr, .slice A len cap] w fun e w' => e = .returned (.bool true) ∧ Below w.heap.size w w' := by
  have hlen : len ≤ 9223372036854775807 := by
    have h8 : Try.prog.bytesOf 3 = 8 := by kernel_rfl
    rw [h8] at _hc
    unfold reachBytes at _hc
    omega
  clear _hw _hc
  go_enter Try.func4, Try.ntmps4
  go_wp2_with (first
    | (go_at_call 9; refine (rate_new _).mono ?_; rintro e w1 ⟨rfl, hT1, hu1, _⟩))
  go_loopw [13] (fun i wr => ∃ (k : Nat) (T : Int → Nat × Nat), k ≤ len ∧ i = .int .i64 k ∧ Tab wr (w.heap.size + 1) w.heap.size T ∧ Below w.heap.size w wr) (fun i _ => len - (intOf i).toNat)
  case atStart => exact ⟨0, _, Nat.zero_le _, rfl, hT1, hu1.belowNix (Nat.le_refl _)⟩
  case round =>
    obtain ⟨k, T, hk, rfl, hT, hbel⟩ := hrel
    clear hT1 hu1
    by_cases hkn : k < len
    · obtain ⟨ad, x, rfl, hadB, hxk, hcell⟩ := hx.at hkn
      obtain ⟨xv, hxv, rfl⟩ : ∃ xv, xs[k]? = some xv ∧ x = .int .i64 xv := by
        rw [ints, List.getElem?_map] at hxk
        cases h : xs[k]? with
        | none => rw [h] at hxk; simp at hxk
        | some y => rw [h] at hxk; simp at hxk; exact ⟨y, rfl, hxk.symm⟩
      have hcr : wr.cell? (ad.add k) = some (.int .i64 xv) := (hbel.cell (by rw [block_add]; exact hadB)).trans hcell
      have hTb := hT.2.2 addr
      have HX := Lib.hid hx
      clear hx hxk hcell hxv
      have fin : ∀ (T2 : Int → Nat × Nat) (w2 : World), Tab w2 (w.heap.size + 1) w.heap.size T2 → Below w.heap.size w w2 →
        (∃ k' : Nat, ∃ T', k' ≤ len ∧ Value.int .i64 ((k : Int) + 1) = .int .i64 k' ∧ Tab w2 (w.heap.size + 1) w.heap.size T' ∧ Below w.heap.size w w2) := fun T2 w2 h1 h2 => ⟨k + 1, T2, by omega, by go_num, h1, h2⟩
      have Fin := Lib.hid fin
      clear fin
      by_cases hm : xv.tmod 3 = 0
      · have hm' : (xv.tmod 3 == 0) = true := by simpa using hm
        have Hm := Lib.hid hm
        clear hm
        go_wp2_with fail
        refine (rate_of _ _ T addr _ hT ha).mono ?_
        rintro e w2 ⟨rfl, rfl⟩
        go_wp2_with fail
        refine (failed_mono _ _ T addr _ hT ha).mono ?_
        rintro e w2 ⟨rfl, ⟨T2, hT2, hle2⟩, hu2⟩
        have hT2b := hT2.2.2 addr
        have q1 : (FloatKind.f64.format.order (fb (T2 addr).2) (fb (T addr).2) == some .lt) = false := by rw [ord_lt _ _ (by omega) (by omega)]; simp; omega
        go_wp2_with fail
        refine (rate_of _ _ T2 addr _ hT2 ha).mono ?_
        rintro e w3 ⟨rfl, rfl⟩
        go_wp2_with fail
        refine (rate_of _ _ T2 addr _ hT2 ha).mono ?_
        rintro e w4 ⟨rfl, rfl⟩
        have z1 : (FloatKind.f64.format.order (fb (T2 addr).1) 0 == some .lt) = false := by rw [← fb_0, ord_lt _ _ (by omega) (by omega)]; simp
        have z2 : (FloatKind.f64.format.order (fb (T2 addr).1) 4665518107723300864 == some .gt) = false := by rw [← fb_8000, ord_gt _ _ (by omega) (by omega)]; simp; omega
        have z3 : (FloatKind.f64.format.order (fb (T2 addr).2) 0 == some .lt) = false := by rw [← fb_0, ord_lt _ _ (by omega) (by omega)]; simp
        have z4 : (FloatKind.f64.format.order (fb (T2 addr).2) 4652007308841189376 == some .gt) = false := by rw [← fb_1000, ord_gt _ _ (by omega) (by omega)]; simp; omega
        have z5 : FloatKind.f64.format.order (fb (T2 addr).1) (floatOfInt .f64 ((T2 addr).1 : Int)) = some .eq := by show FloatKind.f64.format.order (fb (T2 addr).1) (fb (T2 addr).1) = _; rw [order_fb (by omega) (by omega), Nat.compare_eq_eq.2 rfl]
        have z6 : FloatKind.f64.format.order (fb (T2 addr).2) (floatOfInt .f64 ((T2 addr).2 : Int)) = some .eq := by show FloatKind.f64.format.order (fb (T2 addr).2) (fb (T2 addr).2) = _; rw [order_fb (by omega) (by omega), Nat.compare_eq_eq.2 rfl]
        have hr := Lib.hid (int_fb (n := (T2 addr).1) (by omega))
        have hi := Lib.hid (int_fb (n := (T2 addr).2) (by omega))
        have c1 := fun w => run_convert_float_int (P := Try.prog) w 33 3 .f64 .i64 (fb (T2 addr).1) ((T2 addr).1 : Int) (by rw [Try.underlying33]; rfl) Try.underlying3 hr.out
        have c2 := fun w => run_convert_float_int (P := Try.prog) w 33 3 .f64 .i64 (fb (T2 addr).2) ((T2 addr).2 : Int) (by rw [Try.underlying33]; rfl) Try.underlying3 hi.out
        clear hr hi
        have hbel2 : Below w.heap.size w _ := hu2.on hbel hbel.size (fun b _ hb => by unfold Cx.One at hb; omega)
        have hF := Lib.hid (Fin.out T2 _ hT2 hbel2)
        go_wp2
        go_roundw
        case rel => exact hF.out
        case measure => simp [intOf]; omega
      · have hm' : (xv.tmod 3 == 0) = false := by simpa using hm
        have Hm := Lib.hid hm
        clear hm
        obtain ⟨nt, hnt, hnt2⟩ : ∃ nt : Nat, wrap64 ((IntKind.u64.wrap xv).tmod 1001) = (nt : Int) ∧ nt ≤ 1000 := by
          rw [IntKind.wrap_u64]
          refine ⟨(xv % 18446744073709551616 % 1001).toNat, ?_, by omega⟩
          rw [Int.tmod_eq_emod_of_nonneg (by omega)]
          unfold wrap64
          omega
        have Hnt := Lib.hid hnt
        clear hnt
        go_wp2_with fail
        refine (rate_of _ _ T addr _ hT ha).mono ?_
        rintro e w2 ⟨rfl, rfl⟩
        go_wp2_with fail
        rw [Hnt.out]
        refine (answered_mono _ _ T addr nt _ hT ha hnt2).mono ?_
        rintro e w2 ⟨rfl, ⟨T2, hT2, hle2⟩, hu2⟩
        have hT2b := hT2.2.2 addr
        have q1 : (FloatKind.f64.format.order (fb (T2 addr).2) (fb (T addr).2) == some .gt) = false := by rw [ord_gt _ _ (by omega) (by omega)]; simp; omega
        go_wp2_with fail
        refine (rate_of _ _ T2 addr _ hT2 ha).mono ?_
        rintro e w3 ⟨rfl, rfl⟩
        go_wp2_with fail
        refine (rate_of _ _ T2 addr _ hT2 ha).mono ?_
        rintro e w4 ⟨rfl, rfl⟩
        have z1 : (FloatKind.f64.format.order (fb (T2 addr).1) 0 == some .lt) = false := by rw [← fb_0, ord_lt _ _ (by omega) (by omega)]; simp
        have z2 : (FloatKind.f64.format.order (fb (T2 addr).1) 4665518107723300864 == some .gt) = false := by rw [← fb_8000, ord_gt _ _ (by omega) (by omega)]; simp; omega
        have z3 : (FloatKind.f64.format.order (fb (T2 addr).2) 0 == some .lt) = false := by rw [← fb_0, ord_lt _ _ (by omega) (by omega)]; simp
        have z4 : (FloatKind.f64.format.order (fb (T2 addr).2) 4652007308841189376 == some .gt) = false := by rw [← fb_1000, ord_gt _ _ (by omega) (by omega)]; simp; omega
        have z5 : FloatKind.f64.format.order (fb (T2 addr).1) (floatOfInt .f64 ((T2 addr).1 : Int)) = some .eq := by show FloatKind.f64.format.order (fb (T2 addr).1) (fb (T2 addr).1) = _; rw [order_fb (by omega) (by omega), Nat.compare_eq_eq.2 rfl]
        have z6 : FloatKind.f64.format.order (fb (T2 addr).2) (floatOfInt .f64 ((T2 addr).2 : Int)) = some .eq := by show FloatKind.f64.format.order (fb (T2 addr).2) (fb (T2 addr).2) = _; rw [order_fb (by omega) (by omega), Nat.compare_eq_eq.2 rfl]
        have hr := Lib.hid (int_fb (n := (T2 addr).1) (by omega))
        have hi := Lib.hid (int_fb (n := (T2 addr).2) (by omega))
        have c1 := fun w => run_convert_float_int (P := Try.prog) w 33 3 .f64 .i64 (fb (T2 addr).1) ((T2 addr).1 : Int) (by rw [Try.underlying33]; rfl) Try.underlying3 hr.out
        have c2 := fun w => run_convert_float_int (P := Try.prog) w 33 3 .f64 .i64 (fb (T2 addr).2) ((T2 addr).2 : Int) (by rw [Try.underlying33]; rfl) Try.underlying3 hi.out
        clear hr hi
        have hbel2 : Below w.heap.size w _ := hu2.on hbel hbel.size (fun b _ hb => by unfold Cx.One at hb; omega)
        have hF := Lib.hid (Fin.out T2 _ hT2 hbel2)
        go_wp2
        go_roundw
        case rel => exact hF.out
        case measure => simp [intOf]; omega
    · go_wp2_with fail
      refine (rate_answered_bad _ _ T addr 1001 _ hT (.inr (by omega))).mono ?_
      rintro e w2 ⟨rfl, rfl⟩
      go_wp2_with fail
      refine (rate_answered_bad _ _ T addr (-1) _ hT (.inl (by omega))).mono ?_
      rintro e w2 ⟨rfl, rfl⟩
      go_wp2
      go_ret
      exact ⟨rfl, hbel⟩
end Go.Proofs.Ytphnehfablaakaa
