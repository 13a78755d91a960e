/- ciceroneref08.Can of a set that says that there is nothing; ciceroneref09.ttl. -/
import Derived.Test.YtlhbikdelbollaaNegS
namespace Go.Proofs.Ytlhbikdelbollaa
open Go.RowKit Go.Cx Go.Maps

set_option maxRecDepth 100000 in
theorem ref_short8 (n : Nat) (h : n < 65536) (w : World) : Calls Try.prog 61 #[.int .i64 n] w fun e w' => e = .returned (.bool true) ∧ w = w' := by
  have h0 : (0 : Int) ≤ (n : Int) := by omega
  have h1 : (n : Int) ≤ 65535 := by omega
  go_enter Try.func61, Try.ntmps61
  go_wp2_with fail
  go_ret
  exact ⟨rfl, rfl⟩
set_option maxRecDepth 100000 in
set_option maxHeartbeats 800000 in
theorem ref_ttl9 (t : Int) (w : World) : Calls Try.prog 39 #[.int .i64 t] w fun e w' => e = .returned (.int .i64 (lifeL t)) ∧ w = w' := by
  go_enter Try.func39, Try.ntmps39
  by_cases h0 : t < 0
  · have HV := Lib.hid (show lifeL t = 0 by unfold lifeL; rw [if_pos (.inl h0)])
    go_wp2_with fail
    go_ret
    rw [HV.out]
    exact ⟨rfl, rfl⟩
  · by_cases h1 : 2147483648 ≤ t
    · have HV := Lib.hid (show lifeL t = 0 by unfold lifeL; rw [if_pos (.inr (by omega))])
      go_wp2_with fail
      go_ret
      rw [HV.out]
      exact ⟨rfl, rfl⟩
    · have HV := Lib.hid (show lifeL t = min t 86400 by unfold lifeL; rw [if_neg (by omega)])
      go_wp2_with fail
      all_goals
        go_ret
        exact ⟨ret_int (by rw [HV.out] <;> omega), rfl⟩
set_option maxRecDepth 100000 in
set_option maxHeartbeats 800000 in
theorem ref_time9 (t : Int) (w : World) : Calls Try.prog 40 #[.int .i64 t] w fun e w' => e = .returned (.int .i64 (timeL t)) ∧ w = w' := by
  go_enter Try.func40, Try.ntmps40
  go_wp2_with fail
  all_goals
    go_ret
    exact ⟨ret_int (by unfold timeL; omega), rfl⟩
def cells8 (name zone : ByteArray) (tN cN kN eN : Nat) (gl : Nat) : Array Value := #[.string name, .int .i64 tN, .int .i64 cN, .int .i64 3, .int .i64 kN, .int .i64 eN, .string zone, .slice (some ⟨gl, 0, none⟩) 1 1]
set_option maxRecDepth 100000 in
set_option maxHeartbeats 6400000 in
theorem ref_can8n (name zone : ByteArray) (tN cN kN eN gl base : Nat) (A : Option Addr) (n c : Nat) (d : List Nat) (w : World) (hbl : Blk w gl 33 #[.slice A n c]) (ho : w.ownsRow base 5 1 (.slice A n c) n (byts d)) (hn : n ≤ 140737488355328) (hd : ∀ b ∈ d, b < 256)
    (hcn : canL (bytesOf name) = true) (hcz : canL (bytesOf zone) = true) (ht : tN < 65536) (hc : cN < 65536) (hk : kN = 1 ∨ kN = 2) (he : eN ≤ 1099511627776) (htk : (tN = 0) ↔ (kN = 2)) :
    Calls Try.prog 41 #[.agg #[.string name, .int .i64 tN, .int .i64 cN, .int .i64 3, .int .i64 kN, .int .i64 eN, .string zone, .slice (some ⟨gl, 0, none⟩) 1 1]] w fun e w' => e = .returned (.bool (canSet ⟨bytesOf name, tN, cN, 3, kN, eN, bytesOf zone, [d]⟩)) ∧ Upd Nix w w' := by
  have hname : name.size ≤ 255 := can_size hcn
  have hzone : zone.size ≤ 255 := can_size hcz
  obtain ⟨s8, hs8⟩ : ∃ s8 : SetC, s8 = ⟨bytesOf name, tN, cN, 3, kN, eN, bytesOf zone, [d]⟩ := ⟨_, rfl⟩
  have hkey : keyL (bytesOf name) (tN : Int) (cN : Int) = true := by
    unfold keyL
    rw [hcn, decide_eq_true (show (0 : Int) ≤ tN by omega), decide_eq_true (show (tN : Int) < 65536 by omega), decide_eq_true (show (0 : Int) ≤ cN by omega), decide_eq_true (show (cN : Int) < 65536 by omega)]
    rfl
  have hval : rdataL 6 d = true → canSet s8 = decide (19 + name.size + zone.size + (2 + d.length) ≤ 4000) := fun h6 => by
    have h1 := canSet_neg8 s8 d (by rw [hs8]) (by rw [hs8]; exact hkey) (by rw [hs8]; simp only; omega) (by rw [hs8]; simp only; omega) h6 (by rw [hs8]; exact hcz) (by rw [hs8]; simp only; rw [decide_eq_decide]; omega)
    rw [h1, writeL_len, hs8]
    simp [sumL, bytesOf_len]
  have hno : rdataL 6 d = false → canSet s8 = false := fun h6 => canSet_all s8 (by rw [hs8]; simp only; omega) (by rw [hs8]; simp [h6])
  have hdl : d.length = n := by have := ho.1; simpa [byts] using this
  rw [← hs8]
  have HVAL := Lib.hid hval
  have HNO := Lib.hid hno
  have HDL := Lib.hid hdl
  have HBL := Lib.hid hbl
  have HO := Lib.hid ho
  have HD := Lib.hid hd
  have CN := Lib.hid fun W => ref_can name W (by omega)
  have CZ := Lib.hid fun W => ref_can zone W (by omega)
  rw [hcn] at CN
  rw [hcz] at CZ
  have ST := Lib.hid fun W => ref_short8 tN ht W
  have SC := Lib.hid fun W => ref_short8 cN hc W
  clear hval hno hdl hbl ho hd hs8 hkey hcn hcz
  obtain ⟨g, hg⟩ : ∃ g, w.heap.size = g := ⟨_, rfl⟩
  go_enter Try.func41, Try.ntmps41
  go_upto_region 1 with fail
  have hb0 : Blk (w.alloc (.cells #[.string name, .int .i64 tN, .int .i64 cN, .int .i64 3, .int .i64 kN, .int .i64 eN, .string zone, .slice (some ⟨gl, 0, none⟩) 1 1] 28)) g 28 #[.string name, .int .i64 tN, .int .i64 cN, .int .i64 3, .int .i64 kN, .int .i64 eN, .string zone, .slice (some ⟨gl, 0, none⟩) 1 1] := Blk.new' _ _ _ hg.symm
  have hu0 : Upd Nix w (w.alloc (.cells #[.string name, .int .i64 tN, .int .i64 cN, .int .i64 3, .int .i64 kN, .int .i64 eN, .string zone, .slice (some ⟨gl, 0, none⟩) 1 1] 28)) := (Upd.refl _ _).alloc _
  generalize w.alloc (.cells #[.string name, .int .i64 tN, .int .i64 cN, .int .i64 3, .int .i64 kN, .int .i64 eN, .string zone, .slice (some ⟨gl, 0, none⟩) 1 1] 28) = wa at *
  have hb1 := HBL.out.upd hu0 (by simp [Nix])
  have ho1 := own_upd' HO.out hu0 fun _ _ h => h
  have hsl := sl_own ho1 hn HD.out
  have HB0 := Lib.hid hb0
  have HB1 := Lib.hid hb1
  have HU0 := Lib.hid hu0
  have HO1 := Lib.hid ho1
  have hcs : ∀ i, wa.cell? ⟨g, i, none⟩ = _ := fun i => hb0.cell i
  have hcl : wa.cell? ⟨gl, 0, none⟩ = some (.slice A n c) := hb1.cell 0
  have R6 := Lib.hid (ref_rdata6 A n c d wa hsl)
  have hkb : ((kN : Int) == 0) = false := by rw [beq_eq_false_iff_ne]; omega
  have heb : decide ((1099511627776 : Int) < (eN : Int)) = false := decide_eq_false (by omega)
  have he0 : decide ((eN : Int) < 0) = false := decide_eq_false (by omega)
  have hk256 : kN < 256 := by omega
  clear hb0 hb1 hu0 ho1 hsl hg
  rcases hk with hk | hk
  · have hk1 : ((kN : Int) == 1) = true := by rw [beq_iff_eq]; omega
    have hk2 : ((kN : Int) == 2) = false := by rw [beq_eq_false_iff_ne]; omega
    have ht0 : ((tN : Int) == 0) = false := by rw [beq_eq_false_iff_ne]; omega
    cases h6 : rdataL 6 d with
    | false =>
      rw [h6] at R6
      have HV := Lib.hid (HNO.out h6)
      clear h6 hk
      go_wp2_with (first
    | (go_at_call 46; with_reducible refine (CN.out _).mono ?_; rintro e w1 ⟨rfl, rfl⟩)
    | (go_at_call 46; with_reducible refine (CZ.out _).mono ?_; rintro e w1 ⟨rfl, rfl⟩)
    | (go_at_call 61; with_reducible refine (ST.out _).mono ?_; rintro e w1 ⟨rfl, rfl⟩)
    | (go_at_call 61; with_reducible refine (SC.out _).mono ?_; rintro e w1 ⟨rfl, rfl⟩)
    | (go_at_call 59; with_reducible refine R6.out.mono ?_; rintro e w3 ⟨rfl, hu3⟩; have HB3 := Lib.hid (HB0.out.upd hu3 (by simp [Nix])); have HBL3 := Lib.hid (HB1.out.upd hu3 (by simp [Nix])); have HO3 := Lib.hid (own_upd' HO1.out hu3 fun _ _ h => h); have hcs3 : ∀ i, w3.cell? ⟨g, i, none⟩ = _ := (fun i => HB3.out.cell i); have HU3 := Lib.hid (HU0.out.trans hu3 fun _ _ h => h); clear hu3))
      go_ret
      exact ⟨by rw [HV.out]; rfl, HU3.out⟩
    | true =>
      rw [h6] at R6
      have HV := Lib.hid (HVAL.out h6)
      have hdl : d.length ≤ 65535 := rdataL_len h6
      have HDL2 := Lib.hid hdl
      clear h6 hk hdl
      go_upto_region 18 with (first
    | (go_at_call 46; with_reducible refine (CN.out _).mono ?_; rintro e w1 ⟨rfl, rfl⟩)
    | (go_at_call 46; with_reducible refine (CZ.out _).mono ?_; rintro e w1 ⟨rfl, rfl⟩)
    | (go_at_call 61; with_reducible refine (ST.out _).mono ?_; rintro e w1 ⟨rfl, rfl⟩)
    | (go_at_call 61; with_reducible refine (SC.out _).mono ?_; rintro e w1 ⟨rfl, rfl⟩)
    | (go_at_call 59; with_reducible refine R6.out.mono ?_; rintro e w3 ⟨rfl, hu3⟩; have HB3 := Lib.hid (HB0.out.upd hu3 (by simp [Nix])); have HBL3 := Lib.hid (HB1.out.upd hu3 (by simp [Nix])); have HO3 := Lib.hid (own_upd' HO1.out hu3 fun _ _ h => h); have hcs3 : ∀ i, w3.cell? ⟨g, i, none⟩ = _ := (fun i => HB3.out.cell i); have HU3 := Lib.hid (HU0.out.trans hu3 fun _ _ h => h); clear hu3))
      have hrows : RowsAt w3 w3.heap.size (some ⟨gl, 0, none⟩) 1 1 [⟨A, n, c, d⟩] := by
        refine ⟨rfl, Nat.le_refl _, by omega, Rd.blk1 HBL3.out, fun x hx => ?_⟩
        simp only [List.mem_singleton] at hx
        subst hx
        exact sl_own HO3.out hn HD.out
      have hsize : Calls Try.prog 62 #[.agg #[.string name, .int .i64 tN, .int .i64 cN, .int .i64 3, .int .i64 kN, .int .i64 eN, .string zone, .slice (some ⟨gl, 0, none⟩) 1 1]] w3 _ :=
        ref_size name zone tN cN 3 kN eN (some ⟨gl, 0, none⟩) 1 1 [⟨A, n, c, d⟩] w3 _ hrows (Nat.le_refl _) (by omega) (by omega) ht hc (by omega) (by omega) (by omega) (by omega) (by have := HDL2.out; simp [sumL]; omega)
      have SIZE := Lib.hid hsize
      obtain ⟨N, hN⟩ : ∃ N, 19 + name.size + zone.size + sumL ([(⟨A, n, c, d⟩ : Row)].map Row.l) = N := ⟨_, rfl⟩
      have hN2 : 19 + name.size + zone.size + (2 + d.length) = N := by rw [← hN]; simp [sumL]
      rw [hN2] at HV
      rw [hN] at SIZE
      clear hrows hsize hN hN2
      by_cases hle : N ≤ 4000
      · have hi : (N : Int) ≤ 4000 := by omega
        rw [decide_eq_true hle] at HV
        clear hle
        go_wp2_with fail
        refine SIZE.out.mono ?_
        rintro e w4 ⟨rfl, hu4⟩
        have HU4 := Lib.hid (HU3.out.trans hu4 fun _ _ h => h)
        clear hu4
        go_wp2_with fail
        go_ret
        exact ⟨by rw [HV.out]; rfl, HU4.out⟩
      · have hi : decide ((N : Int) ≤ 4000) = false := decide_eq_false (by omega)
        rw [decide_eq_false hle] at HV
        clear hle
        go_wp2_with fail
        refine SIZE.out.mono ?_
        rintro e w4 ⟨rfl, hu4⟩
        have HU4 := Lib.hid (HU3.out.trans hu4 fun _ _ h => h)
        clear hu4
        go_wp2_with fail
        go_ret
        exact ⟨by rw [HV.out]; rfl, HU4.out⟩
  · have hk1 : ((kN : Int) == 1) = false := by rw [beq_eq_false_iff_ne]; omega
    have hk2 : ((kN : Int) == 2) = true := by rw [beq_iff_eq]; omega
    have ht0 : ((tN : Int) == 0) = true := by rw [beq_iff_eq]; omega
    cases h6 : rdataL 6 d with
    | false =>
      rw [h6] at R6
      have HV := Lib.hid (HNO.out h6)
      clear h6 hk
      go_wp2_with (first
    | (go_at_call 46; with_reducible refine (CN.out _).mono ?_; rintro e w1 ⟨rfl, rfl⟩)
    | (go_at_call 46; with_reducible refine (CZ.out _).mono ?_; rintro e w1 ⟨rfl, rfl⟩)
    | (go_at_call 61; with_reducible refine (ST.out _).mono ?_; rintro e w1 ⟨rfl, rfl⟩)
    | (go_at_call 61; with_reducible refine (SC.out _).mono ?_; rintro e w1 ⟨rfl, rfl⟩)
    | (go_at_call 59; with_reducible refine R6.out.mono ?_; rintro e w3 ⟨rfl, hu3⟩; have HB3 := Lib.hid (HB0.out.upd hu3 (by simp [Nix])); have HBL3 := Lib.hid (HB1.out.upd hu3 (by simp [Nix])); have HO3 := Lib.hid (own_upd' HO1.out hu3 fun _ _ h => h); have hcs3 : ∀ i, w3.cell? ⟨g, i, none⟩ = _ := (fun i => HB3.out.cell i); have HU3 := Lib.hid (HU0.out.trans hu3 fun _ _ h => h); clear hu3))
      go_ret
      exact ⟨by rw [HV.out]; rfl, HU3.out⟩
    | true =>
      rw [h6] at R6
      have HV := Lib.hid (HVAL.out h6)
      have hdl : d.length ≤ 65535 := rdataL_len h6
      have HDL2 := Lib.hid hdl
      clear h6 hk hdl
      go_upto_region 18 with (first
    | (go_at_call 46; with_reducible refine (CN.out _).mono ?_; rintro e w1 ⟨rfl, rfl⟩)
    | (go_at_call 46; with_reducible refine (CZ.out _).mono ?_; rintro e w1 ⟨rfl, rfl⟩)
    | (go_at_call 61; with_reducible refine (ST.out _).mono ?_; rintro e w1 ⟨rfl, rfl⟩)
    | (go_at_call 61; with_reducible refine (SC.out _).mono ?_; rintro e w1 ⟨rfl, rfl⟩)
    | (go_at_call 59; with_reducible refine R6.out.mono ?_; rintro e w3 ⟨rfl, hu3⟩; have HB3 := Lib.hid (HB0.out.upd hu3 (by simp [Nix])); have HBL3 := Lib.hid (HB1.out.upd hu3 (by simp [Nix])); have HO3 := Lib.hid (own_upd' HO1.out hu3 fun _ _ h => h); have hcs3 : ∀ i, w3.cell? ⟨g, i, none⟩ = _ := (fun i => HB3.out.cell i); have HU3 := Lib.hid (HU0.out.trans hu3 fun _ _ h => h); clear hu3))
      have hrows : RowsAt w3 w3.heap.size (some ⟨gl, 0, none⟩) 1 1 [⟨A, n, c, d⟩] := by
        refine ⟨rfl, Nat.le_refl _, by omega, Rd.blk1 HBL3.out, fun x hx => ?_⟩
        simp only [List.mem_singleton] at hx
        subst hx
        exact sl_own HO3.out hn HD.out
      have hsize : Calls Try.prog 62 #[.agg #[.string name, .int .i64 tN, .int .i64 cN, .int .i64 3, .int .i64 kN, .int .i64 eN, .string zone, .slice (some ⟨gl, 0, none⟩) 1 1]] w3 _ :=
        ref_size name zone tN cN 3 kN eN (some ⟨gl, 0, none⟩) 1 1 [⟨A, n, c, d⟩] w3 _ hrows (Nat.le_refl _) (by omega) (by omega) ht hc (by omega) (by omega) (by omega) (by omega) (by have := HDL2.out; simp [sumL]; omega)
      have SIZE := Lib.hid hsize
      obtain ⟨N, hN⟩ : ∃ N, 19 + name.size + zone.size + sumL ([(⟨A, n, c, d⟩ : Row)].map Row.l) = N := ⟨_, rfl⟩
      have hN2 : 19 + name.size + zone.size + (2 + d.length) = N := by rw [← hN]; simp [sumL]
      rw [hN2] at HV
      rw [hN] at SIZE
      clear hrows hsize hN hN2
      by_cases hle : N ≤ 4000
      · have hi : (N : Int) ≤ 4000 := by omega
        rw [decide_eq_true hle] at HV
        clear hle
        go_wp2_with fail
        refine SIZE.out.mono ?_
        rintro e w4 ⟨rfl, hu4⟩
        have HU4 := Lib.hid (HU3.out.trans hu4 fun _ _ h => h)
        clear hu4
        go_wp2_with fail
        go_ret
        exact ⟨by rw [HV.out]; rfl, HU4.out⟩
      · have hi : decide ((N : Int) ≤ 4000) = false := decide_eq_false (by omega)
        rw [decide_eq_false hle] at HV
        clear hle
        go_wp2_with fail
        refine SIZE.out.mono ?_
        rintro e w4 ⟨rfl, hu4⟩
        have HU4 := Lib.hid (HU3.out.trans hu4 fun _ _ h => h)
        clear hu4
        go_wp2_with fail
        go_ret
        exact ⟨by rw [HV.out]; rfl, HU4.out⟩
theorem negr_upd {w w0 w5 : World} {v : Value} {z : Nat} (k : w.heap.size ≤ z) (hu : Upd Nix w w0) (hg : w0.grownBy w5 v.ownBlock) (hv : v.ownBlock = some z) : Upd Nix w w5 :=
  hu.grown hg fun b hb hlt => by rw [hv] at hb; injection hb with hb; omega
theorem negr_gr {w0 w5 : World} {v : Value} {z : Nat} (hg : w0.grownBy w5 v.ownBlock) (hv : v.ownBlock = some z) : Upd (One z) w0 w5 :=
  (Upd.refl (One z) w0).grown hg fun b hb _ => by rw [hv] at hb; injection hb with hb; exact hb.symm
theorem negr_lit1 {w : World} {z : Nat} (h : w.heap.size = z) : ((w.alloc (.cells #[] 5)).drew).ownsRow z 5 1 (.slice (some ⟨z, 0, none⟩) 0 0) 0 [] := by
  have := World.ownsRow_lit (base := z) (e := 5) (size := 1) w #[] 0 (by omega) (by decide) rfl
  rw [h] at this
  exact this
theorem negr_lit2 {w : World} {z : Nat} {o : Obj} (h : w.heap.size = z) : (((w.alloc o).alloc (.cells #[] 5)).drew).ownsRow z 5 1 (.slice (some ⟨z + 1, 0, none⟩) 0 0) 0 [] := by
  have := World.ownsRow_lit (base := z) (e := 5) (size := 1) (w.alloc o) #[] 0 (by simp; omega) (by decide) rfl
  rw [show (w.alloc o).heap.size = z + 1 by simp [h]] at this
  exact this
theorem negr_lit3 {w : World} {z : Nat} {o : Obj} (h : w.heap.size = z) : (((w.alloc (.cells #[] 5)).alloc o).drew).ownsRow z 5 1 (.slice (some ⟨z, 0, none⟩) 0 0) 0 [] := by
  have := World.ownsRow_lit (base := z) (e := 5) (size := 1) w #[] 0 (by omega) (by decide) rfl
  rw [h] at this
  exact this.alloc o
theorem negr_blk1 {w : World} {z : Nat} {o : Obj} (h : w.heap.size = z) : Blk (((w.alloc (.cells #[.string ⟨#[]⟩, .int .i64 0, .int .i64 0, .int .i64 0, .int .i64 0, .int .i64 0, .string ⟨#[]⟩, .slice none 0 0] 28)).alloc o).drew) z 28 #[.string ⟨#[]⟩, .int .i64 0, .int .i64 0, .int .i64 0, .int .i64 0, .int .i64 0, .string ⟨#[]⟩, .slice none 0 0] := ((Blk.new' _ _ _ h.symm).alloc _).drew
theorem negr_blk2 {w : World} {z : Nat} {o : Obj} (h : w.heap.size = z) : Blk (((w.alloc o).alloc (.cells #[.string ⟨#[]⟩, .int .i64 0, .int .i64 0, .int .i64 0, .int .i64 0, .int .i64 0, .string ⟨#[]⟩, .slice none 0 0] 28)).drew) (z + 1) 28 #[.string ⟨#[]⟩, .int .i64 0, .int .i64 0, .int .i64 0, .int .i64 0, .int .i64 0, .string ⟨#[]⟩, .slice none 0 0] := (Blk.new' _ _ _ (by simp [h])).drew
theorem negr_own {w : World} {b n c : Nat} {A : Option Addr} {l : List Nat} (h : w.ownsRow b 5 1 (.slice A (0 + n) c) (0 + n) ([] ++ byts l)) : w.ownsRow b 5 1 (.slice A n c) n (byts l) := by
  rw [List.nil_append] at h
  simp only [Nat.zero_add] at h
  exact h
theorem negr_ne {w w' : World} {g z : Nat} {v : Value} {cs : Array Value} (h : Blk w g 33 #[v]) (hz : Blk w z 28 cs) (_hk : Upd (Go.Cx.One z) w w') : ¬ Go.Cx.One z g := fun e => by
  have e : g = z := e
  subst e
  exact Blk.ne h hz (by decide) rfl
end Go.Proofs.Ytlhbikdelbollaa
