/- The law RateBest, as a walk. -/
import Derived.Test.YtphnehfablaakaaRateBounds
import Derived.Test.YtphnehfablaakaaOpen
import Derived.Deep.CutBlock
namespace Go.Proofs.Ytphnehfablaakaa
open Go.RowKit Go.Maps Go.Cx

theorem bet_irrefl (x : Nat × Nat) : bet x x = false := by simp [bet]
theorem bet_trans {x y z : Nat × Nat} (h1 : bet x y = false) (h2 : bet y z = false) : bet x z = false := by
  simp only [bet, Bool.or_eq_false_iff, Bool.and_eq_false_iff, decide_eq_false_iff_not] at *
  omega
theorem bet_asymm {x y : Nat × Nat} (h1 : bet x y = true) : bet y x = false := by
  simp only [bet, Bool.or_eq_true, Bool.and_eq_true, decide_eq_true_eq] at h1
  simp only [bet, Bool.or_eq_false_iff, Bool.and_eq_false_iff, decide_eq_false_iff_not]
  omega
theorem bet_lt {x y z : Nat × Nat} (h1 : bet y x = true) (h2 : bet z x = false) : bet z y = false := by
  simp only [bet, Bool.or_eq_true, Bool.and_eq_true, decide_eq_true_eq] at h1
  simp only [bet, Bool.or_eq_false_iff, Bool.and_eq_false_iff, decide_eq_false_iff_not] at *
  omega

/-- of what has come so far: all of B are alike, none did better -/
def Good (T : Int → Nat × Nat) (xs B : List Int) : Prop := B ≠ [] ∧ (∀ b ∈ B, b ∈ xs) ∧ (∀ b ∈ B, ∀ x ∈ xs, bet (T x) (T b) = false) ∧ ∀ b ∈ B, T b = T (B.headD 0)

theorem bestStep_cons (T : Int → Nat × Nat) (b : Int) (r : List Int) (a : Int) : bestStep T (b :: r) a = if bet (T a) (T b) then [a] else if T a = T b then (b :: r) ++ [a] else b :: r := rfl

theorem good_step {T : Int → Nat × Nat} {xs B : List Int} {a : Int} (h : Good T xs B) : Good T (xs ++ [a]) (bestStep T B a) := by
  obtain ⟨h0, h1, h2, h3⟩ := h
  obtain ⟨b, r, rfl⟩ : ∃ b r, B = b :: r := by cases B with | nil => exact absurd rfl h0 | cons b r => exact ⟨b, r, rfl⟩
  simp only [List.headD_cons] at *
  rw [bestStep_cons]
  by_cases hb : bet (T a) (T b) = true
  · rw [if_pos hb]
    refine ⟨by simp, by simp, fun c hc x hx => ?_, by simp⟩
    simp only [List.mem_singleton] at hc
    subst hc
    rcases List.mem_append.1 hx with hx | hx
    · exact bet_lt hb (h2 b (by simp) x hx)
    · simp only [List.mem_singleton] at hx
      subst hx
      exact bet_irrefl _
  · have hb : bet (T a) (T b) = false := by simpa using hb
    rw [if_neg (by rw [hb]; decide)]
    by_cases he : T a = T b
    · rw [if_pos he]
      refine ⟨by simp, fun c hc => ?_, fun c hc x hx => ?_, fun c hc => ?_⟩
      · rcases List.mem_append.1 hc with hc | hc
        · exact List.mem_append.2 (.inl (h1 c hc))
        · exact List.mem_append.2 (.inr hc)
      · have hTc : T c = T b := by
          rcases List.mem_append.1 hc with hc | hc
          · exact h3 c hc
          · simp only [List.mem_singleton] at hc
            subst hc
            exact he
        rw [hTc]
        rcases List.mem_append.1 hx with hx | hx
        · exact h2 b (by simp) x hx
        · simp only [List.mem_singleton] at hx
          subst hx
          exact hb
      · rw [List.cons_append, List.headD_cons]
        rcases List.mem_append.1 hc with hc | hc
        · exact h3 c hc
        · simp only [List.mem_singleton] at hc
          subst hc
          exact he
    · rw [if_neg he]
      refine ⟨by simp, fun c hc => List.mem_append.2 (.inl (h1 c hc)), fun c hc x hx => ?_, by simpa using h3⟩
      rcases List.mem_append.1 hx with hx | hx
      · exact h2 c hc x hx
      · simp only [List.mem_singleton] at hx
        subst hx
        rw [h3 c hc]
        exact hb

theorem good_fold {T : Int → Nat × Nat} : ∀ (l xs B : List Int), Good T xs B → Good T (xs ++ l) (l.foldl (bestStep T) B)
  | [], xs, B, h => by simpa using h
  | a :: l, xs, B, h => by
    have := good_fold l (xs ++ [a]) (bestStep T B a) (good_step h)
    simpa using this

theorem good_best (T : Int → Nat × Nat) (xs : List Int) (h : xs ≠ []) : Good T xs (bestL T xs) := by
  cases xs with
  | nil => exact absurd rfl h
  | cons x xs =>
    have := good_fold (T := T) xs [x] [x] ⟨by simp, by simp, by simp [bet_irrefl], by simp⟩
    simpa [bestL_cons] using this

theorem bestOf_good (T : Int → Nat × Nat) (xs : List Int) (d : Int) (h : xs ≠ []) : bestOf T xs d ∈ xs ∧ ∀ x ∈ xs, bet (T x) (T (bestOf T xs d)) = false := by
  obtain ⟨h0, h1, h2, _⟩ := good_best T xs h
  have hl : drawI d % (bestL T xs).length < (bestL T xs).length := Nat.mod_lt _ (List.length_pos_iff.2 h0)
  have hm : bestOf T xs d ∈ bestL T xs := by
    unfold bestOf
    rw [List.getD_eq_getElem?_getD, List.getElem?_eq_getElem hl]
    exact List.getElem_mem hl
  exact ⟨h1 _ hm, h2 _ hm⟩

/-- Answered, whatever it is told. -/
theorem answered_any (tb mb : Nat) (T : Int → Nat × Nat) (a n : Int) (w : World) (hT : Tab w tb mb T) (ha : (Lit.int .i64 a).wf = true) (hn : 0 ≤ n) :
    Calls Try.prog 13 #[.pointer (some ⟨tb, 0, none⟩), .int .i64 a, .int .i64 n] w fun e w' =>
      e = .returned (.int .i64 (if n ≤ 1000 then 0 else 1)) ∧ Tab w' tb mb (if n ≤ 1000 then ansT T a n.toNat else T) ∧ Upd (One mb) w w' := by
  by_cases h : n ≤ 1000
  · rw [if_pos h, if_pos h]
    obtain ⟨m, rfl⟩ : ∃ m : Nat, n = (m : Int) := ⟨n.toNat, by omega⟩
    exact rate_answered tb mb T a m w hT ha (by omega)
  · rw [if_neg h, if_neg h]
    refine (rate_answered_bad tb mb T a n w hT (.inr (by omega))).mono ?_
    rintro e w' ⟨rfl, rfl⟩
    exact ⟨rfl, hT, Upd.refl _ _⟩

/-- Best, whatever slice it is given. -/
theorem best_any (tb mb : Nat) (T : Int → Nat × Nat) (draw : Int) (A : Option Addr) (n c : Nat) (xs : List Int) (w : World) (hT : Tab w tb mb T)
    (hx : Rd w w.heap.size 1 A n (ints xs)) (hnc : n ≤ c) (hw : ∀ x ∈ xs, (Lit.int .i64 x).wf = true) (hreach : n * 8 ≤ 140737488351232) :
    Calls Try.prog 10 #[.pointer (some ⟨tb, 0, none⟩), .slice A n c, .int .i64 draw] w fun e w' => e = .returned (.tuple #[.int .i64 (bestOf T xs draw), .bool (!xs.isEmpty)]) ∧ Upd Nix w w' := by
  have hl := hx.1
  simp only [ints, List.length_map, Nat.mul_one] at hl
  by_cases hn : 0 < n
  · obtain ⟨ad, rfl, _⟩ := hx.2 hn
    have e : (!xs.isEmpty) = true := by cases xs with | nil => simp at hl; omega | cons => rfl
    rw [e]
    exact best_some tb mb T draw ad n c xs w hT hx hn hnc hw hreach
  · obtain rfl : n = 0 := by omega
    obtain rfl : xs = [] := List.eq_nil_of_length_eq_zero hl
    refine (best_none tb mb T draw A c w hT).mono ?_
    rintro e w' ⟨rfl, rfl⟩
    exact ⟨rfl, Upd.refl _ _⟩

/-- where x stands first -/
def indexIn (xs : List Int) (x : Int) : Int := match xs.findIdx? (· == x) with | some i => (i : Int) | none => -1

theorem indexIn_mem (xs : List Int) (x : Int) (h : x ∈ xs) : 0 ≤ indexIn xs x := by
  unfold indexIn
  split
  · omega
  · rename_i hn
    rw [List.findIdx?_eq_none_iff] at hn
    have := hn x h
    simp at this

theorem slices_index (A : Option Addr) (n c : Nat) (xs : List Int) (x : Int) (w : World) (B : Nat) (hx : Rd w B 1 A n (ints xs)) (hlen : n ≤ 9223372036854775807) :
    Calls Try.prog 29 #[.slice A n c, .int .i64 x] w fun e w' => e = .returned (.int .i64 (indexIn xs x)) ∧ w = w' := by
  have hl := hx.1
  simp only [ints, List.length_map, Nat.mul_one] at hl
  have HL := Lib.hid hl
  clear hl
  go_enter Try.func29, Try.ntmps29
  go_wp2
  go_loop [8] (fun i => ∃ k : Nat, k ≤ n ∧ i = .int .i64 k ∧ (xs.take k).findIdx? (· == x) = none) (fun i => n - (intOf i).toNat)
  case atStart => exact ⟨0, Nat.zero_le _, rfl, rfl⟩
  case round =>
    obtain ⟨k, hk, rfl, hnf⟩ := hrel
    have HN := Lib.hid hnf
    clear hnf
    by_cases hkn : k < n
    · obtain ⟨ad, u, rfl, _, hxk, hcell⟩ := hx.at hkn
      have hkl : k < xs.length := by rw [HL.out]; exact hkn
      rw [ints, List.getElem?_map, List.getElem?_eq_getElem hkl] at hxk
      simp only [Option.map_some, Option.some.injEq] at hxk
      subst hxk
      obtain ⟨y, hy⟩ : ∃ y, y = xs[k] := ⟨_, rfl⟩
      rw [← hy] at hcell
      have HY := Lib.hid hy
      have HX := Lib.hid hx
      clear hy hx
      by_cases he : x = y
      · subst he
        go_wp2
        go_ret
        refine ⟨?_, rfl⟩
        have : xs.findIdx? (· == x) = some k := by
          rw [List.findIdx?_eq_some_iff_getElem]
          refine ⟨hkl, by rw [← HY.out]; simp, fun j hj => ?_⟩
          have := List.findIdx?_eq_none_iff.1 HN.out xs[j] (List.mem_take_iff_getElem.2 ⟨j, by omega, rfl⟩)
          simpa using this
        simp [indexIn, this]
      · have he' : (x == y) = false := by simpa using he
        have HE := Lib.hid he
        clear he
        go_wp2
        go_round
        case rel =>
          refine ⟨k + 1, by omega, by go_num, ?_⟩
          rw [List.take_succ_eq_append_getElem hkl, List.findIdx?_append, HN.out, ← HY.out]
          have : (y == x) = false := by simpa using fun e => HE.out e.symm
          simp [List.findIdx?_cons, this]
        case measure => simp [intOf]; omega
    · go_wp2
      go_ret
      refine ⟨?_, rfl⟩
      have e1 : xs.take k = xs := List.take_of_length_le (by rw [HL.out]; omega)
      have := HN.out
      rw [e1] at this
      simp [indexIn, this]

theorem slices_contains (A : Option Addr) (n c : Nat) (xs : List Int) (x : Int) (w : World) (B : Nat) (hx : Rd w B 1 A n (ints xs)) (hlen : n ≤ 9223372036854775807) (hm : x ∈ xs) :
    Calls Try.prog 18 #[.slice A n c, .int .i64 x] w fun e w' => e = .returned (.bool true) ∧ w = w' := by
  have hi := indexIn_mem xs x hm
  go_enter Try.func18, Try.ntmps18
  go_wp2_with (go_at_call 29; refine (slices_index A n c xs x _ B hx hlen).mono ?_; rintro e w' ⟨rfl, rfl⟩)
  go_ret
  exact ⟨rfl, rfl⟩

/-- a list of calls, as cells -/
def dos (l : List (Int × Int)) : List Value := (l.map fun p => [Value.int .i64 p.1, Value.int .i64 p.2]).flatten
theorem dos_get (l : List (Int × Int)) (k : Nat) (p : Int × Int) (h : l[k]? = some p) : (dos l)[k * 2]? = some (.int .i64 p.1) ∧ (dos l)[k * 2 + 1]? = some (.int .i64 p.2) := by
  induction l generalizing k with
  | nil => simp at h
  | cons q l ih =>
    cases k with
    | zero =>
      simp only [List.getElem?_cons_zero, Option.some.injEq] at h
      subst h
      exact ⟨rfl, rfl⟩
    | succ k =>
      simp only [List.getElem?_cons_succ] at h
      have := ih k h
      have e1 : (k + 1) * 2 = k * 2 + 2 := by omega
      rw [e1]
      exact this

theorem in_dos {H : Type} {enc : TypeId × Value → H} {W : World} {r : Reach} {b0 : Nat} {v : Value} {d : DataW H} {p : List MemPlace}
    (hv : Value.okWide Try.prog W r b0 36 v) (h : DataW.Trod enc Try.prog W 0 (fun _ => true) true 36 v d p) (hw : Small Try.prog 36 d) :
    ∃ (A : Option Addr) (n c : Nat) (l : List (Int × Int)), v = .slice A n c ∧ n ≤ 17592186043904 ∧ l.length = n ∧ Rd W W.heap.size 2 A n (dos l) ∧ ∀ p ∈ l, (Lit.int .i64 p.1).wf = true ∧ (Lit.int .i64 p.2).wf = true := by
  obtain ⟨A, n, c, rfl⟩ := WideShapes.okWide_slice Try.underlying36 hv
  have hcs := cells_in h hw
  have hC : Try.prog.cellsOf 42 = 2 := by kernel_rfl
  have hB : Try.prog.bytesOf 42 = 16 := by kernel_rfl
  have hI : Try.prog.cellsOf 3 = 1 := by kernel_rfl
  obtain ⟨A', n', c', els, he, hnc, hcb, hl, hr, hel⟩ := cells_slice Try.underlying36 (by rw [hC]; omega) hcs
  simp only [Value.cells, List.cons.injEq, and_true] at he
  injection he with e1 e2 e3
  subst e1 e2 e3
  rw [hC] at hr
  rw [hB] at hcb
  unfold reachBytes at hcb
  obtain ⟨l, rfl, hq⟩ := list_of (fun p : Int × Int => (Lit.int .i64 p.1).wf = true ∧ (Lit.int .i64 p.2).wf = true) (fun p => [Value.int .i64 p.1, Value.int .i64 p.2]) els (fun el hm => by
    obtain ⟨hc, _⟩ := hel el hm
    obtain ⟨h2, hf⟩ := cells_struct Try.underlying42 hc
    rw [hC] at h2
    match el, h2 with
    | [u, v], _ =>
      have f0 : Cells enc Try.prog W 3 (([u, v].drop 0).take (Try.prog.cellsOf 3)) := hf 0 _ rfl
      have f1 : Cells enc Try.prog W 3 (([u, v].drop 1).take (Try.prog.cellsOf 3)) := hf 1 _ rfl
      rw [hI] at f0 f1
      simp only [List.drop_zero, List.take_succ_cons, List.take_zero, List.drop_succ_cons] at f0 f1
      obtain ⟨x, hx, wx⟩ := cells_int Try.underlying3 f0
      obtain ⟨y, hy, wy⟩ := cells_int Try.underlying3 f1
      simp only [List.cons.injEq, and_true] at hx hy
      subst hx hy
      exact ⟨(x, y), rfl, wx, wy⟩)
  exact ⟨A, n, c, l, rfl, by omega, by simpa using hl, hr, hq⟩

set_option maxRecDepth 100000 in
set_option maxHeartbeats 1600000 in
theorem rateBest (D : Option Addr) (nd cd : Nat) (l : List (Int × Int)) (A : Option Addr) (n c : Nat) (xs : List Int) (draw : Int) (w : World) (hd : nd ≤ 17592186043904) (hl : l.length = nd) (hr : Rd w w.heap.size 2 D nd (dos l))
    (hw : ∀ p ∈ l, (Lit.int .i64 p.1).wf = true ∧ (Lit.int .i64 p.2).wf = true) (hx : Rd w w.heap.size 1 A n (ints xs)) (hnc : n ≤ c) (hwx : ∀ x ∈ xs, (Lit.int .i64 x).wf = true) (hcb : c * Try.prog.bytesOf 3 ≤ reachBytes) (_hdr : (Lit.int .i64 draw).wf = true) :
    Calls Try.prog 7 #[.slice D nd cd, .slice A n c, .int .i64 draw] w fun e w' => e = .returned (.bool true) ∧ Below w.heap.size w w' := by
  have hreach : n * 8 ≤ 140737488351232 := by
    have h8 : Try.prog.bytesOf 3 = 8 := by kernel_rfl
    rw [h8] at hcb
    unfold reachBytes at hcb
    omega
  clear hcb
  have HL := Lib.hid hl
  have HX := Lib.hid hx
  have HW := Lib.hid hw
  have HWX := Lib.hid hwx
  clear hl hx hw hwx
  go_enter Try.func7, Try.ntmps7
  go_upto_block 0 with (go_at_call 9; refine (rate_new _).mono ?_; rintro e w1 ⟨rfl, hT1, hu1, _⟩)
  go_cut [] (fun wx => ∃ T : Int → Nat × Nat, Tab wx (w.heap.size + 1) w.heap.size T ∧ Below w.heap.size w wx)
  case first =>
    go_wp2_with fail
    go_loopw [21] (fun i wr => ∃ (k : Nat) (T : Int → Nat × Nat), k ≤ nd ∧ i = .int .i64 k ∧ Tab wr (w.heap.size + 1) w.heap.size T ∧ Below w.heap.size w wr) (fun i _ => nd - (intOf i).toNat)
    case atStart => exact ⟨0, _, Nat.zero_le _, rfl, hT1, hu1.belowNix (Nat.le_refl _)⟩
    case round =>
      obtain ⟨k, T, hk, rfl, hT, hbel⟩ := hrel
      clear hT1 hu1
      by_cases hkn : k < nd
      · have hkl : k < l.length := by rw [HL.out]; exact hkn
        obtain ⟨p, hp⟩ : ∃ p, l[k]? = some p := ⟨_, List.getElem?_eq_getElem hkl⟩
        have hwp := HW.out p (List.mem_of_getElem? hp)
        obtain ⟨g1, g2⟩ := dos_get l k p hp
        obtain ⟨ad, rfl, hadB, hcell⟩ := hr.2 (by omega)
        have c1 := (hbel.cell (p := ad.add (k * 2)) (by rw [block_add]; exact hadB)).trans (hcell _ _ g1)
        have c2 : wr.cell? ⟨(ad.add (k * 2)).block, (ad.add (k * 2)).off + 1, none⟩ = some (.int .i64 p.2) := by
          rw [add_next]
          exact (hbel.cell (p := ad.add (k * 2 + 1)) (by rw [block_add]; exact hadB)).trans (hcell _ _ g2)
        have hTa : ∀ o, Tab (wr.alloc o) (w.heap.size + 1) w.heap.size T := fun o => hT.below ((Below.refl _ _).alloc (Nat.le_refl _) _)
        have hba : ∀ o, Below w.heap.size w (wr.alloc o) := fun o => hbel.alloc hbel.size _
        have HTa := Lib.hid hTa
        have Hba := Lib.hid hba
        clear hcell g1 g2 hp hTa hba
        go_wp2_with fail
        · go_meet
          exact ⟨T, HTa.out _, Hba.out _⟩
        · refine (rate_failed _ _ T p.1 _ (HTa.out _) hwp.1).mono ?_
          rintro e w2 ⟨rfl, hT2, hu2⟩
          go_wp2
          go_roundw
          case rel => exact ⟨k + 1, _, by omega, by go_num, hT2, hu2.on (Hba.out _) (Hba.out _).size (fun b _ hb => by unfold Cx.One at hb; omega)⟩
          case measure => simp [intOf]; omega
        · refine (answered_any _ _ T p.1 p.2 _ (HTa.out _) hwp.1 (by omega)).mono ?_
          rintro e w2 ⟨rfl, hT2, hu2⟩
          go_wp2
          go_roundw
          case rel => exact ⟨k + 1, _, by omega, by go_num, hT2, hu2.on (Hba.out _) (Hba.out _).size (fun b _ hb => by unfold Cx.One at hb; omega)⟩
          case measure => simp [intOf]; omega
      · go_wp2
        go_meet
        exact ⟨T, hT, hbel⟩
  case rest =>
    obtain ⟨T, hT, hbel⟩ := hcut
    have hxl := HX.out.1
    simp only [ints, List.length_map, Nat.mul_one] at hxl
    have HXL := Lib.hid hxl
    clear hxl
    go_wp2_with fail
    refine (best_any _ _ T draw A n c xs _ hT ((HX.out.below hbel).more hbel.size) hnc HWX.out hreach).mono ?_
    rintro e w2 ⟨he, hu2⟩
    have hT2 := hT.upd hu2
    have hbel2 := hu2.on hbel hbel.size (fun b _ hb => hb.elim)
    by_cases hn0 : n = 0
    · subst hn0
      obtain rfl : xs = [] := List.eq_nil_of_length_eq_zero HXL.out
      subst he
      have hb0 : bestOf T [] draw = 0 := rfl
      rw [hb0]
      go_wp2_with fail
      refine (best_some _ _ T 0 ⟨w2.heap.size, 0, none⟩ 1 1 [1] _ (hT2.below ((Below.refl _ _).alloc (Nat.le_refl _) _)) ((Rd.lit1 _ (.int .i64 1) _).more (by simp)) (by omega) (by omega) (by decide) (by omega)).mono ?_
      rintro e w3 ⟨rfl, hu3⟩
      go_wp2
      go_ret
      exact ⟨rfl, (hbel2.alloc hbel2.size _).trans (hu3.belowNix (Nat.le_trans hbel2.size (by simp)))⟩
    · have hne : xs ≠ [] := by rintro rfl; exact hn0 (HXL.out.symm)
      have hem : (!xs.isEmpty) = true := by cases xs with | nil => exact absurd rfl hne | cons => rfl
      rw [hem] at he
      subst he
      obtain ⟨hmem, hgood⟩ := bestOf_good T xs draw hne
      obtain ⟨z, hz⟩ : ∃ z, z = bestOf T xs draw := ⟨_, rfl⟩
      rw [← hz] at hmem hgood ⊢
      have hwz := HWX.out z hmem
      have hn0' : ((n : Int) == 0) = false := by simpa using hn0
      have HG := Lib.hid hgood
      have HM := Lib.hid hmem
      have HN := Lib.hid hn0
      clear hz hem hne hgood hmem hn0
      go_wp2
      go_loopw [69] (fun i wr => ∃ k : Nat, k ≤ n ∧ i = .int .i64 k ∧ Tab wr (w.heap.size + 1) w.heap.size T ∧ Below w.heap.size w wr) (fun i _ => n - (intOf i).toNat)
      case atStart => exact ⟨0, Nat.zero_le _, rfl, hT2, hbel2⟩
      case round =>
        obtain ⟨k, hk, rfl, hTr, hbr⟩ := hrel
        clear hT2 hbel2 hT hbel
        by_cases hkn : k < n
        · obtain ⟨ad, u, rfl, hadB, hxk, hcell⟩ := HX.out.at hkn
          have hkl : k < xs.length := by rw [HXL.out]; exact hkn
          rw [ints, List.getElem?_map, List.getElem?_eq_getElem hkl] at hxk
          simp only [Option.map_some, Option.some.injEq] at hxk
          subst hxk
          obtain ⟨y, hy⟩ : ∃ y, y = xs[k] := ⟨_, rfl⟩
          rw [← hy] at hcell
          have hym : y ∈ xs := by rw [hy]; exact List.getElem_mem hkl
          have hcr : wr.cell? (ad.add k) = some (.int .i64 y) := (hbr.cell (by rw [block_add]; exact hadB)).trans hcell
          have hwy := HWX.out y hym
          have hb := HG.out y hym
          have b1 := hTr.2.2 z
          have b2 := hTr.2.2 y
          simp only [bet, Bool.or_eq_false_iff, Bool.and_eq_false_iff, decide_eq_false_iff_not] at hb
          have q1 : (FloatKind.f64.format.order (fb (T y).2) (fb (T z).2) == some .lt) = false := by rw [ord_lt _ _ (by omega) (by omega)]; simp; omega
          have q2 : (FloatKind.f64.format.order (fb (T y).2) (fb (T z).2) == some .eq) = false ∨ (FloatKind.f64.format.order (fb (T y).2) (fb (T z).2) == some .eq) = true ∧ (FloatKind.f64.format.order (fb (T y).1) (fb (T z).1) == some .lt) = false := by
            rw [ord_eq _ _ (by omega) (by omega), ord_lt _ _ (by omega) (by omega)]
            by_cases h : (T y).2 = (T z).2
            · right
              refine ⟨by simpa using h, ?_⟩
              simp only [decide_eq_false_iff_not]
              omega
            · left; simpa using h
          have HYM := Lib.hid hym
          clear hb hy hcell hym
          go_wp2_with fail
          refine (rate_of _ _ T z _ hTr hwz).mono ?_
          rintro e w3 ⟨rfl, rfl⟩
          go_wp2_with fail
          refine (rate_of _ _ T y _ hTr hwy).mono ?_
          rintro e w3 ⟨rfl, rfl⟩
          rcases q2 with q2 | ⟨q2, q3⟩
          all_goals
            go_wp2
            go_roundw
            case rel => exact ⟨k + 1, by omega, by go_num, hTr, hbr⟩
            case measure => simp [intOf]; omega
        · go_wp2_with fail
          refine (slices_contains A n c xs z _ w.heap.size (HX.out.below hbr) (by omega) HM.out).mono ?_
          rintro e w3 ⟨rfl, rfl⟩
          go_wp2
          go_ret
          exact ⟨rfl, hbr⟩
end Go.Proofs.Ytphnehfablaakaa
