/- The best of some addresses. -/
import Derived.Test.YtphnehfablaakaaRate
import Derived.Test.YtphnehfablaakaaAppend
namespace Go.Proofs.Ytphnehfablaakaa
open Go.RowKit Go.Maps Go.Cx

def bestStep (T : Int → Nat × Nat) (B : List Int) (a : Int) : List Int :=
  if bet (T a) (T (B.headD 0)) then [a] else if T a = T (B.headD 0) then B ++ [a] else B
def bestL (T : Int → Nat × Nat) : List Int → List Int
  | [] => []
  | x :: xs => xs.foldl (bestStep T) [x]
def drawI (draw : Int) : Nat := (draw % 18446744073709551616).toNat
def bestOf (T : Int → Nat × Nat) (xs : List Int) (draw : Int) : Int := (bestL T xs).getD (drawI draw % (bestL T xs).length) 0
theorem wrap_draw (draw : Int) : IntKind.u64.wrap draw = (drawI draw : Int) := by
  unfold drawI
  rw [IntKind.wrap_u64]
  omega
theorem wrap_len (n : Nat) (h : n * 8 ≤ 140737488351232) : IntKind.u64.wrap (n : Int) = (n : Int) := by
  rw [IntKind.wrap_u64]
  omega
theorem tmod_nat (a b : Nat) : ((a : Int)).tmod (b : Int) = ((a % b : Nat) : Int) := by simp [Int.tmod_eq_emod_of_nonneg]


/-- after the first k + 1 -/
def bestTo (T : Int → Nat × Nat) (xs : List Int) (k : Nat) : List Int := bestL T (xs.take (k + 1))

theorem bestL_cons (T : Int → Nat × Nat) (x : Int) (xs : List Int) : bestL T (x :: xs) = xs.foldl (bestStep T) [x] := rfl
theorem bestTo_zero (T : Int → Nat × Nat) (x : Int) (xs : List Int) : bestTo T (x :: xs) 0 = [x] := by simp [bestTo, bestL]
theorem bestTo_succ (T : Int → Nat × Nat) (xs : List Int) (k : Nat) (h : k + 1 < xs.length) : bestTo T xs (k + 1) = bestStep T (bestTo T xs k) (xs.getD (k + 1) 0) := by
  cases xs with
  | nil => simp at h
  | cons x xs =>
    simp only [List.length_cons] at h
    have hk : k < xs.length := by omega
    unfold bestTo
    rw [List.take_succ_cons, List.take_succ_cons, bestL_cons, bestL_cons]
    rw [List.take_succ_eq_append_getElem hk, List.foldl_append]
    simp [hk]
theorem bestTo_end (T : Int → Nat × Nat) (xs : List Int) (k : Nat) (h : xs.length ≤ k + 1) : bestTo T xs k = bestL T xs := by
  unfold bestTo; rw [List.take_of_length_le h]
theorem bestTo_len (T : Int → Nat × Nat) (xs : List Int) (h0 : 0 < xs.length) : ∀ k, k < xs.length → 1 ≤ (bestTo T xs k).length ∧ (bestTo T xs k).length ≤ k + 1 := by
  intro k
  induction k with
  | zero =>
    intro _
    cases xs with
    | nil => simp at h0
    | cons x xs => rw [bestTo_zero]; simp
  | succ k ih =>
    intro hk
    have := ih (by omega)
    rw [bestTo_succ T xs k hk]
    unfold bestStep
    split
    · simp
    · split
      · simp; omega
      · omega
theorem bestTo_head (T : Int → Nat × Nat) (xs : List Int) (k : Nat) (h : k < xs.length) : ∃ b r, bestTo T xs k = b :: r := by
  have := bestTo_len T xs (by omega) k h
  cases hb : bestTo T xs k with
  | nil => rw [hb] at this; simp at this
  | cons b r => exact ⟨b, r, rfl⟩

theorem bestTo_sub (T : Int → Nat × Nat) (xs : List Int) (k : Nat) : ∀ b ∈ bestTo T xs k, b ∈ xs := by
  have main : ∀ (l B : List Int), (∀ b ∈ B, b ∈ xs) → (∀ b ∈ l, b ∈ xs) → ∀ b ∈ l.foldl (bestStep T) B, b ∈ xs := by
    intro l
    induction l with
    | nil => intro B h _; exact h
    | cons a l ih =>
      intro B h1 h2
      refine ih _ ?_ (fun b hb => h2 b (by simp [hb]))
      intro b hb
      unfold bestStep at hb
      split at hb
      · simp only [List.mem_singleton] at hb
        subst hb
        exact h2 b (by simp)
      · split at hb
        · rcases List.mem_append.1 hb with h | h
          · exact h1 b h
          · simp only [List.mem_singleton] at h
            subst h
            exact h2 b (by simp)
        · exact h1 b hb
  unfold bestTo
  cases hx : xs.take (k + 1) with
  | nil => intro b hb; simp [bestL] at hb
  | cons x l =>
    have hs : ∀ b ∈ x :: l, b ∈ xs := fun b hb => List.mem_of_mem_take (hx ▸ hb)
    exact main l [x] (fun b hb => hs b (by simp at hb; simp [hb])) (fun b hb => hs b (by simp [hb]))

theorem infoInt : (Try.prog.info? 3).map (fun i => (i.zero, i.size, i.bytes)) = some (some (.int .i64 0), 1, 8) := by kernel_rfl

abbrev ints (xs : List Int) : List Value := xs.map (.int .i64)

theorem best_none (tb mb : Nat) (T : Int → Nat × Nat) (draw : Int) (A : Option Addr) (c : Nat) (w : World) (hT : Tab w tb mb T) :
    Calls Try.prog 10 #[.pointer (some ⟨tb, 0, none⟩), .slice A 0 c, .int .i64 draw] w fun e w' => e = .returned (.tuple #[.int .i64 0, .bool false]) ∧ w = w' := by
  obtain ⟨hb, _, _⟩ := hT
  have hc := hb.cell 0
  simp only [List.getElem?_toArray, List.getElem?_cons_zero] at hc
  clear hb
  go_enter Try.func10, Try.ntmps10
  go_wp2_with (first
    | (go_at_call 26; refine (rate_none tb mb _ hc).mono ?_; rintro e w' ⟨rfl, rfl⟩))
  go_ret2
  exact ⟨rfl, rfl⟩

set_option maxHeartbeats 1000000 in
theorem best_some (tb mb : Nat) (T : Int → Nat × Nat) (draw : Int) (ad : Addr) (n c : Nat) (xs : List Int) (w : World) (hT : Tab w tb mb T)
    (hx : Rd w w.heap.size 1 (some ad) n (ints xs)) (hn : 0 < n) (hnc : n ≤ c) (hw : ∀ x ∈ xs, (Lit.int .i64 x).wf = true) (hreach : n * 8 ≤ 140737488351232) :
    Calls Try.prog 10 #[.pointer (some ⟨tb, 0, none⟩), .slice (some ad) n c, .int .i64 draw] w fun e w' => e = .returned (.tuple #[.int .i64 (bestOf T xs draw), .bool true]) ∧ Upd Nix w w' := by
  have hT0 := Lib.hid hT
  obtain ⟨hb, _, hle⟩ := hT
  have hc := hb.cell 0
  simp only [List.getElem?_toArray, List.getElem?_cons_zero] at hc
  clear hb
  have HL := Lib.hid hle
  clear hle
  have hlen := hx.1
  obtain ⟨_, h2, hbB, hcell⟩ := hx.2 hn
  obtain rfl := Option.some.inj h2
  clear h2
  simp only [ints, List.length_map, Nat.mul_one] at hlen
  obtain ⟨x0, xs', rfl⟩ : ∃ x0 xs', xs = x0 :: xs' := by
    cases xs with
    | nil => simp at hlen; omega
    | cons a b => exact ⟨a, b, rfl⟩
  have hc0 := hcell 0 _ rfl
  obtain ⟨i0, hi, hz0, hz1, hz2⟩ := info_parts infoInt
  have hsz : (Try.prog.info? 3).map (·.size) = some 1 := by rw [hi]; simp [hz1]
  obtain ⟨Z, hZ⟩ : ∃ Z : List Value, Z = List.replicate n (.int .i64 0) := ⟨_, rfl⟩
  have hZl : Z.length = n := by rw [hZ]; simp
  have hmk := fun w => run_make (P := Try.prog) w 22 3 i0 (.int .i64 0) Try.underlying22 hi hz0 .i64 .i64 1 (n : Int) (by omega) (by omega) (by rw [hz2]; omega) (by omega)
  have hmZ : madeCells #[Value.int .i64 0] n = Z.toArray := by
    have : (madeCells #[Value.int .i64 0] n).toList = Z := by
      rw [hZ]
      exact toList_madeCells_one (.int .i64 0) n
    rw [← this]
  have HmZ := Lib.hid hmZ
  clear hmZ
  have HZ := Lib.hid hZ
  have HZl := Lib.hid hZl
  have HX := Lib.hid hx
  have Hlen := Lib.hid hlen
  clear hZ hZl hx hlen
  go_enter Try.func10, Try.ntmps10
  go_wp2_with (first
    | (go_at_call 26; refine (rate_none tb mb _ hc).mono ?_; rintro e w' ⟨rfl, rfl⟩)
    | (with_reducible refine wpList_copy_splice (o := ⟨some 23, _, _, _, _, _⟩) rfl (.tmp 21) (.tmp 22) 22 22 rfl 3 Try.underlying22 hsz (some ⟨w.heap.size, 0, none⟩) (some ad) 1 n n c rfl rfl w.heap.size 0 Z 3 ?d0 [.int .i64 x0] ?d1 ?d2 ?d3 (oneInt _ _) w.heap.size w ?d4 (Nat.le_refl _) ?_))
  case d0 => rw [HmZ.out]; exact heap_alloc_new _ _
  case d1 => show 1 = min n 1; omega
  case d2 =>
    intro j v hj
    match j, hj with
    | 0, hj =>
      simp at hj
      subst hj
      rw [World.cell?_alloc_lt _ _ _ (by rw [block_add]; exact hbB)]
      exact hc0
  case d3 => rw [HZl.out]; simp; omega
  case d4 => exact (Below.refl _ _).alloc (Nat.le_refl _) _
  intro w1 hz1' hbel1
  have hown1 : w1.ownsRow w.heap.size 3 1 (.slice (some ⟨w.heap.size, 0, none⟩) 1 n) 1 [.int .i64 x0] := by
    refine ⟨rfl, .inr ⟨w.heap.size, n, _, rfl, Nat.le_refl _, hz1'.out, by omega, by unfold maxLen; omega, ?_, ?_⟩⟩
    · have := length_splice Z 0 [Value.int .i64 x0] (by rw [HZl.out]; simp; omega)
      simp [this, HZl.out]
    · simp [splice]
  clear hz1'
  go_wp2
  · obtain rfl : n = 1 := by omega
    have hx1 : xs' = [] := by
      have := Hlen.out
      simp only [List.length_cons] at this
      exact List.eq_nil_of_length_eq_zero (by omega)
    have Hx1 := Lib.hid hx1
    clear hx1
    have hcl := hown1.cellAt 0 (by omega)
    simp only [List.getElem?_cons_zero] at hcl
    have e1 := wrap_draw draw
    have e2 : IntKind.u64.wrap 1 = 1 := wrap_len 1 (by omega)
    have e3 : ((drawI draw : Nat) : Int).tmod 1 = 0 := by rw [show (1 : Int) = ((1 : Nat) : Int) from rfl, tmod_nat, Nat.mod_one]; rfl
    refine wp_loop_rounds 1 ?_
    rw [rounds_succ]
    go_wp2
    go_ret2
    exact ⟨by rw [Hx1.out]; simp [bestOf, bestL, Nat.mod_one], Upd.of_below' hbel1⟩
  · go_loopw [8, 27] (fun v i wr => ∃ k : Nat, k < n ∧ i = .int .i64 k ∧ v = .slice (some ⟨w.heap.size, 0, none⟩) (bestTo T (x0 :: xs') k).length n ∧
        wr.ownsRow w.heap.size 3 1 (.slice (some ⟨w.heap.size, 0, none⟩) (bestTo T (x0 :: xs') k).length n) (bestTo T (x0 :: xs') k).length (ints (bestTo T (x0 :: xs') k)) ∧ Below w.heap.size w wr)
      (fun _ i _ => n - (intOf i).toNat)
    case atStart => exact ⟨0, hn, rfl, by rw [bestTo_zero]; rfl, by rw [bestTo_zero]; exact hown1, hbel1⟩
    case round =>
      obtain ⟨k, hk, rfl, rfl, hown, hbel⟩ := hrel
      have hTr : Tab wr tb mb T := hT0.out.below hbel
      have hlk := bestTo_len T (x0 :: xs') (by simp) k (by rw [Hlen.out]; exact hk)
      by_cases hkn : k + 1 < n
      · obtain ⟨b, r, hbr⟩ := bestTo_head T (x0 :: xs') k (by rw [Hlen.out]; exact hk)
        have hsucc := bestTo_succ T (x0 :: xs') k (by rw [Hlen.out]; exact hkn)
        have hbm : b ∈ x0 :: xs' := bestTo_sub T (x0 :: xs') k b (by rw [hbr]; simp)
        have hwb := hw b hbm
        have hkl : k + 1 < (x0 :: xs').length := by rw [Hlen.out]; exact hkn
        obtain ⟨y, hy⟩ : ∃ y, y = (x0 :: xs')[k + 1] := ⟨_, rfl⟩
        have hwy := hw y (by rw [hy]; exact List.getElem_mem hkl)
        have hcy := hcell (k + 1) (.int .i64 y) (by rw [ints, List.getElem?_map, List.getElem?_eq_getElem hkl, hy]; rfl)
        have hgy : (x0 :: xs').getD (k + 1) 0 = y := by rw [hy]; simp [List.getElem?_eq_getElem hkl]
        rw [hgy, hbr] at hsucc
        have hLy := HL.out y
        have hLb := HL.out b
        have hbet := rate_better (T y).1 (T y).2 (T b).1 (T b).2
        have hcb := hown.cellAt 0 (by omega)
        rw [hbr] at hcb
        simp only [ints, List.map_cons, List.getElem?_cons_zero] at hcb
        have hcyr : wr.cell? ⟨ad.block, ad.off + 1 + k, none⟩ = some (.int .i64 y) := by
          have e1 : (⟨ad.block, ad.off + 1 + k, none⟩ : Addr) = ad.add (k + 1) := by unfold Addr.add; rw [if_neg (by omega), Nat.add_assoc, Nat.add_comm 1 k]
          rw [e1]
          exact (hbel.cell (by rw [block_add]; exact hbB)).trans hcy
        have hlt : k < n - 1 := by omega
        have hbet' := fun (v : Bool) (hv : bet (T y) (T b) = v) (w : World) => hv ▸ hbet w (by omega) (by omega) (by omega) (by omega)
        have Hbr := Lib.hid hbr
        have Hsucc := Lib.hid hsucc
        have Hy := Lib.hid hy
        have Hlk := Lib.hid hlk
        have hLb1 : (bestTo T (x0 :: xs') k).length ≤ k + 1 := hlk.2
        have hLb0 : 0 < (bestTo T (x0 :: xs') k).length := hlk.1
        obtain ⟨Lk, hLk⟩ : ∃ Lk, Lk = (bestTo T (x0 :: xs') k).length := ⟨_, rfl⟩
        rw [← hLk] at hown hLb1 hLb0
        have hLb0' : (0 : Int) < (Lk : Int) := by omega
        rw [← hLk]
        have HLk := Lib.hid hLk
        clear hbr hsucc hy hgy hcell hcy hw hbm hc0 hown1 hbel1 hbet hlk hLk
        by_cases hb1 : bet (T y) (T b) = true
        · have hbt := hbet' true hb1
          have hnew : bestTo T (x0 :: xs') (k + 1) = [y] := by rw [Hsucc.out]; unfold bestStep; rw [List.headD_cons, if_pos hb1]
          have Hnew := Lib.hid hnew
          have own0 : wr.ownsRow w.heap.size 3 1 (.slice (some ⟨w.heap.size, 0, none⟩) 0 n) 0 [] := hown.shrink0
          clear hbet' hnew
          go_wp2_with fail
          go_quiet ((first | (go_at_call 11; exact quietL (rate_of tb mb T _ _ (hTr.drewN _) (by first | exact hwy | exact hwb))) | (go_at_call 27; exact quietL (hbt _))))
          go_wp2_with (first
            | (at_builtin; refine wpList_append_fits _ rfl _ _ 22 rfl w.heap.size 3 i0 1 Try.underlying22 hi hz1 w.heap.size 0 n [] rfl ?_ ⟨wr.heap.size, 0, none⟩ 1 1 [.int .i64 y] rfl rfl (cell_one_new _ _ _) (oneInt _ _) (by omega) ?_))
          · exact (own0.drewN _).alloc _
          · intro w2 hown2 hg2
            have hbel2 : Below w.heap.size w w2 := ((hbel.drewN _).alloc hbel.size _).grown hg2 (Nat.le_trans hbel.size (by simp)) (by rintro g ⟨⟩; exact Nat.le_refl _)
            clear own0 hown hTr hbt
            go_wp2
            go_roundw
            case rel => exact ⟨k + 1, hkn, by go_num, by rw [Hnew.out]; rfl, by rw [Hnew.out]; exact hown2, hbel2⟩
            case measure => simp [intOf]; omega
        · have hb1 : bet (T y) (T b) = false := by simpa using hb1
          have hbt := hbet' false hb1
          by_cases hq : T y = T b
          · have hnew : bestTo T (x0 :: xs') (k + 1) = bestTo T (x0 :: xs') k ++ [y] := by rw [Hsucc.out, Hbr.out]; unfold bestStep; rw [List.headD_cons, if_neg (by rw [hb1]; decide), if_pos hq]
            have Hnew := Lib.hid hnew
            have o1 : (FloatKind.f64.format.order (fb (T y).1) (fb (T b).1) == some .eq) = true := by rw [ord_eq _ _ (by omega) (by omega), hq]; simp
            have o2 : (FloatKind.f64.format.order (fb (T y).2) (fb (T b).2) == some .eq) = true := by rw [ord_eq _ _ (by omega) (by omega), hq]; simp
            clear hbet' hnew hb1 hq
            go_wp2_with fail
            go_quiet ((first | (go_at_call 11; exact quietL (rate_of tb mb T _ _ (hTr.drewN _) (by first | exact hwy | exact hwb))) | (go_at_call 27; exact quietL (hbt _))))
            go_wp2_with fail
            go_quiet ((first | (go_at_call 11; exact quietAddL (rate_of tb mb T _ _ (hTr.drewN _) (by first | exact hwy | exact hwb)))))
            go_wp2_with (first
              | (at_builtin; refine wpList_append_fits _ rfl _ _ 22 rfl w.heap.size 3 i0 1 Try.underlying22 hi hz1 w.heap.size Lk n (ints (bestTo T (x0 :: xs') k)) rfl ?_ ⟨wr.heap.size, 0, none⟩ 1 1 [.int .i64 y] rfl rfl (cell_one_new _ _ _) (oneInt _ _) (by omega) ?_))
            · exact (hown.drewN _).alloc _
            · intro w2 hown2 hg2
              have hbel2 : Below w.heap.size w w2 := ((hbel.drewN _).alloc hbel.size _).grown hg2 (Nat.le_trans hbel.size (by simp)) (by rintro g ⟨⟩; exact Nat.le_refl _)
              clear hown hTr hbt
              go_wp2
              go_roundw
              case rel => exact ⟨k + 1, hkn, by go_num, by rw [Hnew.out, List.length_append, ← HLk.out]; rfl, by rw [Hnew.out, List.length_append, ← HLk.out]; simpa [ints] using hown2, hbel2⟩
              case measure => simp [intOf]; omega
          · have hnew : bestTo T (x0 :: xs') (k + 1) = bestTo T (x0 :: xs') k := by rw [Hsucc.out, Hbr.out]; unfold bestStep; rw [List.headD_cons, if_neg (by rw [hb1]; decide), if_neg hq]
            have Hnew := Lib.hid hnew
            have oo : (FloatKind.f64.format.order (fb (T y).1) (fb (T b).1) == some .eq) = false ∨ (FloatKind.f64.format.order (fb (T y).1) (fb (T b).1) == some .eq) = true ∧ (FloatKind.f64.format.order (fb (T y).2) (fb (T b).2) == some .eq) = false := by
              rw [ord_eq _ _ (by omega) (by omega), ord_eq _ _ (by omega) (by omega)]
              by_cases p1 : (T y).1 = (T b).1
              · right
                refine ⟨by simpa using p1, ?_⟩
                simp only [decide_eq_false_iff_not]
                intro p2
                exact hq (Prod.ext p1 p2)
              · left
                simpa using p1
            clear hbet' hnew hb1 hq
            rcases oo with o1 | ⟨o1, o2⟩
            all_goals
              go_wp2_with fail
              go_quiet ((first | (go_at_call 11; exact quietL (rate_of tb mb T _ _ (hTr.drewN _) (by first | exact hwy | exact hwb))) | (go_at_call 27; exact quietL (hbt _))))
              go_wp2_with fail
              go_quiet ((first | (go_at_call 11; exact quietAddL (rate_of tb mb T _ _ (hTr.drewN _) (by first | exact hwy | exact hwb)))))
              go_wp2
              go_roundw
              case rel => exact ⟨k + 1, hkn, by go_num, by rw [Hnew.out, ← HLk.out], by rw [Hnew.out, ← HLk.out]; exact hown.drewN _, hbel.drewN _⟩
              case measure => simp [intOf]; omega
      · have hfin : bestOf T (x0 :: xs') draw = (bestTo T (x0 :: xs') k).getD (drawI draw % (bestTo T (x0 :: xs') k).length) 0 := by
          unfold bestOf; rw [bestTo_end T (x0 :: xs') k (by rw [Hlen.out]; omega)]
        have Hfin := Lib.hid hfin
        clear hfin
        generalize bestTo T (x0 :: xs') k = Bk at *
        have hM : drawI draw % Bk.length < Bk.length := Nat.mod_lt _ (by omega)
        have hcl := hown.cellAt (drawI draw % Bk.length) (by omega)
        rw [List.getElem?_map, List.getElem?_eq_getElem hM] at hcl
        simp only [Option.map_some] at hcl
        have e1 := wrap_draw draw
        have e2 := wrap_len Bk.length (by omega)
        have e3 := tmod_nat (drawI draw) Bk.length
        generalize drawI draw % Bk.length = M at *
        go_wp2
        go_ret2
        exact ⟨by rw [Hfin.out]; simp [hM], Upd.of_below' hbel⟩
end Go.Proofs.Ytphnehfablaakaa
