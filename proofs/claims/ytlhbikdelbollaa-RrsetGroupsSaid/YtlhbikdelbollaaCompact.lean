/- slices.CompactFunc with bytes.Equal, on slices of bytes. -/
import Derived.Test.YtlhbikdelbollaaCompL
import Derived.Test.YtlhbikdelbollaaSortRows
import Derived.Lib.SliceRun
namespace Go.Proofs.Ytlhbikdelbollaa
open Go.RowKit Go.Cx

/-- block g holds the rows X, and may hold cap of them -/
def RowBlk (w : World) (g cap : Nat) (X : List Row) : Prop :=
  ∃ cur, w.heap[g]? = some (.cells cur 33 (0, 0)) ∧ cur.size = cap ∧ X.length ≤ cap ∧ cur.toList.take X.length = X.map Row.val
section
variable {w w' : World} {g cap : Nat} {X : List Row}
theorem RowBlk.lt (h : RowBlk w g cap X) : g < w.heap.size := by
  obtain ⟨cur, hg, _⟩ := h
  exact (Array.getElem?_eq_some_iff.1 hg).1
theorem RowBlk.cell (h : RowBlk w g cap X) {i : Nat} {r : Row} (hr : X[i]? = some r) : w.cell? ⟨g, i, none⟩ = some (.slice r.A r.n r.c) := by
  obtain ⟨cur, hg, hs, hl, ht⟩ := h
  have hi := (List.getElem?_eq_some_iff.1 hr).1
  rw [cell_of_row w g i cur 33 (0, 0) hg]
  have h1 : cur[i]? = (X.map Row.val)[i]? := by
    rw [← ht, List.getElem?_take, if_pos hi, Array.getElem?_toList]
  rw [h1, List.getElem?_map, hr]
  rfl
theorem RowBlk.free (h : RowBlk w g cap X) (i : Nat) : w.frozen? ⟨g, i, none⟩ = false := by
  obtain ⟨cur, hg, _⟩ := h
  simp [World.frozen?, hg]
theorem RowBlk.set (h : RowBlk w g cap X) (i : Nat) (r : Row) : RowBlk (w.setCell ⟨g, i, none⟩ (.slice r.A r.n r.c)) g cap (X.set i r) := by
  obtain ⟨cur, hg, hs, hl, ht⟩ := h
  refine ⟨cur.setIfInBounds i (.slice r.A r.n r.c), ?_, by simpa using hs, by simpa using hl, ?_⟩
  · rw [setCell_eq_setRow w g i cur 33 (0, 0) _ hg]
    exact setRow_heap w g cur _ _ _ hg
  · rw [Array.toList_setIfInBounds, List.length_set, List.take_set, ht, List.map_set]
    rfl
theorem RowBlk.keep (h : RowBlk w g cap X) (hb : w'.heap[g]? = w.heap[g]?) : RowBlk w' g cap X := by
  obtain ⟨cur, hg, r⟩ := h
  exact ⟨cur, hb.trans hg, r⟩
theorem RowBlk.take (h : RowBlk w g cap X) (i : Nat) : RowBlk w g cap (X.take i) := by
  obtain ⟨cur, hg, hs, hl, ht⟩ := h
  refine ⟨cur, hg, hs, by rw [List.length_take]; omega, ?_⟩
  rw [List.length_take, List.map_take, ← ht, List.take_take]
theorem RowBlk.setCells : ∀ (vs : List Value) (o : Nat) (w : World) (_ : RowBlk w g cap X) (_ : X.length ≤ o), RowBlk (w.setCells g o vs) g cap X
  | [], _, _, h, _ => h
  | v :: r, o, _, h, ho => by
    refine RowBlk.setCells r (o + 1) _ ?_ (by omega)
    obtain ⟨cur, hg, hs, hl, ht⟩ := h
    refine ⟨cur.setIfInBounds o v, ?_, by simpa using hs, by simpa using hl, ?_⟩
    · rw [setCell_eq_setRow _ g o cur 33 (0, 0) _ hg]
      exact setRow_heap _ g cur _ _ _ hg
    · rw [Array.toList_setIfInBounds, List.take_set_of_le ho]
      exact ht
theorem upd_setCells : ∀ (vs : List Value) (o : Nat) (w0 w : World), Upd (One g) w0 w → Upd (One g) w0 (w.setCells g o vs)
  | [], _, _, _, h => h
  | v :: r, o, w0, _, h => upd_setCells r (o + 1) w0 _ (h.set rfl v)
theorem RowBlk.owns {base n : Nat} (h : RowBlk w g cap X) (hb : base ≤ g) (hm : cap ≤ maxLen) (hn : X.length = n) : w.ownsRow base 33 1 (.slice (some ⟨g, 0, none⟩) n cap) n (X.map Row.val) := by
  obtain ⟨cur, hg, hs, hl, ht⟩ := h
  refine ⟨by simp [hn], .inr ⟨g, cap, cur, rfl, hb, hg, by omega, hm, by omega, ?_⟩⟩
  rw [Nat.mul_one, ← hn]
  exact ht
theorem RowBlk.of {base n : Nat} (h : w.ownsRow base 33 1 (.slice (some ⟨g, 0, none⟩) n cap) n (X.map Row.val)) : RowBlk w g cap X ∧ X.length = n ∧ n ≤ cap ∧ base ≤ g ∧ cap ≤ maxLen := by
  have hl : X.length = n := by have := h.1; simpa using this
  rcases h.2 with ⟨hv, _⟩ | ⟨g', cap', cur, hv, hb, hg, hnc, hml, hsz, ht⟩
  · cases hv
  · injection hv with e1 e2 e3
    injection e1 with e1
    injection e1 with e1
    subst e1 e3
    simp only [Nat.mul_one] at hsz ht
    exact ⟨⟨cur, hg, hsz, by omega, by rw [hl]; exact ht⟩, hl, hnc, hb, hml⟩
end
theorem rows_eq (w : World) (g : Nat) {r r' : Row} (h : RowOk w g r) (h' : RowOk w g r') {W : World} (hu : Upd (One g) w W) :
    Calls Try.prog 49 #[.slice r.A r.n r.c, .slice r'.A r'.n r'.c] W fun e w' => e = .returned (.bool (decide (r.l = r'.l))) ∧ W = w' := by
  have h1 := sl_upd h.1 hu h.2
  have h2 := sl_upd h'.1 hu h'.2
  exact bytes_equal W _ _ r.A r'.A r.n r'.n r.c r'.c r.l r'.l h1.rd h2.rd h1.bytes h2.bytes

/-- within the second loop: of the first k + 2 + j rows those that are left stand ahead of place i -/
structure CompAt (w : World) (g cap n : Nat) (R : List Row) (k j i : Nat) (X : List Row) (wr : World) : Prop where
  blk : RowBlk wr g cap X
  len : X.length = n
  low : X.take i = compL (R.take (k + 2 + j))
  high : ∀ m, k + 1 + j ≤ m → X[m]? = R[m]?
  ib : i ≤ k + 1 + j
  upd : Upd (One g) w wr

set_option maxRecDepth 100000 in
set_option maxHeartbeats 3200000 in
theorem compact_rows (w : World) (g n cap base : Nat) (R : List Row) (hown : w.ownsRow base 33 1 (.slice (some ⟨g, 0, none⟩) n cap) n (R.map Row.val)) (hr : ∀ r ∈ R, RowOk w g r) (hn2 : n ≤ 10000000000000) :
    Calls Try.prog 48 #[.slice (some ⟨g, 0, none⟩) n cap, .func (.func 49) #[] #[]] w fun e w' =>
      e = .returned (.slice (some ⟨g, 0, none⟩) (compL R).length cap) ∧ w'.ownsRow base 33 1 (.slice (some ⟨g, 0, none⟩) (compL R).length cap) (compL R).length ((compL R).map Row.val) ∧ Upd (One g) w w' := by
  obtain ⟨hblk, hlen, hnc, hbg, hml⟩ := RowBlk.of hown
  have HML := Lib.hid hml
  clear hml
  have HO := Lib.hid hown
  have HR := Lib.hid hr
  have HB := Lib.hid hblk
  have HL := Lib.hid hlen
  clear hown hr hblk hlen
  go_enter Try.func48, Try.ntmps48
  by_cases hn : n < 2
  · have hni : (n : Int) < 2 := by omega
    have hv : compL R = R := by
      have := HL.out
      match R, this with
      | [], _ => rfl
      | [a], _ => rfl
      | a :: b :: t, h => simp at h; omega
    have HV := Lib.hid hv
    clear hv
    go_wp2_with fail
    go_ret
    rw [HV.out, HL.out]
    exact ⟨rfl, HO.out, Upd.refl _ _⟩
  have hni : ¬ (n : Int) < 2 := by omega
  go_wp2_with fail
  go_loopw [5] (fun s5 wr => ∃ (k q : Nat), k + 1 ≤ n ∧ s5 = .int .i64 ((k + 1 : Nat) : Int) ∧ wr = w.drewN q ∧ compL (R.take (k + 1)) = R.take (k + 1)) (fun s5 _ => n - (intOf s5).toNat)
  case atStart =>
    refine ⟨0, 0, by omega, rfl, rfl, ?_⟩
    cases R with
    | nil => rfl
    | cons a t => rfl
  case round =>
    obtain ⟨k, q, hk, rfl, rfl, hc⟩ := hrel
    have HC := Lib.hid hc
    clear hc
    by_cases hkn : k + 1 < n
    · have hki : (k : Int) + 1 < (n : Int) := by omega
      obtain ⟨a, ha⟩ : ∃ a, R[k]? = some a := ⟨_, List.getElem?_eq_getElem (by have := HL.out; omega)⟩
      obtain ⟨b, hb⟩ : ∃ b, R[k + 1]? = some b := ⟨_, List.getElem?_eq_getElem (by have := HL.out; omega)⟩
      have hca := HB.out.cell ha
      have hcb := HB.out.cell hb
      have hcall := fun q => rows_eq w g (HR.out b (List.mem_of_getElem? hb)) (HR.out a (List.mem_of_getElem? ha)) ((Upd.refl (One g) w).drewN q)
      have hstep := compL_step ha hb
      have HA := Lib.hid ha
      have HBb := Lib.hid hb
      have hwr : IntKind.i64.wrap (((k + 1 : Nat) : Int) - 1) = (k : Int) := by rw [IntKind.wrap_i64]; omega
      have h00 : (0 : Int) ≤ ((k + 1 : Nat) : Int) := by omega
      have h01 : (0 : Int) ≤ (k : Int) := by omega
      have h02 : (k : Int) < (n : Int) := by omega
      clear ha hb
      by_cases heq : b.l = a.l
      · rw [decide_eq_true heq] at hcall
        rw [if_pos heq, List.append_nil] at hstep
        have HCALL := Lib.hid hcall
        have HSTEP := Lib.hid hstep
        clear heq hcall hstep
        go_wp2_with fail
        go_quiet ((go_at_call 49; exact quietAddL (HCALL.out _)))
        clear hca hcb hwr h00 h01 h02
        go_wp2_with fail
        have hst : CompAt w g cap n R k 0 (k + 1) R (w.drewN (q + nq)) := ⟨HB.out, HL.out, by rw [HSTEP.out, HC.out], fun _ _ => rfl, by omega, (Upd.refl _ _).drewN _⟩
        have HST := Lib.hid hst
        clear hst
        generalize w.drewN (q + nq) = wq at *
        go_loopw [5, 7] (fun s5 s7 wr => ∃ (i j : Nat) (X : List Row), s5 = .int .i64 i ∧ s7 = .int .i64 ((j + 1 : Nat) : Int) ∧ k + 2 + j ≤ n ∧ CompAt w g cap n R k j i X wr) (fun _ s7 _ => n - (intOf s7).toNat)
        case atStart => exact ⟨k + 1, 0, R, rfl, rfl, by omega, HST.out⟩
        case round =>
          obtain ⟨i, j, X, rfl, rfl, hj, hat⟩ := hrel
          have hib := hat.ib
          have HAT := Lib.hid hat
          clear hat
          by_cases hjn : k + 2 + j < n
          · have hji : (j : Int) + 1 < ((n - (k + 1) : Nat) : Int) := by omega
            obtain ⟨a', ha'⟩ : ∃ a, R[k + 1 + j]? = some a := ⟨_, List.getElem?_eq_getElem (by have := HL.out; omega)⟩
            obtain ⟨b', hb'⟩ : ∃ b, R[k + 1 + j + 1]? = some b := ⟨_, List.getElem?_eq_getElem (by have := HL.out; omega)⟩
            obtain ⟨old, hold⟩ : ∃ o, X[i]? = some o := ⟨_, List.getElem?_eq_getElem (by have := HAT.out.len; omega)⟩
            have hca := HAT.out.blk.cell ((HAT.out.high (k + 1 + j) (Nat.le_refl _)).trans ha')
            have hcb := HAT.out.blk.cell ((HAT.out.high (k + 1 + j + 1) (by omega)).trans hb')
            have hcb2 : wr.cell? ⟨g, k + 1 + (j + 1), none⟩ = some (.slice b'.A b'.n b'.c) := hcb
            have hco := HAT.out.blk.cell hold
            have hfo := HAT.out.blk.free i
            have hcall := fun q => rows_eq w g (HR.out b' (List.mem_of_getElem? hb')) (HR.out a' (List.mem_of_getElem? ha')) (HAT.out.upd.drewN q)
            have hstep2 := compL_step ha' hb'
            have hwr2 : IntKind.i64.wrap (((j + 1 : Nat) : Int) - 1) = (j : Int) := by rw [IntKind.wrap_i64]; omega
            have g00 : (0 : Int) ≤ ((j + 1 : Nat) : Int) := by omega
            have g01 : (0 : Int) ≤ (j : Int) := by omega
            have g02 : (j : Int) < ((n - (k + 1) : Nat) : Int) := by omega
            have HA2 := Lib.hid ha'
            have HB2 := Lib.hid hb'
            clear ha' hb' hold
            by_cases heq : b'.l = a'.l
            · rw [decide_eq_true heq] at hcall
              rw [if_pos heq, List.append_nil] at hstep2
              have HCALL2 := Lib.hid hcall
              have HSTEP2 := Lib.hid hstep2
              clear heq hcall hstep2
              go_wp2_with fail
              go_quiet ((go_at_call 49; exact quietL (HCALL2.out _)))
              clear hca hcb hcb2 hco hfo hwr2 g00 g01 g02
              go_wp2_with fail
              refine ⟨⟨i, j + 1, X, rfl, by rfl, by omega, HAT.out.blk.keep rfl, HAT.out.len, ?_, fun m hm => HAT.out.high m (by omega), by omega, HAT.out.upd.drewN _⟩, ?_⟩
              · rw [HAT.out.low, show k + 2 + (j + 1) = k + 1 + j + 2 by omega, HSTEP2.out, show k + 2 + j = k + 1 + j + 1 by omega]
              · simp only [intOf]; omega
            · rw [decide_eq_false heq] at hcall
              rw [if_neg heq] at hstep2
              have HCALL2 := Lib.hid hcall
              have HSTEP2 := Lib.hid hstep2
              clear heq hcall hstep2
              go_wp2_with fail
              go_quiet ((go_at_call 49; exact quietL (HCALL2.out _)))
              go_wp2_with fail
              clear hca hcb hcb2 hco hfo hwr2 g00 g01 g02
              refine ⟨⟨i + 1, j + 1, X.set i b', by rfl, by rfl, by omega, (HAT.out.blk.keep rfl : RowBlk (wr.drewN nq) g cap X).set i b', by rw [List.length_set]; exact HAT.out.len, ?_, fun m hm => ?_, by omega, (HAT.out.upd.drewN _).set rfl _⟩, ?_⟩
              · have h1 : (X.set i b').take (i + 1) = X.take i ++ [b'] := by
                  rw [List.take_add_one, List.getElem?_set_self (by have := HAT.out.len; omega), List.take_set_of_le (Nat.le_refl _)]
                  rfl
                rw [h1, HAT.out.low, show k + 2 + (j + 1) = k + 1 + j + 2 by omega, HSTEP2.out, show k + 2 + j = k + 1 + j + 1 by omega]
              · rw [List.getElem?_set_ne (by omega)]
                exact HAT.out.high m (by omega)
              · simp only [intOf]; omega
          · have hji : ¬ (j : Int) + 1 < ((n - (k + 1) : Nat) : Int) := by omega
            have hin : i < n := by omega
            have hcl : ∀ ty, (Builtin.clear_ #[26] ty #[.slice (some ⟨g, i, none⟩) (n - i) (cap - i)]).run Try.prog wr = .ok (.tuple #[]) (wr.setCells g i (List.replicate (n - i) (.slice none 0 0))) :=
              fun ty => Lib.run_clear_slice wr 26 33 ty (.slice none 0 0) Try.underlying26 (fun _ => by kernel_rfl) rfl rfl g i (n - i) (cap - i) (by omega)
                (fun m hm => by
                  obtain ⟨r, hr⟩ : ∃ r, X[i + m]? = some r := ⟨_, List.getElem?_eq_getElem (by have := HAT.out.len; omega)⟩
                  rw [HAT.out.blk.cell hr]
                  rfl)
                (fun m hm => HAT.out.blk.free _)
            have hlow := HAT.out.low
            have hRt : R.take (k + 2 + j) = R := List.take_of_length_le (by rw [HL.out]; omega)
            rw [hRt] at hlow
            have hli : (compL R).length = i := by rw [← hlow, List.length_take, HAT.out.len]; omega
            have hfin := ((HAT.out.blk.take i).setCells (List.replicate (n - i) (.slice none 0 0)) i wr (by rw [List.length_take]; omega)).owns hbg HML.out (by rw [hlow, hli])
            rw [hlow] at hfin
            have HFIN := Lib.hid hfin
            have HLI := Lib.hid hli
            clear hlow hli hfin
            go_wp2_with fail
            go_ret
            rw [HLI.out]
            exact ⟨rfl, HFIN.out, upd_setCells _ _ _ _ HAT.out.upd⟩
      · rw [decide_eq_false heq] at hcall
        rw [if_neg heq] at hstep
        have HCALL := Lib.hid hcall
        have HSTEP := Lib.hid hstep
        clear heq hcall hstep
        go_wp2_with fail
        go_quiet ((go_at_call 49; exact quietAddL (HCALL.out _)))
        clear hca hcb hwr h00 h01 h02
        go_wp2_with fail
        refine ⟨⟨k + 1, q + nq, by omega, by rfl, rfl, ?_⟩, ?_⟩
        · have := HC.out
          have h2 : R.take (k + 2) = R.take (k + 1) ++ [b] := by rw [List.take_add_one, HBb.out]; rfl
          show compL (R.take (k + 2)) = R.take (k + 2)
          rw [HSTEP.out, this, h2]
        · simp only [intOf]; omega
    · have hki : ¬ (k : Int) + 1 < (n : Int) := by omega
      have hke : k + 1 = n := by omega
      have hv : compL R = R := by
        have := HC.out
        rwa [List.take_of_length_le (by rw [HL.out]; omega)] at this
      have HV := Lib.hid hv
      clear hv
      go_wp2_with fail
      go_ret
      rw [HV.out, HL.out]
      exact ⟨rfl, HO.out.drewN q, (Upd.refl _ _).drewN q⟩
end Go.Proofs.Ytlhbikdelbollaa
