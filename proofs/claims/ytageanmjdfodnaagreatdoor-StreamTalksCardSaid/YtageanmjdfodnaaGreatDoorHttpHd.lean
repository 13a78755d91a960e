/- The head of a request, walked. -/
import Derived.Test.YtageanmjdfodnaaGreatDoorHttpSm
import Derived.Test.YtageanmjdfodnaaGreatDoorHeadL
import Derived.Deep.DeepCutAuto
import Derived.Deep.CutBlock
namespace Go.Proofs.YtageanmjdfodnaaGreatDoor
open Go.RowKit Go.Cx

theorem infoStr : (Tryz.prog.info? 9).map (fun i => (i.zero, i.size, i.bytes)) = some (some (.string ⟨#[]⟩), 1, 16) := by kernel_rfl
/-- whether 13 stands ahead of place k -/
def retAt (l : List Nat) : Nat → Bool
  | 0 => false
  | j + 1 => decide (l[j]? = some 13)
/-- strings of the call's own -/
structure StrsOwn (base : Nat) (A : Option Addr) (n c : Nat) (ss : List ByteArray) (w : World) : Prop where
  own : w.ownsRow base 9 1 (.slice A n c) n (ss.map Value.string)
  len : ss.length = n
def HeadIs (l : List Nat) (w : World) (e : Ending) (w' : World) : Prop :=
  Upd Nix w w' ∧ ((headL l = none ∧ e = .returned (.tuple #[.slice none 0 0, .int .i64 0, .bool false])) ∨ (headL l = some none ∧ e = .returned (.tuple #[.slice none 0 0, .int .i64 0, .bool true])) ∨
    ∃ (A : Option Addr) (m c i : Nat) (ss : List ByteArray), headL l = some (some (ss.map bytesOf, i)) ∧ e = .returned (.tuple #[.slice A m c, .int .i64 i, .bool true]) ∧ StrsOwn w.heap.size A m c ss w')
/-- the head from place k on, the line at hand from line on -/
def HeadAt (l : List Nat) (k line : Nat) (ss : List ByteArray) : Prop := headGo l false [] [] 0 = headGo (l.drop k) (retAt l k) ((l.take k).drop line) (ss.map bytesOf) k
theorem HeadAt.step {l : List Nat} {k line c : Nat} {ss : List ByteArray} (h : HeadAt l k line ss) (hc : l[k]? = some c) : headGo l false [] [] 0 = headGo (c :: l.drop (k + 1)) (retAt l k) ((l.take k).drop line) (ss.map bytesOf) k := by
  have hk := (List.getElem?_eq_some_iff.1 hc).1
  have hd : l.drop k = c :: l.drop (k + 1) := by rw [List.drop_eq_getElem_cons hk]; congr 1; rw [List.getElem?_eq_getElem hk] at hc; exact Option.some.inj hc
  unfold HeadAt at h
  rw [h, hd]
theorem HeadAt.odd {l : List Nat} {k line c : Nat} {ss : List ByteArray} (h : HeadAt l k line ss) (hc : l[k]? = some c) (ho : decide (c = 10) ≠ retAt l k) : headGo l false [] [] 0 = none := by
  rw [h.step hc, headGo, if_pos ho]
theorem HeadAt.bad {l : List Nat} {k line c : Nat} {ss : List ByteArray} (h : HeadAt l k line ss) (hc : l[k]? = some c) (h10 : c ≠ 10) (hi : inLine c = false) : headGo l false [] [] 0 = none := by
  rw [h.step hc, headGo]
  simp [hi, h10]
theorem HeadAt.on {l : List Nat} {k line c : Nat} {ss : List ByteArray} (h : HeadAt l k line ss) (hc : l[k]? = some c) (h10 : c ≠ 10) (hr : retAt l k = false) (hi : inLine c = true) (hl : line ≤ k) : HeadAt l (k + 1) line ss := by
  unfold HeadAt
  rw [h.step hc, headGo, hr, decide_eq_false h10, if_neg (by simp), hi, if_pos rfl]
  have e1 : retAt l (k + 1) = decide (c = 13) := by show decide (l[k]? = some 13) = _; rw [hc]; simp
  have hk := (List.getElem?_eq_some_iff.1 hc).1
  have e2 : (l.take (k + 1)).drop line = (l.take k).drop line ++ [c] := by
    rw [List.take_add_one, hc, List.drop_append_of_le_length (by rw [List.length_take]; omega)]
    rfl
  rw [e1, e2]
theorem cur_len {l : List Nat} {k line c : Nat} (hc : l[k]? = some c) : ((l.take k).drop line).length = k - line := by
  have hk := (List.getElem?_eq_some_iff.1 hc).1
  rw [List.length_drop, List.length_take]
  omega
theorem HeadAt.fin {l : List Nat} {k line : Nat} {ss : List ByteArray} (h : HeadAt l k line ss) (hc : l[k]? = some 10) (hr : retAt l k = true) (hl : k - line = 1) : headGo l false [] [] 0 = some (some (ss.map bytesOf, k + 1)) := by
  rw [h.step hc, headGo, hr, decide_eq_true rfl, if_neg (by simp), inLine_10, if_neg (by simp), if_neg (by simp), if_pos (by rw [cur_len hc]; exact hl)]
theorem HeadAt.line {l : List Nat} {k line : Nat} {ss : List ByteArray} {s : ByteArray} (h : HeadAt l k line ss) (hc : l[k]? = some 10) (hr : retAt l k = true) (hl : ¬ k - line = 1) (hs : bytesOf s = (l.drop line).take (k - 1 - line)) : HeadAt l (k + 1) (k + 1) (ss ++ [s]) := by
  unfold HeadAt
  rw [h.step hc, headGo, hr, decide_eq_true rfl, if_neg (by simp), inLine_10, if_neg (by simp), if_neg (by simp), if_neg (by rw [cur_len hc]; exact hl)]
  have hk := (List.getElem?_eq_some_iff.1 hc).1
  have e1 : retAt l (k + 1) = false := by show decide (l[k]? = some 13) = _; rw [hc]; simp
  have e2 : (l.take (k + 1)).drop (k + 1) = [] := List.drop_eq_nil_of_le (by rw [List.length_take]; omega)
  have e3 : ((l.take k).drop line).dropLast = bytesOf s := by
    rw [hs, List.dropLast_eq_take, cur_len hc, List.drop_take, List.take_take, show min (k - line - 1) (k - line) = k - 1 - line by omega]
  rw [e1, e2, e3, List.map_append]
  rfl
theorem HeadAt.end {l : List Nat} {line : Nat} {ss : List ByteArray} {k : Nat} (h : HeadAt l k line ss) (hk : l.length ≤ k) : headGo l false [] [] 0 = some none := by
  unfold HeadAt at h
  rw [h, List.drop_eq_nil_of_le hk, headGo]
theorem headL_none {l : List Nat} (h : headGo (l.take 2000) false [] [] 0 = none) : headL l = none := by unfold headL; rw [h]
theorem headL_some {l : List Nat} {x : List (List Nat) × Nat} (h : headGo (l.take 2000) false [] [] 0 = some (some x)) : headL l = some (some x) := by unfold headL; rw [h]
theorem headL_end {l : List Nat} (h : headGo (l.take 2000) false [] [] 0 = some none) : headL l = if l.length < 2000 then some none else none := by unfold headL; rw [h]

set_option maxRecDepth 100000 in
set_option maxHeartbeats 3200000 in
theorem http_head (A : Option Addr) (n c : Nat) (l : List Nat) (w : World) (hx : Rd w w.heap.size 1 A n (byts l)) (hb : ∀ b ∈ l, b < 256) (hnc : n ≤ c) (hn : n ≤ 140737488355328) :
    Calls Tryz.prog 82 #[.slice A n c] w (HeadIs l w) := by
  obtain ⟨i0, hi0, hz0, hz1, hz2⟩ := info_parts infoStr
  have hlen := hx.1
  simp only [byts, List.length_map, Nat.mul_one] at hlen
  obtain ⟨m, hm⟩ : ∃ m, (min (n : Int) 2000).toNat = m := ⟨_, rfl⟩
  have hmn : m ≤ n := by omega
  have hm2 : m ≤ 2000 := by omega
  have HM := Lib.hid hm
  have HX := Lib.hid hx
  have HBY := Lib.hid hb
  have HLEN := Lib.hid hlen
  have hl2 : (l.take 2000).length = m := by rw [List.length_take]; omega
  have HL2 := Lib.hid hl2
  clear hm hx hb hlen hl2
  go_enter Tryz.func82, Tryz.ntmps82
  go_upto_region 3 with fail
  go_cut [14, 15, 16] (fun s14 s15 s16 wx => w = wx ∧ s14 = .slice A m c ∧ s15 = .int .i64 m ∧ s16 = .int .i64 0)
  case first =>
    have hmc := HM.out
    by_cases h2000 : n ≤ 2000
    · have hi : (n : Int) ≤ 2000 := by omega
      obtain rfl : m = n := by omega
      clear hmc
      go_wp2_with fail
      all_goals
        go_meet
        exact ⟨rfl, rfl, rfl, rfl⟩
    · have hi : ¬ (n : Int) ≤ 2000 := by omega
      have hi2 : (2000 : Int) ≤ (n : Int) := by omega
      obtain rfl : m = 2000 := by omega
      clear hmc
      go_wp2_with fail
      all_goals
        go_meet
        exact ⟨rfl, rfl, rfl, rfl⟩
  case rest =>
  obtain ⟨rfl, rfl, rfl, rfl⟩ := hcut
  go_wp2_with fail
  go_loopw [5, 6, 16] (fun s5 s6 s16 wr => ∃ (k line : Nat) (A1 : Option Addr) (m1 c1 : Nat) (ss : List ByteArray), k ≤ m ∧ line ≤ k ∧ s16 = .int .i64 k ∧ s6 = .int .i64 line ∧ s5 = .slice A1 m1 c1 ∧ StrsOwn w.heap.size A1 m1 c1 ss wr ∧ m1 ≤ k ∧ Upd Nix w wr ∧ HeadAt (l.take 2000) k line ss ∧ Hid (∀ j, line = j + 1 → (l.take 2000)[j]? = some 10)) (fun _ _ s16 _ => m - (intOf s16).toNat)
  case atStart => exact ⟨0, 0, none, 0, 0, [], Nat.zero_le _, Nat.le_refl _, rfl, rfl, rfl, ⟨⟨rfl, .inl ⟨rfl, rfl⟩⟩, rfl⟩, Nat.le_refl _, Upd.refl _ _, rfl, Lib.hid fun j hj => by omega⟩
  case round =>
    obtain ⟨k, line, A1, m1, c1, ss, hk, hlk, rfl, rfl, rfl, hso, hm1, hu, hat, HLI⟩ := hrel
    have HSO := Lib.hid hso
    have HU := Lib.hid hu
    have HAT := Lib.hid hat
    clear hso hu hat
    by_cases hkm : k < m
    · have hki : (k : Int) < (m : Int) := by omega
      obtain ⟨b, hb⟩ : ∃ b, (l.take 2000)[k]? = some b := ⟨_, List.getElem?_eq_getElem (by have := HL2.out; omega)⟩
      have hbl : l[k]? = some b := by rw [List.getElem?_take] at hb; split at hb; exact hb; cases hb
      obtain ⟨ad, rfl, hB, hcl⟩ := HX.out.2 (by omega)
      have hcell : wr.cell? (ad.add k) = some (.int .u8 b) := (HU.out.cell (p := ad.add k) (by rw [block_add]; exact hB) (fun h => h)).trans (hcl k _ (by rw [byts, List.getElem?_map, hbl]; rfl))
      have HB := Lib.hid hb
      have HCL := Lib.hid hcl
      clear hb hbl hcl
      go_upto_region 6 with fail
      go_cut [9] (fun s9 wx => wr = wx ∧ s9 = .bool (retAt (l.take 2000) k))
      case first =>
        by_cases h0 : 0 < k
        · obtain ⟨j, rfl⟩ : ∃ j, k = j + 1 := ⟨k - 1, by omega⟩
          obtain ⟨p, hp⟩ : ∃ p, (l.take 2000)[j]? = some p := ⟨_, List.getElem?_eq_getElem (by have := HL2.out; omega)⟩
          have hpl : l[j]? = some p := by rw [List.getElem?_take] at hp; split at hp; exact hp; cases hp
          have hcp : wr.cell? (ad.add j) = some (.int .u8 p) := (HU.out.cell (p := ad.add j) (by rw [block_add]; exact hB) (fun h => h)).trans (HCL.out j _ (by rw [byts, List.getElem?_map, hpl]; rfl))
          have hr : retAt (l.take 2000) (j + 1) = decide (p = 13) := by show decide ((l.take 2000)[j]? = some 13) = _; rw [hp]; simp
          have HR := Lib.hid hr
          clear hp hpl hr
          by_cases h13 : p = 13
          · have h13i : ((p : Int) == 13) = true := by simp [h13]
            have H13 := Lib.hid h13
            clear h13
            go_wp2_with fail
            go_meet
            exact ⟨rfl, by rw [HR.out, decide_eq_true H13.out]⟩
          · have h13i : ((p : Int) == 13) = false := by simp; omega
            have H13 := Lib.hid h13
            clear h13
            go_wp2_with fail
            go_meet
            exact ⟨rfl, by rw [HR.out, decide_eq_false H13.out]⟩
        · obtain rfl : k = 0 := by omega
          go_wp2_with fail
          go_meet
          exact ⟨rfl, rfl⟩
      case rest =>
        obtain ⟨rfl, rfl⟩ := hcut
        obtain ⟨rt, hrt⟩ : ∃ rt, retAt (l.take 2000) k = rt := ⟨_, rfl⟩
        rw [hrt]
        have HRT := Lib.hid hrt
        clear hrt
        by_cases h10 : b = 10
        · have e10 : ((b : Int) == 10) = true := by simp [h10]
          have H10 := Lib.hid h10
          have e13 : ((b : Int) == 13) = false := by simp; omega
          have e9 : ((b : Int) == 9) = false := by simp; omega
          have e32 : ¬ (32 : Int) ≤ (b : Int) := by omega
          have n10 : ((b : Int) != 10) = false := by simp [h10]
          clear h10
          cases rt with
          | false =>
            go_wp2_with fail
            go_ret3
            exact ⟨HU.out, .inl ⟨headL_none (HAT.out.odd HB.out (by rw [HRT.out, H10.out]; simp)), rfl⟩⟩
          | true =>
            have hk1 : 1 ≤ k := by
              rcases Nat.eq_zero_or_pos k with h0 | h0
              · have := HRT.out; rw [h0] at this; cases this
              · exact h0
            obtain ⟨j, rfl⟩ : ∃ j, k = j + 1 := ⟨k - 1, by omega⟩
            by_cases hl : j = line
            · have hl1 : ((j : Int) == (line : Int)) = true := by simp [hl]
              have HL := Lib.hid hl
              clear hl
              go_wp2_with fail
              go_ret3
              refine ⟨HU.out, .inr (.inr ⟨_, _, _, _, ss, headL_some (HAT.out.fin (by rw [HB.out, H10.out]) HRT.out (by have := HL.out; omega)), rfl, HSO.out⟩)⟩
            · have hl1 : ((j : Int) == (line : Int)) = false := by simp; omega
              have HL := Lib.hid hl
              have hlj : line ≤ j := by
                rcases Nat.lt_or_ge j line with h | h
                · have h1 := HLI.out j (by omega)
                  have h2 : decide ((l.take 2000)[j]? = some 13) = true := HRT.out
                  rw [h1] at h2
                  simp at h2
                · exact h
              clear hl
              have hrd : Rd wr w.heap.size 1 (some (ad.add line)) (j - line) (byts ((l.drop line).take (j - line))) := by
                have h1 := (HX.out.below (HU.out.belowNix (Nat.le_refl _))).cut (k := line) (by omega) hnc
                rw [if_neg (by omega), Option.map_some, Nat.mul_one] at h1
                have h2 := h1.front (k := j - line) (by omega)
                rw [Nat.mul_one] at h2
                simpa [byts, List.map_take, List.map_drop] using h2
              have kv := run_conv wr hrd (c - line)
              have hbs : bytesOf (strN ((l.drop line).take (j - line))) = ((l.take 2000).drop line).take (j + 1 - 1 - line) := by
                rw [bytesOf_strN (fun x hx => HBY.out x (List.mem_of_mem_drop (List.mem_of_mem_take hx))), List.drop_take, List.take_take]
                congr 1
                omega
              have HBS := Lib.hid hbs
              generalize strN ((l.drop line).take (j - line)) = st at *
              have hkm1 : m1 + 1 ≤ maxLen := by unfold maxLen; omega
              clear hrd hbs
              go_wp2_with (at_builtin; refine wpList_app _ rfl (.tmp 57) (.tmp 64) 142 rfl w.heap.size 9 i0 _ 1 16 Tryz.underlying142 hi0 hz0 hz1 hz2 rfl (by omega) (.slice A1 m1 c1) m1 (ss.map Value.string) rfl (HSO.out.own.alloc _) (wr.heap.size + 1) (some ⟨wr.heap.size, 0, none⟩) 1 1 [.string st] rfl (Rd.lit1 _ _ _) (by intro u hu; simp only [List.mem_singleton] at hu; subst hu; rfl) hkm1 (by omega) (by have := HU.out.size; simp; omega) ?_; intro A5 c5 w5 hown5 hg5 hat5)
              have hu5 : Upd Nix w w5 := (HU.out.alloc _).grown hg5 fun b hb hlt => by have := own_from HSO.out.own b hb; omega
              refine ⟨⟨j + 1 + 1, j + 1 + 1, A5, m1 + 1, c5, ss ++ [st], by omega, by omega, by rfl, by rfl, rfl, ⟨by rw [List.map_append]; exact hown5, by rw [List.length_append, HSO.out.len]; rfl⟩, by omega, hu5, HAT.out.line (by rw [HB.out, H10.out]) HRT.out (by have := HL.out; omega) HBS.out, Lib.hid fun i hi => ?_⟩, ?_⟩
              · obtain rfl : i = j + 1 := by omega
                rw [HB.out, H10.out]
              · simp only [intOf]; omega
        · have e10 : ((b : Int) == 10) = false := by simp; omega
          have H10 := Lib.hid h10
          have n10 : ((b : Int) != 10) = true := by simp; omega
          clear h10
          cases rt with
          | true =>
            go_wp2_with fail
            go_ret3
            exact ⟨HU.out, .inl ⟨headL_none (HAT.out.odd HB.out (by rw [HRT.out, decide_eq_false H10.out]; simp)), rfl⟩⟩
          | false =>
            cases hin : inLine b with
            | false =>
              have hin' := hin
              unfold inLine at hin'
              simp only [Bool.or_eq_false_iff, Bool.and_eq_false_iff, beq_eq_false_iff_ne, decide_eq_false_iff_not] at hin'
              have e13 : ((b : Int) == 13) = false := by simp; omega
              have e9 : ((b : Int) == 9) = false := by simp; omega
              have HIN := Lib.hid hin
              by_cases h32 : 32 ≤ b
              · have e32 : (32 : Int) ≤ (b : Int) := by omega
                have e127 : ¬ (b : Int) < 127 := by omega
                clear hin hin'
                go_wp2_with fail
                go_ret3
                exact ⟨HU.out, .inl ⟨headL_none (HAT.out.bad HB.out H10.out HIN.out), rfl⟩⟩
              · have e32 : ¬ (32 : Int) ≤ (b : Int) := by omega
                clear hin hin'
                go_wp2_with fail
                go_ret3
                exact ⟨HU.out, .inl ⟨headL_none (HAT.out.bad HB.out H10.out HIN.out), rfl⟩⟩
            | true =>
              have HIN := Lib.hid hin
              have hstep := Lib.hid (HAT.out.on HB.out H10.out HRT.out hin hlk)
              have hin' := hin
              unfold inLine at hin'
              simp only [Bool.or_eq_true, Bool.and_eq_true, beq_iff_eq, decide_eq_true_eq] at hin'
              clear hin
              by_cases h13 : b = 13
              · have e13 : ((b : Int) == 13) = true := by simp [h13]
                clear hin' h13
                go_wp2_with fail
                refine ⟨⟨k + 1, line, A1, m1, c1, ss, by omega, by omega, by rfl, rfl, rfl, HSO.out, by omega, HU.out, hstep.out, HLI⟩, ?_⟩
                simp only [intOf]; omega
              · have e13 : ((b : Int) == 13) = false := by simp; omega
                by_cases h9 : b = 9
                · have e9 : ((b : Int) == 9) = true := by simp [h9]
                  clear hin' h13 h9
                  go_wp2_with fail
                  refine ⟨⟨k + 1, line, A1, m1, c1, ss, by omega, by omega, by rfl, rfl, rfl, HSO.out, by omega, HU.out, hstep.out, HLI⟩, ?_⟩
                  simp only [intOf]; omega
                · have e9 : ((b : Int) == 9) = false := by simp; omega
                  have e32 : (32 : Int) ≤ (b : Int) := by omega
                  have e127 : (b : Int) < 127 := by omega
                  clear hin' h13 h9
                  go_wp2_with fail
                  refine ⟨⟨k + 1, line, A1, m1, c1, ss, by omega, by omega, by rfl, rfl, rfl, HSO.out, by omega, HU.out, hstep.out, HLI⟩, ?_⟩
                  simp only [intOf]; omega
    · have hki : ¬ (k : Int) < (m : Int) := by omega
      have hend := HAT.out.end (by rw [HL2.out]; omega)
      have HEND := Lib.hid (headL_end hend)
      clear hend
      by_cases h2 : n < 2000
      · have h2i : (n : Int) < 2000 := by omega
        go_wp2_with fail
        go_ret3
        refine ⟨HU.out, .inr (.inl ⟨?_, rfl⟩)⟩
        rw [HEND.out, if_pos (by have := HLEN.out; omega)]
      · have h2i : ¬ (n : Int) < 2000 := by omega
        go_wp2_with fail
        go_ret3
        refine ⟨HU.out, .inl ⟨?_, rfl⟩⟩
        rw [HEND.out, if_neg (by have := HLEN.out; omega)]
end Go.Proofs.YtageanmjdfodnaaGreatDoor
