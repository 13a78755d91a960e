/- http.Reply, ciceroneref13.Reply: of any code, body. -/
import Derived.Test.YtbjjimbnaicbfaaDoorRefAsk
import Derived.Test.YtbjjimbnaicbfaaDoorHttpReplied
namespace Go.Proofs.YtbjjimbnaicbfaaDoor
open Go.RowKit Go.Cx Go.Maps

theorem Rd.litF (w : World) (xs : List Value) (e : TypeId) (size n : Nat) (f : Nat × Nat) (h : xs.length = n * size) : Rd (w.alloc (.cells xs.toArray e f)) (w.heap.size + 1) size (some ⟨w.heap.size, 0, none⟩) n xs := by
  refine ⟨h, fun _ => ⟨_, rfl, Nat.lt_succ_self _, fun j u hu => ?_⟩⟩
  have hadd : (⟨w.heap.size, 0, none⟩ : Addr).add j = ⟨w.heap.size, j, none⟩ := by
    unfold Addr.add
    split <;> simp_all
  rw [hadd, World.cell?_alloc_mark]
  simpa using hu
def replyB (code : Int) (l : List Nat) (keep : Bool) : List Nat × Nat :=
  if code = 400 then (if l = [] ∧ keep = false then (badL, 0) else ([], 1)) else if code = 200 then (if l.length ≤ 65535 then (replyL l keep, 0) else ([], 1)) else ([], 1)
def ReplyIs (R : List Nat × Nat) (w : World) (e : Ending) (w' : World) : Prop :=
  (∃ (A : Option Addr) (n c : Nat), e = .returned (.tuple #[.slice A n c, .int .i64 (R.2 : Nat)]) ∧ Rd w' w'.heap.size 1 A n (byts R.1)) ∧ Upd Nix w w'
theorem reply_no (w : World) : ReplyIs ([], 1) w (.returned (.tuple #[.slice none 0 0, .int .i64 1])) w := ⟨⟨none, 0, 0, rfl, Rd.nil _ _ _⟩, Upd.refl _ _⟩
theorem reply_bad (w : World) : ReplyIs (badL, 0) w (.returned (.tuple #[.slice (some ⟨w.heap.size, 0, none⟩) 66 66, .int .i64 0])) (w.alloc (.cells (byts badL).toArray 5 (66, 67))) :=
  ⟨⟨_, 66, 66, rfl, (Rd.litF w (byts badL) 5 1 66 (66, 67) (by decide)).more (by simp)⟩, (Upd.refl _ _).alloc _⟩
set_option maxRecDepth 100000 in
set_option maxHeartbeats 6400000 in
theorem http_reply_any (code : Int) (A : Option Addr) (n c : Nat) (l : List Nat) (keep : Bool) (w : World) (hx : Rd w w.heap.size 1 A n (byts l)) (ht : Tab10 w) :
    Calls Tryd.prog 9 #[.int .i64 code, .slice A n c, .bool keep] w (ReplyIs (replyB code l keep) w) := by
  have hlen := hx.1
  simp only [byts, List.length_map, Nat.mul_one] at hlen
  have kc := fun (w : World) (C : Array Value) (n c : Nat) => Lib.run_convert_bytes_const (P := Tryd.prog) w 22 5 C n c Tryd.underlying22 Tryd.underlying5
  by_cases h4 : code = 400
  · subst h4
    by_cases hl : l = [] ∧ keep = false
    · obtain ⟨rfl, rfl⟩ := hl
      obtain rfl : n = 0 := hlen.symm
      have hR : replyB 400 [] false = (badL, 0) := rfl
      have HR := Lib.hid hR
      clear hR hx
      go_enter Tryd.func9, Tryd.ntmps9
      go_wp2_with fail
      go_ret2
      rw [HR.out]
      exact reply_bad w
    · have hR : replyB 400 l keep = ([], 1) := by unfold replyB; rw [if_pos rfl, if_neg hl]
      have HR := Lib.hid hR
      cases keep with
      | true =>
        clear hR hx hl hlen
        by_cases hn : 0 < n
        · have hni : (0 : Int) < (n : Int) := by omega
          go_enter Tryd.func9, Tryd.ntmps9
          go_wp2_with fail
          go_ret2
          rw [HR.out]
          exact reply_no w
        · obtain rfl : n = 0 := by omega
          go_enter Tryd.func9, Tryd.ntmps9
          go_wp2_with fail
          go_ret2
          rw [HR.out]
          exact reply_no w
      | false =>
        have hn : 0 < n := by
          rcases Nat.eq_zero_or_pos n with h | h
          · exact absurd ⟨List.eq_nil_of_length_eq_zero (by omega), rfl⟩ hl
          · exact h
        have hni : (0 : Int) < (n : Int) := by omega
        clear hR hx hl hlen
        go_enter Tryd.func9, Tryd.ntmps9
        go_wp2_with fail
        go_ret2
        rw [HR.out]
        exact reply_no w
  · by_cases h2 : code = 200
    · subst h2
      by_cases hn : n ≤ 65535
      · have hR : replyB 200 l keep = (replyL l keep, 0) := by unfold replyB; rw [if_neg (by decide), if_pos rfl, if_pos (by omega)]
        rw [hR]
        refine (http_reply A n c l keep w hx hn ht).mono ?_
        rintro e w' ⟨⟨A', n', c', rfl, _, _, hr⟩, hu⟩
        exact ⟨⟨A', n', c', rfl, hr⟩, hu⟩
      · have hR : replyB 200 l keep = ([], 1) := by unfold replyB; rw [if_neg (by decide), if_pos rfl, if_neg (by omega)]
        have HR := Lib.hid hR
        have hni : (65535 : Int) < (n : Int) := by omega
        clear hR hx hlen
        go_enter Tryd.func9, Tryd.ntmps9
        go_wp2_with fail
        go_ret2
        rw [HR.out]
        exact reply_no w
    · have hR : replyB code l keep = ([], 1) := by unfold replyB; rw [if_neg h4, if_neg h2]
      have HR := Lib.hid hR
      have b4 : (code == 400) = false := by simp [h4]
      have b2 : (code == 200) = false := by simp [h2]
      clear hR hx hlen
      go_enter Tryd.func9, Tryd.ntmps9
      go_wp2_with fail
      go_ret2
      rw [HR.out]
      exact reply_no w
set_option maxRecDepth 100000 in
set_option maxHeartbeats 6400000 in
theorem ref_reply_200 (A : Option Addr) (n c : Nat) (l : List Nat) (keep : Bool) (w : World) (hx : Rd w w.heap.size 1 A n (byts l)) (hn : n ≤ 65535) :
    Calls Tryd.prog 17 #[.int .i64 200, .slice A n c, .bool keep] w (ReplyIs (replyL l keep, 0) w) := by
  have kc := fun (w : World) (s : ByteArray) => Lib.run_convert_string_bytes (P := Tryd.prog) w 9 22 5 s Tryd.underlying9 Tryd.underlying22 Tryd.underlying5
  have hlen := hx.1
  simp only [byts, List.length_map, Nat.mul_one] at hlen
  have hni : ¬ (65535 : Int) < (n : Int) := by omega
  have HX := Lib.hid hx
  have HLEN := Lib.hid hlen
  clear hx hlen
  obtain ⟨i0, hi0, hz0, hz1, hz2⟩ := info_parts infoU8
  cases keep
  · go_enter Tryd.func17, Tryd.ntmps17
    go_wp2_with fail
    refine (ref_decimal n hn w).mono ?_
    rintro e w1 ⟨a, rfl, ha, rfl⟩
    have han : a.size ≤ 5 := by
      rw [← bytesOf_len, ha]
      exact (itoa_len n 4 (by omega)).2
    have HA := Lib.hid ha
    clear ha
    have hgl : ∀ x y z u : ByteArray, bytesOf x = goodL → bytesOf y = [13, 10] → bytesOf z = [67, 111, 110, 110, 101, 99, 116, 105, 111, 110, 58, 32, 99, 108, 111, 115, 101, 13, 10] → bytesOf u = [13, 10] → bytesOf (x ++ a ++ y ++ z ++ u) = goodL ++ itoaL n ++ behindL false := fun x y z u hx hy hz hu => by
      rw [bytesOf_append, bytesOf_append, bytesOf_append, bytesOf_append, hx, hy, hz, hu, HA.out]
      simp [behindL, closeL]
    go_wp2_with (at_builtin; refine wpList_app_str rfl (.tmp 47) (.tmp 48) 22 rfl w _ 5 i0 _ Tryd.underlying22 hi0 hz0 hz1 hz2 rfl (72 + a.size + 2 + 19 + 2) _ (hgl _ _ _ _ (by decide +kernel) (by decide +kernel) (by decide +kernel) (by decide +kernel)) (by simp only [ByteArray.size_append]; rfl) rfl w.heap.size A n c l rfl (HX.out.below (below_str w _ _ (Nat.le_refl _))) (by omega) ?_; intro ad c' w2 hr2 hc2 hf2 hu2)
    have HR2 := Lib.hid hr2
    have HU2 := Lib.hid hu2
    clear hr2 hu2 hf2
    go_wp2_with fail
    refine bodyPost_ret (results_tmp2 rfl _ _ _) rfl ?_
    refine ⟨⟨_, _, _, rfl, ?_⟩, HU2.out⟩
    have := HR2.out
    show Rd _ _ _ _ _ (byts (replyL l false))
    unfold replyL
    rw [HLEN.out]
    simpa only [List.append_assoc] using this
  · go_enter Tryd.func17, Tryd.ntmps17
    go_wp2_with fail
    refine (ref_decimal n hn w).mono ?_
    rintro e w1 ⟨a, rfl, ha, rfl⟩
    have han : a.size ≤ 5 := by
      rw [← bytesOf_len, ha]
      exact (itoa_len n 4 (by omega)).2
    have HA := Lib.hid ha
    clear ha
    have hgl : ∀ x y u : ByteArray, bytesOf x = goodL → bytesOf y = [13, 10] → bytesOf u = [13, 10] → bytesOf (x ++ a ++ y ++ u) = goodL ++ itoaL n ++ behindL true := fun x y u hx hy hu => by
      rw [bytesOf_append, bytesOf_append, bytesOf_append, hx, hy, hu, HA.out]
      simp [behindL, endL]
    go_wp2_with (at_builtin; refine wpList_app_str rfl (.tmp 47) (.tmp 48) 22 rfl w _ 5 i0 _ Tryd.underlying22 hi0 hz0 hz1 hz2 rfl (72 + a.size + 2 + 2) _ (hgl _ _ _ (by decide +kernel) (by decide +kernel) (by decide +kernel)) (by simp only [ByteArray.size_append]; rfl) rfl w.heap.size A n c l rfl (HX.out.below (below_str w _ _ (Nat.le_refl _))) (by omega) ?_; intro ad c' w2 hr2 hc2 hf2 hu2)
    have HR2 := Lib.hid hr2
    have HU2 := Lib.hid hu2
    clear hr2 hu2 hf2
    go_wp2_with fail
    refine bodyPost_ret (results_tmp2 rfl _ _ _) rfl ?_
    refine ⟨⟨_, _, _, rfl, ?_⟩, HU2.out⟩
    have := HR2.out
    show Rd _ _ _ _ _ (byts (replyL l true))
    unfold replyL
    rw [HLEN.out]
    simpa only [List.append_assoc] using this
set_option maxRecDepth 100000 in
set_option maxHeartbeats 6400000 in
theorem ref_reply_any (code : Int) (A : Option Addr) (n c : Nat) (l : List Nat) (keep : Bool) (w : World) (hx : Rd w w.heap.size 1 A n (byts l)) :
    Calls Tryd.prog 17 #[.int .i64 code, .slice A n c, .bool keep] w (ReplyIs (replyB code l keep) w) := by
  have hlen := hx.1
  simp only [byts, List.length_map, Nat.mul_one] at hlen
  have kc := fun (w : World) (C : Array Value) (n c : Nat) => Lib.run_convert_bytes_const (P := Tryd.prog) w 22 5 C n c Tryd.underlying22 Tryd.underlying5
  by_cases h4 : code = 400
  · subst h4
    by_cases hl : l = [] ∧ keep = false
    · obtain ⟨rfl, rfl⟩ := hl
      obtain rfl : n = 0 := hlen.symm
      have hR : replyB 400 [] false = (badL, 0) := rfl
      have HR := Lib.hid hR
      clear hR hx
      go_enter Tryd.func17, Tryd.ntmps17
      go_wp2_with fail
      go_ret2
      rw [HR.out]
      exact reply_bad w
    · have hR : replyB 400 l keep = ([], 1) := by unfold replyB; rw [if_pos rfl, if_neg hl]
      have HR := Lib.hid hR
      have hcase : 65535 < n ∨ (n ≤ 65535 ∧ 0 < n) ∨ (n = 0 ∧ keep = true) := by
        rcases Nat.eq_zero_or_pos n with h | h
        · right; right
          refine ⟨h, ?_⟩
          cases keep with
          | true => rfl
          | false => exact absurd ⟨List.eq_nil_of_length_eq_zero (by omega), rfl⟩ hl
        · by_cases h6 : n ≤ 65535
          · exact .inr (.inl ⟨h6, h⟩)
          · exact .inl (by omega)
      clear hR hx hl hlen
      rcases hcase with h | ⟨h, h'⟩ | ⟨rfl, rfl⟩
      · have hni : (65535 : Int) < (n : Int) := by omega
        go_enter Tryd.func17, Tryd.ntmps17
        go_wp2_with fail
        go_ret2
        rw [HR.out]
        exact reply_no w
      · have hni : ¬ (65535 : Int) < (n : Int) := by omega
        have hn0 : (0 : Int) < (n : Int) := by omega
        go_enter Tryd.func17, Tryd.ntmps17
        go_wp2_with fail
        go_ret2
        rw [HR.out]
        exact reply_no w
      · go_enter Tryd.func17, Tryd.ntmps17
        go_wp2_with fail
        go_ret2
        rw [HR.out]
        exact reply_no w
  · by_cases h2 : code = 200
    · subst h2
      by_cases hn : n ≤ 65535
      · have hR : replyB 200 l keep = (replyL l keep, 0) := by unfold replyB; rw [if_neg (by decide), if_pos rfl, if_pos (by omega)]
        rw [hR]
        exact ref_reply_200 A n c l keep w hx hn
      · have hR : replyB 200 l keep = ([], 1) := by unfold replyB; rw [if_neg (by decide), if_pos rfl, if_neg (by omega)]
        have HR := Lib.hid hR
        have hni : (65535 : Int) < (n : Int) := by omega
        clear hR hx hlen
        go_enter Tryd.func17, Tryd.ntmps17
        go_wp2_with fail
        go_ret2
        rw [HR.out]
        exact reply_no w
    · have hR : replyB code l keep = ([], 1) := by unfold replyB; rw [if_neg h4, if_neg h2]
      have HR := Lib.hid hR
      have b4 : (code != 400) = true := by simp [h4]
      have b2 : (code != 200) = true := by simp [h2]
      clear hR hx hlen
      go_enter Tryd.func17, Tryd.ntmps17
      go_wp2_with fail
      go_ret2
      rw [HR.out]
      exact reply_no w
end Go.Proofs.YtbjjimbnaicbfaaDoor
