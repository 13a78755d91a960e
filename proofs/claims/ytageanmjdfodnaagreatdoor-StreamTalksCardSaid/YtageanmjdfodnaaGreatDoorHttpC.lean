/- Replies: the walks of ParseReply, Reply. -/
import Derived.Test.YtageanmjdfodnaaGreatDoorHttpB
namespace Go.Proofs.YtageanmjdfodnaaGreatDoor
open Go.RowKit Go.Cx Go.Maps

theorem Parsed.trans {r : Reply} {w w1 : World} {e : Ending} {w' : World} (h : Parsed r w1 e w') (k : Upd Nix w w1) : Parsed r w e w' := by
  obtain ⟨A, n, c, A', n', c', he, h1, h2, h3⟩ := h
  exact ⟨A, n, c, A', n', c', he, h1, h2, k.trans h3 fun _ _ h => h⟩

set_option maxRecDepth 100000 in
set_option maxHeartbeats 6400000 in
theorem http_parse (A : Option Addr) (n c : Nat) (l : List Nat) (w : World) (hx : Rd w w.heap.size 1 A n (byts l)) (hb : ∀ b ∈ l, b < 256) (hn : n ≤ 140737488355328) (ht : Tab10 w) :
    Calls Tryz.prog 12 #[.slice A n c] w (Parsed (parseL l) w) := by
  have kc := fun (w : World) (s : ByteArray) => Lib.run_convert_string_bytes (P := Tryz.prog) w 9 29 5 s Tryz.underlying9 Tryz.underlying29 Tryz.underlying5
  have k1 := run_conv w hx c
  have hlen := hx.1
  simp only [byts, List.length_map, Nat.mul_one] at hlen
  have hbs := bytesOf_strN hb
  generalize strN l = s at k1 hbs
  have hss : s.size ≤ 140737488355328 := by rw [← bytesOf_len, hbs]; omega
  have HT := Lib.hid ht
  have HBS := Lib.hid hbs
  have HX := Lib.hid hx
  have HB := Lib.hid hb
  clear ht hbs hx hb
  obtain ⟨⟨r1, e1⟩, h1⟩ : ∃ q, afterL l badL = q := ⟨_, rfl⟩
  obtain ⟨⟨r2, e2⟩, h2⟩ : ∃ q, afterL l goodL = q := ⟨_, rfl⟩
  have H1 := Lib.hid h1
  have H2 := Lib.hid h2
  clear h1 h2
  go_enter Tryz.func12, Tryz.ntmps12
  go_wp2_with fail
  refine (http_after s _ w).mono ?_
  have hbad : ∀ x : ByteArray, bytesOf x = badL → afterL (bytesOf s) (bytesOf x) = (r1, e1) := fun x hx => by rw [HBS.out, hx, H1.out]
  rw [hbad _ (by decide +kernel)]
  rintro e w1 ⟨⟨r, rfl, hr⟩, rfl⟩
  simp only at hr ⊢
  cases e1 with
  | zero =>
    have hp : parseL l = (400, [], r1, 0) := by unfold parseL; rw [H1.out]; rfl
    have HP := Lib.hid hp
    have HR := Lib.hid hr
    clear hp hr hbad
    go_wp2_with fail
    have hu := upd_str w 5 r
    have hr1 := Rd.str w 5 r
    rw [HR.out] at hr1
    have hs1 := Lib.bytesWorld_size w 5 r
    rw [← hs1] at hr1
    refine bodyPost_ret (results_tmp4 rfl _ _ _) rfl ?_
    rw [HP.out]
    exact ⟨_, _, _, _, _, _, rfl, Rd.nil _ _ _, hr1, hu⟩
  | succ e1 =>
    have hz : ¬ ((e1 + 1 : Nat) : Int) = 0 := by omega
    clear hbad hr
    go_wp2_with fail
    refine (http_after s _ w).mono ?_
    have hgood : ∀ x : ByteArray, bytesOf x = goodL → afterL (bytesOf s) (bytesOf x) = (r2, e2) := fun x hx => by rw [HBS.out, hx, H2.out]
    rw [hgood _ (by decide +kernel)]
    rintro e w1 ⟨⟨r, rfl, hr⟩, rfl⟩
    simp only at hr ⊢
    cases e2 with
    | zero =>
      have hp : parseL l = sizedL r2 := by unfold parseL; rw [H1.out, H2.out]; rfl
      have hrs : r.size ≤ 140737488355328 := by
        have h2 : r2 = (afterL l goodL).1 := by rw [H2.out]
        rw [← bytesOf_len, hr, h2]
        unfold afterL
        split
        · rw [List.length_drop]; omega
        · split <;> simp
      have HP := Lib.hid hp
      have HR := Lib.hid hr
      clear hp hr hgood
      go_wp2_with fail
      refine (http_sized r w hrs HT.out).mono ?_
      rw [HR.out]
      rintro e w2 ⟨A1, n1, c1, A2, n2, c2, rfl, hr1, hr2, hu2⟩
      have HR1 := Lib.hid hr1
      have HR2 := Lib.hid hr2
      have HU2 := Lib.hid hu2
      clear hr1 hr2 hu2
      go_wp2_with fail
      refine bodyPost_ret (results_tmp4 rfl _ _ _) rfl ?_
      rw [HP.out]
      exact ⟨_, _, _, _, _, _, rfl, HR1.out, HR2.out, HU2.out⟩
    | succ e2 =>
      have hp : parseL l = (0, [], [], if e1 + 1 = 20 then e1 + 1 else e2 + 1) := by unfold parseL; rw [H1.out, H2.out]; rfl
      have hz2 : ¬ ((e2 + 1 : Nat) : Int) = 0 := by omega
      clear hgood hr
      by_cases h20 : e1 + 1 = 20
      · rw [if_pos h20] at hp
        have HP := Lib.hid hp
        have h19 : e1 = 19 := by omega
        subst h19
        clear hp
        go_wp2_with fail
        refine bodyPost_ret (results_tmp4 rfl _ _ _) rfl ?_
        rw [HP.out]
        exact ⟨_, _, _, _, _, _, rfl, Rd.nil _ _ _, Rd.nil _ _ _, Upd.refl _ _⟩
      · rw [if_neg h20] at hp
        have HP := Lib.hid hp
        have h20i : ¬ ((e1 + 1 : Nat) : Int) = 20 := by omega
        clear hp
        go_wp2_with fail
        refine bodyPost_ret (results_tmp4 rfl _ _ _) rfl ?_
        rw [HP.out]
        exact ⟨_, _, _, _, _, _, rfl, Rd.nil _ _ _, Rd.nil _ _ _, Upd.refl _ _⟩

set_option maxRecDepth 100000 in
set_option maxHeartbeats 6400000 in
/-- a reply of 200 -/
theorem http_reply (A : Option Addr) (n c : Nat) (l : List Nat) (keep : Bool) (w : World) (hx : Rd w w.heap.size 1 A n (byts l)) (hn : n ≤ 65535) (ht : Tab10 w) :
    Calls Tryz.prog 81 #[.int .i64 200, .slice A n c, .bool keep] w fun e w' => (∃ A' n' c', e = .returned (.tuple #[.slice A' n' c', .int .i64 0]) ∧ n' = (replyL l keep).length ∧ n' ≤ c' ∧ Rd w' w'.heap.size 1 A' n' (byts (replyL l keep))) ∧ Upd Nix w w' := by
  have kc := fun (w : World) (s : ByteArray) => Lib.run_convert_string_bytes (P := Tryz.prog) w 9 29 5 s Tryz.underlying9 Tryz.underlying29 Tryz.underlying5
  have hlen := hx.1
  simp only [byts, List.length_map, Nat.mul_one] at hlen
  have hni : ¬ (65535 : Int) < (n : Int) := by omega
  have HX := Lib.hid hx
  have HT := Lib.hid ht
  clear hx ht
  obtain ⟨i0, hi0, hz0, hz1, hz2⟩ := info_parts infoU8
  cases keep
  case' false =>
    go_enter Tryz.func81, Tryz.ntmps81
    go_upto_region 13 with fail
    generalize hbh : ({ data := #[13, 10, 67, 111, 110, 110, 101, 99, 116, 105, 111, 110, 58, 32, 99, 108, 111, 115, 101, 13, 10, 13, 10] } : ByteArray) = bh
    have hbl : bytesOf bh = behindL false := by rw [← hbh]; decide +kernel
  case' true =>
    go_enter Tryz.func81, Tryz.ntmps81
    go_upto_region 13 with fail
    generalize hbh : ({ data := #[13, 10, 13, 10] } : ByteArray) = bh
    have hbl : bytesOf bh = behindL true := by rw [← hbh]; decide +kernel
  all_goals
    have hbn : bh.size ≤ 30 := by rw [← bytesOf_len, hbl]; decide +kernel
    clear hbh
    have HBL := Lib.hid hbl
    clear hbl
    go_wp2_with fail
    refine (itoa_call n (by omega) w HT.out).mono ?_
    rintro e w1 ⟨⟨a, rfl, ha⟩, hu1⟩
    have han : a.size ≤ 5 := by
      rw [← bytesOf_len, ha]
      exact (itoa_len n 4 (by omega)).2
    have HU1 := Lib.hid hu1
    have HA := Lib.hid ha
    clear hu1 ha
    have hx1 : Rd w1 w.heap.size 1 A n (byts l) := HX.out.below (Upd.belowNix HU1.out (Nat.le_refl _))
    have HX1 := Lib.hid hx1
    clear hx1
    have hgl : ∀ x : ByteArray, bytesOf x = goodL → bytesOf (x ++ a ++ bh) = goodL ++ itoaL n ++ behindL _ := fun x hx => by rw [bytesOf_append, bytesOf_append, hx, HA.out, HBL.out]
    go_wp2_with (at_builtin; refine wpList_app_str rfl (.tmp 32) (.tmp 33) 29 rfl w1 _ 5 i0 _ Tryz.underlying29 hi0 hz0 hz1 hz2 rfl (72 + a.size + bh.size) _ (hgl _ (by decide +kernel)) (by simp only [ByteArray.size_append]; rfl) rfl w.heap.size A n c l rfl (HX1.out.below (below_str w1 _ _ HU1.out.size)) (by omega) ?_; intro ad c' w2 hr2 hc2 hf2 hu2)
    have HR2 := Lib.hid hr2
    have HU2 := Lib.hid hu2
    have hlr : (goodL ++ itoaL n).length = 72 + a.size := by rw [List.length_append, ← HA.out, bytesOf_len]; rfl
    have hlb := congrArg List.length HBL.out
    rw [bytesOf_len] at hlb
    have HLR := Lib.hid hlr
    have HLB := Lib.hid hlb
    clear hr2 hu2 hf2 hlr hlb
    go_wp2_with fail
    refine bodyPost_ret (results_tmp2 rfl _ _ _) rfl ?_
    refine ⟨⟨_, _, _, rfl, ?_, hc2, ?_⟩, HU1.out.trans HU2.out fun _ _ h => h⟩
    · unfold replyL
      rw [hlen, List.length_append, List.length_append, HLR.out, ← HLB.out, hlen]
    · have := HR2.out
      unfold replyL
      rw [hlen]
      simpa only [List.append_assoc] using this
end Go.Proofs.YtageanmjdfodnaaGreatDoor
