/- Replies: the walk of ParseReply. -/
import Derived.Test.YtbjjimbnaicbfaaGreatDoorHttpB
namespace Go.Proofs.YtbjjimbnaicbfaaGreatDoor
open Go.RowKit Go.Cx Go.Maps

theorem Parsed.trans {r : Reply} {w w1 : World} {e : Ending} {w' : World} (h : Parsed r w1 e w') (k : Upd Nix w w1) : Parsed r w e w' := by
  obtain ⟨A, n, c, A', n', c', he, h1, h2, h3⟩ := h
  exact ⟨A, n, c, A', n', c', he, h1, h2, k.trans h3 fun _ _ h => h⟩

set_option maxRecDepth 100000 in
set_option maxHeartbeats 6400000 in
theorem http_parse (A : Option Addr) (n c : Nat) (l : List Nat) (w : World) (hx : Rd w w.heap.size 1 A n (byts l)) (hb : ∀ b ∈ l, b < 256) (hn : n ≤ 140737488355328) (ht : Tab10 w) :
    Calls Tryz.prog 13 #[.slice A n c] w (Parsed (parseL l) w) := by
  have kc := fun (w : World) (s : ByteArray) => Lib.run_convert_string_bytes (P := Tryz.prog) w 9 26 5 s Tryz.underlying9 Tryz.underlying26 Tryz.underlying5
  have k1 := run_conv w hx c
  have hlen := hx.1
  simp only [byts, List.length_map, Nat.mul_one] at hlen
  have hbs := bytesOf_strN hb
  generalize strN l = s at k1 hbs
  have hss : s.size ≤ 140737488355328 := by rw [← bytesOf_len, hbs]; omega
  have HT := Lib.hid ht
  have HBS := Lib.hid hbs
  have HX := Lib.hid hx
  have HB := Lib.hid hb
  clear ht hbs hx hb
  obtain ⟨⟨r1, e1⟩, h1⟩ : ∃ q, afterL l badL = q := ⟨_, rfl⟩
  obtain ⟨⟨r2, e2⟩, h2⟩ : ∃ q, afterL l goodL = q := ⟨_, rfl⟩
  have H1 := Lib.hid h1
  have H2 := Lib.hid h2
  clear h1 h2
  go_enter Tryz.func13, Tryz.ntmps13
  go_wp2_with fail
  refine (http_after s _ w).mono ?_
  have hbad : ∀ x : ByteArray, bytesOf x = badL → afterL (bytesOf s) (bytesOf x) = (r1, e1) := fun x hx => by rw [HBS.out, hx, H1.out]
  rw [hbad _ (by decide +kernel)]
  rintro e w1 ⟨⟨r, rfl, hr⟩, rfl⟩
  simp only at hr ⊢
  cases e1 with
  | zero =>
    have hp : parseL l = (400, [], r1, 0) := by unfold parseL; rw [H1.out]; rfl
    have HP := Lib.hid hp
    have HR := Lib.hid hr
    clear hp hr hbad
    go_wp2_with fail
    have hu := upd_str w 5 r
    have hr1 := Rd.str w 5 r
    rw [HR.out] at hr1
    have hs1 := Lib.bytesWorld_size w 5 r
    rw [← hs1] at hr1
    refine bodyPost_ret (results_tmp4 rfl _ _ _) rfl ?_
    rw [HP.out]
    exact ⟨_, _, _, _, _, _, rfl, Rd.nil _ _ _, hr1, hu⟩
  | succ e1 =>
    have hz : ¬ ((e1 + 1 : Nat) : Int) = 0 := by omega
    clear hbad hr
    go_wp2_with fail
    refine (http_after s _ w).mono ?_
    have hgood : ∀ x : ByteArray, bytesOf x = goodL → afterL (bytesOf s) (bytesOf x) = (r2, e2) := fun x hx => by rw [HBS.out, hx, H2.out]
    rw [hgood _ (by decide +kernel)]
    rintro e w1 ⟨⟨r, rfl, hr⟩, rfl⟩
    simp only at hr ⊢
    cases e2 with
    | zero =>
      have hp : parseL l = sizedL r2 := by unfold parseL; rw [H1.out, H2.out]; rfl
      have hrs : r.size ≤ 140737488355328 := by
        have h2 : r2 = (afterL l goodL).1 := by rw [H2.out]
        rw [← bytesOf_len, hr, h2]
        unfold afterL
        split
        · rw [List.length_drop]; omega
        · split <;> simp
      have HP := Lib.hid hp
      have HR := Lib.hid hr
      clear hp hr hgood
      go_wp2_with fail
      refine (http_sized r w hrs HT.out).mono ?_
      rw [HR.out]
      rintro e w2 ⟨A1, n1, c1, A2, n2, c2, rfl, hr1, hr2, hu2⟩
      have HR1 := Lib.hid hr1
      have HR2 := Lib.hid hr2
      have HU2 := Lib.hid hu2
      clear hr1 hr2 hu2
      go_wp2_with fail
      refine bodyPost_ret (results_tmp4 rfl _ _ _) rfl ?_
      rw [HP.out]
      exact ⟨_, _, _, _, _, _, rfl, HR1.out, HR2.out, HU2.out⟩
    | succ e2 =>
      have hp : parseL l = (0, [], [], if e1 + 1 = 20 then e1 + 1 else e2 + 1) := by unfold parseL; rw [H1.out, H2.out]; rfl
      have hz2 : ¬ ((e2 + 1 : Nat) : Int) = 0 := by omega
      clear hgood hr
      by_cases h20 : e1 + 1 = 20
      · rw [if_pos h20] at hp
        have HP := Lib.hid hp
        have h19 : e1 = 19 := by omega
        subst h19
        clear hp
        go_wp2_with fail
        refine bodyPost_ret (results_tmp4 rfl _ _ _) rfl ?_
        rw [HP.out]
        exact ⟨_, _, _, _, _, _, rfl, Rd.nil _ _ _, Rd.nil _ _ _, Upd.refl _ _⟩
      · rw [if_neg h20] at hp
        have HP := Lib.hid hp
        have h20i : ¬ ((e1 + 1 : Nat) : Int) = 20 := by omega
        clear hp
        go_wp2_with fail
        refine bodyPost_ret (results_tmp4 rfl _ _ _) rfl ?_
        rw [HP.out]
        exact ⟨_, _, _, _, _, _, rfl, Rd.nil _ _ _, Rd.nil _ _ _, Upd.refl _ _⟩

end Go.Proofs.YtbjjimbnaicbfaaGreatDoor
