/- ciceroneref13.ParseReply. -/
import Derived.Test.YtbjjimbnaicbfaaGreatDoorRefNum
import Derived.Test.YtbjjimbnaicbfaaGreatDoorHttpP
import Derived.Test.YtbjjimbnaicbfaaGreatDoorHttpBg
import Derived.Outline
import Derived.Deep.DeepCutAuto
import Derived.Deep.CutBlock
namespace Go.Proofs.YtbjjimbnaicbfaaGreatDoor
open Go.RowKit Go.Cx Go.Maps

theorem parsed_err (k : Nat) (w w' : World) (h : Upd Nix w w') : Parsed (0, [], [], k) w (.returned (.tuple #[.int .i64 0, .slice none 0 0, .slice none 0 0, .int .i64 (k : Nat)])) w' :=
  ⟨none, 0, 0, none, 0, 0, rfl, Rd.nil _ _ _, Rd.nil _ _ _, h⟩
set_option maxRecDepth 100000 in
set_option maxHeartbeats 6400000 in
/-- what begins with the whole text of 400 -/
theorem ref_parse_bad (A : Option Addr) (n c : Nat) (l : List Nat) (w : World) (hx : Rd w w.heap.size 1 A n (byts l)) (hb : ∀ b ∈ l, b < 256) (hn : n ≤ 140737488355328) (hnc : n ≤ c) (hbad : badL <+: l) :
    Calls Tryz.prog 14 #[.slice A n c] w (Parsed (parseL l) w) := by
  have k1 := run_conv w hx c
  have hlen := hx.1
  simp only [byts, List.length_map, Nat.mul_one] at hlen
  have hbs := bytesOf_strN hb
  generalize strN l = s at k1 hbs
  have hss : s.size = n := by rw [← bytesOf_len, hbs, hlen]
  have hb66 : badL.length = 66 := rfl
  have h66 : 66 ≤ n := by have := hbad.length_le; omega
  rw [parse_bad hbad, hb66]
  obtain ⟨i0, hi0, hz0, hz1, hz2⟩ := info_parts infoU8
  obtain ⟨ad, rfl, hadB, _⟩ := hx.2 (by omega)
  have hq : ((s.extract 0 66).toList == ([72, 84, 84, 80, 47, 49, 46, 49, 32, 52, 48, 48, 32, 66, 97, 100, 32, 82, 101, 113, 117, 101, 115, 116, 13, 10, 67, 111, 110, 116, 101, 110, 116, 45, 76, 101, 110, 103, 116, 104, 58, 32, 48, 13, 10, 67, 111, 110, 110, 101, 99, 116, 105, 111, 110, 58, 32, 99, 108, 111, 115, 101, 13, 10, 13, 10] : List UInt8)) = true := by
    rw [str_lit (s.extract 0 66) _ badL rfl, bytesOf_to, hbs]
    exact decide_eq_true (by
      obtain ⟨t, rfl⟩ := hbad
      rw [← hb66, List.take_left])
  have hi66 : (66 : Int) ≤ (s.size : Int) := by omega
  have hi1 : (66 : Int) ≤ (n : Int) := by omega
  have hi2 : (n : Int) ≤ (c : Int) := by omega
  have hi3 : 66 ≤ c := by omega
  have hcut := hx.cut h66 hnc
  have hbc : ∀ u ∈ byts (l.drop 66), u.oneCell' = true := by
    intro u hu
    simp only [byts, List.mem_map] at hu
    obtain ⟨b, _, rfl⟩ := hu
    rfl
  have hm1 : 0 + (n - 66) ≤ maxLen := by unfold maxLen; omega
  have hm2 : (0 + (n - 66)) * 1 ≤ 140737488355328 := by omega
  have HBC := Lib.hid hbc
  clear hx hbc hbs hss
  by_cases hc : c = 66
  · obtain rfl : n = 66 := by omega
    subst hc
    have hl0 : l.drop 66 = [] := List.drop_eq_nil_of_le (by omega)
    rw [hl0]
    clear hcut HBC hl0
    go_enter Tryz.func14, Tryz.ntmps14
    go_wp2_with fail
    refine bodyPost_ret (results_tmp4 rfl _ _ _) rfl ?_
    exact ⟨none, 0, 0, _, 0, _, rfl, Rd.nil _ _ _, Rd.nil _ _ _, (Upd.refl Nix w).alloc _⟩
  · have hcut2 : Rd w w.heap.size 1 (some ⟨ad.block, ad.off + 66, none⟩) (n - 66) (byts (l.drop 66)) := by
      rw [if_neg hc] at hcut
      have hadd : ad.add 66 = ⟨ad.block, ad.off + 66, none⟩ := by unfold Addr.add; simp
      simp only [Option.map_some, Nat.mul_one, hadd] at hcut
      simpa [byts] using hcut
    have HCUT := Lib.hid hcut2
    clear hcut hcut2
    go_enter Tryz.func14, Tryz.ntmps14
    go_wp2_with (at_builtin; refine wpList_app _ rfl (.tmp 22) (.tmp 24) 26 rfl w.heap.size 5 i0 _ 1 1 Tryz.underlying26 hi0 hz0 hz1 hz2 rfl (by omega) (.slice (some ⟨w.heap.size, 0, none⟩) 0 0) 0 [] rfl (World.ownsRow_lit w #[] 0 (Nat.le_refl _) (by decide) rfl) w.heap.size (some ⟨ad.block, ad.off + 66, none⟩) (n - 66) (c - 66) (byts (l.drop 66)) rfl (HCUT.out.alloc (Nat.le_refl _) _) HBC.out hm1 hm2 (by simp) ?_; intro A2 c2 w2 hown2 hg2 hat2)
    simp only [Nat.zero_add, List.nil_append] at hown2
    refine bodyPost_ret (results_tmp4 rfl _ _ _) rfl ?_
    refine ⟨none, 0, 0, A2, n - 66, c2, by simp, Rd.nil _ _ _, Rd.own hown2, ((Upd.refl Nix w).alloc _).grown hg2 fun b hb hl => ?_⟩
    simp only [Value.ownBlock, Option.some.injEq] at hb
    omega
end Go.Proofs.YtbjjimbnaicbfaaGreatDoor
