/- ciceroneref13.ParseReply; HttpParses: the walk. -/
import Derived.Test.YtbjjimbnaicbfaaGreatDoorRefPc
import Derived.Test.YtbjjimbnaicbfaaGreatDoorHttpP
import Derived.Test.YtbjjimbnaicbfaaGreatDoorHttpAw
import Derived.Test.YtbjjimbnaicbfaaGreatDoorOpenB
namespace Go.Proofs.YtbjjimbnaicbfaaGreatDoor
open Go.RowKit Go.Cx Go.Maps

/-- what a reply's two parts are made of -/
def InR (l : List Nat) (r : Reply) : Prop := (∀ b ∈ r.2.1, b ∈ l) ∧ ∀ b ∈ r.2.2.1, b ∈ l
theorem inR_nil (l : List Nat) (a f : Nat) : InR l (a, [], [], f) := ⟨fun _ h => absurd h (List.not_mem_nil), fun _ h => absurd h (List.not_mem_nil)⟩
theorem after_in (s p : List Nat) : ∀ b ∈ (afterL s p).1, b ∈ s := by
  intro b hb
  unfold afterL at hb
  split at hb
  · exact List.mem_of_mem_drop hb
  · split at hb <;> exact absurd hb (List.not_mem_nil)
theorem try_in {l t want : List Nat} {n found : Nat} {k : Nat → Reply} (ht : ∀ b ∈ t, b ∈ l) (hk : ∀ f, InR l (k f)) : InR l (tryEnd t want n found k) := by
  have h1 := after_in t want
  unfold tryEnd
  split
  · rename_i r h
    rw [h] at h1
    split
    · exact ⟨fun b hb => ht b (h1 b (List.mem_of_mem_take hb)), fun b hb => ht b (h1 b (List.mem_of_mem_drop hb))⟩
    · exact inR_nil _ _ _
  · exact hk _
theorem sized_in {l s : List Nat} (hs : ∀ b ∈ s, b ∈ l) : InR l (sizedL s) := by
  unfold sizedL
  split
  · exact inR_nil _ _ _
  · split
    · exact inR_nil _ _ _
    · split
      · exact inR_nil _ _ _
      · exact try_in (fun b hb => hs b (List.mem_of_mem_drop hb)) fun f => try_in (fun b hb => hs b (List.mem_of_mem_drop hb)) fun f => inR_nil _ _ _
theorem parse_in (l : List Nat) : InR l (parseL l) := by
  have h1 := after_in l badL
  have h2 := after_in l goodL
  unfold parseL
  split
  · rename_i r h
    rw [h] at h1
    exact ⟨fun _ h => absurd h (List.not_mem_nil), h1⟩
  · split
    · rename_i r h
      rw [h] at h2
      exact sized_in h2
    · exact inR_nil _ _ _
theorem ref_parse (A : Option Addr) (n c : Nat) (l : List Nat) (w : World) (hx : Rd w w.heap.size 1 A n (byts l)) (hb : ∀ b ∈ l, b < 256) (hn : n ≤ 140737488355328) (hnc : n ≤ c) :
    Calls Tryz.prog 14 #[.slice A n c] w (Parsed (parseL l) w) := by
  by_cases h : badL <+: l
  · exact ref_parse_bad A n c l w hx hb hn hnc h
  · exact ref_parse_not A n c l w hx hb hn hnc h
set_option maxRecDepth 100000 in
set_option maxHeartbeats 6400000 in
theorem httpParses (r0 : Row) (w : World) (h0 : RowIn w w.heap.size r0) (ht : Tab10 w) :
    Calls Tryz.prog 4 #[r0.val] w fun e w' => e = .returned (.bool true) ∧ Below w.heap.size w w' := by
  obtain ⟨A0, n0, c0, l0⟩ := r0
  obtain ⟨hnc0, hcap0, hx0, hb0⟩ := h0
  unfold Row.val
  simp only at *
  have hn0 : n0 ≤ 140737488355328 := by omega
  have hx : ∀ W, Upd Nix w W → Rd W W.heap.size 1 A0 n0 (byts l0) := fun W hW => (hx0.below (hW.belowNix (Nat.le_refl _))).more hW.size
  have hin := parse_in l0
  have h0 := bytes_clone w w.heap.size A0 n0 c0 l0 hx0 (Nat.le_refl _) hn0
  have h1 := fun (W : World) (A : Option Addr) (c : Nat) (hA : Rd W W.heap.size 1 A n0 (byts l0)) (hW : Upd Nix w W) => http_parse A n0 c l0 W hA hb0 hn0 (ht.upd hW)
  have h2 := fun (W : World) (hW : Upd Nix w W) => ref_parse A0 n0 c0 l0 W (hx W hW) hb0 hn0 hnc0
  have h5 := fun (W : World) (hW : Upd Nix w W) => law_awake W (ht.upd hW)
  obtain ⟨⟨R, X, Y, E⟩, hR⟩ : ∃ q, parseL l0 = q := ⟨_, rfl⟩
  rw [hR] at hin h1 h2
  have hbX : ∀ b ∈ X, b < 256 := fun b hb => hb0 b (hin.1 b hb)
  have hbY : ∀ b ∈ Y, b < 256 := fun b hb => hb0 b (hin.2 b hb)
  have H1 := Lib.hid h1
  have H2 := Lib.hid h2
  have H5 := Lib.hid h5
  have HBX := Lib.hid hbX
  have HBY := Lib.hid hbY
  have HB0 := Lib.hid hb0
  have H0 := Lib.hid h0
  have HX := Lib.hid hx
  clear hx0 hb0 hx hin h0 h1 h2 h5 ht hR hbX hbY
  go_enter Tryz.func4, Tryz.ntmps4
  go_wp2_with fail
  refine H0.out.mono ?_
  rintro e w1 ⟨A1, c1, rfl, hown1, -, -, hu1⟩
  have HR1 := Lib.hid ((Rd.own hown1))
  have HU1 : Hid (Upd Nix w w1) := Lib.hid hu1
  clear hown1 hu1
  go_wp2_with fail
  refine (H1.out w1 A1 c1 HR1.out HU1.out).mono ?_
  rintro e w2 ⟨A2, n2, c2, A3, n3, c3, he, hr2, hr3, hu2⟩
  obtain rfl : e = .returned (.tuple #[.int .i64 (R : Int), .slice A2 n2 c2, .slice A3 n3 c3, .int .i64 (E : Int)]) := he
  have HR2 : Hid (Rd w2 w2.heap.size 1 A2 n2 (byts X)) := Lib.hid hr2
  have HR3 : Hid (Rd w2 w2.heap.size 1 A3 n3 (byts Y)) := Lib.hid hr3
  have HK2 := Lib.hid hu2
  have HU2 := Lib.hid (HU1.out.trans hu2 fun _ _ h => h)
  clear hr2 hr3 hu2
  go_wp2_with fail
  refine (H2.out w2 HU2.out).mono ?_
  rintro e w3 ⟨A4, n4, c4, A5, n5, c5, he, hr4, hr5, hu3⟩
  obtain rfl : e = .returned (.tuple #[.int .i64 (R : Int), .slice A4 n4 c4, .slice A5 n5 c5, .int .i64 (E : Int)]) := he
  have HR4 : Hid (Rd w3 w3.heap.size 1 A4 n4 (byts X)) := Lib.hid hr4
  have HR5 : Hid (Rd w3 w3.heap.size 1 A5 n5 (byts Y)) := Lib.hid hr5
  have HU3 := Lib.hid (HU2.out.trans hu3 fun _ _ h => h)
  have e12 := bytes_equal w3 _ _ A2 A4 n2 n4 c2 c4 X X (HR2.out.below (hu3.belowNix (Nat.le_refl _))) HR4.out HBX.out HBX.out
  have e34 := bytes_equal w3 _ _ A3 A5 n3 n5 c3 c5 Y Y (HR3.out.below (hu3.belowNix (Nat.le_refl _))) HR5.out HBY.out HBY.out
  have e56 := bytes_equal w3 _ _ A1 A0 n0 n0 c1 c0 l0 l0 (HR1.out.below ((HK2.out.trans hu3 fun _ _ h => h).belowNix (Nat.le_refl _))) (HX.out w3 HU3.out) HB0.out HB0.out
  rw [decide_eq_true rfl] at e12 e34 e56
  have E12 := Lib.hid e12
  have E34 := Lib.hid e34
  have E56 := Lib.hid e56
  clear hr4 hr5 hu3 e12 e34 e56
  go_wp2_with (first | (go_at_call 11; refine (H5.out _ HU3.out).mono ?_; rintro e w9 ⟨rfl, hu9⟩; have HU9 := Lib.hid (HU3.out.trans hu9 fun _ _ h => h); clear hu9) | (go_at_call 15; (with_reducible refine E12.out.mono ?_); rintro e w6 ⟨rfl, rfl⟩) | (go_at_call 15; (with_reducible refine E34.out.mono ?_); rintro e w6 ⟨rfl, rfl⟩) | (go_at_call 15; (with_reducible refine E56.out.mono ?_); rintro e w6 ⟨rfl, rfl⟩))
  go_ret
  exact ⟨rfl, HU9.out.belowNix (Nat.le_refl _)⟩
end Go.Proofs.YtbjjimbnaicbfaaGreatDoor
