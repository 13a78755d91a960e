/- HttpWrites: the walk. -/
import Derived.Test.YtbjjimbnaicbfaaDoorRefRep
namespace Go.Proofs.YtbjjimbnaicbfaaDoor
open Go.RowKit Go.Cx Go.Maps

def askB (l : List Nat) (ch : Bool) : List Nat × Nat := if l.length ≤ 65535 then (askL l ch false, 0) else ([], 1)
theorem http_ask_any (A : Option Addr) (n c : Nat) (l : List Nat) (ch : Bool) (w : World) (hx : Rd w w.heap.size 1 A n (byts l)) (hnc : n ≤ c) (ht : Tab10 w) :
    Calls Tryd.prog 18 #[.slice A n c, .bool ch] w (ReplyIs (askB l ch) w) := by
  have hlen := hx.1
  simp only [byts, List.length_map, Nat.mul_one] at hlen
  by_cases hn : n ≤ 65535
  · have hR : askB l ch = (askL l ch false, 0) := by unfold askB; rw [if_pos (by omega)]
    rw [hR]
    refine (http_ask A n c l ch w hx hnc hn ht).mono ?_
    rintro e w' ⟨⟨ad, n', c', rfl, _, _, hr⟩, hu⟩
    exact ⟨⟨some ad, n', c', rfl, hr⟩, hu⟩
  · have hR : askB l ch = ([], 1) := by unfold askB; rw [if_neg (by omega)]
    rw [hR]
    refine (http_ask_no A n c ch w (by omega)).mono ?_
    rintro e w' ⟨rfl, rfl⟩
    exact reply_no w
theorem ref_ask_any (A : Option Addr) (n c : Nat) (l : List Nat) (ch : Bool) (w : World) (hx : Rd w w.heap.size 1 A n (byts l)) (hnc : n ≤ c) :
    Calls Tryd.prog 19 #[.slice A n c, .bool ch] w (ReplyIs (askB l ch) w) := by
  have hlen := hx.1
  simp only [byts, List.length_map, Nat.mul_one] at hlen
  by_cases hn : n ≤ 65535
  · have hR : askB l ch = (askL l ch false, 0) := by unfold askB; rw [if_pos (by omega)]
    rw [hR]
    refine (ref_ask A n c l ch w hx hnc hn).mono ?_
    rintro e w' ⟨⟨ad, n', c', rfl, _, _, hr⟩, hu⟩
    exact ⟨⟨some ad, n', c', rfl, hr⟩, hu⟩
  · have hR : askB l ch = ([], 1) := by unfold askB; rw [if_neg (by omega)]
    rw [hR]
    refine (ref_ask_no A n c ch w (by omega)).mono ?_
    rintro e w' ⟨rfl, rfl⟩
    exact reply_no w
theorem askL_all {l : List Nat} (h : ∀ b ∈ l, b < 256) (ch : Bool) : ∀ b ∈ askL l ch false, b < 256 := by
  cases ch with
  | false => exact askL_lt h
  | true =>
    intro b hb
    unfold askL at hb
    rw [text_chunk] at hb
    have h1 : ∀ b ∈ preL, b < 256 := by decide +kernel
    have h2 : ∀ b ∈ chunkH, b < 256 := by decide +kernel
    have h3 : ∀ b ∈ endL, b < 256 := by decide +kernel
    simp only [if_true, List.mem_append] at hb
    rcases hb with ((hb | hb) | hb) | hb
    · exact h1 b hb
    · exact h2 b hb
    · exact h3 b hb
    · exact encL_lt 99 l h b hb
theorem askB_lt {l : List Nat} (h : ∀ b ∈ l, b < 256) (ch : Bool) : ∀ b ∈ (askB l ch).1, b < 256 := by
  unfold askB
  split
  · exact askL_all h ch
  · intro b hb; cases hb
theorem replyB_lt {l : List Nat} (h : ∀ b ∈ l, b < 256) (code : Int) (keep : Bool) : ∀ b ∈ (replyB code l keep).1, b < 256 := by
  have h0 : ∀ b ∈ ([] : List Nat), b < 256 := fun b hb => by cases hb
  have h1 : ∀ b ∈ badL, b < 256 := by decide +kernel
  unfold replyB
  split
  · split
    · exact h1
    · exact h0
  · split
    · split
      · exact replyL_lt l keep h
      · exact h0
    · exact h0
set_option maxRecDepth 100000 in
set_option maxHeartbeats 6400000 in
theorem httpWrites (code : Int) (r0 : Row) (keep chunked : Bool) (w : World) (_hc : (Lit.int .i64 code).wf = true) (h0 : RowIn w w.heap.size r0) (ht : Tab10 w) :
    Calls Tryd.prog 6 #[.int .i64 code, r0.val, .bool keep, .bool chunked] w fun e w' => e = .returned (.bool true) ∧ Below w.heap.size w w' := by
  obtain ⟨A0, n0, c0, l0⟩ := r0
  obtain ⟨hnc0, _, hx0, hb0⟩ := h0
  unfold Row.val
  simp only at *
  have hx : ∀ W, Upd Nix w W → Rd W W.heap.size 1 A0 n0 (byts l0) := fun W hW => (hx0.below (hW.belowNix (Nat.le_refl _))).more hW.size
  have hrl := replyB_lt hb0 code keep
  have hal := askB_lt hb0 chunked
  have h1 := fun (W : World) (hW : Upd Nix w W) => http_reply_any code A0 n0 c0 l0 keep W (hx W hW) (ht.upd hW)
  have h2 := fun (W : World) (hW : Upd Nix w W) => ref_reply_any code A0 n0 c0 l0 keep W (hx W hW)
  have h3 := fun (W : World) (hW : Upd Nix w W) => http_ask_any A0 n0 c0 l0 chunked W (hx W hW) hnc0 (ht.upd hW)
  have h4 := fun (W : World) (hW : Upd Nix w W) => ref_ask_any A0 n0 c0 l0 chunked W (hx W hW) hnc0
  have h5 := fun (W : World) (hW : Upd Nix w W) => law_awake W (ht.upd hW)
  obtain ⟨⟨R, e1⟩, hR⟩ : ∃ R, replyB code l0 keep = R := ⟨_, rfl⟩
  obtain ⟨⟨Q, e2⟩, hQ⟩ : ∃ Q, askB l0 chunked = Q := ⟨_, rfl⟩
  rw [hR] at hrl h1 h2
  rw [hQ] at hal h3 h4
  have H1 := Lib.hid h1
  have H2 := Lib.hid h2
  have H3 := Lib.hid h3
  have H4 := Lib.hid h4
  have H5 := Lib.hid h5
  have HRL := Lib.hid hrl
  have HAL := Lib.hid hal
  clear hx0 hb0 hx hrl hal h1 h2 h3 h4 h5 ht hR hQ
  go_enter Tryd.func6, Tryd.ntmps6
  go_wp2_with fail
  refine (H1.out w (Upd.refl _ _)).mono ?_
  rintro e w1 ⟨⟨A1, n1, c1, rfl, hr1⟩, hu1⟩
  have HR1 := Lib.hid hr1
  have HU1 := Lib.hid hu1
  clear hr1 hu1
  go_wp2_with fail
  refine (H2.out w1 HU1.out).mono ?_
  rintro e w2 ⟨⟨A2, n2, c2, rfl, hr2⟩, hu2⟩
  have HR2 := Lib.hid hr2
  have HK2 := Lib.hid hu2
  have HU2 := Lib.hid (HU1.out.trans hu2 fun _ _ h => h)
  clear hr2 hu2
  go_wp2_with fail
  refine (H3.out w2 HU2.out).mono ?_
  rintro e w3 ⟨⟨A3, n3, c3, rfl, hr3⟩, hu3⟩
  have HR3 := Lib.hid hr3
  have HK3 := Lib.hid hu3
  have HU3 := Lib.hid (HU2.out.trans hu3 fun _ _ h => h)
  clear hr3 hu3
  go_wp2_with fail
  refine (H4.out w3 HU3.out).mono ?_
  rintro e w4 ⟨⟨A4, n4, c4, rfl, hr4⟩, hu4⟩
  have HR4 := Lib.hid hr4
  have HK4 := Lib.hid hu4
  have HU4 := Lib.hid (HU3.out.trans hu4 fun _ _ h => h)
  clear hr4 hu4
  have hk24 : Upd Nix w2 w4 := HK3.out.trans HK4.out fun _ _ h => h
  have hk14 : Upd Nix w1 w4 := HK2.out.trans hk24 fun _ _ h => h
  have e12 := bytes_equal w4 _ _ A1 A2 n1 n2 c1 c2 R R (HR1.out.below (hk14.belowNix (Nat.le_refl _))) (HR2.out.below (hk24.belowNix (Nat.le_refl _))) HRL.out HRL.out
  have e34 := bytes_equal w4 _ _ A3 A4 n3 n4 c3 c4 Q Q (HR3.out.below (HK4.out.belowNix (Nat.le_refl _))) HR4.out HAL.out HAL.out
  rw [decide_eq_true rfl] at e12 e34
  have E12 := Lib.hid e12
  have E34 := Lib.hid e34
  clear hk24 hk14 e12 e34
  go_wp2_with (first | (go_at_call 16; refine (H5.out _ HU4.out).mono ?_; rintro e w9 ⟨rfl, hu9⟩; have HU9 := Lib.hid (HU4.out.trans hu9 fun _ _ h => h); clear hu9) | (go_at_call 12; (with_reducible refine E12.out.mono ?_); rintro e w6 ⟨rfl, rfl⟩) | (go_at_call 12; (with_reducible refine E34.out.mono ?_); rintro e w6 ⟨rfl, rfl⟩))
  go_ret
  exact ⟨rfl, HU9.out.belowNix (Nat.le_refl _)⟩
end Go.Proofs.YtbjjimbnaicbfaaDoor
