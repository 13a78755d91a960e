/- HttpCloses: the walk. -/
import Derived.Test.YtbjjimbnaicbfaaDoorHttpBad
import Derived.Test.YtbjjimbnaicbfaaDoorAppStr
import Derived.Deep.RegionHeld3
namespace Go.Proofs.YtbjjimbnaicbfaaDoor
open Go.RowKit Go.Cx Go.Maps

theorem index_here (sub : List UInt8) : ∀ (p r : List UInt8), ((List.range p.length).all fun i => !(sub.isPrefixOf ((p ++ r).drop i))) = true → sub.isPrefixOf r = true → Lib.index (p ++ r) sub = p.length
  | [], [], _, h => by
    cases sub with
    | nil => rfl
    | cons a s => cases h
  | [], b :: r, _, h => by
    rw [List.nil_append, Lib.index, if_pos h]
    rfl
  | b :: p, r, h, hr => by
    rw [List.length_cons, List.range_succ_eq_map, List.all_cons, Bool.and_eq_true] at h
    obtain ⟨h0, h1⟩ := h
    have ih := index_here sub p r (by rw [List.all_map] at h1; exact h1) hr
    have h0' : ¬ sub.isPrefixOf (b :: (p ++ r)) = true := by
      intro h
      have h0 : (!sub.isPrefixOf (b :: (p ++ r))) = true := h0
      rw [h] at h0
      cases h0
    rw [List.cons_append, Lib.index, if_neg h0', ih]
    have : ((p.length : Int) == -1) = false := by simp
    rw [this]
    simp
theorem idx26 (t : List UInt8) : Lib.index ([80, 79, 83, 84, 32, 47, 100, 110, 115, 45, 113, 117, 101, 114, 121, 32, 72, 84, 84, 80, 47, 49, 46, 49, 13, 10] ++ ([72, 111, 115, 116, 58] ++ t)) [72, 111, 115, 116, 58] = 26 :=
  index_here _ _ _ (by rfl) (by rfl)
def p26 : List Nat := [80, 79, 83, 84, 32, 47, 100, 110, 115, 45, 113, 117, 101, 114, 121, 32, 72, 84, 84, 80, 47, 49, 46, 49, 13, 10]
def restA (l : List Nat) : List Nat := [32, 114, 101, 115, 111, 108, 118, 101, 114] ++ [13, 10] ++ (ctL ++ [13, 10]) ++ (clenH ++ itoaL l.length ++ [13, 10]) ++ [13, 10] ++ l
theorem ask_open (l : List Nat) : askL l false false = p26 ++ ([72, 111, 115, 116, 58] ++ restA l) := by
  simp [askL, textL, askLines, restA, p26, firstL, hostL]
theorem ask_shut (l : List Nat) : askL l false true = p26 ++ (shutH ++ [13, 10]) ++ ([72, 111, 115, 116, 58] ++ restA l) := by
  simp [askL, textL, askLines, restA, p26, firstL, hostL]
theorem index_ask (l : List Nat) : Lib.index (Lib.bytesOf ((askL l false false).map fun b : Nat => (b : Int))) (Lib.bytesOf [72, 111, 115, 116, 58]) = 26 := by
  rw [ask_open, List.map_append, List.map_append]
  unfold Lib.bytesOf
  rw [List.map_append, List.map_append]
  exact idx26 _
theorem feed_shut (l r : List Nat) (h : l.length ≤ 65535) : feedH ⟨false, [], (none : Option BdV).map BdV.d⟩ (askL l false true ++ r) = (([⟨l, false⟩], 0), ⟨true, r, none⟩) := by
  rw [feedH_W _ _ rfl]
  show feedW ⟨false, [] ++ (askL l false true ++ r), none⟩ [] = _
  rw [List.nil_append, feedW_eq]
  simp only [Bool.false_eq_true, if_false]
  rw [ask_turn h false true]
  simp only
  rw [feedW_eq]
  simp
def connS : ByteArray := ⟨#[67, 79, 78, 78, 69, 67, 84, 73, 79, 78, 58, 32, 32, 67, 108, 111, 115, 101, 32, 13, 10]⟩
theorem connS_bytes : bytesOf connS = shutH ++ [13, 10] := by decide +kernel
theorem connS_size : connS.size = 21 := rfl
theorem askL_len {l : List Nat} (h : l.length ≤ 500) (shut : Bool) : 26 ≤ (askL l false shut).length ∧ (askL l false shut).length ≤ 700 := by
  have := text_len (n := l.length) (by omega) false shut
  unfold askL
  simp only [Bool.false_eq_true, if_false, List.length_append]
  omega
set_option maxRecDepth 100000 in
set_option maxHeartbeats 6400000 in
theorem httpCloses (r0 r1 : Row) (w : World) (h0 : RowIn w w.heap.size r0) (h1 : RowIn w w.heap.size r1) (ht : Tab10 w) {m : Int} (hm : w.cell? ⟨0, 0, none⟩ = some (.int .i64 m)) : Calls Tryd.prog 8 #[r0.val, r1.val] w fun e w' => e = .returned (.bool true) ∧ Below w.heap.size w w' := by
  have hw : 0 < w.heap.size := by
    rcases Nat.eq_zero_or_pos w.heap.size with h | h
    · simp [World.cell?, Array.getElem?_eq_none (by omega : w.heap.size ≤ 0)] at hm
    · exact h
  obtain ⟨A0, n0, c0, l0⟩ := r0
  obtain ⟨A1, n1, c1, l1⟩ := r1
  obtain ⟨hnc0, _, hx0, hb0⟩ := h0
  obtain ⟨hnc1, hcap1, hx1, hb1⟩ := h1
  unfold Row.val
  simp only at *
  have HX0 := Lib.hid hx0
  have HB0 := Lib.hid hb0
  have HX1 := Lib.hid hx1
  have HB1 := Lib.hid hb1
  have HT := Lib.hid ht
  have HM := Lib.hid hm
  clear hx0 hb0 hx1 hb1 ht hm
  obtain ⟨i0, hi0, hz0, hz1, hz2⟩ := info_parts infoU8
  go_enter Tryd.func8, Tryd.ntmps8
  go_upto_region 1 with fail
  go_cut [0] (fun s0 wx => w = wx ∧ ∃ (n : Nat) (l : List Nat), s0 = .slice A0 n c0 ∧ n ≤ 500 ∧ n ≤ c0 ∧ Rd w w.heap.size 1 A0 n (byts l) ∧ ∀ b ∈ l, b < 256)
  case first =>
    by_cases hl : n0 ≤ 500
    · have hmin : min (n0 : Int) 500 = (n0 : Int) := by omega
      go_wp2
      go_meet
      exact ⟨rfl, n0, l0, rfl, hl, hnc0, HX0.out, HB0.out⟩
    · have hmin : min (n0 : Int) 500 = 500 := by omega
      go_wp2
      go_meet
      refine ⟨rfl, 500, l0.take 500, rfl, Nat.le_refl _, by omega, ?_, fun b hb => HB0.out b (List.mem_of_mem_take hb)⟩
      have := HX0.out.front (k := 500) (by omega)
      simpa [byts] using this
  case rest =>
  obtain ⟨rfl, n, l, rfl, hn, hnc, hx, hb⟩ := hcut
  have hlenl : l.length = n := by
    have := hx.1
    simpa [byts] using this
  have hal := askL_len (l := l) (by omega) false
  have hash := ask_shut l
  have hfs := feed_shut l l1 (by omega)
  have hop := ask_open l
  have hidx := index_ask l
  have hblt := askL_lt (l := l) hb
  have HX := Lib.hid hx
  have HB := Lib.hid hb
  have HSH := Lib.hid hash
  have HFS := Lib.hid hfs
  have HOP := Lib.hid hop
  have HIX := Lib.hid hidx
  have HBL := Lib.hid hblt
  have HLL := Lib.hid hlenl
  clear hx hb hash hfs hop hidx hblt hlenl
  go_wp2_with fail
  refine (http_ask A0 n c0 l false w HX.out hnc (by omega) HT.out).mono ?_
  rintro e w1 ⟨⟨ad, na, ca, rfl, hna, hnca, hra⟩, hu1⟩
  rw [← hna] at hal
  obtain ⟨B, hB⟩ : ∃ B, askL l false false = B := ⟨_, rfl⟩
  rw [hB] at hra hna HIX HBL HOP
  have HRA := Lib.hid hra
  have HU1 := Lib.hid hu1
  have HNA := Lib.hid hna
  clear hra hu1 hna hB
  have kcc := fun (w : World) (C : Array Value) (n c : Nat) => Lib.run_convert_bytes_const (P := Tryd.prog) w 22 5 C n c Tryd.underlying22 Tryd.underlying5
  go_wp2_with fail
  have hu2 : Upd Nix w1 (w1.alloc (.cells #[.int .u8 72, .int .u8 111, .int .u8 115, .int .u8 116, .int .u8 58] 5 (5, 6))) := (Upd.refl _ _).alloc _
  have hb2 := fun j => World.cell?_alloc_mark w1 #[.int .u8 72, .int .u8 111, .int .u8 115, .int .u8 116, .int .u8 58] 5 (5, 6) j
  have hsz2 : w1.heap.size < (w1.alloc (.cells #[.int .u8 72, .int .u8 111, .int .u8 115, .int .u8 116, .int .u8 58] 5 (5, 6))).heap.size := by simp
  generalize (w1.alloc (.cells #[.int .u8 72, .int .u8 111, .int .u8 115, .int .u8 116, .int .u8 58] 5 (5, 6))) = w2 at *
  have hm2 : w2.cell? ⟨0, 0, none⟩ = some (.int .i64 m) := ((HU1.out.trans hu2 fun _ _ h => h).cell (p := ⟨0, 0, none⟩) hw (fun h => h)).trans HM.out
  have hr2 : Rd w2 w1.heap.size 1 (some ad) na (byts B) := HRA.out.below (hu2.belowNix (Nat.le_refl _))
  have hix := Tryd.bytes_Index_at ad ⟨w1.heap.size, 0, none⟩ na ca 5 5 (B.map fun b : Nat => (b : Int)) [72, 111, 115, 116, 58] m w2 (by rw [List.length_map, HNA.out]) rfl
    (fun x hx => by
      obtain ⟨b, hb, rfl⟩ := List.mem_map.1 hx
      have := HBL.out b hb
      omega)
    (by decide)
    (fun i hi => by
      obtain ⟨ad', hA, _, hc⟩ := hr2.2 (by omega)
      injection hA with hA
      subst hA
      have hib : i < B.length := by rw [← HNA.out]; exact hi
      refine hc i _ ?_
      rw [byts, List.getElem?_map, List.getElem?_eq_getElem hib]
      simp [List.getD, hib])
    (fun i hi => by
      have hadd : (⟨w1.heap.size, 0, none⟩ : Addr).add i = ⟨w1.heap.size, i, none⟩ := by unfold Addr.add; split <;> simp_all
      rw [hadd, hb2]
      rcases (by omega : i = 0 ∨ i = 1 ∨ i = 2 ∨ i = 3 ∨ i = 4) with rfl | rfl | rfl | rfl | rfl <;> rfl)
    hnca (by omega) (by omega) hm2
  rw [HIX.out] at hix
  refine hix.mono ?_
  rintro e w3 ⟨rfl, q, rfl⟩
  have HU2 := Lib.hid ((HU1.out.trans hu2 fun _ _ h => h).drewN q)
  have HR2 := Lib.hid (hr2.drewN q)
  have hsz3 : w1.heap.size ≤ (w2.drewN q).heap.size := Nat.le_of_lt hsz2
  clear hix hu2 hb2 hm2 hr2
  generalize w2.drewN q = w3 at *
  obtain ⟨R, hR⟩ : ∃ R, [72, 111, 115, 116, 58] ++ restA l = R := ⟨_, rfl⟩
  rw [hR] at HOP HSH
  have hf3 : Rd w3 w1.heap.size 1 (some ad) 26 (byts p26) := by
    have := HR2.out.front (k := 26) (by omega)
    rw [HOP.out, byts, List.map_append] at this
    exact this
  have hnca2 : ¬ ca = 26 := by
    have h1 := HNA.out
    rw [HOP.out, ← hR, List.length_append, List.length_append] at h1
    have h2 : p26.length = 26 := rfl
    have h3 : ([72, 111, 115, 116, 58] : List Nat).length = 5 := rfl
    omega
  have hd3 : Rd w3 w1.heap.size 1 (some (ad.add 26)) (na - 26) (byts R) := by
    have := HR2.out.cut (k := 26) (cap := ca) (by omega) hnca
    rw [if_neg hnca2, HOP.out, byts, List.map_append] at this
    exact this
  have hadd : ad.add 26 = ⟨ad.block, ad.off + 26, none⟩ := by unfold Addr.add; simp
  rw [hadd] at hd3
  have hclone : ∀ W, Upd Nix w3 W → Calls Tryd.prog 11 #[.slice (some ad) 26 ca] W _ := fun W hW =>
    bytes_clone W w1.heap.size (some ad) 26 ca p26 (hf3.below (hW.belowNix hsz3)) (Nat.le_trans hsz3 hW.size) (by omega)
  have hbc : ∀ u ∈ byts R, u.oneCell' = true := by
    intro u hu
    simp only [byts, List.mem_map] at hu
    obtain ⟨b, _, rfl⟩ := hu
    rfl
  have hcs := connS_size
  have HCS := Lib.hid hcs
  have HD3 := Lib.hid hd3
  have HBC := Lib.hid hbc
  have CLONE := Lib.hid hclone
  have HRE := Lib.hid hR
  have hna2 : 26 + connS.size + (na - 26) ≤ 1000 := by omega
  have hna3 : 26 + connS.size ≤ 140737488355328 := by omega
  have hna4 : 26 + connS.size + (na - 26) ≤ maxLen := by unfold maxLen; omega
  have hna5 : (26 + connS.size + (na - 26)) * 1 ≤ 140737488355328 := by omega
  have hi1 : (26 : Int) ≤ (ca : Int) := by omega
  have hi2 : (26 : Int) ≤ (na : Int) := by omega
  have hi3 : ¬ (ca : Int) = 26 := by omega
  have hi4 : (na : Int) ≤ (ca : Int) := by omega
  have hi5 : 26 ≤ ca := by omega
  clear hf3 hd3 hclone hbc hR hcs hadd
  go_wp2_with fail
  go_region_held3 (fun _ => True) (trivial)
    ((first
    | (go_at_call 11; (with_reducible refine (CLONE.out _ (Upd.refl _ _).drew).mono ?_); rintro e w4 ⟨A4, c4, rfl, hown4, hnil4, hge4, hu4⟩; have HU4 := Lib.hid ((Upd.refl Nix w3).drew.trans hu4 (fun _ _ h => h)); have HO4 := Lib.hid hown4; have hg4 := HU4.out.size; clear hown4 hnil4 hge4 hu4)
    | (refine step_app_s w4 rfl (.tmp 33) (.const (.string connS)) 22 9 ?_ w3.heap.size 5 i0 Tryd.underlying22 Tryd.underlying9 hi0 hz0 hz1 hz2 (.slice A4 26 c4) 26 p26 ?_ HO4.out connS ?_ hna3 hg4 ?_; rfl; rfl; rfl; intro A5 c5 w5 hown5 hgr5 hat5; have HU5 := Lib.hid (HU4.out.grown hgr5 fun b hb hl => (by have h9 : w3.heap.size ≤ b := (HO4.out.lt b hb).1; omega)); have HO5 := Lib.hid hown5; have hg5 := HU5.out.size; clear hown5 hgr5 hat5)
    | (refine step_app _ rfl (.tmp 34) (.tmp 37) 22 rfl w3.heap.size 5 i0 _ 1 1 Tryd.underlying22 hi0 hz0 hz1 hz2 rfl (by omega) (.slice A5 (26 + connS.size) c5) (26 + connS.size) (byts (p26 ++ bytesOf connS)) rfl HO5.out w1.heap.size (some ⟨ad.block, ad.off + 26, none⟩) (na - 26) (ca - 26) (byts R) rfl (HD3.out.below (HU5.out.belowNix hsz3)) HBC.out hna4 hna5 hg5 ?_; intro A6 c6 w6 hown6 hgr6 hat6; have HU6 := Lib.hid (HU5.out.grown hgr6 fun b hb hl => (by have h9 : w3.heap.size ≤ b := (HO5.out.lt b hb).1; omega)); have HO6 := Lib.hid hown6; have hg6 := HU6.out.size; clear hown6 hgr6 hat6)))
  go_wp2_with fail
  refine (http_new w6).mono ?_
  rintro e w7 ⟨rfl, rfl⟩
  have hrd := new_rd w6
  have hu7 : Upd Nix w6 (w6.alloc (.cells #[.bool true, .bool false, .slice none 0 0, .pointer none] 42)) := (Upd.refl _ _).alloc _
  have ho7 := HO6.out.alloc (.cells #[.bool true, .bool false, .slice none 0 0, .pointer none] 42)
  have hsz7 : w6.heap.size < (w6.alloc (.cells #[.bool true, .bool false, .slice none 0 0, .pointer none] 42)).heap.size := by simp
  generalize (w6.alloc (.cells #[.bool true, .bool false, .slice none 0 0, .pointer none] 42)) = w7 at *
  have HRD := Lib.hid hrd
  have HU7 := Lib.hid hu7
  have HO7 := Lib.hid ho7
  have hx7 : Rd w7 w.heap.size 1 A1 n1 (byts l1) := HX1.out.below ((((HU2.out.trans HU6.out fun _ _ h => h).trans hu7 fun _ _ h => h)).belowNix (Nat.le_refl _))
  have HX7 := Lib.hid hx7
  have hbc7 : ∀ u ∈ byts l1, u.oneCell' = true := by
    intro u hu
    simp only [byts, List.mem_map] at hu
    obtain ⟨b, _, rfl⟩ := hu
    rfl
  have HBC7 := Lib.hid hbc7
  obtain ⟨N, hN⟩ : ∃ N, 26 + connS.size + (na - 26) = N := ⟨_, rfl⟩
  have h6lt : ∀ b, (Value.slice A6 (26 + connS.size + (na - 26)) c6).ownBlock = some b → w3.heap.size ≤ b ∧ b < w6.heap.size := fun b hb => HO6.out.lt b hb
  rw [hN] at HO7 hna2 h6lt ⊢
  have H6 := Lib.hid h6lt
  have HN := Lib.hid hN
  have hw7 : w3.heap.size ≤ w7.heap.size := by omega
  have hN4 : N + n1 ≤ maxLen := by unfold maxLen; omega
  have hN5 : (N + n1) * 1 ≤ 140737488355328 := by omega
  clear hrd hu7 ho7 hx7 hbc7 hN hna4 hna5 HO6 h6lt
  go_wp2_with (at_builtin; refine wpList_app _ rfl (.tmp 42) (.tmp 43) 22 rfl w3.heap.size 5 i0 _ 1 1 Tryd.underlying22 hi0 hz0 hz1 hz2 rfl (by omega) (.slice A6 N c6) N (byts (p26 ++ bytesOf connS) ++ byts R) rfl HO7.out w.heap.size A1 n1 c1 (byts l1) rfl HX7.out HBC7.out hN4 hN5 hw7 ?_; intro A8 c8 w8 hown8 hgr8 hat8)
  have hu8 : Upd (fun b => (Value.slice A6 N c6).ownBlock = some b) w7 w8 := upd_own hgr8
  have hrd8 : RdW w8 w6.heap.size w6.heap.size (.slice none 0 0) [] none := HRD.out.upd hu8 fun b hb hs => by
    have h9 := (H6.out b hs).2
    rcases hb with rfl | hb2 | ⟨x, hx, _⟩
    · omega
    · cases hb2
    · cases hx
  have hx8 : Rd w8 w8.heap.size 1 A8 (N + n1) (byts (askL l false true ++ l1)) := by
    have h9 := Rd.own hown8
    rw [connS_bytes] at h9
    rw [HSH.out]
    simpa [byts] using h9
  have hb8 : ∀ b ∈ askL l false true ++ l1, b < 256 := by
    intro b hb
    rw [HSH.out] at hb
    rcases List.mem_append.1 hb with hb | hb
    · rcases List.mem_append.1 hb with hb | hb
      · rcases List.mem_append.1 hb with hb | hb
        · exact HBL.out b (by rw [HOP.out]; exact List.mem_append_left _ hb)
        · have hall : ∀ b ∈ shutH ++ [13, 10], b < 256 := by decide
          exact hall b hb
      · exact HBL.out b (by rw [HOP.out]; exact List.mem_append_right _ hb)
    · exact HB1.out b hb
  have hall8 : Below w.heap.size w w8 := ((((HU2.out.trans HU6.out fun _ _ h => h).trans HU7.out fun _ _ h => h)).belowNix (Nat.le_refl _)).trans (hu8.below (Nat.le_trans HU2.out.size hw7) fun b _ hs => Nat.le_trans HU2.out.size (H6.out b hs).1)
  have HRD8 := Lib.hid hrd8
  have HX8 := Lib.hid hx8
  have HB8 := Lib.hid hb8
  have HA8 := Lib.hid hall8
  have hsz8 : w6.heap.size ≤ w8.heap.size := by have := hu8.size; omega
  have hsz06 : w.heap.size ≤ w6.heap.size := by have := HU2.out.size; omega
  clear hu8 hrd8 hx8 hb8 hown8 hgr8 hat8 hall8
  refine (http_feed w6.heap.size w6.heap.size (.slice none 0 0) [] none A8 (N + n1) c8 (askL l false true ++ l1) w8 HRD8.out HX8.out HB8.out (by decide) (by omega) hsz8).mono ?_
  rintro e w9 ⟨A9, c9, rqs, bv9, body9, rfl, hsaid, hfd⟩
  rw [HFS.out] at hsaid hfd ⊢
  obtain ⟨r, rfl, hr⟩ := map_one hsaid
  obtain ⟨row, keep⟩ := r
  simp only [ReqV.said, Rq.mk.injEq] at hr
  obtain ⟨hrl, rfl⟩ := hr
  obtain ⟨go, rfl, hgo, hgl, k0, k1, k2⟩ := hfd.rq.idx (i := 0) rfl
  obtain ⟨v, p, hblk⟩ := hfd.off rfl
  have hrow := hfd.rq.rows _ (List.mem_singleton.2 rfl)
  have hrr := Rd.own hrow.own
  simp only at hrr
  rw [hrl] at hrr
  simp only [Nat.zero_mul, Nat.zero_add] at k0 k1 k2
  have hu9 : Below w.heap.size w w9 := HA8.out.trans (hfd.upd.below (Nat.le_trans hsz06 hsz8) fun b hb hf => by
    rcases hf with rfl | hb2 | ⟨x, hx, _⟩
    · exact hsz06
    · cases hb2
    · cases hx)
  have HU9 := Lib.hid hu9
  have HRR := Lib.hid hrr
  have HBLK := Lib.hid hblk
  clear hfd hsaid hrl hrow hrr hu9 k0 hblk
  simp only [List.length_singleton]
  have heq := fun (W : World) (hW : Upd Nix w9 W) => bytes_equal W w9.heap.size w.heap.size row.A A0 row.n n row.c c0 l l (HRR.out.below (hW.belowNix (Nat.le_refl _))) ((HX.out.below HU9.out).below (hW.belowNix HU9.out.size)) HB.out HB.out
  have HEQ := Lib.hid heq
  clear heq
  go_wp2_with (first | (go_at_call 14; refine (feed_off A1 n1 c1 _ v p _ HBLK.out).mono ?_; rintro e w10 ⟨rfl, rfl⟩) | (go_at_call 12; refine (HEQ.out _ (Upd.refl _ _)).mono ?_; rintro e w10 ⟨rfl, rfl⟩) | (go_at_call 15; refine (ended_at _ true _ (HBLK.out.cell 1)).mono ?_; rintro e w10 ⟨rfl, rfl⟩))
  go_ret
  refine ⟨?_, HU9.out⟩
  simp
end Go.Proofs.YtbjjimbnaicbfaaDoor
