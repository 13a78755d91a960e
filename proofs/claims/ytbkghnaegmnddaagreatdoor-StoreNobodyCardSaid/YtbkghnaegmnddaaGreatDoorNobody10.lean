/- A store that no call made: the walks. -/
import Derived.Test.YtbkghnaegmnddaaGreatDoorProg
import Derived.Test.YtbkghnaegmnddaaGreatDoorAppend
import Derived.Deep.DeepCutAuto
import Derived.Deep.CutBlock
namespace Go.Proofs.YtbkghnaegmnddaaGreatDoor
open Go.RowKit Go.Cx

/-- no store: nil, or one that no call made -/
def NoSt (w : World) (v : Value) : Prop := v = .pointer none ∨ ∃ g, v = .pointer (some ⟨g, 0, none⟩) ∧ Blk w g 35 #[.pointer none, .int .i64 0, .map none, .bool false]
theorem NoSt.upd {w w' : World} {v : Value} (h : NoSt w v) (k : Upd Nix w w') : NoSt w' v := by
  rcases h with h | ⟨g, h, hb⟩
  · exact .inl h
  · exact .inr ⟨g, h, hb.upd k fun h => h⟩
set_option maxRecDepth 100000 in
theorem st_none (v : Value) (w : World) (h : NoSt w v) : Calls Tryz.prog 13 #[v] w fun e w' => e = .returned (.bool true) ∧ w = w' := by
  rcases h with rfl | ⟨g, rfl, hb⟩
  · go_enter Tryz.func13, Tryz.ntmps13
    go_wp2
    go_ret
    exact ⟨rfl, rfl⟩
  · have hc : ∀ i, w.cell? ⟨g, i, none⟩ = _ := fun i => hb.cell i
    go_enter Tryz.func13, Tryz.ntmps13
    go_wp2
    go_ret
    exact ⟨rfl, rfl⟩
set_option maxRecDepth 100000 in
theorem st_sync (v : Value) (w : World) (h : NoSt w v) : Calls Tryz.prog 7 #[v] w fun e w' => e = .returned (.int .i64 2) ∧ w = w' := by
  have H := Lib.hid h
  clear h
  go_enter Tryz.func7, Tryz.ntmps7
  go_wp2_with (go_at_call 13; refine (st_none _ _ H.out).mono ?_; rintro e w' ⟨rfl, rfl⟩)
  go_ret
  exact ⟨rfl, rfl⟩
set_option maxRecDepth 100000 in
theorem st_sets (v : Value) (w : World) (h : NoSt w v) : Calls Tryz.prog 9 #[v] w fun e w' => e = .returned (.slice none 0 0) ∧ w = w' := by
  have H := Lib.hid h
  clear h
  go_enter Tryz.func9, Tryz.ntmps9
  go_wp2_with (go_at_call 13; refine (st_none _ _ H.out).mono ?_; rintro e w' ⟨rfl, rfl⟩)
  go_ret
  exact ⟨rfl, rfl⟩
set_option maxRecDepth 100000 in
theorem st_bytes (v : Value) (w : World) (h : NoSt w v) : Calls Tryz.prog 10 #[v] w fun e w' => e = .returned (.int .i64 0) ∧ w = w' := by
  have H := Lib.hid h
  clear h
  go_enter Tryz.func10, Tryz.ntmps10
  go_wp2_with (go_at_call 13; refine (st_none _ _ H.out).mono ?_; rintro e w' ⟨rfl, rfl⟩)
  go_ret
  exact ⟨rfl, rfl⟩
set_option maxRecDepth 100000 in
theorem st_memory (v : Value) (w : World) (h : NoSt w v) : Calls Tryz.prog 11 #[v] w fun e w' => e = .returned (.bool false) ∧ w = w' := by
  have H := Lib.hid h
  clear h
  go_enter Tryz.func11, Tryz.ntmps11
  go_wp2_with (go_at_call 13; refine (st_none _ _ H.out).mono ?_; rintro e w' ⟨rfl, rfl⟩)
  go_ret
  exact ⟨rfl, rfl⟩
set_option maxRecDepth 100000 in
theorem st_compact (v : Value) (now : Int) (w : World) (h : NoSt w v) : Calls Tryz.prog 8 #[v, .int .i64 now] w fun e w' => e = .returned (.int .i64 2) ∧ w = w' := by
  have H := Lib.hid h
  clear h
  go_enter Tryz.func8, Tryz.ntmps8
  go_wp2_with (go_at_call 13; refine (st_none _ _ H.out).mono ?_; rintro e w' ⟨rfl, rfl⟩)
  go_ret
  exact ⟨rfl, rfl⟩
set_option maxRecDepth 100000 in
theorem st_delete (v : Value) (nm : ByteArray) (t c : Int) (w : World) (h : NoSt w v) : Calls Tryz.prog 6 #[v, .string nm, .int .i64 t, .int .i64 c] w fun e w' => e = .returned (.int .i64 2) ∧ w = w' := by
  have H := Lib.hid h
  clear h
  go_enter Tryz.func6, Tryz.ntmps6
  go_wp2_with (go_at_call 13; refine (st_none _ _ H.out).mono ?_; rintro e w' ⟨rfl, rfl⟩)
  go_ret
  exact ⟨rfl, rfl⟩
set_option maxRecDepth 100000 in
theorem st_put (v : Value) (nm zo : ByteArray) (t c r k x now : Int) (A : Option Addr) (n ca : Nat) (w : World) (h : NoSt w v) : Calls Tryz.prog 5 #[v, .agg #[.string nm, .int .i64 t, .int .i64 c, .int .i64 r, .int .i64 k, .int .i64 x, .string zo, .slice A n ca], .int .i64 now] w fun e w' => e = .returned (.int .i64 2) ∧ Upd Nix w w' := by
  have H := Lib.hid fun W (k : Upd Nix w W) => h.upd k
  clear h
  go_enter Tryz.func5, Tryz.ntmps5
  go_wp2_with (go_at_call 13; refine (st_none _ _ (H.out _ ((Upd.refl _ _).alloc _))).mono ?_; rintro e w' ⟨rfl, rfl⟩)
  go_ret
  exact ⟨rfl, (Upd.refl _ _).alloc _⟩
set_option maxRecDepth 100000 in
theorem st_lookup (v : Value) (nm : ByteArray) (t c now : Int) (w : World) (h : NoSt w v) : Calls Tryz.prog 4 #[v, .string nm, .int .i64 t, .int .i64 c, .int .i64 now] w fun e w' => e = .returned (.tuple #[.agg #[.string ⟨#[]⟩, .int .i64 0, .int .i64 0, .int .i64 0, .int .i64 0, .int .i64 0, .string ⟨#[]⟩, .slice none 0 0], .bool false]) ∧ Upd Nix w w' := by
  have H := Lib.hid fun W (k : Upd Nix w W) => h.upd k
  clear h
  go_enter Tryz.func4, Tryz.ntmps4
  go_wp2_with (go_at_call 13; first | (refine (st_none _ _ (H.out _ (Upd.refl _ _))).mono ?_; rintro e w' ⟨rfl, rfl⟩) | (refine (st_none _ _ (H.out _ ((Upd.refl _ _).alloc _))).mono ?_; rintro e w' ⟨rfl, rfl⟩))
  refine bodyPost_ret (v := .tuple #[.agg #[.string ⟨#[]⟩, .int .i64 0, .int .i64 0, .int .i64 0, .int .i64 0, .int .i64 0, .string ⟨#[]⟩, .slice none 0 0], .bool false]) (by simp [results, Tryz.results4, go_sem]) rfl ⟨rfl, ?_⟩
  first | exact Upd.refl _ _ | exact (Upd.refl _ _).alloc _ | exact ((Upd.refl _ _).alloc _).alloc _
set_option maxRecDepth 100000 in
theorem disk_none (w : World) : Calls Tryz.prog 62 #[.pointer none] w fun e w' => e = .returned (.bool false) ∧ w = w' := by
  go_enter Tryz.func62, Tryz.ntmps62
  go_wp2
  go_ret
  exact ⟨rfl, rfl⟩
set_option maxRecDepth 100000 in
theorem read_none (s : ByteArray) (w : World) : Calls Tryz.prog 28 #[.pointer none, .string s] w fun e w' => e = .returned (.tuple #[.slice none 0 0, .int .i64 2]) ∧ w = w' := by
  go_enter Tryz.func28, Tryz.ntmps28
  go_wp2_with (go_at_call 62; refine (disk_none _).mono ?_; rintro e w' ⟨rfl, rfl⟩)
  go_ret2
  exact ⟨rfl, rfl⟩
set_option maxRecDepth 100000 in
theorem open_none (now most : Int) (w : World) : Calls Tryz.prog 12 #[.pointer none, .int .i64 now, .int .i64 most] w fun e w' => e = .returned (.tuple #[.pointer none, .int .i64 2]) ∧ Upd Nix w w' := by
  go_enter Tryz.func12, Tryz.ntmps12
  go_wp2_with (go_at_call 28; refine (read_none _ _).mono ?_; rintro e w' ⟨rfl, rfl⟩)
  go_ret2
  exact ⟨rfl, (Upd.refl _ _).alloc _⟩
def ptrs2 (g : Nat) (k : Nat) : Value := match k with
  | 0 => .pointer none
  | _ => .pointer (some ⟨g, 0, none⟩)
set_option maxRecDepth 100000 in
set_option maxHeartbeats 3200000 in
theorem nobody10 (op now : Int) (nm : ByteArray) (t c r k x : Int) (zo : ByteArray) (dA : Option Addr) (dn dc : Nat) (so sn : Int) (s1 s2 : ByteArray) (bA : Option Addr) (bn bc : Nat) (tA : Option Addr) (tn tc : Nat) (w : World) :
    Calls Tryz.prog 3 #[.agg #[.int .i64 op, .int .i64 now, .string nm, .int .i64 t, .int .i64 c, .int .i64 r, .int .i64 k, .int .i64 x, .string zo, .slice dA dn dc, .int .i64 so, .int .i64 sn, .string s1, .string s2, .slice bA bn bc, .slice tA tn tc]] w fun e w' => e = .returned (.bool true) ∧ Below w.heap.size w w' := by
  go_enter Tryz.func3, Tryz.ntmps3
  go_wp2_with fail
  obtain ⟨cs, hcs⟩ : ∃ cs, #[Value.int .i64 op, .int .i64 now, .string nm, .int .i64 t, .int .i64 c, .int .i64 r, .int .i64 k, .int .i64 x, .string zo, .slice dA dn dc, .int .i64 so, .int .i64 sn, .string s1, .string s2, .slice bA bn bc, .slice tA tn tc] = cs := ⟨_, rfl⟩
  have HCS := Lib.hid hcs
  have hb0 : Blk (w.alloc (.cells cs 30)) w.heap.size 30 cs := Blk.new w _ _
  have hb1 := (hb0.alloc (.cells #[.pointer none, .int .i64 0, .map none, .bool false] 35)).alloc (.cells #[.pointer none, .pointer (some ⟨w.heap.size + 1, 0, none⟩)] 31)
  have hb2 : Blk ((w.alloc (.cells cs 30)).alloc (.cells #[.pointer none, .int .i64 0, .map none, .bool false] 35)) (w.heap.size + 1) 35 #[.pointer none, .int .i64 0, .map none, .bool false] := Blk.new' _ _ _ (by simp)
  have hb3 := hb2.alloc (.cells #[.pointer none, .pointer (some ⟨w.heap.size + 1, 0, none⟩)] 31)
  have hb4 : Blk (((w.alloc (.cells cs 30)).alloc (.cells #[.pointer none, .int .i64 0, .map none, .bool false] 35)).alloc (.cells #[.pointer none, .pointer (some ⟨w.heap.size + 1, 0, none⟩)] 31)) (w.heap.size + 1 + 1) 31 #[.pointer none, .pointer (some ⟨w.heap.size + 1, 0, none⟩)] := Blk.new' _ _ _ (by simp)
  have hu : Upd Nix w (((w.alloc (.cells cs 30)).alloc (.cells #[.pointer none, .int .i64 0, .map none, .bool false] 35)).alloc (.cells #[.pointer none, .pointer (some ⟨w.heap.size + 1, 0, none⟩)] 31)) := (((Upd.refl _ _).alloc _).alloc _).alloc _
  rw [hcs]
  clear hcs hb0 hb2
  generalize (((w.alloc (.cells cs 30)).alloc (.cells #[.pointer none, .int .i64 0, .map none, .bool false] 35)).alloc (.cells #[.pointer none, .pointer (some ⟨w.heap.size + 1, 0, none⟩)] 31)) = wa at *
  rw [← HCS.out] at hb1
  have HU := Lib.hid hu
  have HB1 := Lib.hid hb1
  have HB3 := Lib.hid hb3
  have HB4 := Lib.hid hb4
  obtain ⟨g, hg⟩ : ∃ g, w.heap.size = g := ⟨_, rfl⟩
  rw [hg] at HB1 HB3 HB4 ⊢
  clear hu hb1 hb3 hb4
  go_loopw [13] (fun s13 wr => ∃ j : Nat, j ≤ 2 ∧ s13 = .int .i64 j ∧ Upd Nix wa wr) (fun s13 _ => 2 - (intOf s13).toNat)
  case atStart => exact ⟨0, Nat.zero_le _, rfl, Upd.refl _ _⟩
  case round =>
    obtain ⟨j, hj, rfl, hur⟩ := hrel
    have HUR := Lib.hid hur
    by_cases hj2 : j < 2
    · have hji : (j : Int) < 2 := by omega
      have hst : NoSt wr (ptrs2 (g + 1) j) := by
        match j, hj2 with
        | 0, _ => exact .inl rfl
        | 1, _ => exact .inr ⟨_, rfl, HB3.out.upd hur fun h => h⟩
      have hcell : wr.cell? ⟨g + 1 + 1, j, none⟩ = some (ptrs2 (g + 1) j) := by
        rw [(HB4.out.upd hur fun h => h).cell]
        match j, hj2 with
        | 0, _ => rfl
        | 1, _ => rfl
      have hnm := HB1.out.upd hur fun h => h
      have hc : ∀ i, wr.cell? ⟨g, i, none⟩ = _ := fun i => hnm.cell i
      have hgl := hnm.lt
      generalize ptrs2 (g + 1) j = v at *
      have HST := Lib.hid fun W (k : Upd Nix wr W) => hst.upd k
      clear hst hnm hur
      go_wp2_with fail
      have h0 := HST.out _ (Upd.refl _ _)
      refine (st_lookup _ _ _ _ _ _ h0).mono ?_
      rintro e w1 ⟨rfl, hu1⟩
      have hb1 := (HB1.out.upd (HUR.out.trans hu1 fun _ _ h => h) fun h => h)
      have hc1 : ∀ i, w1.cell? ⟨g, i, none⟩ = _ := fun i => hb1.cell i
      have hg1 := hb1.lt
      have HU1 := Lib.hid hu1
      clear hc hgl hb1 hu1 h0 hcell
      go_wp2_with fail
      refine (st_put v nm zo t c r k x now dA dn dc _ (HST.out _ (HU1.out.alloc _))).mono ?_
      rintro e w2 ⟨rfl, hu2⟩
      have hut := (HU1.out.alloc (.cells #[.string ⟨#[]⟩, .int .i64 0, .int .i64 0, .int .i64 0, .int .i64 0, .int .i64 0, .string ⟨#[]⟩, .slice none 0 0] 24)).trans hu2 fun _ _ h => h
      have hb1 := (HB1.out.upd (HUR.out.trans hut fun _ _ h => h) fun h => h)
      have hc1 : ∀ i, w2.cell? ⟨g, i, none⟩ = _ := fun i => hb1.cell i
      have hg1 := hb1.lt
      have HU2 := Lib.hid hut
      have HST2 := Lib.hid (HST.out _ hut)
      clear hb1 hu2 hut
      go_wp2_with (first
        | (go_at_call 6; (with_reducible refine (st_delete _ _ _ _ _ HST2.out).mono ?_); rintro e w' ⟨rfl, rfl⟩)
        | (go_at_call 7; (with_reducible refine (st_sync _ _ HST2.out).mono ?_); rintro e w' ⟨rfl, rfl⟩)
        | (go_at_call 8; (with_reducible refine (st_compact _ _ _ HST2.out).mono ?_); rintro e w' ⟨rfl, rfl⟩)
        | (go_at_call 9; (with_reducible refine (st_sets _ _ HST2.out).mono ?_); rintro e w' ⟨rfl, rfl⟩)
        | (go_at_call 10; (with_reducible refine (st_bytes _ _ HST2.out).mono ?_); rintro e w' ⟨rfl, rfl⟩)
        | (go_at_call 11; (with_reducible refine (st_memory _ _ HST2.out).mono ?_); rintro e w' ⟨rfl, rfl⟩))
      refine ⟨⟨j + 1, by omega, by rfl, HUR.out.trans HU2.out fun _ _ h => h⟩, ?_⟩
      simp only [intOf]; omega
    · have hji : ¬ (j : Int) < 2 := by omega
      clear hur
      go_wp2_with (go_at_call 12; refine (open_none _ _ _).mono ?_; rintro e w' ⟨rfl, hu2⟩)
      go_ret
      exact ⟨rfl, ((HU.out.trans HUR.out fun _ _ h => h).trans hu2 fun _ _ h => h).belowNix (by omega)⟩
theorem nobody10w (w : World) {op now : Int} {nm : ByteArray} {t c r k x : Int} {zo : ByteArray} {dA : Option Addr} {dn dc : Nat} {so sn : Int} {s1 s2 : ByteArray} {bA : Option Addr} {bn bc : Nat} {tA : Option Addr} {tn tc : Nat}  :
    Calls Tryz.prog 3 #[.agg #[.int .i64 op, .int .i64 now, .string nm, .int .i64 t, .int .i64 c, .int .i64 r, .int .i64 k, .int .i64 x, .string zo, .slice dA dn dc, .int .i64 so, .int .i64 sn, .string s1, .string s2, .slice bA bn bc, .slice tA tn tc]] w fun e w' => e = .returned (.bool true) ∧ Below w.heap.size w w' := nobody10 op now nm t c r k x zo dA dn dc so sn s1 s2 bA bn bc tA tn tc w
end Go.Proofs.YtbkghnaegmnddaaGreatDoor
