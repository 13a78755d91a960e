/- A client's stream: made, refused; one that no call made: the walks. -/
import Derived.Test.YtageanmjdfodnaaProg
import Derived.Test.YtageanmjdfodnaaAppend
import Derived.Deep.DeepCutAuto
import Derived.Deep.CutBlock
import Derived.Deep.RegionWith
import Derived.Lib.SlBytesConst
namespace Go.Proofs.Ytageanmjdfodnaa
open Go.RowKit Go.Cx

set_option maxRecDepth 100000 in
theorem prefix_new (w : World) : Calls Try.prog 10 #[] w fun e w' => e = .returned (.pointer (some ⟨w.heap.size, 0, none⟩)) ∧ w' = w.alloc (.cells #[.slice none 0 0, .bool true] 57) := by
  go_enter Try.func10, Try.ntmps10
  go_wp2
  go_ret
  exact ⟨rfl, rfl⟩
set_option maxRecDepth 100000 in
theorem http_new (w : World) : Calls Try.prog 11 #[] w fun e w' => e = .returned (.pointer (some ⟨w.heap.size, 0, none⟩)) ∧ w' = w.alloc (.cells #[.bool true, .bool false, .slice none 0 0, .pointer none] 60) := by
  go_enter Try.func11, Try.ntmps11
  go_wp2
  go_ret
  exact ⟨rfl, rfl⟩
/-- how a stream of a kind talks -/
def talkV (k : Nat) (r : Nat) : Value := if k = 1 then .iface 45 (.agg #[.pointer (some ⟨r, 0, none⟩)]) else .iface 46 (.pointer (some ⟨r, 0, none⟩))
def StrAt (w : World) (k s r : Nat) (en : Bool) : Prop := Blk w s 39 #[talkV k r, .bool en]
set_option maxRecDepth 100000 in
theorem st_new1 (w : World) : Calls Try.prog 5 #[.int .i64 1] w fun e w' => ∃ s r, e = .returned (.tuple #[.pointer (some ⟨s, 0, none⟩), .int .i64 0]) ∧ StrAt w' 1 s r false ∧ Upd Nix w w' ∧ w.heap.size ≤ s := by
  go_enter Try.func5, Try.ntmps5
  go_wp2_with (go_at_call 10; refine (prefix_new _).mono ?_; rintro e w' ⟨rfl, rfl⟩)
  go_ret2
  exact ⟨_, _, rfl, Blk.new' _ _ _ (by simp), ((Upd.refl _ _).alloc _).alloc _, by omega⟩
set_option maxRecDepth 100000 in
theorem st_new2 (w : World) : Calls Try.prog 5 #[.int .i64 2] w fun e w' => ∃ s r, e = .returned (.tuple #[.pointer (some ⟨s, 0, none⟩), .int .i64 0]) ∧ StrAt w' 2 s r false ∧ Upd Nix w w' ∧ w.heap.size ≤ s := by
  go_enter Try.func5, Try.ntmps5
  go_wp2_with (go_at_call 11; refine (http_new _).mono ?_; rintro e w' ⟨rfl, rfl⟩)
  go_ret2
  exact ⟨_, _, rfl, Blk.new' _ _ _ (by simp), (((Upd.refl _ _).alloc _).alloc _).alloc _, by omega⟩
set_option maxRecDepth 100000 in
theorem st_open (k s r : Nat) (en : Bool) (w : World) (h : StrAt w k s r en) : Calls Try.prog 12 #[.pointer (some ⟨s, 0, none⟩)] w fun e w' => e = .returned (.bool (!en)) ∧ w = w' := by
  have hc : ∀ i, w.cell? ⟨s, i, none⟩ = _ := fun i => h.cell i
  clear h
  unfold talkV at hc
  split at hc
  all_goals
    go_enter Try.func12, Try.ntmps12
    go_wp2
    go_ret
    exact ⟨rfl, rfl⟩
set_option maxRecDepth 100000 in
theorem st_ended (k s r : Nat) (en : Bool) (w : World) (h : StrAt w k s r en) : Calls Try.prog 6 #[.pointer (some ⟨s, 0, none⟩)] w fun e w' => e = .returned (.bool en) ∧ w = w' := by
  have hc : ∀ i, w.cell? ⟨s, i, none⟩ = _ := fun i => h.cell i
  clear h
  generalize talkV k r = iv at *
  go_enter Try.func6, Try.ntmps6
  go_wp2
  go_ret
  exact ⟨rfl, rfl⟩
set_option maxRecDepth 100000 in
theorem st_feed_ended (k s r : Nat) (A : Option Addr) (n c : Nat) (w : World) (h : StrAt w k s r true) : Calls Try.prog 9 #[.pointer (some ⟨s, 0, none⟩), .slice A n c] w fun e w' => e = .returned (.slice none 0 0) ∧ w = w' := by
  have H := Lib.hid h
  clear h
  go_enter Try.func9, Try.ntmps9
  go_wp2_with (go_at_call 12; refine (st_open _ _ _ _ _ H.out).mono ?_; rintro e w' ⟨rfl, rfl⟩)
  go_ret
  exact ⟨rfl, rfl⟩
set_option maxRecDepth 100000 in
theorem st_refuse_ended (k s r : Nat) (w : World) (h : StrAt w k s r true) : Calls Try.prog 7 #[.pointer (some ⟨s, 0, none⟩)] w fun e w' => e = .returned (.slice none 0 0) ∧ w = w' := by
  have H := Lib.hid h
  clear h
  go_enter Try.func7, Try.ntmps7
  go_wp2_with (go_at_call 12; refine (st_open _ _ _ _ _ H.out).mono ?_; rintro e w' ⟨rfl, rfl⟩)
  go_ret
  exact ⟨rfl, rfl⟩
set_option maxRecDepth 100000 in
theorem st_reply_ended (k s r : Nat) (A : Option Addr) (n c : Nat) (w : World) (h : StrAt w k s r true) : Calls Try.prog 8 #[.pointer (some ⟨s, 0, none⟩), .slice A n c] w fun e w' => e = .returned (.tuple #[.slice none 0 0, .int .i64 1]) ∧ w = w' := by
  have H := Lib.hid h
  have hc : ∀ i, w.cell? ⟨s, i, none⟩ = _ := fun i => h.cell i
  clear h
  unfold talkV at hc
  split at hc
  all_goals
   go_enter Try.func8, Try.ntmps8
   go_wp2_with (go_at_call 12; refine (st_open _ _ _ _ _ H.out).mono ?_; rintro e w' ⟨rfl, rfl⟩)
   go_ret2
   exact ⟨rfl, rfl⟩
set_option maxRecDepth 100000 in
theorem reply400 (w : World) : Calls Try.prog 42 #[.int .i64 400, .slice none 0 0, .bool false] w fun e w' => ∃ A c, e = .returned (.tuple #[.slice A 66 c, .int .i64 0]) ∧ Upd Nix w w' := by
  have kc := fun (w : World) (C : Array Value) (n c : Nat) => Lib.run_convert_bytes_const (P := Try.prog) w 22 5 C n c Try.underlying22 Try.underlying5
  go_enter Try.func42, Try.ntmps42
  go_wp2_with fail
  go_ret2
  refine ⟨_, _, rfl, ?_⟩
  exact (Upd.refl _ _).alloc _
set_option maxRecDepth 100000 in
theorem frames_refuse (r : Nat) (w : World) : Calls Try.prog 31 #[.agg #[.pointer (some ⟨r, 0, none⟩)]] w fun e w' => e = .returned (.slice none 0 0) ∧ Upd Nix w w' := by
  go_enter Try.func31, Try.ntmps31
  go_wp2
  go_ret
  exact ⟨rfl, (Upd.refl _ _).alloc _⟩
set_option maxRecDepth 100000 in
theorem req_refuse (r : Nat) (w : World) : Calls Try.prog 39 #[.pointer (some ⟨r, 0, none⟩)] w fun e w' => ∃ A c, e = .returned (.slice A 66 c) ∧ Upd Nix w w' := by
  go_enter Try.func39, Try.ntmps39
  go_wp2_with (go_at_call 42; refine (reply400 _).mono ?_; rintro e w' ⟨A, c, rfl, hu⟩)
  go_ret
  exact ⟨_, _, rfl, hu⟩
set_option maxRecDepth 100000 in
theorem meth_frames (r : Nat) (w : World) : (method 281 45 (.agg #[.pointer (some ⟨r, 0, none⟩)]) "cicerone/stream.refuse").run Try.prog w = .ok (31, .agg #[.pointer (some ⟨r, 0, none⟩)]) w := by kernel_rfl
set_option maxRecDepth 100000 in
theorem meth_req (r : Nat) (w : World) : (method 281 46 (.pointer (some ⟨r, 0, none⟩)) "cicerone/stream.refuse").run Try.prog w = .ok (39, .pointer (some ⟨r, 0, none⟩)) w := by kernel_rfl
set_option maxRecDepth 100000 in
theorem st_refuse1 (s r : Nat) (w : World) (h : StrAt w 1 s r false) : Calls Try.prog 7 #[.pointer (some ⟨s, 0, none⟩)] w fun e w' => (∃ A n c, e = .returned (.slice A n c) ∧ n = 0) ∧ StrAt w' 1 s r true ∧ Upd (One s) w w' := by
  have hc : ∀ i, w.cell? ⟨s, i, none⟩ = _ := fun i => h.cell i
  have hf : ∀ i, w.frozen? ⟨s, i, none⟩ = _ := fun i => h.free i
  have H := Lib.hid h
  have hm := meth_frames r
  clear h
  unfold talkV at hc
  simp only [if_true] at hc
  go_enter Try.func7, Try.ntmps7
  go_wp2_with (first | (go_at_call 12; refine (st_open _ _ _ _ _ H.out).mono ?_; rintro e w' ⟨rfl, rfl⟩) | (go_at_call 31; refine (frames_refuse _ _).mono ?_; rintro e w' ⟨rfl, hu⟩))
  go_ret
  exact ⟨⟨_, _, _, rfl, rfl⟩, (H.out.set 1 (.bool true)).upd hu (by simp [Nix]), ((Upd.refl (One s) _).set rfl _).trans hu fun _ _ h => h.elim⟩
set_option maxRecDepth 100000 in
theorem st_refuse2 (s r : Nat) (w : World) (h : StrAt w 2 s r false) : Calls Try.prog 7 #[.pointer (some ⟨s, 0, none⟩)] w fun e w' => (∃ A n c, e = .returned (.slice A n c) ∧ n = 66) ∧ StrAt w' 2 s r true ∧ Upd (One s) w w' := by
  have hc : ∀ i, w.cell? ⟨s, i, none⟩ = _ := fun i => h.cell i
  have hf : ∀ i, w.frozen? ⟨s, i, none⟩ = _ := fun i => h.free i
  have H := Lib.hid h
  have hm := meth_req r
  clear h
  unfold talkV at hc
  rw [if_neg (by decide)] at hc
  go_enter Try.func7, Try.ntmps7
  go_wp2_with (first | (go_at_call 12; refine (st_open _ _ _ _ _ H.out).mono ?_; rintro e w' ⟨rfl, rfl⟩) | (go_at_call 39; refine (req_refuse _ _).mono ?_; rintro e w' ⟨A, c, rfl, hu⟩))
  go_ret
  exact ⟨⟨_, _, _, rfl, rfl⟩, (H.out.set 1 (.bool true)).upd hu (by simp [Nix]), ((Upd.refl (One s) _).set rfl _).trans hu fun _ _ h => h.elim⟩
theorem umod (x : Int) (k : Nat) (h0 : 0 < k) (hk : k ≤ 4294967296) : ∃ a : Nat, wrap64 ((IntKind.u64.wrap x).tmod (k : Int)) = (a : Int) ∧ a < k := by
  rw [IntKind.wrap_u64]
  have h1 : 0 ≤ x % 18446744073709551616 := Int.emod_nonneg _ (by omega)
  rw [Int.tmod_eq_emod_of_nonneg h1]
  have h2 : 0 ≤ (x % 18446744073709551616) % (k : Int) := Int.emod_nonneg _ (by omega)
  have h3 : (x % 18446744073709551616) % (k : Int) < k := Int.emod_lt_of_pos _ (by omega)
  refine ⟨((x % 18446744073709551616) % (k : Int)).toNat, ?_, by omega⟩
  generalize (x % 18446744073709551616) % (k : Int) = z at *
  unfold wrap64
  omega
set_option maxRecDepth 100000 in
set_option maxHeartbeats 1600000 in
theorem stream_ends (x : Int) (A : Option Addr) (n c : Nat) (w : World) : Calls Try.prog 3 #[.int .i64 x, .slice A n c] w fun e w' => e = .returned (.bool true) ∧ Upd Nix w w' := by
  obtain ⟨a, ha, ha2⟩ := umod x 2 (by omega) (by omega)
  have h01 : a = 0 ∨ a = 1 := by omega
  rcases h01 with rfl | rfl
  · have ha0 : wrap64 ((IntKind.u64.wrap x).tmod 2) = 0 := ha
    clear ha
    go_enter Try.func3, Try.ntmps3
    go_wp2_with fail
    refine (st_new1 _).mono ?_
    rintro e w1 ⟨s, r, rfl, hs, hu, hge⟩
    have HS := Lib.hid hs
    have HU := Lib.hid (((Upd.refl Nix w).alloc (.cells #[.int .i64 1, .int .i64 2] 3)).trans hu fun _ _ h => h)
    have hge' : w.heap.size ≤ s := by simp at hge; omega
    clear hs hu hge
    go_wp2_with (go_at_call 6; refine (st_ended _ _ _ _ _ HS.out).mono ?_; rintro e w' ⟨rfl, rfl⟩)
    refine (st_refuse1 _ _ _ HS.out).mono ?_
    rintro e w2 ⟨⟨A2, n2, c2, rfl, rfl⟩, hs, hu⟩
    have HS2 := Lib.hid hs
    have HU2 := Lib.hid (HU.out.trans hu fun b hb h => absurd (show b = s from h) (by omega))
    clear hs hu
    go_wp2_with (first
      | (go_at_call 6; (with_reducible refine (st_ended _ _ _ _ _ HS2.out).mono ?_); rintro e w' ⟨rfl, rfl⟩)
      | (go_at_call 8; (with_reducible refine (st_reply_ended _ _ _ _ _ _ _ HS2.out).mono ?_); rintro e w' ⟨rfl, rfl⟩)
      | (go_at_call 9; (with_reducible refine (st_feed_ended _ _ _ _ _ _ _ HS2.out).mono ?_); rintro e w' ⟨rfl, rfl⟩)
      | (go_at_call 7; (with_reducible refine (st_refuse_ended _ _ _ _ HS2.out).mono ?_); rintro e w' ⟨rfl, rfl⟩))
    go_ret
    exact ⟨rfl, HU2.out⟩
  · have ha0 : wrap64 ((IntKind.u64.wrap x).tmod 2) = 1 := ha
    clear ha
    go_enter Try.func3, Try.ntmps3
    go_wp2_with fail
    refine (st_new2 _).mono ?_
    rintro e w1 ⟨s, r, rfl, hs, hu, hge⟩
    have HS := Lib.hid hs
    have HU := Lib.hid (((Upd.refl Nix w).alloc (.cells #[.int .i64 1, .int .i64 2] 3)).trans hu fun _ _ h => h)
    have hge' : w.heap.size ≤ s := by simp at hge; omega
    clear hs hu hge
    go_wp2_with (go_at_call 6; refine (st_ended _ _ _ _ _ HS.out).mono ?_; rintro e w' ⟨rfl, rfl⟩)
    refine (st_refuse2 _ _ _ HS.out).mono ?_
    rintro e w2 ⟨⟨A2, n2, c2, rfl, rfl⟩, hs, hu⟩
    have HS2 := Lib.hid hs
    have HU2 := Lib.hid (HU.out.trans hu fun b hb h => absurd (show b = s from h) (by omega))
    clear hs hu
    go_wp2_with (first
      | (go_at_call 6; (with_reducible refine (st_ended _ _ _ _ _ HS2.out).mono ?_); rintro e w' ⟨rfl, rfl⟩)
      | (go_at_call 8; (with_reducible refine (st_reply_ended _ _ _ _ _ _ _ HS2.out).mono ?_); rintro e w' ⟨rfl, rfl⟩)
      | (go_at_call 9; (with_reducible refine (st_feed_ended _ _ _ _ _ _ _ HS2.out).mono ?_); rintro e w' ⟨rfl, rfl⟩)
      | (go_at_call 7; (with_reducible refine (st_refuse_ended _ _ _ _ HS2.out).mono ?_); rintro e w' ⟨rfl, rfl⟩))
    go_ret
    exact ⟨rfl, HU2.out⟩
/-- no stream: nil, or one that no call made -/
def NoStr (w : World) (v : Value) : Prop := v = .pointer none ∨ ∃ g, v = .pointer (some ⟨g, 0, none⟩) ∧ Blk w g 39 #[.nilIface, .bool false]
set_option maxRecDepth 100000 in
theorem no_open (v : Value) (w : World) (h : NoStr w v) : Calls Try.prog 12 #[v] w fun e w' => e = .returned (.bool false) ∧ w = w' := by
  rcases h with rfl | ⟨g, rfl, hb⟩
  · go_enter Try.func12, Try.ntmps12
    go_wp2
    go_ret
    exact ⟨rfl, rfl⟩
  · have hc : ∀ i, w.cell? ⟨g, i, none⟩ = _ := fun i => hb.cell i
    go_enter Try.func12, Try.ntmps12
    go_wp2
    go_ret
    exact ⟨rfl, rfl⟩
set_option maxRecDepth 100000 in
theorem no_ended (v : Value) (w : World) (h : NoStr w v) : Calls Try.prog 6 #[v] w fun e w' => e = .returned (.bool false) ∧ w = w' := by
  rcases h with rfl | ⟨g, rfl, hb⟩
  · go_enter Try.func6, Try.ntmps6
    go_wp2
    go_ret
    exact ⟨rfl, rfl⟩
  · have hc : ∀ i, w.cell? ⟨g, i, none⟩ = _ := fun i => hb.cell i
    go_enter Try.func6, Try.ntmps6
    go_wp2
    go_ret
    exact ⟨rfl, rfl⟩
set_option maxRecDepth 100000 in
theorem no_reply (v : Value) (A : Option Addr) (n c : Nat) (w : World) (h : NoStr w v) : Calls Try.prog 8 #[v, .slice A n c] w fun e w' => e = .returned (.tuple #[.slice none 0 0, .int .i64 2]) ∧ w = w' := by
  rcases h with rfl | ⟨g, rfl, hb⟩
  · go_enter Try.func8, Try.ntmps8
    go_wp2
    go_ret2
    exact ⟨rfl, rfl⟩
  · have hc : ∀ i, w.cell? ⟨g, i, none⟩ = _ := fun i => hb.cell i
    go_enter Try.func8, Try.ntmps8
    go_wp2
    go_ret2
    exact ⟨rfl, rfl⟩
set_option maxRecDepth 100000 in
theorem no_feed (v : Value) (A : Option Addr) (n c : Nat) (w : World) (h : NoStr w v) : Calls Try.prog 9 #[v, .slice A n c] w fun e w' => e = .returned (.slice none 0 0) ∧ w = w' := by
  have H := Lib.hid h
  clear h
  go_enter Try.func9, Try.ntmps9
  go_wp2_with (go_at_call 12; refine (no_open _ _ H.out).mono ?_; rintro e w' ⟨rfl, rfl⟩)
  go_ret
  exact ⟨rfl, rfl⟩
set_option maxRecDepth 100000 in
theorem no_refuse (v : Value) (w : World) (h : NoStr w v) : Calls Try.prog 7 #[v] w fun e w' => e = .returned (.slice none 0 0) ∧ w = w' := by
  have H := Lib.hid h
  clear h
  go_enter Try.func7, Try.ntmps7
  go_wp2_with (go_at_call 12; refine (no_open _ _ H.out).mono ?_; rintro e w' ⟨rfl, rfl⟩)
  go_ret
  exact ⟨rfl, rfl⟩
def ptrs2 (g : Nat) (k : Nat) : Value := match k with
  | 0 => .pointer none
  | _ => .pointer (some ⟨g, 0, none⟩)
set_option maxRecDepth 100000 in
set_option maxHeartbeats 1600000 in
theorem stream_nobody (A : Option Addr) (n c : Nat) (w : World) : Calls Try.prog 4 #[.slice A n c] w fun e w' => e = .returned (.bool true) ∧ Upd Nix w w' := by
  go_enter Try.func4, Try.ntmps4
  go_wp2_with fail
  have hb0 : Blk (w.alloc (.cells #[.nilIface, .bool false] 39)) w.heap.size 39 #[.nilIface, .bool false] := Blk.new w _ _
  have hb1 := hb0.alloc (.cells #[.pointer none, .pointer (some ⟨w.heap.size, 0, none⟩)] 25)
  have hb2 : Blk ((w.alloc (.cells #[.nilIface, .bool false] 39)).alloc (.cells #[.pointer none, .pointer (some ⟨w.heap.size, 0, none⟩)] 25)) (w.heap.size + 1) 25 #[.pointer none, .pointer (some ⟨w.heap.size, 0, none⟩)] := Blk.new' _ _ _ (by simp)
  have hu : Upd Nix w ((w.alloc (.cells #[.nilIface, .bool false] 39)).alloc (.cells #[.pointer none, .pointer (some ⟨w.heap.size, 0, none⟩)] 25)) := ((Upd.refl _ _).alloc _).alloc _
  clear hb0
  generalize ((w.alloc (.cells #[.nilIface, .bool false] 39)).alloc (.cells #[.pointer none, .pointer (some ⟨w.heap.size, 0, none⟩)] 25)) = wa at *
  have HU := Lib.hid hu
  have HB1 := Lib.hid hb1
  have HB2 := Lib.hid hb2
  obtain ⟨g, hg⟩ : ∃ g, w.heap.size = g := ⟨_, rfl⟩
  rw [hg] at HB1 HB2 ⊢
  clear hu hb1 hb2 hg
  go_loopw [11] (fun s11 wr => ∃ j : Nat, j ≤ 2 ∧ s11 = .int .i64 j ∧ Upd Nix wa wr) (fun s11 _ => 2 - (intOf s11).toNat)
  case atStart => exact ⟨0, Nat.zero_le _, rfl, Upd.refl _ _⟩
  case round =>
    obtain ⟨j, hj, rfl, hur⟩ := hrel
    have HUR := Lib.hid hur
    by_cases hj2 : j < 2
    · have hji : (j : Int) < 2 := by omega
      have hst : NoStr wr (ptrs2 g j) := by
        match j, hj2 with
        | 0, _ => exact .inl rfl
        | 1, _ => exact .inr ⟨_, rfl, HB1.out.upd hur fun h => h⟩
      have hcell : wr.cell? ⟨g + 1, j, none⟩ = some (ptrs2 g j) := by
        rw [(HB2.out.upd hur fun h => h).cell]
        match j, hj2 with
        | 0, _ => rfl
        | 1, _ => rfl
      generalize ptrs2 g j = v at *
      have HST := Lib.hid hst
      clear hst hur
      go_wp2_with (first
        | (go_at_call 6; (with_reducible refine (no_ended _ _ HST.out).mono ?_); rintro e w' ⟨rfl, rfl⟩)
        | (go_at_call 8; (with_reducible refine (no_reply _ _ _ _ _ HST.out).mono ?_); rintro e w' ⟨rfl, rfl⟩)
        | (go_at_call 9; (with_reducible refine (no_feed _ _ _ _ _ HST.out).mono ?_); rintro e w' ⟨rfl, rfl⟩)
        | (go_at_call 7; (with_reducible refine (no_refuse _ _ HST.out).mono ?_); rintro e w' ⟨rfl, rfl⟩))
      refine ⟨⟨j + 1, by omega, by rfl, HUR.out⟩, ?_⟩
      simp only [intOf]; omega
    · have hji : ¬ (j : Int) < 2 := by omega
      clear hur
      go_wp2_with (go_at_call 3; refine (stream_ends _ _ _ _ _).mono ?_; rintro e w' ⟨rfl, hu2⟩)
      go_ret
      exact ⟨rfl, (HU.out.trans HUR.out fun _ _ h => h).trans hu2 fun _ _ h => h⟩
theorem ends_w (w : World) {x : Int} {A : Option Addr} {n c : Nat} (_hx : (Lit.int .i64 x).wf = true) : Calls Try.prog 3 #[.int .i64 x, .slice A n c] w fun e w' => e = .returned (.bool true) ∧ Below w.heap.size w w' :=
  (stream_ends x A n c w).mono fun _ _ ⟨h, k⟩ => ⟨h, k.belowNix (Nat.le_refl _)⟩
theorem nobody_w (w : World) {A : Option Addr} {n c : Nat} : Calls Try.prog 4 #[.slice A n c] w fun e w' => e = .returned (.bool true) ∧ Below w.heap.size w w' :=
  (stream_nobody A n c w).mono fun _ _ ⟨h, k⟩ => ⟨h, k.belowNix (Nat.le_refl _)⟩
end Go.Proofs.Ytageanmjdfodnaa
