/- Frames, plain; prefix: New, size, Encode. -/
import Derived.Test.YtageanmjdfodnaaGreatDoorLies
import Derived.Test.YtageanmjdfodnaaGreatDoorOpenB
import Derived.Test.YtageanmjdfodnaaGreatDoorMap
import Derived.Deep.DeepCutAuto
import Derived.Deep.CutBlock
import Derived.Deep.RegionWith
import Derived.Deep.LoopGhost
namespace Go.Proofs.YtageanmjdfodnaaGreatDoor
open Go.RowKit Go.Cx Go.Maps

/-- how long the first frame is, its length among it; whether it is there -/
def sizeP : List Nat → Nat × Bool
  | a :: b :: r => (2 + (a * 256 + b), decide (a * 256 + b ≤ r.length))
  | _ => (0, false)
/-- the frames of bytes, and what is left -/
def framesN : Nat → List Nat → List (List Nat) × List Nat
  | 0, l => ([], l)
  | k + 1, l => if (sizeP l).2 then (((l.take (sizeP l).1).drop 2) :: (framesN k (l.drop (sizeP l).1)).1, (framesN k (l.drop (sizeP l).1)).2) else ([], l)
def framesP (l : List Nat) : List (List Nat) × List Nat := framesN (l.length + 1) l
theorem sizeP_two (l : List Nat) (h : (sizeP l).2 = true) : 2 ≤ (sizeP l).1 ∧ (sizeP l).1 ≤ l.length := by
  match l, h with
  | a :: b :: r, h =>
    have h : decide (a * 256 + b ≤ r.length) = true := h
    have h := of_decide_eq_true h
    simp only [sizeP, List.length_cons]
    omega
theorem framesN_fuel : ∀ (k : Nat) (l : List Nat) (k' : Nat), l.length < k → l.length < k' → framesN k l = framesN k' l
  | 0, _, _, h, _ => by omega
  | k + 1, l, 0, _, h => by omega
  | k + 1, l, k' + 1, h, h' => by
    rw [framesN, framesN]
    cases hs : (sizeP l).2 with
    | false => rfl
    | true =>
      have h2 := sizeP_two l hs
      rw [if_pos rfl, if_pos rfl, framesN_fuel k (l.drop (sizeP l).1) k' (by rw [List.length_drop]; omega) (by rw [List.length_drop]; omega)]
theorem framesP_eq (l : List Nat) : framesP l = if (sizeP l).2 then (((l.take (sizeP l).1).drop 2) :: (framesP (l.drop (sizeP l).1)).1, (framesP (l.drop (sizeP l).1)).2) else ([], l) := by
  unfold framesP
  rw [framesN]
  cases hs : (sizeP l).2 with
  | false => rfl
  | true =>
    have h2 := sizeP_two l hs
    rw [if_pos rfl, if_pos rfl, framesN_fuel l.length (l.drop (sizeP l).1) ((l.drop (sizeP l).1).length + 1) (by rw [List.length_drop]; omega) (by omega)]
/-- what is whole stays so -/
theorem sizeP_app (l y : List Nat) (h : (sizeP l).2 = true) : sizeP (l ++ y) = sizeP l := by
  match l, h with
  | a :: b :: r, h =>
    have h : decide (a * 256 + b ≤ r.length) = true := h
    have h := of_decide_eq_true h
    simp only [List.cons_append, sizeP, List.length_append]
    rw [decide_eq_true (by omega), decide_eq_true h]
theorem framesP_app' : ∀ (k : Nat) (l y : List Nat), l.length < k → framesP (l ++ y) = ((framesP l).1 ++ (framesP ((framesP l).2 ++ y)).1, (framesP ((framesP l).2 ++ y)).2)
  | 0, _, _, h => by omega
  | k + 1, l, y, h => by
    rw [framesP_eq (l ++ y), framesP_eq l]
    cases hs : (sizeP l).2 with
    | false => simp only [Bool.false_eq_true, if_false, List.nil_append]; rw [← framesP_eq]
    | true =>
      have h2 := sizeP_two l hs
      rw [sizeP_app l y hs, hs]
      simp only [if_true]
      have e1 : (l ++ y).drop (sizeP l).1 = l.drop (sizeP l).1 ++ y := List.drop_append_of_le_length h2.2
      have e2 : (l ++ y).take (sizeP l).1 = l.take (sizeP l).1 := List.take_append_of_le_length h2.2
      rw [e1, e2, framesP_app' k (l.drop (sizeP l).1) y (by rw [List.length_drop]; omega)]
      simp
theorem framesP_app (l y : List Nat) : framesP (l ++ y) = ((framesP l).1 ++ (framesP ((framesP l).2 ++ y)).1, (framesP ((framesP l).2 ++ y)).2) := framesP_app' _ l y (Nat.lt_succ_self _)
/-- a frame's bytes -/
def encP (l : List Nat) : List Nat := [l.length / 256, l.length % 256] ++ l
theorem framesP_enc (l : List Nat) : framesP (encP l) = ([l], []) := by
  have hs : sizeP (encP l) = (2 + l.length, true) := by
    show ((2 + (l.length / 256 * 256 + l.length % 256), decide (l.length / 256 * 256 + l.length % 256 ≤ l.length)) : Nat × Bool) = _
    rw [show l.length / 256 * 256 + l.length % 256 = l.length by omega, decide_eq_true (Nat.le_refl _)]
  have hl : (encP l).length = 2 + l.length := by simp [encP]; omega
  rw [framesP_eq, hs]
  simp only [if_true]
  have e1 : (encP l).take (2 + l.length) = encP l := List.take_of_length_le (by omega)
  have e2 : (encP l).drop (2 + l.length) = [] := List.drop_of_length_le (by omega)
  rw [e1, e2]
  rfl
/-- frames one behind the other -/
theorem framesP_encs : ∀ (ls : List (List Nat)), framesP ((ls.map encP).flatten) = (ls, [])
  | [] => rfl
  | l :: ls => by
    rw [List.map_cons, List.flatten_cons, framesP_app, framesP_enc]
    simp only [List.nil_append]
    rw [framesP_encs ls]
    rfl
/-- the document's reader of frames, in memory -/
structure PfR (w : World) (base pr : Nat) (bv : Value) (l : List Nat) : Prop where
  blk : Blk w pr 64 #[bv, .bool true]
  buf : Lies w base 5 bv l.length (byts l)
  bytes : ∀ b ∈ l, b < 256
  ge : base ≤ pr
def PFoot (pr : Nat) (bv : Value) : Nat → Prop := fun b => b = pr ∨ bv.ownBlock = some b
theorem PfR.not_pr {w : World} {base pr : Nat} {bv : Value} {l : List Nat} (h : PfR w base pr bv l) : bv.ownBlock ≠ some pr := by
  intro hb
  rcases h.buf.2 with ⟨rfl, _⟩ | ⟨g', o, cap, cur, rfl, _, hg', _⟩
  · cases hb
  · simp only [Value.ownBlock, Option.some.injEq] at hb
    subst hb
    have h1 := h.blk
    unfold Blk at h1
    rw [hg'] at h1
    injection h1 with h1
    injection h1 with _ ht
    exact absurd ht (by decide)
theorem PfR.lt {w : World} {base pr : Nat} {bv : Value} {l : List Nat} (h : PfR w base pr bv l) : ∀ b, PFoot pr bv b → b < w.heap.size ∧ base ≤ b := by
  rintro b (rfl | hb)
  · exact ⟨h.blk.lt, h.ge⟩
  · exact h.buf.lt hb
theorem PfR.upd {w w' : World} {base pr : Nat} {bv : Value} {l : List Nat} {S : Nat → Prop} (h : PfR w base pr bv l) (k : Upd S w w') (hn : ∀ b, PFoot pr bv b → ¬ S b) : PfR w' base pr bv l :=
  ⟨h.blk.upd k (hn pr (.inl rfl)), h.buf.upd k fun b hb => hn b (.inr hb), h.bytes, h.ge⟩
theorem PfR.quiet {w w' : World} {base pr : Nat} {bv : Value} {l : List Nat} (h : PfR w base pr bv l) (k : Upd Nix w w') : PfR w' base pr bv l := h.upd k fun _ _ h => h
theorem or8p {x y : Nat} (hx : x < 1099511627776) (hy : y < 256) : bits .or .i64 ((x : Int) * 256) (y : Int) = ((x * 256 + y : Nat) : Int) := by
  have h0 : ((x : Int) * 256) = ((x * 256 : Nat) : Int) := by omega
  rw [h0]
  show IntKind.i64.wrap ((BitVec.ofInt 64 ((x * 256 : Nat) : Int) ||| BitVec.ofInt 64 (y : Int)).toNat : Int) = _
  rw [BitVec.toNat_or, BitVec.ofInt_natCast, BitVec.ofInt_natCast, BitVec.toNat_ofNat, BitVec.toNat_ofNat, Nat.mod_eq_of_lt (by omega), Nat.mod_eq_of_lt (by omega)]
  have h1 : x * 256 ||| y = x * 256 + y := by
    have := Nat.two_pow_add_eq_or_of_lt (i := 8) (b := y) (by omega) x
    rw [Nat.mul_comm x 256]
    exact this.symm
  rw [h1, IntKind.wrap_i64]
  omega
set_option maxRecDepth 100000 in
theorem prefix_new (w : World) : Calls Tryz.prog 10 #[] w fun e w' => e = .returned (.pointer (some ⟨w.heap.size, 0, none⟩)) ∧ w' = w.alloc (.cells #[.slice none 0 0, .bool true] 64) := by
  go_enter Tryz.func10, Tryz.ntmps10
  go_wp2
  go_ret
  exact ⟨rfl, rfl⟩
set_option maxRecDepth 100000 in
set_option maxHeartbeats 1600000 in
theorem prefix_size (base pr : Nat) (bv : Value) (l : List Nat) (w : World) (h : PfR w base pr bv l) (hl : l.length ≤ 140737488355328) : Calls Tryz.prog 18 #[.pointer (some ⟨pr, 0, none⟩)] w fun e w' => e = .returned (.tuple #[.int .i64 (sizeP l).1, .bool (sizeP l).2]) ∧ Upd Nix w w' := by
  obtain ⟨A, c, rfl, hbc⟩ := h.buf.form
  have hc : ∀ i, w.cell? ⟨pr, i, none⟩ = _ := fun i => h.blk.cell i
  have hrd := h.buf.rd rfl
  have hby := h.bytes
  obtain ⟨n, hn⟩ : ∃ n, l.length = n := ⟨_, rfl⟩
  rw [hn] at hc hrd hl hbc
  by_cases h2 : n < 2
  · have hi : (n : Int) < 2 := by omega
    have hs : sizeP l = (0, false) := by
      match l, hn with
      | [], _ => rfl
      | [_], _ => rfl
      | _ :: _ :: _, hn => simp at hn; omega
    rw [hs]
    clear h hrd hby
    go_enter Tryz.func18, Tryz.ntmps18
    go_wp2_with fail
    go_ret2
    exact ⟨rfl, Upd.refl _ _⟩
  · have hi : ¬ (n : Int) < 2 := by omega
    obtain ⟨a, b, r, rfl⟩ : ∃ a b r, l = a :: b :: r := by
      match l, hn with
      | [], hn => simp at hn; omega
      | [_], hn => simp at hn; omega
      | a :: b :: r, _ => exact ⟨a, b, r, rfl⟩
    have ha := hby a (by simp)
    have hb := hby b (by simp)
    obtain ⟨ad, rfl, hB, hcl⟩ := hrd.2 (by omega)
    have k0 : w.cell? ad = some (.int .u8 a) := by simpa [Addr.add] using hcl 0 _ rfl
    have k1 : w.cell? (ad.add 1) = some (.int .u8 b) := hcl 1 _ rfl
    obtain ⟨g, o, nn⟩ := ad
    have k1 : w.cell? ⟨g, o + 1, none⟩ = some (.int .u8 b) := k1
    have wa : IntKind.i64.wrap (a : Int) = (a : Int) := by rw [IntKind.wrap_i64]; omega
    have wb : IntKind.i64.wrap (b : Int) = (b : Int) := by rw [IntKind.wrap_i64]; omega
    have wab : IntKind.i64.wrap ((a : Int) * 256) = (a : Int) * 256 := by rw [IntKind.wrap_i64]; omega
    have hor := or8p (x := a) (y := b) (by omega) hb
    have hnr : r.length + 2 = n := by simpa using hn
    have hlt : a * 256 + b < 65536 := by omega
    have hs : sizeP (a :: b :: r) = (2 + (a * 256 + b), decide (2 + (a * 256 + b) ≤ n)) := by
      unfold sizeP
      simp only
      congr 1
      rw [decide_eq_decide]
      omega
    rw [hs]
    have h1 : 0 < n := by omega
    have h1' : 1 < n := by omega
    have hd : decide ((2 : Int) + ((a * 256 + b : Nat) : Int) ≤ (n : Int)) = decide (2 + (a * 256 + b) ≤ n) := by
      rw [decide_eq_decide]; omega
    have HD := Lib.hid hd
    obtain ⟨m, hm⟩ : ∃ m, a * 256 + b = m := ⟨_, rfl⟩
    rw [hm] at hor hlt HD ⊢
    clear h hrd hby hcl hs hd hn hnr hm
    go_enter Tryz.func18, Tryz.ntmps18
    go_wp2_with fail
    go_quiet (fail)
    go_wp2_with fail
    go_quiet (fail)
    go_wp2_with fail
    go_ret2
    refine ⟨?_, ((Upd.refl _ _).drewN _).drewN _⟩
    have h1 := HD.out
    have h2 : ((2 + m : Nat) : Int) = 2 + (m : Int) := by omega
    show Ending.returned (.tuple #[.int .i64 (2 + (m : Int)), .bool (decide ((2 : Int) + (m : Int) ≤ (n : Int)))]) = _
    rw [h1, h2]
set_option maxRecDepth 100000 in
set_option maxHeartbeats 1600000 in
theorem prefix_encode (A : Option Addr) (n c B : Nat) (l : List Nat) (w : World) (hx : Rd w B 1 A n (byts l)) (hB : B ≤ w.heap.size) (hn : n ≤ 65535) :
    Calls Tryz.prog 5 #[.slice A n c] w fun e w' => (∃ ad c', e = .returned (.tuple #[.slice (some ad) (2 + n) c', .int .i64 0]) ∧ w'.ownsRow w.heap.size 5 1 (.slice (some ad) (2 + n) c') (2 + n) (byts (encP l))) ∧ Upd Nix w w' := by
  obtain ⟨i0, hi0, hz0, hz1, hz2⟩ := info_parts infoU8
  have hlen := hx.1
  simp only [byts, List.length_map, Nat.mul_one] at hlen
  have hni : ¬ (65535 : Int) < (n : Int) := by omega
  have HX := Lib.hid hx
  have HL := Lib.hid hlen
  clear hx hlen
  have w1 : IntKind.u8.wrap ((n / 256 : Nat) : Int) = ((n / 256 : Nat) : Int) := by rw [IntKind.wrap_u8]; omega
  have w2 : IntKind.u8.wrap (n : Int) = ((n % 256 : Nat) : Int) := by rw [IntKind.wrap_u8]; omega
  go_enter Tryz.func5, Tryz.ntmps5
  have hlit : (w.alloc (.cells #[.int .u8 ((n : Int) / 256), .int .u8 ((n : Int) % 256)] 5)).ownsRow w.heap.size 5 1 (.slice (some ⟨w.heap.size, 0, none⟩) 2 2) 2 (byts [n / 256, n % 256]) :=
    World.ownsRow_lit w #[.int .u8 ((n : Int) / 256), .int .u8 ((n : Int) % 256)] 2 (Nat.le_refl _) (by decide) rfl
  have HLIT := Lib.hid hlit
  clear hlit
  go_wp2_with (at_builtin; refine wpList_app _ rfl (.tmp 14) (.tmp 15) 29 rfl w.heap.size 5 i0 _ 1 1 Tryz.underlying29 hi0 hz0 hz1 hz2 rfl (by omega) (.slice (some ⟨w.heap.size, 0, none⟩) 2 2) 2 (byts [n / 256, n % 256]) rfl HLIT.out B A n c (byts l) rfl (HX.out.alloc hB _) (by intro u hu; simp only [byts, List.mem_map] at hu; obtain ⟨b, _, rfl⟩ := hu; rfl) (by unfold maxLen; omega) (by omega) (by simp) ?_; intro A2 c2 w2 hown2 hg2 hat2)
  have hu2 : Upd Nix w w2 := ((Upd.refl _ _).alloc _).grown hg2 fun b hb hlt => by
    simp only [Value.ownBlock, Option.some.injEq] at hb
    omega
  have HO2 := Lib.hid hown2
  have HU2 := Lib.hid hu2
  clear hg2 hat2 hown2 hu2
  go_ret2
  obtain ⟨ad, hA, _⟩ := (Rd.own HO2.out).2 (by omega)
  subst hA
  refine ⟨⟨ad, c2, rfl, ?_⟩, HU2.out⟩
  have h1 := HO2.out
  unfold encP
  rw [HL.out, byts, List.map_append]
  exact h1
/-- slices of bytes of one's own -/
structure RowsOwn (base : Nat) (A : Option Addr) (c : Nat) (rows : List Row) (w : World) : Prop where
  out : w.ownsRow base 29 1 (.slice A rows.length c) rows.length (rows.map Row.val)
  rows : ∀ r ∈ rows, w.ownsRow base 5 1 r.val r.n (byts r.l) ∧ r.n ≤ r.c ∧ ∀ b ∈ r.l, b < 256
theorem RowsOwn.upd {base : Nat} {A : Option Addr} {c : Nat} {rows : List Row} {w w' : World} {S : Nat → Prop} (h : RowsOwn base A c rows w) (k : Upd S w w') (h1 : ∀ b, (Value.slice A rows.length c).ownBlock = some b → ¬ S b) (h2 : ∀ r ∈ rows, ∀ b, r.val.ownBlock = some b → ¬ S b) : RowsOwn base A c rows w' :=
  ⟨own_upd' h.out k h1, fun r hr => ⟨own_upd' (h.rows r hr).1 k (h2 r hr), (h.rows r hr).2⟩⟩
def PFeedIs (base pr : Nat) (bv : Value) (l x : List Nat) (w : World) (e : Ending) (w' : World) : Prop :=
  ∃ (A : Option Addr) (c : Nat) (rows : List Row) (bv' : Value), e = .returned (.slice A rows.length c) ∧ rows.map Row.l = (framesP (l ++ x)).1 ∧ RowsOwn w.heap.size A c rows w' ∧ PfR w' base pr bv' (framesP (l ++ x)).2 ∧ Upd (PFoot pr bv) w w' ∧
    (∀ b, bv'.ownBlock = some b → b < w.heap.size → bv.ownBlock = some b) ∧ ∀ r ∈ rows, ∀ b, r.val.ownBlock = some b → ¬ PFoot pr bv' b
/-- what Feed's loop has -/
structure PfAt (w0 : World) (base pr : Nat) (V : Value) (z : List (List Nat) × List Nat) (cur : List Nat) (bv : Value) (A : Option Addr) (c : Nat) (rows : List Row) (w : World) : Prop where
  rd : PfR w base pr bv cur
  res : (rows.map Row.l ++ (framesP cur).1, (framesP cur).2) = z
  own : RowsOwn w0.heap.size A c rows w
  upd : Upd (PFoot pr V) w0 w
  foot : ∀ b, bv.ownBlock = some b → b < w0.heap.size → V.ownBlock = some b
  apart : ∀ r ∈ rows, ∀ b, r.val.ownBlock = some b → ¬ PFoot pr bv b
theorem infoRowP : (Tryz.prog.info? 29).map (fun i => (i.zero, i.size, i.bytes)) = some (some (.slice none 0 0), 1, 24) := by kernel_rfl
end Go.Proofs.YtageanmjdfodnaaGreatDoor
