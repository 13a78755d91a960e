/- stream: frames in memory; frames.feed. -/
import Derived.Test.YtageanmjdfodnaaGreatDoorPfxF
namespace Go.Proofs.YtageanmjdfodnaaGreatDoor
open Go.RowKit Go.Cx Go.Maps

/-- what a stream tells -/
structure Fr where
  bad : Bool
  body : List Nat
structure FrV where
  row : Row
  bad : Bool
def FrV.cells (f : FrV) : List Value := [.slice f.row.A f.row.n f.row.c, .bool f.bad]
def FrV.said (f : FrV) : Fr := ⟨f.bad, f.row.l⟩
structure FrsOwn (base : Nat) (A : Option Addr) (c : Nat) (fs : List FrV) (w : World) : Prop where
  out : w.ownsRow base 36 2 (.slice A fs.length c) fs.length ((fs.map FrV.cells).flatten)
  rows : ∀ f ∈ fs, w.ownsRow base 5 1 f.row.val f.row.n (byts f.row.l) ∧ f.row.n ≤ f.row.c ∧ ∀ b ∈ f.row.l, b < 256
theorem FrsOwn.upd {base : Nat} {A : Option Addr} {c : Nat} {fs : List FrV} {w w' : World} {S : Nat → Prop} (h : FrsOwn base A c fs w) (k : Upd S w w') (h1 : ∀ b, (Value.slice A fs.length c).ownBlock = some b → ¬ S b) (h2 : ∀ f ∈ fs, ∀ b, f.row.val.ownBlock = some b → ¬ S b) : FrsOwn base A c fs w' :=
  ⟨own_upd' h.out k h1, fun r hr => ⟨own_upd' (h.rows r hr).1 k (h2 r hr), (h.rows r hr).2⟩⟩
theorem infoFrame : (Tryz.prog.info? 36).map (fun i => (i.zero, i.size, i.bytes)) = some (some (.agg #[.slice none 0 0, .bool false]), 2, 32) := by kernel_rfl
def frc (r : Row) : List Value := [.slice r.A r.n r.c, .bool false]
def FFeedIs (base pr : Nat) (bv : Value) (l x : List Nat) (w : World) (e : Ending) (w' : World) : Prop :=
  ∃ (A : Option Addr) (c : Nat) (fs : List FrV) (bv' : Value), e = .returned (.slice A fs.length c) ∧ fs.map FrV.said = (framesP (l ++ x)).1.map (fun b => ⟨false, b⟩) ∧ FrsOwn w.heap.size A c fs w' ∧ PfR w' base pr bv' (framesP (l ++ x)).2 ∧ Upd (PFoot pr bv) w w' ∧
    (∀ b, bv'.ownBlock = some b → b < w.heap.size → bv.ownBlock = some b) ∧ ∀ f ∈ fs, ∀ b, f.row.val.ownBlock = some b → ¬ PFoot pr bv' b
set_option maxRecDepth 100000 in
set_option maxHeartbeats 6400000 in
theorem frames_feed (base pr : Nat) (bv : Value) (l : List Nat) (A : Option Addr) (n c : Nat) (x : List Nat) (w : World) (h : PfR w base pr bv l) (hx : Rd w w.heap.size 1 A n (byts x)) (hxb : ∀ b ∈ x, b < 256) (hl : l.length + n ≤ 1000000000) (hB : base ≤ w.heap.size) :
    Calls Tryz.prog 73 #[.agg #[.pointer (some ⟨pr, 0, none⟩)], .slice A n c] w (FFeedIs base pr bv l x w) := by
  obtain ⟨i1, hi1, hz0, hz1, hz2⟩ := info_parts infoFrame
  have hlw := h.lt
  have hxl := hx.1
  simp only [byts, List.length_map, Nat.mul_one] at hxl
  have hfeed := fun (W : World) (hW : Upd Nix w W) => prefix_feed base pr bv l A n c x W (h.quiet hW) ((hx.below (hW.belowNix (Nat.le_refl _))).more hW.size) hxb hl (Nat.le_trans hB hW.size)
  have HF := Lib.hid hfeed
  have HLW := Lib.hid hlw
  have HXL := Lib.hid hxl
  clear h hx hxb hfeed hlw hxl
  go_enter Tryz.func73, Tryz.ntmps73
  go_wp2_with fail
  refine (HF.out _ ((Upd.refl _ _).alloc _)).mono ?_
  rintro e w1 ⟨A1, c1, rows, bv1, rfl, hsaid, hown, hrd, hu, hft, hap⟩
  have hs0 : w.heap.size + 1 ≤ w1.heap.size := by have := hu.size; simpa using this
  have hu1 : Upd (PFoot pr bv) w w1 := ((Upd.refl (PFoot pr bv) w).alloc _).trans hu fun _ _ h => h
  have hown : RowsOwn w.heap.size A1 c1 rows w1 := ⟨own_dn hown.out (by simp), fun r hr => ⟨own_dn (hown.rows r hr).1 (by simp), (hown.rows r hr).2⟩⟩
  have hft : ∀ b, bv1.ownBlock = some b → b < w.heap.size → bv.ownBlock = some b := fun b hb hlt => hft b hb (by simp; omega)
  have hcount : rows.length ≤ l.length + n := by
    have h1 : ∀ (k : Nat) (z : List Nat), z.length < k → (framesP z).1.length ≤ z.length := by
      intro k
      induction k with
      | zero => intro z h; omega
      | succ k ih =>
        intro z h
        rw [framesP_eq]
        cases hs : (sizeP z).2 with
        | false => simp
        | true =>
          have h2 := sizeP_two z hs
          have h3 := ih (z.drop (sizeP z).1) (by rw [List.length_drop]; omega)
          rw [List.length_drop] at h3
          simp only [if_true, List.length_cons]
          omega
    have h2 := congrArg List.length hsaid
    rw [List.length_map] at h2
    have h3 := h1 _ (l ++ x) (Nat.lt_succ_self _)
    rw [List.length_append, HXL.out] at h3
    omega
  obtain ⟨q, hq⟩ : ∃ q, rows.length = q := ⟨_, rfl⟩
  have HSAID := Lib.hid hsaid
  have HOWN := Lib.hid hown
  have HRD := Lib.hid hrd
  have HU := Lib.hid hu1
  have HFT := Lib.hid hft
  have HAP := Lib.hid hap
  have HQ := Lib.hid hq
  rw [hq] at hcount ⊢
  clear hsaid hown hrd hu hu1 hft hap hq
  go_wp2_with fail
  go_loopw [5, 13] (fun s5 s13 wr => ∃ (k : Nat) (A2 : Option Addr) (c2 : Nat), k ≤ q ∧ s13 = .int .i64 k ∧ s5 = .slice A2 k c2 ∧ wr.ownsRow w1.heap.size 36 2 (.slice A2 k c2) k (((rows.take k).map frc).flatten) ∧ Upd Nix w1 wr) (fun _ s13 _ => q - (intOf s13).toNat)
  case atStart => exact ⟨0, none, 0, Nat.zero_le _, rfl, rfl, ⟨rfl, .inl ⟨rfl, rfl⟩⟩, Upd.refl _ _⟩
  case round =>
    obtain ⟨k, A2, c2, hk, rfl, rfl, hout, hu⟩ := hrel
    have HO := Lib.hid hout
    have HU2 := Lib.hid hu
    have hs1 := hu.size
    by_cases hkq : k < q
    · have hki : (k : Int) < (q : Int) := by omega
      obtain ⟨r, hr⟩ : ∃ r, rows[k]? = some r := ⟨_, List.getElem?_eq_getElem (by rw [HQ.out]; exact hkq)⟩
      obtain ⟨ad, rfl, hadB, hcl⟩ := (Rd.own HOWN.out.out).2 (by rw [HQ.out]; omega)
      have hcell : wr.cell? (ad.add k) = some (.slice r.A r.n r.c) := (hu.cell (by rw [block_add]; exact hadB) (fun h => h)).trans (hcl k _ (by rw [List.getElem?_map, hr]; rfl))
      have htk : ((rows.take (k + 1)).map frc).flatten = ((rows.take k).map frc).flatten ++ [.slice r.A r.n r.c, .bool false] := by
        rw [List.take_add_one, hr]
        simp [frc]
      have HTK := Lib.hid htk
      have hlit := Rd.lit wr [.slice r.A r.n r.c, .bool false] 36 2 1 rfl
      have HLIT := Lib.hid hlit
      clear hout hu hr hcl htk hlit
      go_wp2_with (at_builtin; refine wpList_app _ rfl (.tmp 17) (.tmp 20) 33 rfl w1.heap.size 36 i1 _ 2 32 Tryz.underlying33 hi1 hz0 hz1 hz2 rfl (by omega) (.slice A2 k c2) k (((rows.take k).map frc).flatten) rfl (HO.out.alloc _) (wr.heap.size + 1) (some ⟨wr.heap.size, 0, none⟩) 1 1 [.slice r.A r.n r.c, .bool false] rfl HLIT.out (by intro u hu; simp only [List.mem_cons, List.not_mem_nil, or_false] at hu; rcases hu with rfl | rfl <;> rfl) (by unfold maxLen; omega) (by omega) (by simp; omega) ?_; intro A8 c8 w8 hown8 hg8 hat8)
      refine ⟨⟨k + 1, A8, c8, by omega, by rfl, rfl, by rw [HTK.out]; exact hown8, (HU2.out.alloc _).grown hg8 fun b hb hlt => ?_⟩, ?_⟩
      · have := own_ge HO.out b hb
        omega
      · simp only [intOf]; omega
    · have hki : ¬ (k : Int) < (q : Int) := by omega
      have hkq2 : k = q := by omega
      have HK := Lib.hid hkq2
      clear hout hu
      go_wp2_with fail
      go_ret
      have hk := HK.out
      have hQ := HQ.out
      have ho := HO.out
      have hlen : (rows.map fun r => (⟨r, false⟩ : FrV)).length = k := by rw [List.length_map, hQ, hk]
      have hall : rows.take k = rows := List.take_of_length_le (by omega)
      rw [hall] at ho
      have hw : w.heap.size ≤ w1.heap.size := by omega
      refine ⟨A2, c2, rows.map fun r => ⟨r, false⟩, bv1, by rw [hlen, hk]; rfl, ?_, ⟨?_, fun f hf => ?_⟩, HRD.out.quiet HU2.out, HU.out.trans HU2.out fun _ _ h => h.elim, HFT.out, fun f hf b hb => ?_⟩
      · rw [← HSAID.out, List.map_map, List.map_map]
        rfl
      · rw [hlen, List.map_map]
        exact own_dn ho hw
      · obtain ⟨r, hr, rfl⟩ := List.mem_map.1 hf
        have h1 := HOWN.out.rows r hr
        exact ⟨own_upd' h1.1 HU2.out (fun _ _ h => h), h1.2⟩
      · obtain ⟨r, hr, rfl⟩ := List.mem_map.1 hf
        exact HAP.out r hr b hb
end Go.Proofs.YtageanmjdfodnaaGreatDoor
