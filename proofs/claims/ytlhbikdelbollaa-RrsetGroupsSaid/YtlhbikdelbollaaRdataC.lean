/- Data of records: the walks of SOA, Can. -/
import Derived.Test.YtlhbikdelbollaaRdataB
namespace Go.Proofs.Ytlhbikdelbollaa
open Go.RowKit Go.Cx Go.Maps

def soaCells (m r : ByteArray) (a b c d e : Int) : Array Value := #[.string m, .string r, .int .i64 a, .int .i64 b, .int .i64 c, .int .i64 d, .int .i64 e]

def ptrs (g : Nat) : Array Value := #[.pointer (some ⟨g, 2, none⟩), .pointer (some ⟨g, 3, none⟩), .pointer (some ⟨g, 4, none⟩), .pointer (some ⟨g, 5, none⟩), .pointer (some ⟨g, 6, none⟩)]
def five (b : List Nat) : List Nat := [bigN (b.take 4), bigN ((b.drop 4).take 4), bigN ((b.drop 8).take 4), bigN ((b.drop 12).take 4), bigN ((b.drop 16).take 4)]
/-- i numbers are read whole; of the next one, the bytes d -/
def fiveTo (b : List Nat) (i : Nat) (d : List Nat) : List Nat := ((five b).take i ++ List.replicate (5 - i) 0).set i (bigN d)
structure SoaAt (w : World) (g P : Nat) (m r : ByteArray) (B : Nat) (A : Option Addr) (c : Nat) (b : List Nat) (i : Nat) (d : List Nat) (wr : World) : Prop where
  res : Blk wr g 66 #[.string ⟨#[]⟩, .string ⟨#[]⟩, .int .i64 0, .int .i64 0, .int .i64 0, .int .i64 0, .int .i64 0]
  box : Blk wr (g + 1) 66 (Value.string m :: Value.string r :: (fiveTo b i d).map fun x : Nat => Value.int .i64 x).toArray
  pts : Blk wr P 89 (ptrs (g + 1))
  sl : Sl wr B A 20 c b
  bel : Below g w wr
theorem SoaAt.ptr {w : World} {g P : Nat} {m r : ByteArray} {B : Nat} {A : Option Addr} {c : Nat} {b : List Nat} {i : Nat} {d : List Nat} {wr : World} (h : SoaAt w g P m r B A c b i d wr) (hi : i < 5) :
    wr.cell? ⟨P, i, none⟩ = some (.pointer (some ⟨g + 1, 2 + i, none⟩)) := by
  rw [h.pts.cell]
  match i, hi with
  | 0, _ => rfl
  | 1, _ => rfl
  | 2, _ => rfl
  | 3, _ => rfl
  | 4, _ => rfl
theorem SoaAt.byte {w : World} {g P : Nat} {m r : ByteArray} {B : Nat} {ad : Addr} {c : Nat} {b : List Nat} {i k y : Nat} {d : List Nat} {wr : World} (h : SoaAt w g P m r B (some ad) c b i d wr) (hy : b[4 * i + k]? = some y) :
    wr.cell? ((ad.add (4 * i)).add k) = some (.int .u8 y) := by
  obtain ⟨ad', hA, _, hc⟩ := h.sl.cell hy
  injection hA with hA
  subst hA
  rwa [add_add]
theorem fiveTo_at {b : List Nat} {i : Nat} {d : List Nat} (hi : i < 5) : (fiveTo b i d)[i]? = some (bigN d) := by
  unfold fiveTo five
  match i, hi with
  | 0, _ => rfl
  | 1, _ => rfl
  | 2, _ => rfl
  | 3, _ => rfl
  | 4, _ => rfl
theorem SoaAt.fld {w : World} {g P : Nat} {m r : ByteArray} {B : Nat} {A : Option Addr} {c : Nat} {b : List Nat} {i : Nat} {d : List Nat} {wr : World} (h : SoaAt w g P m r B A c b i d wr) (hi : i < 5) :
    wr.cell? ⟨g + 1, 2 + i, none⟩ = some (.int .i64 (bigN d)) := by
  rw [h.box.cell, List.getElem?_toArray, Nat.add_comm]
  simp [fiveTo_at hi]
theorem SoaAt.fre {w : World} {g P : Nat} {m r : ByteArray} {B : Nat} {A : Option Addr} {c : Nat} {b : List Nat} {i : Nat} {d : List Nat} {wr : World} (h : SoaAt w g P m r B A c b i d wr) (j : Nat) :
    wr.frozen? ⟨g + 1, 2 + j, none⟩ = false := h.box.free _
theorem Sl.cellsome {w : World} {B n c : Nat} {A : Option Addr} {l : List Nat} (h : Sl w B A (n + 1) c l) : ∃ ad, A = some ad ∧ ad.block < B ∧ True := by
  obtain ⟨ad, hA, hB, _⟩ := h.rd.2 (by omega)
  exact ⟨ad, hA, hB, trivial⟩
theorem bigN_snoc (l : List Nat) (b : Nat) : bigN (l ++ [b]) = bigN l * 256 + b := by simp [bigN, List.foldl_append]
theorem bigN_lt : ∀ (l : List Nat), (∀ b ∈ l, b < 256) → bigN l < 256 ^ l.length := by
  intro l
  obtain ⟨r, rfl⟩ : ∃ r : List Nat, l = r.reverse := ⟨l.reverse, by simp⟩
  induction r with
  | nil => intro _; simp [bigN]
  | cons b r ih =>
    intro h
    rw [List.reverse_cons] at h ⊢
    have h1 := ih fun c hc => h c (by simp at hc ⊢; exact .inl hc)
    have h2 := h b (by simp)
    rw [bigN_snoc, List.length_append, List.length_singleton, Nat.pow_succ]
    omega
theorem fiveTo_set {b : List Nat} {i : Nat} {d d' : List Nat} : (fiveTo b i d).set i (bigN d') = fiveTo b i d' := by
  unfold fiveTo
  rw [List.set_set]
theorem fiveTo_next {b : List Nat} {i : Nat} (hi : i < 5) : fiveTo b i (((b.drop (4 * i)).take 4).take 4) = fiveTo b (i + 1) [] := by
  rw [List.take_take, Nat.min_self]
  unfold fiveTo five
  match i, hi with
  | 0, _ => rfl
  | 1, _ => rfl
  | 2, _ => rfl
  | 3, _ => rfl
  | 4, _ => rfl
theorem SoaAt.next {w : World} {g P : Nat} {m r : ByteArray} {B : Nat} {A : Option Addr} {c : Nat} {b : List Nat} {i : Nat} {wr : World} (h : SoaAt w g P m r B A c b i (((b.drop (4 * i)).take 4).take 4) wr) (hi : i < 5) : SoaAt w g P m r B A c b (i + 1) [] wr :=
  ⟨h.res, by have := h.box; rwa [fiveTo_next hi] at this, h.pts, h.sl, h.bel⟩
theorem SoaAt.step {w : World} {g P : Nat} {m r : ByteArray} {B : Nat} {A : Option Addr} {c : Nat} {b : List Nat} {i k x y : Nat} {wr : World} (h : SoaAt w g P m r B A c b i (((b.drop (4 * i)).take 4).take k) wr) (hk : k < 4)
    (hy : b[4 * i + k]? = some y) (hx : bigN (((b.drop (4 * i)).take 4).take k) = x) (hB : g + 1 ≠ P ∧ B ≤ g + 1) :
    SoaAt w g P m r B A c b i (((b.drop (4 * i)).take 4).take (k + 1)) (wr.setCell ⟨g + 1, 2 + i, none⟩ (.int .i64 ((x : Int) * 256 + (y : Int)))) := by
  have hch : (((b.drop (4 * i)).take 4).take (k + 1)) = (((b.drop (4 * i)).take 4).take k) ++ [y] := by
    rw [List.take_add_one]
    congr 1
    rw [List.getElem?_take, if_pos hk, List.getElem?_drop, hy]
    rfl
  have hv : ((x : Int) * 256 + (y : Int)) = ((bigN (((b.drop (4 * i)).take 4).take (k + 1)) : Nat) : Int) := by
    rw [hch, bigN_snoc, hx]
    omega
  refine ⟨h.res.far (by simp) _, ?_, h.pts.far (Ne.symm hB.1) _, h.sl.below ((Below.refl _ _).setCell hB.2 _), h.bel.setCell (by simp) _⟩
  have := h.box.set (2 + i) (.int .i64 ((x : Int) * 256 + (y : Int)))
  rw [hv, List.setIfInBounds_toArray, Nat.add_comm 2 i, List.set_cons_succ, List.set_cons_succ, ← List.map_set, fiveTo_set] at this
  rw [hv, Nat.add_comm 2 i]
  exact this
/-- what the data of an SOA say -/
def SoaIs (l : List Nat) (e : Ending) : Prop :=
  (soaL l = none ∧ e = .returned (.tuple #[.agg (soaCells ⟨#[]⟩ ⟨#[]⟩ 0 0 0 0 0), .bool false])) ∨
  ∃ s m r f0 f1 f2 f3 f4, soaL l = some s ∧ bytesOf m = s.m ∧ bytesOf r = s.r ∧ s.five = [f0, f1, f2, f3, f4] ∧ e = .returned (.tuple #[.agg (soaCells m r f0 f1 f2 f3 f4), .bool true])

set_option maxRecDepth 100000 in
set_option maxHeartbeats 3200000 in
theorem rdata_soa (A : Option Addr) (n c : Nat) (l : List Nat) (w : World) (B : Nat) (h : Sl w B A n c l) (hwB : B ≤ w.heap.size) :
    Calls Try.prog 44 #[.slice A n c] w fun e w' => SoaIs l e ∧ Upd Nix w w' := by
  have hl := h.llen
  have hnc := h.nc
  have hn := h.len
  have H := Lib.hid h
  clear h
  go_enter Try.func44, Try.ntmps44
  go_wp2_with fail
  have hb0 : Blk (w.alloc (.cells (soaCells ⟨#[]⟩ ⟨#[]⟩ 0 0 0 0 0) 66)) w.heap.size 66 (soaCells ⟨#[]⟩ ⟨#[]⟩ 0 0 0 0 0) := Blk.new w _ _
  have hb1 := hb0.alloc (.cells (soaCells ⟨#[]⟩ ⟨#[]⟩ 0 0 0 0 0) 66)
  have hb2 : Blk ((w.alloc (.cells (soaCells ⟨#[]⟩ ⟨#[]⟩ 0 0 0 0 0) 66)).alloc (.cells (soaCells ⟨#[]⟩ ⟨#[]⟩ 0 0 0 0 0) 66)) (w.heap.size + 1) 66 (soaCells ⟨#[]⟩ ⟨#[]⟩ 0 0 0 0 0) := Blk.new' _ _ _ (by simp)
  have hu0 : Upd Nix w ((w.alloc (.cells (soaCells ⟨#[]⟩ ⟨#[]⟩ 0 0 0 0 0) 66)).alloc (.cells (soaCells ⟨#[]⟩ ⟨#[]⟩ 0 0 0 0 0) 66)) := ((Upd.refl _ _).alloc _).alloc _
  have hz0 : ((w.alloc (.cells (soaCells ⟨#[]⟩ ⟨#[]⟩ 0 0 0 0 0) 66)).alloc (.cells (soaCells ⟨#[]⟩ ⟨#[]⟩ 0 0 0 0 0) 66)).heap.size = w.heap.size + 2 := by simp
  unfold soaCells at hb0 hb1 hb2 hu0 hz0
  obtain ⟨g, hg⟩ : ∃ g, w.heap.size = g := ⟨_, rfl⟩
  have hgB : g ≤ w.heap.size := by omega
  rw [hg] at hb1 hb2 hz0 hwB ⊢
  clear hb0
  generalize hwa : ((w.alloc (.cells #[.string ⟨#[]⟩, .string ⟨#[]⟩, .int .i64 0, .int .i64 0, .int .i64 0, .int .i64 0, .int .i64 0] 66)).alloc (.cells #[.string ⟨#[]⟩, .string ⟨#[]⟩, .int .i64 0, .int .i64 0, .int .i64 0, .int .i64 0, .int .i64 0] 66)) = wa at *
  have hH := H.out.below (hu0.below (B := B) (by omega) (fun _ _ h => h.elim))
  have H1 := Lib.hid hH
  have HB1 := Lib.hid hb1
  have HB2 := Lib.hid hb2
  have HU0 := Lib.hid hu0
  clear hH hb1 hb2 hwa hu0
  refine (rdata_cut A n c l wa B H1.out (by omega)).mono ?_
  rintro e w1 ⟨⟨hc, rfl⟩ | ⟨m, r, s, A1, n1, c1, hc, hs, hsl, rfl⟩, hu⟩
  · have hv : soaL l = none := by unfold soaL; rw [hc]
    have HV := Lib.hid hv
    have hB1 := HB1.out.upd hu (by simp [Nix])
    have hB2 := HB2.out.upd hu (by simp [Nix])
    have hlt1 := hB1.lt
    have hlt2 := hB2.lt
    have hc0 : ∀ i, w1.cell? ⟨g, i, none⟩ = _ := fun i => hB1.cell i
    have hf0 : ∀ i, w1.frozen? ⟨g, i, none⟩ = _ := fun i => hB1.free i
    have hc1 : ∀ i, w1.cell? ⟨g + 1, i, none⟩ = _ := fun i => hB2.cell i
    have hf1 : ∀ i, w1.frozen? ⟨g + 1, i, none⟩ = _ := fun i => hB2.free i
    have hub := (HU0.out.trans hu fun _ _ h => h).below hgB fun _ _ h => h.elim
    have HU := Lib.hid hub
    clear hu hc hB1 hB2 hv hub
    go_wp2_with fail
    refine bodyPost_ret (v := .tuple #[.agg (soaCells ⟨#[]⟩ ⟨#[]⟩ 0 0 0 0 0), .bool false]) (by simp [results, Try.results44, soaCells, go_sem, hc0]) rfl ?_
    refine ⟨.inl ⟨HV.out, rfl⟩, Upd.of_below' ?_⟩
    rw [hg]
    exact ((((((((HU.out.setCell (by simp) _).setCell (by simp) _).setCell (by simp) _).setCell (by simp) _).setCell (by simp) _).setCell (by simp) _).setCell (by simp) _).setCell (by simp) _)
  · have hB1 := HB1.out.upd hu (by simp [Nix])
    have hB2 := HB2.out.upd hu (by simp [Nix])
    have hlt1 := hB1.lt
    have hlt2 := hB2.lt
    have hc1 : ∀ i, w1.cell? ⟨g + 1, i, none⟩ = _ := fun i => hB2.cell i
    have hf1 : ∀ i, w1.frozen? ⟨g + 1, i, none⟩ = _ := fun i => hB2.free i
    have hub := (HU0.out.trans hu fun _ _ h => h).below hgB fun _ _ h => h.elim
    have HU := Lib.hid hub
    have HS := Lib.hid hsl
    have HSS := Lib.hid hs
    have HC := Lib.hid hc
    have HB1 := Lib.hid hB1
    have HB2 := Lib.hid hB2
    clear hu hc hB1 hB2 hub hsl hs
    go_wp2_with fail
    have hw2 := HS.out.below ((Below.refl B w1).setCell (p := ⟨g + 1, 0, none⟩) (show B ≤ g + 1 by omega) (.string s))
    have hk1 := HB1.out.far (p := ⟨g + 1, 0, none⟩) (by simp) (.string s)
    have hk2 := HB2.out.set 0 (.string s)
    have hub := HU.out.setCell (p := ⟨g + 1, 0, none⟩) (by simp) (.string s)
    generalize w1.setCell ⟨g + 1, 0, none⟩ (.string s) = w2 at *
    clear hc1 hf1 hlt1 hlt2
    have H2 := Lib.hid hw2
    have HK1 := Lib.hid hk1
    have HK2 := Lib.hid hk2
    have HU := Lib.hid hub
    have hw2B := hk1.lt
    clear hw2 hk1 hk2 hub
    refine (rdata_cut A1 n1 c1 r w2 B H2.out (by omega)).mono ?_
    rintro e w3 ⟨⟨hc, rfl⟩ | ⟨m', r', s', A2, n2, c2, hc, hs, hsl, rfl⟩, hu⟩
    · have hv : soaL l = none := by unfold soaL; rw [HC.out]; simp only; rw [hc]
      have HV := Lib.hid hv
      have hB1 := HK1.out.upd hu (by simp [Nix])
      have hB2 := HK2.out.upd hu (by simp [Nix])
      have hlt1 := hB1.lt
      have hlt2 := hB2.lt
      have hc0 : ∀ i, w3.cell? ⟨g, i, none⟩ = _ := fun i => hB1.cell i
      have hf0 : ∀ i, w3.frozen? ⟨g, i, none⟩ = _ := fun i => hB1.free i
      have hc1 : ∀ i, w3.cell? ⟨g + 1, i, none⟩ = _ := fun i => hB2.cell i
      have hf1 : ∀ i, w3.frozen? ⟨g + 1, i, none⟩ = _ := fun i => hB2.free i
      simp only [List.setIfInBounds_toArray, List.set_cons_zero] at hc1
      have hub := HU.out.trans (hu.belowNix (B := g) (by omega))
      have HU2 := Lib.hid hub
      clear hu hc hB1 hB2 hv hub
      go_wp2_with fail
      refine bodyPost_ret (v := .tuple #[.agg (soaCells ⟨#[]⟩ ⟨#[]⟩ 0 0 0 0 0), .bool false]) (by simp [results, Try.results44, soaCells, go_sem, hc0]) rfl ?_
      refine ⟨.inl ⟨HV.out, rfl⟩, Upd.of_below' ?_⟩
      rw [hg]
      exact ((((((((HU2.out.setCell (by simp) _).setCell (by simp) _).setCell (by simp) _).setCell (by simp) _).setCell (by simp) _).setCell (by simp) _).setCell (by simp) _).setCell (by simp) _)
    · have hB1 := HK1.out.upd hu (by simp [Nix])
      have hB2 := HK2.out.upd hu (by simp [Nix])
      have hlt1 := hB1.lt
      have hlt2 := hB2.lt
      have hc0 : ∀ i, w3.cell? ⟨g, i, none⟩ = _ := fun i => hB1.cell i
      have hf0 : ∀ i, w3.frozen? ⟨g, i, none⟩ = _ := fun i => hB1.free i
      have hc1 : ∀ i, w3.cell? ⟨g + 1, i, none⟩ = _ := fun i => hB2.cell i
      have hf1 : ∀ i, w3.frozen? ⟨g + 1, i, none⟩ = _ := fun i => hB2.free i
      simp only [List.setIfInBounds_toArray, List.set_cons_zero] at hc1
      have hub := HU.out.trans (hu.belowNix (B := g) (by omega))
      have hl2 := hsl.llen
      have hcn2 := hsl.nc
      have hB2' := hB2.set 1 (.string s')
      have hB1' := hB1.far (p := ⟨g + 1, 1, none⟩) (by simp) (.string s')
      have HU2 := Lib.hid (hub.setCell (p := ⟨g + 1, 1, none⟩) (by simp) (.string s'))
      have HS := Lib.hid (hsl.below ((Below.refl B w3).setCell (p := ⟨g + 1, 1, none⟩) (show B ≤ g + 1 by omega) (.string s')))
      have HSS' := Lib.hid hs
      have HC' := Lib.hid hc
      have HB1 := Lib.hid hB1'
      have HB2 := Lib.hid hB2'
      clear hu hc hB1 hB2 hub hsl hs hB1' hB2'
      by_cases h20 : n2 = 20
      · subst h20
        have h20i : ((20 : Int) != 20) = false := rfl
        go_wp2_with fail
        obtain ⟨P, hP⟩ : ∃ P, w3.heap.size = P := ⟨_, rfl⟩
        have hgP : g + 1 < P := by omega
        have hBw : B ≤ (w3.setCell ⟨g + 1, 1, none⟩ (.string s')).heap.size := by simp; omega
        have hst : SoaAt w g P s s' B A2 c2 r' 0 [] ((w3.setCell ⟨g + 1, 1, none⟩ (.string s')).alloc (.cells (ptrs (g + 1)) 89)) :=
          ⟨HB1.out.alloc _, HB2.out.alloc _, Blk.new' _ _ _ (by simp [hP]), HS.out.below ((Below.refl _ _).alloc hBw _), HU2.out.alloc (by simp; omega) _⟩
        have HST := Lib.hid hst
        unfold ptrs at HST
        rw [hP]
        clear hst hc0 hf0 hc1 hf1 hlt1 hlt2
        go_loopw [44] (fun s44 wr => ∃ i : Nat, i ≤ 5 ∧ s44 = .int .i64 i ∧ SoaAt w g P s s' B A2 c2 r' i [] wr) (fun s44 _ => 5 - (intOf s44).toNat)
        case atStart => exact ⟨0, by omega, rfl, HST.out⟩
        case round =>
          obtain ⟨i, hi, rfl, hat⟩ := hrel
          have HAT := Lib.hid hat
          clear hat
          by_cases hi5 : i < 5
          · have hii : (i : Int) < 5 := by omega
            have hptr : wr.cell? ⟨P, i, none⟩ = some (.pointer (some ⟨g + 1, 2 + i, none⟩)) := HAT.out.ptr hi5
            obtain ⟨ad2, rfl, hadB, _⟩ := HAT.out.sl.cellsome
            go_wp2_with fail
            obtain ⟨wo, rfl⟩ : ∃ wo : World, wo = wr := ⟨_, rfl⟩
            have hlen4 : 4 * i + 4 - 4 * i = 4 := by omega
            rw [hlen4]
            go_loopw [57] (fun s57 wr => ∃ k : Nat, k ≤ 4 ∧ s57 = .int .i64 k ∧ SoaAt w g P s s' B (some ad2) c2 r' i (((r'.drop (4 * i)).take 4).take k) wr) (fun s57 _ => 4 - (intOf s57).toNat)
            case atStart => exact ⟨0, by omega, rfl, HAT.out⟩
            case round =>
              obtain ⟨k, hk, rfl, hat⟩ := hrel
              have HAT2 := Lib.hid hat
              clear hat
              by_cases hk4 : k < 4
              · have hki : (k : Int) < 4 := by omega
                obtain ⟨y, hy⟩ : ∃ y, r'[4 * i + k]? = some y := ⟨_, List.getElem?_eq_getElem (by omega)⟩
                have hb1 := HAT2.out.byte hy
                have hy256 := HAT2.out.sl.bytes y (List.mem_of_getElem? hy)
                obtain ⟨x, hx⟩ : ∃ x, bigN (((r'.drop (4 * i)).take 4).take k) = x := ⟨_, rfl⟩
                have hfld := HAT2.out.fld hi5
                have hfree := HAT2.out.fre i
                rw [hx] at hfld
                have hx24 : x < 16777216 := by
                  rw [← hx]
                  refine Nat.lt_of_lt_of_le (bigN_lt _ fun b hb => HAT2.out.sl.bytes b (List.mem_of_mem_drop (List.mem_of_mem_take (List.mem_of_mem_take hb)))) ?_
                  refine Nat.le_trans (Nat.pow_le_pow_right (by omega) (show _ ≤ 3 from ?_)) (by decide)
                  rw [List.length_take]
                  omega
                have HY := Lib.hid hy
                have HX := Lib.hid hx
                clear hx hy
                have hor : bits .or .i64 ((x : Int) * 256) (y : Int) = ((x * 256 + y : Nat) : Int) := or8 (by omega) hy256
                go_wp2_with fail
                refine ⟨⟨k + 1, by omega, by rfl, HAT2.out.step hk4 HY.out HX.out ?_⟩, ?_⟩
                · omega
                · simp only [intOf]; omega
              · have hki : ¬ (k : Int) < 4 := by omega
                have h4 : k = 4 := by omega
                subst h4
                go_wp2_with fail
                refine ⟨⟨i + 1, by omega, by rfl, HAT2.out.next hi5⟩, ?_⟩
                simp only [intOf]; omega
          · have hii : ¬ (i : Int) < 5 := by omega
            have h5 : i = 5 := by omega
            subst h5
            have hv : soaL l = some ⟨m, m', five r'⟩ := by
              unfold soaL
              rw [HC.out]
              simp only
              rw [HC'.out]
              simp only
              rw [if_pos hl2]
              rfl
            have hbox : Blk wr (g + 1) 66 (Value.string s :: Value.string s' :: (five r').map fun x : Nat => Value.int .i64 x).toArray := HAT.out.box
            obtain ⟨f0, f1, f2, f3, f4, hf⟩ : ∃ f0 f1 f2 f3 f4, five r' = [f0, f1, f2, f3, f4] := ⟨_, _, _, _, _, rfl⟩
            rw [hf] at hv hbox
            have hc1 : ∀ j, wr.cell? ⟨g + 1, j, none⟩ = _ := fun j => hbox.cell j
            simp only [List.map_cons, List.map_nil] at hc1
            have hres := HAT.out.res
            have hlt1 := hres.lt
            have hc0 : ∀ j, wr.cell? ⟨g, j, none⟩ = _ := fun j => hres.cell j
            have hf0 : ∀ j, wr.frozen? ⟨g, j, none⟩ = _ := fun j => hres.free j
            have HV := Lib.hid hv
            clear hv hf hbox hres
            go_wp2_with fail
            refine bodyPost_ret (v := .tuple #[.agg (soaCells s s' f0 f1 f2 f3 f4), .bool true]) (by simp [results, Try.results44, soaCells, go_sem, hc0]) rfl ?_
            refine ⟨.inr ⟨_, s, s', f0, f1, f2, f3, f4, HV.out, HSS.out, HSS'.out, rfl, rfl⟩, Upd.of_below' ?_⟩
            rw [hg]
            exact (((((((HAT.out.bel.setCell (by simp) _).setCell (by simp) _).setCell (by simp) _).setCell (by simp) _).setCell (by simp) _).setCell (by simp) _).setCell (by simp) _)
      · have h20i : ((n2 : Int) != 20) = true := by simp; omega
        have hv : soaL l = none := by
          unfold soaL
          rw [HC.out]
          simp only
          rw [HC'.out]
          simp only
          rw [if_neg (by omega)]
        have HV := Lib.hid hv
        clear hv
        go_wp2_with fail
        refine bodyPost_ret (v := .tuple #[.agg (soaCells ⟨#[]⟩ ⟨#[]⟩ 0 0 0 0 0), .bool false]) (by simp [results, Try.results44, soaCells, go_sem, hc0]) rfl ?_
        refine ⟨.inl ⟨HV.out, rfl⟩, Upd.of_below' ?_⟩
        rw [hg]
        exact (((((((HU2.out.setCell (by simp) _).setCell (by simp) _).setCell (by simp) _).setCell (by simp) _).setCell (by simp) _).setCell (by simp) _).setCell (by simp) _)
set_option maxRecDepth 100000 in
set_option maxHeartbeats 3200000 in
theorem rdata_can (t : Int) (ht : (Lit.int .i64 t).wf = true) (A : Option Addr) (n c : Nat) (l : List Nat) (w : World) (h : Sl w w.heap.size A n c l) :
    Calls Try.prog 53 #[.int .i64 t, .slice A n c] w fun e w' => e = .returned (.bool (rdataL t l)) ∧ Upd Nix w w' := by
  have hl := h.llen
  have hnc := h.nc
  have hn := h.len
  have H := Lib.hid h
  have HL := Lib.hid hl
  clear h hl
  have hcase : (t < 0 ∨ 65535 < t ∨ 65535 < n) ∨ (¬ (t < 0 ∨ 65535 < t ∨ 65535 < l.length) ∧ ¬ t < 0 ∧ ¬ 65535 < t ∧ ¬ (65535 : Int) < (n : Int) ∧ (t = 1 ∨ t = 28 ∨ t = 2 ∨ t = 5 ∨ t = 12 ∨ t = 15 ∨ t = 16 ∨ t = 41 ∨ t = 6 ∨ (t ≠ 1 ∧ t ≠ 28 ∧ t ≠ 2 ∧ t ≠ 5 ∧ t ≠ 12 ∧ t ≠ 15 ∧ t ≠ 16 ∧ t ≠ 41 ∧ t ≠ 6))) := by
    have := HL.out
    omega
  rcases hcase with hr | ⟨hr, h0, h1, h2, hc⟩
  · have hv : rdataL t l = false := by unfold rdataL; rw [if_pos (by rw [HL.out]; exact hr)]
    have HV := Lib.hid hv
    clear hv
    by_cases h0 : t < 0
    · go_enter Try.func53, Try.ntmps53
      go_wp2_with fail
      go_ret
      rw [HV.out]
      exact ⟨rfl, Upd.refl _ _⟩
    · by_cases h1 : 65535 < t
      · go_enter Try.func53, Try.ntmps53
        go_wp2_with fail
        go_ret
        rw [HV.out]
        exact ⟨rfl, Upd.refl _ _⟩
      · have h2 : (65535 : Int) < (n : Int) := by omega
        go_enter Try.func53, Try.ntmps53
        go_wp2_with fail
        go_ret
        rw [HV.out]
        exact ⟨rfl, Upd.refl _ _⟩
  rcases hc with rfl | rfl | rfl | rfl | rfl | rfl | rfl | rfl | rfl | ⟨g1, g28, g2, g5, g12, g15, g16, g41, g6⟩
  · have hv : rdataL 1 l = ((n : Int) == 4) := by
      unfold rdataL
      rw [if_neg hr]
      simp [HL.out]
      rw [Bool.eq_iff_iff]
      simp
      omega
    have HV := Lib.hid hv
    clear hv
    go_enter Try.func53, Try.ntmps53
    go_wp2_with fail
    go_ret
    rw [HV.out]
    exact ⟨rfl, Upd.refl _ _⟩
  · have hv : rdataL 28 l = ((n : Int) == 16) := by
      unfold rdataL
      rw [if_neg hr]
      simp [HL.out]
      rw [Bool.eq_iff_iff]
      simp
      omega
    have HV := Lib.hid hv
    clear hv
    go_enter Try.func53, Try.ntmps53
    go_wp2_with fail
    go_ret
    rw [HV.out]
    exact ⟨rfl, Upd.refl _ _⟩
  · have hv : rdataL 2 l = canL l := by
      unfold rdataL
      rw [if_neg hr]
      simp
    have HV := Lib.hid hv
    clear hv
    go_enter Try.func53, Try.ntmps53
    go_wp2_with fail
    refine (rdata_whole A n c l w H.out).mono ?_
    rintro e w1 ⟨rfl, hu⟩
    have HU := Lib.hid hu
    clear hu
    go_wp2_with fail
    go_ret
    rw [HV.out]
    exact ⟨rfl, HU.out⟩
  · have hv : rdataL 5 l = canL l := by
      unfold rdataL
      rw [if_neg hr]
      simp
    have HV := Lib.hid hv
    clear hv
    go_enter Try.func53, Try.ntmps53
    go_wp2_with fail
    refine (rdata_whole A n c l w H.out).mono ?_
    rintro e w1 ⟨rfl, hu⟩
    have HU := Lib.hid hu
    clear hu
    go_wp2_with fail
    go_ret
    rw [HV.out]
    exact ⟨rfl, HU.out⟩
  · have hv : rdataL 12 l = canL l := by
      unfold rdataL
      rw [if_neg hr]
      simp
    have HV := Lib.hid hv
    clear hv
    go_enter Try.func53, Try.ntmps53
    go_wp2_with fail
    refine (rdata_whole A n c l w H.out).mono ?_
    rintro e w1 ⟨rfl, hu⟩
    have HU := Lib.hid hu
    clear hu
    go_wp2_with fail
    go_ret
    rw [HV.out]
    exact ⟨rfl, HU.out⟩
  · have hv : rdataL 15 l = mailL l := by
      unfold rdataL
      rw [if_neg hr]
      simp
    have HV := Lib.hid hv
    clear hv
    go_enter Try.func53, Try.ntmps53
    go_wp2_with fail
    refine (rdata_mail A n c l w H.out).mono ?_
    rintro e w1 ⟨rfl, hu⟩
    have HU := Lib.hid hu
    clear hu
    go_wp2_with fail
    go_ret
    rw [HV.out]
    exact ⟨rfl, HU.out⟩
  · have hv : rdataL 16 l = textsL l := by
      unfold rdataL
      rw [if_neg hr]
      simp
    have HV := Lib.hid hv
    clear hv
    go_enter Try.func53, Try.ntmps53
    go_wp2_with fail
    refine (rdata_texts A n c l w H.out).mono ?_
    rintro e w1 ⟨rfl, hu⟩
    have HU := Lib.hid hu
    clear hu
    go_wp2_with fail
    go_ret
    rw [HV.out]
    exact ⟨rfl, HU.out⟩
  · have hv : rdataL 41 l = optionsL l := by
      unfold rdataL
      rw [if_neg hr]
      simp
    have HV := Lib.hid hv
    clear hv
    go_enter Try.func53, Try.ntmps53
    go_wp2_with fail
    refine (rdata_options A n c l w H.out).mono ?_
    rintro e w1 ⟨rfl, hu⟩
    have HU := Lib.hid hu
    clear hu
    go_wp2_with fail
    go_ret
    rw [HV.out]
    exact ⟨rfl, HU.out⟩
  · go_enter Try.func53, Try.ntmps53
    go_wp2_with fail
    refine (rdata_soa A n c l w _ H.out (Nat.le_refl _)).mono ?_
    rintro e w1 ⟨⟨hv, rfl⟩ | ⟨s, m, r, f0, f1, f2, f3, f4, hv, _, _, _, rfl⟩, hu⟩
    · have hv : rdataL 6 l = false := by
        unfold rdataL
        rw [if_neg hr]
        simp [hv]
      have HV := Lib.hid hv
      have HU := Lib.hid hu
      clear hv hu
      unfold soaCells
      go_wp2_with fail
      go_ret
      rw [HV.out]
      exact ⟨rfl, Upd.of_below' ((HU.out.belowNix (Nat.le_refl _)).alloc HU.out.size _)⟩
    · have hv : rdataL 6 l = true := by
        unfold rdataL
        rw [if_neg hr]
        simp [hv]
      have HV := Lib.hid hv
      have HU := Lib.hid hu
      clear hv hu
      unfold soaCells
      go_wp2_with fail
      go_ret
      rw [HV.out]
      exact ⟨rfl, Upd.of_below' ((HU.out.belowNix (Nat.le_refl _)).alloc HU.out.size _)⟩
  · have hv : rdataL t l = true := by
      unfold rdataL
      rw [if_neg hr, if_neg g1, if_neg g28, if_neg (by simp [g2, g5, g12]), if_neg g15, if_neg g16, if_neg g41, if_neg g6]
    have HV := Lib.hid hv
    have b1 : (t == 1) = false := beq_eq_false_iff_ne.2 g1
    have b28 : (t == 28) = false := beq_eq_false_iff_ne.2 g28
    have b2 : (t == 2) = false := beq_eq_false_iff_ne.2 g2
    have b5 : (t == 5) = false := beq_eq_false_iff_ne.2 g5
    have b12 : (t == 12) = false := beq_eq_false_iff_ne.2 g12
    have b15 : (t == 15) = false := beq_eq_false_iff_ne.2 g15
    have b16 : (t == 16) = false := beq_eq_false_iff_ne.2 g16
    have b41 : (t == 41) = false := beq_eq_false_iff_ne.2 g41
    have b6 : (t == 6) = false := beq_eq_false_iff_ne.2 g6
    clear hv g1 g28 g2 g5 g12 g15 g16 g41 g6
    go_enter Try.func53, Try.ntmps53
    go_wp2_with fail
    go_ret
    rw [HV.out]
    exact ⟨rfl, Upd.refl _ _⟩
end Go.Proofs.Ytlhbikdelbollaa
