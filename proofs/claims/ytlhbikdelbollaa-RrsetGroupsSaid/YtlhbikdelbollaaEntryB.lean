/- Entries: the walk of write. -/
import Derived.Test.YtlhbikdelbollaaEntryA
import Derived.Test.YtlhbikdelbollaaSets
import Derived.Test.YtlhbikdelbollaaAppStr
import Derived.Deep.RegionHeld3
import Derived.Outline
namespace Go.Proofs.Ytlhbikdelbollaa
open Go.RowKit Go.Cx Go.Maps

/-- num, as the walk spells its call -/
theorem entry_num' {base : Nat} {A0 : Option Addr} {n c a q : Nat} (n' : Nat) {wi : Int} {l : List Nat} {w : World} {cs : Array Value} (width : Nat) (ns : List Nat) (hwi : wi = (width : Int)) (hn' : n + width * q = n') (hq : ns.length = q) (hcs : cs = (ns.map fun x : Nat => Value.int .i64 x).toArray)
    (hown : w.ownsRow base 5 1 (.slice A0 n c) n (byts l)) (hbase : base ≤ w.heap.size)
    (hw : 1 ≤ width ∧ width ≤ 8) (ha : Blk w a 3 cs) (hns : ∀ x ∈ ns, x < 4611686018427387904) (hk : ns.length ≤ 100) (hn : n ≤ 140737488300000) :
    Calls Try.prog 74 #[.slice A0 n c, .int .i64 wi, .slice (some ⟨a, 0, none⟩) q q] w fun e w' =>
      ∃ A' c', e = .returned (.slice A' n' c') ∧ w'.ownsRow base 5 1 (.slice A' n' c') n' (byts (l ++ numL width ns)) ∧
        (∀ b, (Value.slice A' n' c').ownBlock = some b → (Value.slice A0 n c).ownBlock = some b ∨ w.heap.size ≤ b) ∧ Upd (Own (.slice A0 n c)) w w' := by
  subst hwi hq hcs hn'
  exact entry_num base A0 n c width a l ns w hown hbase hw ha hns hk hn

def SetV.earr (s : SetV) : Array Value := #[.bool false, .string s.name, .int .i64 s.type, .int .i64 s.cls, .int .i64 s.rank, .int .i64 s.kind, .int .i64 s.exp, .string s.zone, .slice s.dA s.dn s.dc]
/-- midway: the two boxes, and the bytes that are there -/
structure WAt (w : World) (s : SetV) (g : Nat) (A : Option Addr) (n c : Nat) (l : List Nat) (wr : World) : Prop where
  ebox : Blk wr g 83 s.earr
  box : Blk wr (g + 1) 28 s.cells.toArray
  own : wr.ownsRow (g + 2) 5 1 (.slice A n c) n (byts l)
  bel : Below g w wr
theorem WAt.size {w : World} {s : SetV} {g : Nat} {A : Option Addr} {n c : Nat} {l : List Nat} {wr : World} (h : WAt w s g A n c l wr) : g + 2 ≤ wr.heap.size := by
  have := h.box.lt
  omega
theorem WAt.alloc {w : World} {s : SetV} {g : Nat} {A : Option Addr} {n c : Nat} {l : List Nat} {wr : World} (h : WAt w s g A n c l wr) (o : Obj) : WAt w s g A n c l (wr.alloc o) :=
  ⟨h.ebox.alloc o, h.box.alloc o, h.own.alloc o, h.bel.alloc (by have := h.size; omega) o⟩
theorem WAt.drew {w : World} {s : SetV} {g : Nat} {A : Option Addr} {n c : Nat} {l : List Nat} {wr : World} (h : WAt w s g A n c l wr) : WAt w s g A n c l wr.drew :=
  ⟨h.ebox, h.box, h.own, h.bel.drew⟩
theorem WAt.own_ge {w : World} {s : SetV} {g : Nat} {A : Option Addr} {n c : Nat} {l : List Nat} {wr : World} (h : WAt w s g A n c l wr) (b : Nat) (hb : (Value.slice A n c).ownBlock = some b) : g + 2 ≤ b := by
  rcases h.own.2 with ⟨hv, _⟩ | ⟨g', cap, cur, hv, hg, _⟩
  · rw [hv] at hb; cases hb
  · rw [hv] at hb
    simp only [Value.ownBlock, Option.some.injEq] at hb
    omega
theorem WAt.upd {w : World} {s : SetV} {g : Nat} {A A' : Option Addr} {n c n' c' : Nat} {l l' : List Nat} {wr wr' : World} (h : WAt w s g A n c l wr) (k : Upd (Own (.slice A n c)) wr wr')
    (ho : wr'.ownsRow (g + 2) 5 1 (.slice A' n' c') n' (byts l')) : WAt w s g A' n' c' l' wr' := by
  have hs := h.size
  refine ⟨h.ebox.upd k fun hb => ?_, h.box.upd k fun hb => ?_, ho, h.bel.trans (k.below (B := g) (by omega) fun b _ hb => ?_)⟩
  · have := h.own_ge _ hb; omega
  · have := h.own_ge _ hb; omega
  · have := h.own_ge _ hb; omega
theorem WAt.grown {w : World} {s : SetV} {g : Nat} {A A' : Option Addr} {n c n' c' : Nat} {l l' : List Nat} {wr wr' : World} (h : WAt w s g A n c l wr) (k : wr.grownBy wr' (Value.slice A n c).ownBlock)
    (ho : wr'.ownsRow (g + 2) 5 1 (.slice A' n' c') n' (byts l')) : WAt w s g A' n' c' l' wr' :=
  h.upd ((Upd.refl _ _).grown k fun _ hb _ => hb) ho

set_option maxRecDepth 100000 in
set_option maxHeartbeats 3200000 in
theorem entry_write (s : SetV) (w : World) (B : Nat) (h : SetAt w B s) (hB : B ≤ w.heap.size) (hname : s.name.size < 65536) (hzone : s.zone.size < 65536) (tN cN rN kN eN : Nat)
    (htN : s.type = (tN : Int)) (hcN : s.cls = (cN : Int)) (hrN : s.rank = (rN : Int)) (hkN : s.kind = (kN : Int)) (heN : s.exp = (eN : Int)) (hbt : tN < 65536) (hbc : cN < 65536) (hbr : rN < 65536) (hbk : kN < 65536) (hbe : eN < 4611686018427387904) (hsum : sumL (s.rows.map Row.l) ≤ 1000000) (hdn : s.dn ≤ 1000000) :
    Calls Try.prog 58 #[.agg #[.bool false, .string s.name, .int .i64 s.type, .int .i64 s.cls, .int .i64 s.rank, .int .i64 s.kind, .int .i64 s.exp, .string s.zone, .slice s.dA s.dn s.dc]] w fun e w' => ∃ A n c, e = .returned (.slice A n c) ∧ w'.ownsRow w.heap.size 5 1 (.slice A n c) n (byts (writeL s.said)) ∧ Upd Nix w w' := by
  obtain ⟨i0, hi0, hz0, hz1, hz2⟩ := info_parts infoU8
  have H := Lib.hid h
  clear h
  have HX := Lib.hid (And.intro htN (And.intro hcN (And.intro hrN (And.intro hkN heN))))
  clear htN hcN hrN hkN heN
  obtain ⟨g, hg⟩ : ∃ g, w.heap.size = g := ⟨_, rfl⟩
  go_enter Try.func58, Try.ntmps58
  go_wp2_with fail
  have hat : WAt w s g none 0 0 [] ((w.alloc (.cells s.earr 83)).alloc (.cells s.cells.toArray 28)) :=
    ⟨(Blk.new' _ _ _ hg.symm).alloc _, Blk.new' _ _ _ (by simp [hg]), ⟨rfl, .inl ⟨rfl, rfl⟩⟩, ((Below.refl g w).alloc (by omega) _).alloc (by simp; omega) _⟩
  have HG := Lib.hid hg
  have hBg : B ≤ g := by rw [← hg]; exact hB
  clear hg
  unfold SetV.earr SetV.cells at hat
  generalize hwa : ((w.alloc (.cells #[.bool false, .string s.name, .int .i64 s.type, .int .i64 s.cls, .int .i64 s.rank, .int .i64 s.kind, .int .i64 s.exp, .string s.zone, .slice s.dA s.dn s.dc] 83)).alloc (.cells #[.string s.name, .int .i64 s.type, .int .i64 s.cls, .int .i64 s.rank, .int .i64 s.kind, .int .i64 s.exp, .string s.zone, .slice s.dA s.dn s.dc] 28)) = wa at *
  clear hwa
  have p0 := hat.drew.box.cell 0
  simp only [SetV.cells, List.getElem?_toArray, List.getElem?_cons_zero] at p0
  have hsz := hat.size
  have HAT := Lib.hid hat
  clear hat
  go_region_held3 (fun w' => w'.cell? ⟨g + 1, 0, none⟩ = some (.string s.name)) (first | exact p0 | exact (HAT.out.alloc _).drew.box.cell 0)
    ((first
    | (go_at_call 74; refine (entry_num' (base := g + 2) 2 1 [0, s.name.size] rfl rfl rfl rfl (HAT.out.alloc _).drew.own (HAT.out.alloc _).drew.size ⟨by omega, by omega⟩ (Blk.new' _ _ _ rfl) (by simp; omega) (by simp) (by omega)).mono ?_; rintro e w1 ⟨A1, c1, rfl, hown1, hat1, hu1⟩; have hw1 := (HAT.out.alloc _).drew.upd hu1 hown1; have p0 := hw1.box.cell 0; simp only [SetV.cells, List.getElem?_toArray, List.getElem?_cons_zero] at p0)
    | (refine step_app_s _ rfl (.tmp 17) (.tmp 19) 33 9 rfl (g + 2) 5 i0 Try.underlying33 Try.underlying9 hi0 hz0 hz1 hz2 (.slice A1 2 c1) 2 _ rfl hw1.own s.name rfl (by omega) hw1.size ?_; intro A2 c2 w2 hown2 hg2 hat2; have hw2 := hw1.grown hg2 hown2; have p0 := hw2.box.cell 0; simp only [SetV.cells, List.getElem?_toArray, List.getElem?_cons_zero] at p0)))
  clear p0
  have HW2 := Lib.hid hw2
  clear hw1 hw2 hown1 hat1 hu1 hown2 hg2 hat2
  have c0 : ∀ i, w2.cell? ⟨g + 1, i, none⟩ = _ := fun i => HW2.out.box.cell i
  have c1 : ∀ i, w2.cell? ⟨g, i, none⟩ = _ := fun i => HW2.out.ebox.cell i
  simp only [SetV.cells, SetV.earr] at c0 c1
  go_wp2_with fail
  refine (entry_num' (2 + s.name.size + 4) 2 [tN, cN] rfl rfl rfl (by simp [HX.out.1, HX.out.2.1]) (HW2.out.alloc _).own (HW2.out.alloc _).size ⟨by omega, by omega⟩ (Blk.new' _ _ _ rfl) (by simp; omega) (by simp) (by omega)).mono ?_
  rintro e w3 ⟨A3, c3, rfl, hown3, hat3, hu3⟩
  have hw3 := (HW2.out.alloc _).upd hu3 hown3
  have HW3 := Lib.hid hw3
  have c2 : ∀ i, w3.cell? ⟨g + 1, i, none⟩ = _ := fun i => HW3.out.box.cell i
  have c3' : ∀ i, w3.cell? ⟨g, i, none⟩ = _ := fun i => HW3.out.ebox.cell i
  simp only [SetV.cells, SetV.earr] at c2 c3'
  clear hw3 hown3 hat3 hu3 c0 c1
  go_wp2_with fail
  clear c2 c3'
  obtain ⟨n3, hn3⟩ : ∃ n, 2 + s.name.size + 4 = n := ⟨_, rfl⟩
  have hn3' : n3 ≤ 70000 := by omega
  obtain ⟨l3, hl3⟩ : ∃ l, [] ++ numL 1 [0, s.name.size] ++ bytesOf s.name ++ numL 2 [tN, cN] = l := ⟨_, rfl⟩
  rw [hn3, hl3] at HW3
  rw [hn3]
  have HL3 := Lib.hid hl3
  have HN3 := Lib.hid hn3
  clear hl3 hn3
  go_cut [5] (fun s5 wx => ∃ A c, s5 = .slice A (n3 + 2 + 8) c ∧ WAt w s g A (n3 + 2 + 8) c (l3 ++ numL 1 [rN, kN] ++ numL 8 [eN]) wx)
  case first =>
    have num1 : ∀ (W : World) (a : Nat), W.ownsRow (g + 2) 5 1 (.slice A3 n3 c3) n3 (byts l3) → g + 2 ≤ W.heap.size → Blk W a 3 #[.int .i64 s.rank, .int .i64 s.kind] → Calls Try.prog 74 #[.slice A3 n3 c3, .int .i64 1, .slice (some ⟨a, 0, none⟩) 2 2] W _ :=
      fun W a h1 h2 h3 => entry_num' (n3 + 2) 1 [rN, kN] rfl rfl rfl (by simp [HX.out.2.2.1, HX.out.2.2.2.1]) h1 h2 ⟨by omega, by omega⟩ h3 (by simp; omega) (by simp) (by omega)
    have num8 : ∀ (W : World) (A : Option Addr) (c a : Nat), W.ownsRow (g + 2) 5 1 (.slice A (n3 + 2) c) (n3 + 2) (byts (l3 ++ numL 1 [rN, kN])) → g + 2 ≤ W.heap.size → Blk W a 3 #[.int .i64 s.exp] → Calls Try.prog 74 #[.slice A (n3 + 2) c, .int .i64 8, .slice (some ⟨a, 0, none⟩) 1 1] W _ :=
      fun W A c a h1 h2 h3 => entry_num' (n3 + 2 + 8) 8 [eN] rfl rfl rfl (by simp [HX.out.2.2.2.2]) h1 h2 ⟨by omega, by omega⟩ h3 (by simp; omega) (by simp) (by omega)
    have NUM1 := Lib.hid num1
    have NUM8 := Lib.hid num8
    clear num1 num8
    go_region_held3 (fun w' => w'.cell? ⟨g + 1, 3, none⟩ = some (.int .i64 s.rank) ∧ w'.cell? ⟨g + 1, 4, none⟩ = some (.int .i64 s.kind) ∧ w'.cell? ⟨g + 1, 5, none⟩ = some (.int .i64 s.exp))
      (first | exact ⟨HW3.out.drew.box.cell 3, HW3.out.drew.box.cell 4, HW3.out.drew.box.cell 5⟩ | exact ⟨(HW3.out.alloc _).drew.box.cell 3, (HW3.out.alloc _).drew.box.cell 4, (HW3.out.alloc _).drew.box.cell 5⟩ | exact ⟨((HW3.out.alloc _).alloc _).drew.box.cell 3, ((HW3.out.alloc _).alloc _).drew.box.cell 4, ((HW3.out.alloc _).alloc _).drew.box.cell 5⟩ | exact ⟨hw4.box.cell 3, hw4.box.cell 4, hw4.box.cell 5⟩ | exact ⟨(hw4.alloc _).box.cell 3, (hw4.alloc _).box.cell 4, (hw4.alloc _).box.cell 5⟩ | exact ⟨hw5.box.cell 3, hw5.box.cell 4, hw5.box.cell 5⟩)
      ((first
      | (go_at_call 74; (with_reducible refine (NUM1.out _ _ (HW3.out.alloc _).drew.own (HW3.out.alloc _).drew.size (Blk.new' _ _ _ rfl).drew).mono ?_); rintro e w4 ⟨A4, c4, rfl, hown4, hat4, hu4⟩; have hw4 := (HW3.out.alloc _).drew.upd hu4 hown4; have hk4 := fun i cs (h : Blk _ i 3 cs) => h.upd hu4 (own_ne_blk' (HW3.out.alloc _).drew.own h (by decide)))
      | (go_at_call 74; (with_reducible refine (NUM1.out _ _ ((HW3.out.alloc _).alloc _).drew.own ((HW3.out.alloc _).alloc _).drew.size ((Blk.new' _ _ _ rfl).alloc _).drew).mono ?_); rintro e w4 ⟨A4, c4, rfl, hown4, hat4, hu4⟩; have hw4 := ((HW3.out.alloc _).alloc _).drew.upd hu4 hown4; have hk4 := fun i cs (h : Blk _ i 3 cs) => h.upd hu4 (own_ne_blk' ((HW3.out.alloc _).alloc _).drew.own h (by decide)))
      | (go_at_call 74; (with_reducible refine (NUM1.out _ _ ((HW3.out.alloc _).alloc _).drew.own ((HW3.out.alloc _).alloc _).drew.size (Blk.new' _ _ _ (by simp)).drew).mono ?_); rintro e w4 ⟨A4, c4, rfl, hown4, hat4, hu4⟩; have hw4 := ((HW3.out.alloc _).alloc _).drew.upd hu4 hown4; have hk4 := fun i cs (h : Blk _ i 3 cs) => h.upd hu4 (own_ne_blk' ((HW3.out.alloc _).alloc _).drew.own h (by decide)))
      | (go_at_call 74; (with_reducible refine (NUM8.out _ _ _ _ (hw4.alloc _).own (hw4.alloc _).size (Blk.new' _ _ _ rfl)).mono ?_); rintro e w5 ⟨A5, c5, rfl, hown5, hat5, hu5⟩; have hw5 := (hw4.alloc _).upd hu5 hown5)
      | (go_at_call 74; (with_reducible refine (NUM8.out _ _ _ _ hw4.own hw4.size (hk4 _ _ (Blk.new' _ _ _ (by simp)).drew)).mono ?_); rintro e w5 ⟨A5, c5, rfl, hown5, hat5, hu5⟩; have hw5 := hw4.upd hu5 hown5)
      | (go_at_call 74; (with_reducible refine (NUM8.out _ _ _ _ hw4.own hw4.size (hk4 _ _ ((Blk.new' _ _ _ rfl).alloc _).drew)).mono ?_); rintro e w5 ⟨A5, c5, rfl, hown5, hat5, hu5⟩; have hw5 := hw4.upd hu5 hown5)))
    all_goals
      go_wp2_with fail
      go_meet
      exact ⟨_, _, rfl, hw5⟩
  case rest =>
  obtain ⟨A5, c5, rfl, hw5⟩ := hcut
  obtain ⟨n5, hn5⟩ : ∃ n, n3 + 2 + 8 = n := ⟨_, rfl⟩
  have hn5' : n5 ≤ 71000 := by omega
  obtain ⟨l5, hl5⟩ : ∃ l, l3 ++ numL 1 [rN, kN] ++ numL 8 [eN] = l := ⟨_, rfl⟩
  rw [hn5, hl5] at hw5
  rw [hn5]
  have HL5 := Lib.hid hl5
  have HN5 := Lib.hid hn5
  have HW5 := Lib.hid hw5
  clear hl5 hn5 hw5
  go_wp2_with fail
  have num1 : ∀ (W : World) (a : Nat), W.ownsRow (g + 2) 5 1 (.slice A5 n5 c5) n5 (byts l5) → g + 2 ≤ W.heap.size → Blk W a 3 #[.int .i64 s.zone.size] → Calls Try.prog 74 #[.slice A5 n5 c5, .int .i64 1, .slice (some ⟨a, 0, none⟩) 1 1] W _ :=
    fun W a h1 h2 h3 => entry_num' (n5 + 1) 1 [s.zone.size] rfl rfl rfl rfl h1 h2 ⟨by omega, by omega⟩ h3 (by simp; omega) (by simp) (by omega)
  have NUM1 := Lib.hid num1
  clear num1
  go_region_held3 (fun w' => w'.cell? ⟨g + 1, 6, none⟩ = some (.string s.zone)) (first | exact HW5.out.drew.box.cell 6 | exact (HW5.out.alloc _).drew.box.cell 6 | exact hw6.box.cell 6 | exact hw7.box.cell 6)
    ((first
    | (go_at_call 74; (with_reducible refine (NUM1.out _ _ (by exact (HW5.out.alloc _).drew.own) (by exact (HW5.out.alloc _).drew.size) (by exact (Blk.new' _ _ _ rfl).drew)).mono ?_); rintro e w6 ⟨A6, c6, rfl, hown6, hat6, hu6⟩; have hw6 := (HW5.out.alloc _).drew.upd hu6 hown6)
    | (refine step_app_s _ rfl (.tmp 47) (.tmp 49) 33 9 rfl (g + 2) 5 i0 Try.underlying33 Try.underlying9 hi0 hz0 hz1 hz2 (.slice A6 (n5 + 1) c6) (n5 + 1) _ rfl hw6.own s.zone rfl (by omega) hw6.size ?_; intro A7 c7 w7 hown7 hg7 hat7; have hw7 := hw6.grown hg7 hown7)))
  obtain ⟨n7, hn7⟩ : ∃ n, n5 + 1 + s.zone.size = n := ⟨_, rfl⟩
  have hn7' : n7 ≤ 140000 := by omega
  obtain ⟨l7, hl7⟩ : ∃ l, l5 ++ numL 1 [s.zone.size] ++ bytesOf s.zone = l := ⟨_, rfl⟩
  rw [hn7, hl7] at hw7
  rw [hn7]
  have HL7 := Lib.hid hl7
  have HN7 := Lib.hid hn7
  have HW7 := Lib.hid hw7
  clear hl7 hn7 hw7 hw6 hown6 hat6 hu6 hown7 hg7 hat7
  have d7 : ∀ i, w7.cell? ⟨g + 1, i, none⟩ = _ := fun i => HW7.out.box.cell i
  simp only [SetV.cells] at d7
  go_wp2_with fail
  refine (entry_num' (n7 + 2) 2 [s.dn] rfl rfl rfl rfl (HW7.out.alloc _).own (HW7.out.alloc _).size ⟨by omega, by omega⟩ (Blk.new' _ _ _ rfl) (by simp; omega) (by simp) (by omega)).mono ?_
  rintro e w8 ⟨A8, c8, rfl, hown8, hat8, hu8⟩
  have hw8 := (HW7.out.alloc _).upd hu8 hown8
  have HW8 := Lib.hid hw8
  have d8 : ∀ i, w8.cell? ⟨g + 1, i, none⟩ = _ := fun i => HW8.out.box.cell i
  simp only [SetV.cells] at d8
  clear hw8 hown8 hat8 hu8 d7
  obtain ⟨n8, hn8⟩ : ∃ n, n7 + 2 = n := ⟨_, rfl⟩
  have hn8' : n8 ≤ 140002 := by omega
  obtain ⟨l8, hl8⟩ : ∃ l, l7 ++ numL 2 [s.dn] = l := ⟨_, rfl⟩
  rw [hn8, hl8] at HW8
  rw [hn8]
  have HL8 := Lib.hid hl8
  have HN8 := Lib.hid hn8
  clear hl8 hn8
  go_wp2_with fail
  clear d8
  have HSUM := Lib.hid hsum
  clear hsum
  go_loopw [5, 60] (fun s5 s60 wr => ∃ (k : Nat) (A : Option Addr) (n c : Nat), k ≤ s.dn ∧ s60 = .int .i64 k ∧ s5 = .slice A n c ∧ WAt w s g A n c (l8 ++ datasL ((s.rows.map Row.l).take k)) wr) (fun _ s60 _ => s.dn - (intOf s60).toNat)
  case atStart => exact ⟨0, A8, n8, c8, Nat.zero_le _, rfl, rfl, by simpa [datasL] using HW8.out⟩
  case round =>
    obtain ⟨k, A, n, c, hk, rfl, rfl, hwr⟩ := hrel
    have HWR := Lib.hid hwr
    clear hwr
    by_cases hkn : k < s.dn
    · have hki : (k : Int) < (s.dn : Int) := by omega
      have hrows := H.out.rows.below (HWR.out.bel.mono (B' := B) (by omega))
      obtain ⟨ad, r, hadB, hr, hmem, hcell, hidx⟩ := hrows.idx hkn
      have hsl := hrows.each r hmem
      have hsn := hsl.len
      have hrl := hsl.llen
      have hr2 : (s.rows.map Row.l)[k]? = some r.l := by rw [List.getElem?_map, hr]; rfl
      have hsn2 := datasL_snoc _ k _ hr2
      rw [hrl] at hsn2
      have hnb : n ≤ n8 + 1000000 := by
        have h1 := HWR.out.own.1
        have h2 := HW8.out.own.1
        have h3 := datasL_len ((s.rows.map Row.l).take k)
        have h4 := sumL_take (s.rows.map Row.l) k
        have h5 := HSUM.out
        simp only [byts, List.length_map, List.length_append, Nat.mul_one] at h1 h2
        omega
      have hrb : r.n ≤ 1000000 := by
        have h3 := datasL_len ((s.rows.map Row.l).take (k + 1))
        have h4 := sumL_take (s.rows.map Row.l) (k + 1)
        have h5 := HSUM.out
        rw [hsn2] at h3
        simp only [List.length_append, hrl] at h3
        omega
      have HR := Lib.hid hr
      have HSL := Lib.hid hsl
      have HSN := Lib.hid hsn2
      clear hr hrows hsl hrl hr2 hsn2 hBg
      go_wp2_with fail
      refine (entry_num' (n + 2) 2 [r.n] rfl rfl rfl rfl (HWR.out.alloc _).own (HWR.out.alloc _).size ⟨by omega, by omega⟩ (Blk.new' _ _ _ rfl) (by simp; omega) (by simp) (by omega)).mono ?_
      rintro e w9 ⟨A9, c9, rfl, hown9, hat9, hu9⟩
      have hw9 := (HWR.out.alloc _).upd hu9 hown9
      have hs9 : Sl w9 B r.A r.n r.c r.l := (HSL.out.below ((Below.refl B wr).alloc (by have := HWR.out.size; have := HG.out; omega) _)).below (hu9.below (by have := HWR.out.size; have := HG.out; simp; omega) (fun b _ hb => by have := HWR.out.own_ge b hb; have := HG.out; omega))
      have HW9 := Lib.hid hw9
      have HS9 := Lib.hid hs9
      clear hown9 hat9 hu9 hw9 hs9
      go_wp2_with (at_builtin; refine wpList_app _ rfl (.tmp 68) (.tmp 69) 33 rfl (g + 2) 5 i0 _ 1 1 Try.underlying33 hi0 hz0 hz1 hz2 rfl (by omega) (.slice A9 (n + 2) c9) (n + 2) _ rfl HW9.out.own B r.A r.n r.c (byts r.l) rfl HS9.out.rd (by intro u hu; simp only [byts, List.mem_map] at hu; obtain ⟨b, _, rfl⟩ := hu; rfl) (by unfold maxLen; omega) (by omega) HW9.out.size ?_; intro A10 c10 w10 hown10 hg10 hat10)
      have hfin : WAt w s g A10 (n + 2 + r.n) c10 (l8 ++ datasL ((s.rows.map Row.l).take (k + 1))) w10 := by
        refine HW9.out.grown hg10 ?_
        rw [HSN.out]
        simpa [byts, numL, List.append_assoc] using hown10
      refine ⟨⟨k + 1, A10, n + 2 + r.n, c10, by omega, by rfl, rfl, hfin⟩, ?_⟩
      simp only [intOf]
      omega
    · have hki : ¬ (k : Int) < (s.dn : Int) := by omega
      have hk : k = s.dn := by omega
      subst hk
      go_wp2_with fail
      go_ret
      rw [List.take_of_length_le (by rw [List.length_map, H.out.rows.len]; exact Nat.le_refl _)] at HWR
      refine ⟨A, n, c, rfl, ?_, ?_⟩
      · have h1 := HWR.out.own
        have h2 : l8 ++ datasL (s.rows.map Row.l) = writeL s.said := by
          rw [← HL8.out, ← HL7.out, ← HL5.out, ← HL3.out]
          simp only [writeL, SetV.said, List.nil_append, bytesOf_len, HX.out.1, HX.out.2.1, HX.out.2.2.1, HX.out.2.2.2.1, HX.out.2.2.2.2, Int.toNat_natCast, List.length_map, H.out.rows.len, numL, List.map_cons, List.map_nil, List.flatten_cons, List.flatten_nil, List.append_nil, List.append_assoc]
        rw [h2] at h1
        have h3 := HG.out
        refine ⟨h1.1, ?_⟩
        rcases h1.2 with h | ⟨b, cap, cur, hv, hb, r⟩
        · exact .inl h
        · exact .inr ⟨b, cap, cur, hv, by omega, r⟩
      · have := HWR.out.bel
        have h3 := HG.out
        rw [← h3] at this
        exact Upd.of_below' this
end Go.Proofs.Ytlhbikdelbollaa
