/- Slices of slices of bytes: how they lie; EqualFunc of equal ones; clones of ints. -/
import Derived.Test.YtbjjimbnaicbfaaDoorOpenBB
import Derived.Test.YtbjjimbnaicbfaaDoorMap
import Derived.Deep.DeepCutAuto
import Derived.Deep.CutBlock
namespace Go.Proofs.YtbjjimbnaicbfaaDoor
open Go.RowKit Go.Cx Go.Maps

/-- a slice of bytes that can be read -/
structure Sl (w : World) (B : Nat) (A : Option Addr) (n c : Nat) (l : List Nat) : Prop where
  nc : n ≤ c
  len : n ≤ 140737488355328
  rd : Rd w B 1 A n (byts l)
  bytes : ∀ b ∈ l, b < 256
theorem Sl.below {w w' : World} {B n c : Nat} {A : Option Addr} {l : List Nat} (h : Sl w B A n c l) (k : Below B w w') : Sl w' B A n c l := ⟨h.nc, h.len, h.rd.below k, h.bytes⟩
theorem Sl.upd {w w' : World} {n c : Nat} {A : Option Addr} {l : List Nat} (h : Sl w w.heap.size A n c l) (k : Upd Nix w w') : Sl w' w'.heap.size A n c l := ⟨h.nc, h.len, (h.rd.below (Upd.belowNix k (Nat.le_refl _))).more k.size, h.bytes⟩
theorem Sl.drewN {w : World} {B n c : Nat} {A : Option Addr} {l : List Nat} (h : Sl w B A n c l) (k : Nat) : Sl (w.drewN k) B A n c l := ⟨h.nc, h.len, h.rd, h.bytes⟩
theorem Sl.more {w : World} {B B' n c : Nat} {A : Option Addr} {l : List Nat} (h : Sl w B A n c l) (hB : B ≤ B') : Sl w B' A n c l := ⟨h.nc, h.len, h.rd.more hB, h.bytes⟩
theorem Sl.llen {w : World} {B n c : Nat} {A : Option Addr} {l : List Nat} (h : Sl w B A n c l) : l.length = n := by
  have := h.rd.1
  simpa [byts] using this
theorem Sl.cut {w : World} {B n c : Nat} {A : Option Addr} {l : List Nat} (h : Sl w B A n c l) {k : Nat} (hk : k ≤ n) : Sl w B (if c = k then A else A.map (·.add k)) (n - k) (c - k) (l.drop k) := by
  refine ⟨by have := h.nc; omega, by have := h.len; omega, ?_, fun b hb => h.bytes b (List.mem_of_mem_drop hb)⟩
  have := h.rd.cut hk h.nc
  simpa [byts] using this
theorem Sl.front {w : World} {B n c : Nat} {A : Option Addr} {l : List Nat} (h : Sl w B A n c l) {k : Nat} (hk : k ≤ n) : Sl w B A k c (l.take k) := by
  refine ⟨by have := h.nc; omega, by have := h.len; omega, ?_, fun b hb => h.bytes b (List.mem_of_mem_take hb)⟩
  have := h.rd.front hk
  simpa [byts] using this
structure RowsAt (w : World) (B : Nat) (A : Option Addr) (n c : Nat) (rows : List Row) : Prop where
  len : rows.length = n
  nc : n ≤ c
  small : n ≤ 10000000000000
  rd : Rd w B 1 A n (rows.map Row.val)
  each : ∀ r ∈ rows, Sl w B r.A r.n r.c r.l
section
variable {w w' : World} {B n c : Nat} {A : Option Addr} {rows : List Row}
theorem RowsAt.below (h : RowsAt w B A n c rows) (k : Below B w w') : RowsAt w' B A n c rows := ⟨h.len, h.nc, h.small, h.rd.below k, fun r hr => (h.each r hr).below k⟩
theorem RowsAt.drewN (h : RowsAt w B A n c rows) (k : Nat) : RowsAt (w.drewN k) B A n c rows := ⟨h.len, h.nc, h.small, h.rd, fun r hr => (h.each r hr).drewN k⟩
theorem RowsAt.more {B' : Nat} (h : RowsAt w B A n c rows) (k : B ≤ B') : RowsAt w B' A n c rows := ⟨h.len, h.nc, h.small, h.rd.more k, fun r hr => (h.each r hr).more k⟩
theorem RowsAt.at (h : RowsAt w B A n c rows) {i : Nat} (hi : i < n) : ∃ ad r, A = some ad ∧ ad.block < B ∧ rows[i]? = some r ∧ r ∈ rows ∧ w.cell? (ad.add i) = some r.val := by
  obtain ⟨ad, hA, hB, hc⟩ := h.rd.2 (by omega)
  have hl : i < rows.length := by have := h.len; omega
  exact ⟨ad, rows[i], hA, hB, List.getElem?_eq_getElem hl, List.getElem_mem hl, hc i _ (by rw [List.getElem?_map, List.getElem?_eq_getElem hl]; rfl)⟩
theorem sizeRows (W : World) : (sizeOf (Tryd.prog.elem 47)).run Tryd.prog W = .ok 1 W := by kernel_rfl
set_option maxRecDepth 100000 in
/-- the address of the i-th row, whatever is known of the slice's own -/
theorem RowsAt.idx (h : RowsAt w B A n c rows) {i : Nat} (hi : i < n) : ∃ (ad : Addr) (r : Row), ad.block < B ∧ rows[i]? = some r ∧ r ∈ rows ∧ w.cell? (ad.add i) = some (.slice r.A r.n r.c) ∧
    ∀ W, (Instr.indexAt 47 (.slice A n c) (.int .i64 (i : Int))).run Tryd.prog W = .ok (.pointer (some (ad.add i))) W := by
  obtain ⟨ad, r, rfl, hB, hr, hm, hc⟩ := h.at hi
  refine ⟨ad, r, hB, hr, hm, hc, fun W => ?_⟩
  rw [run_indexAt_slice W 47 ad n c .i64 (i : Int) Tryd.underlying47, if_pos ⟨by omega, by omega⟩, sizeRows W]
  simp [Result.andThen]
end
set_option maxRecDepth 100000 in
set_option maxHeartbeats 3200000 in
theorem equal_func (A A' : Option Addr) (n c c' : Nat) (rows rows' : List Row) (w : World) (h : RowsAt w w.heap.size A n c rows) (h' : RowsAt w w.heap.size A' n c' rows') (he : rows.map Row.l = rows'.map Row.l) :
    Calls Tryd.prog 21 #[.slice A n c, .slice A' n c', .func (.func 12) #[] #[]] w fun e w' => e = .returned (.bool true) ∧ Upd Nix w w' := by
  have hs := h.small
  have H := Lib.hid h
  have H' := Lib.hid h'
  have HE := Lib.hid he
  clear h h' he
  go_enter Tryd.func21, Tryd.ntmps21
  go_wp2_with fail
  go_loopw [17] (fun s17 wr => ∃ k : Nat, k ≤ n ∧ s17 = .int .i64 k ∧ Upd Nix w wr) (fun s17 _ => n - (intOf s17).toNat)
  case atStart => exact ⟨0, Nat.zero_le _, rfl, Upd.refl _ _⟩
  case round =>
    obtain ⟨k, hk, rfl, hur⟩ := hrel
    have HUR := Lib.hid hur
    by_cases hkn : k < n
    · have hki : (k : Int) < (n : Int) := by omega
      have hR := H.out.below (Upd.belowNix hur (Nat.le_refl _))
      have hR' := H'.out.below (Upd.belowNix hur (Nat.le_refl _))
      obtain ⟨ad, r, _, hr, hrm, hrc, hidx⟩ := hR.idx hkn
      obtain ⟨ad', r', _, hr', hrm', hrc', hidx'⟩ := hR'.idx hkn
      have hsl := hR.each r hrm
      have hsl' := hR'.each r' hrm'
      have hl : r.l = r'.l := by
        have h1 := congrArg (fun x => x[k]?) HE.out
        simp only [List.getElem?_map, hr, hr', Option.map_some, Option.some.injEq] at h1
        exact h1
      have hcall := bytes_equal wr _ _ r.A r'.A r.n r'.n r.c r'.c r.l r'.l hsl.rd hsl'.rd hsl.bytes hsl'.bytes
      rw [hl] at hcall
      simp only [decide_true] at hcall
      have HC := Lib.hid hcall
      clear hur hR hR' hr hrm hsl hr' hrm' hsl' hl hcall
      go_wp2_with fail
      refine HC.out.mono ?_
      rintro e w1 ⟨rfl, rfl⟩
      clear HC
      go_wp2_with fail
      refine ⟨⟨k + 1, by omega, by rfl, HUR.out⟩, ?_⟩
      simp only [intOf]; omega
    · have hki : ¬ (k : Int) < (n : Int) := by omega
      clear hur
      go_wp2_with fail
      go_ret
      exact ⟨rfl, HUR.out⟩
def intsV (xs : List Int) : List Value := xs.map fun n => Value.int .i64 n
theorem infoI64 : (Tryd.prog.info? 3).map (fun i => (i.zero, i.size, i.bytes)) = some (some (.int .i64 0), 1, 8) := by kernel_rfl
set_option maxRecDepth 100000 in
theorem ints_clone (w : World) (B : Nat) (A : Option Addr) (n c : Nat) (l : List Int) (hx : Rd w B 1 A n (intsV l)) (hB : B ≤ w.heap.size) (hn : n * 8 ≤ 140737488355328) :
    Calls Tryd.prog 20 #[.slice A n c] w fun e w' => ∃ A' c', e = .returned (.slice A' n c') ∧ w'.ownsRow w.heap.size 3 1 (.slice A' n c') n (intsV l) ∧ Upd Nix w w' := by
  have HX := Lib.hid hx
  have kn := fun (w : World) (a : Option Addr) (n c : Nat) => run_eql_slice_nil (P := Tryd.prog) w 48 3 a n c Tryd.underlying48
  rcases A with _ | ad
  · have h0 : n = 0 := by
      rcases Nat.eq_zero_or_pos n with h | h
      · exact h
      · obtain ⟨_, h', _⟩ := hx.2 h; cases h'
    subst h0
    clear hx
    go_enter Tryd.func20, Tryd.ntmps20
    go_wp2
    go_ret
    exact ⟨none, 0, rfl, ⟨HX.out.1, .inl ⟨rfl, rfl⟩⟩, Upd.refl _ _⟩
  · clear hx
    obtain ⟨i0, hi0, hz0, hz1, hz2⟩ := info_parts infoI64
    go_enter Tryd.func20, Tryd.ntmps20
    go_wp2_with (at_builtin; refine wpList_app _ rfl (.tmp 5) (.tmp 6) 48 rfl w.heap.size 3 i0 _ 1 8 Tryd.underlying48 hi0 hz0 hz1 hz2 rfl (by omega) (.slice (some ⟨w.heap.size, 0, none⟩) 0 0) 0 [] rfl (World.ownsRow_lit w #[] 0 (Nat.le_refl _) (by decide) rfl) B (some ad) n c (intsV l) rfl (HX.out.alloc hB _) (by intro u hu; simp only [intsV, List.mem_map] at hu; obtain ⟨b, _, rfl⟩ := hu; rfl) (by unfold maxLen; omega) (by omega) (by simp) ?_; intro A2 cp2 w2 hown2 hg2 hat2)
    go_ret
    rw [List.nil_append] at hown2
    simp only [Nat.zero_add] at hown2
    refine ⟨A2, cp2, by simp, hown2, ((Upd.refl Nix w).alloc _).grown hg2 fun b hb hl => ?_⟩
    simp only [Value.ownBlock, Option.some.injEq] at hb
    omega
section
open Go.ChangeShapes Go.WideShapes Go.ChangeAt Go.Deep Go.Joins
set_option maxRecDepth 100000 in
theorem in_rows2 {H : Type} {enc : TypeId × Value → H} {W : World} {r : Reach} {b0 : Nat} {v : Value} {d : DataW H} {p : List MemPlace} (hv : Value.okWide Tryd.prog W r b0 47 v) (h : DataW.Trod enc Tryd.prog W 0 (fun _ => true) true 47 v d p) (hw : Small Tryd.prog 47 d) :
    ∃ (A : Option Addr) (n c : Nat) (L : List Row), v = .slice A n c ∧ RowsAt W W.heap.size A n c L := by
  obtain ⟨A, n, c, rfl⟩ := okWide_slice Tryd.underlying47 hv
  have hc1 : Tryd.prog.cellsOf 22 = 1 := by kernel_rfl
  obtain ⟨A', n', c', els, hcs, hnc, hcap, hel, hrd, hall⟩ := cells_slice Tryd.underlying47 (by rw [hc1]; omega) (cells_in h hw)
  simp only [Value.cells, List.cons.injEq, Value.slice.injEq, and_true] at hcs
  obtain ⟨rfl, rfl, rfl⟩ := hcs
  rw [hc1] at hrd hall
  rw [bytes8s] at hcap
  obtain ⟨L, rfl, hL⟩ := list_of (fun r : Row => RowIn W W.heap.size r) (fun r => [r.val]) els (fun el he => cells_bytes (hall el he).1)
  rw [flat1 Row.val] at hrd
  refine ⟨A, n, c, L, rfl, by simpa using hel, hnc, by unfold reachBytes at hcap; omega, hrd, fun x hx => ?_⟩
  have hr := hL x hx
  have hcap' := hr.cap
  have hnc' := hr.nc
  exact ⟨hr.nc, by omega, hr.rd, hr.bytes⟩
end
end Go.Proofs.YtbjjimbnaicbfaaDoor
