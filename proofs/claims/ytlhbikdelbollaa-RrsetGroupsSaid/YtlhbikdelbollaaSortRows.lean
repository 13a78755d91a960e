/- slices.SortFunc with bytes.Compare, on slices of bytes. -/
import Derived.Test.YtlhbikdelbollaaCmp
import Derived.Test.YtlhbikdelbollaaSortLay
namespace Go.Proofs.Ytlhbikdelbollaa
open Go.RowKit Go.Cx Go.Sort

def ltN (a b : List Nat) : Bool := decide (cmpN a b < 0)
theorem ltN_swo : SWO ltN where
  irrefl x := by simp [ltN, cmpN_self]
  trans x y z h1 h2 := by simp only [ltN, decide_eq_true_eq] at *; exact cmpN_trans h1 h2
  ntrans x y z h1 h2 := by
    simp only [ltN, decide_eq_false_iff_not] at *
    intro h
    rcases cmpN_range y z with h3 | h3 | h3
    · exact h2 (by omega)
    · rw [← cmpN_eq h3] at h
      exact h1 h
    · have h4 : cmpN z y < 0 := by rw [cmpN_swap y z]; omega
      exact h1 (cmpN_trans h h4)

/-- rows that can be read, none of them in block g -/
def RowOk (w : World) (g : Nat) (r : Row) : Prop := Sl w w.heap.size r.A r.n r.c r.l ∧ ∀ ad, r.A = some ad → ad.block ≠ g

theorem sortWorld_heap {α : Type} [Inhabited α] (enc : α → Value) (w : World) (g m : Nat) (dk : Array α) (os : Array Obj) (cur : Array Value) (e : TypeId) (hg : w.heap[g]? = some (.cells cur e (0, 0))) :
    (sortWorld enc w g 0 m dk os).heap[g]? = some (.cells (putCells enc 0 dk cur) e (0, 0)) := by
  have hlt := (Array.getElem?_eq_some_iff.1 hg).1
  unfold sortWorld
  rw [heap_grow_old _ _ (by simpa [ahead] using hlt)]
  simp [putRow, mapBlock, Array.getElem?_modify, hg, onCells]
theorem sortWorld_other {α : Type} [Inhabited α] (enc : α → Value) (w : World) (g m : Nat) (dk : Array α) (os : Array Obj) (b : Nat) (hb : b < w.heap.size) (hne : b ≠ g) :
    (sortWorld enc w g 0 m dk os).heap[b]? = w.heap[b]? := by
  unfold sortWorld
  rw [heap_grow_old _ _ (by simpa [ahead] using hb)]
  simp [putRow, mapBlock, Array.getElem?_modify, Ne.symm hne]
theorem sortWorld_upd {α : Type} [Inhabited α] (enc : α → Value) (w : World) (g m : Nat) (dk : Array α) (os : Array Obj) : Upd (One g) w (sortWorld enc w g 0 m dk os) :=
  ⟨rfl, rfl, rfl, by unfold sortWorld; simp, fun b hb hn => sortWorld_other enc w g m dk os b hb hn⟩

abbrev RowSub (w : World) (g : Nat) := { r : Row // RowOk w g r }
def encR (w : World) (g : Nat) (x : RowSub w g) : Value := .slice x.1.A x.1.n x.1.c
def cfR (w : World) (g : Nat) (x y : RowSub w g) : Int := cmpN x.1.l y.1.l
theorem swoR (w : World) (g : Nat) : SWO (ltOf (cfR w g)) where
  irrefl x := ltN_swo.irrefl x.1.l
  trans x y z h1 h2 := ltN_swo.trans x.1.l y.1.l z.1.l h1 h2
  ntrans x y z h1 h2 := ltN_swo.ntrans x.1.l y.1.l z.1.l h1 h2

theorem sl_upd {w w' : World} {S : Nat → Prop} {n c : Nat} {A : Option Addr} {l : List Nat} (h : Sl w w.heap.size A n c l) (k : Upd S w w') (hS : ∀ ad, A = some ad → ¬ S ad.block) : Sl w' w'.heap.size A n c l := by
  refine ⟨h.nc, h.len, ⟨h.rd.1, fun hn => ?_⟩, h.bytes⟩
  obtain ⟨ad, hA, hB, hc⟩ := h.rd.2 hn
  refine ⟨ad, hA, Nat.lt_of_lt_of_le hB k.size, fun j u hu => ?_⟩
  rw [k.cell (p := ad.add j) (by rw [block_add]; exact hB) (by rw [block_add]; exact hS ad hA)]
  exact hc j u hu

theorem cmpR (w : World) (g n : Nat) [Inhabited (RowSub w g)] : CmpLays1 Try.prog 27 #[] (encR w g) (cfR w g) g 0 n w := by
  intro m os dk _ x y
  have hu := sortWorld_upd (encR w g) w g m dk os
  have hx := sl_upd x.2.1 hu fun ad h => x.2.2 ad h
  have hy := sl_upd y.2.1 hu fun ad h => y.2.2 ad h
  exact (bytes_compare _ _ _ x.1.A y.1.A x.1.n y.1.n x.1.c y.1.c x.1.l y.1.l hx hy).mono fun e w' ⟨he, hw⟩ => ⟨he, 0, #[], by rw [← hw]; simp [World.drewN]⟩

set_option maxRecDepth 100000 in
theorem sort_rows (w : World) (g n cap base : Nat) (rows : List Row) (hown : w.ownsRow base 33 1 (.slice (some ⟨g, 0, none⟩) n cap) n (rows.map Row.val)) (hr : ∀ r ∈ rows, RowOk w g r) (hn : 0 < n) (hn2 : n ≤ 10000000000000) :
    Calls Try.prog 47 #[.slice (some ⟨g, 0, none⟩) n cap, .func (.func 27) #[] #[]] w fun e w' => e = .returned (.tuple #[]) ∧
      ∃ rows' : List Row, rows'.Perm rows ∧ rows'.Pairwise (fun a b => ¬ cmpN b.l a.l < 0) ∧ w'.ownsRow base 33 1 (.slice (some ⟨g, 0, none⟩) n cap) n (rows'.map Row.val) ∧ Upd (One g) w w' := by
  have hlen : rows.length = n := by have := hown.1; simpa using this
  obtain ⟨d, hd⟩ : ∃ d : List (RowSub w g), d.map (·.1) = rows := ⟨rows.attach.map fun x => ⟨x.1, hr x.1 x.2⟩, by simp [List.map_map, Function.comp_def]⟩
  have hdl : d.length = n := by rw [← hlen, ← hd, List.length_map]
  obtain ⟨x0, d0, rfl⟩ : ∃ x0 d0, d = x0 :: d0 := by
    cases d with
    | nil => simp at hdl; omega
    | cons x d => exact ⟨x, d, rfl⟩
  haveI : Inhabited (RowSub w g) := ⟨x0⟩
  generalize hdd : x0 :: d0 = d at *
  have henc : rows.map Row.val = d.map (encR w g) := by rw [← hd, List.map_map]; rfl
  rcases hown.2 with ⟨hv, _⟩ | ⟨g', cap', cur, hv, hbase, hg, hnc, hc, hsz, htake⟩
  · cases hv
  injection hv with e1 e2 e3
  injection e1 with e1
  injection e1 with e1
  subst e1 e3
  have hlt := (Array.getElem?_eq_some_iff.1 hg).1
  simp only [Nat.mul_one] at hsz htake
  have hds : d.toArray.size = n := by simpa using hdl
  have hH : Holds (encR w g) w g 0 d.toArray := by
    intro j hj
    rw [hds] at hj
    refine ⟨?_, by simp [World.frozen?, hg]⟩
    rw [Nat.zero_add, cell_of_row w g j cur 33 (0, 0) hg]
    have h1 : cur[j]? = (rows.map Row.val)[j]? := by
      rw [← htake, List.getElem?_take, if_pos hj, Array.getElem?_toList]
    rw [h1, henc, List.getElem?_map, List.getElem?_eq_getElem (by omega)]
    rw [getElem!_pos d.toArray j (by simpa [hdl] using hj)]
    rfl
  have hcon := Any.slices_SortFunc Try.sortL (encR w g) (fun _ => rfl) (cfR w g) (swoR w g) 27 #[] g 0 cap d.toArray w (enters_of Try.func27 (by kernel_rfl) rfl) (cmpR w g _) hH hlt (by omega)
  change Calls Try.prog 47 #[.slice (some ⟨g, 0, none⟩) d.toArray.size cap, .func (.func 27) #[] #[]] w _ at hcon
  rw [hds] at hcon
  refine hcon.mono ?_
  rintro e w' ⟨he, d', m, os, hperm, hsort, rfl⟩
  have hs' : d'.size = n := by rw [hperm.1, hds]
  refine ⟨he, d'.toList.map (·.1), ?_, ?_, ?_, sortWorld_upd _ _ _ _ _ _⟩
  · have := hperm.2.2

    have e1 : d'.extract 0 n = d' := by rw [← hs']; simp
    have e2 : d.toArray.extract 0 n = d.toArray := by rw [← hds]; simp
    rw [e1, e2] at this
    rw [← hd]
    exact (List.Perm.map (·.1) this)
  · rw [List.pairwise_map, List.pairwise_iff_getElem]
    intro i j hi hj hij
    have hj2 : j < d'.size := by simpa using hj
    have this := hsort i j (Nat.zero_le _) hij (by omega)
    rw [getElem!_pos d' i (by omega), getElem!_pos d' j (by omega)] at this
    have h2 := of_decide_eq_false this
    simpa [cfR] using h2
  · refine ⟨by simp [hs'], .inr ⟨g, cap, _, rfl, hbase, sortWorld_heap (encR w g) w g m d' os cur _ hg, hnc, hc, by simp [putCells, hsz], ?_⟩⟩
    rw [Nat.mul_one]
    apply List.ext_getElem?
    intro j
    rw [List.getElem?_take]
    by_cases hj : j < n
    · rw [if_pos hj, Array.getElem?_toList]
      simp only [putCells, Array.getElem?_mapIdx]
      rw [Array.getElem?_eq_getElem (show j < cur.size by omega)]
      simp only [Option.map_some, Nat.zero_add, Nat.zero_le, true_and, Nat.sub_zero, hs', hj, if_true]
      rw [List.map_map, List.getElem?_map, Array.getElem?_toList, Array.getElem?_eq_getElem (show j < d'.size by omega), getElem!_pos d' j (by omega)]
      rfl
    · rw [if_neg hj, List.getElem?_eq_none (by simp [hs']; omega)]
end Go.Proofs.Ytlhbikdelbollaa
