/- rrset.by. -/
import Derived.Test.YtlhbikdelbollaaKeys
import Derived.Test.YtlhbikdelbollaaRrsetA
import Derived.Test.YtlhbikdelbollaaOrder
import Derived.Deep.RegionLaw
namespace Go.Proofs.Ytlhbikdelbollaa
open Go.RowKit Go.Cx Go.Maps

theorem lowerL_lt (n : List Nat) (h : ∀ b ∈ n, b < 256) : ∀ b ∈ lowerL n, b < 256 := by
  intro b hb
  unfold lowerL at hb
  split at hb
  · obtain ⟨c, hc, rfl⟩ := List.mem_map.1 hb
    exact lowC_lt (h c hc)
  · cases hb
theorem lowerL_len (n : List Nat) : (lowerL n).length ≤ n.length := by
  unfold lowerL
  split <;> simp
abbrev Grp := KeyC × List RRV
def keyOfRR (r : RRV) : KeyC := ⟨lowerL (bytesOf r.name), r.type, r.cls⟩
def byAdd (gs : List Grp) (r : RRV) : List Grp :=
  if mayL r.said = true then
    (match gs.findIdx? (fun g => g.1 = keyOfRR r) with
     | some i => gs.modify i (fun g => (g.1, g.2 ++ [r]))
     | none => gs ++ [(keyOfRR r, [r])])
  else gs
def byL (rs : List RRV) : List Grp := rs.foldl byAdd []

theorem byAdd_len (gs : List Grp) (r : RRV) : (byAdd gs r).length ≤ gs.length + 1 := by
  unfold byAdd
  split
  · split <;> simp
  · omega
theorem byL_len (rs : List RRV) : (byL rs).length ≤ rs.length := by
  have h : ∀ (rs : List RRV) (gs : List Grp), (rs.foldl byAdd gs).length ≤ gs.length + rs.length := by
    intro rs
    induction rs with
    | nil => intro gs; simp
    | cons r rs ih =>
      intro gs
      have h1 := ih (byAdd gs r)
      have h2 := byAdd_len gs r
      simp only [List.foldl_cons, List.length_cons]
      omega
  have := h rs []
  rw [List.length_nil, Nat.zero_add] at this
  exact this
theorem modify_last {α : Type} (l : List α) (x : α) (f : α → α) : (l ++ [x]).modify l.length f = l ++ [f x] := by
  induction l with
  | nil => rfl
  | cons a l ih =>
    show a :: ((l ++ [x]).modify l.length f) = a :: (l ++ [f x])
    rw [ih]
theorem infoRRs : (Try.prog.info? 22).map (fun i => (i.zero, i.size, i.bytes)) = some (some (.slice none 0 0), 1, 24) := by kernel_rfl
theorem infoRR : (Try.prog.info? 35).map (fun i => (i.zero, i.size, i.bytes)) = some (some (.agg #[.string ⟨#[]⟩, .int .i64 0, .int .i64 0, .int .i64 0, .slice none 0 0]), 5, 64) := by kernel_rfl
theorem byL_grp (rs : List RRV) : ∀ g ∈ byL rs, g.2.length ≤ rs.length := by
  have h : ∀ (rs : List RRV) (gs : List Grp) (m : Nat), (∀ g ∈ gs, g.2.length ≤ m) → ∀ g ∈ rs.foldl byAdd gs, g.2.length ≤ m + rs.length := by
    intro rs
    induction rs with
    | nil => intro gs m h; simpa using h
    | cons r rs ih =>
      intro gs m h g hg
      have := ih (byAdd gs r) (m + 1) (fun g hg => ?_) g hg
      · simp only [List.length_cons]; omega
      · unfold byAdd at hg
        split at hg
        · split at hg
          · rw [List.mem_iff_getElem?] at hg
            obtain ⟨j, hj⟩ := hg
            rw [List.getElem?_modify] at hj
            cases hx : gs[j]? with
            | none => rw [hx] at hj; simp at hj
            | some x =>
              rw [hx] at hj
              have hxm := h x (List.mem_of_getElem? hx)
              simp only [Option.map_eq_map, Option.map_some, Option.some.injEq] at hj
              split at hj
              · subst hj; simp; omega
              · subst hj; simp; omega
          · rcases List.mem_append.1 hg with hg | hg
            · have := h g hg; omega
            · simp only [List.mem_singleton] at hg
              subst hg
              simp
        · have := h g hg; omega
  intro g hg
  have := h rs [] 0 (by simp) g hg
  omega
structure Sv where
  A : Option Addr
  n : Nat
  c : Nat
def Sv.val (s : Sv) : Value := .slice s.A s.n s.c
structure GAt (w : World) (A : Option Addr) (n c M : Nat) (gs : List Grp) (svs : List Sv) (f : Value → Option Value) (wr : World) : Prop where
  out : wr.ownsRow w.heap.size 22 1 (.slice A n c) n (svs.map Sv.val)
  len : gs.length = n
  grp : ∀ (i : Nat) (g : Grp) (sv : Sv), gs[i]? = some g → svs[i]? = some sv → wr.ownsRow w.heap.size 35 5 sv.val g.2.length ((g.2.map RRV.cells).flatten) ∧ sv.n = g.2.length
  dis : ∀ (i j : Nat) (si sj : Sv) (b : Nat), i ≠ j → svs[i]? = some si → svs[j]? = some sj → si.val.ownBlock = some b → sj.val.ownBlock ≠ some b
  map : MapAt wr Try.prog 56 M f
  hit : ∀ (i : Nat) (g : Grp), gs[i]? = some g → f g.1.val = some (.int .i64 (i : Int))
  miss : ∀ k, KeyOk k → (∀ g ∈ gs, g.1 ≠ k) → f k.val = none
  keys : ∀ g ∈ gs, KeyOk g.1
  bel : Below w.heap.size w wr
  mge : w.heap.size ≤ M
theorem GAt.upd {w : World} {A : Option Addr} {n c M : Nat} {gs : List Grp} {svs : List Sv} {f : Value → Option Value} {wr wr' : World} (h : GAt w A n c M gs svs f wr) (k : Upd Nix wr wr') : GAt w A n c M gs svs f wr' :=
  ⟨own_upd' h.out k fun _ _ h => h, h.len, fun i g sv h1 h2 => ⟨own_upd' (h.grp i g sv h1 h2).1 k fun _ _ h => h, (h.grp i g sv h1 h2).2⟩, h.dis, h.map.keep (k.block M h.map.lt fun h => h), h.hit, h.miss, h.keys, h.bel.trans (k.belowNix h.bel.size), h.mge⟩

theorem own_not_map {w : World} {base : Nat} {e kt : TypeId} {size n M : Nat} {v : Value} {xs : List Value} {P : Program} {f : Value → Option Value} (h : w.ownsRow base e size v n xs) (hm : MapAt w P kt M f) : v.ownBlock ≠ some M := by
  intro hb
  obtain ⟨es, clock, hM, _⟩ := hm
  rcases h.2 with ⟨rfl, _⟩ | ⟨g, cap, cur, rfl, _, hg, _⟩
  · cases hb
  · simp only [Value.ownBlock, Option.some.injEq] at hb
    subst hb
    rw [hg] at hM
    cases hM
theorem blk_not_map {w : World} {t kt : TypeId} {g M : Nat} {cs : Array Value} {P : Program} {f : Value → Option Value} (h : Blk w g t cs) (hm : MapAt w P kt M f) : g ≠ M := by
  rintro rfl
  obtain ⟨es, clock, hM, _⟩ := hm
  unfold Blk at h
  rw [h] at hM
  cases hM
theorem upd_grown {w w' : World} {v : Value} (h : w.grownBy w' v.ownBlock) : Upd (Own v) w w' := (Upd.refl _ _).grown h fun _ hb _ => hb
theorem upd_grown1 {w w' : World} {g : Nat} (h : w.grownBy w' (some g)) : Upd (One g) w w' := (Upd.refl _ _).grown h fun b hb _ => by injection hb with hb; exact hb.symm
theorem GAt.push {w : World} {A A4 : Option Addr} {n c c4 M : Nat} {gs : List Grp} {svs : List Sv} {f : Value → Option Value} {w2 w3 w4 : World} {K : KeyC} {o : Obj} (h : GAt w A n c M gs svs f w2) (hk : KeyOk K) (hno : ∀ g ∈ gs, g.1 ≠ K)
    (hmap : MapAt w3 Try.prog 56 M (putF f K.val (.int .i64 (n : Int)))) (hgr : w2.grownBy w3 (some M))
    (hown : w4.ownsRow w.heap.size 22 1 (.slice A4 (n + 1) c4) (n + 1) (svs.map Sv.val ++ [.slice none 0 0])) (hg : (w3.alloc o).grownBy w4 (Value.slice A n c).ownBlock) :
    GAt w A4 (n + 1) c4 M (gs ++ [(K, [])]) (svs ++ [⟨none, 0, 0⟩]) (putF f K.val (.int .i64 (n : Int))) w4 := by
  have u1 := upd_grown1 hgr
  have u2 : Upd Nix w3 (w3.alloc o) := (Upd.refl _ _).alloc o
  have u3 := upd_grown hg
  have hsl : svs.length = n := by have := h.out.1; simpa using this
  have hM := h.map.lt
  have hob := own_not_map h.out h.map
  have hgeo := own_ge h.out
  have keep : ∀ (v : Value) (m : Nat) (xs : List Value), w2.ownsRow w.heap.size 35 5 v m xs → w4.ownsRow w.heap.size 35 5 v m xs := fun v m xs hv => by
    have h1 := own_upd' hv u1 fun b hb hS => own_not_map hv h.map (by rw [hb]; exact congrArg some hS)
    have h2 := own_upd' h1 u2 fun _ _ h => h
    have ho2 := own_upd' (own_upd' h.out u1 fun b hb hS => hob (by rw [hb]; exact congrArg some hS)) u2 fun _ _ h => h
    exact own_upd' h2 u3 fun b hb hS => own_ne_own h2 ho2 (by decide) b hb hS
  have hold : ∀ (i : Nat) (g : Grp), gs[i]? = some g → K.val ≠ g.1.val := fun i g hi e => hno g (List.mem_of_getElem? hi) (KeyC.inj (h.keys g (List.mem_of_getElem? hi)) hk e.symm)
  refine ⟨by simpa [Sv.val] using hown, by simp [h.len], ?_, ?_, ?_, ?_, ?_, ?_, ?_, h.mge⟩
  · intro i g sv hg1 hs1
    rw [List.getElem?_append] at hg1 hs1
    rw [h.len] at hg1
    rw [hsl] at hs1
    by_cases hi : i < n
    · rw [if_pos hi] at hg1 hs1
      exact ⟨keep _ _ _ (h.grp i g sv hg1 hs1).1, (h.grp i g sv hg1 hs1).2⟩
    · rw [if_neg hi] at hg1 hs1
      have h0 : i - n = 0 := by
        have := (List.getElem?_eq_some_iff.1 hg1).1
        simpa using this
      rw [h0] at hg1 hs1
      simp only [List.getElem?_cons_zero, Option.some.injEq] at hg1 hs1
      subst hg1 hs1
      exact ⟨⟨rfl, .inl ⟨rfl, rfl⟩⟩, rfl⟩
  · intro i j si sj b hij h1 h2 hb
    rw [List.getElem?_append, hsl] at h1 h2
    by_cases hj : j < n
    · rw [if_pos hj] at h2
      by_cases hi : i < n
      · rw [if_pos hi] at h1
        exact h.dis i j si sj b hij h1 h2 hb
      · rw [if_neg hi] at h1
        have h0 : i - n = 0 := by
          have := (List.getElem?_eq_some_iff.1 h1).1
          simpa using this
        rw [h0] at h1
        simp only [List.getElem?_cons_zero, Option.some.injEq] at h1
        subst h1
        cases hb
    · rw [if_neg hj] at h2
      have h0 : j - n = 0 := by
        have := (List.getElem?_eq_some_iff.1 h2).1
        simpa using this
      rw [h0] at h2
      simp only [List.getElem?_cons_zero, Option.some.injEq] at h2
      subst h2
      simp [Sv.val, Value.ownBlock]
  · refine hmap.keep ?_
    have hlt3 : M < w3.heap.size := hmap.lt
    rw [u3.block M (by simp; omega) (fun hS => hob hS), u2.block M hlt3 fun h => h]
  · intro i g hg1
    rw [List.getElem?_append, h.len] at hg1
    by_cases hi : i < n
    · rw [if_pos hi] at hg1
      rw [putF_other (hold i g hg1).symm]
      exact h.hit i g hg1
    · rw [if_neg hi] at hg1
      have h0 : i - n = 0 := by
        have := (List.getElem?_eq_some_iff.1 hg1).1
        simpa using this
      rw [h0] at hg1
      simp only [List.getElem?_cons_zero, Option.some.injEq] at hg1
      subst hg1
      rw [putF_same, show i = n by omega]
  · intro k hk2 hno2
    have hne : k.val ≠ K.val := fun e => hno2 (K, []) (by simp) (KeyC.inj hk hk2 e.symm)
    rw [putF_other hne]
    exact h.miss k hk2 fun g hg => hno2 g (by simp [hg])
  · intro g hg
    rcases List.mem_append.1 hg with hg | hg
    · exact h.keys g hg
    · simp only [List.mem_singleton] at hg
      subst hg
      exact hk
  · refine h.bel.trans ?_
    have b1 := u1.below (B := w.heap.size) (h.bel.size) fun b _ hS => by have := h.mge; have hS' : b = M := hS; omega
    have b2 := u2.belowNix (B := w.heap.size) (Nat.le_trans h.bel.size u1.size)
    have b3 := u3.below (B := w.heap.size) (Nat.le_trans h.bel.size (Nat.le_trans u1.size u2.size)) fun b _ hS => hgeo b hS
    exact (b1.trans b2).trans b3

theorem GAt.cell {w : World} {go n c M i : Nat} {gs : List Grp} {svs : List Sv} {f : Value → Option Value} {wr : World} {sv : Sv} (h : GAt w (some ⟨go, 0, none⟩) n c M gs svs f wr) (hs : svs[i]? = some sv) :
    wr.cell? ⟨go, i, none⟩ = some (.slice sv.A sv.n sv.c) ∧ wr.frozen? ⟨go, i, none⟩ = false := by
  have hsl : svs.length = n := by have := h.out.1; simpa using this
  have hi := (List.getElem?_eq_some_iff.1 hs).1
  rcases h.out.2 with ⟨hv, _⟩ | ⟨g', cap, cur, hv, _, hg, _, _, _, ht⟩
  · cases hv
  · injection hv with e1
    injection e1 with e1
    injection e1 with e1
    subst e1
    rw [cell_of_row wr go i cur 22 (0, 0) hg]
    refine ⟨?_, by simp [World.frozen?, hg]⟩
    have h1 : cur[i]? = (svs.map Sv.val)[i]? := by
      rw [← ht, List.getElem?_take, if_pos (by omega), Array.getElem?_toList]
    rw [h1, List.getElem?_map, hs]
    rfl
theorem GAt.keepOut {w : World} {A : Option Addr} {n c M i : Nat} {gs : List Grp} {svs : List Sv} {f : Value → Option Value} {wr w5 : World} {sv : Sv} {g : Grp} {o : Obj} {q : Nat} (h : GAt w A n c M gs svs f wr) (hg : gs[i]? = some g) (hs : svs[i]? = some sv)
    (hg5 : ((wr.drewN q).alloc o).grownBy w5 (Value.slice sv.A sv.n sv.c).ownBlock) : w5.ownsRow w.heap.size 22 1 (.slice A n c) n (svs.map Sv.val) := by
  have hsv := (h.grp i g sv hg hs).1
  have hu : Upd Nix wr ((wr.drewN q).alloc o) := ((Upd.refl _ _).drewN q).alloc o
  have h1 := own_upd' h.out hu fun _ _ h => h
  have h2 := own_upd' hsv hu fun _ _ h => h
  exact own_upd' h1 (upd_grown (v := .slice sv.A sv.n sv.c) hg5) fun b hb hS => own_ne_own h1 h2 (by decide) b hb hS
theorem lt_of_cell {w : World} {g i : Nat} {v : Value} (h : w.cell? ⟨g, i, none⟩ = some v) : g < w.heap.size := World.block_lt_of_cell? w ⟨g, i, none⟩ h
theorem own_cell {w : World} {base go n c i : Nat} {e : TypeId} {vs : List Value} {v : Value} (h : w.ownsRow base e 1 (.slice (some ⟨go, 0, none⟩) n c) n vs) (hs : vs[i]? = some v) :
    w.cell? ⟨go, i, none⟩ = some v ∧ w.frozen? ⟨go, i, none⟩ = false := by
  have hsl : vs.length = n := by have := h.1; simpa using this
  have hi := (List.getElem?_eq_some_iff.1 hs).1
  rcases h.2 with ⟨hv, _⟩ | ⟨g', cap, cur, hv, _, hg, _, _, _, ht⟩
  · cases hv
  · injection hv with e1
    injection e1 with e1
    injection e1 with e1
    subst e1
    rw [cell_of_row w go i cur e (0, 0) hg]
    refine ⟨?_, by simp [World.frozen?, hg]⟩
    have h1 : cur[i]? = vs[i]? := by
      rw [← ht, List.getElem?_take, if_pos (by omega), Array.getElem?_toList]
    rw [h1, hs]
theorem GAt.grow {w : World} {go n c M i : Nat} {gs : List Grp} {svs : List Sv} {f : Value → Option Value} {wr w5 : World} {sv : Sv} {g : Grp} {o : Obj} {A5 : Option Addr} {c5 : Nat} {r : RRV} (h : GAt w (some ⟨go, 0, none⟩) n c M gs svs f wr) (hg : gs[i]? = some g) (hs : svs[i]? = some sv)
    (hown5 : w5.ownsRow w.heap.size 35 5 (.slice A5 (g.2.length + 1) c5) (g.2.length + 1) ((g.2.map RRV.cells).flatten ++ r.cells)) (hg5 : ((wr.drewN 1).alloc o).grownBy w5 (Value.slice sv.A sv.n sv.c).ownBlock)
    (hat5 : (Value.slice A5 (g.2.length + 1) c5).ownBlock = (Value.slice sv.A sv.n sv.c).ownBlock ∨ (Value.slice A5 (g.2.length + 1) c5).ownBlock = some ((wr.drewN 1).alloc o).heap.size) :
    GAt w (some ⟨go, 0, none⟩) n c M (gs.modify i (fun g => (g.1, g.2 ++ [r]))) (svs.set i ⟨A5, g.2.length + 1, c5⟩) f (w5.setCell ⟨go, i, none⟩ (.slice A5 (g.2.length + 1) c5)) := by
  have hout5 := h.keepOut (q := 1) hg hs hg5
  have hu1 : Upd Nix wr ((wr.drewN 1).alloc o) := ((Upd.refl _ _).drewN 1).alloc o
  have hu2 := upd_grown (v := .slice sv.A sv.n sv.c) hg5
  obtain ⟨hst1, hst2⟩ := hout5.stored i (.slice A5 (g.2.length + 1) c5)
  have hu3 := upd_grown1 hst2
  have hsl : svs.length = n := by have := h.out.1; simpa using this
  have hil : i < svs.length := (List.getElem?_eq_some_iff.1 hs).1
  have hsvo := (h.grp i g sv hg hs).1
  have hsv1 := own_upd' hsvo hu1 fun _ _ h => h
  have hblt : ∀ b, (Value.slice sv.A sv.n sv.c).ownBlock = some b → b < wr.heap.size := fun b hb => by
    rcases hsvo.2 with ⟨hv, _⟩ | ⟨g', cap, cur, hv, _, hh, _⟩
    · have hv' : (Value.slice sv.A sv.n sv.c) = .slice none 0 0 := hv
      rw [hv'] at hb
      cases hb
    · have hv' : (Value.slice sv.A sv.n sv.c) = _ := hv
      rw [hv'] at hb
      simp only [Value.ownBlock, Option.some.injEq] at hb
      subst hb
      exact (Array.getElem?_eq_some_iff.1 hh).1
  have notgo : ∀ (v : Value) (m : Nat) (xs : List Value), w5.ownsRow w.heap.size 35 5 v m xs → ∀ b, v.ownBlock = some b → b ≠ go := fun v m xs hv b hb e => by
    subst e
    exact own_ne_own hv hout5 (by decide) b hb rfl
  have keep : ∀ (j : Nat) (gj : Grp) (sj : Sv), j ≠ i → gs[j]? = some gj → svs[j]? = some sj → (w5.setCell ⟨go, i, none⟩ (.slice A5 (g.2.length + 1) c5)).ownsRow w.heap.size 35 5 sj.val gj.2.length ((gj.2.map RRV.cells).flatten) := by
    intro j gj sj hne hgj hsj
    have h1 := own_upd' (h.grp j gj sj hgj hsj).1 hu1 fun _ _ h => h
    have h2 := own_upd' h1 hu2 fun b hb hS => h.dis j i sj sv b hne hsj hs hb hS
    exact own_upd' h2 hu3 fun b hb hS => notgo _ _ _ h2 b hb hS
  refine ⟨by rw [List.map_set]; exact hst1, by rw [List.length_modify]; exact h.len, ?_, ?_, ?_, ?_, ?_, ?_, ?_, h.mge⟩
  · intro j gj sj hgj hsj
    rw [List.getElem?_modify] at hgj
    by_cases hji : j = i
    · subst hji
      rw [List.getElem?_set_self hil] at hsj
      rw [hg] at hgj
      simp only [if_true, Option.map_eq_map, Option.map_some, Option.some.injEq] at hgj hsj
      subst hgj hsj
      have e1 : ((g.2 ++ [r]).map RRV.cells).flatten = (g.2.map RRV.cells).flatten ++ r.cells := by simp
      have e2 : (g.2 ++ [r]).length = g.2.length + 1 := by simp
      show (w5.setCell _ _).ownsRow _ _ _ _ (g.2 ++ [r]).length ((g.2 ++ [r]).map RRV.cells).flatten ∧ g.2.length + 1 = (g.2 ++ [r]).length
      rw [e1, e2]
      exact ⟨own_upd' hown5 hu3 fun b hb hS => notgo _ _ _ hown5 b hb hS, rfl⟩
    · rw [List.getElem?_set_ne (Ne.symm hji)] at hsj
      have hgj' : gs[j]? = some gj := by simpa [Ne.symm hji] using hgj
      exact ⟨keep j gj sj hji hgj' hsj, (h.grp j gj sj hgj' hsj).2⟩
  · intro a b sa sb x hab ha hb hx
    have newb : ∀ y, (Value.slice A5 (g.2.length + 1) c5).ownBlock = some y → (Value.slice sv.A sv.n sv.c).ownBlock = some y ∨ wr.heap.size ≤ y := fun y hy => by
      rcases hat5 with e | e
      · rw [e] at hy; exact .inl hy
      · rw [e] at hy
        injection hy with hy
        right
        simp only [World.size_alloc] at hy
        have : (wr.drewN 1).heap.size = wr.heap.size := rfl
        omega
    have oldlt : ∀ (j : Nat) (sj : Sv) (y : Nat), svs[j]? = some sj → sj.val.ownBlock = some y → y < wr.heap.size := fun j sj y hj hy => by
      have hjl := (List.getElem?_eq_some_iff.1 hj).1
      obtain ⟨gj, hgj⟩ : ∃ gj, gs[j]? = some gj := ⟨_, List.getElem?_eq_getElem (by rw [h.len]; omega)⟩
      rcases (h.grp j gj sj hgj hj).1.2 with ⟨hv, _⟩ | ⟨g', cap, cur, hv, _, hh, _⟩
      · rw [hv] at hy; cases hy
      · rw [hv] at hy
        simp only [Value.ownBlock, Option.some.injEq] at hy
        subst hy
        exact (Array.getElem?_eq_some_iff.1 hh).1
    by_cases hai : a = i
    · subst hai
      rw [List.getElem?_set_self hil] at ha
      rw [List.getElem?_set_ne (by omega)] at hb
      injection ha with ha
      subst ha
      intro hy
      rcases newb x hx with e | e
      · exact h.dis _ _ sv sb x hab hs hb e hy
      · have := oldlt b sb x hb hy
        omega
    · rw [List.getElem?_set_ne (Ne.symm hai)] at ha
      by_cases hbi : b = i
      · subst hbi
        rw [List.getElem?_set_self hil] at hb
        injection hb with hb
        subst hb
        intro hy
        rcases newb x hy with e | e
        · exact h.dis _ _ sa sv x hab ha hs hx e
        · have := oldlt a sa x ha hx
          omega
      · rw [List.getElem?_set_ne (Ne.symm hbi)] at hb
        exact h.dis a b sa sb x hab ha hb hx
  · have hMlt := h.map.lt
    refine h.map.keep ?_
    rw [hu3.block M (Nat.lt_of_lt_of_le hMlt (Nat.le_trans hu1.size hu2.size)) (fun hS => own_not_map h.out h.map (by show some go = some M; rw [show M = go from hS]))]
    rw [hu2.block M (Nat.lt_of_lt_of_le hMlt hu1.size) (fun hS => own_not_map hsvo h.map hS)]
    exact hu1.block M hMlt fun h => h
  · intro j gj hgj
    rw [List.getElem?_modify] at hgj
    cases hx : gs[j]? with
    | none => rw [hx] at hgj; simp at hgj
    | some x =>
      rw [hx] at hgj
      simp only [Option.map_eq_map, Option.map_some, Option.some.injEq] at hgj
      have h1 := h.hit j x hx
      split at hgj
      · subst hgj; exact h1
      · subst hgj; exact h1
  · intro k hk hno
    refine h.miss k hk fun x hx => ?_
    obtain ⟨j, hj⟩ := List.mem_iff_getElem?.1 hx
    by_cases hji : i = j
    · have := hno (x.1, x.2 ++ [r]) (List.mem_of_getElem? (i := j) (by rw [List.getElem?_modify, hj]; simp [hji]))
      exact this
    · exact hno x (List.mem_of_getElem? (i := j) (by rw [List.getElem?_modify, hj]; simp [hji]))
  · intro x hx
    obtain ⟨j, hj⟩ := List.mem_iff_getElem?.1 hx
    rw [List.getElem?_modify] at hj
    cases hy : gs[j]? with
    | none => rw [hy] at hj; simp at hj
    | some y =>
      rw [hy] at hj
      have h1 := h.keys y (List.mem_of_getElem? hy)
      simp only [Option.map_eq_map, Option.map_some, Option.some.injEq] at hj
      split at hj
      · subst hj; exact h1
      · subst hj; exact h1
  · have hgeo := own_ge h.out go rfl
    have hges := own_ge hsvo
    refine h.bel.trans ?_
    have b1 := hu1.belowNix (B := w.heap.size) h.bel.size
    have b2 := hu2.below (B := w.heap.size) (Nat.le_trans h.bel.size hu1.size) fun b _ hS => hges b hS
    have b3 := hu3.below (B := w.heap.size) (Nat.le_trans h.bel.size (Nat.le_trans hu1.size hu2.size)) fun b _ hS => by have hS' : b = go := hS; omega
    exact (b1.trans b2).trans b3
/-- the i-th record of a slice, as the walk reads it -/
theorem sizeRRs (W : World) : (sizeOf (Try.prog.elem 22)).run Try.prog W = .ok 5 W := by kernel_rfl
set_option maxRecDepth 100000 in
theorem idx_rrs (ad : Addr) (n c i : Nat) (hi : i < n) (W : World) : (Instr.indexAt 22 (.slice (some ad) n c) (.int .i64 (i : Int))).run Try.prog W = .ok (.pointer (some (ad.add (i * 5)))) W := by
  rw [run_indexAt_slice W 22 ad n c .i64 (i : Int) Try.underlying22, if_pos ⟨by omega, by omega⟩, sizeRRs W]
  simp [Result.andThen]

def ByIs (rs : List RRV) (w : World) (e : Ending) (w' : World) : Prop := ∃ (A' : Option Addr) (c' M : Nat) (svs : List Sv) (f : Value → Option Value), e = .returned (.slice A' (byL rs).length c') ∧ GAt w A' (byL rs).length c' M (byL rs) svs f w'
set_option maxRecDepth 100000 in
set_option maxHeartbeats 6400000 in
theorem rrset_by (A : Option Addr) (n c : Nat) (rs : List RRV) (w : World) (B : Nat) (h : RRsAt w B A n c rs) (hB : B ≤ w.heap.size) (hn : n ≤ 1000000) :
    Calls Try.prog 30 #[.slice A n c, .func (.func 31) #[] #[]] w (ByIs rs w) := by
  obtain ⟨i0, hi0, hz0, hz1, hz2⟩ := info_parts infoRRs
  have H := Lib.hid h
  clear h
  have hmm := @run_makeMap Try.prog
  go_enter Try.func30, Try.ntmps30
  go_wp2_with fail
  clear hmm
  have hst : GAt w none 0 0 w.heap.size [] [] (fun _ => none) (w.alloc (.map #[] 0)) :=
    ⟨⟨rfl, .inl ⟨rfl, rfl⟩⟩, rfl, by simp, by simp, MapAt.made _ _ _, by simp, by simp, by simp, (Below.refl _ _).alloc (Nat.le_refl _) _, Nat.le_refl _⟩
  have HST := Lib.hid hst
  clear hst
  obtain ⟨M, hM⟩ : ∃ M, w.heap.size = M := ⟨_, rfl⟩
  have HM := Lib.hid hM
  rw [hM] at HST
  try rw [hM]
  clear hM
  go_loopw [6, 16] (fun s6 s16 wr => ∃ (k : Nat) (A1 : Option Addr) (c1 : Nat) (svs : List Sv) (f : Value → Option Value), k ≤ n ∧ s16 = .int .i64 k ∧ s6 = .slice A1 (byL (rs.take k)).length c1 ∧ GAt w A1 (byL (rs.take k)).length c1 M (byL (rs.take k)) svs f wr) (fun _ s16 _ => n - (intOf s16).toNat)
  case atStart => exact ⟨0, none, 0, [], _, Nat.zero_le _, rfl, rfl, HST.out⟩
  case round =>
    obtain ⟨k, A1, c1, svs, f, hk, rfl, rfl, hat⟩ := hrel
    have HAT := Lib.hid hat
    clear hat
    obtain ⟨gs, hgs⟩ : ∃ gs, byL (rs.take k) = gs := ⟨_, rfl⟩
    rw [hgs] at HAT ⊢
    have HGS := Lib.hid hgs
    clear hgs
    obtain ⟨m, hm⟩ : ∃ m, gs.length = m := ⟨_, rfl⟩
    rw [hm] at HAT ⊢
    clear hm
    by_cases hkn : k < n
    · have hki : (k : Int) < (n : Int) := by omega
      have hrr := H.out.below (HAT.out.bel.mono hB)
      obtain ⟨ad, r, hadB, hr, hmem, hcells, hA⟩ := hrr.idx hkn
      have hidx : ∀ W, (Instr.indexAt 22 (.slice A n c) (.int .i64 (k : Int))).run Try.prog W = .ok (.pointer (some (ad.add (k * 5)))) W := fun W => by rw [hA]; exact idx_rrs ad n c k hkn W
      have hc0 : wr.cell? (ad.add (k * 5)) = some (.string r.name) := hcells 0 (by omega)
      have hc1 : wr.cell? ⟨(ad.add (k * 5)).block, (ad.add (k * 5)).off + 1, none⟩ = some (.int .i64 r.type) := by rw [add_nth _ _ _ (by omega)]; exact hcells 1 (by omega)
      have hc2 : wr.cell? ⟨(ad.add (k * 5)).block, (ad.add (k * 5)).off + 2, none⟩ = some (.int .i64 r.cls) := by rw [add_nth _ _ _ (by omega)]; exact hcells 2 (by omega)
      have hc3 : wr.cell? ⟨(ad.add (k * 5)).block, (ad.add (k * 5)).off + 3, none⟩ = some (.int .i64 r.ttl) := by rw [add_nth _ _ _ (by omega)]; exact hcells 3 (by omega)
      have hc4 : wr.cell? ⟨(ad.add (k * 5)).block, (ad.add (k * 5)).off + 4, none⟩ = some (.slice r.data.A r.data.n r.data.c) := by rw [add_nth _ _ _ (by omega)]; exact hcells 4 (by omega)
      have hrat := hrr.each r hmem
      have HR := Lib.hid hr
      have HRAT := Lib.hid hrat
      have hBr : B ≤ wr.heap.size := Nat.le_trans hB HAT.out.bel.size
      clear hr hrr hcells hA hrat
      go_wp2_with fail
      have hub : Upd Nix wr (wr.alloc (.cells r.cells.toArray 35)) := (Upd.refl _ _).alloc _
      have hbb : Blk (wr.alloc (.cells r.cells.toArray 35)) wr.heap.size 35 r.cells.toArray := Blk.new _ _ _
      unfold RRV.cells at hub hbb
      obtain ⟨g8, hg8⟩ : ∃ g, wr.heap.size = g := ⟨_, rfl⟩
      rw [hg8] at hbb ⊢
      have hg8w : w.heap.size ≤ g8 := by rw [← hg8]; exact HAT.out.bel.size
      have hBg : B ≤ g8 := by omega
      clear hg8 hc0 hc1 hc2 hc3 hc4 hidx
      generalize (wr.alloc (.cells [Value.string r.name, .int .i64 r.type, .int .i64 r.cls, .int .i64 r.ttl, .slice r.data.A r.data.n r.data.c].toArray 35)) = wb at *
      have hcall := rrset_of r wb B (HRAT.out.below (hub.belowNix hBr)) (Nat.le_trans hBr hub.size)
      unfold RRV.agg at hcall
      refine hcall.mono ?_
      clear hcall
      rintro e w1 ⟨⟨low, rfl, hlow⟩, hu1⟩
      have hkn' : low = strN (keyOfRR r).name := bytesOf_inj (by rw [hlow]; exact (bytesOf_strN (lowerL_lt _ (bytesOf_lt _))).symm)
      subst hkn'
      have hkok : KeyOk (keyOfRR r) := ⟨lowerL_lt _ (bytesOf_lt _), Nat.le_trans (lowerL_len _) (by rw [bytesOf_len]; exact HRAT.out.name), HRAT.out.t, HRAT.out.c⟩
      have hG1 := HAT.out.upd (hub.trans hu1 fun _ _ h => h)
      have hB8 := hbb.upd hu1 (by simp [Nix])
      have HKOK := Lib.hid hkok
      have HG1 := Lib.hid hG1
      have HB8 := Lib.hid hB8
      clear hlow hkok hG1 hB8 hub hbb hu1 HAT
      have hadd : byL (rs.take (k + 1)) = byAdd gs r := by
        rw [← HGS.out]
        unfold byL
        rw [List.take_add_one, HR.out, List.foldl_append]
        rfl
      have HADD := Lib.hid hadd
      clear hadd
      cases hmay : mayL r.said with
      | false =>
        have hv : byAdd gs r = gs := by unfold byAdd; rw [if_neg (by rw [hmay]; decide)]
        have HV := Lib.hid hv
        clear hv hmay
        go_wp2_with fail
        refine ⟨⟨k + 1, A1, c1, svs, f, by omega, by rfl, ?_, ?_⟩, ?_⟩
        · rw [HADD.out, HV.out, HG1.out.len]
        · rw [HADD.out, HV.out, HG1.out.len]
          exact HG1.out.upd ((Upd.refl _ _).alloc _)
        · simp only [intOf]; omega
      | true =>
        have HMAY := Lib.hid hmay
        clear hmay
        go_upto_region 8 with fail
        have hmk : m ≤ k := by
          have h1 := HG1.out.len
          have h2 := byL_len (rs.take k)
          rw [HGS.out, List.length_take] at h2
          omega
        have hG2 := HG1.out.upd ((Upd.refl _ _).alloc (.cells #[.string (strN (keyOfRR r).name), .int .i64 r.type, .int .i64 r.cls] 56))
        have hB8' := HB8.out.alloc (.cells #[.string (strN (keyOfRR r).name), .int .i64 r.type, .int .i64 r.cls] 56)
        have hB9 : Blk (w1.alloc (.cells #[.string (strN (keyOfRR r).name), .int .i64 r.type, .int .i64 r.cls] 56)) w1.heap.size 56 #[.string (strN (keyOfRR r).name), .int .i64 r.type, .int .i64 r.cls] := Blk.new _ _ _
        obtain ⟨g9, hg9⟩ : ∃ g, w1.heap.size = g := ⟨_, rfl⟩
        rw [hg9] at hB9 ⊢
        clear hg9
        generalize (w1.alloc (.cells #[.string (strN (keyOfRR r).name), .int .i64 r.type, .int .i64 r.cls] 56)) = w2 at *
        clear HG1 HB8
        have HG2 := Lib.hid hG2
        have HB8 := Lib.hid hB8'
        have HB9 := Lib.hid hB9
        clear hG2 hB8' hB9
        go_cut [11, 12] (fun s11 s12 wx => w2 = wx ∧ ∃ (known : Bool) (i : Nat), s12 = .bool known ∧ s11 = .int .i64 i ∧ ((known = true ∧ ∃ g : Grp, gs[i]? = some g ∧ gs.modify i (fun g => (g.1, g.2 ++ [r])) = byAdd gs r) ∨
          (known = false ∧ (∀ g ∈ gs, g.1 ≠ keyOfRR r) ∧ (gs ++ [(keyOfRR r, ([] : List RRV))]).modify m (fun g => (g.1, g.2 ++ [r])) = byAdd gs r)))
        case first =>
          obtain ⟨kl, hkl⟩ := key_lit HKOK.out
          have zint : ∀ W : World, (zeroValue 3).run Try.prog W = .ok (.int .i64 0) W := fun _ => by kernel_rfl
          have hc9 : ∀ i, w2.cell? ⟨g9, i, none⟩ = _ := fun i => HB9.out.cell i
          cases hfi : gs.findIdx? (fun g => g.1 = keyOfRR r) with
          | some i =>
            have hg : ∃ g, gs[i]? = some g ∧ g.1 = keyOfRR r := by
              obtain ⟨hi, hp, _⟩ := List.findIdx?_eq_some_iff_getElem.1 hfi
              exact ⟨gs[i], List.getElem?_eq_getElem hi, by simpa using hp⟩
            obtain ⟨g, hgi, hgk⟩ := hg
            have hf : f (keyOfRR r).val = some (.int .i64 i) := by rw [← hgk]; exact HG2.out.hit i g hgi
            have hbe : gs.modify i (fun g => (g.1, g.2 ++ [r])) = byAdd gs r := by unfold byAdd; rw [if_pos HMAY.out, hfi]
            have HF := Lib.hid hf
            have HBE := Lib.hid hbe
            have HGI := Lib.hid hgi
            clear hf hbe hfi hgk hgi
            go_wp2_with (at_lookup; refine wpList_look2 _ rfl (.tmp 29) (.tmp 30) 74 rfl 56 3 key_law Try.underlying74 (.int .i64 0) (zint _) M f rfl HG2.out.map (keyOfRR r).val kl rfl hkl (.int .i64 i) true (by rw [HF.out]; rfl) (by rw [HF.out]; rfl) ?_)
            go_meet
            exact ⟨rfl, true, i, rfl, rfl, .inl ⟨rfl, g, HGI.out, HBE.out⟩⟩
          | none =>
            have hno : ∀ g ∈ gs, g.1 ≠ keyOfRR r := by
              intro g hg
              have := List.findIdx?_eq_none_iff.1 hfi g hg
              simpa using this
            have hf : f (keyOfRR r).val = none := HG2.out.miss _ HKOK.out hno
            have hbe : (gs ++ [(keyOfRR r, ([] : List RRV))]).modify m (fun g => (g.1, g.2 ++ [r])) = byAdd gs r := by
              unfold byAdd
              rw [if_pos HMAY.out, hfi, ← HG2.out.len]
              exact modify_last gs _ _
            have HF := Lib.hid hf
            have HBE := Lib.hid hbe
            have HNO := Lib.hid hno
            clear hf hbe hfi hno
            go_wp2_with (at_lookup; refine wpList_look2 _ rfl (.tmp 29) (.tmp 30) 74 rfl 56 3 key_law Try.underlying74 (.int .i64 0) (zint _) M f rfl HG2.out.map (keyOfRR r).val kl rfl hkl (.int .i64 0) false (by rw [HF.out]; rfl) (by rw [HF.out]; rfl) ?_)
            go_meet
            exact ⟨rfl, false, 0, rfl, rfl, .inr ⟨rfl, HNO.out, HBE.out⟩⟩
        case rest =>
        obtain ⟨rfl, known, i, rfl, rfl, hknown⟩ := hcut
        have HKN := Lib.hid hknown
        clear hknown
        go_upto_if 35 with fail
        go_cut [6, 11] (fun s6 s11 wx => ∃ (A2 : Option Addr) (m2 c2 i : Nat) (gs2 : List Grp) (g : Grp) (svs2 : List Sv) (f2 : Value → Option Value), s11 = .int .i64 i ∧ s6 = .slice A2 m2 c2 ∧ gs2[i]? = some g ∧ gs2.modify i (fun g => (g.1, g.2 ++ [r])) = byAdd gs r ∧ m2 ≤ k + 1 ∧ g.2.length ≤ k ∧ GAt w A2 m2 c2 M gs2 svs2 f2 wx ∧ Blk wx g8 35 r.cells.toArray)
        case first =>
          rcases HKN.out with ⟨rfl, g, hgi, hbe⟩ | ⟨rfl, hno, hbe⟩
          · have HBE := Lib.hid hbe
            have HGI := Lib.hid hgi
            clear hbe hgi
            go_wp2_with fail
            go_meet
            exact ⟨A1, m, c1, i, gs, g, svs, f, rfl, rfl, HGI.out, HBE.out, by omega, by
              have h1 := byL_grp (rs.take k) g (by rw [HGS.out]; exact List.mem_of_getElem? HGI.out)
              rw [List.length_take] at h1
              omega, HG2.out, HB8.out⟩
          · have HBE := Lib.hid hbe
            have HNO := Lib.hid hno
            clear hbe hno
            obtain ⟨kl, hkl⟩ := key_lit HKOK.out
            have hc9 : ∀ i, w2.cell? ⟨g9, i, none⟩ = _ := fun i => HB9.out.cell i
            have hmm2 : m + 1 ≤ maxLen := by unfold maxLen; omega
            go_wp2_with (first
              | (at_mapUpdate; refine wpList_store _ rfl (.tmp 38) (.tmp 39) (.tmp 40) 74 rfl 56 3 key_law Try.underlying74 M f rfl HG2.out.map (keyOfRR r).val (.int .i64 m) kl rfl rfl hkl ?_; intro w3 hmap3 hgr3; have ho3 := own_upd' HG2.out.out (upd_grown1 hgr3) (fun b hb hS => own_not_map HG2.out.out HG2.out.map (by rw [hb]; exact congrArg some hS)); have hs3 : w.heap.size ≤ w3.heap.size := Nat.le_trans HG2.out.bel.size (upd_grown1 hgr3).size)
              | (at_builtin; refine wpList_app _ rfl (.tmp 41) (.tmp 42) 53 rfl w.heap.size 22 i0 _ 1 24 Try.underlying53 hi0 hz0 hz1 hz2 rfl (by omega) (.slice A1 m c1) m (svs.map Sv.val) rfl (ho3.alloc _) (w3.heap.size + 1) (some ⟨w3.heap.size, 0, none⟩) 1 1 [.slice none 0 0] rfl (Rd.lit1 _ _ _) (by intro u hu; simp only [List.mem_singleton] at hu; subst hu; rfl) hmm2 (by omega) (by simp; omega) ?_; intro A4 c4 w4 hown4 hg4 hat4))
            go_meet
            refine ⟨A4, m + 1, c4, m, _, (keyOfRR r, []), _, _, rfl, rfl, ?_, HBE.out, by omega, by simp, HG2.out.push HKOK.out HNO.out hmap3 hgr3 hown4 hg4, ?_⟩
            · rw [List.getElem?_append_right (by rw [HG2.out.len]; exact Nat.le_refl _), HG2.out.len, Nat.sub_self]
              rfl
            · have hb1 := HB8.out.upd (upd_grown1 hgr3) fun hS => blk_not_map HB8.out HG2.out.map hS
              have hb2 := hb1.alloc (.cells #[.slice none 0 0] 22)
              exact hb2.upd (upd_grown hg4) fun hS => own_ne_blk' (ho3.alloc _) hb2 (by decide) hS
        case rest =>
        obtain ⟨A2, m2, c2, i, gs2, g, svs2, f2, rfl, rfl, hgi, hbe, hm2k, hgl, hG3, hB8⟩ := hcut
        have HGI := Lib.hid hgi
        have HBE := Lib.hid hbe
        have hm2 := hG3.len
        have him : i < m2 := by
          have := (List.getElem?_eq_some_iff.1 hgi).1
          omega
        have hsl : svs2.length = m2 := by have := hG3.out.1; simpa using this
        obtain ⟨sv, hsv⟩ : ∃ sv, svs2[i]? = some sv := ⟨_, List.getElem?_eq_getElem (by omega)⟩
        obtain ⟨go, rfl⟩ : ∃ go, A2 = some ⟨go, 0, none⟩ := by
          rcases hG3.out.2 with ⟨hv, h⟩ | ⟨go, cap, cur, hv, _⟩
          · omega
          · injection hv with e1
            exact ⟨go, e1⟩
        have hsown := (hG3.grp i g sv hgi hsv).1
        have hsn := (hG3.grp i g sv hgi hsv).2
        have hoc : wc.cell? ⟨go, i, none⟩ = some (.slice sv.A sv.n sv.c) := (hG3.cell hsv).1
        have hof : wc.frozen? ⟨go, i, none⟩ = false := (hG3.cell hsv).2
        have hb8 : ∀ j, wc.cell? ⟨g8, j, none⟩ = _ := fun j => hB8.cell j
        simp only [RRV.cells] at hb8
        have HG3 := Lib.hid hG3
        have HB8' := Lib.hid hB8
        have HSV := Lib.hid hsv
        have HSO := Lib.hid hsown
        have HSN := Lib.hid hsn
        have HSL := Lib.hid hsl
        have HM2 := Lib.hid hm2
        clear hgi hbe hG3 hB8 hsv hsown hsn hsl hm2
        obtain ⟨i1, hi1, hy0, hy1, hy2⟩ := info_parts infoRR
        have him' : (i : Int) < (m2 : Int) := by omega
        have hge : w.heap.size ≤ wc.heap.size := HG3.out.bel.size
        have hgo : go < wc.heap.size := lt_of_cell hoc
        have hg8l : g8 < wc.heap.size := HB8'.out.lt
        go_wp2_with fail
        go_region_law (refine step_app _ rfl (.tmp 49) (.tmp 51) 22 rfl w.heap.size 35 i1 _ 5 64 Try.underlying22 hi1 hy0 hy1 hy2 rfl (by omega) (.slice sv.A sv.n sv.c) g.2.length ((g.2.map RRV.cells).flatten) rfl ((HSO.out.drewN 1).alloc _) (wc.heap.size + 1) (some ⟨wc.heap.size, 0, none⟩) 1 1 r.cells rfl (Rd.lit _ _ _ 5 1 rfl) (by intro u hu; simp only [RRV.cells, List.mem_cons, List.not_mem_nil, or_false] at hu; rcases hu with rfl | rfl | rfl | rfl | rfl <;> rfl) (by unfold maxLen; omega) (by omega) (by simp; omega) ?_; intro A5 c5 w5 hown5 hg5 hat5; have hko5 := HG3.out.keepOut (q := 1) HGI.out HSV.out hg5; have hst5 := own_cell hko5 (show (svs2.map Sv.val)[i]? = some (.slice sv.A sv.n sv.c) by rw [List.getElem?_map, HSV.out]; rfl); have hc5 := hst5.1; have hf5 := hst5.2)
        all_goals
          go_wp2_with fail
          have hfin := HG3.out.grow HGI.out HSV.out hown5 hg5 hat5
          have hfl := hfin.len
          rw [HBE.out] at hfin hfl
          rw [← HADD.out] at hfin hfl
          refine ⟨⟨k + 1, _, c2, _, f2, by omega, by rfl, by rw [hfl], by rw [hfl]; exact hfin⟩, ?_⟩
          simp only [intOf]
          omega
    · have hki : ¬ (k : Int) < (n : Int) := by omega
      have hkk : k = n := by omega
      subst hkk
      rw [List.take_of_length_le (by rw [H.out.len]; exact Nat.le_refl _)] at HGS
      go_wp2_with fail
      go_ret
      refine ⟨A1, c1, M, svs, f, ?_, ?_⟩
      · rw [HGS.out, HAT.out.len]
        rfl
      · rw [HGS.out, HAT.out.len]
        exact HAT.out
end Go.Proofs.Ytlhbikdelbollaa
