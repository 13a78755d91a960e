/- HttpAsked: what its loops keep. -/
import Derived.Test.YtbjjimbnaicbfaaDoorHttpClo
import Derived.Test.YtbjjimbnaicbfaaDoorRowsB
import Derived.Deep.DeepCutAuto
import Derived.Deep.CutBlock
namespace Go.Proofs.YtbjjimbnaicbfaaDoor
open Go.RowKit Go.Cx Go.Maps

theorem infoRow : (Tryd.prog.info? 22).map (fun i => (i.zero, i.size, i.bytes)) = some (some (.slice none 0 0), 1, 24) := by kernel_rfl
/-- the bodies of the first rows, each of 500 bytes at most -/
def cut500 (rows : List Row) : List (List Nat) := rows.map fun r => r.l.take 500
theorem askL_lt' {l : List Nat} (h : ∀ b ∈ l, b < 256) (_hl : l.length ≤ 65535) (ch : Bool) : ∀ b ∈ askL l ch false, b < 256 := by
  cases ch with
  | false => exact askL_lt h
  | true =>
    intro b hb
    unfold askL at hb
    rw [text_chunk] at hb
    have h1 : ∀ b ∈ preL, b < 256 := by decide +kernel
    have h2 : ∀ b ∈ chunkH, b < 256 := by decide +kernel
    have h3 : ∀ b ∈ endL, b < 256 := by decide +kernel
    simp only [if_true, List.mem_append] at hb
    rcases hb with ((hb | hb) | hb) | hb
    · exact h1 b hb
    · exact h2 b hb
    · exact h3 b hb
    · exact encL_lt 99 l h b hb
/-- what the first loop has -/
structure AqOne (w : World) (L : List Row) (k : Nat) (A7 : Option Addr) (n7 c7 : Nat) (x : List (List Nat × Bool)) (A8 : Option Addr) (c8 : Nat) (wrows : List Row) (wr : World) : Prop where
  all : wr.ownsRow w.heap.size 5 1 (.slice A7 n7 c7) n7 (byts (x.map fun y => askL y.1 y.2 false).flatten)
  n7 : n7 ≤ k * 4000
  want : wr.ownsRow w.heap.size 22 1 (.slice A8 k c8) k (wrows.map Row.val)
  sl : ∀ r ∈ wrows, Sl w w.heap.size r.A r.n r.c r.l
  rows : wrows.map Row.l = x.map Prod.fst
  small : ∀ y ∈ x, y.1.length ≤ 500
  bytes : ∀ y ∈ x, ∀ b ∈ y.1, b < 256
  len : x.length = k
  upd : Upd Nix w wr
theorem AqOne.go {w : World} {L : List Row} {k : Nat} {A7 : Option Addr} {n7 c7 : Nat} {x : List (List Nat × Bool)} {A8 : Option Addr} {c8 : Nat} {wrows : List Row} {wr w' : World} (h : AqOne w L k A7 n7 c7 x A8 c8 wrows wr) (k1 : Upd Nix wr w') : AqOne w L k A7 n7 c7 x A8 c8 wrows w' :=
  ⟨own_upd' h.all k1 fun _ _ h => h, h.n7, own_upd' h.want k1 fun _ _ h => h, h.sl, h.rows, h.small, h.bytes, h.len, h.upd.trans k1 fun _ _ h => h⟩
theorem askL_long {l : List Nat} (h : l.length ≤ 500) (ch : Bool) : 1 ≤ (askL l ch false).length ∧ (askL l ch false).length ≤ 4000 := by
  have h1 := text_len (n := l.length) (by omega) ch false
  have h2 := encL_len 99 l
  unfold askL
  rw [List.length_append]
  cases ch <;> simp only [Bool.false_eq_true, if_false, if_true] <;> omega
theorem foot_apart {w : World} {base rb b : Nat} {bv : Value} {l : List Nat} {body : Option BdV} {t : TypeId} {cs : Array Value} (h : RdW w base rb bv l body) (hb : Blk w b t cs) (h1 : t ≠ 42) (h2 : t ≠ 5) (h3 : t ≠ 66) (h4 : t ≠ 103) : ¬ RFoot rb bv body b := by
  rintro (rfl | hb2 | ⟨x, hx, hb2⟩)
  · exact Blk.ne hb h.blk h1 rfl
  · exact lies_ne h.buf hb h2.symm hb2
  · exact (h.bd x hx).1.not_blk hb h3.symm h2.symm h4.symm hb2
/-- the cells of the i-th request -/
theorem out_idx {base c q i : Nat} {A : Option Addr} {rqs : List ReqV} {w : World} {r : ReqV} (h : w.ownsRow base 51 3 (.slice A q c) q ((rqs.map ReqV.cells).flatten)) (hq : rqs.length = q) (hr : rqs[i]? = some r) :
    ∃ go, A = some ⟨go, 0, none⟩ ∧ w.cell? ⟨go, i * 3, none⟩ = some (.string firstS) ∧ w.cell? ⟨go, i * 3 + 1, none⟩ = some (.slice r.row.A r.row.n r.row.c) ∧ w.cell? ⟨go, i * 3 + 2, none⟩ = some (.bool r.keep) := by
  subst hq
  have hi : i < rqs.length := (List.getElem?_eq_some_iff.1 hr).1
  obtain ⟨ad, hA, hB, hc⟩ := (Rd.own h).2 (by omega)
  rcases h.2 with ⟨hv, h0⟩ | ⟨g, cap, cur, hv, hg, _⟩
  · injection hv with h1 h2 h3
    omega
  · injection hv with h1 h2 h3
    rw [h1] at hA
    injection hA with hA
    subst hA
    refine ⟨g, h1, ?_⟩
    have hadd : ∀ j, (⟨g, 0, none⟩ : Addr).add j = ⟨g, j, none⟩ := fun j => by
      unfold Addr.add
      split <;> simp_all
    have k0 := hc (i * 3 + 0) _ (by rw [flat_at ReqV.cells 3 (fun _ => rfl) rqs i 0 r hr (by omega)]; rfl)
    have k1 := hc (i * 3 + 1) _ (by rw [flat_at ReqV.cells 3 (fun _ => rfl) rqs i 1 r hr (by omega)]; rfl)
    have k2 := hc (i * 3 + 2) _ (by rw [flat_at ReqV.cells 3 (fun _ => rfl) rqs i 2 r hr (by omega)]; rfl)
    rw [hadd] at k0 k1 k2
    exact ⟨k0, k1, k2⟩
/-- a body that was told -/
structure RowOk (w : World) (B0 : Nat) (bv : Value) (body : Option BdV) (r : Row) : Prop where
  own : w.ownsRow B0 5 1 (.slice r.A r.n r.c) r.n (byts r.l)
  bytes : ∀ b ∈ r.l, b < 256
  small : r.n ≤ 65535
  apart : ∀ b, (Value.slice r.A r.n r.c).ownBlock = some b → ¬ RFoot B0 bv body b
/-- what the second loop has -/
structure AqInv (wc : World) (B0 : Nat) (As : Option Addr) (ns cs : Nat) (xs : List Int) (bv : Value) (body : Option BdV) (s : HS) (A : Option Addr) (n c : Nat) (rest : List Nat) (Ag : Option Addr) (gn cg : Nat) (rows pend : List Row) (wr : World) : Prop where
  rd : RdW wr B0 B0 bv s.b body
  bd : body.map BdV.d = s.body
  all : Rd wr B0 1 A n (byts rest)
  nc : n ≤ c
  ints : wr.ownsRow B0 3 1 (.slice As ns cs) ns (intsV xs)
  got : wr.ownsRow B0 22 1 (.slice Ag gn cg) gn (rows.map Row.val)
  gl : rows.length = gn
  row : ∀ r ∈ rows ++ pend, RowOk wr B0 bv body r
  bel : Below B0 wc wr
section
variable {wc : World} {B0 : Nat} {As : Option Addr} {ns cs : Nat} {xs : List Int} {bv : Value} {body : Option BdV} {s : HS} {A : Option Addr} {n c : Nat} {rest : List Nat} {Ag : Option Addr} {gn cg : Nat} {rows pend : List Row} {wr w' : World}
theorem AqInv.size (h : AqInv wc B0 As ns cs xs bv body s A n c rest Ag gn cg rows pend wr) : B0 < wr.heap.size := (h.rd.lt B0 (.inl rfl)).1
theorem AqInv.quiet (h : AqInv wc B0 As ns cs xs bv body s A n c rest Ag gn cg rows pend wr) (k : Upd Nix wr w') : AqInv wc B0 As ns cs xs bv body s A n c rest Ag gn cg rows pend w' :=
  ⟨h.rd.upd k fun _ _ h => h, h.bd, h.all.below (k.belowNix (Nat.le_of_lt h.size)), h.nc, own_upd' h.ints k fun _ _ h => h, own_upd' h.got k fun _ _ h => h, h.gl, fun r hr => ⟨own_upd' (h.row r hr).own k fun _ _ h => h, (h.row r hr).bytes, (h.row r hr).small, (h.row r hr).apart⟩, h.bel.trans (k.belowNix (Nat.le_of_lt h.size))⟩
theorem AqInv.fed {bv2 : Value} {body2 : Option BdV} {s2 : HS} {A3 : Option Addr} {c3 : Nat} {rqs : List ReqV} (h : AqInv wc B0 As ns cs xs bv body s A n c rest Ag gn cg rows [] wr) (hf : FdAt wr B0 B0 (RFoot B0 bv body) s2 bv2 body2 A3 c3 rqs w') (he : s2.ended = false) :
    AqInv wc B0 As ns cs xs bv2 body2 s2 A n c rest Ag gn cg rows (rqs.map ReqV.row) w' := by
  obtain ⟨k1, k2, k3⟩ := hf.on he
  have hb : Below B0 wr w' := hf.upd.below (Nat.le_of_lt h.size) fun b _ hS => (h.rd.lt b hS).2
  refine ⟨k1, k2, h.all.below hb, h.nc, own_upd' h.ints hf.upd fun b hb hS => ?_, own_upd' h.got hf.upd fun b hb hS => ?_, h.gl, fun r hr => ?_, h.bel.trans hb⟩
  · obtain ⟨_, cs, hc⟩ := own_in h.ints hb
    exact foot_apart h.rd hc (by decide) (by decide) (by decide) (by decide) hS
  · obtain ⟨_, cs, hc⟩ := own_in h.got hb
    exact foot_apart h.rd hc (by decide) (by decide) (by decide) (by decide) hS
  · rcases List.mem_append.1 hr with hr | hr
    · have h1 := h.row r (List.mem_append_left _ hr)
      exact ⟨own_upd' h1.own hf.upd fun b hb hS => h1.apart b hb hS, h1.bytes, h1.small, fun b hb hS => h1.apart b hb (k3 b hS (own_in h1.own hb).1)⟩
    · obtain ⟨q, hq, rfl⟩ := List.mem_map.1 hr
      have h1 := hf.rq.rows q hq
      exact ⟨own_down h1.own (Nat.le_of_lt h.size), h1.bytes, h1.small, fun b hb => (hf.apart q hq b hb).2 he⟩
theorem AqInv.cut (h : AqInv wc B0 As ns cs xs bv body s A n c rest Ag gn cg rows pend wr) {m : Nat} (hm : m ≤ n) : AqInv wc B0 As ns cs xs bv body s (if c = m then A else A.map (·.add (m * 1))) (n - m) (c - m) (rest.drop m) Ag gn cg rows pend wr :=
  ⟨h.rd, h.bd, by have := h.all.cut hm h.nc; simpa [byts] using this, by have := h.nc; omega, h.ints, h.got, h.gl, h.row, h.bel⟩
theorem AqInv.push {r : Row} {w1 : World} {Ag' : Option Addr} {cg' : Nat} (h : AqInv wc B0 As ns cs xs bv body s A n c rest Ag gn cg rows (r :: pend) wr) (u : Upd Nix wr w1) (hown : w'.ownsRow B0 22 1 (.slice Ag' (gn + 1) cg') (gn + 1) (rows.map Row.val ++ [r.val])) (hg : w1.grownBy w' (Value.slice Ag gn cg).ownBlock) :
    AqInv wc B0 As ns cs xs bv body s A n c rest Ag' (gn + 1) cg' (rows ++ [r]) pend w' := by
  have h1 := h.quiet u
  have ug := upd_own hg
  have hb : Below B0 w1 w' := ug.below (Nat.le_of_lt h1.size) fun b _ hS => (h1.got.lt b hS).1
  refine ⟨h1.rd.upd ug fun b hb hS => ?_, h.bd, h1.all.below hb, h.nc, own_upd' h1.ints ug fun b hb hS => own_two h1.ints h1.got (by decide) b hb hS, by rw [List.map_append]; exact hown, by rw [List.length_append, h.gl]; rfl, fun x hx => ?_, h1.bel.trans hb⟩
  · obtain ⟨_, cs, hc⟩ := own_in h1.got hS
    exact foot_apart h1.rd hc (by decide) (by decide) (by decide) (by decide) hb
  · have h2 := h1.row x (by simpa using hx)
    exact ⟨own_upd' h2.own ug fun b hb hS => own_two h2.own h1.got (by decide) b hb hS, h2.bytes, h2.small, h2.apart⟩
end
theorem turnL_small {s s2 : HS} (he : s.ended = false) (h : turnL s = .stop 0 s2) : s2.b.length ≤ 2000 := by
  obtain ⟨en, b, body⟩ := s
  simp only at he
  subst he
  have key : ∀ (d : Bd) (z : List Nat) (s2 : HS), turnB false d z = .stop 0 s2 → s2.b.length ≤ 2000 := by
    intro d z s2 h
    rcases turnB_app d z [] with ⟨h1, _⟩ | ⟨d', h1, _⟩ | ⟨r, s', h1, _⟩
    · rw [h1] at h; injection h with h _; cases h
    · rw [h1] at h; injection h with _ h; subst h; simp
    · rw [h1] at h; cases h
  cases body with
  | some d => exact key d b s2 h
  | none =>
    have e1 : turnL ⟨false, b, none⟩ = match headL b with
      | none => .stop 130 ⟨true, [], none⟩
      | some none => .stop 0 ⟨false, b, none⟩
      | some (some (l, n)) => match beginL l with
        | none => .stop 130 ⟨true, [], none⟩
        | some d => turnB false d (b.drop n) := rfl
    rw [e1] at h
    cases hh : headL b with
    | none => rw [hh] at h; injection h with h _; cases h
    | some y =>
      rw [hh] at h
      cases y with
      | none =>
        injection h with _ h
        subst h
        unfold headL at hh
        show b.length ≤ 2000
        by_cases hb : b.length < 2000
        · omega
        · cases hg : headGo (b.take 2000) false [] [] 0 with
          | none => rw [hg] at hh; cases hh
          | some z =>
            cases z with
            | none => rw [hg] at hh; simp only at hh; rw [if_neg hb] at hh; cases hh
            | some z => rw [hg] at hh; cases hh
      | some y =>
        obtain ⟨l, n⟩ := y
        simp only at h
        cases hg : beginL l with
        | none => rw [hg] at h; injection h with h _; cases h
        | some d => rw [hg] at h; exact key d _ s2 h
theorem feedW_small : ∀ (n : Nat) (s : HS) (l : List Rq), mz s < n → s.ended = false → (feedW s l).1.2 = 0 → (feedW s l).2.ended = false → (feedW s l).2.b.length ≤ 2000
  | 0, _, _, h, _, _, _ => by omega
  | n + 1, s, l, h, hs, h0, he => by
    rw [feedW_eq, hs] at h0 he ⊢
    simp only [Bool.false_eq_true, if_false] at h0 he ⊢
    cases ht : turnL s with
    | stop e s' =>
      rw [ht] at h0 he
      simp only at h0 he ⊢
      subst h0
      exact turnL_small hs ht
    | more r s' =>
      rw [ht] at h0 he
      simp only at h0 he ⊢
      cases he' : s'.ended with
      | false => exact feedW_small n s' _ (by have := turnL_more ht; omega) he' h0 he
      | true =>
        rw [feedW_eq, he'] at he
        simp only [if_true] at he
        rw [he'] at he
        cases he
theorem Fed.small {p : List Nat} {rs : List Rq} {s : HS} (h : Fed p rs s) : s.b.length ≤ 2000 := by
  have := feedW_small _ ⟨false, p, none⟩ [] (Nat.lt_succ_self _) rfl
  rw [h.1] at this
  exact this rfl h.2
end Go.Proofs.YtbjjimbnaicbfaaDoor
