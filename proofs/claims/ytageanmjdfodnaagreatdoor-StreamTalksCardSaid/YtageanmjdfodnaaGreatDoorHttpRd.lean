/- A reader of requests in memory. -/
import Derived.Test.YtageanmjdfodnaaGreatDoorHttpTk
namespace Go.Proofs.YtageanmjdfodnaaGreatDoor
open Go.RowKit Go.Cx Go.Maps

/-- where a body is, and what it is -/
structure BdV where
  bb : Nat
  gv : Value
  p : Option Nat
  cv : Value
  d : Bd
def BdV.Foot (x : BdV) : Nat → Prop := BFoot x.bb x.gv x.p x.cv
/-- the blocks that a reader may write -/
def RFoot (rb : Nat) (bv : Value) (body : Option BdV) : Nat → Prop := fun b => b = rb ∨ bv.ownBlock = some b ∨ ∃ x, body = some x ∧ x.Foot b
/-- a reader that has not ended, in memory -/
structure RdW (w : World) (base rb : Nat) (bv : Value) (l : List Nat) (body : Option BdV) : Prop where
  blk : Blk w rb 73 #[.bool true, .bool false, bv, .pointer (body.map fun x => ⟨x.bb, 0, none⟩)]
  buf : Lies w base 5 bv l.length (byts l)
  bytes : ∀ b ∈ l, b < 256
  ge : base ≤ rb
  bd : ∀ x, body = some x → BdAt w base x.bb x.gv x.p x.cv x.d ∧ (x.d.c = none → x.d.got.length + x.d.left ≤ 65535) ∧ (∀ b, x.Foot b → bv.ownBlock ≠ some b)
theorem lies_ne {w : World} {B n g : Nat} {e t : TypeId} {v : Value} {xs : List Value} {cs : Array Value} (h : Lies w B e v n xs) (hg : Blk w g t cs) (hne : e ≠ t) : v.ownBlock ≠ some g := by
  intro hb
  rcases h.2 with ⟨rfl, _⟩ | ⟨g', o, cap, cur, rfl, _, hg', _⟩
  · cases hb
  · simp only [Value.ownBlock, Option.some.injEq] at hb
    subst hb
    unfold Blk at hg
    rw [hg'] at hg
    injection hg with hg
    injection hg with _ ht
    exact hne ht
theorem BdAt.not_blk {w : World} {base bb g : Nat} {gv cv : Value} {p : Option Nat} {d : Bd} {t : TypeId} {cs : Array Value} (h : BdAt w base bb gv p cv d) (hg : Blk w g t cs) (h1 : 150 ≠ t) (h2 : 5 ≠ t) (h3 : 163 ≠ t) : ¬ BFoot bb gv p cv g := by
  rintro (rfl | ⟨hp, hb⟩ | ⟨r, hr, hb⟩)
  · exact Blk.ne h.blk hg h1 rfl
  · cases hc : d.c with
    | none => exact own_ne_blk' (h.own hc).2 hg h2 hb
    | some s =>
      obtain ⟨r, hr, _⟩ := h.chk s hc
      rw [hp] at hr
      cases hr
  · cases hc : d.c with
    | none => rw [(h.own hc).1] at hr; cases hr
    | some s =>
      obtain ⟨r', hr', hcr, _, _⟩ := h.chk s hc
      rw [hr] at hr'
      injection hr' with hr'
      subst hr'
      rcases hb with rfl | hb
      · exact Blk.ne hcr.1 hg h3 rfl
      · exact own_ne_blk' hcr.2 hg h2 hb
theorem RdW.not_rb {w : World} {base rb : Nat} {bv : Value} {l : List Nat} {body : Option BdV} (h : RdW w base rb bv l body) : bv.ownBlock ≠ some rb ∧ ∀ x, body = some x → ¬ x.Foot rb :=
  ⟨lies_ne h.buf h.blk (by decide), fun x hx => (h.bd x hx).1.not_blk h.blk (by decide) (by decide) (by decide)⟩
theorem RdW.lt {w : World} {base rb : Nat} {bv : Value} {l : List Nat} {body : Option BdV} (h : RdW w base rb bv l body) : ∀ b, RFoot rb bv body b → b < w.heap.size ∧ base ≤ b := by
  rintro b (rfl | hb | ⟨x, hx, hb⟩)
  · exact ⟨h.blk.lt, h.ge⟩
  · exact h.buf.lt hb
  · exact (h.bd x hx).1.lt b hb
theorem RdW.upd {w w' : World} {base rb : Nat} {bv : Value} {l : List Nat} {body : Option BdV} {S : Nat → Prop} (h : RdW w base rb bv l body) (k : Upd S w w') (hn : ∀ b, RFoot rb bv body b → ¬ S b) : RdW w' base rb bv l body :=
  ⟨h.blk.upd k (hn rb (.inl rfl)), h.buf.upd k fun b hb => hn b (.inr (.inl hb)), h.bytes, h.ge, fun x hx => by
    obtain ⟨h1, h2, h3⟩ := h.bd x hx
    exact ⟨h1.upd k fun b hb => hn b (.inr (.inr ⟨x, hx, hb⟩)), h2, h3⟩⟩
/-- how much is left to do -/
def mz (s : HS) : Nat := s.b.length + if s.body.isSome then 1 else 0
theorem turnB_more {en : Bool} {d : Bd} {b : List Nat} {r : Rq} {s' : HS} (h : turnB en d b = .more r s') : s'.body = none ∧ s'.b.length ≤ b.length := by
  unfold turnB at h
  rcases takeB d b with ⟨⟨n, whole, e⟩, d'⟩
  simp only at h
  split at h
  · cases h
  · split at h
    · cases h
    · injection h with h1 h2
      subst h2
      exact ⟨rfl, by simp⟩
theorem headL_pos {b : List Nat} {l : List (List Nat)} {n : Nat} (h : headL b = some (some (l, n))) : 0 < n ∧ n ≤ b.length := by
  rcases headL_eq b with ⟨h1, _⟩ | ⟨h1, _⟩ | ⟨l', n', h1, _, h3, h4⟩
  · rw [h] at h1; cases h1
  · rw [h] at h1; cases h1
  · rw [h] at h1
    simp only [Option.some.injEq, Prod.mk.injEq] at h1
    omega
theorem turnL_more {s : HS} {r : Rq} {s' : HS} (h : turnL s = .more r s') : mz s' < mz s := by
  unfold turnL at h
  cases hb : s.body with
  | some d =>
    rw [hb] at h
    obtain ⟨h1, h2⟩ := turnB_more h
    unfold mz
    rw [h1, hb]
    simp
    omega
  | none =>
    rw [hb] at h
    simp only at h
    cases hh : headL s.b with
    | none => rw [hh] at h; cases h
    | some x =>
      rw [hh] at h
      cases x with
      | none => cases h
      | some x =>
        obtain ⟨l, n⟩ := x
        simp only at h
        obtain ⟨hn1, hn2⟩ := headL_pos hh
        cases hg : beginL l with
        | none => rw [hg] at h; cases h
        | some d =>
          rw [hg] at h
          simp only at h
          obtain ⟨h1, h2⟩ := turnB_more h
          rw [List.length_drop] at h2
          unfold mz
          rw [h1, hb]
          simp
          omega
theorem feedGo_le : ∀ (l : List Nat) (s : CS) (k : Nat), (feedGo l s k).1.1 ≤ k + l.length
  | [], s, k => by
    by_cases h7 : s.st = 7
    · rw [feed_whole _ _ _ h7]; simp
    · rw [feed_nil _ _ h7]; simp
  | c :: l, s, k => by
    by_cases h7 : s.st = 7
    · rw [feed_whole _ _ _ h7]; simp
    · rw [feed_cons _ _ _ _ h7]
      rcases cbyte s c with ⟨e, s'⟩
      cases e with
      | zero =>
        have := feedGo_le l s' (k + 1)
        show (feedGo l s' (k + 1)).1.1 ≤ _
        simp only [List.length_cons]
        omega
      | succ m => simp
end Go.Proofs.YtageanmjdfodnaaGreatDoor
