/- Both readers of chunks, side by side. -/
import Derived.Test.YtphnehfablaakaaChunkS
namespace Go.Proofs.Ytphnehfablaakaa
open Go.RowKit Go.Cx Go.Maps

theorem feedGo_inv : ∀ (l : List Nat) (s : CS) (k : Nat), CInv s → (∀ b ∈ l, b < 256) → CInv (feedGo l s k).2
  | [], s, k, h, _ => h
  | c :: l, s, k, h, hb => by
    by_cases h7 : s.st = 7
    · rw [feed_whole _ _ _ h7]; exact h
    · rw [feed_cons _ _ _ _ h7]
      have h2 := cbyte_inv h (hb c (by simp))
      rcases hcb : cbyte s c with ⟨e, s'⟩
      rw [hcb] at h2
      cases e with
      | zero => exact feedGo_inv l s' (k + 1) h2 fun b hb' => hb b (by simp [hb'])
      | succ m => exact ⟨h2.digits, h2.left0, h2.left, h2.most, h2.body, h2.fits, h2.left2, h2.left3, h2.st, h2.bytes⟩
theorem feed_inv {l : List Nat} {s : CS} (h : CInv s) (hb : ∀ b ∈ l, b < 256) : CInv (feed s l).2 := by
  unfold feed
  split
  · exact h
  · exact feedGo_inv l s 0 h hb

/-- two objects that share nothing -/
def Apart (r1 : Nat) (v1 : Value) (r2 : Nat) (v2 : Value) : Prop := ∀ b, Foot r1 v1 b → ¬ Foot r2 v2 b
theorem Apart.symm {r1 r2 : Nat} {v1 v2 : Value} (h : Apart r1 v1 r2 v2) : Apart r2 v2 r1 v1 := fun b h2 h1 => h b h1 h2
theorem Apart.moved {w : World} {r1 r2 : Nat} {v1 v1' v2 : Value} (h : Apart r1 v1 r2 v2) (m : Moved w v1 v1') (hl : ∀ b, Foot r2 v2 b → b < w.heap.size) : Apart r1 v1' r2 v2 := by
  intro b h1 h2
  have hb := hl b h2
  exact h b (foot_old m hb h1) h2
theorem from_moved {w : World} {r : Nat} {v v' : Value} {B : Nat} (h : ∀ b, Foot r v b → B ≤ b) (m : Moved w v v') (hB : B ≤ w.heap.size) : ∀ b, Foot r v' b → B ≤ b := by
  intro b hb
  rcases hb with hb | hb
  · exact h b (.inl hb)
  · rcases m with m | ⟨g, m, hg⟩
    · exact h b (.inr (m ▸ hb))
    · rw [m] at hb
      injection hb with hb
      omega

/-- both, of the same state, since the world w -/
structure Both12 (w wr : World) (r1 r2 : Nat) (v1 v2 : Value) (s : CS) : Prop where
  cr : CR wr r1 v1 s
  rr : RR wr r2 v2 s
  inv : CInv s
  apart : Apart r1 v1 r2 v2
  from1 : ∀ b, Foot r1 v1 b → w.heap.size ≤ b
  from2 : ∀ b, Foot r2 v2 b → w.heap.size ≤ b
  below : Below w.heap.size w wr

theorem Both12.quiet {w wr wq : World} {r1 r2 : Nat} {v1 v2 : Value} {s : CS} (h : Both12 w wr r1 r2 v1 v2 s) (k : Upd (fun _ => False) wr wq) : Both12 w wq r1 r2 v1 v2 s :=
  ⟨h.cr.upd k fun _ _ hh => hh, h.rr.upd k fun _ _ hh => hh, h.inv, h.apart, h.from1, h.from2, h.below.trans (Upd.belowNix k h.below.size)⟩

/-- one has taken the bytes, the other not yet -/
structure Half12 (w wr : World) (r1 r2 : Nat) (v1 v2 : Value) (s s' : CS) : Prop where
  cr : CR wr r1 v1 s'
  rr : RR wr r2 v2 s
  inv : CInv s
  inv' : CInv s'
  apart : Apart r1 v1 r2 v2
  from1 : ∀ b, Foot r1 v1 b → w.heap.size ≤ b
  from2 : ∀ b, Foot r2 v2 b → w.heap.size ≤ b
  below : Below w.heap.size w wr

theorem Both12.one {w wr w1 : World} {r1 r2 : Nat} {v1 v1' v2 : Value} {s : CS} {l : List Nat} (h : Both12 w wr r1 r2 v1 v2 s) (hb : ∀ b ∈ l, b < 256) (hc : CR w1 r1 v1' (feed s l).2) (m : Moved wr v1 v1') (k : Upd (Foot r1 v1) wr w1) : Half12 w w1 r1 r2 v1' v2 s (feed s l).2 :=
  ⟨hc, h.rr.upd k fun b hb hh => h.apart b hh hb, h.inv, feed_inv h.inv hb, h.apart.moved m h.rr.lt, from_moved h.from1 m h.below.size, h.from2, h.below.trans (k.below h.below.size fun b _ hh => h.from1 b hh)⟩
theorem Half12.two {w wr w1 : World} {r1 r2 : Nat} {v1 v2 v2' : Value} {s s' : CS} (h : Half12 w wr r1 r2 v1 v2 s s') (hc : RR w1 r2 v2' s') (m : Moved wr v2 v2') (k : Upd (Foot r2 v2) wr w1) : Both12 w w1 r1 r2 v1 v2' s' :=
  ⟨h.cr.upd k fun b hb hh => h.apart b hb hh, hc, h.inv', (h.apart.symm.moved m h.cr.lt).symm, h.from1, from_moved h.from2 m h.below.size, h.below.trans (k.below h.below.size fun b _ hh => h.from2 b hh)⟩

theorem both_new {w w1 w2 : World} {most : Int} (h1 : CR w1 w.heap.size (.slice none 0 0) (new0 most)) (h2 : RR w2 (w.heap.size + 1) (.slice none 0 0) (new0 most)) (k1 : Upd (fun _ => False) w w1) (k2 : Upd (fun _ => False) w1 w2) (_hs : w1.heap.size = w.heap.size + 1) :
    Both12 w w2 w.heap.size (w.heap.size + 1) (.slice none 0 0) (.slice none 0 0) (new0 most) := by
  have hf : ∀ r b, Foot r (.slice none 0 0) b → b = r := by
    rintro r b (h | h)
    · exact h
    · cases h
  refine ⟨h1.upd k2 fun _ _ hh => hh, h2, new0_inv most, ?_, ?_, ?_, Upd.belowNix (k1.then k2) (Nat.le_refl _)⟩
  · intro b hb hb2
    have := hf _ _ hb
    have := hf _ _ hb2
    omega
  · intro b hb
    have := hf _ _ hb
    omega
  · intro b hb
    have := hf _ _ hb
    omega
end Go.Proofs.Ytphnehfablaakaa
