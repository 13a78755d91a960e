/- The reader of chunks: Feed. -/
import Derived.Test.YtageanmjdfodnaaGreatDoorChunkB
import Derived.ScopeJumps
import Derived.WalkMore
namespace Go.Proofs.YtageanmjdfodnaaGreatDoor
open Go.RowKit Go.Cx Go.Maps

/-- bytes, one by one: how many, whether it is whole, the error; and what is then -/
def feedGo : List Nat → CS → Nat → (Nat × Bool × Nat) × CS
  | [], s, k => ((k, s.st == 7, 0), s)
  | c :: l, s, k => if s.st = 7 then ((k, true, 0), s) else
    match cbyte s c with
    | (0, s') => feedGo l s' (k + 1)
    | (e, s') => ((0, false, e), { s' with e := e })
def feed (s : CS) (l : List Nat) : (Nat × Bool × Nat) × CS := if s.e ≠ 0 then ((0, false, s.e), s) else feedGo l s 0

theorem feed_whole (l : List Nat) (s : CS) (k : Nat) (h : s.st = 7) : feedGo l s k = ((k, true, 0), s) := by
  cases l with
  | nil => simp [feedGo, h]
  | cons c l => simp [feedGo, h]
theorem feed_nil (s : CS) (k : Nat) (h : ¬ s.st = 7) : feedGo [] s k = ((k, false, 0), s) := by
  have : (s.st == 7) = false := by simpa using h
  simp [feedGo, this]
theorem feed_cons (c : Nat) (l : List Nat) (s : CS) (k : Nat) (h : ¬ s.st = 7) : feedGo (c :: l) s k = match cbyte s c with | (0, s') => feedGo l s' (k + 1) | (e, s') => ((0, false, e), { s' with e := e }) := by
  rw [feedGo, if_neg h]
theorem cbyte_e (s : CS) (c : Nat) : (cbyte s c).2.e = s.e := by
  unfold cbyte
  split <;> (try rfl)
  · split
    · rfl
    · split
      · rfl
      · split <;> rfl
  all_goals (split <;> rfl)

/-- the slice lies where it lay, or in a new block -/
def Moved (w : World) (v v' : Value) : Prop := v'.ownBlock = v.ownBlock ∨ ∃ g, v'.ownBlock = some g ∧ w.heap.size ≤ g
theorem Moved.refl (w : World) (v : Value) : Moved w v v := .inl rfl
theorem foot_old {w : World} {rb : Nat} {v v' : Value} (h : Moved w v v') {b : Nat} (hb : b < w.heap.size) (hf : Foot rb v' b) : Foot rb v b := by
  rcases hf with hf | hf
  · exact .inl hf
  · rcases h with h | ⟨g, h, hg⟩
    · exact .inr (h ▸ hf)
    · rw [h] at hf
      injection hf with hf
      omega
theorem fresh_trans {w w1 : World} {v v1 v2 : Value} (h : Moved w v v1) (k : Moved w1 v1 v2) (hs : w.heap.size ≤ w1.heap.size) : Moved w v v2 := by
  rcases k with k | ⟨g, k, hg⟩
  · rcases h with h | ⟨g, h, hg⟩
    · exact .inl (k.trans h)
    · exact .inr ⟨g, k.trans h, hg⟩
  · exact .inr ⟨g, k, by omega⟩

/-- what Feed leaves -/
def AfterFeed (rb : Nat) (v : Value) (r : (Nat × Bool × Nat) × CS) (w : World) (e : Ending) (w' : World) : Prop :=
  e = .returned (.tuple #[.int .i64 r.1.1, .bool r.1.2.1, .int .i64 r.1.2.2]) ∧ (∃ v', CR w' rb v' r.2 ∧ Moved w v v') ∧ Upd (Foot rb v) w w'

/-- behind k bytes -/
def FeedAt (w : World) (rb : Nat) (v : Value) (s : CS) (l : List Nat) (n k : Nat) (vk : Value) (sk : CS) (wr : World) : Prop :=
  k ≤ n ∧ feedGo (l.drop k) sk k = feedGo l s 0 ∧ CR wr rb vk sk ∧ CInv sk ∧ sk.e = 0 ∧ Moved w v vk ∧ Upd (Foot rb v) w wr

theorem feed_done {w wr : World} {rb : Nat} {v vk : Value} {s sk : CS} {l : List Nat} {k nq : Nat} {b : Bool} (hf : feedGo l s 0 = ((k, b, 0), sk)) (hc : CR wr rb vk sk) (hm : Moved w v vk) (hu : Upd (Foot rb v) w wr) :
    AfterFeed rb v (feedGo l s 0) w (.returned (.tuple #[.int .i64 k, .bool b, .int .i64 0])) (wr.drewN nq) := by
  rw [hf]
  exact ⟨rfl, ⟨vk, hc, hm⟩, hu.drewN _⟩
theorem feed_err {w w2 : World} {rb : Nat} {v v2 : Value} {s s2 : CS} {l : List Nat} {er nq : Nat} (hf : feedGo l s 0 = ((0, false, er), { s2 with e := er })) (hc : CR w2 rb v2 s2) (hm : Moved w v v2) (hu : Upd (Foot rb v) w w2) :
    AfterFeed rb v (feedGo l s 0) w (.returned (.tuple #[.int .i64 0, .bool false, .int .i64 er])) ((w2.setCell ⟨rb, 6, none⟩ (.int .i64 er)).drewN nq) := by
  rw [hf]
  have hu3 : Upd (One rb) w2 ((w2.setCell ⟨rb, 6, none⟩ (.int .i64 er)).drewN nq) := ((Upd.refl (One rb) w2).set (i := 6) rfl _).drewN _
  exact ⟨rfl, ⟨v2, hc.write hu3 ((hc.1.set 6 _).drewN _) rfl, hm⟩, hu.trans hu3 fun b _ hb => .inl hb⟩

theorem wp_scope_label {P : Program} {c X : Code} {a : Act} {w : World} {Q : Exit → Act → World → Prop} (l : Nat) (J : Act → World → Prop) (m : Act → World → Nat) (hf : findLabel c l = some (.seq .skip X))
    (first : (∀ a w, J a w → X.wp P (Exit.jump l J Q) a w) → c.wp P (Exit.jump l J Q) a w) (pass : ∀ a w, J a w → X.wp P (Exit.jump l (fun a' w' => J a' w' ∧ m a' w' < m a w) Q) a w) : (Code.scope c).wp P Q a w := by
  refine wp_scope_jumps l J m hf (first fun a w hJ => ?_) fun a w h => wp_seq (wp_skip (pass a w h))
  refine wp_mono (pass a w hJ) ?_
  intro e a' w' h
  cases e with
  | goto l' => exact ⟨h.1, h.2.1⟩
  | normal => exact h
  | exit => exact h
  | ret => exact h
  | panic => exact h
  | outgrown => exact h

theorem feed_step {w w2 : World} {rb : Nat} {v v2 : Value} {s s2 : CS} {l : List Nat} {n k : Nat} (hk : k < n) (hf : feedGo (l.drop (k + 1)) s2 (k + 1) = feedGo l s 0) (hc : CR w2 rb v2 s2) (hi : CInv s2) (he : s2.e = 0) (hm : Moved w v v2) (hu : Upd (Foot rb v) w w2) :
    FeedAt w rb v s l n (k + 1) v2 s2 (w2.setCell ⟨rb, 6, none⟩ (.int .i64 ((0 : Nat) : Int))) := by
  have hu3 : Upd (One rb) w2 (w2.setCell ⟨rb, 6, none⟩ (.int .i64 ((0 : Nat) : Int))) := (Upd.refl (One rb) w2).set (i := 6) rfl _
  have hcs := hc.write (s' := s2) hu3 (by have := hc.1.set 6 (.int .i64 ((0 : Nat) : Int)); rw [he]; exact this) rfl
  exact ⟨hk, hf, hcs, hi, he, hm, hu.trans hu3 fun b _ hb => .inl hb⟩

set_option maxRecDepth 100000 in
set_option maxHeartbeats 3200000 in
theorem chunk_feed_go (rb : Nat) (v : Value) (s : CS) (A : Option Addr) (n c : Nat) (l : List Nat) (w : World) (hs : CR w rb v s) (hi : CInv s) (he : s.e = 0)
    (hx : Rd w w.heap.size 1 A n (byts l)) (hb : ∀ b ∈ l, b < 256) (hap : ∀ ad, A = some ad → 0 < n → ¬ Foot rb v ad.block) (hn : n ≤ 140737488355328) :
    Calls Tryz.prog 88 #[.pointer (some ⟨rb, 0, none⟩), .slice A n c] w (AfterFeed rb v (feedGo l s 0) w) := by
  have hlen := hx.1
  simp only [byts, List.length_map, Nat.mul_one] at hlen
  have HL := Lib.hid hlen
  have HX := Lib.hid hx
  have HB := Lib.hid hb
  have HAP := Lib.hid hap
  have hat : FeedAt w rb v s l n 0 v s w := ⟨Nat.zero_le _, rfl, hs, hi, he, Moved.refl _ _, Upd.refl _ _⟩
  have HAT0 := Lib.hid hat
  have hc := hs.1.cell
  have c3 := hc 3
  have c6 := hc 6
  simp only [List.getElem?_toArray, List.getElem?_cons_zero, List.getElem?_cons_succ] at c3 c6
  rw [he] at c6
  clear hlen hx hb hap hat hc hs hi
  go_enter Tryz.func88, Tryz.ntmps88
  go_wp2
  refine wp_scope_label 0 (fun a' w' => ∃ (k : Nat) (vk : Value) (sk : CS) (u8 u9 u10 u11 u12 u13 u14 u15 u16 u17 u18 u19 u20 u21 u22 u23 u24 u25 u26 u27 u28 u29 u30 u31 u32 u33 u34 u35 u36 u37 u38 u39 u40 u41 u42 u43 u44 u45 u46 u47 u48 u49 u50 u51 u52 u53 u54 u55 u56 u57 u58 u59 u60 u61 u62 : Value), a' = { tmps := #[.pointer (some ⟨rb, 0, none⟩), .slice A n c, undef, undef, .int .i64 0, .bool false, .int .i64 0, .int .i64 k, u8, u9, u10, u11, u12, u13, u14, u15, u16, u17, u18, u19, u20, u21, u22, u23, u24, u25, u26, u27, u28, u29, u30, u31, u32, u33, u34, u35, u36, u37, u38, u39, u40, u41, u42, u43, u44, u45, u46, u47, u48, u49, u50, u51, u52, u53, u54, u55, u56, u57, u58, u59, u60, u61, u62], defers := [] } ∧ FeedAt w rb v s l n k vk sk w') (fun a' _ => n - (intOf (a'.tmps.getD 7 undef)).toNat) rfl ?_ ?_
  · intro hX
    go_wp2
    go_step3
    rename_i hK
    exact hK _ _ (hX _ _ ⟨0, v, s, _, _, _, _, _, _, _, _, _, _, _, _, _, _, _, _, _, _, _, _, _, _, _, _, _, _, _, _, _, _, _, _, _, _, _, _, _, _, _, _, _, _, _, _, _, _, _, _, _, _, _, _, _, _, _, rfl, HAT0.out⟩)
  · intro a' wr hJ
    obtain ⟨k, vk, sk, u8, u9, u10, u11, u12, u13, u14, u15, u16, u17, u18, u19, u20, u21, u22, u23, u24, u25, u26, u27, u28, u29, u30, u31, u32, u33, u34, u35, u36, u37, u38, u39, u40, u41, u42, u43, u44, u45, u46, u47, u48, u49, u50, u51, u52, u53, u54, u55, u56, u57, u58, u59, u60, u61, u62, rfl, hat⟩ := hJ
    have HAT := Lib.hid hat
    clear hat
    obtain ⟨hkn, hgo, hcr, hinv, he0, hfr, hup⟩ := HAT.out
    have hc := hcr.1.cell
    have hf := hcr.1.free
    have c2 := hc 2
    have c6 := hc 6
    have f6 := hf 6
    simp only [List.getElem?_toArray, List.getElem?_cons_zero, List.getElem?_cons_succ] at c2 c6
    have HCR := Lib.hid hcr
    have HGO := Lib.hid hgo
    have HE0 := Lib.hid he0
    have HINV := Lib.hid hinv
    have HFR := Lib.hid hfr
    have HUP := Lib.hid hup
    clear hc hf hcr hgo he0 hinv hfr hup
    by_cases h7 : sk.st = 7
    · have b7 : ((sk.st : Int) == 7) = true := by simp; omega
      have hfin : feedGo l s 0 = ((k, true, 0), sk) := by rw [← HGO.out]; exact feed_whole _ _ _ h7
      have HF := Lib.hid hfin
      clear hfin h7
      go_wp2_with (fail)
      go_quiet (fail)
      go_wp2
      refine bodyPost_ret (results_tmp3 rfl _ _ _) rfl ?_
      exact feed_done HF.out HCR.out HFR.out HUP.out
    · have b7 : ((sk.st : Int) == 7) = false := by simp; omega
      by_cases hkl : k = n
      · have bk : ((k : Int) == (n : Int)) = true := by simp; omega
        have hfin : feedGo l s 0 = ((k, false, 0), sk) := by rw [← HGO.out, List.drop_eq_nil_of_le (by rw [HL.out]; omega)]; exact feed_nil _ _ h7
        have HF := Lib.hid hfin
        clear hfin h7 hkl
        go_wp2_with (fail)
        go_quiet (fail)
        go_wp2
        refine bodyPost_ret (results_tmp3 rfl _ _ _) rfl ?_
        exact feed_done HF.out HCR.out HFR.out HUP.out
      · have bk : ((k : Int) == (n : Int)) = false := by simp; omega
        have hlt : k < n := by omega
        have hkl' : k < l.length := by rw [HL.out]; exact hlt
        obtain ⟨ad, rfl, hadB, hcell⟩ := HX.out.2 (by omega)
        have hcx := hcell k (.int .u8 (l[k] : Nat)) (by rw [byts, List.getElem?_map, List.getElem?_eq_getElem hkl']; rfl)
        have hcr : wr.cell? (ad.add k) = some (.int .u8 (l[k] : Nat)) := (HUP.out.cell (by rw [block_add]; exact hadB) (by rw [block_add]; exact HAP.out ad rfl (by omega))).trans hcx
        have hl256 := HB.out l[k] (List.getElem_mem hkl')
        have hstep : feedGo l s 0 = match cbyte sk l[k] with | (0, s') => feedGo (l.drop (k + 1)) s' (k + 1) | (e, s') => ((0, false, e), { s' with e := e }) := by
          rw [← HGO.out, List.drop_eq_getElem_cons hkl']
          exact feed_cons _ _ _ _ h7
        have HST := Lib.hid hstep
        obtain ⟨ch, hch⟩ : ∃ ch, ch = l[k] := ⟨_, rfl⟩
        rw [← hch] at hcr hl256
        have HCH := Lib.hid hch
        have H7 := Lib.hid h7
        clear hcx hcell hstep hch h7 hkl
        go_wp2_with (fail)
        refine (chunk_byte ch rb vk sk wr hl256 HCR.out HINV.out H7.out).mono ?_
        rintro e' w2 ⟨rfl, ⟨v2, hr2, hfr2⟩, hu2⟩
        have hup2 := HUP.out.trans hu2 fun b hb hh => foot_old HFR.out hb hh
        have hfr2' := fresh_trans HFR.out hfr2 HUP.out.size
        have d := hr2.1.cell 6
        have g := hr2.1.free 6
        have hi2 := cbyte_inv HINV.out hl256
        have he2 := cbyte_e sk ch
        rw [HE0.out] at he2
        simp only [List.getElem?_toArray, List.getElem?_cons_zero, List.getElem?_cons_succ] at d
        have HR2 := Lib.hid hr2
        have HU2 := Lib.hid hup2
        have HF2 := Lib.hid hfr2'
        have HI2 := Lib.hid hi2
        have HE2 := Lib.hid he2
        clear hr2 hup2 hfr2 hfr2' hi2 he2 hu2
        by_cases hz : (cbyte sk ch).1 = 0
        · have hstep2 : feedGo (l.drop (k + 1)) (cbyte sk ch).2 (k + 1) = feedGo l s 0 := by
            rw [HST.out, ← HCH.out]
            rcases hcb : cbyte sk ch with ⟨er, s'⟩
            simp only [hcb] at hz ⊢
            subst hz
            rfl
          have HS2 := Lib.hid hstep2
          rw [hz]
          clear hstep2
          generalize hcs : (cbyte sk ch).2 = s2 at *
          have HCS := Lib.hid hcs
          have HZ := Lib.hid hz
          clear hcs hz
          go_wp2
          go_step3
          refine ⟨rfl, ⟨k + 1, v2, s2, _, _, _, _, _, _, _, _, _, _, _, _, _, _, _, _, _, _, _, _, _, _, _, _, _, _, _, _, _, _, _, _, _, _, _, _, _, _, _, _, _, _, _, _, _, _, _, _, _, _, _, _, _, _, _, rfl, feed_step hlt HS2.out HR2.out HI2.out (HCS.out ▸ HE2.out) HF2.out HU2.out⟩, ?_⟩
          simp [intOf]
          omega
        · obtain ⟨er, her⟩ : ∃ er, (cbyte sk ch).1 = er := ⟨_, rfl⟩
          have hb : ((er : Int) != 0) = true := by simp; omega
          have hfin : feedGo l s 0 = ((0, false, er), { (cbyte sk ch).2 with e := er }) := by
            rw [HST.out, ← HCH.out]
            rcases hcb : cbyte sk ch with ⟨er', s'⟩
            simp only [hcb] at hz her ⊢
            subst her
            cases er' with
            | zero => exact absurd rfl hz
            | succ m => rfl
          have HF := Lib.hid hfin
          rw [her]
          have HER := Lib.hid her
          clear hfin hz her
          generalize hcs : (cbyte sk ch).2 = s2 at *
          have HCS := Lib.hid hcs
          clear hcs
          go_wp2
          go_quiet (fail)
          go_wp2
          refine bodyPost_ret (results_tmp3 rfl _ _ _) rfl ?_
          exact feed_err HF.out HR2.out HF2.out HU2.out
end Go.Proofs.YtageanmjdfodnaaGreatDoor
