/- The document's reader of chunks: New, Feed, Body. -/
import Derived.Test.YtbiapeplkegjlaaGreatDoorChunkN
import Derived.Test.YtbiapeplkegjlaaGreatDoorChunkR
namespace Go.Proofs.YtbiapeplkegjlaaGreatDoor
open Go.RowKit Go.Cx Go.Maps

theorem cr_new (most : Int) (w : World) :
    Calls Tryz.prog 30 #[.int .i64 most] w fun e w' => e = .returned (.pointer (some ⟨w.heap.size, 0, none⟩)) ∧ RR w' w.heap.size (.slice none 0 0) (new0 most) ∧ Upd (fun _ => False) w w' ∧ w'.heap.size = w.heap.size + 1 := by
  obtain ⟨m, hm⟩ : ∃ m, most0 most = m := ⟨_, rfl⟩
  have hm' : min (max most 0) 65535 = (m : Int) := by rw [← hm]; unfold most0; omega
  have HM := Lib.hid hm
  clear hm
  go_enter Tryz.func30, Tryz.ntmps30
  go_wp2
  go_ret
  refine ⟨rfl, ⟨?_, World.ownsRow_nil _ _ _ _⟩, (Upd.refl _ _).alloc _, by simp⟩
  show Blk _ _ _ #[.int .i64 (most0 most : Nat), .int .i64 0, .int .i64 0, .int .i64 0, .slice none 0 0, .bool false, .int .i64 0]
  rw [HM.out]
  exact Blk.new _ _ _

def AfterRef (rb : Nat) (v : Value) (r : (Nat × Bool × Nat) × CS) (w : World) (e : Ending) (w' : World) : Prop :=
  e = .returned (.tuple #[.int .i64 r.1.1, .bool r.1.2.1, .int .i64 r.1.2.2]) ∧ (∃ v', RR w' rb v' r.2 ∧ Moved w v v') ∧ Upd (Foot rb v) w w'
def RefAt (w : World) (rb : Nat) (v : Value) (s : CS) (l : List Nat) (n k : Nat) (vk : Value) (sk : CS) (wr : World) : Prop :=
  k ≤ n ∧ feedGo (l.drop k) sk k = feedGo l s 0 ∧ RR wr rb vk sk ∧ CInv sk ∧ sk.e = 0 ∧ Moved w v vk ∧ Upd (Foot rb v) w wr

theorem ref_feed_go (rb : Nat) (v : Value) (s : CS) (A : Option Addr) (n c : Nat) (l : List Nat) (w : World) (hs : RR w rb v s) (hi : CInv s) (he : s.e = 0)
    (hx : Rd w w.heap.size 1 A n (byts l)) (hb : ∀ b ∈ l, b < 256) (hap : ∀ ad, A = some ad → 0 < n → ¬ Foot rb v ad.block) (hn : n ≤ 140737488355328) :
    Calls Tryz.prog 32 #[.pointer (some ⟨rb, 0, none⟩), .slice A n c] w (AfterRef rb v (feedGo l s 0) w) := by
  have hlen := hx.1
  simp only [byts, List.length_map, Nat.mul_one] at hlen
  have HL := Lib.hid hlen
  have HX := Lib.hid hx
  have HB := Lib.hid hb
  have HAP := Lib.hid hap
  have hat : RefAt w rb v s l n 0 v s w := ⟨Nat.zero_le _, rfl, hs, hi, he, Moved.refl _ _, Upd.refl _ _⟩
  have HAT0 := Lib.hid hat
  have hc := hs.1.cell
  have c6 := hc 6
  simp only [List.getElem?_toArray, List.getElem?_cons_zero, List.getElem?_cons_succ] at c6
  rw [he] at c6
  clear hlen hx hb hap hat hc hs hi
  go_enter Tryz.func32, Tryz.ntmps32
  go_wp2
  go_loopw [21] (fun i wr => ∃ (k : Nat) (vk : Value) (sk : CS), i = .int .i64 k ∧ RefAt w rb v s l n k vk sk wr) (fun i _ => n - (intOf i).toNat)
  case atStart => exact ⟨0, v, s, rfl, HAT0.out⟩
  case round =>
    obtain ⟨k, vk, sk, rfl, hat⟩ := hrel
    obtain ⟨hkn, hgo, hcr, hinv, he0, hfr, hup⟩ := hat
    have hc := hcr.1.cell
    have c5 := hc 5
    have c6 := hc 6
    have f6 := hcr.1.free 6
    simp only [List.getElem?_toArray, List.getElem?_cons_zero, List.getElem?_cons_succ] at c5 c6
    have HCR := Lib.hid hcr
    have HGO := Lib.hid hgo
    have HE0 := Lib.hid he0
    have HINV := Lib.hid hinv
    have HFR := Lib.hid hfr
    have HUP := Lib.hid hup
    clear hc hcr hgo he0 hinv hfr hup
    by_cases hkl : k = n
    · have bk : ¬ (k : Int) < (n : Int) := by omega
      have hfin : feedGo l s 0 = ((k, sk.st == 7, 0), sk) := by rw [← HGO.out, List.drop_eq_nil_of_le (by rw [HL.out]; omega)]; rfl
      have HF := Lib.hid hfin
      clear hfin
      subst hkl
      go_wp2_with (fail)
      go_quiet (fail)
      go_wp2
      refine bodyPost_ret (results_tmp3 rfl _ _ _) rfl ?_
      rw [HF.out]
      exact ⟨rfl, ⟨vk, HCR.out.upd ((Upd.refl (fun _ => False) wr).drewN _) (by simp), HFR.out⟩, HUP.out.drewN _⟩
    · have hlt : k < n := by omega
      have bk : (k : Int) < (n : Int) := by omega
      have hkl' : k < l.length := by rw [HL.out]; exact hlt
      obtain ⟨ad, rfl, hadB, hcell⟩ := HX.out.2 (by omega)
      have hcx := hcell k (.int .u8 (l[k] : Nat)) (by rw [byts, List.getElem?_map, List.getElem?_eq_getElem hkl']; rfl)
      have hcr : wr.cell? (ad.add k) = some (.int .u8 (l[k] : Nat)) := (HUP.out.cell (by rw [block_add]; exact hadB) (by rw [block_add]; exact HAP.out ad rfl (by omega))).trans hcx
      have hl256 := HB.out l[k] (List.getElem_mem hkl')
      by_cases h7 : sk.st = 7
      · have b7 : (sk.st == 7) = true := by simp [h7]
        have hfin : feedGo l s 0 = ((k, true, 0), sk) := by rw [← HGO.out]; exact feed_whole _ _ _ h7
        have HF := Lib.hid hfin
        clear hfin h7 hcx hcell
        rw [b7] at c5
        go_wp2_with (fail)
        refine bodyPost_ret (results_tmp3 rfl _ _ _) rfl ?_
        rw [HF.out]
        exact ⟨rfl, ⟨vk, HCR.out, HFR.out⟩, HUP.out⟩
      · have b7 : (sk.st == 7) = false := by simpa using h7
        have hstep : feedGo l s 0 = match cbyte sk l[k] with | (0, s') => feedGo (l.drop (k + 1)) s' (k + 1) | (e, s') => ((0, false, e), { s' with e := e }) := by
          rw [← HGO.out, List.drop_eq_getElem_cons hkl']
          exact feed_cons _ _ _ _ h7
        have HST := Lib.hid hstep
        obtain ⟨ch, hch⟩ : ∃ ch, ch = l[k] := ⟨_, rfl⟩
        rw [← hch] at hcr hl256
        have HCH := Lib.hid hch
        have H7 := Lib.hid h7
        clear hcx hcell hstep hch h7
        rw [b7] at c5
        go_wp2_with (fail)
        refine (ref_step ch rb vk sk wr hl256 HCR.out HINV.out H7.out).mono ?_
        rintro e' w2 ⟨rfl, ⟨v2, hr2, hfr2⟩, hu2⟩
        have hup2 := HUP.out.trans hu2 fun b hb hh => foot_old HFR.out hb hh
        have hfr2' := fresh_trans HFR.out hfr2 HUP.out.size
        have d := hr2.1.cell 6
        have g := hr2.1.free 6
        have hi2 := cbyte_inv HINV.out hl256
        have he2 := cbyte_e sk ch
        rw [HE0.out] at he2
        simp only [List.getElem?_toArray, List.getElem?_cons_zero, List.getElem?_cons_succ] at d
        have HR2 := Lib.hid hr2
        have HU2 := Lib.hid hup2
        have HF2 := Lib.hid hfr2'
        have HI2 := Lib.hid hi2
        have HE2 := Lib.hid he2
        clear hr2 hup2 hfr2 hfr2' hi2 he2 hu2
        by_cases hz : (cbyte sk ch).1 = 0
        · have hstep2 : feedGo (l.drop (k + 1)) (cbyte sk ch).2 (k + 1) = feedGo l s 0 := by
            rw [HST.out, ← HCH.out]
            rcases hcb : cbyte sk ch with ⟨er, s'⟩
            simp only [hcb] at hz ⊢
            subst hz
            rfl
          have HS2 := Lib.hid hstep2
          rw [hz]
          clear hstep2
          generalize hcs : (cbyte sk ch).2 = s2 at *
          have HCS := Lib.hid hcs
          have HZ := Lib.hid hz
          clear hcs hz
          go_wp2
          go_roundw
          case rel => exact ⟨k + 1, v2, s2, by go_num, hlt, HS2.out, HR2.out, HI2.out, HCS.out ▸ HE2.out, HF2.out, HU2.out⟩
          case measure => simp [intOf]; omega
        · obtain ⟨er, her⟩ : ∃ er, (cbyte sk ch).1 = er := ⟨_, rfl⟩
          have hb : ((er : Int) != 0) = true := by simp; omega
          have hfin : feedGo l s 0 = ((0, false, er), { (cbyte sk ch).2 with e := er }) := by
            rw [HST.out, ← HCH.out]
            rcases hcb : cbyte sk ch with ⟨er', s'⟩
            simp only [hcb] at hz her ⊢
            subst her
            cases er' with
            | zero => exact absurd rfl hz
            | succ m => rfl
          have HF := Lib.hid hfin
          rw [her]
          have HER := Lib.hid her
          clear hfin hz her
          generalize hcs : (cbyte sk ch).2 = s2 at *
          have HCS := Lib.hid hcs
          clear hcs
          go_wp2
          refine bodyPost_ret (results_tmp3 rfl _ _ _) rfl ?_
          rw [HF.out]
          have hu3 : Upd (One rb) w2 (w2.setCell ⟨rb, 6, none⟩ (.int .i64 er)) := (Upd.refl (One rb) w2).set (i := 6) rfl _
          exact ⟨rfl, ⟨v2, HR2.out.write hu3 (HR2.out.1.set 6 _) rfl, HF2.out⟩, HU2.out.trans hu3 fun b _ hb => .inl hb⟩

theorem cr_feed (rb : Nat) (v : Value) (s : CS) (A : Option Addr) (n c : Nat) (l : List Nat) (w : World) (hs : RR w rb v s) (hi : CInv s)
    (hx : Rd w w.heap.size 1 A n (byts l)) (hb : ∀ b ∈ l, b < 256) (hap : ∀ ad, A = some ad → 0 < n → ¬ Foot rb v ad.block) (hn : n ≤ 140737488355328) :
    Calls Tryz.prog 32 #[.pointer (some ⟨rb, 0, none⟩), .slice A n c] w (AfterRef rb v (feed s l) w) := by
  by_cases he : s.e = 0
  · have : feed s l = feedGo l s 0 := by unfold feed; rw [if_neg (by omega)]
    rw [this]
    exact ref_feed_go rb v s A n c l w hs hi he hx hb hap hn
  · have hf : feed s l = ((0, false, s.e), s) := by unfold feed; rw [if_pos he]
    rw [hf]
    obtain ⟨e, hee⟩ : ∃ e, s.e = e := ⟨_, rfl⟩
    have hb : ((e : Int) != 0) = true := by simp; omega
    have c6 := hs.1.cell 6
    simp only [List.getElem?_toArray, List.getElem?_cons_zero, List.getElem?_cons_succ] at c6
    rw [hee] at c6
    have HS := Lib.hid hs
    have HE := Lib.hid hee
    clear hs hi he hx hap hf hee
    go_enter Tryz.func32, Tryz.ntmps32
    go_wp2
    go_quiet (fail)
    go_wp2
    refine bodyPost_ret (results_tmp3 rfl _ _ _) rfl ?_
    exact ⟨by rw [HE.out]; rfl, ⟨v, HS.out.upd ((Upd.refl (fun _ => False) w).drewN _) (by simp), Moved.refl _ _⟩, (Upd.refl _ _).drewN _⟩

theorem cr_body (rb : Nat) (v : Value) (s : CS) (w : World) (hs : RR w rb v s) (hi : CInv s) :
    Calls Tryz.prog 33 #[.pointer (some ⟨rb, 0, none⟩)] w fun e w' => ∃ A n c, e = .returned (.slice A n c) ∧ n = s.body.length ∧ Rd w' w'.heap.size 1 A n (byts s.body) ∧ Upd (fun _ => False) w w' := by
  have hc := hs.1.cell
  have c4 := hc 4
  simp only [List.getElem?_toArray, List.getElem?_cons_zero, List.getElem?_cons_succ] at c4
  obtain ⟨A, cp, rfl⟩ := own_form hs.2
  have hr := Rd.own hs.2
  have hbm := hi.body
  have hmm := hi.most
  have HR := Lib.hid hr
  have hlt := hs.1.lt
  clear hs hr hc
  obtain ⟨i0, hi0, hz0, hz1, hz2⟩ := info_parts infoU8
  go_enter Tryz.func33, Tryz.ntmps33
  go_wp2_with (at_builtin; refine wpList_app _ rfl (.tmp 3) (.tmp 7) 26 rfl w.heap.size 5 i0 _ 1 1 Tryz.underlying26 hi0 hz0 hz1 hz2 rfl (by omega) (.slice (some ⟨w.heap.size, 0, none⟩) 0 0) 0 [] rfl (World.ownsRow_lit w #[] 0 (Nat.le_refl _) (by decide) rfl) w.heap.size A s.body.length cp (byts s.body) rfl (HR.out.alloc (Nat.le_refl _) _) (by intro u hu; simp only [byts, List.mem_map] at hu; obtain ⟨b, _, rfl⟩ := hu; rfl) (by unfold maxLen; omega) (by omega) (by simp) ?_; intro A2 cp2 w2 hown2 hg2 hat2)
  go_ret
  rw [List.nil_append] at hown2
  simp only [Nat.zero_add] at hown2
  refine ⟨A2, _, cp2, by rfl, by omega, by simpa using Rd.own hown2, ?_⟩
  exact ((Upd.refl (fun _ => False) w).alloc _).grown hg2 fun b hb hl => by
    simp only [Value.ownBlock, Option.some.injEq] at hb
    omega
end Go.Proofs.YtbiapeplkegjlaaGreatDoor
