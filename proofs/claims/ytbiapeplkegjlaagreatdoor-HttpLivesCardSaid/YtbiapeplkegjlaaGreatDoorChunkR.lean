/- The document's reader of chunks: what one byte does. -/
import Derived.Deep.DeepCutAuto
import Derived.Deep.RegionWith
import Derived.Test.YtbiapeplkegjlaaGreatDoorChunkF
namespace Go.Proofs.YtbiapeplkegjlaaGreatDoor
open Go.RowKit Go.Cx Go.Maps

theorem ref_digit (c : Nat) (w : World) (h : c < 256) :
    Calls Tryz.prog 65 #[.int .u8 c] w fun e w' => e = .returned (.int .i64 (hexv c)) ∧ w = w' := by
  by_cases h1 : 48 ≤ c ∧ c ≤ 57
  · have hv : hexv c = (c : Int) - 48 := by unfold hexv; rw [if_pos h1]
    have HV := Lib.hid hv
    clear hv
    go_enter Tryz.func65, Tryz.ntmps65
    go_wp2
    go_ret
    exact ⟨by rw [HV.out]; rfl, rfl⟩
  by_cases h2 : 97 ≤ c ∧ c ≤ 102
  · have hv : hexv c = (c : Int) - 97 + 10 := by unfold hexv; rw [if_neg h1, if_pos h2]; omega
    have HV := Lib.hid hv
    clear hv
    go_enter Tryz.func65, Tryz.ntmps65
    go_wp2
    go_ret
    exact ⟨by rw [HV.out]; rfl, rfl⟩
  by_cases h3 : 65 ≤ c ∧ c ≤ 70
  · have hv : hexv c = (c : Int) - 65 + 10 := by unfold hexv; rw [if_neg h1, if_neg h2, if_pos h3]; omega
    have HV := Lib.hid hv
    clear hv
    go_enter Tryz.func65, Tryz.ntmps65
    go_wp2
    go_ret
    exact ⟨by rw [HV.out]; rfl, rfl⟩
  · have hv : hexv c = -1 := by unfold hexv; rw [if_neg h1, if_neg h2, if_neg h3]
    have HV := Lib.hid hv
    clear hv
    go_enter Tryz.func65, Tryz.ntmps65
    go_wp2
    all_goals (first | (exfalso; omega) | (go_ret; exact ⟨by rw [HV.out]; rfl, rfl⟩))

/-- the document's reader in memory -/
def RR (w : World) (rb : Nat) (v : Value) (s : CS) : Prop :=
  Blk w rb 94 #[.int .i64 s.most, .int .i64 ((min s.st 6 : Nat) : Int), .int .i64 s.digits, .int .i64 s.left, v, .bool (s.st == 7), .int .i64 s.e] ∧
  w.ownsRow 0 5 1 v s.body.length (byts s.body)
theorem RR.ne {w : World} {rb : Nat} {v : Value} {s : CS} (h : RR w rb v s) : v.ownBlock ≠ some rb := own_ne_blk' h.2 h.1 (by decide)
theorem RR.lt {w : World} {rb : Nat} {v : Value} {s : CS} (h : RR w rb v s) : ∀ b, Foot rb v b → b < w.heap.size := by
  rintro b (rfl | hb)
  · exact h.1.lt
  · exact (h.2.lt b hb).2
theorem RR.upd {w w' : World} {rb : Nat} {v : Value} {s : CS} {S : Nat → Prop} (h : RR w rb v s) (k : Upd S w w') (hn : ∀ b, Foot rb v b → ¬ S b) : RR w' rb v s :=
  ⟨h.1.upd k (hn rb (.inl rfl)), own_upd' h.2 k fun b hb => hn b (.inr hb)⟩
theorem RR.write {w w' : World} {rb : Nat} {v : Value} {s s' : CS} (h : RR w rb v s) (hu : Upd (One rb) w w') (hb : Blk w' rb 94 #[.int .i64 s'.most, .int .i64 ((min s'.st 6 : Nat) : Int), .int .i64 s'.digits, .int .i64 s'.left, v, .bool (s'.st == 7), .int .i64 s'.e]) (hbo : s'.body = s.body) : RR w' rb v s' := by
  refine ⟨hb, ?_⟩
  rw [hbo]
  exact own_upd' h.2 hu fun b ho e => by unfold Cx.One at e; subst e; exact h.ne ho
/-- what step leaves -/
def AfterStep (rb : Nat) (v : Value) (s : CS) (c : Nat) (w : World) (e : Ending) (w' : World) : Prop :=
  e = .returned (.int .i64 (cbyte s c).1) ∧ (∃ v', RR w' rb v' (cbyte s c).2 ∧ (v'.ownBlock = v.ownBlock ∨ ∃ g, v'.ownBlock = some g ∧ w.heap.size ≤ g)) ∧ Upd (Foot rb v) w w'

theorem ref_sized (rb : Nat) (v : Value) (s : CS) (w : World) (hs : RR w rb v s) (hi : CInv s) (h0 : s.st = 0) :
    Calls Tryz.prog 66 #[.pointer (some ⟨rb, 0, none⟩)] w fun e w' => e = .returned (.int .i64 (cbyte s 13).1) ∧ RR w' rb v (cbyte s 13).2 ∧ Upd (One rb) w w' := by
  have hc := hs.1.cell
  have f1 := hs.1.free 1
  have c0 := hc 0
  have c1 := hc 1
  have c2 := hc 2
  have c3 := hc 3
  have c4 := hc 4
  simp only [List.getElem?_toArray, List.getElem?_cons_zero, List.getElem?_cons_succ] at c0 c1 c2 c3 c4
  obtain ⟨A, cp, rfl⟩ := own_form hs.2
  obtain ⟨most, digits, st, left, body, e⟩ := s
  simp only at *
  subst h0
  have hx : ¬ (0 ≤ hexv 13 ∧ digits < 6) := fun h => absurd h.1 (by decide)
  have HS := Lib.hid hs
  have hl := hi.left
  have hd := hi.digits
  have hm := hi.most
  have hbl := hi.body
  simp only at hl hd hm hbl
  clear hc hs hi
  by_cases hd0 : digits = 0
  · have hfin : cbyte ⟨most, digits, 0, left, body, e⟩ 13 = (120, ⟨most, digits, 0, left, body, e⟩) := by
      unfold cbyte
      simp only
      rw [if_neg hx, if_pos (.inr hd0)]
    have HF := Lib.hid hfin
    have b0 : ((digits : Int) == 0) = true := by simp; omega
    clear hfin hx hd0
    go_enter Tryz.func66, Tryz.ntmps66
    go_wp2
    go_ret
    rw [HF.out]
    exact ⟨rfl, HS.out, Upd.refl _ _⟩
  · have b0 : ((digits : Int) == 0) = false := by simp; omega
    by_cases hful : left + body.length > most
    · have hfin : cbyte ⟨most, digits, 0, left, body, e⟩ 13 = (4, ⟨most, digits, 0, left, body, e⟩) := by
        unfold cbyte
        simp only
        rw [if_neg hx, if_neg (by omega), if_pos hful]
      have HF := Lib.hid hfin
      have hg : (most : Int) - (body.length : Int) < (left : Int) := by omega
      clear hfin hx
      go_enter Tryz.func66, Tryz.ntmps66
      go_wp2
      go_quiet (fail)
      go_wp2
      go_ret
      rw [HF.out]
      exact ⟨rfl, HS.out, (Upd.refl _ _).drewN _⟩
    · have hfin : cbyte ⟨most, digits, 0, left, body, e⟩ 13 = (0, ⟨most, digits, 1, left, body, e⟩) := by
        unfold cbyte
        simp only
        rw [if_neg hx, if_neg (by omega), if_neg hful]
      have HF := Lib.hid hfin
      have hg : ¬ (most : Int) - (body.length : Int) < (left : Int) := by omega
      clear hfin hx
      go_enter Tryz.func66, Tryz.ntmps66
      go_wp2
      go_quiet (fail)
      go_wp2
      go_ret
      rw [HF.out]
      have hu : Upd (One rb) w ((w.setCell ⟨rb, 1, none⟩ (.int .i64 1)).drewN nq) := ((Upd.refl (One rb) _).set rfl _).drewN _
      exact ⟨rfl, HS.out.write hu ((HS.out.1.set 1 _).drewN _) rfl, hu⟩

theorem ref_fed (rb : Nat) (v : Value) (s : CS) (w : World) (hs : RR w rb v s) (h1 : s.st = 1) :
    Calls Tryz.prog 67 #[.pointer (some ⟨rb, 0, none⟩)] w fun e w' => e = .returned (.tuple #[]) ∧ RR w' rb v (cbyte s 10).2 ∧ Upd (One rb) w w' := by
  have f1 := hs.1.free 1
  have c1 := hs.1.cell 1
  have c3 := hs.1.cell 3
  simp only [List.getElem?_toArray, List.getElem?_cons_zero, List.getElem?_cons_succ] at c1 c3
  obtain ⟨most, digits, st, left, body, e⟩ := s
  simp only at *
  subst h1
  have HS := Lib.hid hs
  clear hs
  by_cases hl : left = 0
  · subst hl
    have hfin : cbyte ⟨most, digits, 1, 0, body, e⟩ 10 = (0, ⟨most, digits, 5, 0, body, e⟩) := rfl
    have HF := Lib.hid hfin
    clear hfin
    go_enter Tryz.func67, Tryz.ntmps67
    go_wp2
    go_end0
    rw [HF.out]
    have hu : Upd (One rb) w _ := ((Upd.refl (One rb) w).set (i := 1) rfl (.int .i64 2)).set (i := 1) rfl (.int .i64 5)
    exact ⟨rfl, HS.out.write hu ((HS.out.1.set 1 _).set 1 _) rfl, hu⟩
  · have b0 : ((left : Int) == 0) = false := by simp; omega
    have hfin : cbyte ⟨most, digits, 1, left, body, e⟩ 10 = (0, ⟨most, digits, 2, left, body, e⟩) := by
      unfold cbyte
      simp only
      rw [if_pos trivial, if_neg hl]
    have HF := Lib.hid hfin
    clear hfin
    go_enter Tryz.func67, Tryz.ntmps67
    go_wp2
    go_end0
    rw [HF.out]
    have hu : Upd (One rb) w _ := ((Upd.refl (One rb) w).set (i := 1) rfl (.int .i64 2))
    exact ⟨rfl, HS.out.write hu (HS.out.1.set 1 _) rfl, hu⟩

set_option maxRecDepth 100000 in
set_option maxHeartbeats 3200000 in
theorem ref_step3 (c : Nat) (rb : Nat) (v : Value) (s : CS) (w : World) (h : c < 256) (hs : RR w rb v s) (hi : CInv s) (hst : s.st = 3) :
    Calls Tryz.prog 45 #[.pointer (some ⟨rb, 0, none⟩), .int .u8 c] w (AfterStep rb v s c w) := by
  have hc := hs.1.cell
  have c0 := hc 0
  have c1 := hc 1
  have c2 := hc 2
  have c3 := hc 3
  have c4 := hc 4
  have c5 := hc 5
  have f1 := hs.1.free 1
  have f2 := hs.1.free 2
  have f3 := hs.1.free 3
  have f4 := hs.1.free 4
  have f5 := hs.1.free 5
  simp only [List.getElem?_toArray, List.getElem?_cons_zero, List.getElem?_cons_succ] at c0 c1 c2 c3 c4 c5
  have HS := Lib.hid hs
  have HI := Lib.hid hi
  obtain ⟨most, digits, st, left, body, e⟩ := s
  simp only at *
  subst hst
  simp only [show min 3 6 = 3 from rfl] at c1
  clear hc hs hi
  by_cases hcw : c = 13
  · subst hcw
    have hfin : cbyte ⟨most, digits, 3, left, body, e⟩ 13 = (0, ⟨most, digits, 4, left, body, e⟩) := rfl
    have HF := Lib.hid hfin
    clear hfin
    go_enter Tryz.func45, Tryz.ntmps45
    go_wp2
    go_ret
    have hu : Upd (One rb) w _ := ((Upd.refl (One rb) w).set (i := 1) rfl (.int .i64 4))
    exact ⟨by rw [HF.out]; rfl, ⟨v, by rw [HF.out]; exact HS.out.write hu (HS.out.1.set 1 _) rfl, .inl rfl⟩, hu.mono fun b _ hb => .inl hb⟩
  · have hcb : ((c : Int) == 13) = false := by simp; omega
    have hfin : cbyte ⟨most, digits, 3, left, body, e⟩ c = (120, ⟨most, digits, 3, left, body, e⟩) := by unfold cbyte; simp only; rw [if_neg hcw]
    have HF := Lib.hid hfin
    clear hfin hcw
    go_enter Tryz.func45, Tryz.ntmps45
    go_wp2
    go_ret
    exact ⟨by rw [HF.out]; rfl, ⟨v, by rw [HF.out]; exact HS.out, .inl rfl⟩, Upd.refl _ _⟩

set_option maxRecDepth 100000 in
set_option maxHeartbeats 3200000 in
theorem ref_step4 (c : Nat) (rb : Nat) (v : Value) (s : CS) (w : World) (h : c < 256) (hs : RR w rb v s) (hi : CInv s) (hst : s.st = 4) :
    Calls Tryz.prog 45 #[.pointer (some ⟨rb, 0, none⟩), .int .u8 c] w (AfterStep rb v s c w) := by
  have hc := hs.1.cell
  have c0 := hc 0
  have c1 := hc 1
  have c2 := hc 2
  have c3 := hc 3
  have c4 := hc 4
  have c5 := hc 5
  have f1 := hs.1.free 1
  have f2 := hs.1.free 2
  have f3 := hs.1.free 3
  have f4 := hs.1.free 4
  have f5 := hs.1.free 5
  simp only [List.getElem?_toArray, List.getElem?_cons_zero, List.getElem?_cons_succ] at c0 c1 c2 c3 c4 c5
  have HS := Lib.hid hs
  have HI := Lib.hid hi
  obtain ⟨most, digits, st, left, body, e⟩ := s
  simp only at *
  subst hst
  simp only [show min 4 6 = 4 from rfl] at c1
  clear hc hs hi
  by_cases hcw : c = 10
  · subst hcw
    have hfin : cbyte ⟨most, digits, 4, left, body, e⟩ 10 = (0, ⟨most, 0, 0, left, body, e⟩) := rfl
    have HF := Lib.hid hfin
    clear hfin
    go_enter Tryz.func45, Tryz.ntmps45
    go_wp2
    go_ret
    have hu : Upd (One rb) w _ := (((Upd.refl (One rb) w).set (i := 1) rfl (.int .i64 0)).set (i := 2) rfl (.int .i64 0))
    exact ⟨by rw [HF.out]; rfl, ⟨v, by rw [HF.out]; exact HS.out.write hu ((HS.out.1.set 1 _).set 2 _) rfl, .inl rfl⟩, hu.mono fun b _ hb => .inl hb⟩
  · have hcb : ((c : Int) == 10) = false := by simp; omega
    have hfin : cbyte ⟨most, digits, 4, left, body, e⟩ c = (120, ⟨most, digits, 4, left, body, e⟩) := by unfold cbyte; simp only; rw [if_neg hcw]
    have HF := Lib.hid hfin
    clear hfin hcw
    go_enter Tryz.func45, Tryz.ntmps45
    go_wp2
    go_ret
    exact ⟨by rw [HF.out]; rfl, ⟨v, by rw [HF.out]; exact HS.out, .inl rfl⟩, Upd.refl _ _⟩

set_option maxRecDepth 100000 in
set_option maxHeartbeats 3200000 in
theorem ref_step5 (c : Nat) (rb : Nat) (v : Value) (s : CS) (w : World) (h : c < 256) (hs : RR w rb v s) (hi : CInv s) (hst : s.st = 5) :
    Calls Tryz.prog 45 #[.pointer (some ⟨rb, 0, none⟩), .int .u8 c] w (AfterStep rb v s c w) := by
  have hc := hs.1.cell
  have c0 := hc 0
  have c1 := hc 1
  have c2 := hc 2
  have c3 := hc 3
  have c4 := hc 4
  have c5 := hc 5
  have f1 := hs.1.free 1
  have f2 := hs.1.free 2
  have f3 := hs.1.free 3
  have f4 := hs.1.free 4
  have f5 := hs.1.free 5
  simp only [List.getElem?_toArray, List.getElem?_cons_zero, List.getElem?_cons_succ] at c0 c1 c2 c3 c4 c5
  have HS := Lib.hid hs
  have HI := Lib.hid hi
  obtain ⟨most, digits, st, left, body, e⟩ := s
  simp only at *
  subst hst
  simp only [show min 5 6 = 5 from rfl] at c1
  clear hc hs hi
  by_cases hcw : c = 13
  · subst hcw
    have hfin : cbyte ⟨most, digits, 5, left, body, e⟩ 13 = (0, ⟨most, digits, 6, left, body, e⟩) := rfl
    have HF := Lib.hid hfin
    clear hfin
    go_enter Tryz.func45, Tryz.ntmps45
    go_wp2
    go_ret
    have hu : Upd (One rb) w _ := ((Upd.refl (One rb) w).set (i := 1) rfl (.int .i64 6))
    exact ⟨by rw [HF.out]; rfl, ⟨v, by rw [HF.out]; exact HS.out.write hu (HS.out.1.set 1 _) rfl, .inl rfl⟩, hu.mono fun b _ hb => .inl hb⟩
  · have hcb : ((c : Int) == 13) = false := by simp; omega
    have hfin : cbyte ⟨most, digits, 5, left, body, e⟩ c = (120, ⟨most, digits, 5, left, body, e⟩) := by unfold cbyte; simp only; rw [if_neg hcw]
    have HF := Lib.hid hfin
    clear hfin hcw
    go_enter Tryz.func45, Tryz.ntmps45
    go_wp2
    go_ret
    exact ⟨by rw [HF.out]; rfl, ⟨v, by rw [HF.out]; exact HS.out, .inl rfl⟩, Upd.refl _ _⟩

set_option maxRecDepth 100000 in
set_option maxHeartbeats 3200000 in
theorem ref_step6 (c : Nat) (rb : Nat) (v : Value) (s : CS) (w : World) (h : c < 256) (hs : RR w rb v s) (hi : CInv s) (hst : s.st = 6) :
    Calls Tryz.prog 45 #[.pointer (some ⟨rb, 0, none⟩), .int .u8 c] w (AfterStep rb v s c w) := by
  have hc := hs.1.cell
  have c0 := hc 0
  have c1 := hc 1
  have c2 := hc 2
  have c3 := hc 3
  have c4 := hc 4
  have c5 := hc 5
  have f1 := hs.1.free 1
  have f2 := hs.1.free 2
  have f3 := hs.1.free 3
  have f4 := hs.1.free 4
  have f5 := hs.1.free 5
  simp only [List.getElem?_toArray, List.getElem?_cons_zero, List.getElem?_cons_succ] at c0 c1 c2 c3 c4 c5
  have HS := Lib.hid hs
  have HI := Lib.hid hi
  obtain ⟨most, digits, st, left, body, e⟩ := s
  simp only at *
  subst hst
  simp only [show min 6 6 = 6 from rfl] at c1
  clear hc hs hi
  by_cases hcw : c = 10
  · subst hcw
    have hfin : cbyte ⟨most, digits, 6, left, body, e⟩ 10 = (0, ⟨most, digits, 7, left, body, e⟩) := rfl
    have HF := Lib.hid hfin
    clear hfin
    go_enter Tryz.func45, Tryz.ntmps45
    go_wp2
    go_ret
    have hu : Upd (One rb) w _ := ((Upd.refl (One rb) w).set (i := 5) rfl (.bool true))
    exact ⟨by rw [HF.out]; rfl, ⟨v, by rw [HF.out]; exact HS.out.write hu (HS.out.1.set 5 _) rfl, .inl rfl⟩, hu.mono fun b _ hb => .inl hb⟩
  · have hcb : ((c : Int) == 10) = false := by simp; omega
    have hfin : cbyte ⟨most, digits, 6, left, body, e⟩ c = (120, ⟨most, digits, 6, left, body, e⟩) := by unfold cbyte; simp only; rw [if_neg hcw]
    have HF := Lib.hid hfin
    clear hfin hcw
    go_enter Tryz.func45, Tryz.ntmps45
    go_wp2
    go_ret
    exact ⟨by rw [HF.out]; rfl, ⟨v, by rw [HF.out]; exact HS.out, .inl rfl⟩, Upd.refl _ _⟩

set_option maxRecDepth 100000 in
set_option maxHeartbeats 3200000 in
theorem ref_step1 (c : Nat) (rb : Nat) (v : Value) (s : CS) (w : World) (h : c < 256) (hs : RR w rb v s) (hi : CInv s) (hst : s.st = 1) :
    Calls Tryz.prog 45 #[.pointer (some ⟨rb, 0, none⟩), .int .u8 c] w (AfterStep rb v s c w) := by
  have hc := hs.1.cell
  have c0 := hc 0
  have c1 := hc 1
  have c2 := hc 2
  have c3 := hc 3
  have c4 := hc 4
  have c5 := hc 5
  have f1 := hs.1.free 1
  have f2 := hs.1.free 2
  have f3 := hs.1.free 3
  have f4 := hs.1.free 4
  have f5 := hs.1.free 5
  simp only [List.getElem?_toArray, List.getElem?_cons_zero, List.getElem?_cons_succ] at c0 c1 c2 c3 c4 c5
  have HS := Lib.hid hs
  have HI := Lib.hid hi
  obtain ⟨most, digits, st, left, body, e⟩ := s
  simp only at *
  subst hst
  simp only [show min 1 6 = 1 from rfl] at c1
  clear hc hs hi
  by_cases hcw : c = 10
  · subst hcw
    have h1 : (cbyte ⟨most, digits, 1, left, body, e⟩ 10).1 = 0 := rfl
    have HF := Lib.hid h1
    clear h1
    go_enter Tryz.func45, Tryz.ntmps45
    go_wp2_with fail
    refine (ref_fed rb v _ w HS.out rfl).mono ?_
    rintro e' w' ⟨rfl, hr, hu⟩
    have HR := Lib.hid hr
    have HU := Lib.hid hu
    clear hr hu
    go_wp2
    go_ret
    exact ⟨by rw [HF.out]; rfl, ⟨v, HR.out, .inl rfl⟩, HU.out.mono fun b _ hb => .inl hb⟩
  · have hcb : ((c : Int) == 10) = false := by simp; omega
    have hfin : cbyte ⟨most, digits, 1, left, body, e⟩ c = (120, ⟨most, digits, 1, left, body, e⟩) := by unfold cbyte; simp only; rw [if_neg hcw]
    have HF := Lib.hid hfin
    clear hfin hcw
    go_enter Tryz.func45, Tryz.ntmps45
    go_wp2
    go_ret
    exact ⟨by rw [HF.out]; rfl, ⟨v, by rw [HF.out]; exact HS.out, .inl rfl⟩, Upd.refl _ _⟩

set_option maxRecDepth 100000 in
set_option maxHeartbeats 3200000 in
theorem ref_step2 (c : Nat) (rb : Nat) (v : Value) (s : CS) (w : World) (_h : c < 256) (hs : RR w rb v s) (hi : CInv s) (hst : s.st = 2) :
    Calls Tryz.prog 45 #[.pointer (some ⟨rb, 0, none⟩), .int .u8 c] w (AfterStep rb v s c w) := by
  have hc := hs.1.cell
  have c0 := hc 0
  have c1 := hc 1
  have c2 := hc 2
  have c3 := hc 3
  have c4 := hc 4
  have c5 := hc 5
  have f1 := hs.1.free 1
  have f2 := hs.1.free 2
  have f3 := hs.1.free 3
  have f4 := hs.1.free 4
  have f5 := hs.1.free 5
  simp only [List.getElem?_toArray, List.getElem?_cons_zero, List.getElem?_cons_succ] at c0 c1 c2 c3 c4 c5
  have HS := Lib.hid hs
  have HI := Lib.hid hi
  obtain ⟨most, digits, st, left, body, e⟩ := s
  simp only at *
  subst hst
  simp only [show min 2 6 = 2 from rfl] at c1
  clear hc hs hi
  have hb2 := HI.out.body
  have hmm := HI.out.most
  have hl1 := HI.out.left2 rfl
  have hlt' := HI.out.left
  simp only at hb2 hmm hl1 hlt'
  obtain ⟨A, cp, rfl⟩ := own_form HS.out.2
  obtain ⟨i0, hi0, hz0, hz1, hz2⟩ := info_parts infoU8
  by_cases hl : left = 1
  · subst hl
    have hfin : cbyte ⟨most, digits, 2, 1, body, e⟩ c = (0, ⟨most, digits, 3, 0, body ++ [c], e⟩) := rfl
    have HF := Lib.hid hfin
    clear hfin
    go_enter Tryz.func45, Tryz.ntmps45
    go_wp2_with (at_builtin; refine wpList_app _ rfl (.tmp 75) (.tmp 77) 26 rfl 0 5 i0 _ 1 1 Tryz.underlying26 hi0 hz0 hz1 hz2 rfl (by omega) (.slice A body.length cp) body.length (byts body) rfl (HS.out.2.alloc _) (w.heap.size + 1) (some ⟨w.heap.size, 0, none⟩) 1 1 [.int .u8 c] rfl (Rd.lit1 w (.int .u8 c) _) (oneInt _ _) (by unfold maxLen; omega) (by omega) (by omega) ?_; intro A2 cp2 w2 hown2 hg2 hat2; have hb2 := (HS.out.1.alloc _).grown hg2 HS.out.ne.symm; have d1 := hb2.cell 1; have d3 := hb2.cell 3; have d4 := hb2.cell 4; have g1 := hb2.free 1; have g3 := hb2.free 3; have g4 := hb2.free 4; simp only [List.getElem?_toArray, List.getElem?_cons_zero, List.getElem?_cons_succ] at d1 d3 d4; have HB2 := Lib.hid hb2; clear hb2)
    go_ret
    have hrow : ∀ b, (Value.slice A body.length cp).ownBlock = some b → Foot rb (.slice A body.length cp) b := fun b hb => .inr hb
    have hu2 : Upd (Foot rb (.slice A body.length cp)) w w2 := ((Upd.refl (Foot rb (.slice A body.length cp)) w).alloc _).grown hg2 (fun b hb _ => hrow b hb)
    have hu3 : Upd (One rb) w2 _ := ((((Upd.refl (One rb) w2).set (i := 4) rfl (.slice A2 (body.length + 1) cp2)).set (i := 3) rfl (.int .i64 (0))).set (i := 1) rfl (.int .i64 3))
    refine ⟨by rw [HF.out]; rfl, ⟨.slice A2 (body.length + 1) cp2, ?_, ?_⟩, hu2.trans hu3 fun b _ hb => .inl hb⟩
    · rw [HF.out]
      refine ⟨(((HB2.out.set 4 _).set 3 _).set 1 _), ?_⟩
      have hne : (Value.slice A2 (body.length + 1) cp2).ownBlock ≠ some rb := own_ne_blk' hown2 HB2.out (by decide)
      have e1 : byts (body ++ [c]) = byts body ++ [.int .u8 c] := by simp [byts]
      have e2 : (body ++ [c]).length = body.length + 1 := by simp
      simp only
      rw [e1, e2]
      exact own_upd' hown2 hu3 fun b hb e => by unfold Cx.One at e; subst e; exact hne hb
    · rcases hat2 with hh | hh
      · exact .inl hh
      · exact .inr ⟨_, hh, by simp⟩
  · have hlz : ((left : Int) - 1 == 0) = false := by simp; omega
    have hfin : cbyte ⟨most, digits, 2, left, body, e⟩ c = (0, ⟨most, digits, 2, left - 1, body ++ [c], e⟩) := by
      unfold cbyte
      simp only
      rw [if_neg (by omega)]
    have hcast : ((left - 1 : Nat) : Int) = (left : Int) - 1 := by omega
    have HF := Lib.hid hfin
    clear hfin
    go_enter Tryz.func45, Tryz.ntmps45
    go_wp2_with (at_builtin; refine wpList_app _ rfl (.tmp 75) (.tmp 77) 26 rfl 0 5 i0 _ 1 1 Tryz.underlying26 hi0 hz0 hz1 hz2 rfl (by omega) (.slice A body.length cp) body.length (byts body) rfl (HS.out.2.alloc _) (w.heap.size + 1) (some ⟨w.heap.size, 0, none⟩) 1 1 [.int .u8 c] rfl (Rd.lit1 w (.int .u8 c) _) (oneInt _ _) (by unfold maxLen; omega) (by omega) (by omega) ?_; intro A2 cp2 w2 hown2 hg2 hat2; have hb2 := (HS.out.1.alloc _).grown hg2 HS.out.ne.symm; have d1 := hb2.cell 1; have d3 := hb2.cell 3; have d4 := hb2.cell 4; have g1 := hb2.free 1; have g3 := hb2.free 3; have g4 := hb2.free 4; simp only [List.getElem?_toArray, List.getElem?_cons_zero, List.getElem?_cons_succ] at d1 d3 d4; have HB2 := Lib.hid hb2; clear hb2)
    go_ret
    rw [← hcast]
    have hrow : ∀ b, (Value.slice A body.length cp).ownBlock = some b → Foot rb (.slice A body.length cp) b := fun b hb => .inr hb
    have hu2 : Upd (Foot rb (.slice A body.length cp)) w w2 := ((Upd.refl (Foot rb (.slice A body.length cp)) w).alloc _).grown hg2 (fun b hb _ => hrow b hb)
    have hu3 : Upd (One rb) w2 _ := (((Upd.refl (One rb) w2).set (i := 4) rfl (.slice A2 (body.length + 1) cp2)).set (i := 3) rfl (.int .i64 ((left - 1 : Nat) : Int)))
    refine ⟨by rw [HF.out]; rfl, ⟨.slice A2 (body.length + 1) cp2, ?_, ?_⟩, hu2.trans hu3 fun b _ hb => .inl hb⟩
    · rw [HF.out]
      refine ⟨((HB2.out.set 4 _).set 3 _), ?_⟩
      have hne : (Value.slice A2 (body.length + 1) cp2).ownBlock ≠ some rb := own_ne_blk' hown2 HB2.out (by decide)
      have e1 : byts (body ++ [c]) = byts body ++ [.int .u8 c] := by simp [byts]
      have e2 : (body ++ [c]).length = body.length + 1 := by simp
      simp only
      rw [e1, e2]
      exact own_upd' hown2 hu3 fun b hb e => by unfold Cx.One at e; subst e; exact hne hb
    · rcases hat2 with hh | hh
      · exact .inl hh
      · exact .inr ⟨_, hh, by simp⟩
set_option maxRecDepth 100000 in
set_option maxHeartbeats 3200000 in
theorem ref_step0 (c : Nat) (rb : Nat) (v : Value) (s : CS) (w : World) (h : c < 256) (hs : RR w rb v s) (hi : CInv s) (hst : s.st = 0) :
    Calls Tryz.prog 45 #[.pointer (some ⟨rb, 0, none⟩), .int .u8 c] w (AfterStep rb v s c w) := by
  have hc := hs.1.cell
  have c0 := hc 0
  have c1 := hc 1
  have c2 := hc 2
  have c3 := hc 3
  have c4 := hc 4
  have c5 := hc 5
  have f1 := hs.1.free 1
  have f2 := hs.1.free 2
  have f3 := hs.1.free 3
  have f4 := hs.1.free 4
  have f5 := hs.1.free 5
  simp only [List.getElem?_toArray, List.getElem?_cons_zero, List.getElem?_cons_succ] at c0 c1 c2 c3 c4 c5
  have HS := Lib.hid hs
  have HI := Lib.hid hi
  obtain ⟨most, digits, st, left, body, e⟩ := s
  simp only at *
  subst hst
  simp only [show min 0 6 = 0 from rfl] at c1
  clear hc hs hi
  have hv := hexv_bound c
  by_cases hx : 0 ≤ hexv c ∧ digits < 6
  · obtain ⟨hx, h6⟩ := hx
    obtain ⟨d, hdd⟩ : ∃ d : Nat, hexv c = d := ⟨(hexv c).toNat, by omega⟩
    have hd16 : d < 16 := by omega
    have hfin : cbyte ⟨most, digits, 0, left, body, e⟩ c = (0, ⟨most, digits + 1, 0, left * 16 + d, body, e⟩) := by
      unfold cbyte
      simp only
      rw [if_pos ⟨hx, h6⟩, hdd]
      rfl
    have hlt := HI.out.left
    simp only at hlt
    have HF := Lib.hid hfin
    have HD := Lib.hid hdd
    clear hfin hdd hx hv
    go_enter Tryz.func45, Tryz.ntmps45
    go_wp2_with (go_at_call 65; refine (ref_digit c _ h).mono ?_; rw [HD.out]; rintro e w' ⟨rfl, rfl⟩)
    have hw : IntKind.i64.wrap (IntKind.i64.wrap (16 * (left : Int)) + (d : Int)) = ((left * 16 + d : Nat) : Int) := by
      simp only [IntKind.wrap_i64]
      omega
    have HW := Lib.hid hw
    clear hw
    go_region_with (go_at_call 65; refine (ref_digit c _ h).mono ?_; rw [HD.out]; rintro e w' ⟨rfl, rfl⟩)
    all_goals (
      rw [HW.out]
      go_wp2
      go_ret
      have hu : Upd (One rb) w _ := (((Upd.refl (One rb) w).set (i := 3) rfl (.int .i64 ((left * 16 + d : Nat) : Int))).set (i := 2) rfl (.int .i64 ((digits + 1 : Nat) : Int))).drew
      exact ⟨by rw [HF.out]; rfl, ⟨v, by rw [HF.out]; exact HS.out.write hu (((HS.out.1.set 3 _).set 2 _).drew) rfl, .inl rfl⟩, hu.mono fun b _ hb => .inl hb⟩)
  · by_cases h13 : c = 13
    · subst h13
      have hdd : hexv 13 = -1 := by decide
      have HD := Lib.hid hdd
      clear hdd hx hv
      go_enter Tryz.func45, Tryz.ntmps45
      go_wp2_with (go_at_call 65; refine (ref_digit 13 _ h).mono ?_; rw [HD.out]; rintro e w' ⟨rfl, rfl⟩)
      refine (ref_sized rb v _ w HS.out HI.out rfl).mono ?_
      rintro e' w' ⟨rfl, hr, hu⟩
      have HR := Lib.hid hr
      have HU := Lib.hid hu
      clear hr hu
      go_wp2
      go_ret
      exact ⟨rfl, ⟨v, HR.out, .inl rfl⟩, HU.out.mono fun b _ hb => .inl hb⟩
    · have b13 : ((c : Int) == 13) = false := by simp; omega
      have hfin : cbyte ⟨most, digits, 0, left, body, e⟩ c = (120, ⟨most, digits, 0, left, body, e⟩) := by
        unfold cbyte
        simp only
        rw [if_neg hx, if_pos (.inl h13)]
      have HF := Lib.hid hfin
      obtain ⟨d, hdd⟩ : ∃ d : Int, hexv c = d := ⟨_, rfl⟩
      rw [hdd] at hx hv
      have HD := Lib.hid hdd
      clear hfin hdd
      have hx2 : d < 0 ∨ 6 ≤ digits := by omega
      clear hx
      by_cases hd0 : 0 ≤ d
      · have h6 : 6 ≤ digits := by omega
        clear hx2
        go_enter Tryz.func45, Tryz.ntmps45
        go_wp2_with (go_at_call 65; refine (ref_digit c _ h).mono ?_; rw [HD.out]; rintro e w' ⟨rfl, rfl⟩)
        go_ret
        exact ⟨by rw [HF.out]; rfl, ⟨v, by rw [HF.out]; exact HS.out, .inl rfl⟩, Upd.refl _ _⟩
      · clear hx2
        go_enter Tryz.func45, Tryz.ntmps45
        go_wp2_with (go_at_call 65; refine (ref_digit c _ h).mono ?_; rw [HD.out]; rintro e w' ⟨rfl, rfl⟩)
        go_ret
        exact ⟨by rw [HF.out]; rfl, ⟨v, by rw [HF.out]; exact HS.out, .inl rfl⟩, Upd.refl _ _⟩

theorem ref_step (c : Nat) (rb : Nat) (v : Value) (s : CS) (w : World) (h : c < 256) (hs : RR w rb v s) (hi : CInv s) (h7 : s.st ≠ 7) :
    Calls Tryz.prog 45 #[.pointer (some ⟨rb, 0, none⟩), .int .u8 c] w (AfterStep rb v s c w) := by
  have := hi.st
  rcases (by omega : s.st = 0 ∨ s.st = 1 ∨ s.st = 2 ∨ s.st = 3 ∨ s.st = 4 ∨ s.st = 5 ∨ s.st = 6) with h' | h' | h' | h' | h' | h' | h'
  · exact ref_step0 c rb v s w h hs hi h'
  · exact ref_step1 c rb v s w h hs hi h'
  · exact ref_step2 c rb v s w h hs hi h'
  · exact ref_step3 c rb v s w h hs hi h'
  · exact ref_step4 c rb v s w h hs hi h'
  · exact ref_step5 c rb v s w h hs hi h'
  · exact ref_step6 c rb v s w h hs hi h'
end Go.Proofs.YtbiapeplkegjlaaGreatDoor
