/- ciceroneref13: a reader in memory; a body takes bytes. -/
import Derived.Test.YtbiapeplkegjlaaGreatDoorR13F
import Derived.Test.YtbiapeplkegjlaaGreatDoorHttpFa
namespace Go.Proofs.YtbiapeplkegjlaaGreatDoor
open Go.RowKit Go.Cx Go.Maps

/-- a body that comes: its row, its reader of chunks, what it is -/
structure XBd where
  gv : Value
  p : Option Nat
  cv : Value
  d : Bd
def XBd.Foot (x : XBd) : Nat → Prop := fun b => (x.p = none ∧ x.gv.ownBlock = some b) ∨ ∃ r, x.p = some r ∧ Go.Proofs.YtbiapeplkegjlaaGreatDoor.Foot r x.cv b
structure XBdAt (w : World) (base : Nat) (x : XBd) : Prop where
  own : x.d.c = none → x.p = none ∧ w.ownsRow base 5 1 x.gv x.d.got.length (byts x.d.got) ∧ x.d.got.length + x.d.left ≤ 65535
  chk : ∀ s, x.d.c = some s → ∃ r, x.p = some r ∧ RR w r x.cv s ∧ CInv s ∧ (∀ b, Go.Proofs.YtbiapeplkegjlaaGreatDoor.Foot r x.cv b → base ≤ b) ∧ x.d.got.length ≤ 65535
  got : ∀ b ∈ x.d.got, b < 256
  left : x.d.left ≤ 65535
  form : ∃ A n c, x.gv = .slice A n c
def reqZ : Array Value := #[.string ⟨#[]⟩, .slice none 0 0, .bool false]
/-- the document's reader in memory -/
structure XRd (w : World) (base rb : Nat) (bv : Value) (l : List Nat) (body : Option XBd) : Prop where
  off : body = none → ∃ k lf g p, Blk w rb 29 #[bv, .bool false, .bool false, k, lf, g, p]
  on : ∀ x, body = some x → Blk w rb 29 #[bv, .bool false, .bool true, .bool x.d.keep, .int .i64 x.d.left, x.gv, .pointer (x.p.map fun r => ⟨r, 0, none⟩)]
  buf : Lies w base 5 bv l.length (byts l)
  bytes : ∀ b ∈ l, b < 256
  ge : base ≤ rb
  bd : ∀ x, body = some x → XBdAt w base x ∧ ∀ b, x.Foot b → bv.ownBlock ≠ some b
def XFoot (rb : Nat) (body : Option XBd) : Nat → Prop := fun b => b = rb ∨ ∃ x, body = some x ∧ x.Foot b
theorem XRd.blk {w : World} {base rb : Nat} {bv : Value} {l : List Nat} {body : Option XBd} (h : XRd w base rb bv l body) : ∃ a b c d e, Blk w rb 29 #[bv, .bool false, a, b, c, d, e] := by
  cases body with
  | none => obtain ⟨k, lf, g, p, hb⟩ := h.off rfl; exact ⟨_, _, _, _, _, hb⟩
  | some x => exact ⟨_, _, _, _, _, h.on x rfl⟩
theorem XBdAt.lt {w : World} {base : Nat} {x : XBd} (h : XBdAt w base x) : ∀ b, x.Foot b → b < w.heap.size ∧ base ≤ b := by
  rintro b (⟨hp, hb⟩ | ⟨r, hr, hb⟩)
  · cases hc : x.d.c with
    | none =>
      have ho := (h.own hc).2.1
      exact ⟨(own_in ho hb).1, ge_of_own ho b hb⟩
    | some s =>
      obtain ⟨r, hr, _⟩ := h.chk s hc
      rw [hp] at hr
      cases hr
  · cases hc : x.d.c with
    | none =>
      rw [(h.own hc).1] at hr
      cases hr
    | some s =>
      obtain ⟨r', hr', hcr, _, hbb, _⟩ := h.chk s hc
      rw [hr] at hr'
      injection hr' with hr'
      subst hr'
      exact ⟨hcr.lt b hb, hbb b hb⟩
theorem XBdAt.upd {w w' : World} {base : Nat} {x : XBd} {S : Nat → Prop} (h : XBdAt w base x) (k : Upd S w w') (hn : ∀ b, x.Foot b → ¬ S b) : XBdAt w' base x :=
  ⟨fun hc => ⟨(h.own hc).1, own_upd' (h.own hc).2.1 k fun b hb => hn b (.inl ⟨(h.own hc).1, hb⟩), (h.own hc).2.2⟩, fun s hs => by
    obtain ⟨r, hr, hcr, hi, hbb⟩ := h.chk s hs
    exact ⟨r, hr, hcr.upd k fun b hb => hn b (.inr ⟨r, hr, hb⟩), hi, hbb⟩, h.got, h.left, h.form⟩
theorem XBdAt.not_blk {w : World} {base g : Nat} {x : XBd} {t : TypeId} {cs : Array Value} (h : XBdAt w base x) (hg : Blk w g t cs) (h2 : 5 ≠ t) (h3 : 94 ≠ t) : ¬ x.Foot g := by
  rintro (⟨hp, hb⟩ | ⟨r, hr, hb⟩)
  · cases hc : x.d.c with
    | none => exact own_ne_blk' (h.own hc).2.1 hg h2 hb
    | some s =>
      obtain ⟨r, hr, _⟩ := h.chk s hc
      rw [hp] at hr
      cases hr
  · cases hc : x.d.c with
    | none => rw [(h.own hc).1] at hr; cases hr
    | some s =>
      obtain ⟨r', hr', hcr, _, _⟩ := h.chk s hc
      rw [hr] at hr'
      injection hr' with hr'
      subst hr'
      rcases hb with rfl | hb
      · exact Blk.ne hcr.1 hg h3 rfl
      · exact own_ne_blk' hcr.2 hg h2 hb
theorem XRd.lt {w : World} {base rb : Nat} {bv : Value} {l : List Nat} {body : Option XBd} (h : XRd w base rb bv l body) : (∀ b, XFoot rb body b → b < w.heap.size ∧ base ≤ b) ∧ ∀ b, bv.ownBlock = some b → b < w.heap.size ∧ base ≤ b := by
  obtain ⟨a1, a2, a3, a4, a5, hb⟩ := h.blk
  refine ⟨?_, fun b hb => h.buf.lt hb⟩
  rintro b (rfl | ⟨x, hx, hb⟩)
  · exact ⟨hb.lt, h.ge⟩
  · exact (h.bd x hx).1.lt b hb
theorem XRd.not_rb {w : World} {base rb : Nat} {bv : Value} {l : List Nat} {body : Option XBd} (h : XRd w base rb bv l body) : bv.ownBlock ≠ some rb ∧ ∀ x, body = some x → ¬ x.Foot rb := by
  obtain ⟨a1, a2, a3, a4, a5, hb⟩ := h.blk
  exact ⟨lies_ne h.buf hb (by decide), fun x hx => (h.bd x hx).1.not_blk hb (by decide) (by decide)⟩
theorem XRd.upd {w w' : World} {base rb : Nat} {bv : Value} {l : List Nat} {body : Option XBd} {S : Nat → Prop} (h : XRd w base rb bv l body) (k : Upd S w w') (hn : ∀ b, XFoot rb body b → ¬ S b) (hv : ∀ b, bv.ownBlock = some b → ¬ S b) : XRd w' base rb bv l body :=
  ⟨fun hb => by obtain ⟨a1, a2, a3, a4, h1⟩ := h.off hb; exact ⟨_, _, _, _, h1.upd k (hn rb (.inl rfl))⟩, fun x hx => (h.on x hx).upd k (hn rb (.inl rfl)), h.buf.upd k hv, h.bytes, h.ge, fun x hx => by
    obtain ⟨h1, h3⟩ := h.bd x hx
    exact ⟨h1.upd k fun b hb => hn b (.inr ⟨x, hx, hb⟩), h3⟩⟩
def MoreIs (base rb : Nat) (bv : Value) (l : List Nat) (x : XBd) (w : World) (e : Ending) (w' : World) : Prop :=
  Upd (XFoot rb (some x)) w w' ∧
   (((takeB x.d l).1.2.2 ≠ 0 ∧ e = .returned (.tuple #[.agg reqZ, .bool false, .int .i64 130]) ∧ ∃ a b c d f, Blk w' rb 29 #[bv, .bool false, a, b, c, d, f]) ∨
    ((takeB x.d l).1.2.2 = 0 ∧ (takeB x.d l).1.2.1 = false ∧ e = .returned (.tuple #[.agg reqZ, .bool false, .int .i64 0]) ∧ ∃ bv' x', x'.d = (takeB x.d l).2 ∧ XRd w' base rb bv' (l.drop (takeB x.d l).1.1) (some x') ∧ bv'.ownBlock = bv.ownBlock ∧ ∀ b, x'.Foot b → b < w.heap.size → x.Foot b) ∨
    ((takeB x.d l).1.2.2 = 0 ∧ (takeB x.d l).1.2.1 = true ∧ ∃ A7 c7 bv', e = .returned (.tuple #[.agg #[.string firstS, .slice A7 (takeB x.d l).2.got.length c7, .bool (takeB x.d l).2.keep], .bool true, .int .i64 0]) ∧
      w'.ownsRow w.heap.size 5 1 (.slice A7 (takeB x.d l).2.got.length c7) (takeB x.d l).2.got.length (byts (takeB x.d l).2.got) ∧ (takeB x.d l).2.got.length ≤ 65535 ∧ (∀ b ∈ (takeB x.d l).2.got, b < 256) ∧ XRd w' base rb bv' (l.drop (takeB x.d l).1.1) none ∧ bv'.ownBlock = bv.ownBlock))
/-- a body that is whole, ahead of the answer -/
structure WholeAt (base rb bx : Nat) (bv : Value) (l : List Nat) (x : XBd) (w wx : World) : Prop where
  ok : (takeB x.d l).1.2.2 = 0 ∧ (takeB x.d l).1.2.1 = true
  upd : Upd (XFoot rb (some x)) w wx
  box : Blk wx bx 51 reqZ
  at' : ∃ (bv' : Value) (lf : Int) (A5 : Option Addr) (c5 : Nat) (p' : Option Addr), Blk wx rb 29 #[bv', .bool false, .bool true, .bool (takeB x.d l).2.keep, .int .i64 lf, .slice A5 (takeB x.d l).2.got.length c5, .pointer p'] ∧
    Lies wx base 5 bv' (l.drop (takeB x.d l).1.1).length (byts (l.drop (takeB x.d l).1.1)) ∧ bv'.ownBlock = bv.ownBlock ∧ Rd wx wx.heap.size 1 A5 (takeB x.d l).2.got.length (byts (takeB x.d l).2.got)
  small : (takeB x.d l).2.got.length ≤ 65535
  bytes : ∀ b ∈ (takeB x.d l).2.got, b < 256
set_option maxRecDepth 100000 in
set_option maxHeartbeats 12800000 in
theorem ref_more13 (base rb : Nat) (bv : Value) (l : List Nat) (x : XBd) (w : World) (h : XRd w base rb bv l (some x)) (hn : l.length ≤ 140737488355328) (hB : base ≤ w.heap.size) :
    Calls Tryz.prog 17 #[.pointer (some ⟨rb, 0, none⟩)] w (MoreIs base rb bv l x w) := by
  obtain ⟨i1, hi1, hy0, hy1, hy2⟩ := info_parts infoU8
  obtain ⟨gv, p, cv, d⟩ := x
  obtain ⟨T, hT⟩ : ∃ T, takeB d l = T := ⟨_, rfl⟩
  obtain ⟨⟨m, whole, er⟩, d'⟩ := T
  have hml := takeB_le d l
  rw [hT] at hml
  simp only at hml
  obtain ⟨Ab, cb, rfl, hbc⟩ := h.buf.form
  obtain ⟨n, hnl⟩ : ∃ n, l.length = n := ⟨_, rfl⟩
  have HNL := Lib.hid hnl
  have HT := Lib.hid hT
  have H := Lib.hid h
  rw [hnl] at hn hbc hml
  clear h hT
  go_enter Tryz.func17, Tryz.ntmps17
  go_upto_region 1 with fail
  have hbox : Blk (w.alloc (.cells #[.string ⟨#[]⟩, .slice none 0 0, .bool false] 51)) w.heap.size 51 reqZ := Blk.new _ _ _
  have hua : Upd Nix w (w.alloc (.cells #[.string ⟨#[]⟩, .slice none 0 0, .bool false] 51)) := (Upd.refl _ _).alloc _
  have hsz : (w.alloc (.cells #[.string ⟨#[]⟩, .slice none 0 0, .bool false] 51)).heap.size = w.heap.size + 1 := by simp
  generalize w.alloc (.cells #[.string ⟨#[]⟩, .slice none 0 0, .bool false] 51) = wa at *
  obtain ⟨bx, hbx⟩ : ∃ bx, w.heap.size = bx := ⟨_, rfl⟩
  rw [hbx] at hbox hsz ⊢
  have HBX := Lib.hid hbx
  have HXA := Lib.hid (H.out.upd hua (fun _ _ h => h) (fun _ _ h => h))
  have hrbx : rb < bx := by
    obtain ⟨_, _, _, _, _, hb⟩ := H.out.blk
    rw [← hbx]; exact hb.lt
  have HBOX := Lib.hid hbox
  have HUA := Lib.hid hua
  have hblk := HXA.out.on _ rfl
  have hc : ∀ i, wa.cell? ⟨rb, i, none⟩ = _ := fun i => hblk.cell i
  have hf : ∀ i, wa.frozen? ⟨rb, i, none⟩ = _ := fun i => hblk.free i
  have hrl := hblk.lt
  simp only at hc
  clear hbox hua hblk hbx
  rw [hnl] at hc ⊢
  clear hnl
  go_upto_if 13 with fail
  go_cut [2] (fun s2 wx => s2 = .pointer (some ⟨bx, 0, none⟩) ∧ WholeAt base rb bx (.slice Ab n cb) l ⟨gv, p, cv, d⟩ w wx)
  case first =>
    cases hxc : d.c with
    | some s =>
      obtain ⟨r0, hr0, hrr, hci, hge, hgl⟩ := (HXA.out.bd _ rfl).1.chk s hxc
      have hr0 : p = some r0 := hr0
      subst hr0
      have htk : takeB d l = ((feed s l).1, { d with got := (feed s l).2.body, c := some (feed s l).2 }) := by unfold takeB; rw [hxc]
      have hfe : (feed s l).1 = (m, whole, er) ∧ d' = { d with got := (feed s l).2.body, c := some (feed s l).2 } := by
        rw [HT.out] at htk
        injection htk with h1 h2
        exact ⟨h1.symm, h2⟩
      have hfeed := fun (W : World) (hW : Upd Nix wa W) => cr_feed r0 cv s Ab n cb l W (hrr.upd hW fun _ _ h => h) hci (by
        have := (H.out.buf.upd (HUA.out.trans hW fun _ _ h => h) (fun _ _ h => h)).rd rfl
        rwa [HNL.out] at this) H.out.bytes (fun ad hA _ hf => (H.out.bd _ rfl).2 ad.block (.inr ⟨r0, rfl, hf⟩) (by rw [hA]; rfl)) (by omega)
      have HFEED := Lib.hid hfeed
      have HFE := Lib.hid hfe
      have HXC := Lib.hid hxc
      have HCI := Lib.hid (feed_inv hci H.out.bytes)
      have HRR := Lib.hid hrr
      have HGE := Lib.hid hge
      obtain ⟨fr, hfr⟩ : ∃ fr, feed s l = fr := ⟨_, rfl⟩
      rw [hfr] at HFEED HFE HCI
      obtain ⟨f1, f2⟩ := fr
      clear hxc htk hrr hci hge hfeed hfe hfr hgl
      go_upto_region 2 with fail
      go_cut [5, 6, 7] (fun s5 s6 s7 wx => s5 = .int .i64 m ∧ s6 = .bool whole ∧ s7 = .int .i64 er ∧ (∃ cv1, RR wx r0 cv1 f2 ∧ Moved wa cv cv1) ∧ Upd (Go.Proofs.YtbiapeplkegjlaaGreatDoor.Foot r0 cv) wa wx)
      case first =>
        go_wp2_with fail
        go_region_with ((go_at_call 32; (with_reducible refine (HFEED.out _ (Upd.refl _ _).drew).mono ?_); rintro e w3 ⟨rfl, hcv, hu3⟩))
        all_goals
          have hfin := And.intro hcv ((Upd.refl (Go.Proofs.YtbiapeplkegjlaaGreatDoor.Foot r0 cv) _).drew.trans hu3 fun _ _ h => h)
          clear hcv hu3
          have HFIN := Lib.hid hfin
          have h1 := HFE.out.1
          subst h1
          clear hfin
          go_wp2_with fail
          go_meet
          exact ⟨rfl, rfl, rfl, HFIN.out.1, HFIN.out.2⟩
      case rest =>
      obtain ⟨rfl, rfl, rfl, ⟨cv1, hr1, hmv⟩, hu1⟩ := hcut
      have hnf : ¬ Go.Proofs.YtbiapeplkegjlaaGreatDoor.Foot r0 cv rb := fun hf => HXA.out.not_rb.2 _ rfl (.inr ⟨r0, rfl, hf⟩)
      have hnx : ¬ Go.Proofs.YtbiapeplkegjlaaGreatDoor.Foot r0 cv bx := fun hf => by have := ((H.out.bd _ rfl).1.lt bx (.inr ⟨r0, rfl, hf⟩)).1; rw [HBX.out] at this; omega
      have hbox1 := HBOX.out.upd hu1 hnx
      have hblk1 := (HXA.out.on _ rfl).upd hu1 hnf
      have hbuf1 := HXA.out.buf.upd hu1 (fun b hb hf => (HXA.out.bd _ rfl).2 b (.inr ⟨r0, rfl, hf⟩) hb)
      have HBOX1 := Lib.hid hbox1
      have HBLK1 := Lib.hid hblk1
      have HBUF1 := Lib.hid hbuf1
      have HR1 := Lib.hid hr1
      have HMV := Lib.hid hmv
      have HU1 := Lib.hid hu1
      have hc1 : ∀ i, wc.cell? ⟨rb, i, none⟩ = _ := fun i => hblk1.cell i
      have hf1 : ∀ i, wc.frozen? ⟨rb, i, none⟩ = _ := fun i => hblk1.free i
      have hrl1 := hblk1.lt
      have hcx : ∀ i, wc.cell? ⟨bx, i, none⟩ = _ := fun i => hbox1.cell i
      have hfx : ∀ i, wc.frozen? ⟨bx, i, none⟩ = _ := fun i => hbox1.free i
      have hxl1 := hbox1.lt
      simp only at hc1
      rw [HNL.out] at hc1
      unfold reqZ at hcx
      have HUW := Lib.hid ((HUA.out.mono (S' := XFoot rb (some ⟨gv, some r0, cv, d⟩)) fun _ _ h => h.elim).trans hu1 fun b _ hb => .inr ⟨_, rfl, .inr ⟨r0, rfl, hb⟩⟩)
      have hbxx : bx < w.heap.size → XFoot rb (some ⟨gv, some r0, cv, d⟩) bx := fun h => absurd h (by have := HBX.out; omega)
      have hne : rb ≠ bx := by omega
      clear hr1 hmv hu1 hbox1 hblk1 hbuf1 hc hf hrl
      by_cases her : er = 0
      case neg =>
        have e0 : ((er : Int) != 0) = true := by simp; omega
        have HER := Lib.hid her
        clear her
        go_wp2_with fail
        refine bodyPost_ret (v := .tuple #[.agg reqZ, .bool false, .int .i64 130]) (by simp [results, Tryz.results17, reqZ, go_sem, hcx]) rfl ?_
        refine ⟨((HUW.out.setCell hbxx _).setCell hbxx _).setCell hbxx _, .inl ⟨?_, rfl, _, _, _, _, _, ((HBLK1.out.far hne _).far hne _).far hne _⟩⟩
        simp only
        rw [HT.out]
        exact HER.out
      have e0 : ((er : Int) != 0) = false := by simp [her]
      subst her
      go_upto_region 5 with fail
      go_cut [5] (fun s5 wx => s5 = .int .i64 m ∧ ∃ bv', bv'.ownBlock = (Value.slice Ab n cb).ownBlock ∧ Lies wx base 5 bv' (l.drop m).length (byts (l.drop m)) ∧ wx = wc.setCell ⟨rb, 0, none⟩ bv')
      case first =>
        have hfin : ∀ v2, v2 = Value.slice (if cb = m then Ab else Ab.map (·.add (m * 1))) (l.length - m) (cb - m) → v2.ownBlock = (Value.slice Ab n cb).ownBlock ∧ Lies (wc.setCell ⟨rb, 0, none⟩ v2) base 5 v2 (l.drop m).length (byts (l.drop m)) := fun v2 hv => by
          have hown : v2.ownBlock = (Value.slice Ab n cb).ownBlock := by rw [hv, own_cutv, HNL.out]
          refine ⟨hown, ?_⟩
          have a1 := HBUF1.out.cut (k := m) (by rw [HNL.out]; exact hml)
          rw [← hv] at a1
          have a2 := a1.upd ((Upd.refl (One rb) wc).set (g := rb) (i := 0) rfl v2) (fun b hb hs => (H.out.not_rb).1 (by
            have hs : b = rb := hs
            subst hs
            rw [HNL.out, ← hown]; exact hb))
          rw [List.length_drop]
          simp only [byts, List.map_drop] at a2 ⊢
          exact a2
        have HFIN := Lib.hid hfin
        clear hfin
        by_cases hcm : cb = m
        · go_wp2_with fail
          go_meet
          have hv := HFIN.out _ rfl
          rw [if_pos hcm, HNL.out, show cb - m = 0 by omega] at hv
          exact ⟨rfl, _, hv.1, hv.2, rfl⟩
        · go_wp2_with fail
          go_meet
          have hv := HFIN.out _ rfl
          rw [if_neg hcm, HNL.out, Nat.mul_one] at hv
          exact ⟨rfl, _, hv.1, hv.2, rfl⟩
      case rest =>
      obtain ⟨rfl, bv2, hbo2, hlies2, rfl⟩ := hcut
      have hk : Upd (One rb) wc (wc.setCell ⟨rb, 0, none⟩ bv2) := (Upd.refl (One rb) _).set rfl _
      have hblk2 := HBLK1.out.set 0 bv2
      have hbox2 := HBOX1.out.upd hk (show ¬ bx = rb by omega)
      have hnew : ∀ b, Go.Proofs.YtbiapeplkegjlaaGreatDoor.Foot r0 cv1 b → b < w.heap.size ∧ Go.Proofs.YtbiapeplkegjlaaGreatDoor.Foot r0 cv b ∨ bx < b := fun b hb => by
        rcases hb with rfl | hb
        · exact .inl ⟨((H.out.bd _ rfl).1.lt b (.inr ⟨b, rfl, .inl rfl⟩)).1, .inl rfl⟩
        · rcases HMV.out with h1 | ⟨g, h1, h2⟩
          · rw [h1] at hb
            exact .inl ⟨((H.out.bd _ rfl).1.lt b (.inr ⟨r0, rfl, .inr hb⟩)).1, .inr hb⟩
          · rw [h1] at hb
            injection hb with hb
            subst hb
            rw [hsz] at h2
            exact .inr (by omega)
      have hnrb : ∀ b, Go.Proofs.YtbiapeplkegjlaaGreatDoor.Foot r0 cv1 b → b ≠ rb ∧ b ≠ bx := fun b hb => by
        rcases hnew b hb with ⟨h1, h2⟩ | h1
        · rw [HBX.out] at h1
          exact ⟨fun e => hnf (e ▸ h2), by omega⟩
        · exact ⟨by omega, by omega⟩
      have hr2 := HR1.out.upd hk (fun b hb hs => (hnrb b hb).1 hs)
      have huw2 := HUW.out.trans hk fun b _ hs => .inl hs
      generalize wc.setCell ⟨rb, 0, none⟩ bv2 = wd at *
      have hblk2 : Blk wd rb 29 #[bv2, .bool false, .bool true, .bool d.keep, .int .i64 d.left, gv, .pointer (some ⟨r0, 0, none⟩)] := hblk2
      have hd' := HFE.out.2
      have HBLK2 := Lib.hid hblk2
      have HBOX2 := Lib.hid hbox2
      have HNEW := Lib.hid hnew
      have HNRB := Lib.hid hnrb
      have HR2 := Lib.hid hr2
      have HUW2 := Lib.hid huw2
      have HL2 := Lib.hid hlies2
      have HBO2 := Lib.hid hbo2
      have HD := Lib.hid hd'
      have hc2 : ∀ i, wd.cell? ⟨rb, i, none⟩ = _ := fun i => hblk2.cell i
      have hf2 : ∀ i, wd.frozen? ⟨rb, i, none⟩ = _ := fun i => hblk2.free i
      have hrl2 := hblk2.lt
      have hcx2 : ∀ i, wd.cell? ⟨bx, i, none⟩ = _ := fun i => hbox2.cell i
      have hfx2 : ∀ i, wd.frozen? ⟨bx, i, none⟩ = _ := fun i => hbox2.free i
      have hxl2 := hbox2.lt
      unfold reqZ at hcx2
      clear hk hblk2 hbox2 hnew hnrb hr2 huw2 hlies2 hbo2 hd' hc1 hf1 hcx hfx hrl1 hxl1 HBLK1 HBOX1 HBUF1
      cases whole with
      | false =>
        go_wp2_with fail
        refine bodyPost_ret (v := .tuple #[.agg reqZ, .bool false, .int .i64 0]) (by simp [results, Tryz.results17, reqZ, go_sem, hcx2]) rfl ?_
        have hkx : Upd (One bx) wd (((wd.setCell ⟨bx, 0, none⟩ (.string ⟨#[]⟩)).setCell ⟨bx, 1, none⟩ (.slice none 0 0)).setCell ⟨bx, 2, none⟩ (.bool false)) := (((Upd.refl (One bx) _).set rfl _).set rfl _).set rfl _
        refine ⟨((HUW2.out.setCell hbxx _).setCell hbxx _).setCell hbxx _, .inr (.inl ?_)⟩
        simp only
        rw [HT.out]
        refine ⟨rfl, rfl, trivial, bv2, ⟨gv, some r0, cv1, d'⟩, rfl, ?_, by rw [HNL.out]; exact HBO2.out, ?_⟩
        · refine ⟨fun h => (by cases h), fun y hy => ?_, HL2.out.upd hkx (fun b hb hs => ?_), fun b hb => H.out.bytes b (List.mem_of_mem_drop hb), H.out.ge, fun y hy => ?_⟩
          · injection hy with hy
            subst hy
            rw [HD.out]
            exact HBLK2.out.upd hkx (fun hs => hne hs)
          · have hs : b = bx := hs
            rw [HBO2.out, ← HNL.out] at hb
            have := (H.out.buf.lt hb).1
            rw [HBX.out] at this
            omega
          · injection hy with hy
            subst hy
            refine ⟨⟨fun h => (by rw [HD.out] at h; cases h), fun s1 hs1 => ?_, ?_, ?_, (H.out.bd _ rfl).1.form⟩, fun b hb hs => ?_⟩
            · rw [HD.out] at hs1
              have hs1 : some f2 = some s1 := hs1
              injection hs1 with hs1
              subst hs1
              refine ⟨r0, rfl, HR2.out.upd hkx (fun b hb hs => (HNRB.out b hb).2 hs), HCI.out, fun b hb => ?_, ?_⟩
              · rcases HNEW.out b hb with ⟨_, h2⟩ | h1
                · exact HGE.out b h2
                · have := HBX.out; omega
              · rw [HD.out]; exact Nat.le_trans HCI.out.body HCI.out.most
            · rw [HD.out]; exact HCI.out.bytes
            · rw [HD.out]; exact (H.out.bd _ rfl).1.left
            · rw [HBO2.out] at hs
              rcases hb with ⟨hp, _⟩ | ⟨r, hr, hb⟩
              · cases hp
              · injection hr with hr
                subst hr
                rcases HNEW.out b hb with ⟨_, h2⟩ | h1
                · exact (H.out.bd _ rfl).2 b (.inr ⟨r0, rfl, h2⟩) (by rw [HNL.out]; exact hs)
                · rw [← HNL.out] at hs
                  have := (H.out.buf.lt hs).1
                  rw [HBX.out] at this
                  omega
        · intro b hb hlt
          rcases hb with ⟨hp, _⟩ | ⟨r, hr, hb⟩
          · cases hp
          · injection hr with hr
            subst hr
            rcases HNEW.out b hb with ⟨_, h2⟩ | h1
            · exact .inr ⟨r0, rfl, h2⟩
            · rw [HBX.out] at hlt
              omega
      | true =>
        go_wp2_with fail
        refine (cr_body r0 cv1 f2 wd HR2.out HCI.out).mono ?_
        rintro e w5 ⟨A5, n5, c5, rfl, hn5, hrd5, hu5⟩
        have hblk5 := HBLK2.out.upd hu5 (by simp)
        have hbox5 := HBOX2.out.upd hu5 (by simp)
        have hl5 := HL2.out.upd hu5 (by simp)
        have hc5 : ∀ i, w5.cell? ⟨rb, i, none⟩ = _ := fun i => hblk5.cell i
        have hf5 : ∀ i, w5.frozen? ⟨rb, i, none⟩ = _ := fun i => hblk5.free i
        have hrl5 := hblk5.lt
        have HBLK5 := Lib.hid hblk5
        have HBOX5 := Lib.hid hbox5
        have HL5 := Lib.hid hl5
        have HRD5 := Lib.hid hrd5
        have HN5 := Lib.hid hn5
        have HU5 := Lib.hid (HUW2.out.trans hu5 fun _ _ h => h.elim)
        clear hblk5 hbox5 hl5 hrd5 hu5 hn5 hc2 hf2 hcx2 hfx2
        go_wp2_with fail
        go_meet
        refine ⟨rfl, ?_⟩
        have hN := HN5.out
        subst hN
        have hk : Upd (One rb) w5 (w5.setCell ⟨rb, 5, none⟩ (.slice A5 f2.body.length c5)) := (Upd.refl (One rb) _).set rfl _
        have hg : d'.got = f2.body := by rw [HD.out]
        have hkp : d'.keep = d.keep := by rw [HD.out]
        refine ⟨by simp only; rw [HT.out]; exact ⟨rfl, rfl⟩, HU5.out.trans hk fun b _ hs => .inl hs, HBOX5.out.upd hk (show ¬ bx = rb by omega), ?_, ?_, ?_⟩
        · simp only
          rw [HT.out]
          simp only
          rw [hg, hkp]
          refine ⟨bv2, _, A5, c5, _, HBLK5.out.set 5 _, HL5.out.upd hk (fun b hb hs => (H.out.not_rb).1 (by
            have hs : b = rb := hs
            subst hs
            rw [HNL.out, ← HBO2.out]; exact hb)), HBO2.out, ?_⟩
          have := rd_set (g := rb) (i := 5) (v := .slice A5 f2.body.length c5) HRD5.out (fun ad hA h0 => by
            subst hA
            refine rd_ne HRD5.out h0 HBLK5.out ?_
            intro u hu x
            obtain ⟨Ab2, cb2, hform, _⟩ := HL2.out.form
            obtain ⟨Ag, ng, cg, hgv⟩ := (H.out.bd _ rfl).1.form
            have hgv : gv = .slice Ag ng cg := hgv
            rw [hform, hgv] at hu
            simp only [List.mem_cons, List.not_mem_nil, or_false] at hu
            rcases hu with rfl | rfl | rfl | rfl | rfl | rfl | rfl <;> simp)
          simpa using this
        · simp only
          rw [HT.out]
          simp only
          rw [hg]
          exact Nat.le_trans HCI.out.body HCI.out.most
        · simp only
          rw [HT.out]
          simp only
          rw [hg]
          exact HCI.out.bytes
    | none =>
      obtain ⟨hp, hown, hgl⟩ := (HXA.out.bd _ rfl).1.own hxc
      have hp : p = none := hp
      subst hp
      have htk : takeB d l = ((min d.left l.length, decide (d.left ≤ l.length), 0), { d with got := d.got ++ l.take d.left, left := d.left - l.length }) := by unfold takeB; rw [hxc]
      rw [HT.out, HNL.out] at htk
      injection htk with htk1 hd'
      injection htk1 with htm htk1
      injection htk1 with htw hte
      subst hte
      obtain ⟨Ag, ng, cg, hgv⟩ := (HXA.out.bd _ rfl).1.form
      have hgv : gv = .slice Ag ng cg := hgv
      subst hgv
      simp only at hown hgl
      obtain rfl : ng = d.got.length := by
        rcases hown.2 with ⟨e, h0⟩ | ⟨g, cap, cur, e, _⟩
        · injection e with e1 e2 e3; omega
        · injection e
      have hHO := hown
      obtain ⟨dl, hdl⟩ : ∃ dl, d.left = dl := ⟨_, rfl⟩
      obtain ⟨gl, hgll⟩ : ∃ gl, d.got.length = gl := ⟨_, rfl⟩
      have HDL := Lib.hid hdl
      have HGL := Lib.hid hgll
      have HTM := Lib.hid htm
      have HTW := Lib.hid htw
      have HD := Lib.hid hd'
      have HXC := Lib.hid hxc
      rw [hdl] at hgl htm htw
      rw [hgll] at hgl hHO
      rw [hgll, hdl] at hc
      have HO := Lib.hid hHO
      have hmd : m ≤ dl := by omega
      have hob : ∀ b, (Value.slice Ag gl cg).ownBlock = some b → b ≠ rb := fun b hb e => by
        subst e
        exact own_ne_blk' hHO (HXA.out.on _ rfl) (by decide) hb
      have hnb : ∀ b, (Value.slice Ag gl cg).ownBlock = some b → (Value.slice Ab n cb).ownBlock ≠ some b ∧ b < bx := fun b hb => by
        have h1 := (H.out.bd _ rfl).2 b (.inl ⟨rfl, by simp only; rw [hgll]; exact hb⟩)
        have h2 := ((H.out.bd _ rfl).1.lt b (.inl ⟨rfl, by simp only; rw [hgll]; exact hb⟩)).1
        rw [HNL.out] at h1
        rw [HBX.out] at h2
        exact ⟨h1, h2⟩
      have HOB := Lib.hid hob
      have HNB := Lib.hid hnb
      have hsrc : ∀ q, Rd (wa.drewN q) wa.heap.size 1 Ab m (byts (l.take m)) := fun q => by
        have h0 := HXA.out.buf.rd rfl
        rw [HNL.out] at h0
        have h1 := (h0.front (k := m) hml).drewN q
        rw [Nat.mul_one] at h1
        simpa [byts, List.map_take] using h1
      have HSRC := Lib.hid hsrc
      have hmlen : gl + m ≤ maxLen := by unfold maxLen; omega
      have hmc : m ≤ cb := by omega
      have HTM2 := Lib.hid htm
      have hBb : base ≤ wa.heap.size := by have := HBX.out; omega
      clear hdl hgll htm htw hd' hxc hown hHO hob hnb hsrc
      go_upto_region 9 with fail
      go_cut [8] (fun s8 wx => s8 = .int .i64 m ∧ ∃ q, wx = wa.drewN q)
      case first =>
        go_wp2_with fail
        go_quiet (fail)
        go_wp2_with fail
        go_meet
        exact ⟨congrArg (Value.int .i64) (by have := HTM2.out; omega), _, rfl⟩
      case rest =>
      obtain ⟨rfl, q, rfl⟩ := hcut
      go_upto_region 10 with fail
      go_cut [8] (fun s8 wx => s8 = .int .i64 m ∧ ∃ A5 c5 w5, wx = w5.setCell ⟨rb, 5, none⟩ (.slice A5 (gl + m) c5) ∧ w5.ownsRow base 5 1 (.slice A5 (gl + m) c5) (gl + m) (byts d.got ++ byts (l.take m)) ∧ Upd (fun b => (Value.slice Ag gl cg).ownBlock = some b) wa w5 ∧ ((Value.slice A5 (gl + m) c5).ownBlock = (Value.slice Ag gl cg).ownBlock ∨ (Value.slice A5 (gl + m) c5).ownBlock = some wa.heap.size))
      case first =>
        go_wp2_with fail
        go_region_law (refine step_app _ rfl (.tmp 64) (.tmp 70) 26 rfl base 5 i1 _ 1 1 Tryz.underlying26 hi1 hy0 hy1 hy2 rfl (by omega) (.slice Ag gl cg) gl (byts d.got) rfl (HO.out.drewN (q + 1)) wa.heap.size Ab m cb (byts (l.take m)) rfl (HSRC.out (q + 1)) (by intro u hu; simp only [byts, List.mem_map] at hu; obtain ⟨b, _, rfl⟩ := hu; rfl) hmlen (by omega) (by simp; omega) ?_; intro A5 c5 w5 hown5 hg5 hat5; have hb5 := ((HXA.out.on _ rfl).drewN (q + 1)).upd (upd_own hg5) (fun h => HOB.out rb h rfl); have hc5 := hb5.cell 5; have hf5 := hb5.free 5)
        all_goals
          have hrl5 := hb5.lt
          go_wp2_with fail
          go_meet
          exact ⟨rfl, A5, c5, w5, rfl, hown5, (upd_own hg5).ofDrewN, hat5⟩
      case rest =>
      obtain ⟨rfl, A5, c5, w5, rfl, hown5, hg5', hat5⟩ := hcut
      have hk : Upd (One rb) w5 (w5.setCell ⟨rb, 5, none⟩ (.slice A5 (gl + m) c5)) := (Upd.refl (One rb) _).set rfl _
      have hA5 : ∀ b, (Value.slice A5 (gl + m) c5).ownBlock = some b → b ≠ rb ∧ b ≠ bx ∧ (Value.slice Ab n cb).ownBlock ≠ some b ∧ (b < bx → (Value.slice Ag gl cg).ownBlock = some b) := fun b hb => by
        rcases hat5 with h5 | h5
        · rw [h5] at hb
          exact ⟨HOB.out b hb, by have := (HNB.out b hb).2; omega, (HNB.out b hb).1, fun _ => hb⟩
        · rw [h5] at hb
          injection hb with hb
          subst hb
          refine ⟨by omega, by omega, fun h => ?_, fun h => by omega⟩
          rw [← HNL.out] at h
          have := (H.out.buf.lt h).1
          rw [HBX.out] at this
          omega
      have hblk6 := ((HXA.out.on _ rfl).upd hg5' (fun h => HOB.out rb h rfl)).set 5 (.slice A5 (gl + m) c5)
      have hbox6 := (HBOX.out.upd hg5' (fun h => by have := (HNB.out bx h).2; omega)).upd hk (show ¬ bx = rb by omega)
      have hown6 := own_upd' hown5 hk fun b hb hs => (hA5 b hb).1 hs
      have hbuf6 := (HXA.out.buf.upd hg5' (fun b hb hs => by rw [HNL.out] at hb; exact (HNB.out b hs).1 hb)).upd hk (fun b hb hs => (H.out.not_rb).1 (by
        have hs : b = rb := hs
        subst hs
        exact hb))
      have huw6 : Upd (XFoot rb (some ⟨.slice Ag d.got.length cg, none, cv, d⟩)) w (w5.setCell ⟨rb, 5, none⟩ (.slice A5 (gl + m) c5)) :=
        ((HUA.out.mono fun _ _ h => h.elim).trans hg5' fun b _ hb => .inr ⟨_, rfl, .inl ⟨rfl, by simp only; rw [HGL.out]; exact hb⟩⟩).trans hk fun b _ hs => .inl hs
      generalize w5.setCell ⟨rb, 5, none⟩ (.slice A5 (gl + m) c5) = w6 at *
      have hblk6 : Blk w6 rb 29 #[.slice Ab l.length cb, .bool false, .bool true, .bool d.keep, .int .i64 d.left, .slice A5 (gl + m) c5, .pointer none] := hblk6
      rw [HNL.out, HDL.out] at hblk6
      have HA5 := Lib.hid hA5
      have HBLK6 := Lib.hid hblk6
      have HBOX6 := Lib.hid hbox6
      have HOWN6 := Lib.hid hown6
      have HBUF6 := Lib.hid hbuf6
      have HUW6 := Lib.hid huw6
      have hc6 : ∀ i, w6.cell? ⟨rb, i, none⟩ = _ := fun i => hblk6.cell i
      have hf6 : ∀ i, w6.frozen? ⟨rb, i, none⟩ = _ := fun i => hblk6.free i
      have hrl6 := hblk6.lt
      clear hat5 hg5' hk hA5 hblk6 hbox6 hown6 hbuf6 huw6 hown5 hc hf hrl
      go_upto_region 11 with fail
      go_cut [8] (fun s8 wx => s8 = .int .i64 m ∧ ∃ bv', bv'.ownBlock = (Value.slice Ab n cb).ownBlock ∧ Lies wx base 5 bv' (l.drop m).length (byts (l.drop m)) ∧ wx = w6.setCell ⟨rb, 0, none⟩ bv')
      case first =>
        have hfin : ∀ v2, v2 = Value.slice (if cb = m then Ab else Ab.map (·.add (m * 1))) (l.length - m) (cb - m) → v2.ownBlock = (Value.slice Ab n cb).ownBlock ∧ Lies (w6.setCell ⟨rb, 0, none⟩ v2) base 5 v2 (l.drop m).length (byts (l.drop m)) := fun v2 hv => by
          have hown : v2.ownBlock = (Value.slice Ab n cb).ownBlock := by rw [hv, own_cutv, HNL.out]
          refine ⟨hown, ?_⟩
          have a1 := HBUF6.out.cut (k := m) (by rw [HNL.out]; exact hml)
          rw [← hv] at a1
          have a2 := a1.upd ((Upd.refl (One rb) w6).set (g := rb) (i := 0) rfl v2) (fun b hb hs => (H.out.not_rb).1 (by
            have hs : b = rb := hs
            subst hs
            rw [HNL.out, ← hown]; exact hb))
          rw [List.length_drop]
          simp only [byts, List.map_drop] at a2 ⊢
          exact a2
        have HFIN := Lib.hid hfin
        clear hfin
        by_cases hcm : cb = m
        · go_wp2_with fail
          go_meet
          have hv := HFIN.out _ rfl
          rw [if_pos hcm, HNL.out, show cb - m = 0 by omega] at hv
          exact ⟨rfl, _, hv.1, hv.2, rfl⟩
        · go_wp2_with fail
          go_meet
          have hv := HFIN.out _ rfl
          rw [if_neg hcm, HNL.out, Nat.mul_one] at hv
          exact ⟨rfl, _, hv.1, hv.2, rfl⟩
      case rest =>
      obtain ⟨rfl, bv2, hbo2, hlies2, rfl⟩ := hcut
      have hk : Upd (One rb) w6 ((w6.setCell ⟨rb, 0, none⟩ bv2).setCell ⟨rb, 4, none⟩ (.int .i64 ((dl : Int) - (m : Int)))) := ((Upd.refl (One rb) _).set rfl _).set rfl _
      have hk1 : Upd (One rb) (w6.setCell ⟨rb, 0, none⟩ bv2) ((w6.setCell ⟨rb, 0, none⟩ bv2).setCell ⟨rb, 4, none⟩ (.int .i64 ((dl : Int) - (m : Int)))) := (Upd.refl (One rb) _).set rfl _
      have hblk7 := (HBLK6.out.set 0 bv2).set 4 (.int .i64 ((dl : Int) - (m : Int)))
      have hblk7 : Blk ((w6.setCell ⟨rb, 0, none⟩ bv2).setCell ⟨rb, 4, none⟩ (.int .i64 ((dl : Int) - (m : Int)))) rb 29 #[bv2, .bool false, .bool true, .bool d.keep, .int .i64 ((dl : Int) - (m : Int)), .slice A5 (gl + m) c5, .pointer none] := hblk7
      have hbox7 := HBOX6.out.upd hk (show ¬ bx = rb by omega)
      have hown7 := own_upd' HOWN6.out hk fun b hb hs => (HA5.out b hb).1 hs
      have hl7 := hlies2.upd hk1 (fun b hb hs => (H.out.not_rb).1 (by
        have hs : b = rb := hs
        subst hs
        rw [HNL.out, ← hbo2]; exact hb))
      have huw7 := HUW6.out.trans hk fun b _ hs => .inl hs
      have HBLK7 := Lib.hid hblk7
      have HBOX7 := Lib.hid hbox7
      have HOWN7 := Lib.hid hown7
      have HL7 := Lib.hid hl7
      have HUW7 := Lib.hid huw7
      have HBO2 := Lib.hid hbo2
      have hmdi : (m : Int) ≤ (dl : Int) := by omega
      clear hk hk1 hblk7 hbox7 hown7 hl7 huw7 hbo2 hlies2
      have hc6' := HBLK6.out.free 0
      go_upto_region 13 with fail
      generalize (w6.setCell ⟨rb, 0, none⟩ bv2).setCell ⟨rb, 4, none⟩ (.int .i64 ((dl : Int) - (m : Int))) = w7 at *
      have hc7 : ∀ i, w7.cell? ⟨rb, i, none⟩ = _ := fun i => HBLK7.out.cell i
      have hf7 : ∀ i, w7.frozen? ⟨rb, i, none⟩ = _ := fun i => HBLK7.out.free i
      have hrl7 := HBLK7.out.lt
      have hcx7 : ∀ i, w7.cell? ⟨bx, i, none⟩ = _ := fun i => HBOX7.out.cell i
      have hfx7 : ∀ i, w7.frozen? ⟨bx, i, none⟩ = _ := fun i => HBOX7.out.free i
      have hxl7 := HBOX7.out.lt
      unfold reqZ at hcx7
      clear hc6 hf6 hc6' hrl6 HBLK6 HBOX6 HOWN6 HBUF6 HUW6
      have htk : l.take d.left = l.take m := by
        have hM := HTM2.out
        rw [HDL.out]
        by_cases h : dl ≤ n
        · rw [show m = dl by omega]
        · rw [List.take_of_length_le (by rw [HNL.out]; omega), List.take_of_length_le (by rw [HNL.out]; omega)]
      have hgot : d'.got = d.got ++ l.take m := by rw [HD.out]; simp only; rw [htk]
      have hgl' : d'.got.length = gl + m := by rw [hgot, List.length_append, List.length_take, HGL.out, HNL.out]; omega
      have hlf : (d'.left : Int) = (dl : Int) - (m : Int) := by
        have hM := HTM2.out
        rw [HD.out]
        simp only
        rw [HDL.out]
        omega
      have hdc : d'.c = none := by rw [HD.out]; exact HXC.out
      have hdk : d'.keep = d.keep := by rw [HD.out]
      have hw : whole = decide (dl ≤ n) := by rw [HTW.out, HDL.out]
      have hgb : ∀ b ∈ d'.got, b < 256 := by
        rw [hgot]
        intro b hb
        rcases List.mem_append.1 hb with hb | hb
        · exact (H.out.bd _ rfl).1.got b hb
        · exact H.out.bytes b (List.mem_of_mem_take hb)
      have HGOT := Lib.hid hgot
      have HGL' := Lib.hid hgl'
      have HLF := Lib.hid hlf
      have HDC := Lib.hid hdc
      have HDK := Lib.hid hdk
      have HGB := Lib.hid hgb
      have hbxx : bx < w.heap.size → XFoot rb (some ⟨.slice Ag d.got.length cg, none, cv, d⟩) bx := fun h => absurd h (by have := HBX.out; omega)
      have hne : rb ≠ bx := by omega
      clear htk hgot hgl' hlf hdc hdk hgb
      by_cases hle : dl ≤ n
      · have hnot : ¬ (0 : Int) < (dl : Int) - (m : Int) := by have := HTM2.out; omega
        rw [decide_eq_true hle] at hw
        have HW := Lib.hid hw
        clear hle hw
        go_wp2_with fail
        go_meet
        refine ⟨rfl, ⟨?_, HUW7.out, HBOX7.out, ?_, ?_, ?_⟩⟩
        · simp only
          rw [HT.out]
          exact ⟨rfl, HW.out⟩
        · simp only
          rw [HT.out]
          simp only
          rw [HGL'.out, HDK.out]
          refine ⟨bv2, _, A5, c5, _, HBLK7.out, HL7.out, HBO2.out, ?_⟩
          rw [HGOT.out, byts, List.map_append]
          exact Rd.own HOWN7.out
        · simp only
          rw [HT.out]
          simp only
          rw [HGL'.out]
          omega
        · simp only
          rw [HT.out]
          exact HGB.out
      · have hpos : (0 : Int) < (dl : Int) - (m : Int) := by have := HTM2.out; omega
        rw [decide_eq_false hle] at hw
        have HW := Lib.hid hw
        clear hle hw
        go_wp2_with fail
        refine bodyPost_ret (v := .tuple #[.agg reqZ, .bool false, .int .i64 0]) (by simp [results, Tryz.results17, reqZ, go_sem, hcx7]) rfl ?_
        have hkx : Upd (One bx) w7 (((w7.setCell ⟨bx, 0, none⟩ (.string ⟨#[]⟩)).setCell ⟨bx, 1, none⟩ (.slice none 0 0)).setCell ⟨bx, 2, none⟩ (.bool false)) := (((Upd.refl (One bx) _).set rfl _).set rfl _).set rfl _
        refine ⟨((HUW7.out.setCell hbxx _).setCell hbxx _).setCell hbxx _, .inr (.inl ?_)⟩
        simp only
        rw [HT.out]
        refine ⟨rfl, HW.out, trivial, bv2, ⟨.slice A5 (gl + m) c5, none, cv, d'⟩, rfl, ?_, by rw [HNL.out]; exact HBO2.out, ?_⟩
        · refine ⟨fun h => (by cases h), fun y hy => ?_, HL7.out.upd hkx (fun b hb hs => ?_), fun b hb => H.out.bytes b (List.mem_of_mem_drop hb), H.out.ge, fun y hy => ?_⟩
          · injection hy with hy
            subst hy
            simp only
            rw [HLF.out, HDK.out]
            exact HBLK7.out.upd hkx (fun hs => hne hs)
          · have hs : b = bx := hs
            rw [HBO2.out, ← HNL.out] at hb
            have := (H.out.buf.lt hb).1
            rw [HBX.out] at this
            omega
          · injection hy with hy
            subst hy
            refine ⟨⟨fun _ => ⟨rfl, ?_, ?_⟩, fun s1 hs1 => ?_, HGB.out, ?_, ⟨_, _, _, rfl⟩⟩, fun b hb hs => ?_⟩
            · simp only
              rw [HGL'.out, HGOT.out, byts, List.map_append]
              exact own_upd' HOWN7.out hkx (fun b hb hs => (HA5.out b hb).2.1 hs)
            · simp only
              rw [HGL'.out]
              have := HLF.out
              omega
            · have hs1 : d'.c = some s1 := hs1
              rw [HDC.out] at hs1
              cases hs1
            · simp only
              have := HLF.out
              omega
            · rw [HBO2.out] at hs
              rcases hb with ⟨_, hb⟩ | ⟨r, hr, hb⟩
              · exact (HA5.out b hb).2.2.1 hs
              · cases hr
        · intro b hb hlt
          rcases hb with ⟨_, hb⟩ | ⟨r, hr, hb⟩
          · refine .inl ⟨rfl, ?_⟩
            simp only
            rw [HGL.out]
            rw [HBX.out] at hlt
            exact (HA5.out b hb).2.2.2 hlt
          · cases hr
  case rest =>
  obtain ⟨rfl, ⟨ok, hupd, hbox, ⟨bv', lf, A5, c5, p', hblk, hlies, hbo, hrd⟩, hsmall, hbytes⟩⟩ := hcut
  simp only at ok hblk hlies hrd hsmall hbytes
  rw [HT.out] at ok hblk hlies hrd hsmall hbytes
  simp only at ok hblk hlies hrd hsmall hbytes
  obtain ⟨rfl, rfl⟩ := ok
  obtain ⟨q, hq⟩ : ∃ q, d'.got.length = q := ⟨_, rfl⟩
  rw [hq] at hblk hrd hsmall
  have hk : Upd (One rb) wc (wc.setCell ⟨rb, 2, none⟩ (.bool false)) := (Upd.refl (One rb) _).set rfl _
  have hrd1 : Rd (wc.setCell ⟨rb, 2, none⟩ (.bool false)) (wc.setCell ⟨rb, 2, none⟩ (.bool false)).heap.size 1 A5 q (byts d'.got) := by
    have := rd_set (g := rb) (i := 2) (v := .bool false) hrd (fun ad hA h0 => by
      subst hA
      refine rd_ne hrd h0 hblk ?_
      intro u hu x
      obtain ⟨Ab2, cb2, hform, _⟩ := hlies.form
      rw [hform] at hu
      simp only [List.mem_cons, List.not_mem_nil, or_false] at hu
      rcases hu with rfl | rfl | rfl | rfl | rfl | rfl | rfl <;> simp)
    simpa using this
  have hblk1 := hblk.set 2 (.bool false)
  have hblk1 : Blk (wc.setCell ⟨rb, 2, none⟩ (.bool false)) rb 29 #[bv', .bool false, .bool false, .bool d'.keep, .int .i64 lf, .slice A5 q c5, .pointer p'] := hblk1
  have hbox1 := hbox.upd hk (show ¬ bx = rb by omega)
  have hl1 := hlies.upd hk (fun b hb hs => (H.out.not_rb).1 (by
    have hs : b = rb := hs
    subst hs
    rw [HNL.out, ← hbo]; exact hb))
  have hu1 := hupd.trans hk fun b _ hs => .inl hs
  have hbx1 : bx < wc.heap.size := hbox.lt
  have hc0 : ∀ i, wc.cell? ⟨rb, i, none⟩ = _ := fun i => hblk.cell i
  have hf0 : ∀ i, wc.frozen? ⟨rb, i, none⟩ = _ := fun i => hblk.free i
  have hrl0 := hblk.lt
  have HBLK1 := Lib.hid hblk1
  have HBOX1 := Lib.hid hbox1
  have HL1 := Lib.hid hl1
  have HRD1 := Lib.hid hrd1
  have HU1 := Lib.hid hu1
  have HBO := Lib.hid hbo
  have HQ := Lib.hid hq
  have HBY := Lib.hid hbytes
  clear hk hblk hbox hlies hrd hupd hblk1 hbox1 hl1 hrd1 hu1 hbo hq hbytes hc hf hrl
  go_upto_region 16 with fail
  have hsz1 : (wc.setCell ⟨rb, 2, none⟩ (.bool false)).heap.size = wc.heap.size := by simp
  generalize wc.setCell ⟨rb, 2, none⟩ (.bool false) = wd at *
  have hc1 : ∀ i, wd.cell? ⟨rb, i, none⟩ = _ := fun i => HBLK1.out.cell i
  have hf1 : ∀ i, wd.frozen? ⟨rb, i, none⟩ = _ := fun i => HBLK1.out.free i
  have hrl1 := HBLK1.out.lt
  have hcx1 : ∀ i, wd.cell? ⟨bx, i, none⟩ = _ := fun i => HBOX1.out.cell i
  have hfx1 : ∀ i, wd.frozen? ⟨bx, i, none⟩ = _ := fun i => HBOX1.out.free i
  have hxl1 := HBOX1.out.lt
  unfold reqZ at hcx1
  clear hc0 hf0
  have hown0 : ((wd.alloc (.cells #[] 5)).drewN 1).ownsRow wd.heap.size 5 1 (.slice (some ⟨wc.heap.size, 0, none⟩) 0 0) 0 [] := by
    rw [← hsz1]
    exact (World.ownsRow_lit wd #[] 0 (Nat.le_refl _) (by decide) rfl).drewN 1
  have HO0 := Lib.hid hown0
  clear hown0
  go_wp2_with fail
  go_region_law (refine step_app _ rfl (.tmp 100) (.tmp 104) 26 rfl wd.heap.size 5 i1 _ 1 1 Tryz.underlying26 hi1 hy0 hy1 hy2 rfl (by omega) (.slice (some ⟨wc.heap.size, 0, none⟩) 0 0) 0 [] rfl HO0.out wd.heap.size A5 q c5 (byts d'.got) rfl ((HRD1.out.alloc (Nat.le_refl _) _).drewN 1) (by intro u hu; simp only [byts, List.mem_map] at hu; obtain ⟨b, _, rfl⟩ := hu; rfl) (by unfold maxLen; omega) (by omega) (by simp) ?_; intro A7 c7 w8 hown8 hg8 hat8; have hu8 := Lib.hid ((((Upd.refl Nix wd).alloc (.cells #[] 5)).drewN 1).grown hg8 fun b hb hlt => (by simp only [Value.ownBlock, Option.some.injEq] at hb; omega)); have hb8 := HBLK1.out.upd hu8.out (fun h => h); have hx8 := HBOX1.out.upd hu8.out (fun h => h); have hc8 : ∀ i, w8.cell? ⟨rb, i, none⟩ = _ := fun i => hb8.cell i; have hcx8 : ∀ i, w8.cell? ⟨bx, i, none⟩ = (#[.string ⟨#[]⟩, .slice none 0 0, .bool false] : Array Value)[i]? := fun i => hx8.cell i; have hfx8 : ∀ i, w8.frozen? ⟨bx, i, none⟩ = _ := fun i => hx8.free i; have hrl8 := hb8.lt; have hxl8 := hx8.lt)
  all_goals
    have HOWN8 := Lib.hid hown8
    clear hown8 hg8 hat8 hb8 hx8
    go_wp2_with fail
    refine bodyPost_ret (v := .tuple #[.agg #[.string firstS, .slice A7 q c7, .bool d'.keep], .bool true, .int .i64 0]) (by simp [results, Tryz.results17, firstS, go_sem, hcx8]) rfl ?_
    have hbxx : bx < w.heap.size → XFoot rb (some ⟨gv, p, cv, d⟩) bx := fun h => absurd h (by have := HBX.out; omega)
    have hkx : Upd (One bx) w8 (((w8.setCell ⟨bx, 0, none⟩ (.string firstS)).setCell ⟨bx, 1, none⟩ (.slice A7 q c7)).setCell ⟨bx, 2, none⟩ (.bool d'.keep)) := (((Upd.refl (One bx) _).set rfl _).set rfl _).set rfl _
    have hu := HU1.out.trans hu8.out fun _ _ h => h.elim
    refine ⟨((hu.setCell hbxx _).setCell hbxx _).setCell hbxx _, .inr (.inr ?_)⟩
    simp only
    rw [HT.out]
    simp only
    rw [HQ.out]
    have hown := HOWN8.out
    rw [List.nil_append, Nat.zero_add] at hown
    have hge : ∀ b, (Value.slice A7 q c7).ownBlock = some b → wd.heap.size ≤ b := fun b hb => ge_of_own hown b hb
    refine ⟨trivial, trivial, A7, c7, bv', rfl, ?_, hsmall, HBY.out, ?_, by rw [HNL.out]; exact HBO.out⟩
    · exact own_down (own_upd' hown hkx (fun b hb hs => by
        have hs : b = bx := hs
        have := hge b hb
        omega)) (by have := HBX.out; omega)
    · refine ⟨fun _ => ⟨_, _, _, _, (HBLK1.out.upd hu8.out (fun h => h)).upd hkx (show ¬ rb = bx by omega)⟩, fun y hy => (by cases hy), (HL1.out.upd hu8.out (fun _ _ h => h)).upd hkx (fun b hb hs => ?_), fun b hb => H.out.bytes b (List.mem_of_mem_drop hb), H.out.ge, fun y hy => (by cases hy)⟩
      have hs : b = bx := hs
      rw [HBO.out, ← HNL.out] at hb
      have := (H.out.buf.lt hb).1
      rw [HBX.out] at this
      omega
end Go.Proofs.YtbiapeplkegjlaaGreatDoor
