/- stream: Reply. -/
import Derived.Test.YtageanmjdfodnaaGreatDoorStrS
import Derived.Test.YtageanmjdfodnaaGreatDoorHttpC
namespace Go.Proofs.YtageanmjdfodnaaGreatDoor
open Go.RowKit Go.Cx Go.Maps

set_option maxRecDepth 100000 in
set_option maxHeartbeats 3200000 in
theorem frames_reply (pr : Nat) (A : Option Addr) (n c : Nat) (l : List Nat) (w : World) (hx : Rd w w.heap.size 1 A n (byts l)) (hn : n ≤ 65535) :
    Calls Tryz.prog 75 #[.agg #[.pointer (some ⟨pr, 0, none⟩)], .slice A n c] w fun e w' => (∃ ad c', e = .returned (.tuple #[.slice (some ad) (2 + n) c', .bool true, .int .i64 0]) ∧ Rd w' w'.heap.size 1 (some ad) (2 + n) (byts (encP l))) ∧ Upd Nix w w' := by
  have hu0 : Upd Nix w (w.alloc (.cells #[.pointer (some ⟨pr, 0, none⟩)] 48)) := (Upd.refl _ _).alloc _
  have henc := prefix_encode A n c w.heap.size l (w.alloc (.cells #[.pointer (some ⟨pr, 0, none⟩)] 48)) (hx.below (hu0.belowNix (Nat.le_refl _))) hu0.size hn
  have HE := Lib.hid henc
  have HU0 := Lib.hid hu0
  clear henc hu0 hx
  go_enter Tryz.func75, Tryz.ntmps75
  go_wp2_with fail
  refine HE.out.mono ?_
  rintro e w1 ⟨⟨ad, c1, rfl, hown⟩, hu1⟩
  have HR := Lib.hid (Rd.own hown)
  have HU1 := Lib.hid (HU0.out.trans hu1 fun _ _ h => h)
  clear hown hu1
  go_wp2_with fail
  refine bodyPost_ret (results_tmp3 rfl _ _ _) rfl ?_
  exact ⟨⟨ad, c1, rfl, HR.out⟩, HU1.out⟩
/-- the requests' block, and those that wait: all were kept -/
structure RpAt (w : World) (base qb rb : Nat) (A : Option Addr) (n c : Nat) (ks : List Bool) : Prop where
  blk : Blk w qb 54 #[.pointer (some ⟨rb, 0, none⟩), .slice A n c]
  buf : Lies w base 4 (.slice A n c) n (ks.map Value.bool)
  len : ks.length = n
  all : ∀ k ∈ ks, k = true
theorem RpAt.upd {w w' : World} {base qb rb n c : Nat} {A : Option Addr} {ks : List Bool} {S : Nat → Prop} (h : RpAt w base qb rb A n c ks) (k : Upd S w w') (h1 : ¬ S qb) (h2 : ∀ b, (Value.slice A n c).ownBlock = some b → ¬ S b) : RpAt w' base qb rb A n c ks :=
  ⟨h.blk.upd k h1, h.buf.upd k h2, h.len, h.all⟩
theorem RpAt.of {w : World} {base qb rb : Nat} {kv : Value} {ks : List Bool} (h : KpAt w base qb rb kv ks) (hk : ∀ k ∈ ks, k = true) : ∃ A c, kv = .slice A ks.length c ∧ RpAt w base qb rb A ks.length c ks := by
  obtain ⟨A, c, rfl⟩ := own_form h.own
  exact ⟨A, c, rfl, h.blk, Lies.of_own h.own, rfl, hk⟩
def ReplyIs (base qb rb : Nat) (l : List Nat) (w : World) (e : Ending) (w' : World) : Prop :=
  (∃ A' n' c', e = .returned (.tuple #[.slice A' n' c', .bool true, .int .i64 0]) ∧ n' = (replyL l true).length ∧ Rd w' w'.heap.size 1 A' n' (byts (replyL l true))) ∧ (∃ A n c ks, RpAt w' base qb rb A n c ks) ∧ Upd (One qb) w w'
set_option maxRecDepth 100000 in
set_option maxHeartbeats 6400000 in
theorem req_reply (base qb rb : Nat) (kA : Option Addr) (kn kc : Nat) (ks : List Bool) (A : Option Addr) (n c : Nat) (l : List Nat) (w : World) (h : RpAt w base qb rb kA kn kc ks) (hx : Rd w w.heap.size 1 A n (byts l)) (hxq : ∀ ad, A = some ad → 0 < n → ad.block ≠ qb) (hn : n ≤ 65535) (ht : ∀ W, Upd (One qb) w W → Tab10 W) :
    Calls Tryz.prog 79 #[.pointer (some ⟨qb, 0, none⟩), .slice A n c] w (ReplyIs base qb rb l w) := by
  have hc : ∀ i, w.cell? ⟨qb, i, none⟩ = _ := fun i => h.blk.cell i
  have hf : ∀ i, w.frozen? ⟨qb, i, none⟩ = _ := fun i => h.blk.free i
  have hql := h.blk.lt
  have H := Lib.hid h
  have HX := Lib.hid hx
  have HXQ := Lib.hid hxq
  have HT := Lib.hid ht
  have hkl := h.len
  have HKL := Lib.hid hkl
  have hkc : kn ≤ kc := by
    obtain ⟨_, _, he, h1⟩ := h.buf.form
    injection he with _ _ he
    omega
  clear h hx hxq ht hkl
  by_cases h0 : kn = 0
  · have h0i : ¬ (0 : Int) < (kn : Int) := by omega
    have hrp := http_reply A n c l true w HX.out hn (HT.out w (Upd.refl _ _))
    have HRP := Lib.hid hrp
    clear hrp h0
    go_enter Tryz.func79, Tryz.ntmps79
    go_wp2_with fail
    refine HRP.out.mono ?_
    rintro e w1 ⟨⟨A1, n1, c1, rfl, hn1, _, hr1⟩, hu1⟩
    have HR1 := Lib.hid hr1
    have HN1 := Lib.hid hn1
    have HU1 := Lib.hid hu1
    clear hr1 hn1 hu1
    go_wp2_with fail
    refine bodyPost_ret (results_tmp3 rfl _ _ _) rfl ?_
    exact ⟨⟨A1, n1, c1, rfl, HN1.out, HR1.out⟩, ⟨kA, kn, kc, ks, H.out.upd HU1.out (fun h => h) (fun _ _ h => h)⟩, HU1.out.mono fun _ _ h => h.elim⟩
  · have h0i : (0 : Int) < (kn : Int) := by omega
    have h0n : 0 < kn := by omega
    obtain ⟨ad, rfl, hadB, hcl⟩ := (H.out.buf.rd rfl).2 (by omega)
    have hk0 : ks[0]? = some true := by
      rw [List.getElem?_eq_getElem (by rw [HKL.out]; exact h0n)]
      rw [H.out.all _ (List.getElem_mem _)]
    have hcell : w.cell? ad = some (.bool true) := by
      have := hcl 0 (.bool true) (by rw [List.getElem?_map, hk0]; rfl)
      simpa [Addr.add] using this
    have hfin : ∀ v2, v2 = Value.slice (if kc = 1 then some ad else (some ad).map (·.add (1 * 1))) (kn - 1) (kc - 1) →
        Calls Tryz.prog 81 #[.int .i64 200, .slice A n c, .bool true] (w.setCell ⟨qb, 1, none⟩ v2).drew _ := fun v2 _ => http_reply A n c l true (w.setCell ⟨qb, 1, none⟩ v2).drew (by
      have h2 : Rd (w.setCell ⟨qb, 1, none⟩ v2).drew w.heap.size 1 A n (byts l) := rd_set (g := qb) (i := 1) (v := v2) HX.out HXQ.out
      simpa using h2) hn (HT.out _ ((Upd.refl (One qb) _).set rfl _).drew)
    have HFIN := Lib.hid hfin
    have hrp : ∀ v2, v2 = Value.slice (if kc = 1 then some ad else (some ad).map (·.add (1 * 1))) (kn - 1) (kc - 1) → ∃ A n c ks, RpAt (w.setCell ⟨qb, 1, none⟩ v2) base qb rb A n c ks := fun v2 hv => by
      have us : Upd (One qb) w (w.setCell ⟨qb, 1, none⟩ v2) := (Upd.refl (One qb) _).set rfl _
      have hcut := H.out.buf.cut (k := 1) (by omega)
      have hb := hcut.upd us (fun b hb hs => by
        have hs : b = qb := hs
        subst hs
        rw [cutv] at hb
        exact lies_ne H.out.buf H.out.blk (by decide) hb)
      refine ⟨_, _, _, ks.drop 1, ⟨?_, by rw [List.map_drop]; exact hb, by rw [List.length_drop, HKL.out], fun k hk => H.out.all k (List.mem_of_mem_drop hk)⟩⟩
      rw [hv]
      exact H.out.blk.set 1 _
    have HRP := Lib.hid hrp
    clear hfin hrp hcl hk0 h0
    have hk1 : (1 : Int) ≤ (kn : Int) := by omega
    go_enter Tryz.func79, Tryz.ntmps79
    by_cases hc1 : kc = 1
    · have HC := Lib.hid (HFIN.out _ rfl)
      have HP2 := Lib.hid (HRP.out _ rfl)
      rw [if_pos hc1, show kc - 1 = 0 by omega] at HC HP2
      clear HFIN HRP
      go_wp2_with fail
      go_region
      go_wp2_with fail
      refine (HC.out).mono ?_
      rintro e w1 ⟨⟨A1, n1, c1, rfl, hn1, _, hr1⟩, hu1⟩
      have HR1 := Lib.hid hr1
      have HN1 := Lib.hid hn1
      have HU1 := Lib.hid hu1
      clear hr1 hn1 hu1
      go_wp2_with fail
      refine bodyPost_ret (results_tmp3 rfl _ _ _) rfl ?_
      obtain ⟨A2, n2, c2, ks2, h2⟩ := HP2.out
      exact ⟨⟨A1, n1, c1, rfl, HN1.out, HR1.out⟩, ⟨A2, n2, c2, ks2, h2.upd ((Upd.refl Nix _).drew.trans HU1.out fun _ _ h => h) (fun h => h) (fun _ _ h => h)⟩, (((Upd.refl (One qb) _).set rfl _).drew).trans HU1.out fun _ _ h => h.elim⟩
    · have HC := Lib.hid (HFIN.out _ rfl)
      have HP2 := Lib.hid (HRP.out _ rfl)
      rw [if_neg hc1] at HC HP2
      clear HFIN HRP
      go_wp2_with fail
      go_region
      go_wp2_with fail
      refine (HC.out).mono ?_
      rintro e w1 ⟨⟨A1, n1, c1, rfl, hn1, _, hr1⟩, hu1⟩
      have HR1 := Lib.hid hr1
      have HN1 := Lib.hid hn1
      have HU1 := Lib.hid hu1
      clear hr1 hn1 hu1
      go_wp2_with fail
      refine bodyPost_ret (results_tmp3 rfl _ _ _) rfl ?_
      obtain ⟨A2, n2, c2, ks2, h2⟩ := HP2.out
      exact ⟨⟨A1, n1, c1, rfl, HN1.out, HR1.out⟩, ⟨A2, n2, c2, ks2, h2.upd ((Upd.refl Nix _).drew.trans HU1.out fun _ _ h => h) (fun h => h) (fun _ _ h => h)⟩, (((Upd.refl (One qb) _).set rfl _).drew).trans HU1.out fun _ _ h => h.elim⟩
set_option maxRecDepth 100000 in
theorem meth_reply1 (r : Nat) (w : World) : (method 289 48 (.agg #[.pointer (some ⟨r, 0, none⟩)]) "cicerone/stream.reply").run Tryz.prog w = .ok (75, .agg #[.pointer (some ⟨r, 0, none⟩)]) w := by kernel_rfl
set_option maxRecDepth 100000 in
theorem meth_reply2 (r : Nat) (w : World) : (method 289 49 (.pointer (some ⟨r, 0, none⟩)) "cicerone/stream.reply").run Tryz.prog w = .ok (79, .pointer (some ⟨r, 0, none⟩)) w := by kernel_rfl
theorem _root_.Go.Proofs.YtageanmjdfodnaaGreatDoor.Tab10.belowT {w w' : World} {B : Nat} (h : Tab10 w) (k : Below B w w') (hg : 2 < B) : Tab10 w' := by
  unfold Tab10 Lib.TabIs World.var? at *
  have hn : Tryz.prog.globalNamed "internal/strconv.uint64pow10" = some 2 := by kernel_rfl
  rw [hn] at h ⊢
  simp only [Option.bind_some] at h ⊢
  rw [k.block _ hg]
  exact h
/-- a stream that replies -/
def SrAt (http : Bool) (w : World) (base sb : Nat) : Prop :=
  if http then ∃ qb rb A n c ks, Blk w sb 56 #[.iface 49 (.pointer (some ⟨qb, 0, none⟩)), .bool false] ∧ RpAt w base qb rb A n c ks ∧ base ≤ qb ∧ base ≤ sb
  else ∃ pr, Blk w sb 56 #[.iface 48 (.agg #[.pointer (some ⟨pr, 0, none⟩)]), .bool false] ∧ base ≤ sb
def replyS (http : Bool) (l : List Nat) : List Nat := if http then replyL l true else encP l
def SReplyIs (http : Bool) (base sb : Nat) (l : List Nat) (w : World) (e : Ending) (w' : World) : Prop :=
  (∃ A' n' c', e = .returned (.tuple #[.slice A' n' c', .int .i64 0]) ∧ n' = (replyS http l).length ∧ Rd w' w'.heap.size 1 A' n' (byts (replyS http l))) ∧ SrAt http w' base sb ∧ Below base w w'
set_option maxRecDepth 100000 in
set_option maxHeartbeats 3200000 in
theorem stream_reply (http : Bool) (base sb : Nat) (A : Option Addr) (n c : Nat) (l : List Nat) (w : World) (h : SrAt http w base sb) (hx : Rd w base 1 A n (byts l)) (hn : n ≤ 65535) (ht : Tab10 w) (hB : base ≤ w.heap.size) (hg : 2 < base) :
    Calls Tryz.prog 9 #[.pointer (some ⟨sb, 0, none⟩), .slice A n c] w (SReplyIs http base sb l w) := by
  have hni : ¬ (65535 : Int) < (n : Int) := by omega
  cases http with
  | false =>
    obtain ⟨pr, hb, hge⟩ := h
    have hc : ∀ i, w.cell? ⟨sb, i, none⟩ = _ := fun i => hb.cell i
    have hop := st_open w sb (.fr pr (.slice none 0 0)) hb
    have hrp := frames_reply pr A n c l w (hx.more hB) hn
    have HOP := Lib.hid hop
    have HRP := Lib.hid hrp
    have HB := Lib.hid hb
    have hm := meth_reply1 pr
    have hlen := hx.1
    simp only [byts, List.length_map, Nat.mul_one] at hlen
    have HLEN := Lib.hid hlen
    clear hop hrp hb hx hlen
    go_enter Tryz.func9, Tryz.ntmps9
    go_wp2_with (first | (go_at_call 17; refine HOP.out.mono ?_; rintro e w' ⟨rfl, rfl⟩) | (go_at_call 75; refine HRP.out.mono ?_; rintro e w1 ⟨⟨ad1, c1, rfl, hr1⟩, hu1⟩; have hb1 := HB.out.upd hu1 (fun h => h); have hc1 : ∀ i, w1.cell? ⟨sb, i, none⟩ = _ := fun i => hb1.cell i; have hf1 : ∀ i, w1.frozen? ⟨sb, i, none⟩ = _ := fun i => hb1.free i; have hl1 := hb1.lt))
    go_ret2
    have hs1 := hu1.size
    have us : Upd (One sb) w1 (w1.setCell ⟨sb, 1, none⟩ (.bool false)) := (Upd.refl (One sb) _).set rfl _
    refine ⟨⟨some ad1, 2 + n, c1, rfl, by simp [replyS, encP, HLEN.out]; omega, ?_⟩, ⟨pr, hb1.set 1 _, hge⟩, (hu1.belowNix hB).trans (us.below (by omega) fun b _ hb => by have hb : b = sb := hb; omega)⟩
    have h1 := rd_set (g := sb) (i := 1) (v := .bool false) hr1 (fun ad hA h0 => by
      injection hA with hA
      subst hA
      refine rd_ne hr1 h0 hb1 ?_
      intro u hu x
      simp only [List.mem_cons, List.not_mem_nil, or_false] at hu
      rcases hu with rfl | rfl <;> simp)
    show Rd _ _ 1 (some ad1) (2 + n) (byts (encP l))
    simpa using h1
  | true =>
    obtain ⟨qb, rb, kA, kn, kc, ks, hb, hrp0, hgq, hge⟩ := h
    have hc : ∀ i, w.cell? ⟨sb, i, none⟩ = _ := fun i => hb.cell i
    have hop := st_open w sb (.ht qb rb (.slice none 0 0) none (.slice none 0 0)) hb
    have hrp := req_reply base qb rb kA kn kc ks A n c l w hrp0 (hx.more hB) (fun ad hA h0 e => by
      obtain ⟨ad', h1, h2, _⟩ := hx.2 h0
      rw [hA] at h1
      injection h1 with h1
      subst h1
      omega) hn (fun W hW => by
      have hb := hW.below hB fun b _ hb => (by have hb : b = qb := hb; omega)
      exact ht.belowT hb hg)
    have hne : qb ≠ sb := Blk.ne hrp0.blk hb (by decide)
    have HOP := Lib.hid hop
    have HRP := Lib.hid hrp
    have HB := Lib.hid hb
    have hm := meth_reply2 qb
    clear hop hrp hb hx hrp0
    go_enter Tryz.func9, Tryz.ntmps9
    go_wp2_with (first | (go_at_call 17; refine HOP.out.mono ?_; rintro e w' ⟨rfl, rfl⟩) | (go_at_call 79; refine HRP.out.mono ?_; rintro e w1 ⟨⟨A1, n1, c1, rfl, hn1, hr1⟩, ⟨A2, n2, c2, ks2, hrp2⟩, hu1⟩; have hb1 := HB.out.upd hu1 (fun h => hne h.symm); have hc1 : ∀ i, w1.cell? ⟨sb, i, none⟩ = _ := fun i => hb1.cell i; have hf1 : ∀ i, w1.frozen? ⟨sb, i, none⟩ = _ := fun i => hb1.free i; have hl1 := hb1.lt))
    go_ret2
    have hs1 := hu1.size
    have us : Upd (One sb) w1 (w1.setCell ⟨sb, 1, none⟩ (.bool false)) := (Upd.refl (One sb) _).set rfl _
    subst hn1
    refine ⟨⟨A1, _, c1, rfl, rfl, ?_⟩, ⟨qb, rb, A2, n2, c2, ks2, hb1.set 1 _, hrp2.upd us (fun h => hne h) (fun b hb hs => by
      have hs : b = sb := hs
      subst hs
      exact lies_ne hrp2.buf hb1 (by decide) hb), hgq, hge⟩, (hu1.below hB fun b _ hb => (by have hb : b = qb := hb; omega)).trans (us.below (by omega) fun b _ hb => by have hb : b = sb := hb; omega)⟩
    have h1 := rd_set (g := sb) (i := 1) (v := .bool false) hr1 (fun ad hA h0 => by
      subst hA
      refine rd_ne hr1 h0 hb1 ?_
      intro u hu x
      simp only [List.mem_cons, List.not_mem_nil, or_false] at hu
      rcases hu with rfl | rfl <;> simp)
    show Rd _ _ 1 A1 (replyL l true).length (byts (replyL l true))
    simpa using h1
set_option maxRecDepth 100000 in
theorem stream_ended (sb : Nat) (v : Value) (en : Bool) (w : World) (h : Blk w sb 56 #[v, .bool en]) : Calls Tryz.prog 13 #[.pointer (some ⟨sb, 0, none⟩)] w fun e w' => e = .returned (.bool en) ∧ w = w' := by
  have hc : ∀ i, w.cell? ⟨sb, i, none⟩ = _ := fun i => h.cell i
  clear h
  go_enter Tryz.func13, Tryz.ntmps13
  go_wp2
  go_ret
  exact ⟨rfl, rfl⟩
end Go.Proofs.YtageanmjdfodnaaGreatDoor
