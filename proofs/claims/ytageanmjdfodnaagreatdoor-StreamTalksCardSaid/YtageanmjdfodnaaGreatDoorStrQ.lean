/- stream: requests.feed. -/
import Derived.Test.YtageanmjdfodnaaGreatDoorStrF
import Derived.Test.YtageanmjdfodnaaGreatDoorHttpFd
import Derived.Test.YtageanmjdfodnaaGreatDoorHttpWs
import Derived.Test.YtageanmjdfodnaaGreatDoorReqI
namespace Go.Proofs.YtageanmjdfodnaaGreatDoor
open Go.RowKit Go.Cx Go.Maps

def frq (r : ReqV) : List Value := [.slice r.row.A r.row.n r.row.c, .bool false]
theorem infoBoolQ : (Tryz.prog.info? 4).map (fun i => (i.zero, i.size, i.bytes)) = some (some (.bool false), 1, 1) := by kernel_rfl
theorem feedN_len : ∀ (k : Nat) (s : HS) (l : List Rq), (feedN k s l).1.1.length ≤ l.length + k
  | 0, s, l => by simp [feedN]
  | k + 1, s, l => by
    rw [feedN]
    split
    · simp
    · split
      · simp only; omega
      · rename_i r s' _
        have := feedN_len k s' (l ++ [r])
        rw [List.length_append, List.length_singleton] at this
        omega
theorem feedH_len (s : HS) (x : List Nat) : (feedH s x).1.1.length ≤ s.b.length + x.length + 2 := by
  unfold feedH
  split
  · simp
  · have := feedN_len (s.b.length + x.length + 2) { s with b := s.b ++ x } []
    simpa using this
theorem feedH_ok (s : HS) (x : List Nat) (hs : s.ended = false) (he : (feedH s x).2.ended = false) : (feedH s x).1.2 = 0 := by
  rw [feedH_W s x hs] at he ⊢
  exact feedW_err _ _ _ (Nat.lt_succ_self _) (show (s.plus x).ended = false from hs) he
/-- a talk by HTTP: the requests' block, which were kept -/
structure KpAt (w : World) (base qb rb : Nat) (kv : Value) (ks : List Bool) : Prop where
  blk : Blk w qb 54 #[.pointer (some ⟨rb, 0, none⟩), kv]
  own : w.ownsRow base 4 1 kv ks.length (ks.map Value.bool)
  ge : base ≤ qb
def KFoot (qb : Nat) (kv : Value) : Nat → Prop := fun b => b = qb ∨ kv.ownBlock = some b
theorem KpAt.lt {w : World} {base qb rb : Nat} {kv : Value} {ks : List Bool} (h : KpAt w base qb rb kv ks) : ∀ b, KFoot qb kv b → b < w.heap.size ∧ base ≤ b := by
  rintro b (rfl | hb)
  · exact ⟨h.blk.lt, h.ge⟩
  · exact ⟨(own_in h.own hb).1, own_ge h.own b hb⟩
theorem KpAt.upd {w w' : World} {base qb rb : Nat} {kv : Value} {ks : List Bool} {S : Nat → Prop} (h : KpAt w base qb rb kv ks) (k : Upd S w w') (hn : ∀ b, KFoot qb kv b → ¬ S b) : KpAt w' base qb rb kv ks :=
  ⟨h.blk.upd k (hn qb (.inl rfl)), own_upd' h.own k fun b hb => hn b (.inr hb), h.ge⟩
theorem KpAt.ne {w : World} {base qb rb : Nat} {kv : Value} {ks : List Bool} (h : KpAt w base qb rb kv ks) : kv.ownBlock ≠ some qb := own_ne_blk' h.own h.blk (by decide)
/-- it shares nothing with a reader of requests -/
theorem KpAt.apart {w : World} {base base' qb rb rb' : Nat} {kv : Value} {ks : List Bool} {bv : Value} {l : List Nat} {body : Option BdV} (h : KpAt w base qb rb kv ks) (hr : RdW w base' rb' bv l body) : ∀ b, KFoot qb kv b → ¬ RFoot rb' bv body b := by
  have key : ∀ (b : Nat) (t : TypeId) (cs : Array Value), Blk w b t cs → t ≠ 73 → t ≠ 5 → t ≠ 150 → t ≠ 163 → ¬ RFoot rb' bv body b := fun b t cs hb h1 h2 h3 h4 => by
    rintro (rfl | hb2 | ⟨x, hx, hb2⟩)
    · exact Blk.ne hb hr.blk h1 rfl
    · exact lies_ne hr.buf hb h2.symm hb2
    · exact (hr.bd x hx).1.not_blk hb h3.symm h2.symm h4.symm hb2
  rintro b (rfl | hb)
  · exact key _ _ _ h.blk (by decide) (by decide) (by decide) (by decide)
  · obtain ⟨_, cs, hc⟩ := own_in h.own hb
    exact key b _ cs hc (by decide) (by decide) (by decide) (by decide)
def QFeedIs (base qb rb : Nat) (bv : Value) (l : List Nat) (body : Option BdV) (kv : Value) (ks : List Bool) (x : List Nat) (w : World) (e : Ending) (w' : World) : Prop :=
  ∃ (A : Option Addr) (c : Nat) (fs : List FrV) (bv' : Value) (body' : Option BdV) (kv' : Value), e = .returned (.slice A fs.length c) ∧ fs.map FrV.said = (feedH ⟨false, l, body.map BdV.d⟩ x).1.1.map (fun r => ⟨false, r.body⟩) ∧ FrsOwn w.heap.size A c fs w' ∧
    RdW w' base rb bv' (feedH ⟨false, l, body.map BdV.d⟩ x).2.b body' ∧ body'.map BdV.d = (feedH ⟨false, l, body.map BdV.d⟩ x).2.body ∧ KpAt w' base qb rb kv' (ks ++ (feedH ⟨false, l, body.map BdV.d⟩ x).1.1.map Rq.keep) ∧
    Upd (fun b => RFoot rb bv body b ∨ KFoot qb kv b) w w' ∧ (∀ b, RFoot rb bv' body' b → b < w.heap.size → RFoot rb bv body b) ∧ (∀ b, KFoot qb kv' b → b < w.heap.size → KFoot qb kv b) ∧
    ∀ f ∈ fs, ∀ b, f.row.val.ownBlock = some b → ¬ RFoot rb bv' body' b ∧ ¬ KFoot qb kv' b
set_option maxRecDepth 100000 in
set_option maxHeartbeats 12800000 in
theorem req_feed (base qb rb : Nat) (bv : Value) (l : List Nat) (body : Option BdV) (kv : Value) (ks : List Bool) (A : Option Addr) (n c : Nat) (x : List Nat) (w : World) (h : RdW w base rb bv l body) (hk : KpAt w base qb rb kv ks) (hx : Rd w w.heap.size 1 A n (byts x)) (hxb : ∀ b ∈ x, b < 256) (hl : l.length ≤ 2000) (hn : n ≤ 1000000000) (hkn : ks.length ≤ 1000000000) (hB : base ≤ w.heap.size)
    (hne : (feedH ⟨false, l, body.map BdV.d⟩ x).2.ended = false) :
    Calls Tryz.prog 77 #[.pointer (some ⟨qb, 0, none⟩), .slice A n c] w (QFeedIs base qb rb bv l body kv ks x w) := by
  obtain ⟨i1, hi1, hz0, hz1, hz2⟩ := info_parts infoFrame
  obtain ⟨i2, hi2, hy0, hy1, hy2⟩ := info_parts infoBoolQ
  have hxl := hx.1
  simp only [byts, List.length_map, Nat.mul_one] at hxl
  have hok := feedH_ok _ x rfl hne
  have hcount := feedH_len ⟨false, l, body.map BdV.d⟩ x
  have hfeed := http_feed base rb bv l body A n c x w h hx hxb hl (by omega) hB
  unfold FeedIs at hfeed
  obtain ⟨R, hR⟩ : ∃ R, feedH ⟨false, l, body.map BdV.d⟩ x = R := ⟨_, rfl⟩
  obtain ⟨⟨rq, er⟩, s'⟩ := R
  rw [hR] at hfeed hok hcount hne
  simp only at hok hcount hne
  subst hok
  obtain ⟨kA, kc, rfl⟩ := own_form hk.own
  obtain ⟨kn, hkl⟩ : ∃ kn, ks.length = kn := ⟨_, rfl⟩
  have hc : ∀ i, w.cell? ⟨qb, i, none⟩ = _ := fun i => hk.blk.cell i
  have hql := hk.blk.lt
  have hap0 := hk.apart h
  have HR := Lib.hid hR
  have HF := Lib.hid hfeed
  have HRD0 := Lib.hid h
  have HK0 := Lib.hid hk
  have HAP0 := Lib.hid hap0
  have HKL := Lib.hid hkl
  have HNE := Lib.hid hne
  rw [hkl] at hc hkn
  rw [hxl] at hcount
  clear h hk hx hxb hR hfeed hap0 hkl hne
  go_enter Tryz.func77, Tryz.ntmps77
  go_wp2_with fail
  refine HF.out.mono ?_
  rintro e w1 ⟨A1, c1, rqs, bv1, body1, rfl, hsaid, hfd⟩
  simp only at hsaid hfd ⊢
  obtain ⟨hrd1, hbd1, hft1⟩ := hfd.on HNE.out
  have hk1 := HK0.out.upd hfd.upd HAP0.out
  have hq1 : rqs.length ≤ l.length + n + 2 := by rw [← hsaid, List.length_map] at hcount; exact hcount
  obtain ⟨q, hq⟩ : ∃ q, rqs.length = q := ⟨_, rfl⟩
  have hs1 := hfd.upd.size
  have HFD := Lib.hid hfd
  have HSAID := Lib.hid hsaid
  have HQ := Lib.hid hq
  have HK1 := Lib.hid hk1
  have HRD1 := Lib.hid hrd1
  rw [hq] at hq1 ⊢
  clear hsaid hfd hrd1 hbd1 hft1 hk1 hq hc
  go_wp2_with fail
  go_loopg [5, 21] q (fun gk s5 s21 wr => ∃ (k : Nat) (A2 : Option Addr) (c2 : Nat) (kA2 : Option Addr) (kc2 : Nat), k + gk = q ∧ s21 = .int .i64 k ∧ s5 = .slice A2 k c2 ∧ wr.ownsRow w1.heap.size 36 2 (.slice A2 k c2) k (((rqs.take k).map frq).flatten) ∧
    KpAt wr base qb rb (.slice kA2 (kn + k) kc2) (ks ++ (rqs.take k).map ReqV.keep) ∧ Upd (KFoot qb (.slice kA kn kc)) w1 wr ∧ (∀ b, (Value.slice kA2 (kn + k) kc2).ownBlock = some b → b < w1.heap.size → (Value.slice kA kn kc).ownBlock = some b))
  case atStart => exact ⟨0, none, 0, kA, kc, by omega, rfl, rfl, ⟨rfl, .inl ⟨rfl, rfl⟩⟩, by simpa [HKL.out] using HK1.out, Upd.refl _ _, fun b hb _ => hb⟩
  case round =>
    obtain ⟨k, A2, c2, kA2, kc2, hkq, rfl, rfl, hout, hkp, hu, hko⟩ := hrel
    have HO := Lib.hid hout
    have HKP := Lib.hid hkp
    have HU := Lib.hid hu
    have HKO := Lib.hid hko
    have hs2 := hu.size
    by_cases hkl : k < q
    · have hki : (k : Int) < (q : Int) := by omega
      obtain ⟨r, hr⟩ : ∃ r, rqs[k]? = some r := ⟨_, List.getElem?_eq_getElem (by rw [HQ.out]; exact hkl)⟩
      obtain ⟨go, rfl, hgb, hgl, k0, k1, k2⟩ := HFD.out.rq.idx hr
      have hnf : ¬ KFoot qb (.slice kA kn kc) go := by
        obtain ⟨_, cs, hcs⟩ := own_in HFD.out.rq.out (b := go) rfl
        rintro (rfl | hb)
        · exact Blk.ne (t := 140) hcs HK1.out.blk (by decide) rfl
        · exact own_ne2 HK1.out.own HFD.out.rq.out (by decide) go (by rw [HKL.out]; exact hb) rfl
      have c0 : wr.cell? ⟨go, k * 3, none⟩ = some (.string firstS) := (hu.cell (p := ⟨go, k * 3, none⟩) hgl hnf).trans k0
      have c1' : wr.cell? ⟨go, k * 3 + 1, none⟩ = some (.slice r.row.A r.row.n r.row.c) := (hu.cell (p := ⟨go, k * 3 + 1, none⟩) hgl hnf).trans k1
      have c2' : wr.cell? ⟨go, k * 3 + 2, none⟩ = some (.bool r.keep) := (hu.cell (p := ⟨go, k * 3 + 2, none⟩) hgl hnf).trans k2
      have htk : ((rqs.take (k + 1)).map frq).flatten = ((rqs.take k).map frq).flatten ++ [.slice r.row.A r.row.n r.row.c, .bool false] := by
        rw [List.take_add_one, hr]
        simp [frq]
      have htk2 : (rqs.take (k + 1)).map ReqV.keep = (rqs.take k).map ReqV.keep ++ [r.keep] := by
        rw [List.take_add_one, hr]
        simp
      have HTK := Lib.hid htk
      have HTK2 := Lib.hid htk2
      have hlit := Rd.lit (wr.alloc (.cells #[.string firstS, .slice r.row.A r.row.n r.row.c, .bool r.keep] 140)) [.slice r.row.A r.row.n r.row.c, .bool false] 36 2 1 rfl
      have hsz3 : (wr.alloc (.cells #[.string firstS, .slice r.row.A r.row.n r.row.c, .bool r.keep] 140)).heap.size = wr.heap.size + 1 := by simp
      rw [hsz3] at hlit
      have HLIT := Lib.hid hlit
      clear hout hkp hu hko hr k0 k1 k2 hnf htk htk2 hlit hsz3
      go_upto_region 7 with (at_builtin; refine wpList_app _ rfl (.tmp 25) (.tmp 29) 33 rfl w1.heap.size 36 i1 _ 2 32 Tryz.underlying33 hi1 hz0 hz1 hz2 rfl (by omega) (.slice A2 k c2) k (((rqs.take k).map frq).flatten) rfl ((HO.out.alloc _).alloc _) (wr.heap.size + 1 + 1) (some ⟨wr.heap.size + 1, 0, none⟩) 1 1 [.slice r.row.A r.row.n r.row.c, .bool false] rfl HLIT.out (by intro u hu; simp only [List.mem_cons, List.not_mem_nil, or_false] at hu; rcases hu with rfl | rfl <;> rfl) (by unfold maxLen; omega) (by omega) (by simp; omega) ?_; intro A8 c8 w8 hown8 hg8 hat8)
      have hgo : ∀ b, (Value.slice A2 k c2).ownBlock = some b → w1.heap.size ≤ b := fun b hb => own_ge HO.out b hb
      have hub : Upd Nix wr ((wr.alloc (.cells #[.string firstS, .slice r.row.A r.row.n r.row.c, .bool r.keep] 140)).alloc (.cells #[.slice r.row.A r.row.n r.row.c, .bool false] 36)) := ((Upd.refl _ _).alloc _).alloc _
      have hux : Upd (fun b => (Value.slice A2 k c2).ownBlock = some b) wr w8 := (hub.mono fun _ _ h => h.elim).trans (upd_own hg8) fun _ _ h => h
      have hkp8 : KpAt w8 base qb rb (.slice kA2 (kn + k) kc2) (ks ++ (rqs.take k).map ReqV.keep) := HKP.out.upd hux (fun b hb hs => by
        rcases hb with rfl | hb
        · exact own_ne_blk' HO.out HKP.out.blk (by decide) hs
        · exact own_ne2 HKP.out.own HO.out (by decide) b hb hs)
      have hu8 : Upd (KFoot qb (.slice kA kn kc)) w1 w8 := HU.out.trans hux fun b hlt hs => by have := hgo b hs; omega
      have hbox : Blk w8 wr.heap.size 140 #[.string firstS, .slice r.row.A r.row.n r.row.c, .bool r.keep] := ((Blk.new wr _ _).alloc _).grown hg8 (fun h => by
        have := (own_in HO.out h.symm).1
        omega)
      have hs8 := hux.size
      have hbl := hbox.lt
      have hcb := hbox.cell 2
      have hq8 := hkp8.blk
      have hcq : ∀ i, w8.cell? ⟨qb, i, none⟩ = _ := fun i => hq8.cell i
      have hfq : ∀ i, w8.frozen? ⟨qb, i, none⟩ = _ := fun i => hq8.free i
      have hql8 := hq8.lt
      have HO8 := Lib.hid hown8
      have HKP8 := Lib.hid hkp8
      have HU8 := Lib.hid hu8
      have hlen8 : (ks ++ (rqs.take k).map ReqV.keep).length = kn + k := by
        rw [List.length_append, HKL.out, List.length_map, List.length_take, HQ.out]
        omega
      have hko8 : ∀ q', (w8.drewN q').ownsRow base 4 1 (.slice kA2 (kn + k) kc2) (kn + k) ((ks ++ (rqs.take k).map ReqV.keep).map Value.bool) := fun q' => by
        have := hkp8.own
        rw [hlen8] at this
        exact this.drewN q'
      have HKO8 := Lib.hid hko8
      have hlit2 : ∀ q', Rd ((w8.drewN q').alloc (.cells #[.bool r.keep] 4)) (w8.heap.size + 1) 1 (some ⟨w8.heap.size, 0, none⟩) 1 [.bool r.keep] := fun q' => Rd.lit1 (w8.drewN q') (.bool r.keep) 4
      have HLIT2 := Lib.hid hlit2
      clear c0 c1' c2' hub hux hkp8 hu8 hbox hq8 hown8 hg8 hat8 hgo hlen8 hko8 hlit2
      go_wp2_with fail
      go_region_law (refine step_app _ rfl (.tmp 35) (.tmp 38) 52 rfl base 4 i2 _ 1 1 Tryz.underlying52 hi2 hy0 hy1 hy2 rfl (by omega) (.slice kA2 (kn + k) kc2) (kn + k) _ rfl ((HKO8.out 1).alloc _) (w8.heap.size + 1) (some ⟨w8.heap.size, 0, none⟩) 1 1 [.bool r.keep] rfl (HLIT2.out 1) (by intro u hu; simp only [List.mem_singleton] at hu; subst hu; rfl) (by unfold maxLen; omega) (by omega) (by simp; omega) ?_; intro A9 c9 w9 hown9 hg9 hat9; have hb9 := ((HKP8.out.blk.drewN 1).alloc (.cells #[.bool r.keep] 4)).grown hg9 (fun h => HKP8.out.ne h.symm); have hc9 := hb9.cell 1; have hf9 := hb9.free 1; have hl9 := hb9.lt)
      all_goals
        have ua : Upd Nix w8 ((w8.drewN 1).alloc (.cells #[.bool r.keep] 4)) := ((Upd.refl _ _).drewN 1).alloc _
        have ug : Upd (fun b => (Value.slice kA2 (kn + k) kc2).ownBlock = some b) w8 w9 := (ua.mono fun _ _ h => h.elim).trans (upd_own hg9) fun _ _ h => h
        have us : Upd (One qb) w9 (w9.setCell ⟨qb, 1, none⟩ (.slice A9 (kn + k + 1) c9)) := (Upd.refl (One qb) _).set rfl _
        have ho9 := own_upd' HO8.out ug (fun b hb hs => own_ne2 HKP8.out.own HO8.out (by decide) b hs hb)
        have ho10 := own_upd' ho9 us (fun b hb hs => by
          have hs : b = qb := hs
          subst hs
          exact own_ne_blk' ho9 hb9 (by decide) hb)
        have hA9 : ∀ b, (Value.slice A9 (kn + k + 1) c9).ownBlock = some b → b ≠ qb ∧ (b < w1.heap.size → (Value.slice kA kn kc).ownBlock = some b) := fun b hb => by
          rcases hat9 with h5 | h5
          · rw [h5] at hb
            exact ⟨fun e => HKP8.out.ne (e ▸ hb), fun hlt => HKO.out b hb hlt⟩
          · rw [h5] at hb
            injection hb with hb
            have hb : w8.heap.size + 1 = b := by simpa using hb
            exact ⟨by omega, fun h => by omega⟩
        have hkp10 : KpAt (w9.setCell ⟨qb, 1, none⟩ (.slice A9 (kn + k + 1) c9)) base qb rb (.slice A9 (kn + (k + 1)) c9) (ks ++ (rqs.take (k + 1)).map ReqV.keep) := by
          refine ⟨hb9.set 1 _, ?_, HKP8.out.ge⟩
          have hl10 : (ks ++ (rqs.take (k + 1)).map ReqV.keep).length = kn + k + 1 := by
            rw [List.length_append, HKL.out, List.length_map, List.length_take, HQ.out]
            omega
          rw [hl10, HTK2.out, ← List.append_assoc, List.map_append]
          exact own_upd' hown9 us (fun b hb hs => (hA9 b hb).1 hs)
        have hu10 : Upd (KFoot qb (.slice kA kn kc)) w1 (w9.setCell ⟨qb, 1, none⟩ (.slice A9 (kn + k + 1) c9)) :=
          (HU8.out.trans ug fun b hlt hs => .inr (HKO.out b hs hlt)).trans us fun b _ hs => .inl hs
        have HO10 := Lib.hid ho10
        have HKP10 := Lib.hid hkp10
        have HU10 := Lib.hid hu10
        have HA9 := Lib.hid hA9
        clear ua ug us ho9 ho10 hA9 hkp10 hu10 hown9 hg9 hat9 hb9
        go_wp2_with fail
        go_roundg (gk - 1)
        case rel => exact ⟨k + 1, A8, c8, A9, c9, by omega, by go_num, rfl, by rw [HTK.out]; exact HO10.out, HKP10.out, HU10.out, fun b hb hlt => (HA9.out b hb).2 hlt⟩
        case measure => omega
    · have hki : ¬ (k : Int) < (q : Int) := by omega
      have hk : k = q := by omega
      have HK := Lib.hid hk
      clear hout hkp hu hko hk
      go_wp2_with fail
      go_ret
      have hk := HK.out
      have hQ := HQ.out
      have hall : rqs.take k = rqs := List.take_of_length_le (by omega)
      have ho := HO.out
      have hkp := HKP.out
      rw [hall] at ho hkp
      have hn1 := HFD.out.on HNE.out
      have hap := HFD.out.apart
      have hkr : ∀ b, KFoot qb (.slice kA kn kc) b → b < w.heap.size ∧ ¬ RFoot rb bv body b := fun b hb => by
        have hb' : KFoot qb (.slice kA ks.length kc) b := by rw [HKL.out]; exact hb
        exact ⟨(HK0.out.lt b hb').1, HAP0.out b hb'⟩
      have hkq2 : ∀ b, KFoot qb (.slice kA2 (kn + k) kc2) b → b < w1.heap.size → KFoot qb (.slice kA kn kc) b := fun b hb hlt => by
        rcases hb with rfl | hb
        · exact .inl rfl
        · exact .inr (HKO.out b hb hlt)
      have hRn := HRD1.out.upd HU.out (fun b hb hs => by
        have h1 := (hkr b hs)
        exact h1.2 (hn1.2.2 b hb h1.1))
      have hrq : ∀ r ∈ rqs, ∀ b, (Value.slice r.row.A r.row.n r.row.c).ownBlock = some b → w.heap.size ≤ b := fun r hr b hb => own_ge (HFD.out.rq.rows r hr).own b hb
      unfold QFeedIs
      rw [HR.out]
      have hlen : (rqs.map fun r => (⟨r.row, false⟩ : FrV)).length = k := by rw [List.length_map, hQ, hk]
      refine ⟨A2, c2, rqs.map fun r => ⟨r.row, false⟩, bv1, body1, .slice kA2 (kn + k) kc2, by rw [hlen, hk]; rfl, ?_, ⟨?_, fun f hf => ?_⟩, hRn, hn1.2.1, ?_, ?_, hn1.2.2, fun b hb hlt => ?_, fun f hf b hb => ?_⟩
      · simp only
        rw [← HSAID.out, List.map_map, List.map_map]
        rfl
      · rw [hlen, List.map_map]
        exact own_dn ho hs1
      · obtain ⟨r, hr, rfl⟩ := List.mem_map.1 hf
        have h1 := HFD.out.rq.rows r hr
        refine ⟨own_upd' h1.own HU.out (fun b hb hs => ?_), h1.nc, h1.bytes⟩
        have := hrq r hr b hb
        have := (hkr b hs).1
        omega
      · simp only
        rw [← HSAID.out, List.map_map]
        exact hkp
      · exact (HFD.out.upd.mono fun b _ hb => .inl hb).trans HU.out fun b _ hb => .inr (by rw [HKL.out]; exact hb)
      · rw [HKL.out]
        exact hkq2 b hb (Nat.lt_of_lt_of_le hlt hs1)
      · obtain ⟨r, hr, rfl⟩ := List.mem_map.1 hf
        refine ⟨(hap r hr b hb).2 HNE.out, fun hf => ?_⟩
        have h1 := own_in (HFD.out.rq.rows r hr).own hb
        have h2 := hkq2 b hf h1.1
        have := hrq r hr b hb
        have := (hkr b h2).1
        omega
end Go.Proofs.YtageanmjdfodnaaGreatDoor
