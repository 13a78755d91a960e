/- A body takes bytes: http.body.take. -/
import Derived.Test.YtageanmjdfodnaaGreatDoorHttpBg
import Derived.Test.YtageanmjdfodnaaGreatDoorChunkI
import Derived.Deep.RegionLaw
namespace Go.Proofs.YtageanmjdfodnaaGreatDoor
open Go.RowKit Go.Cx Go.Maps

/-- the blocks that a body may write -/
def BFoot (bb : Nat) (gv : Value) (p : Option Nat) (cv : Value) : Nat → Prop := fun b => b = bb ∨ (p = none ∧ gv.ownBlock = some b) ∨ ∃ r, p = some r ∧ Foot r cv b
theorem BdAt.lt {w : World} {base bb : Nat} {gv cv : Value} {p : Option Nat} {d : Bd} (h : BdAt w base bb gv p cv d) : ∀ b, BFoot bb gv p cv b → b < w.heap.size ∧ base ≤ b := by
  rintro b (rfl | ⟨hp, hb⟩ | ⟨r, hr, hb⟩)
  · exact ⟨h.blk.lt, h.base⟩
  · cases hc : d.c with
    | none =>
      have ho := (h.own hc).2
      exact ⟨(own_in ho hb).1, own_from ho b hb⟩
    | some s =>
      obtain ⟨r, hr, _⟩ := h.chk s hc
      rw [hp] at hr
      cases hr
  · cases hc : d.c with
    | none =>
      rw [(h.own hc).1] at hr
      cases hr
    | some s =>
      obtain ⟨r', hr', hcr, _, hbb⟩ := h.chk s hc
      rw [hr] at hr'
      injection hr' with hr'
      subst hr'
      exact ⟨hcr.lt b hb, hbb b hb⟩
theorem BdAt.upd {w w' : World} {base bb : Nat} {gv cv : Value} {p : Option Nat} {d : Bd} {S : Nat → Prop} (h : BdAt w base bb gv p cv d) (k : Upd S w w') (hn : ∀ b, BFoot bb gv p cv b → ¬ S b) : BdAt w' base bb gv p cv d :=
  ⟨h.blk.upd k (hn bb (.inl rfl)), h.form, fun hc => ⟨(h.own hc).1, own_upd' (h.own hc).2 k fun b hb => hn b (.inr (.inl ⟨(h.own hc).1, hb⟩))⟩, fun s hs => by
    obtain ⟨r, hr, hcr, hi, hbb⟩ := h.chk s hs
    exact ⟨r, hr, hcr.upd k fun b hb => hn b (.inr (.inr ⟨r, hr, hb⟩)), hi, hbb⟩, h.left, h.got, h.base⟩
/-- a row of bytes does not lie in a block of other things -/
theorem rd_ne {w : World} {B n g : Nat} {ad : Addr} {l : List Nat} {t : TypeId} {cs : Array Value} (h : Rd w B 1 (some ad) n (byts l)) (hn : 0 < n) (hg : Blk w g t cs) (hc : ∀ v ∈ cs.toList, ∀ x, v ≠ .int .u8 x) : ad.block ≠ g := by
  intro e
  obtain ⟨ad', u, hA, _, hu, hcell⟩ := h.at (k := 0) hn
  injection hA with hA
  subst hA
  simp only [byts, List.getElem?_map, Option.map_eq_some_iff] at hu
  obtain ⟨b, _, rfl⟩ := hu
  have h1 : w.cell? ad = some (.int .u8 (b : Int)) := by simpa [Addr.add] using hcell
  unfold Blk at hg
  unfold World.cell? at h1
  rw [e, hg] at h1
  simp only at h1
  split at h1
  · cases h1
  · exact hc _ (List.mem_of_getElem? (by rw [Array.getElem?_toList]; exact h1)) _ rfl
theorem rd_set {w : World} {B n g i : Nat} {A : Option Addr} {l : List Nat} {v : Value} (h : Rd w B 1 A n (byts l)) (hne : ∀ ad, A = some ad → 0 < n → ad.block ≠ g) : Rd (w.setCell ⟨g, i, none⟩ v) B 1 A n (byts l) := by
  refine ⟨h.1, fun hn => ?_⟩
  obtain ⟨ad, hA, hB, hc⟩ := h.2 hn
  refine ⟨ad, hA, hB, fun j u hu => ?_⟩
  rw [World.cell?_setCell_other w ⟨g, i, none⟩ (ad.add j) v (fun e => hne ad hA hn (by rw [← block_add ad j, ← e]))]
  exact hc j u hu
theorem upd_own {w w' : World} {v : Value} (h : w.grownBy w' v.ownBlock) : Upd (fun b => v.ownBlock = some b) w w' := (Upd.refl _ _).grown h fun _ hb _ => hb
/-- what take answers -/
def TakeIs (base bb : Nat) (gv : Value) (p : Option Nat) (cv : Value) (r : (Nat × Bool × Nat) × Bd) (w : World) (e : Ending) (w' : World) : Prop :=
  e = .returned (.tuple #[.int .i64 r.1.1, .bool r.1.2.1, .int .i64 r.1.2.2]) ∧ Upd (BFoot bb gv p cv) w w' ∧
    ∃ gv' cv', BdAt w' base bb gv' p cv' r.2 ∧ (∀ b, BFoot bb gv' p cv' b → b < w.heap.size → BFoot bb gv p cv b) ∧ ∃ A c, gv' = .slice A r.2.got.length c ∧ Rd w' w'.heap.size 1 A r.2.got.length (byts r.2.got)
set_option maxRecDepth 100000 in
set_option maxHeartbeats 3200000 in
theorem take_chunk (base bb r0 : Nat) (gv cv : Value) (d : Bd) (s : CS) (A : Option Addr) (n c : Nat) (l : List Nat) (w : World) (h : BdAt w base bb gv (some r0) cv d) (hs : d.c = some s) (hx : Rd w w.heap.size 1 A n (byts l)) (hb : ∀ b ∈ l, b < 256) (hap : ∀ ad, A = some ad → 0 < n → ¬ BFoot bb gv (some r0) cv ad.block) (hn : n ≤ 140737488355328) (hB : base ≤ w.heap.size) :
    Calls Tryz.prog 84 #[.pointer (some ⟨bb, 0, none⟩), .slice A n c] w (TakeIs base bb gv (some r0) cv (takeB d l) w) := by
  obtain ⟨r, hr, hcr, hi, hbase⟩ := h.chk s hs
  injection hr with hr
  subst hr
  have htk : takeB d l = ((feed s l).1, { d with got := (feed s l).2.body, c := some (feed s l).2 }) := by unfold takeB; rw [hs]
  have hfi := feed_inv hi hb
  obtain ⟨fr, hfr⟩ : ∃ fr, feed s l = fr := ⟨_, rfl⟩
  rw [hfr] at htk hfi
  rw [htk]
  have hcell := h.blk.cell 3
  have hfeed := chunk_feed r0 cv s A n c l w hcr hi hx hb (fun ad h1 h2 h3 => hap ad h1 h2 (.inr (.inr ⟨r0, rfl, h3⟩))) hn
  rw [hfr] at hfeed
  have hbr : ∀ b, Foot r0 cv b → b ≠ bb := by
    rintro b (rfl | hb) he
    · exact Blk.ne hcr.1 h.blk (by decide) he
    · subst he
      exact own_ne_blk' hcr.2 h.blk (by decide) hb
  have HF := Lib.hid hfeed
  have H := Lib.hid h
  have HBR := Lib.hid hbr
  have HFI := Lib.hid hfi
  have HBA := Lib.hid hbase
  clear hs hcr hi hbase hx hb hap htk hfr hfeed h hbr hfi
  go_enter Tryz.func84, Tryz.ntmps84
  go_wp2_with fail
  refine HF.out.mono ?_
  rintro e w1 ⟨rfl, ⟨v1, hcr1, hmv⟩, hu1⟩
  have hb1 := H.out.blk.upd hu1 fun hf => HBR.out bb hf rfl
  have hc1 : ∀ i, w1.cell? ⟨bb, i, none⟩ = _ := fun i => hb1.cell i
  have HB1 := Lib.hid hb1
  have HCR1 := Lib.hid hcr1
  have HMV := Lib.hid hmv
  have HU1 := Lib.hid hu1
  clear hcell hb1 hcr1 hmv hu1
  go_wp2_with fail
  refine (chunk_body r0 v1 fr.2 w1 HCR1.out HFI.out).mono ?_
  rintro e w2 ⟨A2, n2, c2, rfl, hn2, hr2, hu2⟩
  have hb2 := HB1.out.upd hu2 (by simp)
  have hc2 := hb2.cell 2
  have hf2 := hb2.free 2
  have hg2 := hb2.lt
  have HB2 := Lib.hid hb2
  have HR2 := Lib.hid hr2
  have HU2 := Lib.hid hu2
  have HN2 := Lib.hid hn2
  clear hc1 hb2 hr2 hu2 hn2
  go_wp2_with fail
  refine bodyPost_ret (results_tmp3 rfl _ _ _) rfl ?_
  have hu : Upd (BFoot bb gv (some r0) cv) w (w2.setCell ⟨bb, 2, none⟩ (.slice A2 n2 c2)) :=
    (((HU1.out.mono fun b _ hf => .inr (.inr ⟨r0, rfl, hf⟩)).trans HU2.out fun _ _ h => h.elim).setCell (p := ⟨bb, 2, none⟩) (fun _ => .inl rfl) _)
  have hset : Upd (One bb) w2 (w2.setCell ⟨bb, 2, none⟩ (.slice A2 n2 c2)) := (Upd.refl (One bb) _).set rfl _
  obtain rfl := HN2.out
  have hold : ∀ b, Foot r0 v1 b → b < w.heap.size → Foot r0 cv b := fun b hb hlt => foot_old HMV.out hlt hb
  have hcr2 := HCR1.out.upd HU2.out (by simp)
  have hne : ∀ b, Foot r0 v1 b → b ≠ bb := by
    rintro b (rfl | hb) he
    · exact Blk.ne hcr2.1 HB2.out (by decide) he
    · subst he
      exact own_ne_blk' hcr2.2 HB2.out (by decide) hb
  have hrne : ∀ ad, A2 = some ad → 0 < fr.2.body.length → ad.block ≠ bb := by
    rintro ad rfl hp
    refine rd_ne HR2.out hp HB2.out ?_
    intro v hv x
    simp only [List.mem_cons, List.not_mem_nil, or_false] at hv
    obtain ⟨_, _, _, hform⟩ := H.out.form
    rw [hform] at hv
    rcases hv with rfl | rfl | rfl | rfl <;> simp
  refine ⟨rfl, hu, .slice A2 fr.2.body.length c2, v1, ⟨HB2.out.set 2 _, ⟨_, _, _, rfl⟩, fun hc => (by cases hc), fun s hs => ?_, H.out.left, HFI.out.bytes, H.out.base⟩, ?_, A2, c2, rfl, ?_⟩
  · injection hs with hs
    subst hs
    refine ⟨r0, rfl, hcr2.upd hset fun b hb h => hne b hb h, HFI.out, fun b hb => ?_⟩
    by_cases hlt : b < w.heap.size
    · exact HBA.out b (hold b hb hlt)
    · omega
  · rintro b (rfl | ⟨hp, _⟩ | ⟨r, hr, hb⟩) hlt
    · exact .inl rfl
    · cases hp
    · injection hr with hr
      subst hr
      exact .inr (.inr ⟨_, rfl, hold b hb hlt⟩)
  · have := rd_set (i := 2) (v := .slice A2 fr.2.body.length c2) HR2.out hrne
    simpa using this
set_option maxRecDepth 100000 in
set_option maxHeartbeats 3200000 in
theorem take_long (base bb : Nat) (gv cv : Value) (d : Bd) (A : Option Addr) (n c : Nat) (l : List Nat) (w : World) (h : BdAt w base bb gv none cv d) (hs : d.c = none) (hx : Rd w w.heap.size 1 A n (byts l)) (hb : ∀ b ∈ l, b < 256) (hap : ∀ ad, A = some ad → 0 < n → ¬ BFoot bb gv none cv ad.block) (hn : n ≤ 140737488355328) (hnc : n ≤ c) (hB : base ≤ w.heap.size) (hgl : d.got.length + d.left ≤ 65535) :
    Calls Tryz.prog 84 #[.pointer (some ⟨bb, 0, none⟩), .slice A n c] w (TakeIs base bb gv none cv (takeB d l) w) := by
  obtain ⟨i1, hi1, hy0, hy1, hy2⟩ := info_parts infoU8
  have hlen := hx.1
  simp only [byts, List.length_map, Nat.mul_one] at hlen
  have htk : takeB d l = ((min d.left l.length, decide (d.left ≤ l.length), 0), { d with got := d.got ++ l.take d.left, left := d.left - l.length }) := by unfold takeB; rw [hs]
  have HTK := Lib.hid htk
  obtain ⟨Ag, ng, cg, rfl⟩ := h.form
  have hown := (h.own hs).2
  obtain rfl : ng = d.got.length := by
    rcases hown.2 with ⟨e, h0⟩ | ⟨g, cap, cur, e, _⟩
    · injection e with e1 e2 e3; omega
    · injection e
  have hleft := h.left
  have H := Lib.hid h
  have HO := Lib.hid hown
  have HX := Lib.hid hx
  have HBY := Lib.hid hb
  have HAP := Lib.hid hap
  have HS := Lib.hid hs
  have hc : ∀ i, w.cell? ⟨bb, i, none⟩ = _ := fun i => h.blk.cell i
  have hf : ∀ i, w.frozen? ⟨bb, i, none⟩ = _ := fun i => h.blk.free i
  have hgl2 := h.blk.lt
  obtain ⟨dl, hdl⟩ : ∃ dl, d.left = dl := ⟨_, rfl⟩
  obtain ⟨gl, hgll⟩ : ∃ gl, d.got.length = gl := ⟨_, rfl⟩
  obtain ⟨m, hm⟩ : ∃ m, min dl n = m := ⟨_, rfl⟩
  have HDL := Lib.hid hdl
  have HGL := Lib.hid hgll
  have HM := Lib.hid hm
  have HLEN := Lib.hid hlen
  rw [hdl] at hc hgl hleft
  rw [hgll] at hc hgl HO
  have hmd : m ≤ dl := by omega
  have hmn : m ≤ n := by omega
  have hp0 : w.cell? ⟨bb, 3, none⟩ = some (.pointer none) := hc 3
  clear h hown hx hb hap hs htk hm hlen
  rw [hgll]
  clear hgll hdl
  go_enter Tryz.func84, Tryz.ntmps84
  go_upto_region 5 with fail
  go_cut [10] (fun s10 wx => w = wx ∧ s10 = .int .i64 m)
  case first =>
    have hmm := HM.out
    go_wp2_with fail
    go_meet
    exact ⟨rfl, congrArg (Value.int .i64) (by omega)⟩
  case rest =>
  obtain ⟨rfl, rfl⟩ := hcut
  have hsrc : ∀ q, Rd (w.drewN q) w.heap.size 1 A m (byts (l.take m)) := fun q => by
    have h1 := (HX.out.front (k := m) hmn).drewN q
    rw [Nat.mul_one] at h1
    simpa [byts, List.map_take] using h1
  have HSRC := Lib.hid hsrc
  have hob : ∀ b, (Value.slice Ag gl cg).ownBlock = some b → b ≠ bb := fun b hb e => by
    subst e
    exact own_ne_blk' HO.out H.out.blk (by decide) hb
  have HOB := Lib.hid hob
  have hml : gl + m ≤ maxLen := by unfold maxLen; omega
  have hmc : m ≤ c := by omega
  clear hsrc hob
  go_wp2_with fail
  go_region_law (refine step_app _ rfl (.tmp 48) (.tmp 51) 29 rfl base 5 i1 _ 1 1 Tryz.underlying29 hi1 hy0 hy1 hy2 rfl (by omega) (.slice Ag gl cg) gl (byts d.got) rfl (HO.out.drewN 1) w.heap.size A m c (byts (l.take m)) rfl (HSRC.out 1) (by intro u hu; simp only [byts, List.mem_map] at hu; obtain ⟨b, _, rfl⟩ := hu; rfl) hml (by omega) (by simp; omega) ?_; intro A5 c5 w5 hown5 hg5 hat5; have hb5 := (H.out.blk.drewN 1).upd (upd_own hg5) (fun h => HOB.out bb h rfl); have hc5 := hb5.cell 2; have hf5 := hb5.free 2)
  all_goals
    have hc51 : w5.cell? ⟨bb, 1, none⟩ = some (.int .i64 dl) := by rw [← HDL.out]; exact hb5.cell 1
    have hf51 := hb5.free 1
    have hmdi : (m : Int) ≤ (dl : Int) := by omega
    have hg51 := hb5.lt
    go_wp2_with fail
    have hq : (((dl : Int) - (m : Int)) == 0) = decide (dl ≤ n) := by
      have := HM.out
      by_cases h : dl ≤ n
      · rw [decide_eq_true h]; simp; omega
      · rw [decide_eq_false h]; simp; omega
    have HQ := Lib.hid hq
    clear hq
    go_quiet (fail)
    go_wp2_with fail
    refine bodyPost_ret (results_tmp3 rfl _ _ _) rfl ?_
    have hDL := HDL.out
    have hGL := HGL.out
    have hL := HLEN.out
    have hM := HM.out
    have htk : l.take d.left = l.take m := by
      rw [hDL]
      by_cases h : dl ≤ n
      · rw [show m = dl by omega]
      · rw [List.take_of_length_le (by omega), List.take_of_length_le (by omega)]
    have hgot : (d.got ++ l.take d.left).length = gl + m := by rw [List.length_append, htk, List.length_take]; omega
    have hdm : ((d.left - l.length : Nat) : Int) = (dl : Int) - (m : Int) := by omega
    have hnb : ∀ b, (Value.slice A5 (gl + m) c5).ownBlock = some b → b ≠ bb ∧ (b < w.heap.size → (Value.slice Ag gl cg).ownBlock = some b) := fun b hb => by
      rcases hat5 with h5 | h5
      · rw [h5] at hb
        exact ⟨HOB.out b hb, fun _ => hb⟩
      · rw [h5] at hb
        injection hb with hb
        have hb : w.heap.size = b := hb
        exact ⟨by omega, fun h => by omega⟩
    have hk2 : Upd (One bb) w5 (((w5.setCell ⟨bb, 2, none⟩ (.slice A5 (gl + m) c5)).setCell ⟨bb, 1, none⟩ (.int .i64 ((dl : Int) - (m : Int)))).drewN nq) := (((Upd.refl (One bb) _).set rfl _).set rfl _).drewN _
    have hown6 := own_upd' hown5 hk2 fun b hb h => (hnb b hb).1 h
    have hbk6 := ((hb5.set 2 (.slice A5 (gl + m) c5)).set 1 (.int .i64 ((dl : Int) - (m : Int)))).drewN nq
    rw [HTK.out, HQ.out]
    refine ⟨by rw [hDL, hL, hM]; rfl, ((((((Upd.refl _ _).drewN 1).grown hg5 fun b hb _ => .inr (.inl ⟨rfl, hb⟩)).set (.inl rfl) _).set (.inl rfl) _).drewN _), .slice A5 (gl + m) c5, cv, ⟨?_, ⟨_, _, _, rfl⟩, fun _ => ⟨rfl, ?_⟩, fun s h => ?_, ?_, ?_, H.out.base⟩, ?_, A5, c5, by rw [hgot], ?_⟩
    · simp only [hdm]
      exact hbk6
    · simp only [hgot]
      rw [htk, byts, List.map_append]
      exact hown6
    · have h : d.c = some s := h
      rw [HS.out] at h
      cases h
    · simp only
      omega
    · intro b hb
      rcases List.mem_append.1 hb with hb | hb
      · exact H.out.got b hb
      · exact HBY.out b (List.mem_of_mem_take hb)
    · rintro b (rfl | ⟨_, hb⟩ | ⟨r, hr, _⟩) hlt
      · exact .inl rfl
      · exact .inr (.inl ⟨rfl, (hnb b hb).2 hlt⟩)
      · cases hr
    · simp only [hgot]
      rw [htk, byts, List.map_append]
      exact Rd.own hown6
end Go.Proofs.YtageanmjdfodnaaGreatDoor
