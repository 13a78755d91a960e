/- stream: New, Feed; what is fed in parts is told as if it came at once. -/
import Derived.Test.YtageanmjdfodnaaGreatDoorStrQ
namespace Go.Proofs.YtageanmjdfodnaaGreatDoor
open Go.RowKit Go.Cx Go.Maps

/-- a stream: frames and what waits, or requests (what waits, a body that comes, which were kept) -/
inductive SS where
  | fr (l : List Nat)
  | ht (l : List Nat) (bd : Option Bd) (ks : List Bool)
def feedS : SS → List Nat → List Fr × SS
  | .fr l, x => ((framesP (l ++ x)).1.map (fun b => ⟨false, b⟩), .fr (framesP (l ++ x)).2)
  | .ht l bd ks, x => ((feedH ⟨false, l, bd⟩ x).1.1.map (fun r => ⟨false, r.body⟩), .ht (feedH ⟨false, l, bd⟩ x).2.b (feedH ⟨false, l, bd⟩ x).2.body (ks ++ (feedH ⟨false, l, bd⟩ x).1.1.map Rq.keep))
def OkS : SS → List Nat → Prop
  | .fr l, x => l.length + x.length ≤ 1000000000
  | .ht l bd ks, x => l.length ≤ 2000 ∧ x.length ≤ 1000000000 ∧ ks.length ≤ 1000000000 ∧ (feedH ⟨false, l, bd⟩ x).2.ended = false
def startS (http : Bool) : SS := if http then .ht [] none [] else .fr []
/-- p was fed, frs were told -/
def FedS (http : Bool) : SS → List Nat → List Fr → Prop
  | .fr l, p, frs => http = false ∧ frs = (framesP p).1.map (fun b => ⟨false, b⟩) ∧ l = (framesP p).2
  | .ht l bd ks, p, frs => http = true ∧ ∃ rs, Fed p rs ⟨false, l, bd⟩ ∧ frs = rs.map (fun r => ⟨false, r.body⟩) ∧ ks = rs.map Rq.keep
def WholeS (http : Bool) (all : List Nat) (frs : List Fr) : Prop :=
  if http then ∃ rs, feedW ⟨false, all, none⟩ [] = ((rs, 0), ⟨false, [], none⟩) ∧ frs = rs.map (fun r => ⟨false, r.body⟩) else frs = (framesP all).1.map (fun b => ⟨false, b⟩)
theorem FedS.start (http : Bool) : FedS http (startS http) [] [] := by
  cases http with
  | false => exact ⟨rfl, rfl, rfl⟩
  | true => exact ⟨rfl, [], Fed.start, rfl, rfl⟩
theorem framesP_left : ∀ (k : Nat) (z : List Nat), z.length < k → (framesP z).2.length ≤ z.length
  | 0, _, h => by omega
  | k + 1, z, h => by
    rw [framesP_eq]
    cases hs : (sizeP z).2 with
    | false => simp
    | true =>
      have h2 := sizeP_two z hs
      have h3 := framesP_left k (z.drop (sizeP z).1) (by rw [List.length_drop]; omega)
      rw [List.length_drop] at h3
      simp only [if_true]
      omega
theorem Fed.count {p : List Nat} {rs : List Rq} {s : HS} (h : Fed p rs s) : rs.length ≤ p.length + 1 := by
  have h1 := feedN_len (mz ⟨false, p, none⟩ + 1) ⟨false, p, none⟩ []
  have h2 := h.1
  unfold feedW at h2
  rw [h2] at h1
  unfold mz at h1
  simpa using h1
theorem FedS.more {http : Bool} {σ : SS} {p x q : List Nat} {frs all : List Fr} (h : FedS http σ p frs) (hw : WholeS http (p ++ x ++ q) all) (hsz : p.length + x.length ≤ 100000000) :
    OkS σ x ∧ FedS http (feedS σ x).2 (p ++ x) (frs ++ (feedS σ x).1) := by
  cases σ with
  | fr l =>
    obtain ⟨rfl, rfl, rfl⟩ := h
    have h1 := framesP_left _ p (Nat.lt_succ_self _)
    refine ⟨by show (framesP p).2.length + x.length ≤ 1000000000; omega, rfl, ?_, ?_⟩
    · simp only [feedS]
      rw [framesP_app p x, List.map_append]
    · rw [framesP_app p x]
  | ht l bd ks =>
    obtain ⟨rfl, rs, hf, rfl, rfl⟩ := h
    unfold WholeS at hw
    simp only [if_true] at hw
    obtain ⟨ra, ha, _⟩ := hw
    obtain ⟨rs2, s2, h2, h3, _⟩ := hf.more ha rfl
    have hsm := Fed.small hf
    have hc := hf.count
    refine ⟨⟨hsm, by omega, by rw [List.length_map]; omega, by rw [h2]; exact h3.2⟩, rfl, rs ++ rs2, ?_, ?_, ?_⟩
    · rw [h2]
      obtain ⟨e, b, bo⟩ := s2
      have he : e = false := h3.2
      subst he
      exact h3
    · simp only [feedS]
      rw [h2, List.map_append]
    · rw [h2, List.map_append]
theorem FedS.whole {http : Bool} {σ : SS} {p : List Nat} {frs all : List Fr} (h : FedS http σ p frs) (hw : WholeS http p all) : frs = all := by
  cases σ with
  | fr l =>
    obtain ⟨rfl, rfl, rfl⟩ := h
    unfold WholeS at hw
    simpa using hw.symm
  | ht l bd ks =>
    obtain ⟨rfl, rs, hf, rfl, rfl⟩ := h
    unfold WholeS at hw
    simp only [if_true] at hw
    obtain ⟨ra, ha, rfl⟩ := hw
    rw [hf.1] at ha
    injection ha with ha _
    injection ha with ha _
    rw [ha]
/-- where a stream is -/
inductive SV where
  | fr (pr : Nat) (bv : Value)
  | ht (qb rb : Nat) (bv : Value) (body : Option BdV) (kv : Value)
def SV.iface : SV → Value
  | .fr pr _ => .iface 48 (.agg #[.pointer (some ⟨pr, 0, none⟩)])
  | .ht qb _ _ _ _ => .iface 49 (.pointer (some ⟨qb, 0, none⟩))
def SV.foot : SV → Nat → Prop
  | .fr pr bv => PFoot pr bv
  | .ht qb rb bv body kv => fun b => RFoot rb bv body b ∨ KFoot qb kv b
def SInner (w : World) (base : Nat) : SV → SS → Prop
  | .fr pr bv, .fr l => PfR w base pr bv l
  | .ht qb rb bv body kv, .ht l bd ks => RdW w base rb bv l body ∧ body.map BdV.d = bd ∧ KpAt w base qb rb kv ks
  | _, _ => False
structure StAt (w : World) (base sb : Nat) (v : SV) (σ : SS) : Prop where
  blk : Blk w sb 56 #[v.iface, .bool false]
  inner : SInner w base v σ
  ge : base ≤ sb
def SFoot (sb : Nat) (v : SV) : Nat → Prop := fun b => b = sb ∨ v.foot b
theorem SInner.lt {w : World} {base : Nat} {v : SV} {σ : SS} (h : SInner w base v σ) : ∀ b, v.foot b → b < w.heap.size ∧ base ≤ b := by
  match v, σ, h with
  | .fr pr bv, .fr l, h => exact fun b hb => PfR.lt h b hb
  | .ht qb rb bv body kv, .ht l bd ks, h =>
    rintro b (hb | hb)
    · exact h.1.lt b hb
    · exact h.2.2.lt b hb
theorem SInner.upd {w w' : World} {base : Nat} {v : SV} {σ : SS} {S : Nat → Prop} (h : SInner w base v σ) (k : Upd S w w') (hn : ∀ b, v.foot b → ¬ S b) : SInner w' base v σ := by
  match v, σ, h with
  | .fr pr bv, .fr l, h => exact PfR.upd h k hn
  | .ht qb rb bv body kv, .ht l bd ks, h => exact ⟨h.1.upd k fun b hb => hn b (.inl hb), h.2.1, h.2.2.upd k fun b hb => hn b (.inr hb)⟩
theorem SInner.not_sb {w : World} {base sb : Nat} {v : SV} {σ : SS} {cs : Array Value} (h : SInner w base v σ) (hb : Blk w sb 56 cs) : ¬ v.foot sb := by
  match v, σ, h with
  | .fr pr bv, .fr l, h =>
    have h : PfR w base pr bv l := h
    rintro (rfl | hv)
    · exact Blk.ne hb h.blk (by decide) rfl
    · exact lies_ne h.buf hb (by decide) hv
  | .ht qb rb bv body kv, .ht l bd ks, h =>
    have h1 : RdW w base rb bv l body := h.1
    rintro ((rfl | hb2 | ⟨x, hx, hb2⟩) | (rfl | hv))
    · exact Blk.ne hb h1.blk (by decide) rfl
    · exact lies_ne h1.buf hb (by decide) hb2
    · exact (h1.bd x hx).1.not_blk hb (by decide) (by decide) (by decide) hb2
    · exact Blk.ne hb h.2.2.blk (by decide) rfl
    · exact own_ne_blk' h.2.2.own hb (by decide) hv
theorem StAt.lt {w : World} {base sb : Nat} {v : SV} {σ : SS} (h : StAt w base sb v σ) : ∀ b, SFoot sb v b → b < w.heap.size ∧ base ≤ b := by
  rintro b (rfl | hb)
  · exact ⟨h.blk.lt, h.ge⟩
  · exact h.inner.lt b hb
theorem StAt.upd {w w' : World} {base sb : Nat} {v : SV} {σ : SS} {S : Nat → Prop} (h : StAt w base sb v σ) (k : Upd S w w') (hn : ∀ b, SFoot sb v b → ¬ S b) : StAt w' base sb v σ :=
  ⟨h.blk.upd k (hn sb (.inl rfl)), h.inner.upd k fun b hb => hn b (.inr hb), h.ge⟩
def SFeedIs (base sb : Nat) (v : SV) (σ : SS) (x : List Nat) (w : World) (e : Ending) (w' : World) : Prop :=
  ∃ (A : Option Addr) (c : Nat) (fs : List FrV) (v' : SV), e = .returned (.slice A fs.length c) ∧ fs.map FrV.said = (feedS σ x).1 ∧ FrsOwn w.heap.size A c fs w' ∧ StAt w' base sb v' (feedS σ x).2 ∧ Upd (SFoot sb v) w w' ∧ (∀ b, SFoot sb v' b → b < w.heap.size → SFoot sb v b) ∧
    ∀ f ∈ fs, ∀ b, f.row.val.ownBlock = some b → ¬ SFoot sb v' b
set_option maxRecDepth 100000 in
theorem st_open (w : World) (sb : Nat) (v : SV) (h : Blk w sb 56 #[v.iface, .bool false]) : Calls Tryz.prog 17 #[.pointer (some ⟨sb, 0, none⟩)] w fun e w' => e = .returned (.bool true) ∧ w = w' := by
  have hc : ∀ i, w.cell? ⟨sb, i, none⟩ = _ := fun i => h.cell i
  clear h
  cases v
  all_goals
    unfold SV.iface at hc
    go_enter Tryz.func17, Tryz.ntmps17
    go_wp2
    go_ret
    exact ⟨rfl, rfl⟩
set_option maxRecDepth 100000 in
theorem meth_feed1 (r : Nat) (w : World) : (method 289 48 (.agg #[.pointer (some ⟨r, 0, none⟩)]) "cicerone/stream.feed").run Tryz.prog w = .ok (73, .agg #[.pointer (some ⟨r, 0, none⟩)]) w := by kernel_rfl
set_option maxRecDepth 100000 in
theorem meth_feed2 (r : Nat) (w : World) : (method 289 49 (.pointer (some ⟨r, 0, none⟩)) "cicerone/stream.feed").run Tryz.prog w = .ok (77, .pointer (some ⟨r, 0, none⟩)) w := by kernel_rfl
set_option maxRecDepth 100000 in
set_option maxHeartbeats 3200000 in
theorem stream_feed_fr (base sb pr : Nat) (bv : Value) (l : List Nat) (A : Option Addr) (n c : Nat) (x : List Nat) (w : World) (h : StAt w base sb (.fr pr bv) (.fr l)) (hx : Rd w w.heap.size 1 A n (byts x)) (hxb : ∀ b ∈ x, b < 256) (hok : OkS (.fr l) x) (hB : base ≤ w.heap.size) :
    Calls Tryz.prog 7 #[.pointer (some ⟨sb, 0, none⟩), .slice A n c] w (SFeedIs base sb (.fr pr bv) (.fr l) x w) := by
  have hc : ∀ i, w.cell? ⟨sb, i, none⟩ = _ := fun i => h.blk.cell i
  have hxl := hx.1
  simp only [byts, List.length_map, Nat.mul_one] at hxl
  have hop := st_open w sb _ h.blk
  have hfd := frames_feed base pr bv l A n c x w h.inner hx hxb (by unfold OkS at hok; omega) hB
  have HOP := Lib.hid hop
  have HFD := Lib.hid hfd
  have H := Lib.hid h
  unfold SV.iface at hc
  clear h hx hxb hok hop hfd hxl
  have hm := meth_feed1 pr
  go_enter Tryz.func7, Tryz.ntmps7
  go_wp2_with (first | (go_at_call 17; refine HOP.out.mono ?_; rintro e w' ⟨rfl, rfl⟩) | (go_at_call 73; refine HFD.out.mono ?_; rintro e w1 ⟨A1, c1, fs, bv1, rfl, h1, h2, h3, h4, h5, h6⟩))
  go_ret
  have hnsb : ¬ PFoot pr bv sb := H.out.inner.not_sb H.out.blk
  have hlt : sb < w.heap.size := H.out.blk.lt
  refine ⟨A1, c1, fs, .fr pr bv1, rfl, h1, h2, ⟨H.out.blk.upd h4 hnsb, h3, H.out.ge⟩, h4.mono fun b _ hb => .inr hb, fun b hb hl => ?_, fun f hf b hb => ?_⟩
  · rcases hb with rfl | rfl | hb
    · exact .inl rfl
    · exact .inr (.inl rfl)
    · exact .inr (.inr (h5 b hb hl))
  · rintro (rfl | hb2)
    · have := own_ge (h2.rows f hf).1 b hb
      omega
    · exact h6 f hf b hb hb2
set_option maxRecDepth 100000 in
set_option maxHeartbeats 3200000 in
theorem stream_feed_ht (base sb qb rb : Nat) (bv : Value) (body : Option BdV) (kv : Value) (l : List Nat) (bd : Option Bd) (ks : List Bool) (A : Option Addr) (n c : Nat) (x : List Nat) (w : World) (h : StAt w base sb (.ht qb rb bv body kv) (.ht l bd ks)) (hx : Rd w w.heap.size 1 A n (byts x)) (hxb : ∀ b ∈ x, b < 256) (hok : OkS (.ht l bd ks) x) (hB : base ≤ w.heap.size) :
    Calls Tryz.prog 7 #[.pointer (some ⟨sb, 0, none⟩), .slice A n c] w (SFeedIs base sb (.ht qb rb bv body kv) (.ht l bd ks) x w) := by
  have hc : ∀ i, w.cell? ⟨sb, i, none⟩ = _ := fun i => h.blk.cell i
  have hxl := hx.1
  simp only [byts, List.length_map, Nat.mul_one] at hxl
  have hop := st_open w sb _ h.blk
  obtain ⟨hi1, hi2, hi3⟩ : RdW w base rb bv l body ∧ body.map BdV.d = bd ∧ KpAt w base qb rb kv ks := h.inner
  obtain ⟨ho1, ho2, ho3, ho4⟩ := hok
  subst hi2
  have hfd := req_feed base qb rb bv l body kv ks A n c x w hi1 hi3 hx hxb ho1 (by omega) ho3 hB ho4
  have HOP := Lib.hid hop
  have HFD := Lib.hid hfd
  have H := Lib.hid h
  unfold SV.iface at hc
  have hm := meth_feed2 qb
  clear h hx hxb hop hfd hxl hi1 hi3 ho1 ho2 ho3 ho4
  go_enter Tryz.func7, Tryz.ntmps7
  go_wp2_with (first | (go_at_call 17; refine HOP.out.mono ?_; rintro e w' ⟨rfl, rfl⟩) | (go_at_call 77; refine HFD.out.mono ?_; rintro e w1 ⟨A1, c1, fs, bv1, body1, kv1, rfl, h1, h2, h3, h4, h5, h6, h7, h8, h9⟩))
  go_ret
  have hnsb : ¬ (RFoot rb bv body sb ∨ KFoot qb kv sb) := H.out.inner.not_sb H.out.blk
  have hlt : sb < w.heap.size := H.out.blk.lt
  refine ⟨A1, c1, fs, .ht qb rb bv1 body1 kv1, rfl, h1, h2, ⟨H.out.blk.upd h6 hnsb, ⟨h3, h4, h5⟩, H.out.ge⟩, h6.mono fun b _ hb => .inr hb, fun b hb hl => ?_, fun f hf b hb => ?_⟩
  · rcases hb with rfl | hb | hb
    · exact .inl rfl
    · exact .inr (.inl (h7 b hb hl))
    · exact .inr (.inr (h8 b hb hl))
  · rintro (rfl | hb2 | hb2)
    · have := own_ge (h2.rows f hf).1 b hb
      omega
    · exact (h9 f hf b hb).1 hb2
    · exact (h9 f hf b hb).2 hb2
theorem stream_feed (base sb : Nat) (v : SV) (σ : SS) (A : Option Addr) (n c : Nat) (x : List Nat) (w : World) (h : StAt w base sb v σ) (hx : Rd w w.heap.size 1 A n (byts x)) (hxb : ∀ b ∈ x, b < 256) (hok : OkS σ x) (hB : base ≤ w.heap.size) :
    Calls Tryz.prog 7 #[.pointer (some ⟨sb, 0, none⟩), .slice A n c] w (SFeedIs base sb v σ x w) := by
  match v, σ, h, hok with
  | .fr pr bv, .fr l, h, hok => exact stream_feed_fr base sb pr bv l A n c x w h hx hxb hok hB
  | .ht qb rb bv body kv, .ht l bd ks, h, hok => exact stream_feed_ht base sb qb rb bv body kv l bd ks A n c x w h hx hxb hok hB
  | .fr _ _, .ht _ _ _, h, _ => exact h.inner.elim
  | .ht _ _ _ _ _, .fr _, h, _ => exact h.inner.elim
set_option maxRecDepth 100000 in
theorem http_new0 (w : World) : Calls Tryz.prog 14 #[] w fun e w' => e = .returned (.pointer (some ⟨w.heap.size, 0, none⟩)) ∧ w' = w.alloc (.cells #[.bool true, .bool false, .slice none 0 0, .pointer none] 73) := by
  go_enter Tryz.func14, Tryz.ntmps14
  go_wp2
  go_ret
  exact ⟨rfl, rfl⟩
def NewIs (http : Bool) (w : World) (e : Ending) (w' : World) : Prop :=
  ∃ (sb : Nat) (v : SV), e = .returned (.tuple #[.pointer (some ⟨sb, 0, none⟩), .int .i64 0]) ∧ StAt w' w.heap.size sb v (startS http) ∧ Upd Nix w w'
set_option maxRecDepth 100000 in
theorem stream_new (http : Bool) (w : World) : Calls Tryz.prog 4 #[.int .i64 (if http then 2 else 1)] w (NewIs http w) := by
  cases http with
  | false =>
    simp only [Bool.false_eq_true, if_false]
    go_enter Tryz.func4, Tryz.ntmps4
    go_wp2_with (go_at_call 10; refine (prefix_new _).mono ?_; rintro e w' ⟨rfl, rfl⟩)
    go_ret2
    refine ⟨w.heap.size + 1, .fr w.heap.size (.slice none 0 0), rfl, ⟨Blk.new' _ _ _ (by simp), ?_, by omega⟩, ((Upd.refl _ _).alloc _).alloc _⟩
    exact ⟨(Blk.new _ _ _).alloc _, Lies.nil _ _ _, fun b hb => (by cases hb), Nat.le_refl _⟩
  | true =>
    simp only [if_true]
    go_enter Tryz.func4, Tryz.ntmps4
    go_wp2_with (go_at_call 14; refine (http_new0 _).mono ?_; rintro e w' ⟨rfl, rfl⟩)
    go_ret2
    refine ⟨w.heap.size + 1 + 1, .ht (w.heap.size + 1) w.heap.size (.slice none 0 0) none (.slice none 0 0), rfl, ⟨Blk.new' _ _ _ (by simp), ⟨?_, rfl, ?_⟩, by omega⟩, (((Upd.refl _ _).alloc _).alloc _).alloc _⟩
    · exact ⟨((Blk.new _ _ _).alloc _).alloc _, Lies.nil _ _ _, fun b hb => (by cases hb), Nat.le_refl _, fun x hx => (by cases hx)⟩
    · exact ⟨(Blk.new' _ _ _ (by simp)).alloc _, ⟨rfl, .inl ⟨rfl, rfl⟩⟩, by omega⟩
end Go.Proofs.YtageanmjdfodnaaGreatDoor
