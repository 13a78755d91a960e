/- ciceroneref13: Feed. -/
import Derived.Test.YtbiapeplkegjlaaGreatDoorR13G
namespace Go.Proofs.YtbiapeplkegjlaaGreatDoor
open Go.RowKit Go.Cx Go.Maps

/-- what may not be touched by others: the reader, its body, the bytes that wait -/
def XAll (rb : Nat) (bv : Value) (body : Option XBd) : Nat → Prop := fun b => XFoot rb body b ∨ bv.ownBlock = some b
/-- a reader of the document, the requests told so far -/
structure XFdAt (w0 : World) (base rb : Nat) (S0 : Nat → Prop) (s : HS) (bv : Value) (body : Option XBd) (A : Option Addr) (c : Nat) (rqs : List ReqV) (wr : World) : Prop where
  off : s.ended = true → ∃ a b c d f g, Blk wr rb 29 #[a, .bool true, b, c, d, f, g]
  on : s.ended = false → XRd wr base rb bv s.b body ∧ body.map XBd.d = s.body ∧ (∀ b, XFoot rb body b → b < w0.heap.size → S0 b) ∧ ∀ b, bv.ownBlock = some b → w0.heap.size ≤ b
  upd : Upd S0 w0 wr
  rq : ReqsOwn w0.heap.size A c rqs wr
  apart : ∀ r ∈ rqs, ∀ b, (Value.slice r.row.A r.row.n r.row.c).ownBlock = some b → b ≠ rb ∧ (s.ended = false → ¬ XAll rb bv body b)
theorem XFdAt.slice_apart {w0 : World} {base rb : Nat} {S0 : Nat → Prop} {s : HS} {bv : Value} {body : Option XBd} {A : Option Addr} {c : Nat} {rqs : List ReqV} {wr : World} (h : XFdAt w0 base rb S0 s bv body A c rqs wr) (he : s.ended = false) :
    ∀ b, (Value.slice A rqs.length c).ownBlock = some b → ¬ XAll rb bv body b := by
  obtain ⟨h1, h2, h3, h4⟩ := h.on he
  intro b hb
  obtain ⟨_, cs, hc⟩ := own_in h.rq.out hb
  obtain ⟨_, _, _, _, _, hbl⟩ := h1.blk
  rintro ((rfl | ⟨x, hx, hb2⟩) | hb2)
  · exact Blk.ne (t := 51) hc hbl (by decide) rfl
  · exact (h1.bd x hx).1.not_blk (t := 51) hc (by decide) (by decide) hb2
  · exact lies_ne h1.buf (t := 51) hc (by decide) hb2
theorem XRd.quiet {w w' : World} {base rb : Nat} {bv : Value} {l : List Nat} {body : Option XBd} (h : XRd w base rb bv l body) (k : Upd Nix w w') : XRd w' base rb bv l body := h.upd k (fun _ _ h => h) (fun _ _ h => h)
theorem XRd.all_lt {w : World} {base rb : Nat} {bv : Value} {l : List Nat} {body : Option XBd} (h : XRd w base rb bv l body) : ∀ b, XAll rb bv body b → b < w.heap.size ∧ base ≤ b := by
  rintro b (hb | hb)
  · exact h.lt.1 b hb
  · exact h.lt.2 b hb
theorem XFdAt.quiet {w0 : World} {base rb : Nat} {S0 : Nat → Prop} {s : HS} {bv : Value} {body : Option XBd} {A : Option Addr} {c : Nat} {rqs : List ReqV} {wr w' : World} (h : XFdAt w0 base rb S0 s bv body A c rqs wr) (k : Upd Nix wr w') : XFdAt w0 base rb S0 s bv body A c rqs w' :=
  ⟨fun he => by
    obtain ⟨_, _, _, _, _, _, hb⟩ := h.off he
    exact ⟨_, _, _, _, _, _, hb.upd k fun h => h⟩, fun he => by
    obtain ⟨h1, h2⟩ := h.on he
    exact ⟨h1.quiet k, h2⟩, h.upd.trans k fun _ _ h => h.elim, h.rq.upd k (fun _ _ h => h) (fun _ _ _ _ h => h), h.apart⟩
def XFeedIs (base rb : Nat) (l : List Nat) (body : Option XBd) (x : List Nat) (w : World) (e : Ending) (w' : World) : Prop :=
  ∃ (A : Option Addr) (c : Nat) (rqs : List ReqV) (bv' : Value) (body' : Option XBd), e = .returned (.tuple #[.slice A rqs.length c, .int .i64 ((feedH ⟨false, l, body.map XBd.d⟩ x).1.2 : Nat)]) ∧ rqs.map ReqV.said = (feedH ⟨false, l, body.map XBd.d⟩ x).1.1 ∧
    XFdAt w base rb (XFoot rb body) (feedH ⟨false, l, body.map XBd.d⟩ x).2 bv' body' A c rqs w'
theorem xfeed_fin {base rb : Nat} {l : List Nat} {body : Option XBd} {x : List Nat} {w w' : World} {A : Option Addr} {c e q : Nat} {rqs : List ReqV} {bv' : Value} {body' : Option XBd} {s' : HS} (h : feedH ⟨false, l, body.map XBd.d⟩ x = ((rqs.map ReqV.said, e), s')) (hq : rqs.length = q)
    (hf : XFdAt w base rb (XFoot rb body) s' bv' body' A c rqs w') : XFeedIs base rb l body x w (.returned (.tuple #[.slice A q c, .int .i64 (e : Nat)])) w' := by
  subst hq
  exact ⟨A, c, rqs, bv', body', by rw [h], by rw [h], by rw [h]; exact hf⟩
/-- it is let go: the reader's block is all that was written -/
theorem XFdAt.shut {w0 : World} {base rb : Nat} {S0 S1 : Nat → Prop} {s s' : HS} {bv : Value} {body : Option XBd} {A : Option Addr} {c : Nat} {rqs : List ReqV} {wr w' : World} (h : XFdAt w0 base rb S0 s bv body A c rqs wr) (he : s.ended = false) (hk : Upd S1 wr w') (hS : ∀ b, b < wr.heap.size → S1 b → XFoot rb body b)
    (hb : ∃ a b c d f g, Blk w' rb 29 #[a, .bool true, b, c, d, f, g]) (he' : s'.ended = true) : XFdAt w0 base rb S0 s' bv body A c rqs w' := by
  obtain ⟨h1, h2, h3, h4⟩ := h.on he
  have hS' : Upd (XFoot rb body) wr w' := hk.mono hS
  exact ⟨fun _ => hb, fun h => (by rw [he'] at h; cases h), h.upd.trans hS' fun b hlt hs => h3 b hs hlt,
    h.rq.upd hS' (fun b hb hs => h.slice_apart he b hb (.inl hs)) (fun r hr b hb hs => (h.apart r hr b hb).2 he (.inl hs)), fun r hr b hb => ⟨(h.apart r hr b hb).1, fun h => (by rw [he'] at h; cases h)⟩⟩
/-- the reader goes on, its own blocks are all that was written -/
theorem XFdAt.go {w0 : World} {base rb : Nat} {S0 S1 : Nat → Prop} {s s' : HS} {bv bv' : Value} {body body' : Option XBd} {A : Option Addr} {c : Nat} {rqs : List ReqV} {wr w' : World} (h : XFdAt w0 base rb S0 s bv body A c rqs wr) (he : s.ended = false) (hk : Upd S1 wr w') (hS : ∀ b, b < wr.heap.size → S1 b → XFoot rb body b)
    (hrd : XRd w' base rb bv' s'.b body') (hbd : body'.map XBd.d = s'.body) (hft : ∀ b, XFoot rb body' b → b < wr.heap.size → XFoot rb body b) (hbv : ∀ b, bv'.ownBlock = some b → b < wr.heap.size → bv.ownBlock = some b) : XFdAt w0 base rb S0 ⟨false, s'.b, s'.body⟩ bv' body' A c rqs w' := by
  obtain ⟨h1, h2, h3, h4⟩ := h.on he
  have hS' : Upd (XFoot rb body) wr w' := hk.mono hS
  refine ⟨fun h => (by cases h), fun _ => ⟨hrd, hbd, fun b hb hlt => ?_, fun b hb => ?_⟩, h.upd.trans hS' fun b hlt hs => h3 b hs hlt,
    h.rq.upd hS' (fun b hb hs => h.slice_apart he b hb (.inl hs)) (fun r hr b hb hs => (h.apart r hr b hb).2 he (.inl hs)), fun r hr b hb => ⟨(h.apart r hr b hb).1, fun _ hf => ?_⟩⟩
  · exact h3 b (hft b hb (Nat.lt_of_lt_of_le hlt h.upd.size)) hlt
  · by_cases hw : b < wr.heap.size
    · exact h4 b (hbv b hb hw)
    · have := h.upd.size; omega
  · have hw := (own_in (h.rq.rows r hr).own hb).1
    refine (h.apart r hr b hb).2 he ?_
    rcases hf with hf | hf
    · exact .inl (hft b hf hw)
    · exact .inr (hbv b hf hw)
/-- a request more -/
theorem XFdAt.push {w0 : World} {base rb q : Nat} {S0 : Nat → Prop} {s : HS} {bv : Value} {body : Option XBd} {A : Option Addr} {c : Nat} {rqs : List ReqV} {wc w5 w8 : World} {o : Obj} {row : Row} {keep : Bool} {A8 : Option Addr} {c8 : Nat} (h : XFdAt w0 base rb S0 s bv body A c rqs wc) (he : s.ended = false) (hq : rqs.length = q) (hu5 : Upd Nix wc w5)
    (hrow : ReqOk wc w0.heap.size ⟨row, keep⟩) (hap : ∀ b, (Value.slice row.A row.n row.c).ownBlock = some b → ¬ XAll rb bv body b)
    (hown : w8.ownsRow w0.heap.size 51 3 (.slice A8 (q + 1) c8) (q + 1) ((rqs.map ReqV.cells).flatten ++ [.string firstS, .slice row.A row.n row.c, .bool keep])) (hg : (w5.alloc o).grownBy w8 (Value.slice A q c).ownBlock) :
    XFdAt w0 base rb S0 s bv body A8 c8 (rqs ++ [⟨row, keep⟩]) w8 := by
  subst hq
  have h5 := h.quiet hu5
  have hsl := h5.slice_apart he
  have u1 : Upd Nix w5 (w5.alloc o) := (Upd.refl _ _).alloc o
  have hk := h5.quiet u1
  have hout := hk.rq.out
  have ug : Upd (fun b => (Value.slice A rqs.length c).ownBlock = some b) (w5.alloc o) w8 := upd_own hg
  obtain ⟨k1, k2, k3⟩ := hk.on he
  have hrow2 : (w5.alloc o).ownsRow w0.heap.size 5 1 (.slice row.A row.n row.c) row.n (byts row.l) := own_upd' hrow.own (hu5.trans u1 fun _ _ h => h) fun _ _ h => h
  have keepR : ∀ r ∈ rqs, ReqOk w8 w0.heap.size r := fun r hr => by
    have a := hk.rq.rows r hr
    exact ⟨own_upd' a.own ug fun b hb hS => own_two a.own hout (by decide) b hb hS, a.nc, a.bytes, a.small⟩
  refine ⟨fun hh => (by rw [he] at hh; cases hh), fun _ => ⟨k1.upd ug (fun b hb hS => hsl b hS (.inl hb)) (fun b hb hS => hsl b hS (.inr hb)), k2, k3⟩, ?_, ⟨?_, ?_⟩, ?_⟩
  · exact hk.upd.trans ug fun b hb hS => by have := ge_of_own hout b hS; omega
  · rw [List.length_append, List.map_append, List.flatten_append]
    simpa [ReqV.cells] using hown
  · intro r hr
    rcases List.mem_append.1 hr with hr | hr
    · exact keepR r hr
    · simp only [List.mem_singleton] at hr
      subst hr
      exact ⟨own_upd' hrow2 ug fun b hb hS => own_two hrow2 hout (by decide) b hb hS, hrow.nc, hrow.bytes, hrow.small⟩
  · intro r hr b hb
    rcases List.mem_append.1 hr with hr | hr
    · exact hk.apart r hr b hb
    · simp only [List.mem_singleton] at hr
      subst hr
      exact ⟨fun e => hap b hb (.inl (.inl e)), fun _ => hap b hb⟩
theorem ref_feed13_end (rb : Nat) (A : Option Addr) (n c : Nat) (w : World) (h : ∃ a b c d f g, Blk w rb 29 #[a, .bool true, b, c, d, f, g]) :
    Calls Tryz.prog 6 #[.pointer (some ⟨rb, 0, none⟩), .slice A n c] w fun e w' => e = .returned (.tuple #[.slice none 0 0, .int .i64 0]) ∧ w = w' := by
  obtain ⟨a, b, c', d, f, g, h⟩ := h
  have hc : ∀ i, w.cell? ⟨rb, i, none⟩ = _ := fun i => h.cell i
  clear h
  go_enter Tryz.func6, Tryz.ntmps6
  go_wp2_with fail
  go_ret2
  exact ⟨rfl, rfl⟩
theorem ref_ended13 (rb : Nat) (v : Bool) (w : World) (h : ∃ a b c d f g, Blk w rb 29 #[a, .bool v, b, c, d, f, g]) :
    Calls Tryz.prog 9 #[.pointer (some ⟨rb, 0, none⟩)] w fun e w' => e = .returned (.bool v) ∧ w = w' := by
  obtain ⟨a, b, c', d, f, g, h⟩ := h
  have hc : ∀ i, w.cell? ⟨rb, i, none⟩ = _ := fun i => h.cell i
  clear h
  go_enter Tryz.func9, Tryz.ntmps9
  go_wp2_with fail
  go_ret
  exact ⟨rfl, rfl⟩
set_option maxRecDepth 100000 in
set_option maxHeartbeats 12800000 in
theorem ref_feed13 (base rb : Nat) (bv : Value) (l : List Nat) (body : Option XBd) (A : Option Addr) (n c : Nat) (x : List Nat) (w : World) (h : XRd w base rb bv l body) (hx : Rd w w.heap.size 1 A n (byts x)) (hxb : ∀ b ∈ x, b < 256) (hl : l.length ≤ 2000) (hn : n ≤ 140737488353000) (hB : base ≤ w.heap.size) :
    Calls Tryz.prog 6 #[.pointer (some ⟨rb, 0, none⟩), .slice A n c] w (XFeedIs base rb l body x w) := by
  obtain ⟨i1, hi1, hy0, hy1, hy2⟩ := info_parts infoU8
  obtain ⟨i3, hi3, hz0, hz1, hz2⟩ := info_parts infoReq
  have hxl := hx.1
  simp only [byts, List.length_map, Nat.mul_one] at hxl
  obtain ⟨Ab, cb, rfl, hbc⟩ := h.buf.form
  have hrbuf := h.buf.rd rfl
  have hblk := h.blk
  obtain ⟨a1, a2, a3, a4, a5, hblk⟩ := hblk
  have hc : ∀ i, w.cell? ⟨rb, i, none⟩ = _ := fun i => hblk.cell i
  have hf : ∀ i, w.frozen? ⟨rb, i, none⟩ = _ := fun i => hblk.free i
  have hrl := hblk.lt
  obtain ⟨ll, hll⟩ : ∃ ll, l.length = ll := ⟨_, rfl⟩
  have H := Lib.hid h
  have HX := Lib.hid hx
  have HXB := Lib.hid hxb
  have HXL := Lib.hid hxl
  have HLL := Lib.hid hll
  rw [hll] at hc hl hbc hrbuf
  have HRB := Lib.hid hrbuf
  have HBLK := Lib.hid hblk
  clear h hx hxb hxl hll hrbuf hblk
  have hml : ll + n ≤ maxLen := by unfold maxLen; omega
  go_enter Tryz.func6, Tryz.ntmps6
  go_wp2_with (first
    | (at_builtin; refine wpList_app _ rfl (.tmp 16) (.tmp 20) 26 rfl w.heap.size 5 i1 _ 1 1 Tryz.underlying26 hi1 hy0 hy1 hy2 rfl (by omega) (.slice (some ⟨w.heap.size, 0, none⟩) 0 0) 0 [] rfl (World.ownsRow_lit w #[] 0 (Nat.le_refl _) (by decide) rfl) w.heap.size Ab ll cb (byts l) rfl (HRB.out.alloc (Nat.le_refl _) _) (by intro u hu; simp only [byts, List.mem_map] at hu; obtain ⟨b, _, rfl⟩ := hu; rfl) (by unfold maxLen; omega) (by omega) (by simp) ?_; intro A5 c5 w5 hown5 hg5 hat5; have HU5 := Lib.hid (((Upd.refl Nix w).alloc (.cells #[] 5)).grown hg5 fun b hb hlt => (by simp only [Value.ownBlock, Option.some.injEq] at hb; omega)); have HO5 := Lib.hid (show w5.ownsRow w.heap.size 5 1 (.slice A5 ll c5) ll (byts l) by simpa using hown5); have hs5 := HU5.out.size; clear hown5 hg5 hat5)
    | (at_builtin; refine wpList_app _ rfl (.tmp 21) (.tmp 22) 26 rfl w.heap.size 5 i1 _ 1 1 Tryz.underlying26 hi1 hy0 hy1 hy2 rfl (by omega) (.slice A5 ll c5) ll (byts l) rfl HO5.out w.heap.size A n c (byts x) rfl (HX.out.below (HU5.out.belowNix (Nat.le_refl _))) (by intro u hu; simp only [byts, List.mem_map] at hu; obtain ⟨b, _, rfl⟩ := hu; rfl) hml (by omega) (by omega) ?_; intro A6 c6 w6 hown6 hg6 hat6; have HU6 := Lib.hid (HU5.out.grown hg6 fun b hb hlt => (by have := ge_of_own HO5.out b hb; omega)); have HO6 := Lib.hid hown6; have hb6 := HBLK.out.upd HU6.out (fun h => h); have hc6 : ∀ i, w6.cell? ⟨rb, i, none⟩ = _ := fun i => hb6.cell i; have hf6 : ∀ i, w6.frozen? ⟨rb, i, none⟩ = _ := fun i => hb6.free i; have hrl6 := hb6.lt; clear hown6 hg6 hat6))
  have hk6 : Upd (One rb) w6 (w6.setCell ⟨rb, 0, none⟩ (.slice A6 (ll + n) c6)) := (Upd.refl (One rb) _).set rfl _
  have hge6 : ∀ b, (Value.slice A6 (ll + n) c6).ownBlock = some b → w.heap.size ≤ b := fun b hb => ge_of_own HO6.out b hb
  have hrd6 : XRd (w6.setCell ⟨rb, 0, none⟩ (.slice A6 (ll + n) c6)) base rb (.slice A6 (ll + n) c6) (l ++ x) body := by
    have hr := H.out.quiet HU6.out
    refine ⟨fun hb => ?_, fun y hy => (hr.on y hy).set 0 _, ?_, fun b hb => ?_, H.out.ge, fun y hy => ?_⟩
    · obtain ⟨k1, k2, k3, k4, h1⟩ := hr.off hb
      exact ⟨_, _, _, _, h1.set 0 _⟩
    · have h1 := Lies.of_own (own_down HO6.out hB)
      rw [List.length_append, HLL.out, HXL.out, byts, List.map_append]
      exact h1.upd hk6 (fun b hb hs => by
        have hs : b = rb := hs
        have := hge6 b hb
        omega)
    · rcases List.mem_append.1 hb with hb | hb
      · exact H.out.bytes b hb
      · exact HXB.out b hb
    · obtain ⟨h1, h2⟩ := hr.bd y hy
      have hl := (H.out.bd y hy).1.lt
      exact ⟨h1.upd hk6 (fun b hb hs => H.out.not_rb.2 y hy (hs ▸ hb)), fun b hb hs => by have := (hl b hb).1; have := hge6 b hs; omega⟩
  have hst : XFdAt w base rb (XFoot rb body) ⟨false, l ++ x, body.map XBd.d⟩ (.slice A6 (ll + n) c6) body none 0 [] (w6.setCell ⟨rb, 0, none⟩ (.slice A6 (ll + n) c6)) :=
    ⟨fun h => (by cases h), fun _ => ⟨hrd6, rfl, fun _ hb _ => hb, hge6⟩, (HU6.out.mono fun _ _ h => h.elim).trans hk6 fun b _ hs => .inl hs, ⟨⟨rfl, .inl ⟨rfl, rfl⟩⟩, fun r hr => (by cases hr)⟩, fun r hr => (by cases hr)⟩
  have hfe : feedH ⟨false, l, body.map XBd.d⟩ x = feedN (l.length + x.length + 2) ⟨false, l ++ x, body.map XBd.d⟩ [] := rfl
  have hmz : mz ⟨false, l ++ x, body.map XBd.d⟩ + 1 ≤ l.length + x.length + 2 := by unfold mz; rw [List.length_append]; simp only; split <;> omega
  have hln : ([] : List ReqV).length * 48 + (l ++ x).length + (if (body.map XBd.d).isSome = true then 48 else 0) ≤ ll + n + 48 := by
    rw [List.length_append]
    have := HXL.out
    have := HLL.out
    simp only [List.length_nil]
    split <;> omega
  obtain ⟨R, hR⟩ : ∃ R, feedH ⟨false, l, body.map XBd.d⟩ x = R := ⟨_, rfl⟩
  rw [hR] at hfe
  have HR := Lib.hid hR
  have HFE := Lib.hid hfe
  have HST := Lib.hid hst
  generalize w6.setCell ⟨rb, 0, none⟩ (.slice A6 (ll + n) c6) = wa at *
  obtain ⟨K, hK⟩ : ∃ K, l.length + x.length + 2 = K := ⟨_, rfl⟩
  rw [hK] at HFE hmz
  clear hR hfe hst hb6 hc6 hf6 hrl6 hk6 hge6 hrd6 hml hc hf hrl hK HO6 HO5
  go_loopg [6] K (fun k s6 wr => ∃ (l' : List Nat) (bv' : Value) (body' : Option XBd) (A1 : Option Addr) (c1 : Nat) (rqs : List ReqV), s6 = .slice A1 rqs.length c1 ∧ XFdAt w base rb (XFoot rb body) ⟨false, l', body'.map XBd.d⟩ bv' body' A1 c1 rqs wr ∧ feedN k ⟨false, l', body'.map XBd.d⟩ (rqs.map ReqV.said) = R ∧ mz ⟨false, l', body'.map XBd.d⟩ + 1 ≤ k ∧ rqs.length * 48 + l'.length + (if (body'.map XBd.d).isSome = true then 48 else 0) ≤ ll + n + 48)
  case atStart => exact ⟨_, _, _, none, 0, [], rfl, HST.out, HFE.out.symm, hmz, hln⟩
  case round =>
    obtain ⟨l1, bv1, body1, A1, c1, rqs, rfl, hfd, hfn, hm, hsl⟩ := hrel
    obtain ⟨k, rfl⟩ : ∃ k, gk = k + 1 := ⟨gk - 1, by omega⟩
    obtain ⟨hrd, _, hft, hfr⟩ := hfd.on rfl
    obtain ⟨Ab1, cb1, rfl, hbc1⟩ := hrd.buf.form
    obtain ⟨q, hq⟩ : ∃ q, rqs.length = q := ⟨_, rfl⟩
    obtain ⟨sl, hsl2⟩ : ∃ sl, l1.length = sl := ⟨_, rfl⟩
    obtain ⟨z, hz⟩ : ∃ z, (if (body1.map XBd.d).isSome = true then 48 else 0) = z := ⟨_, rfl⟩
    have HFD := Lib.hid hfd
    have HFN := Lib.hid hfn
    have HRD := Lib.hid hrd
    have HFR := Lib.hid hfr
    have HQ := Lib.hid hq
    have HSL := Lib.hid hsl2
    have HZ := Lib.hid hz
    rw [hq, hz, hsl2] at hsl
    rw [hsl2] at hbc1
    rw [hq]
    clear hfd hfn hrd hft hfr hq hsl2 hz
    obtain ⟨inn, hin⟩ : ∃ inn, body1.isSome = inn := ⟨_, rfl⟩
    have hci : wr.cell? ⟨rb, 2, none⟩ = some (.bool inn) := by
      rw [← hin]
      cases hbo : body1 with
      | some x1 => exact (HRD.out.on x1 hbo).cell 2
      | none =>
        obtain ⟨_, _, _, _, h1⟩ := HRD.out.off hbo
        exact h1.cell 2
    have HIN := Lib.hid hin
    clear hin
    go_upto_if 30 with fail
    clear hci
    go_cut [6] (fun s6 wx => s6 = .slice A1 q c1 ∧ ∃ bv2 x2 l2, XFdAt w base rb (XFoot rb body) ⟨false, l2, some x2.d⟩ bv2 (some x2) A1 c1 rqs wx ∧ turnL ⟨false, l1, body1.map XBd.d⟩ = turnB false x2.d l2 ∧ q * 48 + l2.length ≤ ll + n)
    case first =>
      cases hbo : body1 with
      | some x1 =>
        have hi : inn = true := by rw [← HIN.out, hbo]; rfl
        subst hi
        have HBO := Lib.hid hbo
        clear hbo
        go_wp2_with fail
        go_meet
        have hB1 := HBO.out
        subst hB1
        refine ⟨rfl, _, x1, l1, HFD.out, ?_, by have h1 := HZ.out; simp at h1; rw [HSL.out]; omega⟩
        rfl
      | none =>
        have hi : inn = false := by rw [← HIN.out, hbo]; rfl
        subst hi
        subst hbo
        have hblk1 := HRD.out.off rfl
        obtain ⟨a6, a7, a8, a9, hblk1⟩ := hblk1
        have hc : ∀ i, wr.cell? ⟨rb, i, none⟩ = _ := fun i => hblk1.cell i
        have hf : ∀ i, wr.frozen? ⟨rb, i, none⟩ = _ := fun i => hblk1.free i
        have hrl := hblk1.lt
        have HB1 := Lib.hid hblk1
        rw [HSL.out] at hc
        clear hblk1
        have hrb1 := HRD.out.buf.rd rfl
        rw [HSL.out] at hrb1
        have HRB1 := Lib.hid hrb1
        clear hrb1
        have hturn : ∀ d m, headL l1 = some (some (d, m)) → ∀ y, beginL d = some y → turnL ⟨false, l1, (none : Option XBd).map XBd.d⟩ = turnB false y (l1.drop m) := fun d m h1 y h2 => by
          unfold turnL
          simp only [Option.map_none]
          rw [h1]
          simp only
          rw [h2]
        have HTURN := Lib.hid hturn
        clear hturn
        have hhead : ∀ r, headL l1 = r → (r = none → R = ((rqs.map ReqV.said, 130), ⟨true, [], none⟩)) ∧ (r = some none → R = ((rqs.map ReqV.said, 0), ⟨false, l1, none⟩)) ∧ ∀ d m, r = some (some (d, m)) → beginL d = none → R = ((rqs.map ReqV.said, 130), ⟨true, [], none⟩) := fun r h1 => by
          have hfn := HFN.out
          rw [feedN, if_neg (by simp)] at hfn
          unfold turnL at hfn
          simp only [Option.map_none] at hfn
          rw [h1] at hfn
          refine ⟨fun h2 => ?_, fun h2 => ?_, fun d m h2 h3 => ?_⟩
          · rw [h2] at hfn; exact hfn.symm
          · rw [h2] at hfn; exact hfn.symm
          · rw [h2] at hfn
            simp only at hfn
            rw [h3] at hfn
            exact hfn.symm
        have HHEAD := Lib.hid hhead
        clear hhead
        go_wp2_with fail
        refine (ref_head13 Ab1 sl cb1 l1 wr.heap.size wr HRB1.out HRD.out.bytes hbc1 (by omega)).mono ?_
        rintro e w1 ⟨rfl, rfl⟩
        rcases headL_eq l1 with ⟨hh, hr⟩ | ⟨hh, hr⟩ | ⟨L, m, hh, hr, hm0, hml⟩
        · have HRES := Lib.hid ((HHEAD.out _ hh).1 rfl)
          rw [hr]
          clear hh hr
          go_wp2_with fail
          go_ret2
          exact xfeed_fin (HR.out.trans HRES.out) HQ.out (HFD.out.shut rfl ((Upd.refl (One rb) _).set rfl _) (fun b _ hs => .inl hs) ⟨_, _, _, _, _, _, HB1.out.set 1 (.bool true)⟩ rfl)
        · have HRES := Lib.hid ((HHEAD.out _ hh).2.1 rfl)
          rw [hr]
          clear hh hr
          go_wp2_with fail
          go_ret2
          exact xfeed_fin (HR.out.trans HRES.out) HQ.out HFD.out
        · rw [hr]
          rw [HSL.out] at hml
          have e1 : ((m : Int) == 0) = false := by simp; omega
          have e2 : ¬ (m : Int) < 0 := by omega
          have hbeg := fun (W : World) (hW : Upd Nix wr W) => ref_begin13 rb (.slice Ab1 sl cb1) _ _ _ _ _ Ab1 m cb1 W.heap.size l1 L W (by have := HB1.out.upd hW (fun h => h); rw [HSL.out] at this; exact this) (by
            have h1 := (HRB1.out.front (k := m) hml).below (hW.belowNix (Nat.le_refl _))
            rw [Nat.mul_one] at h1
            have h2 : byts (l1.take m) = (byts l1).take m := by simp [byts, List.map_take]
            rw [h2]
            exact h1.more hW.size) (Nat.le_refl _) HRD.out.bytes hh
          have HBEG := Lib.hid hbeg
          have HHH := Lib.hid hh
          have hmc : m ≤ cb1 := by omega
          clear hbeg hh hr
          go_wp2_with fail
          refine (HBEG.out _ (Upd.refl _ _)).mono ?_
          rintro e w2 ⟨hu2, ⟨hbn, rfl, hb2⟩ | ⟨d, p, hbn, rfl, hb2, hgot, hleft, hnc, hsc⟩⟩
          · obtain ⟨b6, b7, b8, b9, b10, hb2⟩ := hb2
            have HRES := Lib.hid ((HHEAD.out _ HHH.out).2.2 L m rfl hbn)
            have hc2 : ∀ i, w2.cell? ⟨rb, i, none⟩ = _ := fun i => hb2.cell i
            have hf2 : ∀ i, w2.frozen? ⟨rb, i, none⟩ = _ := fun i => hb2.free i
            have hrl2 := hb2.lt
            have HB2 := Lib.hid hb2
            have HU2 := Lib.hid hu2
            clear hbn hb2 hu2 hc hf
            go_wp2_with fail
            go_ret2
            exact xfeed_fin (HR.out.trans HRES.out) HQ.out (HFD.out.shut rfl (HU2.out.set (g := rb) rfl _) (fun b _ hs => .inl hs) ⟨_, _, _, _, _, _, HB2.out.set 1 (.bool true)⟩ rfl)
          · have hi66 := head_long HHH.out hbn
            have hfin : ∀ v2, v2 = Value.slice (if cb1 = m then Ab1 else Ab1.map (·.add (m * 1))) (l1.length - m) (cb1 - m) → XFdAt w base rb (XFoot rb body) ⟨false, l1.drop m, some d⟩ v2 (some ⟨.slice none 0 0, p, .slice none 0 0, d⟩) A1 c1 rqs (w2.setCell ⟨rb, 0, none⟩ v2) := by
              intro v2 hv2
              have hk : Upd (One rb) w2 (w2.setCell ⟨rb, 0, none⟩ v2) := (Upd.refl (One rb) _).set rfl _
              have hown : v2.ownBlock = (Value.slice Ab1 l1.length cb1).ownBlock := by rw [hv2]; exact own_cutv
              have hnr := HRD.out.not_rb
              have hvl : ∀ b, v2.ownBlock = some b → b < wr.heap.size := fun b hb => (HRD.out.buf.lt (hown ▸ hb)).1
              have hxf : ∀ b, (XBd.Foot ⟨.slice none 0 0, p, .slice none 0 0, d⟩) b → wr.heap.size ≤ b := by
                rintro b (⟨_, hb⟩ | ⟨r, hr, hb⟩)
                · cases hb
                · cases hdc : d.c with
                  | none =>
                    have hp := hnc hdc
                    have hr : p = some r := hr
                    rw [hp] at hr; cases hr
                  | some s =>
                    obtain ⟨r', hr', _, _, hge⟩ := hsc s hdc
                    have hr : p = some r := hr
                    rw [hr'] at hr
                    injection hr with hr
                    subst hr
                    rcases hb with rfl | hb
                    · exact hge
                    · cases hb
              have hrb := (HB1.out.lt)
              refine HFD.out.go (s' := ⟨false, l1.drop m, some d⟩) rfl (hu2.trans hk fun _ _ h => h) (fun b _ hs => .inl hs) ⟨fun h => (by cases h), fun y hy => ?_, ?_, fun b hb => HRD.out.bytes b (List.mem_of_mem_drop hb), HRD.out.ge, fun y hy => ?_⟩ rfl (fun b hb hlt => ?_) (fun b hb _ => hown ▸ hb)
              · injection hy with hy
                subst hy
                exact hb2.set 0 v2
              · have h1 := (HRD.out.buf.cut (k := m) (by rw [HSL.out]; exact hml)).upd hu2 (fun b hb hs => hnr.1 (by
                  have hs : b = rb := hs
                  subst hs
                  rw [own_cutv] at hb
                  exact hb))
                have h2 := h1.upd hk (fun b hb hs => hnr.1 (by
                  have hs : b = rb := hs
                  subst hs
                  rw [own_cutv] at hb
                  exact hb))
                rw [List.length_drop]
                subst hv2
                simp only [byts, List.map_drop] at h2 ⊢
                exact h2
              · injection hy with hy
                subst hy
                refine ⟨⟨fun hdc => ⟨hnc hdc, ?_, ?_⟩, fun s hs => ?_, ?_, hleft, ⟨_, _, _, rfl⟩⟩, fun b hb hs => ?_⟩
                · simp only
                  rw [hgot]
                  exact ⟨rfl, .inl ⟨rfl, rfl⟩⟩
                · simp only
                  rw [hgot]
                  simpa using hleft
                · obtain ⟨r, hr, hrr, hci, hge⟩ := hsc s hs
                  refine ⟨r, hr, hrr.upd hk (fun b hb hs => ?_), hci, fun b hb => ?_, by simp only; rw [hgot]; simp⟩
                  · have hs : b = rb := hs
                    have := hxf b (.inr ⟨r, hr, hb⟩)
                    omega
                  · have := hxf b (.inr ⟨r, hr, hb⟩)
                    have := HFD.out.upd.size
                    omega
                · simp only
                  rw [hgot]
                  simp
                · have := hvl b hs
                  have := hxf b hb
                  omega
              · rcases hb with rfl | ⟨y, hy, hb⟩
                · exact .inl rfl
                · injection hy with hy
                  subst hy
                  have := hxf b hb
                  omega
            have HFIN := Lib.hid hfin
            have HT2 := Lib.hid (HTURN.out L m HHH.out d hbn)
            have hc2 : ∀ i, w2.cell? ⟨rb, i, none⟩ = _ := fun i => hb2.cell i
            have hf2 : ∀ i, w2.frozen? ⟨rb, i, none⟩ = _ := fun i => hb2.free i
            have hrl2 := hb2.lt
            have hln2 : q * 48 + (l1.drop m).length ≤ ll + n := by rw [List.length_drop, HSL.out]; omega
            clear hbn hb2 hu2 hc hf hfin hgot hleft hnc hsc
            by_cases hci : cb1 = m
            · go_wp2_with fail
              go_meet
              have hv := HFIN.out _ rfl
              rw [if_pos hci, HSL.out, show cb1 - m = 0 by omega] at hv
              exact ⟨rfl, _, ⟨.slice none 0 0, p, .slice none 0 0, d⟩, _, hv, HT2.out, hln2⟩
            · go_wp2_with fail
              go_meet
              have hv := HFIN.out _ rfl
              rw [if_neg hci, HSL.out, Nat.mul_one] at hv
              exact ⟨rfl, _, ⟨.slice none 0 0, p, .slice none 0 0, d⟩, _, hv, HT2.out, hln2⟩
    case rest =>
    obtain ⟨rfl, bv2, x2, l2, hfd2, hturn, hl2⟩ := hcut
    have hrd2 := (hfd2.on rfl).1
    obtain ⟨T, hT⟩ : ∃ T, takeB x2.d l2 = T := ⟨_, rfl⟩
    obtain ⟨⟨m, whole, er⟩, d3⟩ := T
    have hmore := ref_more13 base rb bv2 l2 x2 wc hrd2 (by omega) (Nat.le_trans hB hfd2.upd.size)
    have HM := Lib.hid hmore
    have HFD2 := Lib.hid hfd2
    have HRD2 := Lib.hid hrd2
    have HTURN := Lib.hid hturn
    have HT := Lib.hid hT
    clear hfd2 hrd2 hturn hT hmore
    go_wp2_with fail
    refine HM.out.mono ?_
    intro e w3 hm3
    unfold MoreIs at hm3
    rw [HT.out] at hm3
    obtain ⟨hu3, ⟨her, rfl, hb3⟩ | ⟨her, hwh, rfl, bv', x', hxd, hrd3, hbo, hft⟩ | ⟨her, hwh, A7, c7, bv', rfl, hown7, hsm7, hby7, hrd3, hbo⟩⟩ := hm3
    · obtain ⟨b6, b7, b8, b9, b10, hb3⟩ := hb3
      have hres : R = ((rqs.map ReqV.said, 130), ⟨true, [], none⟩) := by
        rw [← HFN.out, feedN, if_neg (by simp), HTURN.out]
        unfold turnB
        rw [HT.out]
        simp only
        rw [if_pos her]
      have hc3 : ∀ i, w3.cell? ⟨rb, i, none⟩ = _ := fun i => hb3.cell i
      have hf3 : ∀ i, w3.frozen? ⟨rb, i, none⟩ = _ := fun i => hb3.free i
      have hrl3 := hb3.lt
      have HRES := Lib.hid hres
      have HB3 := Lib.hid hb3
      have HU3 := Lib.hid hu3
      have hs3 := hu3.size
      unfold reqZ
      clear hres hb3 hu3 her
      go_wp2_with fail
      go_ret2
      exact xfeed_fin (HR.out.trans HRES.out) HQ.out (HFD2.out.shut rfl (S1 := XFoot rb (some x2)) ((HU3.out.set (.inl rfl) _).alloc _) (fun _ _ h => h) ⟨_, _, _, _, _, _, (HB3.out.set 1 (.bool true)).alloc _⟩ rfl)
    · simp only at hwh her
      subst hwh
      subst her
      have hres : R = ((rqs.map ReqV.said, 0), ⟨false, l2.drop m, some d3⟩) := by
        rw [← HFN.out, feedN, if_neg (by simp), HTURN.out]
        unfold turnB
        rw [HT.out]
        simp
      have hfd3 := HFD2.out.go (s' := ⟨false, l2.drop m, some d3⟩) rfl (hu3.alloc (.cells #[.string ⟨#[]⟩, .slice none 0 0, .bool false] 51)) (fun _ _ h => h) (hrd3.quiet ((Upd.refl _ _).alloc _)) (by show some x'.d = some d3; rw [hxd]) (fun b hb hlt => by
        rcases hb with rfl | ⟨y, hy, hb⟩
        · exact .inl rfl
        · injection hy with hy
          subst hy
          exact .inr ⟨x2, rfl, hft b hb hlt⟩) (fun b hb _ => hbo ▸ hb)
      have HRES := Lib.hid hres
      have HFD3 := Lib.hid hfd3
      unfold reqZ
      clear hres hfd3 hu3 hrd3 hxd hft hbo
      go_wp2_with fail
      go_ret2
      exact xfeed_fin (HR.out.trans HRES.out) HQ.out HFD3.out
    · simp only at hwh her
      subst hwh
      subst her
      have hmo : turnL ⟨false, l1, body1.map XBd.d⟩ = .more ⟨d3.got, d3.keep⟩ ⟨!d3.keep, l2.drop m, none⟩ := by
        rw [HTURN.out]
        unfold turnB
        rw [HT.out]
        simp
      have hnext : feedN k ⟨!d3.keep, l2.drop m, none⟩ (rqs.map ReqV.said ++ [⟨d3.got, d3.keep⟩]) = R := by
        rw [← HFN.out, feedN, if_neg (by simp), hmo]
      have hmz2 := turnL_more hmo
      have hfd3 := HFD2.out.go (s' := ⟨false, l2.drop m, none⟩) (body' := none) rfl hu3 (fun _ _ h => h) hrd3 rfl (fun b hb hlt => by
        rcases hb with rfl | ⟨y, hy, hb⟩
        · exact .inl rfl
        · cases hy) (fun b hb _ => hbo ▸ hb)
      have hok : ReqOk w3 w.heap.size ⟨⟨A7, d3.got.length, c7, d3.got⟩, d3.keep⟩ := ⟨own_down hown7 HFD2.out.upd.size, own_cap hown7, hby7, hsm7⟩
      have hap : ∀ b, (Value.slice A7 d3.got.length c7).ownBlock = some b → ¬ XAll rb bv' (none : Option XBd) b := fun b hb => by
        have h1 := ge_of_own hown7 b hb
        rintro ((rfl | ⟨y, hy, _⟩) | hv)
        · obtain ⟨_, _, _, _, _, h2⟩ := HRD2.out.blk
          have := h2.lt
          omega
        · cases hy
        · have := (HRD2.out.buf.lt (hbo ▸ hv)).1
          omega
      have hqm : q + 1 ≤ maxLen := by unfold maxLen; omega
      have HNEXT := Lib.hid hnext
      have HFD3 := Lib.hid hfd3
      have HOK := Lib.hid hok
      have HAP := Lib.hid hap
      have HOUT := Lib.hid hfd3.rq.out
      have HMZ := Lib.hid hmz2
      have hs3 := hu3.size
      have hwz : w.heap.size ≤ w3.heap.size := Nat.le_trans HFD2.out.upd.size hs3
      rw [HQ.out] at HOUT
      clear hmo hnext hmz2 hfd3 hok hap hrd3 hu3 hbo hown7 hby7
      have hlit := Rd.lit (w3.alloc (.cells #[.string firstS, .slice A7 d3.got.length c7, .bool d3.keep] 51)) [.string firstS, .slice A7 d3.got.length c7, .bool d3.keep] 51 3 1 rfl
      have hsz3 : (w3.alloc (.cells #[.string firstS, .slice A7 d3.got.length c7, .bool d3.keep] 51)).heap.size = w3.heap.size + 1 := by simp
      rw [hsz3] at hlit
      have HLIT := Lib.hid hlit
      clear hlit hsz3
      go_upto_region 20 with (at_builtin; refine wpList_app _ rfl (.tmp 81) (.tmp 83) 30 rfl w.heap.size 51 i3 _ 3 48 Tryz.underlying30 hi3 hz0 hz1 hz2 rfl (by omega) (.slice A1 q c1) q ((rqs.map ReqV.cells).flatten) rfl ((HOUT.out.alloc _).alloc _) (w3.heap.size + 1 + 1) (some ⟨w3.heap.size + 1, 0, none⟩) 1 1 [.string firstS, .slice A7 d3.got.length c7, .bool d3.keep] rfl HLIT.out (by intro u hu; simp only [List.mem_cons, List.not_mem_nil, or_false] at hu; rcases hu with rfl | rfl | rfl <;> rfl) hqm (by omega) (by simp; omega) ?_; intro A8 c8 w8 hown8 hg8 hat8; have HFD8 := Lib.hid (HFD3.out.push (row := ⟨A7, d3.got.length, c7, d3.got⟩) (keep := d3.keep) rfl HQ.out ((Upd.refl _ _).alloc _) HOK.out HAP.out hown8 hg8); have hbk8 := (((Blk.new w3 51 #[.string firstS, .slice A7 d3.got.length c7, .bool d3.keep]).alloc _).grown hg8 (fun h => by have := (own_in HOUT.out h.symm).1; omega)).cell 2; have hbl8 := (((Blk.new w3 51 #[.string firstS, .slice A7 d3.got.length c7, .bool d3.keep]).alloc _).grown hg8 (fun h => by have := (own_in HOUT.out h.symm).1; omega)).lt; clear hown8 hg8 hat8)
      obtain ⟨e1, e2, e3, e4, e5, hb8⟩ := (HFD8.out.on rfl).1.blk
      have hc8 : ∀ i, w8.cell? ⟨rb, i, none⟩ = _ := fun i => hb8.cell i
      have hf8 : ∀ i, w8.frozen? ⟨rb, i, none⟩ = _ := fun i => hb8.free i
      have hrl8 := hb8.lt
      have HB8 := Lib.hid hb8
      clear hb8
      obtain ⟨kp, hkp⟩ : ∃ kp, d3.keep = kp := ⟨_, rfl⟩
      rw [hkp] at hbk8 HFD8 HNEXT
      have hl10 : (rqs ++ [(⟨⟨A7, d3.got.length, c7, d3.got⟩, kp⟩ : ReqV)]).length = q + 1 := by rw [List.length_append, HQ.out]; rfl
      have HL10 := Lib.hid hl10
      have HKP := Lib.hid hkp
      clear hl10 hkp
      cases kp with
      | false =>
        have hres : R = (((rqs ++ [(⟨⟨A7, d3.got.length, c7, d3.got⟩, false⟩ : ReqV)]).map ReqV.said, 0), ⟨true, l2.drop m, none⟩) := by
          rw [← HNEXT.out, List.map_append]
          cases k with
          | zero => rfl
          | succ k => rfl
        have HRES := Lib.hid hres
        clear hres
        go_wp2_with fail
        go_ret2
        exact xfeed_fin (HR.out.trans HRES.out) HL10.out (HFD8.out.shut rfl ((Upd.refl (One rb) _).set rfl _) (fun b _ hs => .inl hs) ⟨_, _, _, _, _, _, HB8.out.set 1 (.bool true)⟩ rfl)
      | true =>
        have hnext := HNEXT.out
        go_wp2_with fail
        go_roundg k
        case measure => have := HMZ.out; omega
        case rel =>
          refine ⟨_, _, none, A8, c8, rqs ++ [⟨⟨A7, d3.got.length, c7, d3.got⟩, true⟩], by rw [HL10.out], HFD8.out, ?_, ?_, ?_⟩
          · rw [List.map_append]; exact HNEXT.out
          · have := HMZ.out
            rw [HKP.out] at this
            have h1 : mz ⟨false, l2.drop m, none⟩ < mz ⟨false, l1, body1.map XBd.d⟩ := this
            show mz ⟨false, l2.drop m, none⟩ + 1 ≤ k
            omega
          · rw [HL10.out, List.length_drop]; simp; omega
end Go.Proofs.YtbiapeplkegjlaaGreatDoor
