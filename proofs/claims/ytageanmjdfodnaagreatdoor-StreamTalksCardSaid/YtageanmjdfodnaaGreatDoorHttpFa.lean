/- A reader of requests: what Feed keeps. -/
import Derived.Test.YtageanmjdfodnaaGreatDoorHttpRd
import Derived.Test.YtageanmjdfodnaaGreatDoorHttpN
import Derived.Test.YtageanmjdfodnaaGreatDoorOpenB
import Derived.Deep.RegionHeld3
import Derived.Deep.LoopGhost
import Derived.Outline
namespace Go.Proofs.YtageanmjdfodnaaGreatDoor
open Go.RowKit Go.Cx Go.Maps

theorem infoReq : (Tryz.prog.info? 140).map (fun i => (i.zero, i.size, i.bytes)) = some (some (.agg #[.string ⟨#[]⟩, .slice none 0 0, .bool false]), 3, 48) := by kernel_rfl
def firstS : ByteArray := ⟨#[80, 79, 83, 84, 32, 47, 100, 110, 115, 45, 113, 117, 101, 114, 121, 32, 72, 84, 84, 80, 47, 49, 46, 49]⟩
/-- a request in memory -/
structure ReqV where
  row : Row
  keep : Bool
def ReqV.cells (r : ReqV) : List Value := [.string firstS, .slice r.row.A r.row.n r.row.c, .bool r.keep]
def ReqV.said (r : ReqV) : Rq := ⟨r.row.l, r.keep⟩
structure ReqOk (w : World) (base : Nat) (r : ReqV) : Prop where
  own : w.ownsRow base 5 1 (.slice r.row.A r.row.n r.row.c) r.row.n (byts r.row.l)
  nc : r.row.n ≤ r.row.c
  bytes : ∀ b ∈ r.row.l, b < 256
  small : r.row.n ≤ 65535
structure ReqsOwn (base : Nat) (A : Option Addr) (c : Nat) (rqs : List ReqV) (w : World) : Prop where
  out : w.ownsRow base 140 3 (.slice A rqs.length c) rqs.length ((rqs.map ReqV.cells).flatten)
  rows : ∀ r ∈ rqs, ReqOk w base r
theorem ReqsOwn.upd {base : Nat} {A : Option Addr} {c : Nat} {rqs : List ReqV} {w w' : World} {S : Nat → Prop} (h : ReqsOwn base A c rqs w) (k : Upd S w w') (h1 : ∀ b, (Value.slice A rqs.length c).ownBlock = some b → ¬ S b) (h2 : ∀ r ∈ rqs, ∀ b, (Value.slice r.row.A r.row.n r.row.c).ownBlock = some b → ¬ S b) : ReqsOwn base A c rqs w' :=
  ⟨own_upd' h.out k h1, fun r hr => ⟨own_upd' (h.rows r hr).own k (h2 r hr), (h.rows r hr).nc, (h.rows r hr).bytes, (h.rows r hr).small⟩⟩
/-- a reader, the requests told so far -/
structure FdAt (w0 : World) (base rb : Nat) (S0 : Nat → Prop) (s : HS) (bv : Value) (body : Option BdV) (A : Option Addr) (c : Nat) (rqs : List ReqV) (wr : World) : Prop where
  off : s.ended = true → ∃ v p, Blk wr rb 73 #[.bool true, .bool true, v, .pointer p]
  on : s.ended = false → RdW wr base rb bv s.b body ∧ body.map BdV.d = s.body ∧ ∀ b, RFoot rb bv body b → b < w0.heap.size → S0 b
  upd : Upd S0 w0 wr
  rq : ReqsOwn w0.heap.size A c rqs wr
  apart : ∀ r ∈ rqs, ∀ b, (Value.slice r.row.A r.row.n r.row.c).ownBlock = some b → b ≠ rb ∧ (s.ended = false → ¬ RFoot rb bv body b)
theorem FdAt.slice_apart {w0 : World} {base rb : Nat} {S0 : Nat → Prop} {s : HS} {bv : Value} {body : Option BdV} {A : Option Addr} {c : Nat} {rqs : List ReqV} {wr : World} (h : FdAt w0 base rb S0 s bv body A c rqs wr) (he : s.ended = false) :
    ∀ b, (Value.slice A rqs.length c).ownBlock = some b → ¬ RFoot rb bv body b := by
  obtain ⟨h1, h2, h3⟩ := h.on he
  intro b hb
  obtain ⟨_, cs, hc⟩ := own_in h.rq.out hb
  rintro (rfl | hb2 | ⟨x, hx, hb2⟩)
  · exact Blk.ne (t := 140) hc h1.blk (by decide) rfl
  · exact lies_ne h1.buf (t := 140) hc (by decide) hb2
  · exact (h1.bd x hx).1.not_blk (t := 140) hc (by decide) (by decide) (by decide) hb2
/-- a quiet change -/
theorem FdAt.quiet {w0 : World} {base rb : Nat} {S0 : Nat → Prop} {s : HS} {bv : Value} {body : Option BdV} {A : Option Addr} {c : Nat} {rqs : List ReqV} {wr w' : World} (h : FdAt w0 base rb S0 s bv body A c rqs wr) (k : Upd Nix wr w') : FdAt w0 base rb S0 s bv body A c rqs w' :=
  ⟨fun he => by
    obtain ⟨v, p, hb⟩ := h.off he
    exact ⟨v, p, hb.upd k fun h => h⟩, fun he => by
    obtain ⟨h1, h2, h3⟩ := h.on he
    exact ⟨h1.upd k fun _ _ h => h, h2, h3⟩, h.upd.trans k fun _ _ h => h.elim, h.rq.upd k (fun _ _ h => h) (fun _ _ _ _ h => h), h.apart⟩
def FeedIs (base rb : Nat) (bv : Value) (l : List Nat) (body : Option BdV) (x : List Nat) (w : World) (e : Ending) (w' : World) : Prop :=
  ∃ (A : Option Addr) (c : Nat) (rqs : List ReqV) (bv' : Value) (body' : Option BdV), e = .returned (.tuple #[.slice A rqs.length c, .int .i64 ((feedH ⟨false, l, body.map BdV.d⟩ x).1.2 : Nat)]) ∧ rqs.map ReqV.said = (feedH ⟨false, l, body.map BdV.d⟩ x).1.1 ∧
    FdAt w base rb (RFoot rb bv body) (feedH ⟨false, l, body.map BdV.d⟩ x).2 bv' body' A c rqs w'
theorem body_take (x : BdV) (base : Nat) (A : Option Addr) (n c : Nat) (l : List Nat) (w : World) (h : BdAt w base x.bb x.gv x.p x.cv x.d) (hi : x.d.c = none → x.d.got.length + x.d.left ≤ 65535) (hx : Rd w w.heap.size 1 A n (byts l)) (hb : ∀ b ∈ l, b < 256) (hap : ∀ b, x.Foot b → (Value.slice A n c).ownBlock ≠ some b) (hn : n ≤ 140737488355328) (hnc : n ≤ c) (hB : base ≤ w.heap.size) :
    Calls Tryz.prog 84 #[.pointer (some ⟨x.bb, 0, none⟩), .slice A n c] w (TakeIs base x.bb x.gv x.p x.cv (takeB x.d l) w) := by
  obtain ⟨bb, gv, p, cv, d⟩ := x
  have hap' : ∀ ad, A = some ad → 0 < n → ¬ BFoot bb gv p cv ad.block := fun ad hA _ hf => hap ad.block hf (by rw [hA]; rfl)
  cases hc : d.c with
  | none =>
    obtain ⟨rfl, _⟩ := h.own hc
    exact take_long base bb gv cv d A n c l w h hc hx hb hap' hn hnc hB (hi hc)
  | some s =>
    obtain ⟨r, rfl, _⟩ := h.chk s hc
    exact take_chunk base bb r gv cv d s A n c l w h hc hx hb hap' hn hB
theorem FdAt.start {w w5 : World} {base rb n : Nat} {v v5 : Value} {l x : List Nat} {body : Option BdV} (h : RdW w base rb v l body) (hl5 : Lies w5 base 5 v5 (l.length + n) (byts l ++ byts x)) (hg5 : w.grownBy w5 v.ownBlock) (hat5 : v5.ownBlock = v.ownBlock ∨ v5.ownBlock = some w.heap.size) (hxb : ∀ b ∈ x, b < 256) (hxl : x.length = n) :
    FdAt w base rb (RFoot rb v body) ⟨false, l ++ x, body.map BdV.d⟩ v5 body none 0 [] (w5.setCell ⟨rb, 2, none⟩ v5) := by
  have hk5 : Upd (fun b => v.ownBlock = some b) w w5 := upd_own hg5
  have hk6 : Upd (One rb) w5 (w5.setCell ⟨rb, 2, none⟩ v5) := (Upd.refl (One rb) _).set rfl _
  have hrb := h.not_rb
  have hb5 := h.blk.upd hk5 hrb.1
  have hown : ∀ b, v5.ownBlock = some b → (b < w.heap.size → v.ownBlock = some b) ∧ b ≠ rb := fun b hb => by
    rcases hat5 with h5 | h5
    · rw [h5] at hb
      exact ⟨fun _ => hb, fun e => hrb.1 (e ▸ hb)⟩
    · rw [h5] at hb
      injection hb with hb
      have := h.blk.lt
      exact ⟨fun h => by omega, fun e => by omega⟩
  refine ⟨fun he => (by cases he), fun _ => ⟨⟨hb5.set 2 v5, ?_, fun b hb => ?_, h.ge, fun y hy => ?_⟩, rfl, fun b hb hlt => ?_⟩, (hk5.mono fun b _ hb => .inr (.inl hb)).trans hk6 fun b _ hb => .inl hb, ⟨⟨rfl, .inl ⟨rfl, rfl⟩⟩, fun r hr => (by cases hr)⟩, fun r hr => (by cases hr)⟩
  · have : (l ++ x).length = l.length + n := by rw [List.length_append, hxl]
    rw [this, byts, List.map_append]
    exact hl5.upd hk6 fun b hb hs => (hown b hb).2 hs
  · rcases List.mem_append.1 hb with hb | hb
    · exact h.bytes b hb
    · exact hxb b hb
  · obtain ⟨h1, h2, h3⟩ := h.bd y hy
    refine ⟨(h1.upd hk5 fun b hb hs => h3 b hb hs).upd hk6 fun b hb hs => hrb.2 y hy (hs ▸ hb), h2, fun b hb hs => ?_⟩
    exact h3 b hb ((hown b hs).1 (h1.lt b hb).1)
  · rcases hb with rfl | hb | hb
    · exact .inl rfl
    · exact .inr (.inl ((hown b hb).1 hlt))
    · exact .inr (.inr hb)
theorem BdAt.weaken {w : World} {base base' bb : Nat} {gv cv : Value} {p : Option Nat} {d : Bd} (h : BdAt w base bb gv p cv d) (hb : base' ≤ base) : BdAt w base' bb gv p cv d :=
  ⟨h.blk, h.form, fun hc => ⟨(h.own hc).1, by
    obtain ⟨h1, h2⟩ := (h.own hc).2
    refine ⟨h1, ?_⟩
    rcases h2 with h2 | ⟨g, cap, cur, hv, hg, r⟩
    · exact .inl h2
    · exact .inr ⟨g, cap, cur, hv, by omega, r⟩⟩, fun s hs => by
    obtain ⟨r, hr, hcr, hi, hbb⟩ := h.chk s hs
    exact ⟨r, hr, hcr, hi, fun b hb' => by have := hbb b hb'; omega⟩, h.left, h.got, by have := h.base; omega⟩
theorem feed_fin {base rb : Nat} {V : Value} {l : List Nat} {body : Option BdV} {x : List Nat} {w w' : World} {A : Option Addr} {c e q : Nat} {rqs : List ReqV} {bv' : Value} {body' : Option BdV} {s' : HS} (h : feedH ⟨false, l, body.map BdV.d⟩ x = ((rqs.map ReqV.said, e), s')) (hq : rqs.length = q)
    (hf : FdAt w base rb (RFoot rb V body) s' bv' body' A c rqs w') : FeedIs base rb V l body x w (.returned (.tuple #[.slice A q c, .int .i64 (e : Nat)])) w' := by
  subst hq
  exact ⟨A, c, rqs, bv', body', by rw [h], by rw [h], by rw [h]; exact hf⟩
/-- it is let go -/
theorem FdAt.shut {w0 : World} {base rb : Nat} {S0 : Nat → Prop} {s : HS} {bv : Value} {body : Option BdV} {A : Option Addr} {c : Nat} {rqs : List ReqV} {wr : World} (h : FdAt w0 base rb S0 s bv body A c rqs wr) (he : s.ended = false) :
    FdAt w0 base rb S0 ⟨true, [], none⟩ bv body A c rqs (wr.setCell ⟨rb, 1, none⟩ (.bool true)) := by
  obtain ⟨h1, h2, h3⟩ := h.on he
  have hk : Upd (One rb) wr (wr.setCell ⟨rb, 1, none⟩ (.bool true)) := (Upd.refl (One rb) _).set rfl _
  exact ⟨fun _ => ⟨_, _, h1.blk.set 1 (.bool true)⟩, fun h => (by cases h), h.upd.setCell (p := ⟨rb, 1, none⟩) (fun hlt => h3 rb (.inl rfl) hlt) _,
    h.rq.upd hk (fun b hb hs => h.slice_apart he b hb (.inl hs)) (fun r hr b hb hs => (h.apart r hr b hb).1 hs), fun r hr b hb => ⟨(h.apart r hr b hb).1, fun h => (by cases h)⟩⟩
/-- the reader's own block is written, nothing else -/
theorem FdAt.write {w0 : World} {base rb : Nat} {S0 : Nat → Prop} {s s' : HS} {bv bv' : Value} {body body' : Option BdV} {A : Option Addr} {c : Nat} {rqs : List ReqV} {wr w' : World} (h : FdAt w0 base rb S0 s bv body A c rqs wr) (he : s.ended = false) (he' : s'.ended = false) (hk : Upd (One rb) wr w')
    (hrd : RdW w' base rb bv' s'.b body') (hbd : body'.map BdV.d = s'.body) (hft : ∀ b, RFoot rb bv' body' b → b < wr.heap.size → RFoot rb bv body b) (hnew : ∀ b, RFoot rb bv' body' b → ¬ b < wr.heap.size → w0.heap.size ≤ b) : FdAt w0 base rb S0 s' bv' body' A c rqs w' := by
  obtain ⟨h1, h2, h3⟩ := h.on he
  refine ⟨fun h => (by rw [he'] at h; cases h), fun _ => ⟨hrd, hbd, fun b hb hlt => ?_⟩, h.upd.trans hk fun b hlt hs => ?_, h.rq.upd hk (fun b hb hs => h.slice_apart he b hb (.inl hs)) (fun r hr b hb hs => (h.apart r hr b hb).1 hs), fun r hr b hb => ⟨(h.apart r hr b hb).1, fun _ hf => ?_⟩⟩
  · by_cases hw : b < wr.heap.size
    · exact h3 b (hft b hb hw) hlt
    · have := hnew b hb hw; omega
  · have hs : b = rb := hs
    subst hs
    exact h3 b (.inl rfl) hlt
  · have hw := (own_in (h.rq.rows r hr).own hb).1
    exact (h.apart r hr b hb).2 he (hft b hf hw)
theorem own_cutv {A : Option Addr} {n c i : Nat} : (Value.slice (if c = i then A else A.map (·.add (i * 1))) (n - i) (c - i)).ownBlock = (Value.slice A n c).ownBlock := by
  cases A with
  | none => split <;> rfl
  | some ad =>
    split
    · rfl
    · simp [Value.ownBlock, block_add]
theorem StrsOwn.at {base : Nat} {A : Option Addr} {m c : Nat} {ss : List ByteArray} {w : World} (h : StrsOwn base A m c ss w) (hm : m ≤ 2000) (he : ∀ s ∈ ss, s.size ≤ 2000) : StrsAt w w.heap.size A m c ss :=
  ⟨Rd.own h.own, own_cap h.own, h.len, hm, he⟩
theorem takeB_le (d : Bd) (l : List Nat) : (takeB d l).1.1 ≤ l.length := by
  unfold takeB
  cases d.c with
  | none => simp only; omega
  | some s =>
    simp only
    unfold feed
    split
    · simp
    · have := feedGo_le l s 0
      omega
theorem takeB_inv {d : Bd} {l : List Nat} (h : d.c = none → d.got.length + d.left ≤ 65535) : (takeB d l).2.c = none → (takeB d l).2.got.length + (takeB d l).2.left ≤ 65535 := by
  unfold takeB
  cases hc : d.c with
  | none =>
    intro _
    have := h hc
    simp only [List.length_append, List.length_take]
    omega
  | some s => intro hn; cases hn
/-- behind take -/
theorem FdAt.took {w0 : World} {base rb : Nat} {S0 : Nat → Prop} {l : List Nat} {bv : Value} {x : BdV} {A : Option Addr} {c : Nat} {rqs : List ReqV} {wr w' : World} {gv cv : Value} {d : Bd} (h : FdAt w0 base rb S0 ⟨false, l, some x.d⟩ bv (some x) A c rqs wr)
    (hk : Upd x.Foot wr w') (hbd : BdAt w' base x.bb gv x.p cv d) (hft : ∀ b, BFoot x.bb gv x.p cv b → b < wr.heap.size → x.Foot b) (hinv : d.c = none → d.got.length + d.left ≤ 65535) :
    FdAt w0 base rb S0 ⟨false, l, some d⟩ bv (some ⟨x.bb, gv, x.p, cv, d⟩) A c rqs w' := by
  obtain ⟨h1, h2, h3⟩ := h.on rfl
  have hnr := h1.not_rb
  have hx := h1.bd x rfl
  have hfoot : ∀ b, RFoot rb bv (some ⟨x.bb, gv, x.p, cv, d⟩) b → b < wr.heap.size → RFoot rb bv (some x) b := by
    rintro b (rfl | hb | ⟨y, hy, hb⟩) hlt
    · exact .inl rfl
    · exact .inr (.inl hb)
    · injection hy with hy
      subst hy
      exact .inr (.inr ⟨x, rfl, hft b hb hlt⟩)
  refine ⟨fun h => (by cases h), fun _ => ⟨⟨h1.blk.upd hk (hnr.2 x rfl), h1.buf.upd hk fun b hb hs => hx.2.2 b hs hb, h1.bytes, h1.ge, fun y hy => ?_⟩, rfl, fun b hb hlt => h3 b (hfoot b hb (Nat.lt_of_lt_of_le hlt h.upd.size)) hlt⟩,
    h.upd.trans hk fun b hlt hs => h3 b (.inr (.inr ⟨x, rfl, hs⟩)) hlt, h.rq.upd hk (fun b hb hs => h.slice_apart rfl b hb (.inr (.inr ⟨x, rfl, hs⟩))) (fun r hr b hb hs => (h.apart r hr b hb).2 rfl (.inr (.inr ⟨x, rfl, hs⟩))),
    fun r hr b hb => ⟨(h.apart r hr b hb).1, fun _ hf => (h.apart r hr b hb).2 rfl (hfoot b hf (own_in (h.rq.rows r hr).own hb).1)⟩⟩
  injection hy with hy
  subst hy
  refine ⟨hbd, hinv, fun b hb hs => ?_⟩
  exact hx.2.2 b (hft b hb (h1.buf.lt hs).1) hs
/-- its front is cut off -/
theorem FdAt.cut {w0 : World} {base rb i : Nat} {S0 : Nat → Prop} {l : List Nat} {Ab : Option Addr} {cb : Nat} {x : BdV} {A : Option Addr} {c : Nat} {rqs : List ReqV} {wr : World} (h : FdAt w0 base rb S0 ⟨false, l, some x.d⟩ (.slice Ab l.length cb) (some x) A c rqs wr) (hi : i ≤ l.length) {v2 : Value}
    (hv : v2 = Value.slice (if cb = i then Ab else Ab.map (·.add (i * 1))) (l.length - i) (cb - i)) : FdAt w0 base rb S0 ⟨false, l.drop i, some x.d⟩ v2 (some x) A c rqs (wr.setCell ⟨rb, 2, none⟩ v2) := by
  obtain ⟨h1, h2, h3⟩ := h.on rfl
  have hk : Upd (One rb) wr (wr.setCell ⟨rb, 2, none⟩ v2) := (Upd.refl (One rb) _).set rfl _
  have hnr := h1.not_rb
  have hown : v2.ownBlock = (Value.slice Ab l.length cb).ownBlock := by rw [hv]; exact own_cutv
  refine h.write rfl rfl hk ⟨h1.blk.set 2 v2, ?_, fun b hb => h1.bytes b (List.mem_of_mem_drop hb), h1.ge, fun y hy => ?_⟩ rfl (fun b hb _ => ?_) (fun b hb hlt => ?_)
  · have a1 := h1.buf.cut (k := i) hi
    have a2 := a1.upd hk (fun b hb hs => hnr.1 (by
      have hs : b = rb := hs
      subst hs
      rw [← own_cutv (i := i)]
      rw [Nat.mul_one]
      rw [Nat.mul_one] at hb
      exact hb))
    rw [List.length_drop]
    rw [Nat.mul_one] at hv
    simp only [byts, List.map_drop] at a2 ⊢
    subst hv
    simpa using a2
  · injection hy with hy
    subst hy
    obtain ⟨b1, b2, b3⟩ := h1.bd x rfl
    exact ⟨b1.upd hk fun b hb hs => hnr.2 x rfl (hs ▸ hb), b2, fun b hb hs => b3 b hb (hown ▸ hs)⟩
  · rcases hb with rfl | hb | hb
    · exact .inl rfl
    · exact .inr (.inl (hown ▸ hb))
    · exact .inr (.inr hb)
  · have hlt2 : b < wr.heap.size := by
      rcases hb with rfl | hb | ⟨y, hy, hb⟩
      · exact h1.blk.lt
      · exact (h1.buf.lt (hown ▸ hb)).1
      · exact ((h1.bd y hy).1.lt b hb).1
    exact absurd hlt2 hlt
/-- what stands behind the cut that follows take -/
def CutIs4 (w : World) (base rb : Nat) (S0 : Nat → Prop) (l : List Nat) (x : BdV) (gv cv : Value) (A3 : Option Addr) (d : Bd) (A : Option Addr) (c : Nat) (rqs : List ReqV) (wx : World) : Prop :=
  ∃ v4, FdAt w base rb S0 ⟨false, l, some d⟩ v4 (some ⟨x.bb, gv, x.p, cv, d⟩) A c rqs wx ∧ Rd wx wx.heap.size 1 A3 d.got.length (byts d.got)
theorem rd_rb {w : World} {base rb : Nat} {bv : Value} {l lb : List Nat} {body : Option BdV} {A : Option Addr} {n B i : Nat} {v : Value} (h : RdW w base rb bv l body) (hr : Rd w B 1 A n (byts lb)) : Rd (w.setCell ⟨rb, i, none⟩ v) B 1 A n (byts lb) := by
  refine rd_set hr fun ad hA hn => ?_
  subst hA
  refine rd_ne hr hn h.blk ?_
  intro u hu x
  obtain ⟨Ab, cb, hform, _⟩ := h.buf.form
  rw [hform] at hu
  simp only [List.mem_cons, List.not_mem_nil, or_false] at hu
  rcases hu with rfl | rfl | rfl | rfl <;> simp
/-- what stands behind take -/
def TookIs (w : World) (base rb : Nat) (S0 : Nat → Prop) (l : List Nat) (bv : Value) (x : BdV) (d : Bd) (A : Option Addr) (c : Nat) (rqs : List ReqV) (wx : World) : Prop :=
  ∃ gv cv A3 c3, gv = .slice A3 d.got.length c3 ∧ FdAt w base rb S0 ⟨false, l, some d⟩ bv (some ⟨x.bb, gv, x.p, cv, d⟩) A c rqs wx ∧ Rd wx wx.heap.size 1 A3 d.got.length (byts d.got)
theorem takeB_body (d : Bd) (l : List Nat) (s : CS) : (takeB d l).2.c = some s → (takeB d l).2.got = s.body := by
  unfold takeB
  cases hc : d.c with
  | none => intro h; cases h
  | some s0 =>
    intro h
    injection h with h
    subst h
    rfl
theorem ge_of_own {w : World} {base : Nat} {e : TypeId} {size n : Nat} {v : Value} {xs : List Value} (h : w.ownsRow base e size v n xs) (b : Nat) (hb : v.ownBlock = some b) : base ≤ b := by
  rcases h.2 with ⟨rfl, _⟩ | ⟨g, cap, cur, rfl, hg, _⟩
  · cases hb
  · simp only [Value.ownBlock, Option.some.injEq] at hb
    omega
theorem own_down {w : World} {b b' : Nat} {e : TypeId} {size n : Nat} {v : Value} {xs : List Value} (h : w.ownsRow b e size v n xs) (hb : b' ≤ b) : w.ownsRow b' e size v n xs := by
  obtain ⟨h1, h2⟩ := h
  rcases h2 with h2 | ⟨g, cap, cur, hv, hg, r⟩
  · exact ⟨h1, .inl h2⟩
  · exact ⟨h1, .inr ⟨g, cap, cur, hv, by omega, r⟩⟩
theorem own_two {w : World} {base base' : Nat} {e e' : TypeId} {size size' n n' : Nat} {v v' : Value} {xs xs' : List Value} (h : w.ownsRow base e size v n xs) (h' : w.ownsRow base' e' size' v' n' xs') (hne : e ≠ e') (b : Nat) (hb : v.ownBlock = some b) (hb' : v'.ownBlock = some b) : False := by
  rcases h.2 with ⟨rfl, _⟩ | ⟨g, cap, cur, rfl, _, hh, _⟩
  · cases hb
  · rcases h'.2 with ⟨rfl, _⟩ | ⟨g', cap', cur', rfl, _, hh', _⟩
    · cases hb'
    · simp only [Value.ownBlock, Option.some.injEq] at hb hb'
      subst hb
      subst hb'
      rw [hh] at hh'
      injection hh' with hh'
      injection hh' with _ ht
      exact hne ht
/-- a request more -/
theorem FdAt.push {w0 : World} {base rb q : Nat} {S0 : Nat → Prop} {s : HS} {bv : Value} {body : Option BdV} {A : Option Addr} {c : Nat} {rqs : List ReqV} {wc w5 w8 : World} {o : Obj} {row : Row} {keep : Bool} {A8 : Option Addr} {c8 : Nat} (h : FdAt w0 base rb S0 s bv body A c rqs wc) (he : s.ended = false) (hq : rqs.length = q) (hu5 : Upd Nix wc w5)
    (hrow : w5.ownsRow wc.heap.size 5 1 (.slice row.A row.n row.c) row.n (byts row.l)) (hb : ∀ b ∈ row.l, b < 256) (hsm : row.n ≤ 65535)
    (hown : w8.ownsRow w0.heap.size 140 3 (.slice A8 (q + 1) c8) (q + 1) ((rqs.map ReqV.cells).flatten ++ [.string firstS, .slice row.A row.n row.c, .bool keep])) (hg : (w5.alloc o).grownBy w8 (Value.slice A q c).ownBlock) :
    FdAt w0 base rb S0 s bv body A8 c8 (rqs ++ [⟨row, keep⟩]) w8 := by
  subst hq
  have h5 := h.quiet hu5
  have hsl := h5.slice_apart he
  have u1 : Upd Nix w5 (w5.alloc o) := (Upd.refl _ _).alloc o
  have hk := h5.quiet u1
  have hout := hk.rq.out
  have ug : Upd (fun b => (Value.slice A rqs.length c).ownBlock = some b) (w5.alloc o) w8 := upd_own hg
  obtain ⟨k1, k2, k3⟩ := hk.on he
  obtain ⟨e1, _, _⟩ := h.on he
  have hlt := e1.lt
  have hrowlt : ∀ b, (Value.slice row.A row.n row.c).ownBlock = some b → wc.heap.size ≤ b := fun b hb => ge_of_own hrow b hb
  have hrow2 : (w5.alloc o).ownsRow wc.heap.size 5 1 (.slice row.A row.n row.c) row.n (byts row.l) := own_upd' hrow u1 fun _ _ h => h
  have keepR : ∀ r ∈ rqs, ReqOk w8 w0.heap.size r := fun r hr => by
    have a := hk.rq.rows r hr
    exact ⟨own_upd' a.own ug fun b hb hS => own_two a.own hout (by decide) b hb hS, a.nc, a.bytes, a.small⟩
  refine ⟨fun hh => (by rw [he] at hh; cases hh), fun _ => ⟨k1.upd ug fun b hb hS => hsl b hS hb, k2, k3⟩, ?_, ⟨?_, ?_⟩, ?_⟩
  · exact hk.upd.trans ug fun b hb hS => by have := ge_of_own hout b hS; omega
  · rw [List.length_append, List.map_append, List.flatten_append]
    simpa [ReqV.cells] using hown
  · intro r hr
    rcases List.mem_append.1 hr with hr | hr
    · exact keepR r hr
    · simp only [List.mem_singleton] at hr
      subst hr
      exact ⟨own_down (own_upd' hrow2 ug fun b hb hS => own_two hrow2 hout (by decide) b hb hS) h.upd.size, own_cap hrow, hb, hsm⟩
  · intro r hr b hb
    rcases List.mem_append.1 hr with hr | hr
    · exact hk.apart r hr b hb
    · simp only [List.mem_singleton] at hr
      subst hr
      have hge := hrowlt b hb
      exact ⟨fun e => by have := (hlt rb (.inl rfl)).1; omega, fun _ hf => by have := (hlt b hf).1; omega⟩
/-- its body is done -/
theorem FdAt.done {w0 : World} {base rb : Nat} {S0 : Nat → Prop} {l : List Nat} {bv : Value} {x : BdV} {A : Option Addr} {c : Nat} {rqs : List ReqV} {wr : World} {d : Bd} (keep : Bool) (h : FdAt w0 base rb S0 ⟨false, l, some d⟩ bv (some x) A c rqs wr) :
    FdAt w0 base rb S0 ⟨!keep, l, none⟩ bv none A c rqs ((wr.setCell ⟨rb, 1, none⟩ (.bool (!keep))).setCell ⟨rb, 3, none⟩ (.pointer none)) := by
  obtain ⟨h1, h2, h3⟩ := h.on rfl
  have hk : Upd (One rb) wr ((wr.setCell ⟨rb, 1, none⟩ (.bool (!keep))).setCell ⟨rb, 3, none⟩ (.pointer none)) := ((Upd.refl (One rb) _).set rfl _).set rfl _
  have hblk := (h1.blk.set 1 (.bool (!keep))).set 3 (.pointer none)
  have hnr := h1.not_rb
  cases keep with
  | false =>
    exact ⟨fun _ => ⟨_, _, hblk⟩, fun hh => (by cases hh), h.upd.trans hk fun b hlt hs => (by have hs : b = rb := hs; subst hs; exact h3 b (.inl rfl) hlt),
      h.rq.upd hk (fun b hb hs => h.slice_apart rfl b hb (.inl hs)) (fun r hr b hb hs => (h.apart r hr b hb).1 hs), fun r hr b hb => ⟨(h.apart r hr b hb).1, fun hh => (by cases hh)⟩⟩
  | true =>
    refine h.write (s' := ⟨false, l, none⟩) rfl rfl hk ⟨hblk, h1.buf.upd hk (fun b hb hs => hnr.1 (hs ▸ hb)), h1.bytes, h1.ge, fun y hy => (by cases hy)⟩ rfl (fun b hb _ => ?_) (fun b hb hlt => ?_)
    · rcases hb with rfl | hb | ⟨y, hy, _⟩
      · exact .inl rfl
      · exact .inr (.inl hb)
      · cases hy
    · have hlt2 : b < wr.heap.size := by
        rcases hb with rfl | hb | ⟨y, hy, _⟩
        · exact h1.blk.lt
        · exact (h1.buf.lt hb).1
        · cases hy
      exact absurd hlt2 hlt
end Go.Proofs.YtageanmjdfodnaaGreatDoor
