/- HttpLives: the walk. -/
import Derived.Test.YtbiapeplkegjlaaGreatDoorR13H
import Derived.Test.YtbiapeplkegjlaaGreatDoorHttpAw
import Derived.Test.YtbiapeplkegjlaaGreatDoorHttpWs
import Derived.Test.YtbiapeplkegjlaaGreatDoorOpenBB
namespace Go.Proofs.YtbiapeplkegjlaaGreatDoor
open Go.RowKit Go.Cx Go.Maps

set_option maxRecDepth 100000 in
theorem feed_off (A : Option Addr) (n c rb : Nat) (v : Value) (p : Option Addr) (w : World) (h : Blk w rb 39 #[.bool true, .bool true, v, .pointer p]) : Calls Tryz.prog 5 #[.pointer (some ⟨rb, 0, none⟩), .slice A n c] w fun e w' => e = .returned (.tuple #[.slice none 0 0, .int .i64 0]) ∧ w = w' := by
  have h0 : w.cell? ⟨rb, 0, none⟩ = some (.bool true) := h.cell 0
  have h1 : w.cell? ⟨rb, 1, none⟩ = some (.bool true) := h.cell 1
  clear h
  go_enter Tryz.func5, Tryz.ntmps5
  go_wp2_with fail
  go_loopw [6] (fun s6 wr => s6 = .slice none 0 0 ∧ w = wr) (fun _ _ => 0)
  case atStart => exact ⟨rfl, rfl⟩
  case round =>
    obtain ⟨rfl, rfl⟩ := hrel
    go_wp2_with fail
    go_ret2
    exact ⟨rfl, rfl⟩
theorem ended_at (rb : Nat) (b : Bool) (w : World) (h : w.cell? ⟨rb, 1, none⟩ = some (.bool b)) : Calls Tryz.prog 8 #[.pointer (some ⟨rb, 0, none⟩)] w fun e w' => e = .returned (.bool b) ∧ w = w' := by
  go_enter Tryz.func8, Tryz.ntmps8
  go_wp2_with fail
  go_ret
  exact ⟨rfl, rfl⟩
set_option maxRecDepth 100000 in
set_option maxHeartbeats 3200000 in
theorem same_req (kp : Bool) (d d' : Row) (w : World) (h : Rd w w.heap.size 1 d.A d.n (byts d.l)) (h' : Rd w w.heap.size 1 d'.A d'.n (byts d'.l)) (hb : ∀ b ∈ d.l, b < 256) (hb' : ∀ b ∈ d'.l, b < 256) (he : d.l = d'.l) :
    Calls Tryz.prog 19 #[.agg #[.string firstS, .slice d.A d.n d.c, .bool kp], .agg #[.string firstS, .slice d'.A d'.n d'.c, .bool kp]] w fun e w' => e = .returned (.bool true) ∧ Upd Nix w w' := by
  have hcall := fun (W : World) (hW : Upd Nix w W) => bytes_equal W _ _ d.A d'.A d.n d'.n d.c d'.c d.l d'.l (h.below (hW.belowNix (Nat.le_refl _))) (h'.below (hW.belowNix (Nat.le_refl _))) hb hb'
  have hdec : decide (d.l = d'.l) = true := decide_eq_true he
  rw [hdec] at hcall
  have HC := Lib.hid hcall
  clear hcall hdec h h' he
  go_enter Tryz.func19, Tryz.ntmps19
  go_wp2_with fail
  refine (HC.out _ (((Upd.refl _ _).alloc _).alloc _)).mono ?_
  rintro e w1 ⟨rfl, rfl⟩
  go_wp2_with fail
  go_ret
  exact ⟨by rfl, ((Upd.refl _ _).alloc _).alloc _⟩
/-- requests in memory that are read -/
theorem ReqsOwn.at {base c n i : Nat} {A : Option Addr} {rqs : List ReqV} {w : World} (h : ReqsOwn base A c rqs w) (hn : rqs.length = n) (hi : i < n) :
    ∃ go r, rqs[i]? = some r ∧ A = some ⟨go, 0, none⟩ ∧ go < w.heap.size ∧ w.cell? ⟨go, i * 3, none⟩ = some (.string firstS) ∧ w.cell? ⟨go, i * 3 + 1, none⟩ = some (.slice r.row.A r.row.n r.row.c) ∧ w.cell? ⟨go, i * 3 + 2, none⟩ = some (.bool r.keep) ∧ Rd w w.heap.size 1 r.row.A r.row.n (byts r.row.l) ∧ ∀ b ∈ r.row.l, b < 256 := by
  subst hn
  obtain ⟨r, hr⟩ : ∃ r, rqs[i]? = some r := ⟨_, List.getElem?_eq_getElem hi⟩
  obtain ⟨go, hA, _, hlt, k0, k1, k2⟩ := h.idx hr
  have h1 := h.rows r (List.mem_of_getElem? hr)
  exact ⟨go, r, hr, hA, hlt, k0, k1, k2, Rd.own h1.own, h1.bytes⟩
set_option maxRecDepth 100000 in
set_option maxHeartbeats 3200000 in
theorem equal_reqs (A A' : Option Addr) (n c c' B B' : Nat) (rs rs' : List ReqV) (w : World) (h : ReqsOwn B A c rs w) (h' : ReqsOwn B' A' c' rs' w) (hn : rs.length = n) (hn' : rs'.length = n) (hs : n ≤ 140737488355328) (he : rs.map ReqV.said = rs'.map ReqV.said) :
    Calls Tryz.prog 18 #[.slice A n c, .slice A' n c', .func (.func 19) #[] #[]] w fun e w' => e = .returned (.bool true) ∧ Upd Nix w w' := by
  have H := Lib.hid h
  have H' := Lib.hid h'
  have HE := Lib.hid he
  have HN := Lib.hid hn
  have HN' := Lib.hid hn'
  clear h h' he hn hn'
  go_enter Tryz.func18, Tryz.ntmps18
  go_wp2_with fail
  go_loopw [17] (fun s17 wr => ∃ k : Nat, k ≤ n ∧ s17 = .int .i64 k ∧ Upd Nix w wr) (fun s17 _ => n - (intOf s17).toNat)
  case atStart => exact ⟨0, Nat.zero_le _, rfl, Upd.refl _ _⟩
  case round =>
    obtain ⟨k, hk, rfl, hur⟩ := hrel
    have HUR := Lib.hid hur
    by_cases hkn : k < n
    · have hki : (k : Int) < (n : Int) := by omega
      obtain ⟨ga, r, hr, rfl, hla, a0, a1, a2, hrd, hby⟩ := (H.out.upd hur (fun _ _ h => h) (fun _ _ _ _ h => h)).at HN.out hkn
      obtain ⟨gb, r', hr', rfl, hlb, b0, b1, b2, hrd', hby'⟩ := (H'.out.upd hur (fun _ _ h => h) (fun _ _ _ _ h => h)).at HN'.out hkn
      have hl : r.said = r'.said := by
        have h1 := congrArg (fun x => x[k]?) HE.out
        simp only [List.getElem?_map, hr, hr', Option.map_some, Option.some.injEq] at h1
        exact h1
      obtain ⟨d, kp⟩ := r
      obtain ⟨d', kp'⟩ := r'
      obtain rfl : kp = kp' := congrArg Rq.keep hl
      have hd : d.l = d'.l := congrArg Rq.body hl
      have HC := Lib.hid (fun (W : World) (hW : Upd Nix wr W) => same_req kp d d' W ((hrd.below (hW.belowNix (Nat.le_refl _))).more hW.size) ((hrd'.below (hW.belowNix (Nat.le_refl _))).more hW.size) hby hby' hd)
      unfold firstS at a0 b0 HC
      simp only at a1 a2 b1 b2
      clear hur hr hr' hrd hrd' hby hby' hl hd
      go_wp2_with fail
      refine (HC.out _ (((Upd.refl _ _).alloc _).alloc _)).mono ?_
      rintro e w1 ⟨rfl, hu1⟩
      have HU1 := Lib.hid (HUR.out.trans ((((Upd.refl _ _).alloc _).alloc _).trans hu1 fun _ _ h => h) fun _ _ h => h)
      clear HC hu1
      go_wp2_with fail
      refine ⟨⟨k + 1, by omega, by rfl, HU1.out⟩, ?_⟩
      simp only [intOf]; omega
    · have hki : ¬ (k : Int) < (n : Int) := by omega
      clear hur
      go_wp2_with fail
      go_ret
      exact ⟨rfl, HUR.out⟩
theorem same_reqs (A A' : Option Addr) (n c c' B B' : Nat) (rs rs' : List ReqV) (w : World) (h : ReqsOwn B A c rs w) (h' : ReqsOwn B' A' c' rs' w) (hn : rs.length = n) (hn' : rs'.length = n) (hs : n ≤ 140737488355328) (he : rs.map ReqV.said = rs'.map ReqV.said) :
    Calls Tryz.prog 7 #[.slice A n c, .slice A' n c'] w fun e w' => e = .returned (.bool true) ∧ Upd Nix w w' := by
  have HC := Lib.hid (equal_reqs A A' n c c' B B' rs rs' w h h' hn hn' hs he)
  clear h h' he hn hn' hs
  go_enter Tryz.func7, Tryz.ntmps7
  go_wp2_with fail
  refine HC.out.mono ?_
  rintro e w1 ⟨rfl, hu1⟩
  have HU1 := Lib.hid hu1
  clear HC hu1
  go_wp2_with fail
  go_ret
  exact ⟨rfl, HU1.out⟩
theorem feedN_len : ∀ (k : Nat) (s : HS) (l : List Rq), (feedN k s l).1.1.length ≤ l.length + k
  | 0, s, l => by simp [feedN]
  | k + 1, s, l => by
    rw [feedN]
    split
    · simp
    · split
      · simp only; omega
      · rename_i r s' _
        have := feedN_len k s' (l ++ [r])
        rw [List.length_append, List.length_singleton] at this
        omega
theorem feedH_len (s : HS) (x : List Nat) : (feedH s x).1.1.length ≤ s.b.length + x.length + 2 := by
  unfold feedH
  split
  · simp
  · have := feedN_len (s.b.length + x.length + 2) { s with b := s.b ++ x } []
    simpa using this
/-- both readers, of the same state -/
structure LvAt (w : World) (rb xb : Nat) (s : HS) (bv : Value) (body : Option BdV) (xv : Value) (xbody : Option XBd) (wr : World) : Prop where
  off : s.ended = true → (∃ v p, Blk wr rb 39 #[.bool true, .bool true, v, .pointer p]) ∧ ∃ a b c d f g, Blk wr xb 29 #[a, .bool true, b, c, d, f, g]
  on : s.ended = false → RdW wr w.heap.size rb bv s.b body ∧ body.map BdV.d = s.body ∧ XRd wr w.heap.size xb xv s.b xbody ∧ xbody.map XBd.d = s.body ∧ (∀ b, RFoot rb bv body b → ¬ XAll xb xv xbody b) ∧ s.b.length ≤ 2000
  ge : w.heap.size ≤ rb ∧ w.heap.size ≤ xb
  bel : Below w.heap.size w wr
theorem LvAt.ended {w : World} {rb xb : Nat} {s : HS} {bv : Value} {body : Option BdV} {xv : Value} {xbody : Option XBd} {wr : World} (h : LvAt w rb xb s bv body xv xbody wr) :
    wr.cell? ⟨rb, 1, none⟩ = some (.bool s.ended) ∧ ∃ a b c d f g, Blk wr xb 29 #[a, .bool s.ended, b, c, d, f, g] := by
  cases he : s.ended with
  | true =>
    obtain ⟨⟨v, p, h1⟩, h2⟩ := h.off he
    exact ⟨h1.cell 1, h2⟩
  | false =>
    obtain ⟨h1, _, h2, _⟩ := h.on he
    obtain ⟨_, _, _, _, _, h3⟩ := h2.blk
    exact ⟨h1.blk.cell 1, _, _, _, _, _, _, h3⟩
theorem LvAt.quiet {w : World} {rb xb : Nat} {s : HS} {bv : Value} {body : Option BdV} {xv : Value} {xbody : Option XBd} {wr w' : World} (h : LvAt w rb xb s bv body xv xbody wr) (k : Upd Nix wr w') : LvAt w rb xb s bv body xv xbody w' :=
  ⟨fun he => by
    obtain ⟨⟨v, p, h1⟩, _, _, _, _, _, _, h2⟩ := h.off he
    exact ⟨⟨v, p, h1.upd k fun h => h⟩, _, _, _, _, _, _, h2.upd k fun h => h⟩, fun he => by
    obtain ⟨h1, h2, h3, h4⟩ := h.on he
    exact ⟨h1.upd k fun _ _ h => h, h2, h3.quiet k, h4⟩, h.ge, h.bel.trans (k.belowNix h.bel.size)⟩
/-- both are fed -/
theorem LvAt.fed {w : World} {rb xb : Nat} {s : HS} {bv : Value} {body : Option BdV} {xv : Value} {xbody : Option XBd} {wr w3 w4 : World} (h : LvAt w rb xb s bv body xv xbody wr) (he : s.ended = false) {s' : HS} {bv' : Value} {body' : Option BdV} {xv' : Value} {xbody' : Option XBd} {A1 A2 : Option Addr} {c1 c2 : Nat} {rs1 rs2 : List ReqV}
    (h1 : FdAt wr w.heap.size rb (RFoot rb bv body) s' bv' body' A1 c1 rs1 w3) (h2 : XFdAt w3 w.heap.size xb (XFoot xb xbody) s' xv' xbody' A2 c2 rs2 w4) (hsm : s'.ended = false → s'.b.length ≤ 2000) :
    LvAt w rb xb s' bv' body' xv' xbody' w4 ∧ ReqsOwn wr.heap.size A1 c1 rs1 w4 := by
  obtain ⟨k1, k2, k3, k4, k5, k6⟩ := h.on he
  have hlt := k3.lt.1
  have hnr : ¬ XFoot xb xbody rb := fun hf => k5 rb (.inl rfl) (.inl hf)
  have hw3 : Upd (XFoot xb xbody) w3 w4 := h2.upd
  have hsz := h1.upd.size
  have hge := h.bel.size
  have hxs : ∀ b, XFoot xb xbody b → b < wr.heap.size ∧ w.heap.size ≤ b := fun b hb => hlt b hb
  refine ⟨⟨fun hh => ?_, fun hh => ?_, h.ge, ?_⟩, ?_⟩
  · obtain ⟨v, p, hb⟩ := h1.off hh
    exact ⟨⟨v, p, hb.upd hw3 hnr⟩, h2.off hh⟩
  · obtain ⟨a1, a2, a3⟩ := h1.on hh
    obtain ⟨b1, b2, b3, b4⟩ := h2.on hh
    have hap : ∀ b, RFoot rb bv' body' b → ¬ XFoot xb xbody b := fun b hb hx => by
      have := (hxs b hx).1
      exact k5 b (a3 b hb this) (.inl hx)
    refine ⟨a1.upd hw3 hap, a2, b1, b2, fun b hb hx => ?_, hsm hh⟩
    have hb3 := (a1.lt b hb).1
    rcases hx with hx | hx
    · exact hap b hb (b3 b hx hb3)
    · have := b4 b hx
      omega
  · refine (h.bel.trans (h1.upd.below hge fun b _ hb => (k1.lt b hb).2)).trans (hw3.below (Nat.le_trans hge hsz) fun b _ hb => (hxs b hb).2)
  · refine h1.rq.upd hw3 (fun b hb hx => ?_) (fun r hr b hb hx => ?_)
    · have := ge_of_own h1.rq.out b hb
      have := (hxs b hx).1
      omega
    · have := ge_of_own (h1.rq.rows r hr).own b hb
      have := (hxs b hx).1
      omega
set_option maxRecDepth 100000 in
set_option maxHeartbeats 12800000 in
theorem httpLives (A : Option Addr) (n c : Nat) (L : List Row) (w : World) (hL : L.length = n) (hn : n ≤ 140737488351232) (hr : Rd w w.heap.size 1 A n (L.map Row.val)) (hrow : ∀ r ∈ L, RowIn w w.heap.size r) (ht : Tab10 w) :
    Calls Tryz.prog 3 #[.slice A n c] w fun e w' => e = .returned (.bool true) ∧ Below w.heap.size w w' := by
  have HL := Lib.hid hL
  have HR := Lib.hid hr
  have HROW := Lib.hid hrow
  have HT := Lib.hid ht
  clear hL hr hrow ht
  go_enter Tryz.func3, Tryz.ntmps3
  go_wp2_with fail
  refine (http_new w).mono ?_
  rintro e w1 ⟨rfl, rfl⟩
  have hrd := new_rd w
  have hs1 : (w.alloc (.cells #[.bool true, .bool false, .slice none 0 0, .pointer none] 39)).heap.size = w.heap.size + 1 := by simp
  have hu1 : Upd Nix w (w.alloc (.cells #[.bool true, .bool false, .slice none 0 0, .pointer none] 39)) := (Upd.refl _ _).alloc _
  generalize w.alloc (.cells #[.bool true, .bool false, .slice none 0 0, .pointer none] 39) = w1 at *
  go_wp2_with fail
  have hlv : LvAt w w.heap.size w1.heap.size ⟨false, [], none⟩ (.slice none 0 0) none (.slice none 0 0) none (w1.alloc (.cells #[.slice none 0 0, .bool false, .bool false, .bool false, .int .i64 0, .slice none 0 0, .pointer none] 29)) := by
    have hu2 : Upd Nix w1 (w1.alloc (.cells #[.slice none 0 0, .bool false, .bool false, .bool false, .int .i64 0, .slice none 0 0, .pointer none] 29)) := (Upd.refl _ _).alloc _
    refine ⟨fun h => (by cases h), fun _ => ⟨hrd.upd hu2 (fun _ _ h => h), rfl, ⟨fun _ => ⟨_, _, _, _, Blk.new _ _ _⟩, fun y hy => (by cases hy), Lies.nil _ _ _, fun b hb => (by cases hb), by omega, fun y hy => (by cases hy)⟩, rfl, fun b hb hx => ?_, by simp⟩, ⟨Nat.le_refl _, by omega⟩, (hu1.trans hu2 fun _ _ h => h).belowNix (Nat.le_refl _)⟩
    have h1 : b = w.heap.size := by
      rcases hb with rfl | hb | ⟨y, hy, _⟩
      · rfl
      · cases hb
      · cases hy
    have h2 : b = w1.heap.size := by
      rcases hx with (rfl | ⟨y, hy, _⟩) | hx
      · rfl
      · cases hy
      · cases hx
    omega
  rw [hs1] at hlv
  have HLV := Lib.hid hlv
  generalize w1.alloc (.cells #[.slice none 0 0, .bool false, .bool false, .bool false, .int .i64 0, .slice none 0 0, .pointer none] 29) = wa at *
  clear hrd hu1 hs1 hlv
  go_loopw [16] (fun i wr => ∃ (k : Nat) (s : HS) (bv : Value) (body : Option BdV) (xv : Value) (xbody : Option XBd), k ≤ n ∧ i = .int .i64 k ∧ LvAt w w.heap.size (w.heap.size + 1) s bv body xv xbody wr) (fun i _ => n - (intOf i).toNat)
  case atStart => exact ⟨0, _, _, _, _, _, Nat.zero_le _, rfl, HLV.out⟩
  case round =>
    obtain ⟨k, s, bv, body, xv, xbody, hk, rfl, hb⟩ := hrel
    have HB := Lib.hid hb
    clear hb
    obtain ⟨rb, hrb⟩ : ∃ rb, w.heap.size = rb := ⟨_, rfl⟩
    have HRB := Lib.hid hrb
    rw [hrb] at HB ⊢
    clear hrb
    by_cases hkn : k < n
    · have hki : (k : Int) < (n : Int) := by omega
      have hkl : k < L.length := by rw [HL.out]; exact hkn
      obtain ⟨ad, rfl, hadB, hcell⟩ := HR.out.2 (by omega)
      obtain ⟨r, hr⟩ : ∃ r, r = L[k] := ⟨_, rfl⟩
      have hcx := hcell k r.val (by rw [List.getElem?_map, List.getElem?_eq_getElem hkl, hr]; rfl)
      have hcr := (HB.out.bel.cell (p := ad.add k) (by rw [block_add]; exact hadB)).trans hcx
      have hri := HROW.out r (by rw [hr]; exact List.getElem_mem hkl)
      have HRI := Lib.hid hri
      have hcap := hri.cap
      have hnc := hri.nc
      unfold Row.val at hcr
      clear hcell hcx hri hr
      go_wp2_with fail
      cases hen : s.ended with
      | true =>
        have HEN := Lib.hid hen
        obtain ⟨⟨v, p, hb1⟩, hx1⟩ := HB.out.off hen
        clear hen
        refine (feed_off r.A r.n r.c rb v p wr hb1).mono ?_
        rintro e w3 ⟨rfl, rfl⟩
        clear hb1
        go_wp2_with fail
        refine (ref_feed13_end (rb + 1) r.A r.n r.c wr hx1).mono ?_
        rintro e w4 ⟨rfl, rfl⟩
        clear hx1
        go_wp2_with fail
        refine (same_reqs none none 0 0 0 wr.heap.size wr.heap.size [] [] wr ⟨⟨rfl, .inl ⟨rfl, rfl⟩⟩, fun r hr => (by cases hr)⟩ ⟨⟨rfl, .inl ⟨rfl, rfl⟩⟩, fun r hr => (by cases hr)⟩ rfl rfl (by omega) rfl).mono ?_
        rintro e w5 ⟨rfl, hu5⟩
        have HB5 := Lib.hid (HB.out.quiet hu5)
        clear hu5
        go_wp2_with fail
        refine (ended_at rb _ w5 HB5.out.ended.1).mono ?_
        rintro e w6 ⟨rfl, rfl⟩
        go_wp2_with fail
        refine (ref_ended13 (rb + 1) _ w5 HB5.out.ended.2).mono ?_
        rintro e w6 ⟨rfl, rfl⟩
        have HEN2 := HEN.out
        rw [HEN2]
        go_wp2_with fail
        refine ⟨⟨k + 1, s, bv, body, xv, xbody, by omega, by rfl, HB5.out⟩, ?_⟩
        simp only [intOf]; omega
      | false =>
        have HEN := Lib.hid hen
        obtain ⟨h1, h2, h3, h4, h5, h6⟩ := HB.out.on hen
        have hsb : s = ⟨false, s.b, s.body⟩ := by cases s; simp only at hen; rw [hen]
        have hx : Rd wr wr.heap.size 1 r.A r.n (byts r.l) := (HRI.out.below HB.out.bel).rd.more HB.out.bel.size
        have hsz := HB.out.bel.size
        have H3 := Lib.hid h3
        have HXX := Lib.hid hx
        have hfd := http_feed w.heap.size rb bv s.b body r.A r.n r.c r.l wr (by rw [← HRB.out]; rw [← HRB.out] at h1; exact h1) hx HRI.out.bytes h6 (by omega) hsz
        have HFD := Lib.hid hfd
        have HH2 := Lib.hid h2
        have HH4 := Lib.hid h4
        have HSB := Lib.hid hsb
        clear h1 h2 h3 h4 h5 hsb hx hfd hen
        refine HFD.out.mono ?_
        rintro e w3 ⟨A1, c1, rs1, bv1, body1, rfl, hs1, hf1⟩
        rw [HH2.out, ← HSB.out] at hs1 hf1
        have hu13 := hf1.upd
        have hx3 : XRd w3 w.heap.size (rb + 1) xv s.b xbody := H3.out.upd hu13 (fun b hb hS => (HB.out.on HEN.out).2.2.2.2.1 b hS (.inl hb)) (fun b hb hS => (HB.out.on HEN.out).2.2.2.2.1 b hS (.inr hb))
        have hr3 : Rd w3 w3.heap.size 1 r.A r.n (byts r.l) := by
          have hbel := hu13.below (B := w.heap.size) hsz fun b _ hb => ((HB.out.on HEN.out).1.lt b hb).2
          exact ((HRI.out.below HB.out.bel).below hbel).rd.more (Nat.le_trans hsz hu13.size)
        have hfx := ref_feed13 w.heap.size (rb + 1) xv s.b xbody r.A r.n r.c r.l w3 hx3 hr3 HRI.out.bytes h6 (by omega) (Nat.le_trans hsz hu13.size)
        have HFX := Lib.hid hfx
        have HF1 := Lib.hid hf1
        have HS1 := Lib.hid hs1
        rw [HH2.out, ← HSB.out]
        clear hu13 hx3 hr3 hfx hf1 hs1 hcap hnc
        obtain ⟨R, hR⟩ : ∃ R, feedH s r.l = R := ⟨_, rfl⟩
        obtain ⟨⟨rq, er⟩, s'⟩ := R
        rw [hR]
        have HRR := Lib.hid hR
        clear hR
        go_wp2_with fail
        refine HFX.out.mono ?_
        rintro e w4 ⟨A2, c2, rs2, xv2, xbody2, rfl, hs2, hf2⟩
        rw [HH4.out, ← HSB.out, HRR.out] at hs2 hf2 ⊢
        have hs1 := HS1.out
        have hf1 := HF1.out
        rw [HRR.out] at hs1 hf1
        simp only at hs1 hf1 hs2 hf2 ⊢
        obtain ⟨hlv, hrq⟩ := HB.out.fed HEN.out hf1 hf2 (fun h => by
          have h1 := feedH_small s r.l HEN.out
          rw [HRR.out] at h1
          exact h1 h)
        have hlen : rs2.length = rs1.length := by
          have h1 := congrArg List.length hs1
          have h2 := congrArg List.length hs2
          rw [List.length_map] at h1 h2
          omega
        rw [hlen]
        have HLV4 := Lib.hid hlv
        have hsame := fun (W : World) (hW : Upd Nix w4 W) (hsm : rs1.length ≤ 140737488355328) => same_reqs A1 A2 rs1.length c1 c2 _ _ rs1 rs2 W (hrq.upd hW (fun _ _ h => h) (fun _ _ _ _ h => h)) (hf2.rq.upd hW (fun _ _ h => h) (fun _ _ _ _ h => h)) rfl hlen hsm (by rw [hs1, hs2])
        have HSAME := Lib.hid hsame
        have hsm : rs1.length ≤ 140737488355328 := by
          have h1 := feedH_len s r.l
          rw [HRR.out] at h1
          simp only at h1
          rw [← hs1, List.length_map] at h1
          have h2 := HXX.out.1
          simp only [byts, List.length_map, Nat.mul_one] at h2
          have := HRI.out.cap
          have := HRI.out.nc
          omega
        clear hs1 hf1 hs2 hf2 hlv hrq hlen hsame
        go_wp2_with fail
        refine (HSAME.out _ (Upd.refl _ _) hsm).mono ?_
        rintro e w5 ⟨rfl, hu5⟩
        have HB5 := Lib.hid (HLV4.out.quiet hu5)
        clear hu5
        go_wp2_with fail
        refine (ended_at rb _ w5 HB5.out.ended.1).mono ?_
        rintro e w6 ⟨rfl, rfl⟩
        go_wp2_with fail
        refine (ref_ended13 (rb + 1) _ w5 HB5.out.ended.2).mono ?_
        rintro e w6 ⟨rfl, rfl⟩
        obtain ⟨en, hen⟩ : ∃ en, s'.ended = en := ⟨_, rfl⟩
        rw [hen]
        clear hen
        cases en
        · go_wp2_with fail
          refine ⟨⟨k + 1, s', _, _, _, _, by omega, by rfl, HB5.out⟩, ?_⟩
          simp only [intOf]; omega
        · go_wp2_with fail
          refine ⟨⟨k + 1, s', _, _, _, _, by omega, by rfl, HB5.out⟩, ?_⟩
          simp only [intOf]; omega
    · have hki : ¬ (k : Int) < (n : Int) := by omega
      go_wp2_with fail
      refine (ended_at rb _ wr HB.out.ended.1).mono ?_
      rintro e w6 ⟨rfl, rfl⟩
      go_wp2_with fail
      refine (ref_ended13 (rb + 1) _ wr HB.out.ended.2).mono ?_
      rintro e w6 ⟨rfl, rfl⟩
      obtain ⟨en, hen⟩ : ∃ en, s.ended = en := ⟨_, rfl⟩
      rw [hen]
      clear hen
      have HT2 := Lib.hid (HT.out.upd (Upd.of_below' HB.out.bel))
      cases en
      · go_wp2_with fail
        refine (law_awake wr HT2.out).mono ?_
        rintro e w7 ⟨rfl, hu7⟩
        have HB7 := Lib.hid (HB.out.quiet hu7)
        clear hu7
        go_wp2_with fail
        go_ret
        exact ⟨rfl, HB7.out.bel⟩
      · go_wp2_with fail
        refine (law_awake wr HT2.out).mono ?_
        rintro e w7 ⟨rfl, hu7⟩
        have HB7 := Lib.hid (HB.out.quiet hu7)
        clear hu7
        go_wp2_with fail
        go_ret
        exact ⟨rfl, HB7.out.bel⟩
end Go.Proofs.YtbiapeplkegjlaaGreatDoor
