/- prefix: Feed. -/
import Derived.Test.YtageanmjdfodnaaGreatDoorPfx
namespace Go.Proofs.YtageanmjdfodnaaGreatDoor
open Go.RowKit Go.Cx Go.Maps

theorem cutv {A : Option Addr} {n c i : Nat} : (Value.slice (if c = i then A else A.map (·.add (i * 1))) (n - i) (c - i)).ownBlock = (Value.slice A n c).ownBlock := by
  cases A with
  | none => split <;> rfl
  | some ad =>
    split
    · rfl
    · simp [Value.ownBlock, block_add]
theorem updOwn {w w' : World} {v : Value} (h : w.grownBy w' v.ownBlock) : Upd (fun b => v.ownBlock = some b) w w' := (Upd.refl _ _).grown h fun _ hb _ => hb
theorem own_ge {w : World} {base : Nat} {e : TypeId} {size n : Nat} {v : Value} {xs : List Value} (h : w.ownsRow base e size v n xs) (b : Nat) (hb : v.ownBlock = some b) : base ≤ b := (h.lt b hb).1
theorem own_dn {w : World} {b b' : Nat} {e : TypeId} {size n : Nat} {v : Value} {xs : List Value} (h : w.ownsRow b e size v n xs) (hb : b' ≤ b) : w.ownsRow b' e size v n xs := by
  obtain ⟨h1, h2⟩ := h
  rcases h2 with h2 | ⟨g, cap, cur, hv, hg, r⟩
  · exact ⟨h1, .inl h2⟩
  · exact ⟨h1, .inr ⟨g, cap, cur, hv, by omega, r⟩⟩
theorem own_in0 {w : World} {base : Nat} {e : TypeId} {size n : Nat} {v : Value} {xs : List Value} (h : w.ownsRow base e size v n xs) {b : Nat} (hb : v.ownBlock = some b) : b < w.heap.size ∧ ∃ cs, w.heap[b]? = some (.cells cs e (0, 0)) := by
  rcases h.2 with ⟨rfl, _⟩ | ⟨g, cap, cur, rfl, _, hg, _⟩
  · cases hb
  · simp only [Value.ownBlock, Option.some.injEq] at hb
    subst hb
    exact ⟨(Array.getElem?_eq_some_iff.1 hg).1, cur, hg⟩
theorem own_ne2 {w : World} {base base' : Nat} {e e' : TypeId} {size size' n n' : Nat} {v v' : Value} {xs xs' : List Value} (h : w.ownsRow base e size v n xs) (h' : w.ownsRow base' e' size' v' n' xs') (hne : e ≠ e') (b : Nat) (hb : v.ownBlock = some b) (hb' : v'.ownBlock = some b) : False := by
  obtain ⟨_, cs, h1⟩ := own_in0 h hb
  obtain ⟨_, cs', h2⟩ := own_in0 h' hb'
  exact Blk.ne (t := e) (t' := e') h1 h2 hne rfl
theorem lies_ne2 {w : World} {B n : Nat} {e : TypeId} {v : Value} {xs : List Value} {base' : Nat} {e' : TypeId} {size' n' : Nat} {v' : Value} {xs' : List Value} (h : Lies w B e v n xs) (h' : w.ownsRow base' e' size' v' n' xs') (hne : e ≠ e') (b : Nat) (hb : v.ownBlock = some b) (hb' : v'.ownBlock = some b) : False := by
  obtain ⟨_, cs', h2⟩ := own_in0 h' hb'
  rcases h.2 with ⟨rfl, _⟩ | ⟨g', o, cap, cur, rfl, _, hg', _⟩
  · cases hb
  · simp only [Value.ownBlock, Option.some.injEq] at hb
    subst hb
    rw [hg'] at h2
    injection h2 with h2
    injection h2 with _ ht
    exact hne ht
theorem PfAt.quiet {w0 : World} {base pr : Nat} {V : Value} {z : List (List Nat) × List Nat} {cur : List Nat} {bv : Value} {A : Option Addr} {c : Nat} {rows : List Row} {w w' : World} (h : PfAt w0 base pr V z cur bv A c rows w) (k : Upd Nix w w') : PfAt w0 base pr V z cur bv A c rows w' :=
  ⟨h.rd.quiet k, h.res, h.own.upd k (fun _ _ h => h) (fun _ _ _ _ h => h), h.upd.trans k fun _ _ h => h.elim, h.foot, h.apart⟩
theorem PfAt.push {w0 : World} {base pr q m cb : Nat} {V : Value} {z : List (List Nat) × List Nat} {cur : List Nat} {Ab : Option Addr} {A : Option Addr} {c : Nat} {rows : List Row} {wc w5 w8 : World} {o : Obj} {row : Row} {A8 : Option Addr} {c8 : Nat} {v2 : Value}
    (h : PfAt w0 base pr V z cur (.slice Ab cur.length cb) A c rows wc) (hs : sizeP cur = (m, true)) (hq : rows.length = q) (hu5 : Upd Nix wc w5) (hrow : w5.ownsRow wc.heap.size 5 1 row.val row.n (byts row.l)) (hl : row.l = (cur.take m).drop 2) (hnc : row.n ≤ row.c)
    (hown : w8.ownsRow w0.heap.size 29 1 (.slice A8 (q + 1) c8) (q + 1) (rows.map Row.val ++ [row.val])) (hg : (w5.alloc o).grownBy w8 (Value.slice A q c).ownBlock)
    (hv : v2 = Value.slice (if cb = m then Ab else Ab.map (·.add (m * 1))) (cur.length - m) (cb - m)) :
    PfAt w0 base pr V z (cur.drop m) v2 A8 c8 (rows ++ [row]) (w8.setCell ⟨pr, 0, none⟩ v2) := by
  subst hq
  have u1 : Upd Nix wc (w5.alloc o) := hu5.alloc o
  have hk := h.quiet u1
  have ug : Upd (fun b => (Value.slice A rows.length c).ownBlock = some b) (w5.alloc o) w8 := updOwn hg
  have u2 : Upd (One pr) w8 (w8.setCell ⟨pr, 0, none⟩ v2) := (Upd.refl (One pr) _).set rfl _
  have hm := sizeP_two cur (by rw [hs])
  rw [hs] at hm
  simp only at hm
  have hout := hk.own.out
  have hnp := h.rd.not_pr
  have hv2 : v2.ownBlock = (Value.slice Ab cur.length cb).ownBlock := by rw [hv]; exact cutv
  have hfo : ∀ b, PFoot pr (.slice Ab cur.length cb) b → ¬ (Value.slice A rows.length c).ownBlock = some b := by
    rintro b (rfl | hb) hb2
    · exact own_ne_blk' hout hk.rd.blk (by decide) hb2
    · exact lies_ne2 hk.rd.buf hout (by decide) b hb hb2
  have hrd8 := hk.rd.upd ug hfo
  have hrw : ∀ b, row.val.ownBlock = some b → wc.heap.size ≤ b := fun b hb => own_ge hrow b hb
  have hrow8 : w8.ownsRow wc.heap.size 5 1 row.val row.n (byts row.l) := own_upd' (own_upd' hrow ((Upd.refl _ _).alloc o) fun _ _ h => h) ug fun b hb hb2 => own_ne2 (own_upd' hrow ((Upd.refl Nix _).alloc o) fun _ _ h => h) hout (by decide) b hb hb2
  have hpl : pr < wc.heap.size := h.rd.blk.lt
  refine ⟨⟨hrd8.blk.set 0 v2, ?_, fun b hb => h.rd.bytes b (List.mem_of_mem_drop hb), h.rd.ge⟩, ?_, ⟨?_, fun r hr => ?_⟩, ?_, fun b hb hlt => h.foot b (hv2 ▸ hb) hlt, fun r hr b hb => ?_⟩
  · have h1 := (hrd8.buf.cut (k := m) hm.2).upd u2 (fun b hb hs => hnp (by
      have hs : b = pr := hs
      subst hs
      rw [cutv] at hb
      exact hb))
    rw [List.length_drop]
    subst hv
    simp only [byts, List.map_drop] at h1 ⊢
    exact h1
  · have hr := h.res
    rw [framesP_eq cur, hs] at hr
    simp only [if_true] at hr
    rw [← hr, List.map_append, List.map_cons, List.map_nil, hl]
    simp
  · rw [List.length_append, List.map_append]
    exact own_upd' hown u2 fun b hb hs => by
      have hs : b = pr := hs
      subst hs
      exact own_ne_blk' hown hrd8.blk (by decide) hb
  · rcases List.mem_append.1 hr with hr | hr
    · have a := hk.own.rows r hr
      refine ⟨own_upd' (own_upd' a.1 ug fun b hb hb2 => own_ne2 a.1 hout (by decide) b hb hb2) u2 fun b hb hs => ?_, a.2⟩
      have hs : b = pr := hs
      exact h.apart r hr b hb (.inl hs)
    · simp only [List.mem_singleton] at hr
      subst hr
      refine ⟨own_upd' (own_dn hrow8 h.upd.size) u2 fun b hb hs => ?_, hnc, fun b hb => ?_⟩
      · have hs : b = pr := hs
        have := hrw b hb
        omega
      · rw [hl] at hb
        exact h.rd.bytes b (List.mem_of_mem_take (List.mem_of_mem_drop hb))
  · have h1 := (hk.upd.trans ug fun b hb hS => by have := own_ge hout b hS; omega).trans u2 fun b _ hs => .inl hs
    exact h1
  · rcases List.mem_append.1 hr with hr | hr
    · intro hf
      refine h.apart r hr b hb ?_
      rcases hf with hf | hf
      · exact .inl hf
      · exact .inr (hv2 ▸ hf)
    · simp only [List.mem_singleton] at hr
      subst hr
      have := hrw b hb
      rintro (rfl | hf)
      · omega
      · rw [hv2] at hf
        have := (h.rd.buf.lt hf).1
        omega
set_option maxRecDepth 100000 in
set_option maxHeartbeats 6400000 in
theorem prefix_feed (base pr : Nat) (bv : Value) (l : List Nat) (A : Option Addr) (n c : Nat) (x : List Nat) (w : World) (h : PfR w base pr bv l) (hx : Rd w w.heap.size 1 A n (byts x)) (hxb : ∀ b ∈ x, b < 256) (hl : l.length + n ≤ 1000000000) (hB : base ≤ w.heap.size) :
    Calls Tryz.prog 11 #[.pointer (some ⟨pr, 0, none⟩), .slice A n c] w (PFeedIs base pr bv l x w) := by
  obtain ⟨i1, hi1, hy0, hy1, hy2⟩ := info_parts infoU8
  obtain ⟨i2, hi2, hz0, hz1, hz2⟩ := info_parts infoRowP
  have hxl := hx.1
  simp only [byts, List.length_map, Nat.mul_one] at hxl
  obtain ⟨Ab, cb, rfl, hbc⟩ := h.buf.form
  have hc : ∀ i, w.cell? ⟨pr, i, none⟩ = _ := fun i => h.blk.cell i
  have hrl := h.blk.lt
  have H := Lib.hid h
  have HX := Lib.hid hx
  have HXB := Lib.hid hxb
  have HXL := Lib.hid hxl
  obtain ⟨ll, hll⟩ : ∃ ll, l.length = ll := ⟨_, rfl⟩
  have HLL := Lib.hid hll
  have HBUF := Lib.hid h.buf
  rw [hll] at hc hl HBUF hbc
  clear h hx hxb hxl hll
  have hml : ll + n ≤ maxLen := by unfold maxLen; omega
  go_enter Tryz.func11, Tryz.ntmps11
  go_upto_region 5 with (at_builtin; refine wpList_app_lies _ rfl (.tmp 22) (.tmp 23) 29 rfl base 5 i1 _ 1 Tryz.underlying29 hi1 hy0 hy1 hy2 rfl (.slice Ab ll cb) ll (byts l) rfl HBUF.out w.heap.size A n c (byts x) rfl HX.out (by intro u hu; simp only [byts, List.mem_map] at hu; obtain ⟨b, _, rfl⟩ := hu; rfl) hml (by omega) hB ?_; intro A5 c5 w5 hl5 hg5 hat5; have hb5 := H.out.blk.upd (updOwn hg5) (fun h => H.out.not_pr (by rw [HLL.out]; exact h)); have hc5 : ∀ i, w5.cell? ⟨pr, i, none⟩ = _ := fun i => hb5.cell i; have hf5 : ∀ i, w5.frozen? ⟨pr, i, none⟩ = _ := fun i => hb5.free i; have hrl5 := hb5.lt)
  have hk5 : Upd (fun b => (Value.slice Ab ll cb).ownBlock = some b) w w5 := updOwn hg5
  have hk6 : Upd (One pr) w5 (w5.setCell ⟨pr, 0, none⟩ (.slice A5 (ll + n) c5)) := (Upd.refl (One pr) _).set rfl _
  have hnp : (Value.slice Ab ll cb).ownBlock ≠ some pr := by have := H.out.not_pr; rwa [HLL.out] at this
  have hown : ∀ b, (Value.slice A5 (ll + n) c5).ownBlock = some b → (b < w.heap.size → (Value.slice Ab ll cb).ownBlock = some b) ∧ b ≠ pr := fun b hb => by
    rcases hat5 with h5 | h5
    · rw [h5] at hb
      exact ⟨fun _ => hb, fun e => hnp (e ▸ hb)⟩
    · rw [h5] at hb
      injection hb with hb
      exact ⟨fun h => by omega, fun e => by omega⟩
  have hst : PfAt w base pr (.slice Ab ll cb) (framesP (l ++ x)) (l ++ x) (.slice A5 (ll + n) c5) none 0 [] (w5.setCell ⟨pr, 0, none⟩ (.slice A5 (ll + n) c5)) := by
    refine ⟨⟨hb5.set 0 _, ?_, fun b hb => ?_, H.out.ge⟩, rfl, ⟨⟨rfl, .inl ⟨rfl, rfl⟩⟩, fun r hr => (by cases hr)⟩, (hk5.mono fun b _ hb => .inr hb).trans hk6 fun b _ hs => .inl hs, fun b hb hlt => (hown b hb).1 hlt, fun r hr => (by cases hr)⟩
    · rw [List.length_append, HLL.out, HXL.out, byts, List.map_append]
      exact hl5.upd hk6 fun b hb hs => (hown b hb).2 hs
    · rcases List.mem_append.1 hb with hb | hb
      · exact H.out.bytes b hb
      · exact HXB.out b hb
  have HST := Lib.hid hst
  generalize w5.setCell ⟨pr, 0, none⟩ (.slice A5 (ll + n) c5) = wa at *
  obtain ⟨z, hz⟩ : ∃ z, framesP (l ++ x) = z := ⟨_, rfl⟩
  rw [hz] at HST
  have HZ := Lib.hid hz
  have hlx : (l ++ x).length = ll + n := by rw [List.length_append, HLL.out, HXL.out]
  have HLX := Lib.hid hlx
  clear hk5 hk6 hnp hown hst hz hl5 hg5 hat5 hb5 hc5 hf5 hrl5 hc hrl hlx
  go_wp2_with fail
  refine (prefix_size base pr _ (l ++ x) wa HST.out.rd (by rw [HLX.out]; omega)).mono ?_
  rintro e w6 ⟨rfl, hu6⟩
  have HST6 := Lib.hid (HST.out.quiet hu6)
  clear hu6
  obtain ⟨V, hV⟩ : ∃ V, Value.slice Ab ll cb = V := ⟨_, rfl⟩
  rw [hV] at HST6
  have HV := Lib.hid hV
  clear hV HST
  go_wp2_with fail
  go_loopg [5, 6, 7] (ll + n) (fun k s5 s6 s7 wr => ∃ (cur : List Nat) (bv' : Value) (A1 : Option Addr) (c1 : Nat) (rows : List Row), s5 = .slice A1 rows.length c1 ∧ s6 = .int .i64 (sizeP cur).1 ∧ s7 = .bool (sizeP cur).2 ∧ cur.length ≤ k ∧ rows.length + k ≤ ll + n ∧ PfAt w base pr V z cur bv' A1 c1 rows wr)
  case atStart => exact ⟨l ++ x, _, none, 0, [], rfl, rfl, rfl, by rw [HLX.out]; exact Nat.le_refl _, by simp, HST6.out⟩
  case round =>
    obtain ⟨cur, bv1, A1, c1, rows, rfl, rfl, rfl, hcl, hrl, hat⟩ := hrel
    obtain ⟨q, hq⟩ : ∃ q, rows.length = q := ⟨_, rfl⟩
    obtain ⟨S, hS⟩ : ∃ S, sizeP cur = S := ⟨_, rfl⟩
    obtain ⟨m, ok⟩ := S
    have HAT := Lib.hid hat
    have HQ := Lib.hid hq
    have HS := Lib.hid hS
    rw [hq] at hrl ⊢
    rw [hS]
    simp only
    clear hat hq hS
    cases ok with
    | false =>
      go_wp2_with fail
      go_ret
      have hres := HAT.out.res
      rw [framesP_eq cur, HS.out] at hres
      simp only [Bool.false_eq_true, if_false, List.append_nil] at hres
      have hz := HZ.out
      refine ⟨A1, c1, rows, bv1, by rw [HQ.out]; rfl, by rw [hz, ← hres], HAT.out.own, ?_, ?_, ?_, HAT.out.apart⟩
      · rw [hz, ← hres]; exact HAT.out.rd
      · rw [HLL.out, HV.out]; exact HAT.out.upd
      · rw [HLL.out, HV.out]; exact HAT.out.foot
    | true =>
      have h2 := sizeP_two cur (by rw [HS.out])
      rw [HS.out] at h2
      simp only at h2
      obtain ⟨Ak, ck, rfl, hbk⟩ := HAT.out.rd.buf.form
      have hblk := HAT.out.rd.blk
      have hc1 : ∀ i, wr.cell? ⟨pr, i, none⟩ = _ := fun i => hblk.cell i
      have hpl := hblk.lt
      obtain ⟨cn, hcn⟩ : ∃ cn, cur.length = cn := ⟨_, rfl⟩
      have HCN := Lib.hid hcn
      have hrd := HAT.out.rd.buf.rd rfl
      rw [hcn] at hc1 h2 hbk hrd hcl
      have hfr := hrd.front (k := m) h2.2
      have hcut := hfr.cut (k := 2) (cap := ck) h2.1 (by omega)
      rw [Nat.mul_one, Nat.mul_one] at hcut
      have hby : ((byts cur).take m).drop 2 = byts ((cur.take m).drop 2) := by simp [byts, List.map_take, List.map_drop]
      rw [hby] at hcut
      obtain ⟨fr, hfre⟩ : ∃ fr, (cur.take m).drop 2 = fr := ⟨_, rfl⟩
      rw [hfre] at hcut
      have HFR := Lib.hid hfre
      obtain ⟨As, hAs⟩ : ∃ As, (if ck = 2 then Ak else Ak.map (·.add 2)) = As := ⟨_, rfl⟩
      rw [hAs] at hcut
      have HAS := Lib.hid hAs
      have hclone := fun (W : World) (hW : Upd Nix wr W) => bytes_clone W wr.heap.size As (m - 2) (ck - 2) fr (hcut.below (hW.belowNix (Nat.le_refl _))) hW.size (by omega)
      have HCL := Lib.hid hclone
      have h2a := h2.1
      have h2b := h2.2
      have hmck : m ≤ ck := by omega
      clear hblk hcn hrd hfr hcut hby hfre hAs hclone h2
      go_upto_region 8 with fail
      go_cut [5, 6] (fun s5 s6 wx => s6 = .int .i64 m ∧ ∃ (A8 : Option Addr) (c8 : Nat) (row : Row) (w5 : World) (o : Obj), s5 = .slice A8 (q + 1) c8 ∧ Upd Nix wr w5 ∧ w5.ownsRow wr.heap.size 5 1 row.val row.n (byts row.l) ∧ row.l = fr ∧ row.n ≤ row.c ∧ wx.ownsRow w.heap.size 29 1 (.slice A8 (q + 1) c8) (q + 1) (rows.map Row.val ++ [row.val]) ∧ (w5.alloc o).grownBy wx (Value.slice A1 q c1).ownBlock)
      case first =>
        by_cases hc2 : ck = 2
        · have hcl := HCL.out
          rw [← HAS.out, if_pos hc2, show ck - 2 = 0 by omega] at hcl
          have HC := Lib.hid hcl
          clear hcl
          go_wp2_with fail
          refine (HC.out wr (Upd.refl _ _)).mono ?_
          rintro e w6 ⟨A7, c7, rfl, hown7, hnil7, hge7, hu7⟩
          have hu7' : Upd Nix wr w6 := hu7
          have HO7 := Lib.hid hown7
          have HU7 := Lib.hid hu7'
          have HOUT := Lib.hid (own_upd' HAT.out.own.out hu7' fun _ _ h => h)
          rw [HQ.out] at HOUT
          have hs7 := hu7'.size
          have hw7 := HAT.out.upd.size
          have hnc7 := hnil7.2
          clear hown7 hnil7 hge7 hu7 hu7'
          go_wp2_with (at_builtin; refine wpList_app _ rfl (.tmp 43) (.tmp 52) 22 rfl w.heap.size 29 i2 _ 1 24 Tryz.underlying22 hi2 hz0 hz1 hz2 rfl (by omega) (.slice A1 q c1) q (rows.map Row.val) rfl (HOUT.out.alloc _) (w6.heap.size + 1) (some ⟨w6.heap.size, 0, none⟩) 1 1 [.slice A7 (m - 2) c7] rfl (Rd.lit1 _ _ _) (by intro u hu; simp only [List.mem_singleton] at hu; subst hu; rfl) (by unfold maxLen; omega) (by omega) (by simp; omega) ?_; intro A8 c8 w8 hown8 hg8 hat8)
          go_meet
          exact ⟨rfl, A8, c8, ⟨A7, m - 2, c7, fr⟩, w6, _, rfl, HU7.out, HO7.out, rfl, hnc7, hown8, hg8⟩
        · have hcl := HCL.out
          rw [← HAS.out, if_neg hc2] at hcl
          have HC := Lib.hid hcl
          clear hcl
          go_wp2_with fail
          refine (HC.out wr (Upd.refl _ _)).mono ?_
          rintro e w6 ⟨A7, c7, rfl, hown7, hnil7, hge7, hu7⟩
          have hu7' : Upd Nix wr w6 := hu7
          have HO7 := Lib.hid hown7
          have HU7 := Lib.hid hu7'
          have HOUT := Lib.hid (own_upd' HAT.out.own.out hu7' fun _ _ h => h)
          rw [HQ.out] at HOUT
          have hs7 := hu7'.size
          have hw7 := HAT.out.upd.size
          have hnc7 := hnil7.2
          clear hown7 hnil7 hge7 hu7 hu7'
          go_wp2_with (at_builtin; refine wpList_app _ rfl (.tmp 43) (.tmp 52) 22 rfl w.heap.size 29 i2 _ 1 24 Tryz.underlying22 hi2 hz0 hz1 hz2 rfl (by omega) (.slice A1 q c1) q (rows.map Row.val) rfl (HOUT.out.alloc _) (w6.heap.size + 1) (some ⟨w6.heap.size, 0, none⟩) 1 1 [.slice A7 (m - 2) c7] rfl (Rd.lit1 _ _ _) (by intro u hu; simp only [List.mem_singleton] at hu; subst hu; rfl) (by unfold maxLen; omega) (by omega) (by simp; omega) ?_; intro A8 c8 w8 hown8 hg8 hat8)
          go_meet
          exact ⟨rfl, A8, c8, ⟨A7, m - 2, c7, fr⟩, w6, _, rfl, HU7.out, HO7.out, rfl, hnc7, hown8, hg8⟩
      case rest =>
      obtain ⟨rfl, A8, c8, row, w5', o, rfl, hu5, hrow, hrl2, hrn, hown8, hg8⟩ := hcut
      have hcn' := HCN.out
      have hpush := fun v2 hv2 => PfAt.push (v2 := v2) HAT.out HS.out HQ.out hu5 hrow (hrl2.trans HFR.out.symm) hrn hown8 hg8 hv2
      rw [hcn'] at hpush
      have hp8 := (hpush _ rfl).rd.blk
      have hblk8 : Blk wc pr 64 #[.slice Ak cn ck, .bool true] := by
        have h1 := (HAT.out.quiet (hu5.alloc o)).rd
        rw [hcn'] at h1
        exact h1.blk.grown hg8 (fun h => own_ne_blk' (HAT.out.quiet (hu5.alloc o)).own.out h1.blk (by decide) (by rw [HQ.out]; exact h.symm))
      have hc8 : ∀ i, wc.cell? ⟨pr, i, none⟩ = _ := fun i => hblk8.cell i
      have hf8 : ∀ i, wc.frozen? ⟨pr, i, none⟩ = _ := fun i => hblk8.free i
      have hl8 := hblk8.lt
      have HP := Lib.hid hpush
      clear hcn' hpush hp8 hblk8 hu5 hrow hrl2 hrn hown8 hg8 hc1
      have hdl : (cur.drop m).length = cn - m := by rw [List.length_drop, HCN.out]
      have HDL := Lib.hid hdl
      have hl10 : (rows ++ [row]).length = q + 1 := by rw [List.length_append, HQ.out]; rfl
      clear hdl
      by_cases hcm : ck = m
      · have hv := HP.out _ rfl
        rw [if_pos hcm, show ck - m = 0 by omega] at hv
        have HAT2 := Lib.hid hv
        clear hv
        · go_upto_region 7 with fail
          generalize wc.setCell ⟨pr, 0, none⟩ (.slice Ak (cn - m) 0) = wd at *
          clear hc8 hf8 hl8
          go_wp2_with fail
          refine (prefix_size base pr _ (cur.drop m) _ HAT2.out.rd (by rw [HDL.out]; omega)).mono ?_
          rintro e w6 ⟨rfl, hu6⟩
          have HAT6 := Lib.hid (HAT2.out.quiet hu6)
          clear hu6
          go_wp2_with fail
          go_roundg (gk - m)
          case measure => omega
          case rel => exact ⟨cur.drop m, _, A8, c8, rows ++ [row], by rw [hl10], rfl, rfl, by rw [HDL.out]; omega, by rw [hl10]; omega, HAT6.out⟩
      · have hv := HP.out _ rfl
        rw [if_neg hcm, Nat.mul_one] at hv
        have HAT2 := Lib.hid hv
        clear hv
        · go_upto_region 7 with fail
          generalize wc.setCell ⟨pr, 0, none⟩ (.slice (Ak.map (·.add m)) (cn - m) (ck - m)) = wd at *
          clear hc8 hf8 hl8
          go_wp2_with fail
          refine (prefix_size base pr _ (cur.drop m) _ HAT2.out.rd (by rw [HDL.out]; omega)).mono ?_
          rintro e w6 ⟨rfl, hu6⟩
          have HAT6 := Lib.hid (HAT2.out.quiet hu6)
          clear hu6
          go_wp2_with fail
          go_roundg (gk - m)
          case measure => omega
          case rel => exact ⟨cur.drop m, _, A8, c8, rows ++ [row], by rw [hl10], rfl, rfl, by rw [HDL.out]; omega, by rw [hl10]; omega, HAT6.out⟩
end Go.Proofs.YtageanmjdfodnaaGreatDoor
