/- The law RateLives, as a walk. -/
import Derived.Test.YtphnehfablaakaaRefBest
import Derived.Deep.RegionHeld3
namespace Go.Proofs.Ytphnehfablaakaa
open Go.RowKit Go.Maps Go.Cx

theorem fail_known (l : List Known) (a : Int) : failT (knownOf l) a = knownOf ((placed l a).set (placeOf l a) (a, (knownOf l a).1, min ((knownOf l a).2 + 1) 1000)) := by
  funext b
  rw [knownOf_set]
  rfl
theorem ans_known (l : List Known) (a : Int) (n : Nat) : ansT (knownOf l) a n = knownOf ((placed l a).set (placeOf l a) (a, (knownOf l a).1 - (knownOf l a).1 / 8 + n, (knownOf l a).2 / 2)) := by
  funext b
  rw [knownOf_set]
  rfl
theorem placed_len (l : List Known) (a : Int) : (placed l a).length ≤ l.length + 1 := by
  unfold placed
  split <;> simp

theorem ref_best_any (B rb : Nat) (l : List Known) (draw : Int) (A : Option Addr) (n c : Nat) (xs : List Int) (w : World) (hT : RTab w B rb l)
    (hx : Rd w w.heap.size 1 A n (ints xs)) (hreach : n * 8 ≤ 140737488351232) :
    Calls Try.prog 17 #[.pointer (some ⟨rb, 0, none⟩), .slice A n c, .int .i64 draw] w fun e w' => e = .returned (.tuple #[.int .i64 (bestOf (knownOf l) xs draw), .bool (!xs.isEmpty)]) ∧ Upd Nix w w' := by
  have hl := hx.1
  simp only [ints, List.length_map, Nat.mul_one] at hl
  by_cases hn : 0 < n
  · have e : (!xs.isEmpty) = true := by cases xs with | nil => simp at hl; omega | cons => rfl
    rw [e]
    exact ref_best B rb l draw A n c xs w hT hx hn hreach
  · obtain rfl : n = 0 := by omega
    obtain rfl : xs = [] := List.eq_nil_of_length_eq_zero hl
    go_enter Try.func17, Try.ntmps17
    go_wp2
    go_ret2
    exact ⟨rfl, Upd.refl _ _⟩

/-- both tables, behind some calls -/
def Both (w wx : World) (lk : List Known) (m : Nat) : Prop :=
  Tab wx (w.heap.size + 1) w.heap.size (knownOf lk) ∧ RTab wx w.heap.size (w.heap.size + 2) lk ∧ lk.length ≤ m ∧ Below w.heap.size w wx

theorem Both.nix {w wx wy : World} {lk : List Known} {m : Nat} (h : Both w wx lk m) (k : Upd Nix wx wy) : Both w wy lk m :=
  ⟨h.1.upd k, h.2.1.nix k, h.2.2.1, k.on h.2.2.2 h.2.2.2.size fun _ _ hh => hh.elim⟩
theorem Both.alloc {w wx : World} {lk : List Known} {m : Nat} (h : Both w wx lk m) (o : Obj) : Both w (wx.alloc o) lk m := h.nix ((Upd.refl _ _).alloc o)
theorem Both.drewN {w wx : World} {lk : List Known} {m : Nat} (h : Both w wx lk m) (k : Nat) : Both w (wx.drewN k) lk m := h.nix ((Upd.refl _ _).drewN k)
theorem Both.more {w wx : World} {lk : List Known} {m m' : Nat} (h : Both w wx lk m) (k : m ≤ m') : Both w wx lk m' := ⟨h.1, h.2.1, Nat.le_trans h.2.2.1 k, h.2.2.2⟩

/-- one table has been told, the other not yet -/
def Half (w wx : World) (T : Int → Nat × Nat) (lk : List Known) : Prop :=
  Tab wx (w.heap.size + 1) w.heap.size T ∧ RTab wx w.heap.size (w.heap.size + 2) lk ∧ Below w.heap.size w wx
theorem Half.one {w wx wy : World} {T T' : Int → Nat × Nat} {lk : List Known} (h : Half w wx T lk) (k : Upd (One w.heap.size) wx wy) (hT : Tab wy (w.heap.size + 1) w.heap.size T') : Half w wy T' lk :=
  ⟨hT, h.2.1.one h.1 k, k.on h.2.2 h.2.2.size fun _ _ hh => by unfold Cx.One at hh; omega⟩
theorem Half.ref {w wx wy : World} {T : Int → Nat × Nat} {lk lk' : List Known} (h : Half w wx T lk) (k : Upd (TypS wx w.heap.size refTs) wx wy) (hr : RTab wy w.heap.size (w.heap.size + 2) lk') : Half w wy T lk' :=
  ⟨h.1.updT k, hr, h.2.2.trans (k.belowT h.2.2.size)⟩
theorem Half.drew {w wx : World} {T : Int → Nat × Nat} {lk : List Known} (h : Half w wx T lk) : Half w wx.drew T lk :=
  ⟨h.1, h.2.1.nix ((Upd.refl Nix _).drew), h.2.2.drew⟩
/-- a box is kept -/
theorem box_one {w wx wy : World} {g : Nat} {T : Int → Nat × Nat} {cs : Array Value} (h : Tab wx (w.heap.size + 1) w.heap.size T) (hb : Blk wx g 42 cs) (k : Upd (One w.heap.size) wx wy) : Blk wy g 42 cs := by
  refine hb.upd k fun e => ?_
  unfold Cx.One at e
  subst e
  obtain ⟨_, ⟨f, ⟨es, clock, hm, _⟩, _⟩, _⟩ := h
  unfold Blk at hb
  rw [hm] at hb
  cases hb

set_option maxRecDepth 100000 in
set_option maxHeartbeats 3200000 in
theorem rateLives (D : Option Addr) (nd cd : Nat) (l : List (Int × Int)) (A : Option Addr) (n c : Nat) (xs : List Int) (draw : Int) (w : World) (hd : nd ≤ 17592186043904) (hl : l.length = nd) (hr : Rd w w.heap.size 2 D nd (dos l))
    (hw : ∀ p ∈ l, (Lit.int .i64 p.1).wf = true ∧ (Lit.int .i64 p.2).wf = true) (hx : Rd w w.heap.size 1 A n (ints xs)) (hnc : n ≤ c) (hwx : ∀ x ∈ xs, (Lit.int .i64 x).wf = true) (hcb : c * Try.prog.bytesOf 3 ≤ reachBytes) (_hdr : (Lit.int .i64 draw).wf = true) :
    Calls Try.prog 5 #[.slice D nd cd, .slice A n c, .int .i64 draw] w fun e w' => e = .returned (.bool true) ∧ Below w.heap.size w w' := by
  have hreach : n * 8 ≤ 140737488351232 := by
    have h8 : Try.prog.bytesOf 3 = 8 := by kernel_rfl
    rw [h8] at hcb
    unfold reachBytes at hcb
    omega
  clear hcb
  have HL := Lib.hid hl
  have HX := Lib.hid hx
  have HW := Lib.hid hw
  have HWX := Lib.hid hwx
  clear hl hx hw hwx
  go_enter Try.func5, Try.ntmps5
  go_upto_block 0 with (go_at_call 9; refine (rate_new _).mono ?_; rintro e w1 ⟨rfl, hT1, hu1, hs1⟩)
  go_cut [] (fun wx => ∃ lk m, Both w wx lk m)
  case first =>
    go_wp2_with fail
    have hB0 : Both w (w1.alloc (.cells #[.slice none 0 0] 40)) [] 0 := by
      have hu := (Upd.refl Nix w1).alloc (.cells #[.slice none 0 0] 40)
      refine ⟨hT1.upd hu, ⟨by omega, by simp, by simp, _, Blk.new' _ _ _ hs1.symm, World.ownsRow_nil _ _ _ _⟩, Nat.le_refl _, (hu1.then hu).belowNix (Nat.le_refl _)⟩
    have HB0 := Lib.hid hB0
    clear hB0 hT1 hu1 hs1
    go_loopw [27] (fun i wr => ∃ (k : Nat) (lk : List Known), k ≤ nd ∧ k ≤ 81 ∧ i = .int .i64 k ∧ Both w wr lk k) (fun i _ => nd - (intOf i).toNat)
    case atStart => exact ⟨0, [], Nat.zero_le _, Nat.zero_le _, rfl, HB0.out⟩
    case round =>
      obtain ⟨k, lk, hk, hk81, rfl, hbo⟩ := hrel
      by_cases hkn : k < nd
      · have hkl : k < l.length := by rw [HL.out]; exact hkn
        obtain ⟨p, hp⟩ : ∃ p, l[k]? = some p := ⟨_, List.getElem?_eq_getElem hkl⟩
        have hwp := HW.out p (List.mem_of_getElem? hp)
        obtain ⟨g1, g2⟩ := dos_get l k p hp
        obtain ⟨ad, rfl, hadB, hcell⟩ := hr.2 (by omega)
        have hbel := hbo.2.2.2
        have c1 := (hbel.cell (p := ad.add (k * 2)) (by rw [block_add]; exact hadB)).trans (hcell _ _ g1)
        have c2 : wr.cell? ⟨(ad.add (k * 2)).block, (ad.add (k * 2)).off + 1, none⟩ = some (.int .i64 p.2) := by
          rw [add_next]
          exact (hbel.cell (p := ad.add (k * 2 + 1)) (by rw [block_add]; exact hadB)).trans (hcell _ _ g2)
        obtain ⟨bx, hbx⟩ : ∃ bx : Obj, bx = .cells #[.int .i64 p.1, .int .i64 p.2] 42 := ⟨_, rfl⟩
        have HBO := Lib.hid hbo
        clear hcell g1 g2 hp hbo hbel hbx bx
        by_cases hk80 : 80 < k
        · go_wp2_with fail
          go_meet
          exact ⟨lk, k, HBO.out.alloc _⟩
        · go_upto_if 36 with fail
          go_cut [11, 12] (fun s11 s12 wx => ∃ (e : Int) (lk' : List Known), s11 = .int .i64 e ∧ s12 = .int .i64 e ∧ Both w wx lk' (k + 1) ∧ Blk wx wr.heap.size 42 #[.int .i64 p.1, .int .i64 p.2])
          case first =>
            have hx0 := HBO.out.alloc (.cells #[.int .i64 p.1, .int .i64 p.2] 42)
            have hbx := Blk.new wr 42 #[.int .i64 p.1, .int .i64 p.2]
            have hlen : lk.length ≤ 81 := Nat.le_trans HBO.out.2.2.1 (by omega)
            have HX0 := Lib.hid hx0
            have HBX := Lib.hid hbx
            clear hx0 hbx
            by_cases hneg : p.2 < 0
            · go_wp2_with fail
              refine (rate_failed _ _ _ p.1 _ HX0.out.1 hwp.1).mono ?_
              rintro e w2 ⟨rfl, hT2, hu2⟩
              have h2 : Half w w2 _ lk := Half.one ⟨HX0.out.1, HX0.out.2.1, HX0.out.2.2.2⟩ hu2 hT2
              have hb2 := box_one HX0.out.1 HBX.out hu2
              have q1 := hb2.cell 0
              simp only [List.getElem?_toArray, List.getElem?_cons_zero] at q1
              go_wp2_with fail
              refine (ref_failed w.heap.size _ lk p.1 _ h2.2.1 (by omega) h2.2.2.size).mono ?_
              rintro e w3 ⟨rfl, hR3, hu3⟩
              have h3 := h2.ref hu3 hR3
              have hb3 := hb2.upd hu3 (hb2.notT (by decide))
              clear q1
              go_wp2_with fail
              go_meet
              refine ⟨0, _, rfl, rfl, ⟨?_, h3.2.1, ?_, h3.2.2⟩, hb3⟩
              · rw [← fail_known]; exact h3.1
              · have := placed_len lk p.1
                have := HBO.out.2.2.1
                simp; omega
            · have hH0 : Half w (wr.alloc (.cells #[.int .i64 p.1, .int .i64 p.2] 42)) (knownOf lk) lk := ⟨HX0.out.1, HX0.out.2.1, HX0.out.2.2.2⟩
              have HH0 := Lib.hid hH0.drew
              have HBD := Lib.hid HBX.out.drew
              clear hH0
              obtain ⟨p1, p2⟩ := p
              simp only at *
              obtain ⟨m, rfl⟩ : ∃ m : Nat, p2 = (m : Int) := ⟨p2.toNat, by omega⟩
              by_cases hm : m ≤ 1000
              · go_wp2_with fail
                have q4 := HBD.out.cell 0
                have q5 := HBD.out.cell 1
                simp only [List.getElem?_toArray, List.getElem?_cons_zero, List.getElem?_cons_succ] at q4 q5
                go_region_held3 (fun w' => w'.cell? ⟨wr.heap.size, 0, none⟩ = some (.int .i64 p1) ∧ w'.cell? ⟨wr.heap.size, 1, none⟩ = some (.int .i64 (m : Int)))
                  (first | exact ⟨q4, q5⟩ | exact ⟨q0, q1⟩ | exact ⟨q2, q3⟩)
                  ((first
                  | (go_at_call 13; refine (rate_answered _ _ _ p1 m _ (by first | exact HH0.out.1 | exact hr1.1) hwp.1 hm).mono ?_; rintro e w2 ⟨rfl, hT2, hu2⟩; (first | (have ht1 := Half.one HH0.out hu2 hT2) | (have ht1 := Half.one hr1 hu2 hT2)); (first | (have hb2 := box_one HH0.out.1 HBD.out hu2) | (have hb2 := box_one hr1.1 hb3 hu2)); have q0 := hb2.cell 0; have q1 := hb2.cell 1; simp only [List.getElem?_toArray, List.getElem?_cons_zero, List.getElem?_cons_succ] at q0 q1)
                  | (go_at_call 15; refine (ref_answered w.heap.size _ lk p1 m _ (by first | exact HH0.out.2.1 | exact ht1.2.1) (by omega) (by first | exact HH0.out.2.2.size | exact ht1.2.2.size) hm).mono ?_; rintro e w3 ⟨rfl, hR3, hu3⟩; (first | (have hr1 := Half.ref HH0.out hu3 hR3) | (have hr1 := Half.ref ht1 hu3 hR3)); (first | (have hb3 := HBD.out.upd hu3 (HBD.out.notT (by decide))) | (have hb3 := hb2.upd hu3 (hb2.notT (by decide)))); have q2 := hb3.cell 0; have q3 := hb3.cell 1; simp only [List.getElem?_toArray, List.getElem?_cons_zero, List.getElem?_cons_succ] at q2 q3)))
                go_wp2_with fail
                go_meet
                refine ⟨0, _, rfl, rfl, ⟨?_, hr1.2.1, ?_, hr1.2.2⟩, hb3⟩
                · rw [← ans_known]; exact hr1.1
                · have := placed_len lk p1
                  have := HBO.out.2.2.1
                  simp; omega
              · have hm' : (1000 : Int) < (m : Int) := by omega
                have q4 := HBX.out.cell 0
                have q5 := HBX.out.cell 1
                simp only [List.getElem?_toArray, List.getElem?_cons_zero, List.getElem?_cons_succ] at q4 q5
                go_wp2_with fail
                go_quiet ((first
                  | (go_at_call 13; exact quietL (rate_answered_bad _ _ _ p1 m _ (HX0.out.drewN _).1 (.inr hm')))
                  | (go_at_call 15; exact quietL (ref_answered_bad _ p1 m _ hm'))))
                go_wp2_with fail
                go_meet
                exact ⟨1, lk, rfl, rfl, (HX0.out.drewN _).more (by omega), HBX.out⟩
          case rest =>
            obtain ⟨e, lk', rfl, rfl, hbo, hbx⟩ := hcut
            obtain ⟨p1, p2⟩ := p
            simp only at *
            have q4 := hbx.cell 0
            simp only [List.getElem?_toArray, List.getElem?_cons_zero] at q4
            have hbnd := hbo.1.2.2 p1
            have HBO2 := Lib.hid hbo
            have HBX := Lib.hid hbx
            clear hbo hbx c1 c2
            go_wp2_with fail
            refine (rate_of _ _ _ p1 _ HBO2.out.1 hwp.1).mono ?_
            rintro e1 w2 ⟨rfl, rfl⟩
            go_wp2_with fail
            refine (ref_of w.heap.size _ lk' p1 _ HBO2.out.2.1).mono ?_
            rintro e1 w2 ⟨rfl, hu2⟩
            have hb2 := HBO2.out.nix hu2
            go_wp2_with fail
            refine (best_any _ _ _ draw A n c xs _ hb2.1 ((HX.out.below hb2.2.2.2).more hb2.2.2.2.size) hnc HWX.out hreach).mono ?_
            rintro e1 w3 ⟨rfl, hu3⟩
            have hb3 := hb2.nix hu3
            go_wp2_with fail
            refine (ref_best_any w.heap.size _ lk' draw A n c xs _ hb3.2.1 ((HX.out.below hb3.2.2.2).more hb3.2.2.2.size) hreach).mono ?_
            rintro e1 w4 ⟨rfl, hu4⟩
            have hb4 := hb3.nix hu4
            generalize knownOf lk' p1 = kk at *
            obtain ⟨r1, f1⟩ := kk
            simp only at hbnd ⊢
            have o1 : FloatKind.f64.format.order (fb r1) (floatOfInt .f64 (r1 : Int)) = some .eq := by show FloatKind.f64.format.order (fb r1) (fb r1) = _; rw [order_fb (by omega) (by omega), Nat.compare_eq_eq.2 rfl]
            have o2 : FloatKind.f64.format.order (fb f1) (floatOfInt .f64 (f1 : Int)) = some .eq := by show FloatKind.f64.format.order (fb f1) (fb f1) = _; rw [order_fb (by omega) (by omega), Nat.compare_eq_eq.2 rfl]
            have HB4 := Lib.hid hb4
            clear hb4 hb3 hb2
            go_wp2
            go_roundw
            case rel => exact ⟨k + 1, lk', by omega, by omega, by go_num, HB4.out⟩
            case measure => simp [intOf]; omega
      · go_wp2
        go_meet
        exact ⟨lk, k, hbo⟩
  case rest =>
    obtain ⟨lk, m, hbo⟩ := hcut
    go_wp2_with fail
    refine (best_some _ _ _ draw ⟨wc.heap.size, 0, none⟩ 1 1 [7] _ (hbo.alloc _).1 ((Rd.lit1 _ (.int .i64 7) _).more (by simp)) (by omega) (by omega) (by decide) (by omega)).mono ?_
    rintro e w3 ⟨rfl, hu3⟩
    have h7 : bestOf (knownOf lk) [7] draw = 7 := by simp [bestOf, bestL, Nat.mod_one]
    rw [h7]
    go_wp2
    go_ret
    exact ⟨rfl, ((hbo.alloc _).nix hu3).2.2.2⟩
end Go.Proofs.Ytphnehfablaakaa
