/- ciceroneplain: RRs, SameSets of equal sets, Spoil of rows of the call's own. ciceroneplain.Spoil of rows of the call's own. The law RrsetGroups: the walk. -/
import Derived.Test.YtlhbikdelbollaaSpoil
import Derived.Test.YtlhbikdelbollaaEnds
import Derived.Test.YtlhbikdelbollaaSame8
import Derived.Test.YtlhbikdelbollaaMRefGrp
import Derived.Test.YtlhbikdelbollaaAwake
namespace Go.Proofs.Ytlhbikdelbollaa
open Go.RowKit Go.Cx Go.Maps

theorem cell_lt {w : World} {g o : Nat} {na : Option Nat} {v : Value} (h : w.cell? ⟨g, o, na⟩ = some v) : g < w.heap.size := by
  rcases Nat.lt_or_ge g w.heap.size with hl | hl
  · exact hl
  · have h0 : w.heap[g]? = none := Array.getElem?_eq_none hl
    simp [World.cell?, h0] at h
def keyC (r : RRC) : KeyC := ⟨lowerL r.name, r.type, r.cls⟩
def saidG (g : Grp) : KeyC × List RRC := (g.1, g.2.map RRV.said)
theorem map_modify' {α β : Type} (f : α → β) (g : α → α) (g' : β → β) (h : ∀ x, f (g x) = g' (f x)) (l : List α) (i : Nat) : (l.modify i g).map f = (l.map f).modify i g' := by
  apply List.ext_getElem?
  intro j
  rw [List.getElem?_map, List.getElem?_modify, List.getElem?_modify, List.getElem?_map]
  cases l[j]? with
  | none => rfl
  | some x =>
    simp only [Option.map_some, Option.map_eq_map]
    split
    · rw [h]
    · rfl
theorem byAdd_said (gs : List Grp) (r : RRV) : (byAdd gs r).map saidG = byAddG mayL keyC (gs.map saidG) r.said := by
  unfold byAdd byAddG
  by_cases hm : mayL r.said = true
  · rw [if_pos hm, if_pos hm]
    have hf : (gs.map saidG).findIdx? (fun g => decide (g.1 = keyC r.said)) = gs.findIdx? (fun g => decide (g.1 = keyOfRR r)) := by
      rw [List.findIdx?_map]
      rfl
    rw [hf]
    cases gs.findIdx? (fun g => decide (g.1 = keyOfRR r)) with
    | none => simp only [List.map_append, List.map_cons, List.map_nil]; rfl
    | some i =>
      simp only
      exact map_modify' saidG _ _ (fun x => by unfold saidG; simp) gs i
  · rw [if_neg hm, if_neg hm]
theorem byL_said (rs : List RRV) : (byL rs).map saidG = (rs.map RRV.said).foldl (byAddG mayL keyC) [] := by
  have h : ∀ (rs : List RRV) (gs : List Grp), (rs.foldl byAdd gs).map saidG = (rs.map RRV.said).foldl (byAddG mayL keyC) (gs.map saidG) := by
    intro rs
    induction rs with
    | nil => intro gs; rfl
    | cons r rs ih =>
      intro gs
      rw [List.foldl_cons, ih, byAdd_said]
      rfl
  exact h rs []
theorem setsOf_said {rs rs' : List RRV} (h : rs.map RRV.said = rs'.map RRV.said) (rank now : Int) : setsOf rank now (byL rs) = setsOf rank now (byL rs') := by
  have h1 : ∀ gs : List Grp, setsOf rank now gs = ((gs.map saidG).map fun g => setOf rank now g.2).filter canSet := by
    intro gs
    unfold setsOf
    rw [List.map_map]
    rfl
  rw [h1, h1, byL_said, byL_said, h]

set_option maxRecDepth 100000 in
set_option maxHeartbeats 6400000 in
theorem plain_rrs (A : Option Addr) (n c : Nat) (rs : List RRV) (w : World) (h : RRsAt w w.heap.size A n c rs) (hn : n ≤ 1000) :
    Calls Try.prog 13 #[.slice A n c] w fun e w' => ∃ (A' : Option Addr) (c' : Nat) (rs' : List RRV), e = .returned (.slice A' n c') ∧ RRsOwn w.heap.size A' n c' rs' w' ∧ rs'.map RRV.said = rs.map RRV.said ∧ Upd Nix w w' := by
  obtain ⟨i0, hi0, hz0, hz1, hz2⟩ := info_parts infoRR
  have H := Lib.hid h
  clear h
  go_enter Try.func13, Try.ntmps13
  go_wp2_with fail
  go_loopw [3, 8] (fun s3 s8 wr => ∃ (k : Nat) (A3 : Option Addr) (c3 : Nat) (out : List RRV), k ≤ n ∧ s8 = .int .i64 k ∧ s3 = .slice A3 k c3 ∧ RRsOwn w.heap.size A3 k c3 out wr ∧ out.map RRV.said = (rs.take k).map RRV.said ∧ Upd Nix w wr) (fun _ s8 _ => n - (intOf s8).toNat)
  case atStart => exact ⟨0, none, 0, [], Nat.zero_le _, rfl, rfl, ⟨⟨rfl, .inl ⟨rfl, rfl⟩⟩, rfl, fun r hr => (by cases hr), fun r hr => (by cases hr)⟩, rfl, Upd.refl _ _⟩
  case round =>
    obtain ⟨k, A3, c3, out, hk, rfl, rfl, hso, hsaid, hu⟩ := hrel
    have HS := Lib.hid hso
    have HSAID := Lib.hid hsaid
    have HU := Lib.hid hu
    clear hso hsaid hu
    by_cases hkn : k < n
    · have hki : (k : Int) < (n : Int) := by omega
      have hR := H.out.below (HU.out.belowNix (Nat.le_refl _))
      obtain ⟨ga, oa, na, r, hr, hbl, hat, q0, q1, q2, q3, q4, hidx⟩ := hR.one hkn
      have HR := Lib.hid hr
      have HRA := Lib.hid hat
      have hgl : ga < wr.heap.size := Nat.lt_of_lt_of_le hbl HU.out.size
      clear hr hat hR
      go_upto_region 5 with fail
      clear q0 q1 q2 q3 q4 hidx
      obtain ⟨g5, hg5⟩ : ∃ x, wr.heap.size = x := ⟨_, rfl⟩
      have hb5 : Blk (wr.alloc (.cells #[.string r.name, .int .i64 r.type, .int .i64 r.cls, .int .i64 r.ttl, .slice r.data.A r.data.n r.data.c] 35)) g5 35 #[.string r.name, .int .i64 r.type, .int .i64 r.cls, .int .i64 r.ttl, .slice r.data.A r.data.n r.data.c] := Blk.new' _ _ _ hg5.symm
      have hu5 : Upd Nix wr (wr.alloc (.cells #[.string r.name, .int .i64 r.type, .int .i64 r.cls, .int .i64 r.ttl, .slice r.data.A r.data.n r.data.c] 35)) := (Upd.refl _ _).alloc _
      have hge5 : w.heap.size ≤ g5 := by rw [← hg5]; exact HU.out.size
      have hne5 : ∀ b, (Value.slice A3 k c3).ownBlock = some b → b < g5 := fun b hb => by have := (HS.out.out.lt b hb).2; omega
      have HNE5 := Lib.hid hne5
      rw [hg5]
      generalize wr.alloc (.cells #[.string r.name, .int .i64 r.type, .int .i64 r.cls, .int .i64 r.ttl, .slice r.data.A r.data.n r.data.c] 35) = w5 at *
      have HU5 := Lib.hid (HU.out.trans hu5 fun _ _ h => h)
      have HS5 := Lib.hid (HS.out.upd hu5)
      have hsl := HRA.out.data.below (hu5.belowNix HU.out.size)
      have CLONE := Lib.hid (bytes_clone w5 w.heap.size r.data.A r.data.n r.data.c r.data.l hsl.rd HU5.out.size hsl.len)
      have HB5 := Lib.hid hb5
      have hcb : ∀ i, w5.cell? ⟨g5, i, none⟩ = _ := fun i => hb5.cell i
      clear hb5 hu5 hsl hg5 hgl hne5
      go_wp2_with fail
      refine CLONE.out.mono ?_
      rintro e w6 ⟨A6, c6, rfl, hown6, _, _, hu6⟩
      have HU6 := Lib.hid (HU5.out.trans hu6 fun _ _ h => h)
      have HS6 := Lib.hid (HS5.out.upd hu6)
      have hb6 := HB5.out.upd hu6 (fun h => h)
      have HB6 := Lib.hid hb6
      have HO6 := Lib.hid (own_base hown6 HU5.out.size)
      have hcb6 : ∀ i, w6.cell? ⟨g5, i, none⟩ = _ := fun i => hb6.cell i
      have hfb6 : ∀ i, w6.frozen? ⟨g5, i, none⟩ = _ := fun i => hb6.free i
      have hlb6 := hb6.lt
      clear hb6 hown6 hu6 hcb
      go_upto_region 6 with fail
      clear hcb6 hfb6 hlb6
      have hb7 : Blk (w6.setCell ⟨g5, 4, none⟩ (.slice A6 r.data.n c6)) g5 35 #[.string r.name, .int .i64 r.type, .int .i64 r.cls, .int .i64 r.ttl, .slice A6 r.data.n c6] := by have h1 := HB6.out.set 4 (.slice A6 r.data.n c6); simpa using h1
      have hk7 : Upd (Go.Cx.One g5) w6 (w6.setCell ⟨g5, 4, none⟩ (.slice A6 r.data.n c6)) := (Upd.refl (Go.Cx.One g5) _).set rfl _
      have hu7 : Upd Nix w (w6.setCell ⟨g5, 4, none⟩ (.slice A6 r.data.n c6)) := HU6.out.setCell (p := ⟨g5, 4, none⟩) (fun h => by simp only at h; omega) _
      have hs7 : RRsOwn w.heap.size A3 k c3 out (w6.setCell ⟨g5, 4, none⟩ (.slice A6 r.data.n c6)) :=
        ⟨own_upd' HS6.out.out hk7 (fun b hb hs => by have hs : b = g5 := hs; have := HNE5.out b hb; omega), HS6.out.len, fun x hx => (HS6.out.rows x hx).upd hk7 (fun b hb hs => own_ne_blk' (HS6.out.rows x hx).own HB6.out (by decide) (by have hs : b = g5 := hs; rw [← hs]; exact hb)), HS6.out.ints⟩
      have ho7 : (w6.setCell ⟨g5, 4, none⟩ (.slice A6 r.data.n c6)).ownsRow w.heap.size 5 1 (.slice A6 r.data.n c6) r.data.n (byts r.data.l) := own_upd' HO6.out hk7 (fun b hb hs => own_ne_blk' HO6.out HB6.out (by decide) (by have hs : b = g5 := hs; rw [← hs]; exact hb))
      generalize w6.setCell ⟨g5, 4, none⟩ (.slice A6 r.data.n c6) = w7 at *
      have HS7 := Lib.hid hs7
      have HO7 := Lib.hid ho7
      have HU7 := Lib.hid hu7
      have hcb7 : ∀ i, w7.cell? ⟨g5, i, none⟩ = _ := fun i => hb7.cell i
      have hlb7 := hb7.lt
      have hsz7 := hu7.size
      have hkm : k + 1 ≤ maxLen := by unfold maxLen; omega
      clear hb7 hk7 hu7 hs7 ho7
      go_wp2_with (at_builtin; refine wpList_app _ rfl (.tmp 16) (.tmp 18) 22 rfl w.heap.size 35 i0 _ 5 64 Try.underlying22 hi0 hz0 hz1 hz2 rfl (by omega) (.slice A3 k c3) k ((out.map RRV.cells).flatten) rfl (HS7.out.out.alloc _) (w7.heap.size + 1) (some ⟨w7.heap.size, 0, none⟩) 1 1 [.string r.name, .int .i64 r.type, .int .i64 r.cls, .int .i64 r.ttl, .slice A6 r.data.n c6] rfl (Rd.lit _ _ _ 5 1 rfl) (by intro u hu; simp only [List.mem_cons, List.not_mem_nil, or_false] at hu; rcases hu with rfl | rfl | rfl | rfl | rfl <;> rfl) hkm (by omega) (by simp; omega) ?_; intro A10 c10 w10 hown10 hg10 hat10)
      have hpush := HS7.out.push (r := ⟨r.name, r.type, r.cls, r.ttl, ⟨A6, r.data.n, c6, r.data.l⟩⟩) ⟨HO7.out, HRA.out.data.bytes, HRA.out.data.len⟩ ⟨HRA.out.t, HRA.out.c, HRA.out.l, HRA.out.name⟩ hown10 hg10
      refine ⟨⟨k + 1, A10, c10, _, by omega, by rfl, rfl, hpush, ?_, ?_⟩, ?_⟩
      · rw [List.map_append, HSAID.out, List.take_add_one, HR.out, List.map_append]
        rfl
      · refine (HU7.out.alloc _).grown hg10 fun b hb hlt => ?_
        have := own_ge HS7.out.out b hb
        omega
      · simp only [intOf]; omega
    · have hki : ¬ (k : Int) < (n : Int) := by omega
      obtain rfl : k = n := by omega
      rw [List.take_of_length_le (by rw [H.out.len]; exact Nat.le_refl _)] at HSAID
      go_wp2_with fail
      go_ret
      exact ⟨A3, c3, rfl, out, HS.out, HSAID.out, HU.out⟩
set_option maxRecDepth 100000 in
set_option maxHeartbeats 6400000 in
theorem equal_sets (A A' : Option Addr) (n c n' c' : Nat) (b1 b2 : Nat) (ss ss' : List SetV) (w : World) (h : SetsAt b1 A n c ss w) (h' : SetsAt b2 A' n' c' ss' w) (he : ss.map SetV.said = ss'.map SetV.said) (hn : n ≤ 1000) (hd : ∀ s ∈ ss, s.dn ≤ 10000000000000) (hd' : ∀ s ∈ ss', s.dn ≤ 10000000000000) :
    Calls Try.prog 36 #[.slice A n c, .slice A' n' c', .func (.func 11) #[] #[]] w fun e w' => e = .returned (.bool true) ∧ Upd Nix w w' := by
  have hnn : n' = n := by
    have h1 := congrArg List.length he
    simp only [List.length_map] at h1
    rw [h.len, h'.len] at h1
    exact h1.symm
  subst hnn
  have H := Lib.hid h
  have H' := Lib.hid h'
  have HE := Lib.hid he
  have HD := Lib.hid hd
  have HD' := Lib.hid hd'
  clear h h' he hd hd'
  go_enter Try.func36, Try.ntmps36
  go_wp2_with fail
  go_loopw [17] (fun s17 wr => ∃ k : Nat, k ≤ n' ∧ s17 = .int .i64 k ∧ Upd Nix w wr) (fun s17 _ => n' - (intOf s17).toNat)
  case atStart => exact ⟨0, Nat.zero_le _, rfl, Upd.refl _ _⟩
  case round =>
    obtain ⟨k, hk, rfl, hur⟩ := hrel
    have HUR := Lib.hid hur
    by_cases hkn : k < n'
    · have hki : (k : Int) < (n' : Int) := by omega
      have hS := H.out.upd hur
      have hS' := H'.out.upd hur
      obtain ⟨s, hs⟩ : ∃ s, ss[k]? = some s := ⟨_, List.getElem?_eq_getElem (by rw [H.out.len]; exact hkn)⟩
      obtain ⟨s', hs'⟩ : ∃ s', ss'[k]? = some s' := ⟨_, List.getElem?_eq_getElem (by rw [H'.out.len]; exact hkn)⟩
      have hl : s.said = s'.said := by
        have h1 := congrArg (fun x => x[k]?) HE.out
        simp only [List.getElem?_map, hs, hs', Option.map_some, Option.some.injEq] at h1
        exact h1
      obtain ⟨ga, hca, hia⟩ := hS.idx hkn hs
      obtain ⟨gb, hcb, hib⟩ := hS'.idx hkn hs'
      have hr1 := (hS.at HD.out s (List.mem_of_getElem? hs)).rows
      have hr2 := (hS'.at HD'.out s' (List.mem_of_getElem? hs')).rows
      obtain ⟨nm, ty, cl, ra, ki, ex, zo, dA, dn, dc, rows⟩ := s
      obtain ⟨nm', ty', cl', ra', ki', ex', zo', dA', dn', dc', rows'⟩ := s'
      unfold SetV.said at hl
      simp only [SetC.mk.injEq] at hl
      obtain ⟨e1, rfl, rfl, rfl, rfl, rfl, e2, e3⟩ := hl
      obtain rfl := bytesOf_inj e1
      obtain rfl := bytesOf_inj e2
      have hdd : dn' = dn := by
        have h1 := congrArg List.length e3
        simp only [List.length_map] at h1
        have h2 : rows.length = dn := hr1.len
        have h3 : rows'.length = dn' := hr2.len
        omega
      subst hdd
      have SAME := Lib.hid fun (W : World) (hW : Upd Nix wr W) => same8 nm zo ty cl ra ki ex dA dA' dn' dc dc' rows rows' W ((hr1.below (hW.belowNix (Nat.le_refl _))).more hW.size) ((hr2.below (hW.belowNix (Nat.le_refl _))).more hW.size) e3
      have p0 : wr.cell? ⟨ga, k * 8, none⟩ = some (.string nm) := hca 0 (by omega)
      have p1 : wr.cell? ⟨ga, k * 8 + 1, none⟩ = some (.int .i64 ty) := hca 1 (by omega)
      have p2 : wr.cell? ⟨ga, k * 8 + 2, none⟩ = some (.int .i64 cl) := hca 2 (by omega)
      have p3 : wr.cell? ⟨ga, k * 8 + 3, none⟩ = some (.int .i64 ra) := hca 3 (by omega)
      have p4 : wr.cell? ⟨ga, k * 8 + 4, none⟩ = some (.int .i64 ki) := hca 4 (by omega)
      have p5 : wr.cell? ⟨ga, k * 8 + 5, none⟩ = some (.int .i64 ex) := hca 5 (by omega)
      have p6 : wr.cell? ⟨ga, k * 8 + 6, none⟩ = some (.string zo) := hca 6 (by omega)
      have p7 : wr.cell? ⟨ga, k * 8 + 7, none⟩ = some (.slice dA dn' dc) := hca 7 (by omega)
      have q0 : wr.cell? ⟨gb, k * 8, none⟩ = some (.string nm) := hcb 0 (by omega)
      have q1 : wr.cell? ⟨gb, k * 8 + 1, none⟩ = some (.int .i64 ty) := hcb 1 (by omega)
      have q2 : wr.cell? ⟨gb, k * 8 + 2, none⟩ = some (.int .i64 cl) := hcb 2 (by omega)
      have q3 : wr.cell? ⟨gb, k * 8 + 3, none⟩ = some (.int .i64 ra) := hcb 3 (by omega)
      have q4 : wr.cell? ⟨gb, k * 8 + 4, none⟩ = some (.int .i64 ki) := hcb 4 (by omega)
      have q5 : wr.cell? ⟨gb, k * 8 + 5, none⟩ = some (.int .i64 ex) := hcb 5 (by omega)
      have q6 : wr.cell? ⟨gb, k * 8 + 6, none⟩ = some (.string zo) := hcb 6 (by omega)
      have q7 : wr.cell? ⟨gb, k * 8 + 7, none⟩ = some (.slice dA' dn' dc') := hcb 7 (by omega)
      have hlb : gb < wr.heap.size := cell_lt q0
      clear hur hS hS' hs hs' hca hcb hr1 hr2 e1 e2 e3
      go_wp2_with fail
      refine (SAME.out _ (((Upd.refl _ _).alloc _).alloc _)).mono ?_
      rintro e w1 ⟨rfl, hu1⟩
      have HU1 := Lib.hid (HUR.out.trans ((((Upd.refl _ _).alloc _).alloc _).trans hu1 fun _ _ h => h) fun _ _ h => h)
      clear hu1
      go_wp2_with fail
      refine ⟨⟨k + 1, by omega, by rfl, HU1.out⟩, ?_⟩
      simp only [intOf]; omega
    · have hki : ¬ (k : Int) < (n' : Int) := by omega
      clear hur
      go_wp2_with fail
      go_ret
      exact ⟨rfl, HUR.out⟩
theorem same_sets (A A' : Option Addr) (n c n' c' : Nat) (b1 b2 : Nat) (ss ss' : List SetV) (w : World) (h : SetsAt b1 A n c ss w) (h' : SetsAt b2 A' n' c' ss' w) (he : ss.map SetV.said = ss'.map SetV.said) (hn : n ≤ 1000) (hd : ∀ s ∈ ss, s.dn ≤ 10000000000000) (hd' : ∀ s ∈ ss', s.dn ≤ 10000000000000) :
    Calls Try.prog 14 #[.slice A n c, .slice A' n' c'] w fun e w' => e = .returned (.bool true) ∧ Upd Nix w w' := by
  have HC := Lib.hid (equal_sets A A' n c n' c' b1 b2 ss ss' w h h' he hn hd hd')
  clear h h' he hd hd'
  go_enter Try.func14, Try.ntmps14
  go_wp2_with fail
  refine HC.out.mono ?_
  rintro e w1 ⟨rfl, hu1⟩
  have HU1 := Lib.hid hu1
  clear HC hu1
  go_wp2_with fail
  go_ret
  exact ⟨rfl, HU1.out⟩
end Go.Proofs.Ytlhbikdelbollaa
namespace Go.Proofs.Ytlhbikdelbollaa
open Go.RowKit Go.Cx Go.Maps

/-- the blocks of bytes from a base on -/
def UB (w : World) (base : Nat) : Nat → Prop := fun b => base ≤ b ∧ ∃ cs fz, w.heap[b]? = some (.cells cs 5 fz)
theorem UB.trans {w wr wx : World} {base : Nat} (h : Upd (UB w base) w wr) (k : Upd (UB wr base) wr wx) : Upd (UB w base) w wx :=
  h.trans k fun b hb hs => by
    by_cases hn : UB w base b
    · exact hn
    · obtain ⟨h1, cs, fz, h2⟩ := hs
      rw [h.block b hb hn] at h2
      exact ⟨h1, cs, fz, h2⟩
theorem own_upd_ub {w w' : World} {base b0 : Nat} {e : TypeId} {size n : Nat} {v : Value} {xs : List Value} (h : w.ownsRow b0 e size v n xs) (k : Upd (UB w base) w w') (hne : e ≠ 5) : w'.ownsRow b0 e size v n xs :=
  own_upd' h k fun b hb hs => by
    rcases h.2 with ⟨hv, _⟩ | ⟨g, cap, cur, hv, _, hh, _⟩
    · rw [hv] at hb; cases hb
    · rw [hv] at hb
      simp only [Value.ownBlock, Option.some.injEq] at hb
      subst hb
      obtain ⟨_, cs, fz, h2⟩ := hs
      rw [hh] at h2
      injection h2 with h2
      injection h2 with _ h3
      exact hne h3
theorem ub_row {w : World} {base : Nat} {r : Row} (h : RowU w base r) : ∀ b, Own (.slice r.A r.n r.c) b → UB w base b := by
  intro b hb
  have hb : (Value.slice r.A r.n r.c).ownBlock = some b := hb
  obtain ⟨l, hown, _⟩ := h
  rcases hown.2 with ⟨hv, _⟩ | ⟨g, cap, cur, hv, hg, hh, _⟩
  · rw [hv] at hb; cases hb
  · rw [hv] at hb
    simp only [Value.ownBlock, Option.some.injEq] at hb
    subst hb
    exact ⟨hg, cur, _, hh⟩
def SpoilsIs (base : Nat) (w : World) (e : Ending) (w' : World) : Prop := e = .returned (.tuple #[]) ∧ Upd (UB w base) w w' ∧ ∀ b r', RowU w b r' → RowU w' b r'
set_option maxRecDepth 100000 in
set_option maxHeartbeats 3200000 in
theorem spoil_rows (A : Option Addr) (m c base b0 : Nat) (rows : List Row) (w : World) (hown : w.ownsRow b0 33 1 (.slice A m c) m (rows.map Row.val)) (hr : ∀ r ∈ rows, RowU w base r) (hsm : ∀ r ∈ rows, r.n ≤ 140737488355328) (hm : m ≤ 1000000) :
    Calls Try.prog 16 #[.slice A m c] w (SpoilsIs base w) := by
  have hmc : m ≤ c := own_cap hown
  have hlen : rows.length = m := by have := hown.1; simpa using this
  have HO := Lib.hid hown
  have HR := Lib.hid hr
  have HSM := Lib.hid hsm
  have HLEN := Lib.hid hlen
  clear hown hr hsm hlen
  go_enter Try.func16, Try.ntmps16
  go_wp2_with fail
  go_loopw [7] (fun s7 wr => ∃ k : Nat, k ≤ m ∧ s7 = .int .i64 k ∧ Upd (UB w base) w wr ∧ ∀ b r', RowU w b r' → RowU wr b r') (fun s7 _ => m - (intOf s7).toNat)
  case atStart => exact ⟨0, Nat.zero_le _, rfl, Upd.refl _ _, fun _ _ h => h⟩
  case round =>
    obtain ⟨k, hk, rfl, hu, hkp⟩ := hrel
    have HU := Lib.hid hu
    have HK := Lib.hid hkp
    clear hu hkp
    by_cases hkm : k < m
    · have hki : (k : Int) < (m : Int) := by omega
      obtain ⟨r, hrr⟩ : ∃ r, rows[k]? = some r := ⟨_, List.getElem?_eq_getElem (by rw [HLEN.out]; exact hkm)⟩
      have hrm := List.mem_of_getElem? hrr
      obtain ⟨ad, hA, hB, hcl⟩ := (Rd.own (own_upd_ub HO.out HU.out (by decide))).2 (by omega)
      subst hA
      have hrc : wr.cell? (ad.add k) = some (.slice r.A r.n r.c) := hcl k _ (by rw [List.getElem?_map, hrr]; rfl)
      have hidx : ∀ W, (Instr.indexAt 26 (.slice (some ad) m c) (.int .i64 (k : Int))).run Try.prog W = .ok (.pointer (some (ad.add k))) W := by
        intro W
        rw [run_indexAt_slice W 26 ad m c .i64 (k : Int) Try.underlying26, if_pos ⟨by omega, by omega⟩, sizeRows W]
        simp [Result.andThen]
      have HRK := Lib.hid (HK.out base r (HR.out r hrm))
      have hn := HSM.out r hrm
      obtain ⟨A1, n, c1, l0⟩ := r
      simp only at hrc hn
      clear hcl hrr hrm
      go_wp2_with fail
      obtain ⟨wo, rfl⟩ : ∃ wo : World, wo = wr := ⟨_, rfl⟩
      clear hrc hidx
      go_loopw [13] (fun s13 wi => ∃ i : Nat, i ≤ n ∧ s13 = .int .i64 (i : Nat) ∧ Upd (Own (.slice A1 n c1)) wo wi ∧ ∀ b r', RowU wo b r' → RowU wi b r') (fun s13 _ => n - (intOf s13).toNat)
      case atStart => exact ⟨0, by omega, rfl, Upd.refl _ _, fun _ _ h => h⟩
      case round =>
        obtain ⟨i, hi, rfl, hu, hkp⟩ := hrel
        have HUI := Lib.hid hu
        have HKI := Lib.hid hkp
        clear hu hkp
        by_cases hin : i < n
        · have hii : (i : Int) < (n : Int) := by omega
          obtain ⟨l, hown, hb⟩ := HKI.out base _ HRK.out
          rcases hown.2 with ⟨hv, h0⟩ | ⟨g, cap, cur, hv, hgb, hh, _⟩
          · simp only at h0
            omega
          · simp only at hv
            injection hv with e1 e2 e3
            subst e1
            obtain ⟨ad2, hA2, hlt, hcell⟩ := (Rd.own hown).2 (by show 0 < n; omega)
            injection hA2 with hA2
            subst hA2
            have hll : l.length = n := by have := hown.1; simpa [byts] using this
            have hc1 : wr.cell? ⟨g, i, none⟩ = some (.int .u8 (l[i] : Nat)) := by
              have h1 := hcell i (.int .u8 (l[i] : Nat)) (by rw [byts, List.getElem?_map, List.getElem?_eq_getElem (by omega)]; rfl)
              have hadd : (⟨g, 0, none⟩ : Addr).add i = ⟨g, i, none⟩ := by unfold Addr.add; split <;> simp_all
              rwa [hadd] at h1
            have hf1 : wr.frozen? ⟨g, i, none⟩ = false := Blk.free (t := 5) (cs := cur) hh i
            have hx := hb l[i] (List.getElem_mem _)
            obtain ⟨x, hxx⟩ : ∃ x, l[i] = x := ⟨_, rfl⟩
            rw [hxx] at hc1 hx
            have hxo := xor_255 x hx
            clear hown hh hcell hll hxx hb hlt
            go_wp2_with fail
            refine ⟨⟨i + 1, by omega, by rfl, ?_, ?_⟩, ?_⟩
            · exact HUI.out.set (by rfl) _
            · intro b r' h'
              exact (HKI.out b r' h').store (by omega)
            · simp only [intOf]; omega
        · have hii : ¬ (i : Int) < (n : Int) := by omega
          go_wp2_with fail
          refine ⟨⟨k + 1, by omega, by rfl, UB.trans HU.out (HUI.out.mono fun b _ hb => ub_row HRK.out b hb), fun b r' h' => HKI.out b r' (HK.out b r' h')⟩, ?_⟩
          simp only [intOf]; omega
    · have hki : ¬ (k : Int) < (m : Int) := by omega
      go_wp2_with fail
      exact bodyPost_ret (v := .tuple #[]) (by simp [results, Try.results16, go_sem]) rfl ⟨rfl, HU.out, HK.out⟩
end Go.Proofs.Ytlhbikdelbollaa
namespace Go.Proofs.Ytlhbikdelbollaa
open Go.RowKit Go.Cx Go.Maps

theorem RRsOwn.rrs {base : Nat} {A : Option Addr} {n c : Nat} {rs : List RRV} {wr : World} (h : RRsOwn base A n c rs wr) (hn : n ≤ 10000000000000) : RRsAt wr wr.heap.size A n c rs :=
  ⟨h.len, own_cap h.out, hn, Rd.own h.out, fun r hr => by
    obtain ⟨i1, i2, i3, i4⟩ := h.ints r hr
    exact ⟨i1, i2, i3, i4, (h.rows r hr).sl⟩⟩
set_option maxRecDepth 100000 in
theorem sets_idx {base : Nat} {A : Option Addr} {n c i : Nat} {ss : List SetV} {s : SetV} {wr : World} (h : wr.ownsRow base 28 8 (.slice A n c) n ((ss.map SetV.cells).flatten)) (hi : i < n) (hs : ss[i]? = some s) : ∃ go : Nat, (∀ j, j < 8 → wr.cell? ⟨go, i * 8 + j, none⟩ = s.cells[j]?) ∧
    ∀ W, (Instr.indexAt 24 (.slice A n c) (.int .i64 (i : Int))).run Try.prog W = .ok (.pointer (some ⟨go, i * 8, none⟩)) W := by
  have hnc := own_cap h
  obtain ⟨go, rfl⟩ : ∃ go, A = some ⟨go, 0, none⟩ := by
    rcases h.2 with ⟨hv, h0⟩ | ⟨go, cap, cur, hv, _⟩
    · omega
    · injection hv with e1
      exact ⟨go, e1⟩
  obtain ⟨ad, hA, hB, hc⟩ := (Rd.own h).2 (by omega)
  injection hA with hA
  subst hA
  refine ⟨go, fun j hj => ?_, fun W => ?_⟩
  · have h1 := flat_at SetV.cells 8 (fun _ => rfl) ss i j s hs hj
    have h2 : j < s.cells.length := hj
    rw [List.getElem?_eq_getElem h2] at h1 ⊢
    have := hc _ _ h1
    have hadd : (⟨go, 0, none⟩ : Addr).add (i * 8 + j) = ⟨go, i * 8 + j, none⟩ := by unfold Addr.add; split <;> simp_all
    rwa [hadd] at this
  · rw [run_indexAt_slice W 24 ⟨go, 0, none⟩ n c .i64 (i : Int) Try.underlying24, if_pos ⟨by omega, by omega⟩, sizeSets W]
    simp only [Result.andThen]
    have hadd : (⟨go, 0, none⟩ : Addr).add (i * 8) = ⟨go, i * 8, none⟩ := by unfold Addr.add; split <;> simp_all
    rw [show ((i : Int).toNat * 8) = i * 8 by omega, hadd]
theorem sets_small {base : Nat} {A : Option Addr} {n c : Nat} {ss : List SetV} {w : World} {rank now : Int} {rs : List RRV} (h : SetsAt base A n c ss w) (hs : ss.map SetV.said = setsOf rank now (byL rs)) : n ≤ rs.length ∧ ∀ s ∈ ss, s.dn ≤ 4000 := by
  refine ⟨?_, fun s hss => ?_⟩
  · have h1 := congrArg List.length hs
    rw [List.length_map, h.len] at h1
    have h2 := setsOf_len rank now (byL rs)
    have h3 := byL_len rs
    omega
  · have h1 : s.said ∈ setsOf rank now (byL rs) := by rw [← hs]; exact List.mem_map.2 ⟨s, hss, rfl⟩
    have h2 := canSet_small (setsOf_can h1)
    have h3 := (h.rows s hss).1.1
    simp only [SetV.said, List.length_map] at h2 h3
    omega
set_option maxRecDepth 100000 in
set_option maxHeartbeats 6400000 in
theorem rrsetGroups (A : Option Addr) (n c : Nat) (rs : List RRV) (rank now : Int) (w : World) (h : RRsAt w w.heap.size A n c rs) (hrank : (Lit.int .i64 rank).wf = true) (_hnow : (Lit.int .i64 now).wf = true) :
    Calls Try.prog 5 #[.slice A n c, .int .i64 rank, .int .i64 now] w fun e w' => e = .returned (.bool true) ∧ Below w.heap.size w w' := by
  have H := Lib.hid h
  have hnc := h.nc
  have hsm := h.small
  clear h
  obtain ⟨m, hm⟩ : ∃ m, (min (n : Int) 60).toNat = m := ⟨_, rfl⟩
  have hmn : m ≤ n := by omega
  have hm60 : m ≤ 60 := by omega
  have HF := Lib.hid (H.out.front hmn)
  have HMM := Lib.hid hm
  clear hm
  go_enter Try.func5, Try.ntmps5
  go_wp2_with fail
  rw [HMM.out]
  refine (plain_rrs A m c (rs.take m) w HF.out (by omega)).mono ?_
  rintro e w1 ⟨A1, c1, rs1, rfl, hown1, hsaid1, hu1⟩
  have hrrs1 : RRsAt w1 w1.heap.size A1 m c1 rs1 := hown1.rrs (by omega)
  have hl1 : rs1.length = m := hown1.len
  have HRRS1 := Lib.hid hrrs1
  have HSAID1 := Lib.hid hsaid1
  have HU1 := Lib.hid hu1
  clear hown1 hrrs1 hsaid1 hu1
  go_wp2_with fail
  refine (rrset_group A1 m c1 rs1 rank now hrank w1 w1.heap.size HRRS1.out (Nat.le_refl _) (by omega)).mono ?_
  rintro e w2 ⟨A2, c2, ss, rfl, hS2, hsaid2, hu2⟩
  have HS2 := Lib.hid hS2
  have HSAID2 := Lib.hid hsaid2
  have HU2 := Lib.hid hu2
  have HU12 := Lib.hid (HU1.out.trans hu2 fun _ _ h => h)
  clear hS2 hsaid2 hu2
  go_wp2_with fail
  refine (ref_group A m c (rs.take m) rank now hrank w2 ((HF.out.below (HU12.out.belowNix (Nat.le_refl _))).more HU12.out.size) (by omega)).mono ?_
  rintro e w3 ⟨A3, c3, ss3, rfl, hS3, hsaid3, hu3⟩
  have hss : ss.map SetV.said = ss3.map SetV.said := by rw [HSAID2.out, hsaid3, setsOf_said HSAID1.out]
  obtain ⟨hn2, hd2⟩ := sets_small HS2.out HSAID2.out
  obtain ⟨hn3, hd3⟩ := sets_small hS3 hsaid3
  have HS23 := Lib.hid (HS2.out.upd hu3)
  have SAME := Lib.hid (same_sets A2 A3 ss.length c2 ss3.length c3 _ _ ss ss3 w3 HS23.out hS3 hss (by omega) (fun s hs => by have := hd2 s hs; omega) (fun s hs => by have := hd3 s hs; omega))
  have HD2 := Lib.hid hd2
  have HU23 := Lib.hid (HU2.out.trans hu3 fun _ _ h => h)
  clear hS3 hsaid3 hu3 hss hd2 hd3
  obtain ⟨sn, hsn⟩ : ∃ sn, ss.length = sn := ⟨_, rfl⟩
  rw [hsn] at SAME HS23 hn2 ⊢
  have HSN := Lib.hid hsn
  clear hsn
  go_wp2_with fail
  refine SAME.out.mono ?_
  rintro e w4 ⟨rfl, hu4⟩
  have HS4 := Lib.hid (HS23.out.upd hu4)
  have HU24 := Lib.hid (HU23.out.trans hu4 fun _ _ h => h)
  clear hu4 SAME
  go_wp2_with fail
  go_loopw [31] (fun s31 wr => ∃ k : Nat, k ≤ sn ∧ s31 = .int .i64 k ∧ Upd (UB w4 w1.heap.size) w4 wr ∧ ∀ b r', RowU w4 b r' → RowU wr b r') (fun s31 _ => sn - (intOf s31).toNat)
  case atStart => exact ⟨0, Nat.zero_le _, rfl, Upd.refl _ _, fun _ _ h => h⟩
  case round =>
    obtain ⟨k, hk, rfl, hu, hkp⟩ := hrel
    have HU := Lib.hid hu
    have HK := Lib.hid hkp
    clear hu hkp
    by_cases hkn : k < sn
    · have hki : (k : Int) < (sn : Int) := by omega
      obtain ⟨s, hs⟩ : ∃ s, ss[k]? = some s := ⟨_, List.getElem?_eq_getElem (by rw [HSN.out]; exact hkn)⟩
      have hmem := List.mem_of_getElem? hs
      obtain ⟨ga, hca, hia⟩ := sets_idx (own_upd_ub HS4.out.out HU.out (by decide)) hkn hs
      have hrow := HS4.out.rows s hmem
      have hdn := HD2.out s hmem
      have p0 : wr.cell? ⟨ga, k * 8, none⟩ = some (.string s.name) := hca 0 (by omega)
      have p1 : wr.cell? ⟨ga, k * 8 + 1, none⟩ = some (.int .i64 s.type) := hca 1 (by omega)
      have p2 : wr.cell? ⟨ga, k * 8 + 2, none⟩ = some (.int .i64 s.cls) := hca 2 (by omega)
      have p3 : wr.cell? ⟨ga, k * 8 + 3, none⟩ = some (.int .i64 s.rank) := hca 3 (by omega)
      have p4 : wr.cell? ⟨ga, k * 8 + 4, none⟩ = some (.int .i64 s.kind) := hca 4 (by omega)
      have p5 : wr.cell? ⟨ga, k * 8 + 5, none⟩ = some (.int .i64 s.exp) := hca 5 (by omega)
      have p6 : wr.cell? ⟨ga, k * 8 + 6, none⟩ = some (.string s.zone) := hca 6 (by omega)
      have p7 : wr.cell? ⟨ga, k * 8 + 7, none⟩ = some (.slice s.dA s.dn s.dc) := hca 7 (by omega)
      have SP := Lib.hid fun (W : World) (hW : Upd Nix wr W) => spoil_rows s.dA s.dn s.dc w1.heap.size w1.heap.size s.rows W (own_upd' (own_upd_ub hrow.1 HU.out (by decide)) hW fun _ _ h => h) (fun r hr => (HK.out _ r (RowU.of (hrow.2 r hr))).upd hW fun _ _ h => h) (fun r hr => (hrow.2 r hr).small) (by omega)
      clear hs hmem hca hrow
      go_wp2_with fail
      refine (SP.out _ ((Upd.refl _ _).alloc _)).mono ?_
      rintro e w6 ⟨rfl, hu6, hk6⟩
      have HU6 := Lib.hid (UB.trans (UB.trans HU.out (((Upd.refl Nix wr).alloc _).mono fun _ _ h => h.elim)) hu6)
      have HK6 := Lib.hid fun b r' (h' : RowU w4 b r') => hk6 b r' ((HK.out b r' h').upd ((Upd.refl Nix wr).alloc _) fun _ _ h => h)
      clear hu6 hk6 SP
      go_wp2_with fail
      refine ⟨⟨k + 1, by omega, by rfl, HU6.out, HK6.out⟩, ?_⟩
      simp only [intOf]; omega
    · have hki : ¬ (k : Int) < (sn : Int) := by omega
      have hsz2 := HU2.out.size
      have hsz24 := HU24.out.size
      have hb4 : Below w1.heap.size w4 wr := HU.out.below (by omega) fun b _ hb => hb.1
      have hb1 : Below w1.heap.size w1 wr := (HU24.out.belowNix (Nat.le_refl _)).trans hb4
      have hb0 : Below w.heap.size w wr := (HU1.out.belowNix (Nat.le_refl _)).trans (hb1.mono HU1.out.size)
      have SRR := Lib.hid (same_rrs A1 A m c1 c rs1 (rs.take m) wr ((HRRS1.out.below hb1).more hb1.size) ((HF.out.below hb0).more hb0.size) HSAID1.out)
      have HB0 := Lib.hid hb0
      clear hb4 hb1 hb0
      go_wp2_with (first
        | (go_at_call 17; refine SRR.out.mono ?_; rintro e w8 ⟨rfl, hu8⟩; have HB8 := Lib.hid (HB0.out.trans (hu8.belowNix HB0.out.size)); clear hu8)
        | (go_at_call 12; refine (law_awake _).mono ?_; rintro e w9 ⟨rfl, hu9⟩; have HB9 := Lib.hid (HB8.out.trans (hu9.belowNix HB8.out.size)); clear hu9))
      go_ret
      exact ⟨rfl, HB9.out⟩
end Go.Proofs.Ytlhbikdelbollaa
