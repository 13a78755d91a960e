/- The document's table of servers: what each of its methods comes to. -/
import Derived.Test.YtphnehfablaakaaRateBest
namespace Go.Cx
open Go.RowKit
/-- blocks from B on whose element type is one of ts -/
def TypS (w : World) (B : Nat) (ts : List TypeId) : Nat → Prop := fun b => B ≤ b ∧ ∃ c t fr, t ∈ ts ∧ w.heap[b]? = some (.cells c t fr)
theorem Upd.transT {w w1 w2 : World} {B : Nat} {ts : List TypeId} (h : Upd (TypS w B ts) w w1) (k : Upd (TypS w1 B ts) w1 w2) : Upd (TypS w B ts) w w2 :=
  h.trans k fun b hb ⟨h1, c, t, fr, ht, hc⟩ => by
    by_cases hs : TypS w B ts b
    · exact hs
    · exact ⟨h1, c, t, fr, ht, (h.block b hb hs) ▸ hc⟩
theorem Upd.belowT {w w' : World} {B : Nat} {ts : List TypeId} (h : Upd (TypS w B ts) w w') (hB : B ≤ w.heap.size) : Below B w w' := h.below hB fun _ _ ⟨h1, _⟩ => h1
theorem Blk.notT {w : World} {g B : Nat} {t : TypeId} {cs : Array Value} {ts : List TypeId} (h : Blk w g t cs) (hn : t ∉ ts) : ¬ TypS w B ts g := by
  rintro ⟨_, c, t', fr, ht, hc⟩
  unfold Blk at h
  rw [h] at hc
  injection hc with hc
  injection hc with _ e
  exact hn (e ▸ ht)
theorem Blk.typ {w : World} {g B : Nat} {t : TypeId} {cs : Array Value} {ts : List TypeId} (h : Blk w g t cs) (hB : B ≤ g) (ht : t ∈ ts) : TypS w B ts g := ⟨hB, _, _, _, ht, h⟩
theorem MapAt.notT {w : World} {g B : Nat} {P : Program} {k : TypeId} {f : Value → Option Value} {ts : List TypeId} (h : MapAt w P k g f) : ¬ TypS w B ts g := by
  obtain ⟨es, clock, hm, _⟩ := h
  rintro ⟨_, c, t', fr, ht, hc⟩
  rw [hm] at hc
  cases hc
theorem own_typ {w : World} {base : Nat} {e : TypeId} {size n : Nat} {v : Value} {xs : List Value} (h : w.ownsRow base e size v n xs) {ts : List TypeId} (he : e ∈ ts) {b : Nat} (hb : v.ownBlock = some b) : TypS w base ts b := by
  rcases h.2 with ⟨rfl, _⟩ | ⟨g, cap, cur, rfl, hg, hh, _⟩
  · simp [Value.ownBlock] at hb
  · simp [Value.ownBlock] at hb
    subst hb
    exact ⟨hg, cur, e, (0, 0), he, hh⟩
theorem own_ne_blk {w : World} {base : Nat} {e t : TypeId} {size n g : Nat} {v : Value} {xs : List Value} {cs : Array Value} (h : w.ownsRow base e size v n xs) (hb : Blk w g t cs) (hne : e ≠ t) : v.ownBlock ≠ some g := by
  rcases h.2 with ⟨rfl, _⟩ | ⟨g', cap, cur, rfl, _, hh, _⟩
  · simp [Value.ownBlock]
  · intro he
    simp [Value.ownBlock] at he
    subst he
    exact Blk.ne (t := e) hh hb hne rfl
theorem own_upd {w w' : World} {base : Nat} {e : TypeId} {size n : Nat} {v : Value} {xs : List Value} {S : Nat → Prop} (h : w.ownsRow base e size v n xs) (k : Upd S w w') (hn : ∀ b, v.ownBlock = some b → ¬ S b) : w'.ownsRow base e size v n xs := by
  obtain ⟨h1, h2⟩ := h
  refine ⟨h1, ?_⟩
  rcases h2 with h2 | ⟨g, cap, cur, rfl, hg, hh, r⟩
  · exact .inl h2
  · exact .inr ⟨g, cap, cur, rfl, hg, (k.block g (Array.getElem?_eq_some_iff.1 hh).1 (hn g rfl)).trans hh, r⟩
end Go.Cx

namespace Go.Proofs.Ytphnehfablaakaa
open Go.RowKit Go.Maps Go.Cx

abbrev Known := Int × Nat × Nat
def knowns (l : List Known) : List Value := (l.map fun p => [Value.int .i64 p.1, Value.int .i64 p.2.1, Value.int .i64 p.2.2]).flatten
theorem knowns_len (l : List Known) : (knowns l).length = l.length * 3 := by
  induction l with
  | nil => rfl
  | cons q l ih => simp only [knowns, List.map_cons, List.flatten_cons, List.length_append, List.length_cons, List.length_nil] at *; omega
theorem knowns_append (l m : List Known) : knowns (l ++ m) = knowns l ++ knowns m := by simp [knowns]
theorem knowns_get (l : List Known) (k : Nat) (p : Known) (h : l[k]? = some p) : (knowns l)[k * 3]? = some (.int .i64 p.1) ∧ (knowns l)[k * 3 + 1]? = some (.int .i64 p.2.1) ∧ (knowns l)[k * 3 + 2]? = some (.int .i64 p.2.2) := by
  induction l generalizing k with
  | nil => simp at h
  | cons q l ih =>
    cases k with
    | zero =>
      simp only [List.getElem?_cons_zero, Option.some.injEq] at h
      subst h
      exact ⟨rfl, rfl, rfl⟩
    | succ k =>
      simp only [List.getElem?_cons_succ] at h
      have := ih k h
      have e1 : (k + 1) * 3 = k * 3 + 3 := by omega
      rw [e1]
      exact this

abbrev refTs : List TypeId := [40, 68]

/-- the document's table, in blocks from B on, that knows l -/
def RTab (w : World) (B rb : Nat) (l : List Known) : Prop :=
  B ≤ rb ∧ l.length ≤ 1000 ∧ (∀ p ∈ l, p.2.1 ≤ 8000 ∧ p.2.2 ≤ 1000) ∧ ∃ sv, Blk w rb 40 #[sv] ∧ w.ownsRow B 68 3 sv l.length (knowns l)

theorem RTab.upd {w w' : World} {B rb : Nat} {l : List Known} {S : Nat → Prop} (h : RTab w B rb l) (k : Upd S w w') (hn : ∀ b, TypS w B refTs b → ¬ S b) : RTab w' B rb l := by
  obtain ⟨h1, h2, h3, sv, hb, ho⟩ := h
  exact ⟨h1, h2, h3, sv, hb.upd k (hn _ ⟨h1, _, _, _, by simp [refTs], hb⟩), own_upd ho k fun b hb' => hn b (own_typ ho (by simp [refTs]) hb')⟩
theorem RTab.nix {w w' : World} {B rb : Nat} {l : List Known} (h : RTab w B rb l) (k : Upd Nix w w') : RTab w' B rb l := h.upd k fun _ _ hh => hh
theorem Tab.updT {w w' : World} {tb mb B : Nat} {T : Int → Nat × Nat} (h : Tab w tb mb T) (k : Upd (TypS w B refTs) w w') : Tab w' tb mb T := by
  have hlt := h.lt
  obtain ⟨hb, ⟨f, hm, hf⟩, hle⟩ := h
  exact ⟨hb.upd k (hb.notT (by decide)), ⟨f, hm.keep (k.block _ hlt.2 hm.notT), hf⟩, hle⟩
theorem RTab.one {w w' : World} {tb mb B rb : Nat} {l : List Known} {T : Int → Nat × Nat} (h : RTab w B rb l) (hT : Tab w tb mb T) (k : Upd (One mb) w w') : RTab w' B rb l := by
  obtain ⟨_, ⟨f, hm, _⟩, _⟩ := hT
  exact h.upd k fun b hb e => by unfold Cx.One at e; subst e; exact hm.notT hb

/-- where a server stands -/
def placeOf (l : List Known) (a : Int) : Nat := match l.findIdx? (·.1 == a) with | some i => i | none => l.length
def placed (l : List Known) (a : Int) : List Known := match l.findIdx? (·.1 == a) with | some _ => l | none => l ++ [(a, 0, 0)]
def knownOf (l : List Known) (a : Int) : Nat × Nat := match l.find? (·.1 == a) with | some p => p.2 | none => (0, 0)

set_option maxHeartbeats 1000000 in
theorem ref_of (B rb : Nat) (l : List Known) (a : Int) (w : World) (h : RTab w B rb l) :
    Calls Try.prog 16 #[.pointer (some ⟨rb, 0, none⟩), .int .i64 a] w fun e w' => e = .returned (.tuple #[.int .i64 (knownOf l a).1, .int .i64 (knownOf l a).2]) ∧ Upd Nix w w' := by
  obtain ⟨hB, hl, hle, sv, hb, ho⟩ := h
  have hc := hb.cell 0
  simp only [List.getElem?_toArray, List.getElem?_cons_zero] at hc
  obtain ⟨A, c, rfl⟩ := own_form ho
  have hr := Rd.own ho
  have HR := Lib.hid hr
  clear hr ho hb hle
  go_enter Try.func16, Try.ntmps16
  go_wp2
  go_loopw [13] (fun i wr => ∃ k : Nat, k ≤ l.length ∧ i = .int .i64 k ∧ (l.take k).find? (·.1 == a) = none ∧ Upd Nix w wr) (fun i _ => l.length - (intOf i).toNat)
  case atStart => exact ⟨0, Nat.zero_le _, rfl, rfl, Upd.refl _ _⟩
  case round =>
    obtain ⟨k, hk, rfl, hnf, hu⟩ := hrel
    have HN := Lib.hid hnf
    clear hnf
    by_cases hkn : k < l.length
    · obtain ⟨p, hp⟩ : ∃ p, p = l[k] := ⟨_, rfl⟩
      have hp' : l[k]? = some p := by rw [hp, List.getElem?_eq_getElem hkn]
      obtain ⟨g1, g2, g3⟩ := knowns_get l k p hp'
      obtain ⟨ad, rfl, hadB, hcell⟩ := HR.out.2 (by omega)
      have hub := hu.belowNix (Nat.le_refl _)
      have c1 : wr.cell? (ad.add (k * 3)) = some (.int .i64 p.1) := (hub.cell (by rw [block_add]; exact hadB)).trans (hcell _ _ g1)
      have c2 : wr.cell? ⟨(ad.add (k * 3)).block, (ad.add (k * 3)).off + 1, none⟩ = some (.int .i64 p.2.1) := by
        rw [add_next]; exact (hub.cell (by rw [block_add]; exact hadB)).trans (hcell _ _ g2)
      have c3 : wr.cell? ⟨(ad.add (k * 3)).block, (ad.add (k * 3)).off + 2, none⟩ = some (.int .i64 p.2.2) := by
        rw [add_nth _ _ 2 (by omega)]; exact (hub.cell (by rw [block_add]; exact hadB)).trans (hcell _ _ g3)
      have HP := Lib.hid hp
      clear hcell g1 g2 g3 hp hp'
      by_cases he : p.1 = a
      · have he' : (p.1 == a) = true := by simpa using he
        have hfin : knownOf l a = p.2 := by
          have : l.find? (·.1 == a) = some p := by
            have e1 : l = l.take k ++ (p :: l.drop (k + 1)) := by rw [HP.out]; simp
            rw [e1, List.find?_append, HN.out]
            simp [he']
          simp [knownOf, this]
        have HF := Lib.hid hfin
        clear he hfin
        go_wp2_with fail
        go_quiet (fail)
        go_wp2
        go_ret2
        exact ⟨by rw [HF.out]; rfl, (hu.alloc _).drewN _⟩
      · have he' : (p.1 == a) = false := by simpa using he
        clear he
        go_wp2
        go_roundw
        case rel =>
          refine ⟨k + 1, by omega, by go_num, ?_, hu.alloc _⟩
          rw [List.take_succ_eq_append_getElem hkn, List.find?_append, HN.out, ← HP.out]
          simp [he']
        case measure => simp [intOf]; omega
    · go_wp2
      go_ret2
      have hfin : knownOf l a = (0, 0) := by
        have e1 : l.take k = l := List.take_of_length_le (by omega)
        have := HN.out
        rw [e1] at this
        simp [knownOf, this]
      exact ⟨by rw [hfin]; rfl, hu⟩

theorem infoKnown : (Try.prog.info? 68).map (fun i => (i.zero, i.size, i.bytes)) = some (some (.agg #[.int .i64 0, .int .i64 0, .int .i64 0]), 3, 24) := by kernel_rfl

set_option maxHeartbeats 1000000 in
theorem ref_place (B rb : Nat) (l : List Known) (a : Int) (w : World) (h : RTab w B rb l) (hl9 : l.length ≤ 900) (hBw : B ≤ w.heap.size) :
    Calls Try.prog 28 #[.pointer (some ⟨rb, 0, none⟩), .int .i64 a] w fun e w' => e = .returned (.int .i64 (placeOf l a)) ∧ RTab w' B rb (placed l a) ∧ Upd (TypS w B refTs) w w' := by
  have h0 := Lib.hid h
  obtain ⟨hB, hl, hle, sv, hb, ho⟩ := h
  have hc := hb.cell 0
  simp only [List.getElem?_toArray, List.getElem?_cons_zero] at hc
  obtain ⟨A, c, rfl⟩ := own_form ho
  have hr := Rd.own ho
  have HR := Lib.hid hr
  have HO := Lib.hid ho
  have HB := Lib.hid hb
  have HLE := Lib.hid hle
  obtain ⟨i0, hi, hz0, hz1, hz2⟩ := info_parts infoKnown
  clear hr ho hb hle
  go_enter Try.func28, Try.ntmps28
  go_wp2
  go_loopw [12] (fun i wr => ∃ k : Nat, k ≤ l.length ∧ i = .int .i64 k ∧ (l.take k).findIdx? (·.1 == a) = none ∧ Upd Nix w wr) (fun i _ => l.length - (intOf i).toNat)
  case atStart => exact ⟨0, Nat.zero_le _, rfl, rfl, Upd.refl _ _⟩
  case round =>
    obtain ⟨k, hk, rfl, hnf, hu⟩ := hrel
    have HN := Lib.hid hnf
    clear hnf
    have hub := hu.belowNix (Nat.le_refl _)
    by_cases hkn : k < l.length
    · obtain ⟨p, hp⟩ : ∃ p, p = l[k] := ⟨_, rfl⟩
      have hp' : l[k]? = some p := by rw [hp, List.getElem?_eq_getElem hkn]
      obtain ⟨g1, g2, g3⟩ := knowns_get l k p hp'
      obtain ⟨ad, rfl, hadB, hcell⟩ := HR.out.2 (by omega)
      have c1 : wr.cell? (ad.add (k * 3)) = some (.int .i64 p.1) := (hub.cell (by rw [block_add]; exact hadB)).trans (hcell _ _ g1)
      have c2 : wr.cell? ⟨(ad.add (k * 3)).block, (ad.add (k * 3)).off + 1, none⟩ = some (.int .i64 p.2.1) := by
        rw [add_next]; exact (hub.cell (by rw [block_add]; exact hadB)).trans (hcell _ _ g2)
      have c3 : wr.cell? ⟨(ad.add (k * 3)).block, (ad.add (k * 3)).off + 2, none⟩ = some (.int .i64 p.2.2) := by
        rw [add_nth _ _ 2 (by omega)]; exact (hub.cell (by rw [block_add]; exact hadB)).trans (hcell _ _ g3)
      have HP := Lib.hid hp
      clear hcell g1 g2 g3 hp hp'
      by_cases he : p.1 = a
      · have he' : (p.1 == a) = true := by simpa using he
        have hfin : l.findIdx? (·.1 == a) = some k := by
          rw [List.findIdx?_eq_some_iff_getElem]
          refine ⟨hkn, by rw [← HP.out]; exact he', fun j hj => ?_⟩
          have := List.findIdx?_eq_none_iff.1 HN.out l[j] (List.mem_take_iff_getElem.2 ⟨j, by omega, rfl⟩)
          simpa using this
        have HF := Lib.hid hfin
        clear he hfin
        go_wp2
        go_ret
        have e1 : placeOf l a = k := by simp [placeOf, HF.out]
        have e2 : placed l a = l := by simp [placed, HF.out]
        rw [e1, e2]
        exact ⟨rfl, h0.out.nix (hu.alloc _), (hu.alloc _).mono fun _ _ hh => hh.elim⟩
      · have he' : (p.1 == a) = false := by simpa using he
        clear he
        go_wp2
        go_roundw
        case rel =>
          refine ⟨k + 1, by omega, by go_num, ?_, hu.alloc _⟩
          rw [List.take_succ_eq_append_getElem hkn, List.findIdx?_append, HN.out, ← HP.out]
          simp [List.findIdx?_cons, he']
        case measure => simp [intOf]; omega
    · have hfin : l.findIdx? (·.1 == a) = none := by
        have e1 : l.take k = l := List.take_of_length_le (by omega)
        have := HN.out
        rwa [e1] at this
      have e1 : placeOf l a = l.length := by simp [placeOf, hfin]
      have e2 : placed l a = l ++ [(a, 0, 0)] := by simp [placed, hfin]
      have E1 := Lib.hid e1
      have E2 := Lib.hid e2
      have hbr := HB.out.below hub HB.out.lt
      have hor : wr.ownsRow B 68 3 (.slice A l.length c) l.length (knowns l) := own_upd HO.out hu fun _ _ hh => hh
      have hcr := hbr.cell 0
      have hfr := hbr.free 0
      simp only [List.getElem?_toArray, List.getElem?_cons_zero] at hcr
      have HBR := Lib.hid hbr
      clear e1 e2 hfin hbr
      go_wp2_with (at_builtin; refine wpList_app _ rfl (.tmp 27) (.tmp 30) 38 rfl B 68 i0 _ 3 24 Try.underlying38 hi hz0 hz1 hz2 rfl (by omega) (.slice A l.length c) l.length (knowns l) rfl (hor.alloc _) (wr.heap.size + 1) (some ⟨wr.heap.size, 0, none⟩) 1 1 [.int .i64 a, .int .i64 0, .int .i64 0] rfl (Rd.lit wr [.int .i64 a, .int .i64 0, .int .i64 0] _ 3 1 rfl) (ints_oneCell .i64 [a, 0, 0]) (by unfold maxLen; omega) (by omega) (by have := hu.size; simp; omega) ?_; intro A2 c2 w2 hown2 hg2 hat2; have hb2 := (HBR.out.alloc _).grown hg2 (own_ne_blk (own_upd HO.out hu fun _ _ hh => hh) HBR.out (by decide)).symm; have hcr2 := hb2.cell 0; have hfr2 := hb2.free 0; simp only [List.getElem?_toArray, List.getElem?_cons_zero] at hcr2; have HB2 := Lib.hid hb2; clear hb2)
      go_ret
      have hu2 : Upd (TypS w B refTs) w w2 := ((hu.mono (S' := TypS w B refTs) fun _ _ hh => hh.elim).alloc _).grown hg2 (fun b hb _ => own_typ HO.out (by simp [refTs]) hb)
      refine ⟨by rw [E1.out]; rfl, ?_, hu2.setCell (fun _ => HB.out.typ hB (by simp [refTs])) _⟩
      rw [E2.out]
      refine ⟨hB, by simp; omega, fun p hp => ?_, _, HB2.out.set 0 _, ?_⟩
      · rcases List.mem_append.1 hp with hp | hp
        · exact HLE.out p hp
        · simp only [List.mem_singleton] at hp
          subst hp
          simp
      · rw [knowns_append, List.length_append]
        exact ownsRow_setCell_other hown2 (own_ne_blk hown2 HB2.out (by decide)) _

/-- the records with n at place i -/
def setK (l : List Known) (i : Nat) (p : Known) : List Known := l.set i p
theorem knowns_set (l : List Known) (i : Nat) (p : Known) (h : i < l.length) : knowns (l.set i p) = (((knowns l).set (i * 3) (.int .i64 p.1)).set (i * 3 + 1) (.int .i64 p.2.1)).set (i * 3 + 2) (.int .i64 p.2.2) := by
  induction l generalizing i with
  | nil => simp at h
  | cons q l ih =>
    cases i with
    | zero => rfl
    | succ i =>
      have e1 : (i + 1) * 3 = i * 3 + 3 := by omega
      simp only [List.length_cons] at h
      have := ih i (by omega)
      rw [e1, List.set_cons_succ]
      show [_, _, _] ++ knowns (l.set i p) = _
      rw [this]
      rfl
theorem placeOf_get (l : List Known) (a : Int) : ∃ p, (placed l a)[placeOf l a]? = some p ∧ p.1 = a ∧ p.2 = knownOf l a := by
  unfold placed placeOf knownOf
  cases h : l.findIdx? (·.1 == a) with
  | none =>
    refine ⟨(a, 0, 0), by simp, rfl, ?_⟩
    have : l.find? (·.1 == a) = none := by
      rw [List.find?_eq_none]
      intro x hx
      have := List.findIdx?_eq_none_iff.1 h x hx
      simpa using this
    simp [this]
  | some i =>
    obtain ⟨hi, hp, hlt⟩ := List.findIdx?_eq_some_iff_getElem.1 h
    refine ⟨l[i], by simp [List.getElem?_eq_getElem hi], by simpa using hp, ?_⟩
    have : l.find? (·.1 == a) = some l[i] := by
      rw [List.find?_eq_some_iff_getElem]
      exact ⟨hp, i, hi, rfl, fun j hj => by simpa using hlt j hj⟩
    simp [this]
theorem knownOf_set (l : List Known) (a b : Int) (q : Nat × Nat) : knownOf ((placed l a).set (placeOf l a) (a, q)) b = if b = a then q else knownOf l b := by
  unfold placed placeOf
  cases h : l.findIdx? (·.1 == a) with
  | none =>
    have hn : ∀ x ∈ l, x.1 ≠ a := fun x hx => by
      have := List.findIdx?_eq_none_iff.1 h x hx
      simpa using this
    simp only
    rw [List.set_append, if_neg (by omega)]
    simp only [Nat.sub_self, List.set_cons_zero]
    unfold knownOf
    rw [List.find?_append]
    by_cases e : b = a
    · subst e
      have : l.find? (·.1 == b) = none := by
        rw [List.find?_eq_none]
        intro x hx
        simpa using hn x hx
      simp [this]
    · rw [if_neg e]
      cases hf : l.find? (·.1 == b) with
      | some p => simp
      | none =>
        have : (a == b) = false := by simpa using fun h => e h.symm
        simp [this]
  | some i =>
    obtain ⟨hi, hp, hlt⟩ := List.findIdx?_eq_some_iff_getElem.1 h
    simp only
    have hia : l[i].1 = a := by simpa using hp
    have hsplit : l = l.take i ++ (l[i] :: l.drop (i + 1)) := by simp
    have hset : l.set i (a, q) = l.take i ++ ((a, q) :: l.drop (i + 1)) := by rw [List.set_eq_take_append_cons_drop, if_pos hi]
    unfold knownOf
    rw [hset]
    by_cases e : b = a
    · subst e
      rw [if_pos rfl, List.find?_append]
      have : (l.take i).find? (·.1 == b) = none := by
        rw [List.find?_eq_none]
        intro x hx
        obtain ⟨j, hj, rfl⟩ := List.mem_take_iff_getElem.1 hx
        simpa using hlt j (by omega)
      simp [this]
    · rw [if_neg e]
      conv => rhs; rw [hsplit]
      rw [List.find?_append, List.find?_append]
      have h1 : (a == b) = false := by simpa using fun h => e h.symm
      have h2 : (l[i].1 == b) = false := by rw [hia]; exact h1
      rw [List.find?_cons_of_neg (by simp [h1]), List.find?_cons_of_neg (by simp [h2])]

theorem set_same {α : Type} {l : List α} {i : Nat} {x : α} (h : l[i]? = some x) : l.set i x = l := by
  obtain ⟨hi, rfl⟩ := List.getElem?_eq_some_iff.1 h
  exact List.set_getElem_self hi
theorem knowns_set2 (l : List Known) (i : Nat) (p : Known) (h : l[i]? = some p) (v : Nat) : (knowns l).set (i * 3 + 2) (.int .i64 v) = knowns (l.set i (p.1, p.2.1, v)) := by
  obtain ⟨g1, g2, _⟩ := knowns_get l i p h
  rw [knowns_set l i _ (List.getElem?_eq_some_iff.1 h).1, set_same g1, set_same g2]
theorem knowns_set12 (l : List Known) (i : Nat) (p : Known) (h : l[i]? = some p) (u v : Nat) : ((knowns l).set (i * 3 + 1) (.int .i64 u)).set (i * 3 + 2) (.int .i64 v) = knowns (l.set i (p.1, u, v)) := by
  obtain ⟨g1, _, _⟩ := knowns_get l i p h
  rw [knowns_set l i _ (List.getElem?_eq_some_iff.1 h).1, set_same g1]

/-- the table behind a write of one record -/
theorem RTab.write {w' : World} {B rb g c i : Nat} {l : List Known} {p : Known} (hB : B ≤ rb) (hl : l.length ≤ 1000) (hle : ∀ p ∈ l, p.2.1 ≤ 8000 ∧ p.2.2 ≤ 1000) (hp : p.2.1 ≤ 8000 ∧ p.2.2 ≤ 1000)
    (hb : Blk w' rb 40 #[.slice (some ⟨g, 0, none⟩) l.length c])
    (ho : w'.ownsRow B 68 3 (.slice (some ⟨g, 0, none⟩) l.length c) l.length (knowns (l.set i p))) : RTab w' B rb (l.set i p) := by
  refine ⟨hB, by simpa using hl, fun q hq => ?_, _, hb, by simpa using ho⟩
  rcases List.mem_or_eq_of_mem_set hq with h | rfl
  · exact hle q h
  · exact hp

theorem RTab.opened {w : World} {B rb i : Nat} {l : List Known} {p : Known} (h : RTab w B rb l) (hp : l[i]? = some p) : ∃ g c, Blk w rb 40 #[.slice (some ⟨g, 0, none⟩) l.length c] ∧
    w.ownsRow B 68 3 (.slice (some ⟨g, 0, none⟩) l.length c) l.length (knowns l) ∧ w.cell? ⟨rb, 0, none⟩ = some (.slice (some ⟨g, 0, none⟩) l.length c) ∧ g ≠ rb ∧
    w.cell? ⟨g, i * 3 + 1, none⟩ = some (.int .i64 p.2.1) ∧ w.cell? ⟨g, i * 3 + 2, none⟩ = some (.int .i64 p.2.2) ∧ w.frozen? ⟨g, i * 3 + 1, none⟩ = false ∧ w.frozen? ⟨g, i * 3 + 2, none⟩ = false := by
  obtain ⟨hB, hl, hle, sv, hb, ho⟩ := h
  have hil : i < l.length := (List.getElem?_eq_some_iff.1 hp).1
  obtain ⟨g1, g2, g3⟩ := knowns_get l i p hp
  rcases ho.2 with ⟨rfl, e⟩ | ⟨g, cap, cur, rfl, _⟩
  · omega
  · have hc := hb.cell 0
    simp only [List.getElem?_toArray, List.getElem?_cons_zero] at hc
    exact ⟨g, cap, hb, ho, hc, fun e => own_ne_blk ho hb (by decide) (by simp [Value.ownBlock, e]), (ho.cellAt _ (by omega)).trans g2, (ho.cellAt _ (by omega)).trans g3, ho.frozenAt _, ho.frozenAt _⟩

set_option maxHeartbeats 1000000 in
theorem ref_failed (B rb : Nat) (l : List Known) (a : Int) (w : World) (h : RTab w B rb l) (hl9 : l.length ≤ 900) (hBw : B ≤ w.heap.size) :
    Calls Try.prog 14 #[.pointer (some ⟨rb, 0, none⟩), .int .i64 a] w fun e w' => e = .returned (.tuple #[]) ∧ RTab w' B rb ((placed l a).set (placeOf l a) (a, (knownOf l a).1, min ((knownOf l a).2 + 1) 1000)) ∧ Upd (TypS w B refTs) w w' := by
  go_enter Try.func14, Try.ntmps14
  go_wp2_with fail
  refine (ref_place B rb l a _ h hl9 hBw).mono ?_
  rintro e w1 ⟨rfl, h1, hu1⟩
  obtain ⟨p, hp, hpa, hpk⟩ := placeOf_get l a
  obtain ⟨g, c, hb, ho, hc, hgr, hc1, hc2, hf1, hf2⟩ := h1.opened hp
  have hil : placeOf l a < (placed l a).length := (List.getElem?_eq_some_iff.1 hp).1
  have hple := h1.2.2.1 p (List.mem_of_getElem? hp)
  have H1 := Lib.hid h1
  have HB := Lib.hid hb
  have HO := Lib.hid ho
  have HP := Lib.hid hp
  have HPA := Lib.hid hpa
  have HPK := Lib.hid hpk
  have HH := Lib.hid h
  clear h1 hb ho hp hpa hpk h
  obtain ⟨L, hL⟩ : ∃ L, L = (placed l a).length := ⟨_, rfl⟩
  rw [← hL] at hc hil
  obtain ⟨i, hi⟩ : ∃ i, i = placeOf l a := ⟨_, rfl⟩
  rw [← hi] at hil hc1 hc2 hf1 hf2
  have HL := Lib.hid hL
  have HI := Lib.hid hi
  rw [← hi]
  clear hL hi hc1 hf1
  go_wp2_with fail
  go_region
  go_end0
  have ev : (if (1000 : Int) < (p.2.2 : Int) + 1 then 1000 else (p.2.2 : Int) + 1) = ((min (p.2.2 + 1) 1000 : Nat) : Int) := by
    split <;> omega
  rw [ev]
  have hst := (HO.out.stored (i * 3 + 2) (.int .i64 ((min (p.2.2 + 1) 1000 : Nat) : Int)))
  have hnl : (placed l a).length ≤ 1000 := H1.out.2.1
  refine ⟨rfl, ?_, (hu1.transT ((Upd.refl _ _).setCell (p := ⟨g, i * 3 + 2, none⟩) (fun _ => own_typ HO.out (by simp [refTs]) rfl) _)).drew⟩
  have hpe : (a, (knownOf l a).1, min ((knownOf l a).2 + 1) 1000) = (p.1, p.2.1, min (p.2.2 + 1) 1000) := by rw [HPA.out, ← HPK.out]
  rw [hpe, HI.out]
  have hset := knowns_set2 (placed l a) (placeOf l a) p HP.out (min (p.2.2 + 1) 1000)
  rw [HI.out] at hst
  refine RTab.write (c := c) (g := g) H1.out.1 hnl H1.out.2.2.1 ⟨hple.1, by simp; omega⟩ (HB.out.far hgr.symm _).drew ?_
  rw [← hset]
  exact hst.1

set_option maxHeartbeats 1000000 in
theorem ref_answered (B rb : Nat) (l : List Known) (a : Int) (n : Nat) (w : World) (h : RTab w B rb l) (hl9 : l.length ≤ 900) (hBw : B ≤ w.heap.size) (hn : n ≤ 1000) :
    Calls Try.prog 15 #[.pointer (some ⟨rb, 0, none⟩), .int .i64 a, .int .i64 n] w fun e w' => e = .returned (.int .i64 0) ∧ RTab w' B rb ((placed l a).set (placeOf l a) (a, (knownOf l a).1 - (knownOf l a).1 / 8 + n, (knownOf l a).2 / 2)) ∧ Upd (TypS w B refTs) w w' := by
  go_enter Try.func15, Try.ntmps15
  go_wp2_with fail
  refine (ref_place B rb l a _ h hl9 hBw).mono ?_
  rintro e w1 ⟨rfl, h1, hu1⟩
  obtain ⟨p, hp, hpa, hpk⟩ := placeOf_get l a
  obtain ⟨g, c, hb, ho, hc, hgr, hc1, hc2, hf1, hf2⟩ := h1.opened hp
  have hil : placeOf l a < (placed l a).length := (List.getElem?_eq_some_iff.1 hp).1
  have hple := h1.2.2.1 p (List.mem_of_getElem? hp)
  have H1 := Lib.hid h1
  have HB := Lib.hid hb
  have HO := Lib.hid ho
  have HP := Lib.hid hp
  have HPA := Lib.hid hpa
  have HPK := Lib.hid hpk
  have HH := Lib.hid h
  clear h1 hb ho hp hpa hpk h
  obtain ⟨L, hL⟩ : ∃ L, L = (placed l a).length := ⟨_, rfl⟩
  rw [← hL] at hc hil
  obtain ⟨i, hi⟩ : ∃ i, i = placeOf l a := ⟨_, rfl⟩
  rw [← hi] at hil hc1 hc2 hf1 hf2
  have HL := Lib.hid hL
  have HI := Lib.hid hi
  rw [← hi]
  clear hL hi
  go_wp2_with fail
  go_region
  go_wp2_with fail
  go_region
  go_wp2
  go_ret
  have e1 : ((p.2.1 : Int) - (p.2.1 : Int) / 8 + (n : Int)) = ((p.2.1 - p.2.1 / 8 + n : Nat) : Int) := by omega
  have e2 : ((p.2.2 : Int) / 2) = ((p.2.2 / 2 : Nat) : Int) := by omega
  rw [e1, e2]
  have hst1 := HO.out.stored (i * 3 + 1) (.int .i64 ((p.2.1 - p.2.1 / 8 + n : Nat) : Int))
  have hst := hst1.1.stored (i * 3 + 2) (.int .i64 ((p.2.2 / 2 : Nat) : Int))
  have hnl : (placed l a).length ≤ 1000 := H1.out.2.1
  have ht := own_typ (ts := refTs) HO.out (by simp [refTs]) rfl
  refine ⟨rfl, ?_, ((hu1.transT (((Upd.refl _ _).setCell (p := ⟨g, i * 3 + 1, none⟩) (fun _ => ht) _).setCell (p := ⟨g, i * 3 + 2, none⟩) (fun _ => ht) _)).drew).drew⟩
  have hpe : (a, (knownOf l a).1 - (knownOf l a).1 / 8 + n, (knownOf l a).2 / 2) = (p.1, p.2.1 - p.2.1 / 8 + n, p.2.2 / 2) := by rw [HPA.out, ← HPK.out]
  rw [hpe, HI.out]
  have hset := knowns_set12 (placed l a) (placeOf l a) p HP.out (p.2.1 - p.2.1 / 8 + n) (p.2.2 / 2)
  rw [HI.out] at hst
  refine RTab.write (c := c) (g := g) H1.out.1 hnl H1.out.2.2.1 ⟨by simp only; omega, by simp only; omega⟩ (((HB.out.far hgr.symm _).far hgr.symm _).drew).drew ?_
  rw [← hset]
  exact hst.1

theorem ref_answered_bad (rb : Nat) (a n : Int) (w : World) (hn : 1000 < n) :
    Calls Try.prog 15 #[.pointer (some ⟨rb, 0, none⟩), .int .i64 a, .int .i64 n] w fun e w' => e = .returned (.int .i64 1) ∧ w = w' := by
  have hn' : ¬ n < 0 := by omega
  go_enter Try.func15, Try.ntmps15
  go_wp2_with fail
  go_ret
  exact ⟨rfl, rfl⟩
end Go.Proofs.Ytphnehfablaakaa
