/- The fields of a head: a map of lists of texts. -/
import Derived.Test.YtageanmjdfodnaaGreatDoorHttpCt
import Derived.Test.YtageanmjdfodnaaGreatDoorHttpHd
import Derived.Test.YtageanmjdfodnaaGreatDoorMap
import Derived.Deep.RegionHeld3
namespace Go.Proofs.YtageanmjdfodnaaGreatDoor
open Go.RowKit Go.Cx Go.Maps

theorem lawStr : Keyed Tryz.prog 9 := string_keyed Tryz.underlying9
theorem strKey (s : ByteArray) (hs : s.size ≤ 140737488355328) : ∃ l, keyOf Tryz.prog 9 (.string s) = some l := by
  have : s.size ≤ maxLen := by unfold maxLen; omega
  simp [keyOf, mapKey, Tryz.underlying9, this]
theorem zeroStrs (W : World) : (zeroValue 142).run Tryz.prog W = .ok (.slice none 0 0) W := by kernel_rfl
theorem own_keep {w w' : World} {base : Nat} {e : TypeId} {size n : Nat} {v : Value} {xs : List Value} (h : w.ownsRow base e size v n xs) (hk : ∀ b, v.ownBlock = some b → w'.heap[b]? = w.heap[b]?) : w'.ownsRow base e size v n xs := by
  refine ⟨h.1, ?_⟩
  rcases h.2 with h2 | ⟨g, cap, cur, rfl, hB, hg, r⟩
  · exact .inl h2
  · exact .inr ⟨g, cap, cur, rfl, hB, (hk g rfl).trans hg, r⟩
theorem own_in {w : World} {base : Nat} {e : TypeId} {size n : Nat} {v : Value} {xs : List Value} (h : w.ownsRow base e size v n xs) {b : Nat} (hb : v.ownBlock = some b) : b < w.heap.size ∧ ∃ cs, w.heap[b]? = some (.cells cs e (0, 0)) := by
  rcases h.2 with ⟨rfl, _⟩ | ⟨g, cap, cur, rfl, _, hg, _⟩
  · cases hb
  · simp only [Value.ownBlock, Option.some.injEq] at hb
    subst hb
    exact ⟨(Array.getElem?_eq_some_iff.1 hg).1, cur, hg⟩
theorem own_map {w : World} {base M : Nat} {e kt : TypeId} {size n : Nat} {v : Value} {xs : List Value} {P : Program} {f : Value → Option Value} (h : w.ownsRow base e size v n xs) (hm : MapAt w P kt M f) : v.ownBlock ≠ some M := by
  intro hb
  obtain ⟨_, cs, hc⟩ := own_in h hb
  obtain ⟨es, clock, hM, _⟩ := hm
  rw [hc] at hM
  cases hM
theorem StrsOwn.keep {base : Nat} {A : Option Addr} {n c : Nat} {ss : List ByteArray} {w w' : World} (h : StrsOwn base A n c ss w) (hk : ∀ b, (Value.slice A n c).ownBlock = some b → w'.heap[b]? = w.heap[b]?) : StrsOwn base A n c ss w' := ⟨own_keep h.own hk, h.len⟩
theorem StrsOwn.upd {base : Nat} {A : Option Addr} {n c : Nat} {ss : List ByteArray} {w w' : World} (h : StrsOwn base A n c ss w) (k : Upd Nix w w') : StrsOwn base A n c ss w' :=
  h.keep fun _ hb => k.heap (own_in h.own hb).1 fun h => h
/-- the map of the fields -/
structure FAt (base M : Nat) (f : Value → Option Value) (fs : List (List Nat × List Nat)) (w : World) : Prop where
  map : MapAt w Tryz.prog 9 M f
  no : ∀ s : ByteArray, valuesOf fs (bytesOf s) = [] → f (.string s) = none
  yes : ∀ s : ByteArray, valuesOf fs (bytesOf s) ≠ [] → ∃ A n c ss, f (.string s) = some (.slice A n c) ∧ StrsOwn base A n c ss w ∧ ss.map bytesOf = valuesOf fs (bytesOf s)
  apart : ∀ (s t : ByteArray) v v' b, s ≠ t → f (.string s) = some v → f (.string t) = some v' → v.ownBlock = some b → v'.ownBlock ≠ some b
theorem FAt.upd {base M : Nat} {f : Value → Option Value} {fs : List (List Nat × List Nat)} {w w' : World} (h : FAt base M f fs w) (k : Upd Nix w w') : FAt base M f fs w' :=
  ⟨h.map.keep (k.heap h.map.lt fun h => h), h.no, fun s hs => by
    obtain ⟨A, n, c, ss, h1, h2, h3⟩ := h.yes s hs
    exact ⟨A, n, c, ss, h1, h2.upd k, h3⟩, h.apart⟩
theorem FAt.get {base M : Nat} {f : Value → Option Value} {fs : List (List Nat × List Nat)} {w : World} (h : FAt base M f fs w) (s : ByteArray) :
    ∃ A n c ss, (f (.string s)).getD (.slice none 0 0) = .slice A n c ∧ StrsOwn base A n c ss w ∧ ss.map bytesOf = valuesOf fs (bytesOf s) ∧ ∀ b, (Value.slice A n c).ownBlock = some b → f (.string s) = some (.slice A n c) := by
  by_cases hs : valuesOf fs (bytesOf s) = []
  · refine ⟨none, 0, 0, [], by rw [h.no s hs]; rfl, ⟨⟨rfl, .inl ⟨rfl, rfl⟩⟩, rfl⟩, by rw [hs]; rfl, fun b hb => by cases hb⟩
  · obtain ⟨A, n, c, ss, h1, h2, h3⟩ := h.yes s hs
    exact ⟨A, n, c, ss, by rw [h1]; rfl, h2, h3, fun _ _ => h1⟩
theorem FAt.look {base M : Nat} {f : Value → Option Value} {fs : List (List Nat × List Nat)} {w : World} (h : FAt base M f fs w) (s : ByteArray) (hs : s.size ≤ 140737488355328) {v : Value} (hv : (f (.string s)).getD (.slice none 0 0) = v) :
    (Instr.lookup 151 (.map (some M)) (.string s) false).run Tryz.prog w = .ok v w := by
  obtain ⟨l, hl⟩ := strKey s hs
  have := h.map.look lawStr Tryz.underlying151 (zeroStrs w) hl false
  rw [if_neg (by simp), hv] at this
  exact this
theorem FAt.map_grown {base M : Nat} {f : Value → Option Value} {fs : List (List Nat × List Nat)} {w2 w5 : World} (h : FAt base M f fs w2) {A : Option Addr} {n c : Nat} {ss : List ByteArray} {o : Obj}
    (hs : StrsOwn base A n c ss w2) (hg : (w2.alloc o).grownBy w5 (Value.slice A n c).ownBlock) : MapAt w5 Tryz.prog 9 M f := by
  have k1 : Upd Nix w2 (w2.alloc o) := (Upd.refl _ _).alloc o
  have h1 := h.map.keep (k1.heap h.map.lt fun h => h)
  exact h1.keep (hg.block M h1.lt (fun e => own_map hs.own h.map e.symm))
theorem FAt.push {base M : Nat} {f : Value → Option Value} {fs : List (List Nat × List Nat)} {w2 w5 w9 : World} (h : FAt base M f fs w2) {nm r : ByteArray} {A A5 : Option Addr} {n c c5 : Nat} {ss : List ByteArray} {o : Obj}
    (hs : StrsOwn base A n c ss w2) (hss : ss.map bytesOf = valuesOf fs (bytesOf nm)) (hfv : ∀ b, (Value.slice A n c).ownBlock = some b → f (.string nm) = some (.slice A n c))
    (hown : w5.ownsRow base 9 1 (.slice A5 (n + 1) c5) (n + 1) (ss.map Value.string ++ [.string r])) (hg : (w2.alloc o).grownBy w5 (Value.slice A n c).ownBlock)
    (hat : (Value.slice A5 (n + 1) c5).ownBlock = (Value.slice A n c).ownBlock ∨ (Value.slice A5 (n + 1) c5).ownBlock = some (w2.alloc o).heap.size)
    (hm : MapAt w9 Tryz.prog 9 M (putF f (.string nm) (.slice A5 (n + 1) c5))) (hg9 : w5.grownBy w9 (some M)) :
    FAt base M (putF f (.string nm) (.slice A5 (n + 1) c5)) (fs ++ [(bytesOf nm, bytesOf r)]) w9 := by
  have k1 : Upd Nix w2 (w2.alloc o) := (Upd.refl _ _).alloc o
  have hm5 : MapAt w5 Tryz.prog 9 M f := by
    have h1 := h.map.keep (k1.heap h.map.lt fun h => h)
    exact h1.keep (hg.block M h1.lt (fun e => own_map hs.own h.map e.symm))
  have keep : ∀ b, b < w2.heap.size → (Value.slice A n c).ownBlock ≠ some b → b ≠ M → w9.heap[b]? = w2.heap[b]? := fun b hb h1 h2 => by
    have e1 := k1.heap hb (fun h => h)
    have hlt : b < (w2.alloc o).heap.size := Nat.lt_of_lt_of_le hb k1.size
    have e2 := hg.block b hlt (fun e => h1 e.symm)
    have e3 := hg9.block b (Nat.lt_of_lt_of_le hlt hg.size) (fun e => h2 (Option.some.inj e))
    exact e3.trans (e2.trans e1)
  have hown9 : w9.ownsRow base 9 1 (.slice A5 (n + 1) c5) (n + 1) (ss.map Value.string ++ [.string r]) :=
    own_keep hown fun b hb => hg9.block b (own_in hown hb).1 (fun e => own_map hown hm5 (hb.trans e))
  have hnew : ∀ b, (Value.slice A5 (n + 1) c5).ownBlock = some b → b < w2.heap.size → (Value.slice A n c).ownBlock = some b := fun b hb hlt => by
    rcases hat with h1 | h1
    · rw [← h1]; exact hb
    · rw [h1] at hb
      have := k1.size
      injection hb with hb
      omega
  have hne : ∀ s : ByteArray, s ≠ nm → (Value.string s) ≠ .string nm := fun s hs e => hs (Value.string.inj e)
  refine ⟨hm, fun s hs0 => ?_, fun s hs0 => ?_, fun s t v v' b hst hv hv' hb => ?_⟩
  · by_cases hsn : s = nm
    · subst hsn
      rw [valuesOf_snoc, if_pos rfl] at hs0
      simp at hs0
    · rw [valuesOf_snoc, if_neg (fun e => hsn (bytesOf_inj e).symm)] at hs0
      rw [putF_other (hne s hsn)]
      exact h.no s hs0
  · by_cases hsn : s = nm
    · subst hsn
      refine ⟨A5, n + 1, c5, ss ++ [r], putF_same _ _ _, ⟨by rw [List.map_append]; exact hown9, by rw [List.length_append, hs.len]; rfl⟩, ?_⟩
      rw [valuesOf_snoc, if_pos rfl, List.map_append, hss]
      rfl
    · rw [valuesOf_snoc, if_neg (fun e => hsn (bytesOf_inj e).symm)] at hs0 ⊢
      obtain ⟨A', n', c', ss', h1, h2, h3⟩ := h.yes s hs0
      refine ⟨A', n', c', ss', by rw [putF_other (hne s hsn)]; exact h1, h2.keep fun b hb => ?_, h3⟩
      obtain ⟨hlt, cs, hcs⟩ := own_in h2.own hb
      refine keep b hlt (fun e => h.apart s nm _ _ b hsn h1 (hfv b e) hb e) ?_
      rintro rfl
      exact own_map h2.own h.map hb
  · by_cases hsn : s = nm
    · subst hsn
      rw [putF_same] at hv
      rw [putF_other (hne t (fun e => hst e.symm))] at hv'
      injection hv with hv
      subst hv
      intro hb'
      by_cases hlt : b < w2.heap.size
      · have h0 := hnew b hb hlt
        exact h.apart s t _ _ b hst (hfv b h0) hv' h0 hb'
      · have ht : valuesOf fs (bytesOf t) ≠ [] := fun e => by rw [h.no t e] at hv'; cases hv'
        obtain ⟨A', n', c', ss', h1, h2, _⟩ := h.yes t ht
        rw [h1] at hv'
        injection hv' with hv'
        subst hv'
        exact hlt (own_in h2.own hb').1
    · rw [putF_other (hne s hsn)] at hv
      by_cases htn : t = nm
      · subst htn
        rw [putF_same] at hv'
        injection hv' with hv'
        subst hv'
        intro hb'
        have hsv : valuesOf fs (bytesOf s) ≠ [] := fun e => by rw [h.no s e] at hv; cases hv
        obtain ⟨A', n', c', ss', h1, h2, _⟩ := h.yes s hsv
        rw [h1] at hv
        injection hv with hv
        subst hv
        have hlt := (own_in h2.own hb).1
        have h0 := hnew b hb' hlt
        exact h.apart s t _ _ b hst h1 (hfv b h0) hb h0
      · rw [putF_other (hne t htn)] at hv'
        exact h.apart s t v v' b hst hv hv' hb
def FieldsIs (l : List (List Nat)) (w : World) (e : Ending) (w' : World) : Prop :=
  Upd Nix w w' ∧ ((fieldsL l = none ∧ e = .returned (.tuple #[.map none, .bool false])) ∨ ∃ fs M f, fieldsL l = some fs ∧ e = .returned (.tuple #[.map (some M), .bool true]) ∧ FAt w.heap.size M f fs w')

/-- strings that lie below block B -/
structure StrsAt (w : World) (B : Nat) (A : Option Addr) (n c : Nat) (ss : List ByteArray) : Prop where
  rd : Rd w B 1 A n (ss.map Value.string)
  nc : n ≤ c
  len : ss.length = n
  small : n ≤ 2000
  each : ∀ s ∈ ss, s.size ≤ 2000
set_option maxRecDepth 100000 in
set_option maxHeartbeats 3200000 in
theorem http_fields (A : Option Addr) (n c : Nat) (ss : List ByteArray) (w : World) (h : StrsAt w w.heap.size A n c ss) : Calls Tryz.prog 85 #[.slice A n c] w (FieldsIs (ss.map bytesOf) w) := by
  obtain ⟨i0, hi0, hz0, hz1, hz2⟩ := info_parts infoStr
  have kc := fun (w : World) (s : ByteArray) => Lib.run_convert_string_bytes (P := Tryz.prog) w 9 29 5 s Tryz.underlying9 Tryz.underlying29 Tryz.underlying5
  have hn := h.small
  have H := Lib.hid h
  clear h
  have hmm := @run_makeMap Tryz.prog
  go_enter Tryz.func85, Tryz.ntmps85
  go_wp2_with fail
  clear hmm
  have hf0 : FAt w.heap.size w.heap.size (fun _ => none) [] (w.alloc (.map #[] 0)) := ⟨MapAt.made w _ _, fun _ _ => rfl, fun s hs => absurd rfl hs, fun _ _ _ _ _ _ h => by cases h⟩
  have hu0 : Upd Nix w (w.alloc (.map #[] 0)) := (Upd.refl _ _).alloc _
  obtain ⟨M, hM⟩ : ∃ M, w.heap.size = M := ⟨_, rfl⟩
  generalize w.alloc (.map #[] 0) = wa at *
  have HF0 := Lib.hid hf0
  have HU0 := Lib.hid hu0
  rw [hM] at HF0 ⊢
  have HM := Lib.hid hM
  clear hf0 hu0 hM
  go_loopw [14] (fun s14 wr => ∃ (k : Nat) (fs : List (List Nat × List Nat)) (f : Value → Option Value), k ≤ n ∧ s14 = .int .i64 k ∧ fieldsL ((ss.map bytesOf).take k) = some fs ∧ FAt M M f fs wr ∧ Upd Nix w wr ∧ fs.length ≤ k) (fun s14 _ => n - (intOf s14).toNat)
  case atStart => exact ⟨0, [], _, Nat.zero_le _, rfl, rfl, HF0.out, HU0.out, Nat.le_refl _⟩
  case round =>
    obtain ⟨k, fs, f, hk, rfl, hfs, hfa, hu, hfl⟩ := hrel
    have HFS := Lib.hid hfs
    have HFA := Lib.hid hfa
    have HU := Lib.hid hu
    clear hfs hfa hu
    by_cases hkn : k < n
    · have hki : (k : Int) < (n : Int) := by omega
      obtain ⟨s, hs⟩ : ∃ s, ss[k]? = some s := ⟨_, List.getElem?_eq_getElem (by have := H.out.len; omega)⟩
      obtain ⟨ad, rfl, hB, hcl⟩ := H.out.rd.2 (by omega)
      have hcell : wr.cell? (ad.add k) = some (.string s) := (HU.out.cell (p := ad.add k) (by rw [block_add]; exact hB) (fun h => h)).trans (hcl k _ (by rw [List.getElem?_map, hs]; rfl))
      have hsz := H.out.each s (List.mem_of_getElem? hs)
      have hstep : fieldsL ((ss.map bytesOf).take (k + 1)) = match fieldL (bytesOf s) with | some fd => some (fs ++ [fd]) | none => none := by
        rw [List.take_add_one, List.getElem?_map, hs]
        show fieldsL (_ ++ [bytesOf s]) = _
        rw [fieldsL_snoc, HFS.out]
        cases fieldL (bytesOf s) <;> rfl
      have HSTEP := Lib.hid hstep
      have hbl := bytesOf_len s
      have HBL := Lib.hid hbl
      clear hs hcl hstep hbl
      go_wp2_with fail
      refine (strings_cut s wr (by omega)).mono ?_
      clear hcell
      rintro e w1 ⟨hu1, ⟨hc, a, b, rfl, ha⟩ | ⟨a, b, hc, rfl, ha, hb⟩⟩
      · have hno : fieldL (bytesOf s) = none := by unfold fieldL; rw [hc]
        have HNO := Lib.hid hno
        have HU1 := Lib.hid (HU.out.trans hu1 fun _ _ h => h)
        have has : a.size ≤ 2000 := by have := HBL.out; omega
        clear hc hno hu1 ha
        go_wp2_with fail
        refine (http_small a w1 (by omega)).mono ?_
        rintro e w2 ⟨⟨r, rfl, hr⟩, hu2⟩
        have HU2 := Lib.hid (HU1.out.trans hu2 fun _ _ h => h)
        clear hr hu2
        go_wp2_with fail
        go_ret2
        exact ⟨HU2.out, .inl ⟨fieldsL_none _ (k + 1) (by rw [HSTEP.out, HNO.out]), rfl⟩⟩
      · have HC := Lib.hid hc
        have HU1 := Lib.hid (HU.out.trans hu1 fun _ _ h => h)
        have HK1 := Lib.hid hu1
        have has : a.size ≤ 2000 := by have := HBL.out; omega
        have hbs : b.size ≤ 2000 := by have := HBL.out; omega
        clear hc hu1 ha hb
        go_wp2_with fail
        refine (http_small a w1 (by omega)).mono ?_
        rintro e w2 ⟨⟨r, rfl, hr⟩, hu2⟩
        have HU2 := Lib.hid (HU1.out.trans hu2 fun _ _ h => h)
        have HK2 := Lib.hid (HK1.out.trans hu2 fun _ _ h => h)
        have HR := Lib.hid hr
        have hrs : r.size ≤ 2000 := by
          have h1 := congrArg List.length hr
          rw [bytesOf_len, smallF, List.length_map, bytesOf_len] at h1
          omega
        clear hr hu2
        by_cases h0 : r.size = 0
        · have hr0 : bytesOf r = [] := List.eq_nil_of_length_eq_zero (by rw [bytesOf_len]; exact h0)
          have e0 : r.toList = [] := by
            rw [Lib.toList_data]
            unfold bytesOf at hr0
            simpa using hr0
          have hno : fieldL (bytesOf s) = none := by unfold fieldL; rw [HC.out]; simp only; rw [if_pos (.inl (by rw [← HR.out]; exact hr0))]
          have HNO := Lib.hid hno
          have e1 : r.toList.isEmpty = true := by rw [e0]; rfl
          clear hr0 hno e0
          go_wp2_with fail
          go_ret2
          exact ⟨HU2.out, .inl ⟨fieldsL_none _ (k + 1) (by rw [HSTEP.out, HNO.out]), rfl⟩⟩
        · have e1 : r.toList.isEmpty = false := by
            rw [Lib.toList_data, List.isEmpty_eq_false_iff]
            intro e
            apply h0
            have := congrArg List.length e
            rw [Array.length_toList] at this
            exact this
          have hre : smallF (bytesOf a) ≠ [] := by
            intro e
            rw [← HR.out] at e
            have := congrArg List.length e
            rw [bytesOf_len] at this
            exact h0 this
          have HRE := Lib.hid hre
          clear h0 hre
          go_wp2_with fail
          have hrd := Rd.str w2 5 r
          have hu3 := upd_str w2 5 r
          obtain ⟨w3, hw3⟩ : ∃ w3, Lib.bytesWorld w2 5 r = w3 := ⟨_, rfl⟩
          have hs3 : w3.heap.size = w2.heap.size + 1 := by rw [← hw3, Lib.bytesWorld_size]
          rw [hw3] at hrd hu3 ⊢
          rw [← hs3] at hrd
          have HU3 := Lib.hid (HU2.out.trans hu3 fun _ _ h => h)
          have HK3 := Lib.hid (HK2.out.trans hu3 fun _ _ h => h)
          clear hw3 hu3 hs3
          refine (contains_func 90 oddC (enters_of Tryz.func90 (by kernel_rfl) rfl) fields_odd _ r.size _ (bytesOf r) w3 hrd (by omega)).mono ?_
          rintro e w4 ⟨⟨v, rfl, hv⟩, hu4⟩
          have HU4 := Lib.hid (HU3.out.trans hu4 fun _ _ h => h)
          have HK4 := Lib.hid (HK3.out.trans hu4 fun _ _ h => h)
          have HV := Lib.hid hv
          clear hv hu4 hrd
          cases v with
          | true =>
            have hno : fieldL (bytesOf s) = none := by unfold fieldL; rw [HC.out]; simp only; rw [if_pos (.inr (by rw [← HR.out]; exact HV.out.symm))]
            have HNO := Lib.hid hno
            clear hno
            go_wp2_with fail
            go_ret2
            exact ⟨HU4.out, .inl ⟨fieldsL_none _ (k + 1) (by rw [HSTEP.out, HNO.out]), rfl⟩⟩
          | false =>
            have hyes : fieldL (bytesOf s) = some (bytesOf r, smallF (trimF (bytesOf b))) := by
              unfold fieldL
              rw [HC.out]
              simp only
              rw [if_neg, HR.out]
              rintro (h | h)
              · exact HRE.out h
              · rw [← HR.out, ← HV.out] at h; cases h
            have HY := Lib.hid hyes
            have HF4 := Lib.hid (HFA.out.upd HK4.out)
            clear hyes
            obtain ⟨A0, n0, c0, ss0, hget, hso, hss, hfv⟩ := HF4.out.get r
            have hn0 : n0 ≤ k := by
              have h1 := congrArg List.length hss
              rw [List.length_map, hso.len] at h1
              have h2 : (valuesOf fs (bytesOf r)).length ≤ fs.length := by
                unfold valuesOf
                rw [List.length_map]
                exact List.length_filter_le _ _
              omega
            have HGET := Lib.hid hget
            have HSO := Lib.hid hso
            have HSS := Lib.hid hss
            have HFV := Lib.hid hfv
            have look := fun (W : World) (hW : Upd Nix w4 W) => (HF4.out.upd hW).look r (by omega) HGET.out
            have LOOK := Lib.hid look
            have hl0 := look w4.drew (Upd.refl _ _).drew
            have hn0m : n0 + 1 ≤ maxLen := by unfold maxLen; omega
            have hMw : M ≤ w4.heap.size := by have := HM.out; have := HU4.out.size; omega
            clear hget hso hss hfv look
            go_wp2_with fail
            go_region_held3 (fun _ => True) (trivial)
              ((first
              | (go_at_call 93; (with_reducible refine (strings_trim b _ (by omega)).mono ?_); rintro e w5 ⟨⟨r1, rfl, hr1, hzr⟩, hu5⟩; have HU5 := Lib.hid ((Upd.refl Nix w4).drew.trans hu5 fun _ _ h => h); have HR1 := Lib.hid hr1; have hl5 := LOOK.out w5 HU5.out; clear hu5 hr1)
              | (go_at_call 92; (with_reducible refine (http_small r1 _ (by omega)).mono ?_); rintro e w6 ⟨⟨r2, rfl, hr2⟩, hu6⟩; have HU6 := Lib.hid (HU5.out.trans hu6 fun _ _ h => h); have HR2 := Lib.hid hr2; have hl6 := LOOK.out w6 HU6.out; have hl7 := LOOK.out (w6.alloc (.cells #[.string r2] 9)) (HU6.out.alloc _); clear hu6 hr2)
              | (refine step_app _ rfl (.tmp 42) (.tmp 46) 142 rfl M 9 i0 _ 1 16 Tryz.underlying142 hi0 hz0 hz1 hz2 rfl (by omega) (.slice A0 n0 c0) n0 (ss0.map Value.string) rfl ((HSO.out.upd (HU6.out.alloc _)).own) (w6.heap.size + 1) (some ⟨w6.heap.size, 0, none⟩) 1 1 [.string r2] rfl (Rd.lit1 _ _ _) (by intro u hu; simp only [List.mem_singleton] at hu; subst hu; rfl) hn0m (by omega) (by have := HU6.out.size; simp; omega) ?_; intro A7 c7 w7 hown7 hg7 hat7; have hm7 := FAt.map_grown (HF4.out.upd HU6.out) (HSO.out.upd HU6.out) hg7; obtain ⟨kl, hkl⟩ := strKey r (by omega); obtain ⟨w9, hup, hm9, hg9⟩ := hm7.store (t := 151) (val := .slice A7 (n0 + 1) c7) lawStr Tryz.underlying151 hkl; have HM9 := Lib.hid hm9; have HG9 := Lib.hid hg9; have HO7 := Lib.hid hown7; have HG7 := Lib.hid hg7; have HA7 := Lib.hid hat7; clear hm7 hkl hm9 hg9 hown7 hg7 hat7)))
            all_goals
              go_wp2_with fail
              have hpush := FAt.push (HF4.out.upd HU6.out) (HSO.out.upd HU6.out) HSS.out HFV.out HO7.out HG7.out HA7.out HM9.out HG9.out
              have hHM := HM.out
              have hu7 : Upd Nix w w7 := (((HU4.out.trans HU6.out fun _ _ h => h).alloc _).grown HG7.out fun b hb hlt => by have := own_from HSO.out.own b hb; omega)
              refine ⟨⟨k + 1, fs ++ [(bytesOf r, bytesOf r2)], _, by omega, by rfl, ?_, hpush, hu7.grown HG9.out fun b hb hlt => by injection hb with hb; omega, by rw [List.length_append]; simp only [List.length_singleton]; omega⟩, ?_⟩
              · rw [HSTEP.out, HY.out, HR2.out, HR1.out]
              · simp only [intOf]; omega
    · have hki : ¬ (k : Int) < (n : Int) := by omega
      have hke : k = n := by omega
      rw [List.take_of_length_le (by rw [List.length_map, H.out.len]; omega)] at HFS
      clear hke
      go_wp2_with fail
      go_ret2
      have hHM := HM.out
      exact ⟨HU.out, .inr ⟨fs, M, f, HFS.out, rfl, by rw [hHM]; exact HFA.out⟩⟩

end Go.Proofs.YtageanmjdfodnaaGreatDoor
