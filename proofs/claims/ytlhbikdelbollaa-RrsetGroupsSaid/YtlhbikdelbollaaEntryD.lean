/- Entries: the walk of Can. -/
import Derived.Test.YtlhbikdelbollaaEntryC
import Derived.Test.YtlhbikdelbollaaIdxFunc
import Derived.Outline
namespace Go.Proofs.Ytlhbikdelbollaa
open Go.RowKit Go.Cx Go.Maps

theorem wrap_step (a b : Int) : wrap64 (wrap64 a + b) = wrap64 (a + b) := by
  unfold wrap64
  omega
theorem all_rows (t : Int) (rows : List Row) : (rows.map Row.l).all (fun d => rdataL t d) = !rows.any (fun r => !rdataL t r.l) := by
  induction rows with
  | nil => rfl
  | cons r rows ih => rw [List.map_cons, List.all_cons, ih, List.any_cons]; simp
theorem rdataL_len {t : Int} {d : List Nat} (h : rdataL t d = true) : d.length ≤ 65535 := by
  unfold rdataL at h
  split at h
  · cases h
  · omega
theorem sumL_le (l : List (List Nat)) (h : ∀ d ∈ l, d.length ≤ 65535) : sumL l ≤ l.length * 65537 := by
  induction l with
  | nil => simp [sumL]
  | cons d l ih =>
    have h1 := h d (by simp)
    have h2 := ih fun x hx => h x (by simp [hx])
    simp only [sumL, List.map_cons, List.sum_cons, List.length_cons] at h2 ⊢
    omega
theorem sum_small {t : Int} {l : List (List Nat)} {v : Int} (h : l.all (fun d => rdataL t d) = true) (hn : l.length ≤ 10000000000000) (hv : v = wrap64 (sumL l)) (h4 : ¬ 4000 < v) : sumL l ≤ 4000 := by
  have h1 := sumL_le l fun d hd => rdataL_len (List.all_eq_true.1 h d hd)
  unfold wrap64 at hv
  omega
theorem key_size {n : List Nat} {t c : Int} (h : keyL n t c = true) : n.length ≤ 255 ∧ 0 ≤ t ∧ t < 65536 ∧ 0 ≤ c ∧ c < 65536 ∧ canL n = true := by
  unfold keyL at h
  simp only [Bool.and_eq_true, decide_eq_true_eq] at h
  obtain ⟨⟨⟨⟨h1, h2⟩, h3⟩, h4⟩, h5⟩ := h
  refine ⟨?_, h2, h3, h4, h5, h1⟩
  unfold canL at h1
  simp only [Bool.and_eq_true, decide_eq_true_eq] at h1
  exact h1.2

theorem sumL_ge (l : List (List Nat)) : l.length ≤ sumL l := by
  induction l with
  | nil => simp
  | cons d l ih => simp only [sumL, List.map_cons, List.sum_cons, List.length_cons] at ih ⊢; omega
theorem toList_data (s : ByteArray) : s.toList = s.data.toList := Lib.toList_data s
theorem zone_nil {s : ByteArray} (h : s.toList = []) : bytesOf s = [] := by rw [toList_data] at h; unfold bytesOf; rw [h]; rfl
theorem nil_zone {s : ByteArray} (h : bytesOf s = []) : s.toList = [] := by
  rw [toList_data]
  unfold bytesOf at h
  exact List.map_eq_nil_iff.1 h
theorem zone_size {s : ByteArray} (h : s.toList = []) : s.size = 0 := by rw [← bytesOf_len, zone_nil h]; rfl
theorem entry_write' (s : SetV) (w : World) (B : Nat) (h : SetAt w B s) (hB : B ≤ w.heap.size) (hk : keyL (bytesOf s.name) s.type s.cls = true) (hr : 1 ≤ s.rank ∧ s.rank ≤ 3 ∧ 0 ≤ s.exp ∧ s.exp ≤ 1099511627776)
    (hki : 0 ≤ s.kind ∧ s.kind ≤ 2) (hz : s.zone.size ≤ 255) (hs : sumL (s.rows.map Row.l) ≤ 4000) :
    Calls Try.prog 58 #[.agg #[.bool false, .string s.name, .int .i64 s.type, .int .i64 s.cls, .int .i64 s.rank, .int .i64 s.kind, .int .i64 s.exp, .string s.zone, .slice s.dA s.dn s.dc]] w fun e w' => ∃ A n c, e = .returned (.slice A n c) ∧ w'.ownsRow w.heap.size 5 1 (.slice A n c) n (byts (writeL s.said)) ∧ Upd Nix w w' := by
  obtain ⟨h1, h2, h3, h4, h5, _⟩ := key_size hk
  rw [bytesOf_len] at h1
  have hl := sumL_ge (s.rows.map Row.l)
  rw [List.length_map, h.rows.len] at hl
  exact entry_write s w B h hB (by omega) (by omega) s.type.toNat s.cls.toNat s.rank.toNat s.kind.toNat s.exp.toNat (by omega) (by omega) (by omega) (by omega) (by omega) (by omega) (by omega) (by omega) (by omega) (by omega) (by omega) (by omega)
theorem canSet_data (s : SetC) (hk : keyL s.name s.type s.cls = true) (hr : 1 ≤ s.rank ∧ s.rank ≤ 3 ∧ 0 ≤ s.exp ∧ s.exp ≤ 1099511627776) (hn : s.datas ≠ []) (hs : sumL s.datas ≤ 4000) (h0 : s.kind = 0)
    (ha : s.datas.all (fun d => rdataL s.type d) = true) (ht : 0 < s.type) (hz : s.zone = []) : canSet s = decide ((writeL s).length ≤ 4000) := by
  unfold canSet
  simp only [hk, hr.1, hr.2.1, hr.2.2.1, hr.2.2.2, hs, h0, ha, ht, hz, if_true, hn, ne_eq, not_false_eq_true, decide_true, Bool.true_and]
theorem canSet_zone (s : SetC) (h0 : s.kind = 0) (hz : s.zone ≠ []) : canSet s = false := by unfold canSet; simp [h0, hz]
theorem canSet_type (s : SetC) (h0 : s.kind = 0) (ht : ¬ 0 < s.type) : canSet s = false := by unfold canSet; simp [h0, ht]

theorem canSet_all (s : SetC) (h0 : s.kind ≠ 0) (h : s.datas.all (fun d => rdataL 6 d) = false) : canSet s = false := by
  unfold canSet
  simp only [h0, if_false, h]
  simp
theorem canSet_kind (s : SetC) (h0 : s.kind ≠ 0) (h : ¬ (s.kind = 1 ∨ s.kind = 2)) : canSet s = false := by
  unfold canSet
  simp only [h0, if_false, h]
  simp
theorem canSet_noname (s : SetC) (h0 : s.kind ≠ 0) (h : s.kind = 1 ∨ s.kind = 2) (hz : canL s.zone = false) : canSet s = false := by
  unfold canSet
  simp only [h0, if_false, h, if_true, hz]
  simp
theorem canSet_one (s : SetC) (h0 : s.kind ≠ 0) (h : s.kind = 1 ∨ s.kind = 2) (hz : ¬ s.datas.length = 1) : canSet s = false := by
  unfold canSet
  simp only [h0, if_false, h, if_true, hz, decide_false]
  simp
theorem canSet_tk (s : SetC) (h0 : s.kind ≠ 0) (h : s.kind = 1 ∨ s.kind = 2) (hz : ¬ decide (s.type = 0) = decide (s.kind = 2)) : canSet s = false := by
  have : (decide (s.type = 0) == decide (s.kind = 2)) = false := beq_eq_false_iff_ne.2 hz
  unfold canSet
  simp only [h0, if_false, h, if_true, this]
  simp
theorem canSet_neg (s : SetC) (hk : keyL s.name s.type s.cls = true) (hr : 1 ≤ s.rank ∧ s.rank ≤ 3 ∧ 0 ≤ s.exp ∧ s.exp ≤ 1099511627776) (hn : s.datas ≠ []) (hs : sumL s.datas ≤ 4000) (h0 : s.kind ≠ 0) (h : s.kind = 1 ∨ s.kind = 2)
    (ha : s.datas.all (fun d => rdataL 6 d) = true) (hz : canL s.zone = true) (h1 : s.datas.length = 1) (ht : decide (s.type = 0) = decide (s.kind = 2)) : canSet s = decide ((writeL s).length ≤ 4000) := by
  have : (decide (s.type = 0) == decide (s.kind = 2)) = true := beq_iff_eq.2 ht
  unfold canSet
  simp only [hk, hr.1, hr.2.1, hr.2.2.1, hr.2.2.2, hs, h0, h, ha, if_true, if_false, hn, ne_eq, not_false_eq_true, decide_true, Bool.true_and, hz, h1, this]
theorem can_size {s : ByteArray} (h : canL (bytesOf s) = true) : s.size ≤ 255 := by
  unfold canL at h
  simp only [Bool.and_eq_true, decide_eq_true_eq, bytesOf_len] at h
  exact h.2

set_option maxRecDepth 100000 in
set_option maxHeartbeats 3200000 in
theorem entry_pred (ty : Int) (hty : (Lit.int .i64 ty).wf = true) (g : Nat) (rows : List Row) (w : World) (hg : Blk w g 3 #[.int .i64 ty]) (h : ∀ r ∈ rows, Sl w w.heap.size r.A r.n r.c r.l) :
    PredRows 57 #[.pointer (some ⟨g, 0, none⟩)] (fun r => !rdataL ty r.l) rows w := by
  intro W hu r hr
  have hb := hg.upd hu (by simp [Nix])
  have hc := hb.cell 0
  simp only [List.getElem?_toArray, List.getElem?_cons_zero] at hc
  have hs := (h r hr).upd hu
  have HS := Lib.hid hs
  clear hs hb hu
  show Calls Try.prog 57 #[.slice r.A r.n r.c, .pointer (some ⟨g, 0, none⟩)] W _
  go_enter Try.func57, Try.ntmps57
  go_wp2_with fail
  refine (rdata_can ty hty r.A r.n r.c r.l W HS.out).mono ?_
  rintro e w1 ⟨rfl, hu1⟩
  have HU := Lib.hid hu1
  clear hu1
  go_wp2_with fail
  go_ret
  exact ⟨rfl, HU.out⟩

set_option maxRecDepth 100000 in
set_option maxHeartbeats 3200000 in
theorem entry_can (s : SetV) (w : World) (B : Nat) (h : SetAt w B s) (hB : B ≤ w.heap.size) :
    Calls Try.prog 34 #[s.agg] w fun e w' => e = .returned (.bool (canSet s.said)) ∧ Upd Nix w w' := by
  have H := Lib.hid h
  have hname := h.name
  clear h
  have hkey0 := fun W => entry_key s W hname
  unfold SetV.agg at hkey0 ⊢
  have HKEY := Lib.hid hkey0
  clear hkey0
  go_enter Try.func34, Try.ntmps34
  go_wp2_with fail
  have hb : Blk (w.alloc (.cells s.cells.toArray 28)) w.heap.size 28 s.cells.toArray := Blk.new w _ _
  have hu : Upd Nix w (w.alloc (.cells s.cells.toArray 28)) := (Upd.refl _ _).alloc _
  unfold SetV.cells at hb hu
  obtain ⟨g, hg⟩ : ∃ g, w.heap.size = g := ⟨_, rfl⟩
  rw [hg] at hb ⊢
  have HG := Lib.hid hg
  generalize (w.alloc (.cells [Value.string s.name, .int .i64 s.type, .int .i64 s.cls, .int .i64 s.rank, .int .i64 s.kind, .int .i64 s.exp, .string s.zone, .slice s.dA s.dn s.dc].toArray 28)) = wa at *
  clear hg
  refine (HKEY.out wa).mono ?_
  rintro e w1 ⟨rfl, hu1⟩
  have hb1 := hb.upd hu1 (by simp [Nix])
  have HU := Lib.hid (hu.trans hu1 fun _ _ h => h)
  have HB := Lib.hid hb1
  have hc : ∀ i, w1.cell? ⟨g, i, none⟩ = _ := fun i => hb1.cell i
  clear hb hb1 hu hu1
  cases hkey : keyL (bytesOf s.name) s.type s.cls with
  | false =>
    have hv : canSet s.said = false := by unfold canSet SetV.said; simp [hkey]
    have HV := Lib.hid hv
    clear hv hkey
    go_wp2_with fail
    go_ret
    rw [HV.out]
    exact ⟨rfl, HU.out⟩
  | true =>
    have HK := Lib.hid hkey
    clear hkey
    by_cases r1 : 1 ≤ s.rank
    case neg =>
      have r1' : s.rank < 1 := by omega
      have hv : canSet s.said = false := by unfold canSet SetV.said; simp [r1]
      have HV := Lib.hid hv
      clear hv
      go_wp2_with fail
      go_ret
      rw [HV.out]
      exact ⟨rfl, HU.out⟩
    by_cases r2 : s.rank ≤ 3
    case neg =>
      have r2' : 3 < s.rank := by omega
      have r1' : ¬ s.rank < 1 := by omega
      have hv : canSet s.said = false := by unfold canSet SetV.said; simp [r2]
      have HV := Lib.hid hv
      clear hv
      go_wp2_with fail
      go_ret
      rw [HV.out]
      exact ⟨rfl, HU.out⟩
    by_cases r3 : 0 ≤ s.exp
    case neg =>
      have r3' : s.exp < 0 := by omega
      have r2' : ¬ 3 < s.rank := by omega
      have r1' : ¬ s.rank < 1 := by omega
      have hv : canSet s.said = false := by unfold canSet SetV.said; simp [r3]
      have HV := Lib.hid hv
      clear hv
      go_wp2_with fail
      go_ret
      rw [HV.out]
      exact ⟨rfl, HU.out⟩
    by_cases r4 : s.exp ≤ 1099511627776
    case neg =>
      have r4' : 1099511627776 < s.exp := by omega
      have r3' : ¬ s.exp < 0 := by omega
      have r2' : ¬ 3 < s.rank := by omega
      have r1' : ¬ s.rank < 1 := by omega
      have hv : canSet s.said = false := by unfold canSet SetV.said; simp [r4]
      have HV := Lib.hid hv
      clear hv
      go_wp2_with fail
      go_ret
      rw [HV.out]
      exact ⟨rfl, HU.out⟩
    have r4' : ¬ 1099511627776 < s.exp := by omega
    have r3' : ¬ s.exp < 0 := by omega
    have r2' : ¬ 3 < s.rank := by omega
    have r1' : ¬ s.rank < 1 := by omega
    have R4 := Lib.hid (And.intro r1 (And.intro r2 (And.intro r3 r4)))
    have hdn := H.out.rows.nc
    have hds := H.out.rows.small
    go_wp2_with fail
    clear r1 r2 r3 r4 r1' r2' r3' r4' hc
    go_loopw [3, 33] (fun s3 s33 wr => w1 = wr ∧ ∃ (k : Nat) (v : Int), k ≤ s.dn ∧ s33 = .int .i64 k ∧ s3 = .int .i64 v ∧ v = wrap64 (sumL ((s.rows.map Row.l).take k))) (fun _ s33 _ => s.dn - (intOf s33).toNat)
    case atStart => exact ⟨rfl, 0, 0, Nat.zero_le _, rfl, rfl, by simp [sumL, wrap64]⟩
    case round =>
      obtain ⟨rfl, k, v, hk, rfl, rfl, hv⟩ := hrel
      have HVV := Lib.hid hv
      clear hv
      by_cases hkn : k < s.dn
      · have hki : (k : Int) < (s.dn : Int) := by omega
        have hrows := H.out.rows.below (HU.out.belowNix hB)
        obtain ⟨ad, r, hadB, hr, hmem, hcell, hidx⟩ := hrows.idx hkn
        have hsl := hrows.each r hmem
        have hsn := hsl.len
        have hrl := hsl.llen
        have HR := Lib.hid hr
        have HRL := Lib.hid hrl
        clear hr hsl hrows hrl
        go_wp2_with fail
        refine ⟨⟨trivial, k + 1, _, by omega, by rfl, rfl, ?_⟩, ?_⟩
        · have hr2 : (s.rows.map Row.l)[k]? = some r.l := by rw [List.getElem?_map, HR.out]; rfl
          rw [sumL_snoc _ k _ hr2, HVV.out, HRL.out, wrap_step, Int.natCast_add, Int.natCast_add]
          rfl
        · simp only [intOf]; omega
      · have hki : ¬ (k : Int) < (s.dn : Int) := by omega
        have hke : k = s.dn := by omega
        subst hke
        rw [List.take_of_length_le (by rw [List.length_map, H.out.rows.len]; exact Nat.le_refl _)] at HVV
        have hc : ∀ i, w1.cell? ⟨g, i, none⟩ = _ := fun i => HB.out.cell i
        by_cases h0 : s.dn = 0
        · have h0i : (s.dn : Int) = 0 := by omega
          have hnil : s.rows = [] := List.eq_nil_of_length_eq_zero (by rw [H.out.rows.len]; exact h0)
          have hv : canSet s.said = false := by
            unfold canSet SetV.said
            simp [hnil]
          have HV := Lib.hid hv
          clear hv hnil h0
          go_wp2_with fail
          go_ret
          rw [HV.out]
          exact ⟨rfl, HU.out⟩
        have h0i : ((s.dn : Int) == 0) = false := by rw [beq_eq_false_iff_ne]; omega
        by_cases hv4 : 4000 < v
        · have hs4 : ¬ sumL (s.rows.map Row.l) ≤ 4000 := by
            intro hle
            have := HVV.out
            unfold wrap64 at this
            omega
          have hv : canSet s.said = false := by
            unfold canSet SetV.said
            simp [hs4]
          have HV := Lib.hid hv
          clear hv hs4
          go_wp2_with fail
          go_ret
          rw [HV.out]
          exact ⟨rfl, HU.out⟩
        have hnz : s.rows.map Row.l ≠ [] := by
          intro he
          have := congrArg List.length he
          rw [List.length_map, H.out.rows.len] at this
          exact h0 (by simpa using this)
        have HNZ := Lib.hid hnz
        clear hnz
        have hB1 : B ≤ w1.heap.size := Nat.le_trans hB HU.out.size
        have hrows := H.out.rows.below (HU.out.belowNix hB)
        have HROWS := Lib.hid hrows
        have hlt1 := HB.out.lt
        clear hrows
        by_cases k0 : s.kind = 0
        · have k0i : (s.kind == 0) = true := by simp [k0]
          have K0 := Lib.hid k0
          clear k0
          go_wp2_with fail
          refine (contains_func 57 _ (fun _ _ => rfl) _ s.dA s.dn s.dc s.rows _ B (HROWS.out.below ((Below.refl B w1).alloc hB1 _)) (by simp; omega) (entry_pred s.type H.out.t w1.heap.size s.rows _ (Blk.new _ _ _) (fun r hr => ((HROWS.out.each r hr).below ((Below.refl B w1).alloc hB1 _)).more (by simp; omega)))).mono ?_
          rintro e w2 ⟨rfl, hu2⟩
          have HU2 := Lib.hid (HU.out.trans (((Upd.refl Nix w1).alloc _).trans hu2 fun _ _ h => h) fun _ _ h => h)
          have HB2 := Lib.hid ((HB.out.alloc _).upd hu2 (by simp [Nix]))
          have HROWS2 := Lib.hid ((HROWS.out.below ((Below.refl B w1).alloc hB1 _)).below (hu2.belowNix (by simp; omega)))
          have hc2 : ∀ i, w2.cell? ⟨g, i, none⟩ = _ := fun i => HB2.out.cell i
          have hsz2 : w1.heap.size ≤ w2.heap.size := by have := hu2.size; simp at this; omega
          clear hu2 hc
          cases hany : s.rows.any (fun r => !rdataL s.type r.l) with
          | true =>
            have hall : (s.rows.map Row.l).all (fun d => rdataL s.type d) = false := by rw [all_rows, hany]; rfl
            have hv : canSet s.said = false := by
              unfold canSet SetV.said
              simp only [K0.out, if_true, hall]
              simp
            have HV := Lib.hid hv
            clear hv hall hany
            go_wp2_with fail
            go_ret
            rw [HV.out]
            exact ⟨rfl, HU2.out⟩
          | false =>
            have hall : (s.rows.map Row.l).all (fun d => rdataL s.type d) = true := by rw [all_rows, hany]; rfl
            have hs4 : sumL (s.rows.map Row.l) ≤ 4000 := sum_small hall (by rw [List.length_map, H.out.rows.len]; exact hds) HVV.out (by omega)
            have HALL := Lib.hid hall
            have HS4 := Lib.hid hs4
            clear hall hs4 hany
            have hkk := K0.out
            have HKK := Lib.hid hkk
            clear hkk
            by_cases ht0 : 0 < s.type
            · by_cases hz : s.zone.toList = []
              · have hzs : s.zone.size = 0 := zone_size hz
                go_wp2_with fail
                refine (entry_write' s w2 B (H.out.below (HU2.out.belowNix hB)) (by omega) HK.out R4.out (by rw [HKK.out]; omega) (by omega) HS4.out).mono ?_
                rintro e w3 ⟨A3, n3, c3, rfl, hown3, hu3⟩
                have hn3 : n3 = (writeL s.said).length := by have := hown3.1; simpa [byts] using this.symm
                have HU3 := Lib.hid (HU2.out.trans hu3 fun _ _ h => h)
                have hv : canSet s.said = decide ((n3 : Int) ≤ 4000) := by
                  rw [canSet_data s.said HK.out R4.out HNZ.out HS4.out K0.out HALL.out ht0 (zone_nil hz), hn3]
                  congr 1
                  exact propext ⟨fun h => by omega, fun h => by omega⟩
                have HV := Lib.hid hv
                clear hv hn3 hown3 hu3 hc2
                go_wp2_with fail
                go_ret
                rw [HV.out]
                exact ⟨rfl, HU3.out⟩
              · have hv : canSet s.said = false := canSet_zone s.said K0.out fun h => hz (nil_zone h)
                have HV := Lib.hid hv
                clear hv
                go_wp2_with fail
                go_ret
                rw [HV.out]
                exact ⟨rfl, HU2.out⟩
            · have ht0' : ¬ 0 < s.type := ht0
              have hv : canSet s.said = false := canSet_type s.said K0.out ht0
              have HV := Lib.hid hv
              have hdt : decide (0 < s.type) = false := decide_eq_false ht0
              clear hv ht0 ht0'
              go_wp2_with fail
              go_ret
              rw [HV.out]
              exact ⟨rfl, HU2.out⟩
        · have k0i : (s.kind == 0) = false := by simp [k0]
          have K0 := Lib.hid k0
          clear k0
          go_wp2_with fail
          refine (contains_func 57 _ (fun _ _ => rfl) _ s.dA s.dn s.dc s.rows _ B (HROWS.out.below ((Below.refl B w1).alloc hB1 _)) (by simp; omega) (entry_pred 6 (by decide) w1.heap.size s.rows _ (Blk.new _ _ _) (fun r hr => ((HROWS.out.each r hr).below ((Below.refl B w1).alloc hB1 _)).more (by simp; omega)))).mono ?_
          rintro e w2 ⟨rfl, hu2⟩
          have HU2 := Lib.hid (HU.out.trans (((Upd.refl Nix w1).alloc _).trans hu2 fun _ _ h => h) fun _ _ h => h)
          have HB2 := Lib.hid ((HB.out.alloc _).upd hu2 (by simp [Nix]))
          have HROWS2 := Lib.hid ((HROWS.out.below ((Below.refl B w1).alloc hB1 _)).below (hu2.belowNix (by simp; omega)))
          have hc2 : ∀ i, w2.cell? ⟨g, i, none⟩ = _ := fun i => HB2.out.cell i
          have hsz2 : w1.heap.size ≤ w2.heap.size := by have := hu2.size; simp at this; omega
          clear hu2 hc
          cases hany : s.rows.any (fun r => !rdataL 6 r.l) with
          | true =>
            have hall : (s.rows.map Row.l).all (fun d => rdataL 6 d) = false := by rw [all_rows, hany]; rfl
            have hv : canSet s.said = false := canSet_all s.said K0.out hall
            have HV := Lib.hid hv
            clear hv hall hany
            go_wp2_with fail
            go_ret
            rw [HV.out]
            exact ⟨rfl, HU2.out⟩
          | false =>
            have hall : (s.rows.map Row.l).all (fun d => rdataL 6 d) = true := by rw [all_rows, hany]; rfl
            have hs4 : sumL (s.rows.map Row.l) ≤ 4000 := sum_small hall (by rw [List.length_map, H.out.rows.len]; exact hds) HVV.out (by omega)
            have HALL := Lib.hid hall
            have HS4 := Lib.hid hs4
            clear hall hs4 hany
            by_cases k12 : s.kind = 1 ∨ s.kind = 2
            case neg =>
              have k1i : (s.kind == 1) = false := beq_eq_false_iff_ne.2 fun h => k12 (.inl h)
              have k2i : (s.kind == 2) = false := beq_eq_false_iff_ne.2 fun h => k12 (.inr h)
              have hv : canSet s.said = false := canSet_kind s.said K0.out k12
              have HV := Lib.hid hv
              clear hv k12
              go_wp2_with fail
              go_ret
              rw [HV.out]
              exact ⟨rfl, HU2.out⟩
            have K12 := Lib.hid k12
            have hzs := H.out.zone
            have hcan := fun W => name_can s.zone W hzs
            have HCAN := Lib.hid hcan
            clear hcan hzs
            rcases k12 with hk | hk
            · have k1i : (s.kind == 1) = true := by simp [hk]
              have k2i : (s.kind == 2) = false := by simp [hk]
              have HK2 := Lib.hid hk
              clear hk
              go_wp2_with fail
              refine (HCAN.out w2).mono ?_
              rintro e w4 ⟨rfl, hu4⟩
              have HU4 := Lib.hid (HU2.out.trans hu4 fun _ _ h => h)
              have HB4 := Lib.hid (HB2.out.upd hu4 (by simp [Nix]))
              have hc4 : ∀ i, w4.cell? ⟨g, i, none⟩ = _ := fun i => HB4.out.cell i
              have hsz4 : w2.heap.size ≤ w4.heap.size := hu4.size
              clear hu4 hc2
              cases hcz : canL (bytesOf s.zone) with
              | false =>
                have hv : canSet s.said = false := canSet_noname s.said K0.out K12.out hcz
                have HV := Lib.hid hv
                clear hv hcz
                go_wp2_with fail
                go_ret
                rw [HV.out]
                exact ⟨rfl, HU4.out⟩
              | true =>
                have hz255 : s.zone.size ≤ 255 := can_size hcz
                have HCZ := Lib.hid hcz
                clear hcz
                by_cases hd1 : s.dn = 1
                case neg =>
                  have hd1i : ((s.dn : Int) == 1) = false := beq_eq_false_iff_ne.2 (by omega)
                  have hv : canSet s.said = false := canSet_one s.said K0.out K12.out (by show ¬ (s.rows.map Row.l).length = 1; rw [List.length_map, H.out.rows.len]; exact hd1)
                  have HV := Lib.hid hv
                  clear hv
                  go_wp2_with fail
                  go_ret
                  rw [HV.out]
                  exact ⟨rfl, HU4.out⟩
                have hd1i : ((s.dn : Int) == 1) = true := beq_iff_eq.2 (by omega)
                have HD1 := Lib.hid hd1
                clear hd1
                by_cases ht : s.type = 0
                case pos =>
                  have hti : (s.type == 0) = true := by simp [ht]
                  have htk : ¬ decide (s.type = 0) = decide (s.kind = 2) := by rw [HK2.out]; simp [ht]
                  have HTK := Lib.hid htk
                  clear htk ht
                  have hv : canSet s.said = false := canSet_tk s.said K0.out K12.out HTK.out
                  have HV := Lib.hid hv
                  clear hv
                  go_wp2_with fail
                  go_ret
                  rw [HV.out]
                  exact ⟨rfl, HU4.out⟩
                have hti : (s.type == 0) = false := by simp [ht]
                have htk : decide (s.type = 0) = decide (s.kind = 2) := by rw [HK2.out]; simp [ht]
                have HTK := Lib.hid htk
                clear htk ht
                go_wp2_with fail
                refine (entry_write' s w4 B (H.out.below (HU4.out.belowNix hB)) (by omega) HK.out R4.out (by rw [HK2.out]; omega) hz255 HS4.out).mono ?_
                rintro e w3 ⟨A3, n3, c3, rfl, hown3, hu3⟩
                have hn3 : n3 = (writeL s.said).length := by have := hown3.1; simpa [byts] using this.symm
                have HU3 := Lib.hid (HU4.out.trans hu3 fun _ _ h => h)
                have hv : canSet s.said = decide ((n3 : Int) ≤ 4000) := by
                  rw [canSet_neg s.said HK.out R4.out HNZ.out HS4.out K0.out K12.out HALL.out HCZ.out (by show (s.rows.map Row.l).length = 1; rw [List.length_map, H.out.rows.len]; exact HD1.out) HTK.out, hn3]
                  congr 1
                  exact propext ⟨fun h => by omega, fun h => by omega⟩
                have HV := Lib.hid hv
                clear hv hn3 hown3 hu3 hc4
                go_wp2_with fail
                go_ret
                rw [HV.out]
                exact ⟨rfl, HU3.out⟩
            · have k1i : (s.kind == 1) = false := by simp [hk]
              have k2i : (s.kind == 2) = true := by simp [hk]
              have HK2 := Lib.hid hk
              clear hk
              go_wp2_with fail
              refine (HCAN.out w2).mono ?_
              rintro e w4 ⟨rfl, hu4⟩
              have HU4 := Lib.hid (HU2.out.trans hu4 fun _ _ h => h)
              have HB4 := Lib.hid (HB2.out.upd hu4 (by simp [Nix]))
              have hc4 : ∀ i, w4.cell? ⟨g, i, none⟩ = _ := fun i => HB4.out.cell i
              have hsz4 : w2.heap.size ≤ w4.heap.size := hu4.size
              clear hu4 hc2
              cases hcz : canL (bytesOf s.zone) with
              | false =>
                have hv : canSet s.said = false := canSet_noname s.said K0.out K12.out hcz
                have HV := Lib.hid hv
                clear hv hcz
                go_wp2_with fail
                go_ret
                rw [HV.out]
                exact ⟨rfl, HU4.out⟩
              | true =>
                have hz255 : s.zone.size ≤ 255 := can_size hcz
                have HCZ := Lib.hid hcz
                clear hcz
                by_cases hd1 : s.dn = 1
                case neg =>
                  have hd1i : ((s.dn : Int) == 1) = false := beq_eq_false_iff_ne.2 (by omega)
                  have hv : canSet s.said = false := canSet_one s.said K0.out K12.out (by show ¬ (s.rows.map Row.l).length = 1; rw [List.length_map, H.out.rows.len]; exact hd1)
                  have HV := Lib.hid hv
                  clear hv
                  go_wp2_with fail
                  go_ret
                  rw [HV.out]
                  exact ⟨rfl, HU4.out⟩
                have hd1i : ((s.dn : Int) == 1) = true := beq_iff_eq.2 (by omega)
                have HD1 := Lib.hid hd1
                clear hd1
                by_cases ht : s.type = 0
                case neg =>
                  have hti : (s.type == 0) = false := by simp [ht]
                  have htk : ¬ decide (s.type = 0) = decide (s.kind = 2) := by rw [HK2.out]; simp [ht]
                  have HTK := Lib.hid htk
                  clear htk ht
                  have hv : canSet s.said = false := canSet_tk s.said K0.out K12.out HTK.out
                  have HV := Lib.hid hv
                  clear hv
                  go_wp2_with fail
                  go_ret
                  rw [HV.out]
                  exact ⟨rfl, HU4.out⟩
                have hti : (s.type == 0) = true := by simp [ht]
                have htk : decide (s.type = 0) = decide (s.kind = 2) := by rw [HK2.out]; simp [ht]
                have HTK := Lib.hid htk
                clear htk ht
                go_wp2_with fail
                refine (entry_write' s w4 B (H.out.below (HU4.out.belowNix hB)) (by omega) HK.out R4.out (by rw [HK2.out]; omega) hz255 HS4.out).mono ?_
                rintro e w3 ⟨A3, n3, c3, rfl, hown3, hu3⟩
                have hn3 : n3 = (writeL s.said).length := by have := hown3.1; simpa [byts] using this.symm
                have HU3 := Lib.hid (HU4.out.trans hu3 fun _ _ h => h)
                have hv : canSet s.said = decide ((n3 : Int) ≤ 4000) := by
                  rw [canSet_neg s.said HK.out R4.out HNZ.out HS4.out K0.out K12.out HALL.out HCZ.out (by show (s.rows.map Row.l).length = 1; rw [List.length_map, H.out.rows.len]; exact HD1.out) HTK.out, hn3]
                  congr 1
                  exact propext ⟨fun h => by omega, fun h => by omega⟩
                have HV := Lib.hid hv
                clear hv hn3 hown3 hu3 hc4
                go_wp2_with fail
                go_ret
                rw [HV.out]
                exact ⟨rfl, HU3.out⟩
end Go.Proofs.Ytlhbikdelbollaa
