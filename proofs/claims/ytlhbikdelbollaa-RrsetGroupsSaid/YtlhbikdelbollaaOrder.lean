/- rrset.Order. -/
import Derived.Test.YtlhbikdelbollaaCompact
import Derived.Shelf.SlSortCmp.NoneTotal

namespace Go.Proofs.Ytlhbikdelbollaa
open Go.RowKit Go.Cx

/-- the same data in order, each once -/
def Ordered (a l : List (List Nat)) : Prop := a.Pairwise (fun x y => cmpN x y < 0) ∧ ∀ d, d ∈ a ↔ d ∈ l
/-- a row of bytes of the call's own -/
structure OwnRow (w : World) (base : Nat) (r : Row) : Prop where
  own : w.ownsRow base 5 1 (.slice r.A r.n r.c) r.n (byts r.l)
  bytes : ∀ b ∈ r.l, b < 256
  small : r.n ≤ 140737488355328
section
variable {w w' : World} {base : Nat} {r : Row}
theorem OwnRow.sl (h : OwnRow w base r) : Sl w w.heap.size r.A r.n r.c r.l := ⟨own_cap h.own, h.small, Rd.own h.own, h.bytes⟩
theorem OwnRow.upd {S : Nat → Prop} (h : OwnRow w base r) (k : Upd S w w') (hS : ∀ b, (Value.slice r.A r.n r.c).ownBlock = some b → ¬ S b) : OwnRow w' base r := ⟨own_upd' h.own k hS, h.bytes, h.small⟩
theorem OwnRow.ne {g : Nat} {e : TypeId} {cur : Array Value} (h : OwnRow w base r) (hg : w.heap[g]? = some (.cells cur e (0, 0))) (he : e ≠ 5) (ad : Addr) (ha : r.A = some ad) : ad.block ≠ g := by
  rcases h.own.2 with ⟨hv, _⟩ | ⟨g', cap, cur', hv, hb, hg', _⟩
  · injection hv with e1
    rw [ha] at e1
    cases e1
  · injection hv with e1
    rw [ha] at e1
    injection e1 with e1
    subst e1
    rintro rfl
    rw [hg] at hg'
    injection hg' with hg'
    injection hg' with _ e2
    exact he e2
theorem OwnRow.base' {b' : Nat} (h : OwnRow w base r) (hb : b' ≤ base) : OwnRow w b' r := by
  refine ⟨⟨h.own.1, ?_⟩, h.bytes, h.small⟩
  rcases h.own.2 with h | ⟨g, cap, cur, hv, hb2, r⟩
  · exact .inl h
  · exact .inr ⟨g, cap, cur, hv, Nat.le_trans hb hb2, r⟩
end

set_option maxRecDepth 100000 in
set_option maxHeartbeats 800000 in
theorem compact_nil (A : Option Addr) (c : Nat) (w : World) : Calls Try.prog 48 #[.slice A 0 c, .func (.func 49) #[] #[]] w fun e w' => e = .returned (.slice A 0 c) ∧ w = w' := by
  go_enter Try.func48, Try.ntmps48
  go_wp2_with fail
  go_ret
  exact ⟨rfl, rfl⟩
theorem sort_nil (A : Option Addr) (c : Nat) (w : World) : Calls Try.prog 47 #[.slice A 0 c, .func (.func 27) #[] #[]] w fun e w' => e = .returned (.tuple #[]) ∧ w = w' := by
  have h := AnyF.slices_SortFunc_none (P := Try.prog) (ρ := Try.sortL_ren) { Try.sortL with } A c (.func (.func 27) #[] #[]) w
  change Calls Try.prog 47 _ _ _ at h
  exact h.mono fun _ _ ⟨h1, h2⟩ => ⟨h1, h2.symm⟩

theorem infoRow : (Try.prog.info? 33).map (fun i => (i.zero, i.size, i.bytes)) = some (some (.slice none 0 0), 1, 24) := by kernel_rfl

set_option maxRecDepth 100000 in
set_option maxHeartbeats 3200000 in
theorem rrset_order (A : Option Addr) (n c : Nat) (rows : List Row) (w : World) (B : Nat) (h : RowsAt w B A n c rows) (hB : B ≤ w.heap.size) (hn : n ≤ 1000000) :
    Calls Try.prog 24 #[.slice A n c] w fun e w' => ∃ (A' : Option Addr) (n' c' : Nat) (rows' : List Row), e = .returned (.slice A' n' c') ∧ w'.ownsRow w.heap.size 33 1 (.slice A' n' c') n' (rows'.map Row.val) ∧
      Ordered (rows'.map Row.l) (rows.map Row.l) ∧ (∀ r ∈ rows', OwnRow w' w.heap.size r) ∧ Upd Nix w w' := by
  obtain ⟨i0, hi0, hz0, hz1, hz2⟩ := info_parts infoRow
  have H := Lib.hid h
  clear h
  go_enter Try.func24, Try.ntmps24
  go_wp2_with fail
  go_loopw [3, 8] (fun s3 s8 wr => ∃ (k : Nat) (A1 : Option Addr) (c1 : Nat) (done : List Row), k ≤ n ∧ s8 = .int .i64 k ∧ s3 = .slice A1 k c1 ∧ wr.ownsRow w.heap.size 33 1 (.slice A1 k c1) k (done.map Row.val) ∧
      done.map Row.l = (rows.map Row.l).take k ∧ (∀ r ∈ done, OwnRow wr w.heap.size r) ∧ Upd Nix w wr) (fun _ s8 _ => n - (intOf s8).toNat)
  case atStart => exact ⟨0, none, 0, [], Nat.zero_le _, rfl, rfl, ⟨rfl, .inl ⟨rfl, rfl⟩⟩, rfl, by simp, Upd.refl _ _⟩
  case round =>
    obtain ⟨k, A1, c1, done, hk, rfl, rfl, hown, hdone, hrows, hu⟩ := hrel
    have HO := Lib.hid hown
    have HD := Lib.hid hdone
    have HR := Lib.hid hrows
    have HU := Lib.hid hu
    clear hown hdone hrows hu
    by_cases hkn : k < n
    · have hki : (k : Int) < (n : Int) := by omega
      have hrows := H.out.below (HU.out.belowNix hB)
      obtain ⟨ad, r, hadB, hr, hmem, hcell, hidx⟩ := hrows.idx hkn
      have hsl := hrows.each r hmem
      have hsn := hsl.len
      have HSL := Lib.hid hsl
      have HRr := Lib.hid hr
      clear hr hsl hrows
      go_wp2_with fail
      refine (bytes_clone wr B r.A r.n r.c r.l HSL.out.rd (Nat.le_trans hB HU.out.size) hsn).mono ?_
      rintro e w1 ⟨A2, c2, rfl, hown2, hnil2, hge2, hu1⟩
      have hnew : OwnRow w1 w.heap.size ⟨A2, r.n, c2, r.l⟩ := (⟨hown2, HSL.out.bytes, hsn⟩ : OwnRow w1 wr.heap.size ⟨A2, r.n, c2, r.l⟩).base' HU.out.size
      have hold : ∀ x ∈ done, OwnRow w1 w.heap.size x := fun x hx => (HR.out x hx).upd hu1 fun _ _ h => h
      have hout := own_upd' HO.out hu1 fun _ _ h => h
      have hu2 := HU.out.trans hu1 fun _ _ h => h
      have HNEW := Lib.hid hnew
      have HOLD := Lib.hid hold
      have HOUT := Lib.hid hout
      have HU2 := Lib.hid hu2
      have hsz := hu2.size
      have hkm : k + 1 ≤ maxLen := by unfold maxLen; omega
      clear hnew hold hout hu2 hown2 hnil2 hge2 hu1 hcell hidx
      go_wp2_with (at_builtin; refine wpList_app _ rfl (.tmp 12) (.tmp 15) 26 rfl w.heap.size 33 i0 _ 1 24 Try.underlying26 hi0 hz0 hz1 hz2 rfl (by omega) (.slice A1 k c1) k (done.map Row.val) rfl (HOUT.out.alloc _) (w1.heap.size + 1) (some ⟨w1.heap.size, 0, none⟩) 1 1 [.slice A2 r.n c2] rfl (Rd.lit1 _ _ _) (by intro u hu; simp only [List.mem_singleton] at hu; subst hu; rfl) hkm (by omega) (by simp; omega) ?_; intro A3 c3 w3 hown3 hg3 hat3)
      have hfar : ∀ x : Row, OwnRow w1 w.heap.size x → OwnRow w3 w.heap.size x := fun x hx => by
        have h1 : OwnRow (w1.alloc (.cells #[.slice A2 r.n c2] 33)) w.heap.size x := hx.upd ((Upd.refl Nix _).alloc _) fun _ _ h => h
        refine h1.upd ((Upd.refl (Own (.slice A1 k c1)) _).grown hg3 fun b hb _ => hb) fun b hb hS => ?_
        exact own_ne_own h1.own (HOUT.out.alloc _) (by decide) b hb hS
      refine ⟨⟨k + 1, A3, c3, done ++ [⟨A2, r.n, c2, r.l⟩], by omega, by rfl, rfl, ?_, ?_, ?_, ?_⟩, ?_⟩
      · rw [List.map_append]
        exact hown3
      · rw [List.map_append, HD.out, List.take_add_one, List.getElem?_map, HRr.out]
        rfl
      · intro x hx
        rcases List.mem_append.1 hx with hx | hx
        · exact hfar x (HOLD.out x hx)
        · simp only [List.mem_singleton] at hx
          subst hx
          exact hfar _ HNEW.out
      · refine (HU2.out.alloc _).grown hg3 fun b hb hlt => ?_
        have := own_ge HOUT.out b hb
        omega
      · simp only [intOf]; omega
    · have hki : ¬ (k : Int) < (n : Int) := by omega
      have hke : k = n := by omega
      subst hke
      rw [List.take_of_length_le (by rw [List.length_map, H.out.len]; exact Nat.le_refl _)] at HD
      go_wp2_with fail
      by_cases h0 : k = 0
      · subst h0
        refine (sort_nil A1 c1 wr).mono ?_
        rintro e w2 ⟨rfl, rfl⟩
        go_wp2_with fail
        refine (compact_nil A1 c1 wr).mono ?_
        rintro e w2 ⟨rfl, rfl⟩
        go_wp2_with fail
        go_ret
        have hd0 : done = [] := List.map_eq_nil_iff.1 (HD.out.trans (by rw [List.map_eq_nil_iff]; exact List.eq_nil_of_length_eq_zero H.out.len))
        have hr0 : rows = [] := List.eq_nil_of_length_eq_zero H.out.len
        refine ⟨A1, 0, c1, [], rfl, ?_, ?_, by simp, HU.out⟩
        · have := HO.out
          rwa [hd0] at this
        · rw [hr0]
          exact ⟨List.Pairwise.nil, by simp⟩
      · obtain ⟨g, rfl⟩ : ∃ g, A1 = some ⟨g, 0, none⟩ := by
          rcases HO.out.2 with ⟨hv, h⟩ | ⟨g, cap, cur, hv, _⟩
          · exact absurd h h0
          · injection hv with e1
            exact ⟨g, e1⟩
        obtain ⟨hblk, _, _, hgb, _⟩ := RowBlk.of HO.out
        obtain ⟨cur, hcur, _⟩ := hblk
        have hok : ∀ r ∈ done, RowOk wr g r := fun r hr => ⟨(HR.out r hr).sl, fun ad ha => (HR.out r hr).ne hcur (by decide) ad ha⟩
        refine (sort_rows wr g k c1 w.heap.size done HO.out hok (by omega) (by omega)).mono ?_
        rintro e w2 ⟨rfl, rows2, hperm, hsort, hown2, hu2⟩
        have hR2 : ∀ r ∈ rows2, OwnRow w2 w.heap.size r := fun r hr => by
          have hr' := HR.out r (hperm.mem_iff.1 hr)
          refine hr'.upd hu2 fun b hb hS => ?_
          have hS' : b = g := hS
          subst hS'
          cases hA : r.A with
          | none => rw [hA] at hb; cases hb
          | some ad =>
            rw [hA] at hb
            simp only [Value.ownBlock, Option.some.injEq] at hb
            exact hr'.ne hcur (by decide) ad hA hb
        have HP := Lib.hid hperm
        have HS := Lib.hid hsort
        have HO2 := Lib.hid hown2
        have HR2 := Lib.hid hR2
        have HU2 := Lib.hid (HU.out.trans (S := Nix) hu2 fun b hb hS => by
          have hS' : b = g := hS
          omega)
        clear hperm hsort hown2 hR2 hu2 hok hcur
        go_wp2_with fail
        obtain ⟨hblk, _, _, _, _⟩ := RowBlk.of HO2.out
        obtain ⟨cur2, hcur2, _⟩ := hblk
        have hok : ∀ r ∈ rows2, RowOk w2 g r := fun r hr => ⟨(HR2.out r hr).sl, fun ad ha => (HR2.out r hr).ne hcur2 (by decide) ad ha⟩
        refine (compact_rows w2 g k c1 w.heap.size rows2 HO2.out hok (by omega)).mono ?_
        rintro e w3 ⟨rfl, hown3, hu3⟩
        have hR3 : ∀ r ∈ compL rows2, OwnRow w3 w.heap.size r := fun r hr => by
          have hr' := HR2.out r (compL_sub rows2 r hr)
          refine hr'.upd hu3 fun b hb hS => ?_
          have hS' : b = g := hS
          subst hS'
          cases hA : r.A with
          | none => rw [hA] at hb; cases hb
          | some ad =>
            rw [hA] at hb
            simp only [Value.ownBlock, Option.some.injEq] at hb
            exact hr'.ne hcur2 (by decide) ad hA hb
        have HO3 := Lib.hid hown3
        have HR3 := Lib.hid hR3
        have HU3 := Lib.hid (HU2.out.trans (S := Nix) hu3 fun b hb hS => by
          have hS' : b = g := hS
          omega)
        clear hown3 hR3 hu3 hok hcur2
        go_wp2_with fail
        go_ret
        refine ⟨_, _, c1, compL rows2, rfl, HO3.out, ⟨?_, fun d => ?_⟩, HR3.out, HU3.out⟩
        · rw [List.pairwise_map]
          exact compL_sorted rows2 (HS.out.imp fun h => by omega)
        · rw [← HD.out]
          constructor
          · intro hd
            obtain ⟨r, hr, rfl⟩ := List.mem_map.1 hd
            exact List.mem_map.2 ⟨r, HP.out.mem_iff.1 (compL_sub rows2 r hr), rfl⟩
          · intro hd
            obtain ⟨r, hr, rfl⟩ := List.mem_map.1 hd
            obtain ⟨y, hy, e⟩ := compL_mem rows2 r (HP.out.mem_iff.2 hr)
            exact List.mem_map.2 ⟨y, hy, e⟩
end Go.Proofs.Ytlhbikdelbollaa
