/- ciceroneplain.Spoil of one row of the call's own: it stays one of bytes. -/
import Derived.Test.YtlhbikdelbollaaRecords
namespace Go.Proofs.Ytlhbikdelbollaa
open Go.RowKit Go.Cx Go.Maps

/-- a row of bytes of the call's own, whatever they are -/
def RowU (w : World) (base : Nat) (r : Row) : Prop := ∃ l, w.ownsRow base 5 1 (.slice r.A r.n r.c) r.n (byts l) ∧ ∀ b ∈ l, b < 256
theorem RowU.of {w : World} {base : Nat} {r : Row} (h : OwnRow w base r) : RowU w base r := ⟨r.l, h.own, h.bytes⟩
theorem RowU.upd {w w' : World} {base : Nat} {r : Row} {S : Nat → Prop} (h : RowU w base r) (k : Upd S w w') (hn : ∀ b, (Value.slice r.A r.n r.c).ownBlock = some b → ¬ S b) : RowU w' base r := by
  obtain ⟨l, h1, h2⟩ := h
  exact ⟨l, own_upd' h1 k hn, h2⟩
theorem RowU.store {w : World} {base g i y : Nat} {r : Row} (h : RowU w base r) (hy : y < 256) : RowU (w.setCell ⟨g, i, none⟩ (.int .u8 (y : Nat))) base r := by
  obtain ⟨l, ⟨h1, h2⟩, h3⟩ := h
  rcases h2 with ⟨hv, h0⟩ | ⟨g', cap, cur, hv, hb, hh, hnc, hm, hs, hx⟩
  · exact ⟨l, ⟨h1, .inl ⟨hv, h0⟩⟩, h3⟩
  · by_cases hg : g' = g
    · subst hg
      have hb' := Blk.set (w := w) (g := g') (t := 5) (cs := cur) hh i (.int .u8 (y : Nat))
      refine ⟨l.set i y, ⟨by simpa [byts] using h1, .inr ⟨g', cap, _, hv, hb, hb', hnc, hm, by simpa using hs, ?_⟩⟩, fun b hb => ?_⟩
      · rw [Array.toList_setIfInBounds, List.take_set, hx]
        simp [byts, List.map_set]
      · rcases List.mem_or_eq_of_mem_set hb with h | h
        · exact h3 b h
        · subst h; exact hy
    · exact ⟨l, ⟨h1, .inr ⟨g', cap, cur, hv, hb, (Below.heap_setCell w ⟨g, i, none⟩ _ g' hg).trans hh, hnc, hm, hs, hx⟩⟩, h3⟩
theorem xor_all : (List.range 256).all (fun x => decide (bits .xor .u8 (x : Int) 255 = ((255 - x : Nat) : Int))) = true := by decide +kernel
theorem xor_255 (x : Nat) (h : x < 256) : bits .xor .u8 (x : Int) 255 = ((255 - x : Nat) : Int) := by
  have := List.all_eq_true.1 xor_all x (List.mem_range.2 h)
  simpa using this
def SpoilIs (r : Row) (w : World) (e : Ending) (w' : World) : Prop :=
  e = .returned (.tuple #[]) ∧ Upd (Own (.slice r.A r.n r.c)) w w' ∧ ∀ b r', RowU w b r' → RowU w' b r'
set_option maxRecDepth 100000 in
set_option maxHeartbeats 3200000 in
theorem spoil_one (r : Row) (h base : Nat) (w : World) (hc : w.cell? ⟨h, 0, none⟩ = some (.slice r.A r.n r.c)) (hr : RowU w base r) (hn : r.n ≤ 140737488355328) :
    Calls Try.prog 16 #[.slice (some ⟨h, 0, none⟩) 1 1] w (SpoilIs r w) := by
  obtain ⟨A, n, c, l0⟩ := r
  simp only at hc hn
  have HR := Lib.hid hr
  clear hr
  go_enter Try.func16, Try.ntmps16
  go_wp2_with fail
  go_loopw [7] (fun s7 wr => (s7 = .int .i64 0 ∧ w = wr) ∨ (s7 = .int .i64 1 ∧ Upd (Own (.slice A n c)) w wr ∧ ∀ b r', RowU w b r' → RowU wr b r')) (fun s7 _ => 1 - (intOf s7).toNat)
  case atStart => exact .inl ⟨rfl, rfl⟩
  case round =>
    rcases hrel with ⟨rfl, rfl⟩ | ⟨rfl, hu, hk⟩
    · go_wp2_with fail
      go_loopw [13] (fun s13 wi => ∃ i : Nat, i ≤ n ∧ s13 = .int .i64 (i : Nat) ∧ Upd (Own (.slice A n c)) w wi ∧ ∀ b r', RowU w b r' → RowU wi b r') (fun s13 _ => n - (intOf s13).toNat)
      case atStart => exact ⟨0, by omega, rfl, Upd.refl _ _, fun _ _ h => h⟩
      case round =>
        obtain ⟨i, hi, rfl, hu, hk⟩ := hrel
        have HU := Lib.hid hu
        have HK := Lib.hid hk
        clear hu hk
        by_cases hin : i < n
        · have hii : (i : Int) < (n : Int) := by omega
          obtain ⟨l, hown, hb⟩ := HK.out base _ HR.out
          rcases hown.2 with ⟨hv, h0⟩ | ⟨g, cap, cur, hv, hgb, hh, _⟩
          · simp only at h0
            omega
          · simp only at hv
            injection hv with e1 e2 e3
            subst e1
            obtain ⟨ad, hA, hlt, hcell⟩ := (Rd.own hown).2 (by show 0 < n; omega)
            injection hA with hA
            subst hA
            have hll : l.length = n := by have := hown.1; simpa [byts] using this
            have hc1 : wr.cell? ⟨g, i, none⟩ = some (.int .u8 (l[i] : Nat)) := by
              have h1 := hcell i (.int .u8 (l[i] : Nat)) (by rw [byts, List.getElem?_map, List.getElem?_eq_getElem (by omega)]; rfl)
              have hadd : (⟨g, 0, none⟩ : Addr).add i = ⟨g, i, none⟩ := by unfold Addr.add; split <;> simp_all
              rwa [hadd] at h1
            have hf1 : wr.frozen? ⟨g, i, none⟩ = false := Blk.free (t := 5) (cs := cur) hh i
            have hx := hb l[i] (List.getElem_mem _)
            obtain ⟨x, hxx⟩ : ∃ x, l[i] = x := ⟨_, rfl⟩
            rw [hxx] at hc1 hx
            have hxo := xor_255 x hx
            clear hown hh hcell hll hxx hb hlt
            go_wp2_with fail
            refine ⟨⟨i + 1, by omega, by rfl, ?_, ?_⟩, ?_⟩
            · exact HU.out.set (by rfl) _
            · intro b r' h'
              exact (HK.out b r' h').store (by omega)
            · simp only [intOf]; omega
        · have hii : ¬ (i : Int) < (n : Int) := by omega
          go_wp2_with fail
          exact ⟨.inr ⟨by rfl, HU.out, HK.out⟩, by simp only [intOf]; omega⟩
    · have HU := Lib.hid hu
      have HK := Lib.hid hk
      clear hu hk
      go_wp2_with fail
      exact bodyPost_ret (v := .tuple #[]) (by simp [results, Try.results16, go_sem]) rfl ⟨rfl, HU.out, HK.out⟩
end Go.Proofs.Ytlhbikdelbollaa
