/- ciceroneref08.Copy: a set in memory of its own. -/
import Derived.Test.YtlhbikdelbollaaOpenSet
namespace Go.Proofs.Ytlhbikdelbollaa
open Go.RowKit Go.Cx Go.Maps

/-- a set of the call's own, its data in rows of their own -/
structure SetOwn (base : Nat) (s : SetV) (w : World) : Prop where
  out : w.ownsRow base 33 1 (.slice s.dA s.dn s.dc) s.dn (s.rows.map Row.val)
  rows : ∀ r ∈ s.rows, OwnRow w base r

set_option maxRecDepth 100000 in
set_option maxHeartbeats 6400000 in
theorem ref_copy (s : SetV) (w : World) (h : SetAt w w.heap.size s) (hn : s.dn ≤ 2000000) :
    Calls Try.prog 20 #[s.agg] w fun e w' => ∃ (A' : Option Addr) (c' : Nat) (rows' : List Row), e = .returned (.agg #[.string s.name, .int .i64 s.type, .int .i64 s.cls, .int .i64 s.rank, .int .i64 s.kind, .int .i64 s.exp, .string s.zone, .slice A' s.dn c']) ∧
      NxAt w w A' s.dn c' rows' w' ∧ rows'.map Row.l = s.rows.map Row.l := by
  obtain ⟨i0, hi0, hz0, hz1, hz2⟩ := info_parts infoRow
  obtain ⟨i1, hi1, hy0, hy1, hy2⟩ := info_parts infoU8
  have H := Lib.hid h.rows
  clear h
  unfold SetV.agg
  go_enter Try.func20, Try.ntmps20
  go_wp2_with fail
  obtain ⟨g, hg⟩ : ∃ g, w.heap.size = g := ⟨_, rfl⟩
  have hb0 : Blk (w.alloc (.cells #[.string s.name, .int .i64 s.type, .int .i64 s.cls, .int .i64 s.rank, .int .i64 s.kind, .int .i64 s.exp, .string s.zone, .slice s.dA s.dn s.dc] 28)) g 28 #[.string s.name, .int .i64 s.type, .int .i64 s.cls, .int .i64 s.rank, .int .i64 s.kind, .int .i64 s.exp, .string s.zone, .slice s.dA s.dn s.dc] := Blk.new' _ _ _ hg.symm
  have hb1 := hb0.alloc (.cells #[.string ⟨#[]⟩, .int .i64 0, .int .i64 0, .int .i64 0, .int .i64 0, .int .i64 0, .string ⟨#[]⟩, .slice none 0 0] 28)
  have hb2 : Blk ((w.alloc (.cells #[.string s.name, .int .i64 s.type, .int .i64 s.cls, .int .i64 s.rank, .int .i64 s.kind, .int .i64 s.exp, .string s.zone, .slice s.dA s.dn s.dc] 28)).alloc (.cells #[.string ⟨#[]⟩, .int .i64 0, .int .i64 0, .int .i64 0, .int .i64 0, .int .i64 0, .string ⟨#[]⟩, .slice none 0 0] 28)) (g + 1) 28 #[.string ⟨#[]⟩, .int .i64 0, .int .i64 0, .int .i64 0, .int .i64 0, .int .i64 0, .string ⟨#[]⟩, .slice none 0 0] := Blk.new' _ _ _ (by simp [hg])
  have hu : Upd Nix w ((w.alloc (.cells #[.string s.name, .int .i64 s.type, .int .i64 s.cls, .int .i64 s.rank, .int .i64 s.kind, .int .i64 s.exp, .string s.zone, .slice s.dA s.dn s.dc] 28)).alloc (.cells #[.string ⟨#[]⟩, .int .i64 0, .int .i64 0, .int .i64 0, .int .i64 0, .int .i64 0, .string ⟨#[]⟩, .slice none 0 0] 28)) := ((Upd.refl _ _).alloc _).alloc _
  rw [hg]
  generalize ((w.alloc (.cells #[.string s.name, .int .i64 s.type, .int .i64 s.cls, .int .i64 s.rank, .int .i64 s.kind, .int .i64 s.exp, .string s.zone, .slice s.dA s.dn s.dc] 28)).alloc (.cells #[.string ⟨#[]⟩, .int .i64 0, .int .i64 0, .int .i64 0, .int .i64 0, .int .i64 0, .string ⟨#[]⟩, .slice none 0 0] 28)) = wa at *
  have HU := Lib.hid hu
  have HB1 := Lib.hid hb1
  have HB2 := Lib.hid hb2
  have HG := Lib.hid hg
  clear hu hb0 hb1 hb2 hg
  go_loopw [3, 9] (fun s3 s9 wr => ∃ (k : Nat) (A2 : Option Addr) (c2 : Nat) (nx : List Row), k ≤ s.dn ∧ s9 = .int .i64 k ∧ s3 = .slice A2 k c2 ∧ NxAt w w A2 k c2 nx wr ∧ nx.map Row.l = (s.rows.map Row.l).take k ∧
      Blk wr g 28 #[.string s.name, .int .i64 s.type, .int .i64 s.cls, .int .i64 s.rank, .int .i64 s.kind, .int .i64 s.exp, .string s.zone, .slice s.dA s.dn s.dc] ∧ Blk wr (g + 1) 28 #[.string ⟨#[]⟩, .int .i64 0, .int .i64 0, .int .i64 0, .int .i64 0, .int .i64 0, .string ⟨#[]⟩, .slice none 0 0]) (fun _ s9 _ => s.dn - (intOf s9).toNat)
  case atStart => exact ⟨0, none, 0, [], Nat.zero_le _, rfl, rfl, ⟨⟨rfl, .inl ⟨rfl, rfl⟩⟩, by simp, HU.out⟩, rfl, HB1.out, HB2.out⟩
  case round =>
    obtain ⟨k, A2, c2, nx, hk, rfl, rfl, hna, hst, hb1, hb2⟩ := hrel
    have hwr := hna.upd.size
    have HN := Lib.hid hna
    have HST := Lib.hid hst
    have HB := Lib.hid hb1
    have HB9 := Lib.hid hb2
    have hkm : k + 1 ≤ maxLen := by unfold maxLen; omega
    clear hna hst
    by_cases hkn : k < s.dn
    · have hki : (k : Int) < (s.dn : Int) := by omega
      have hrows := H.out.below (HN.out.upd.belowNix (Nat.le_refl _))
      obtain ⟨ad, r, hadB, hr, hmem, hcell, hidx⟩ := hrows.idx hkn
      have hsl := (hrows.each r hmem).more HN.out.upd.size
      have HSR := Lib.hid hsl
      have HRD := Lib.hid hsl.rd
      have HR := Lib.hid hr
      have hrn := hsl.len
      have hrm : 0 + r.n ≤ maxLen := by unfold maxLen; omega
      have hTT : 33 ≠ 28 := by decide
      clear hr hsl hrows hb1 hb2
      go_wp2_with (at_builtin; first | (refine wpList_app _ rfl (.tmp 14) (.tmp 15) 33 rfl wr.heap.size 5 i1 _ 1 1 Try.underlying33 hi1 hy0 hy1 hy2 rfl (by omega) (.slice (some ⟨wr.heap.size, 0, none⟩) 0 0) 0 [] rfl (World.ownsRow_lit wr #[] 0 (Nat.le_refl _) (by decide) rfl) wr.heap.size r.A r.n r.c (byts r.l) rfl (HRD.out.alloc (Nat.le_refl _) _) (by intro u hu; simp only [byts, List.mem_map] at hu; obtain ⟨b, _, rfl⟩ := hu; rfl) hrm (by omega) (by simp) ?_; intro A4 c4 w4 hown4 hg4 hat4; simp only [Nat.zero_add, List.nil_append] at hown4 hat4; try simp only [Nat.zero_add]; have hu4 : Upd Nix wr w4 := ((Upd.refl Nix wr).alloc _).grown hg4 fun b hb hl => (by simp only [Value.ownBlock, Option.some.injEq] at hb; omega); have HN4 := Lib.hid (HN.out.go hu4); have hs4 := hu4.size; have hnew : OwnRow w4 w.heap.size ⟨A4, r.n, c4, r.l⟩ := (⟨hown4, HSR.out.bytes, HSR.out.len⟩ : OwnRow w4 wr.heap.size ⟨A4, r.n, c4, r.l⟩).base' hwr; have HNEW := Lib.hid hnew; have HB4 := Lib.hid (HB.out.upd hu4 (by simp [Nix])); have HB94 := Lib.hid (HB9.out.upd hu4 (by simp [Nix])); clear hnew hu4 hown4 hat4 hg4) | (refine wpList_app _ rfl (.tmp 13) (.tmp 17) 26 rfl w.heap.size 33 i0 _ 1 24 Try.underlying26 hi0 hz0 hz1 hz2 rfl (by omega) (.slice A2 k c2) k (nx.map Row.val) rfl (HN4.out.own.alloc _) (w4.heap.size + 1) (some ⟨w4.heap.size, 0, none⟩) 1 1 [.slice A4 r.n c4] rfl (Rd.lit1 _ _ _) (by intro u hu; simp only [List.mem_singleton] at hu; subst hu; rfl) hkm (by omega) (by simp; omega) ?_; intro A5 c5 w5 hown5 hg5 hat5; have HN5 := Lib.hid (HN4.out.push HNEW.out hown5 hg5); have HB5 := Lib.hid ((HB4.out.alloc _).upd (upd_grown (v := .slice A2 k c2) hg5) (fun hS => own_ne_blk' HN4.out.own HB4.out hTT hS)); have HB95 := Lib.hid ((HB94.out.alloc _).upd (upd_grown (v := .slice A2 k c2) hg5) (fun hS => own_ne_blk' HN4.out.own HB94.out hTT hS)); clear hown5 hg5 hat5))
      refine ⟨⟨k + 1, A5, c5, nx ++ [⟨A4, r.n, c4, r.l⟩], by omega, by rfl, rfl, HN5.out, ?_, HB5.out, ?_⟩, ?_⟩
      · rw [List.map_append, HST.out, List.take_add_one, List.getElem?_map, HR.out]; rfl
      · exact HB95.out
      · simp only [intOf]; omega
    · have hki : ¬ (k : Int) < (s.dn : Int) := by omega
      have hke : k = s.dn := by omega
      have HKE := Lib.hid hke
      have hc : ∀ i, wr.cell? ⟨g, i, none⟩ = _ := fun i => hb1.cell i
      have hf : ∀ i, wr.frozen? ⟨g, i, none⟩ = _ := fun i => hb1.free i
      have hc9 : ∀ i, wr.cell? ⟨g + 1, i, none⟩ = _ := fun i => hb2.cell i
      have hf9 : ∀ i, wr.frozen? ⟨g + 1, i, none⟩ = _ := fun i => hb2.free i
      have hgl := hb1.lt
      have hgl9 := hb2.lt
      clear hke hb1 hb2
      go_wp2_with fail
      have hk1 : Upd (fun b => b = g ∨ b = g + 1) wr (((((((((wr.setCell ⟨g, 7, none⟩ (.slice A2 k c2)).setCell ⟨g + 1, 0, none⟩ (.string s.name)).setCell ⟨g + 1, 1, none⟩ (.int .i64 s.type)).setCell ⟨g + 1, 2, none⟩ (.int .i64 s.cls)).setCell ⟨g + 1, 3, none⟩ (.int .i64 s.rank)).setCell ⟨g + 1, 4, none⟩ (.int .i64 s.kind)).setCell ⟨g + 1, 5, none⟩ (.int .i64 s.exp)).setCell ⟨g + 1, 6, none⟩ (.string s.zone)).setCell ⟨g + 1, 7, none⟩ (.slice A2 k c2)) :=
        (((((((((Upd.refl (fun b => b = g ∨ b = g + 1) wr).set (.inl rfl) _).set (.inr rfl) _).set (.inr rfl) _).set (.inr rfl) _).set (.inr rfl) _).set (.inr rfl) _).set (.inr rfl) _).set (.inr rfl) _).set (.inr rfl) _
      have h9 := ((((((((HB9.out.far (p := ⟨g, 7, none⟩) (by simp) (.slice A2 k c2)).set 0 (.string s.name)).set 1 (.int .i64 s.type)).set 2 (.int .i64 s.cls)).set 3 (.int .i64 s.rank)).set 4 (.int .i64 s.kind)).set 5 (.int .i64 s.exp)).set 6 (.string s.zone)).set 7 (.slice A2 k c2)
      have hGe := HG.out
      generalize (((((((((wr.setCell ⟨g, 7, none⟩ (.slice A2 k c2)).setCell ⟨g + 1, 0, none⟩ (.string s.name)).setCell ⟨g + 1, 1, none⟩ (.int .i64 s.type)).setCell ⟨g + 1, 2, none⟩ (.int .i64 s.cls)).setCell ⟨g + 1, 3, none⟩ (.int .i64 s.rank)).setCell ⟨g + 1, 4, none⟩ (.int .i64 s.kind)).setCell ⟨g + 1, 5, none⟩ (.int .i64 s.exp)).setCell ⟨g + 1, 6, none⟩ (.string s.zone)).setCell ⟨g + 1, 7, none⟩ (.slice A2 k c2)) = wf at *
      have hcf : ∀ i, wf.cell? ⟨g + 1, i, none⟩ = _ := fun i => h9.cell i
      refine bodyPost_ret (v := .agg #[.string s.name, .int .i64 s.type, .int .i64 s.cls, .int .i64 s.rank, .int .i64 s.kind, .int .i64 s.exp, .string s.zone, .slice A2 k c2]) (by simp [results, Try.results20, go_sem, hcf]) rfl ?_
      have hN := HN.out
      have hST := HST.out
      rw [HKE.out] at hN hST
      rw [List.take_of_length_le (by rw [List.length_map, H.out.len]; omega)] at hST
      refine ⟨A2, c2, by rw [HKE.out], nx, ⟨own_upd' hN.own hk1 fun b hb hs => ?_, fun x hx => (hN.rows x hx).upd hk1 fun b hb hs => ?_, hN.upd.trans hk1 fun b hlt hs => ?_⟩, hST⟩
      · rcases hs with rfl | rfl
        · exact own_ne_blk' hN.own HB.out (by decide) hb
        · exact own_ne_blk' hN.own HB9.out (by decide) hb
      · rcases hs with rfl | rfl
        · exact own_ne_blk' (hN.rows x hx).own HB.out (by decide) hb
        · exact own_ne_blk' (hN.rows x hx).own HB9.out (by decide) hb
      · rcases hs with rfl | rfl <;> omega
end Go.Proofs.Ytlhbikdelbollaa
