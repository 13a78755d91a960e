/- The laws of chapter 9: awake. -/
import Derived.Test.YtlhbikdelbollaaGroup
namespace Go.Proofs.Ytlhbikdelbollaa
open Go.RowKit Go.Cx Go.Maps

def awakeRR (b : Nat) : RRV := ⟨⟨#[0]⟩, 1, 1, 5, ⟨some ⟨b, 0, none⟩, 4, 4, [1, 2, 3, 4]⟩⟩
theorem awake_sets (b : Nat) : ∃ s : SetC, setsOf 1 7 (byL [awakeRR b]) = [s] ∧ s.exp = 12 := by
  have h0 : canL [0] = true := by
    unfold canL
    rw [restL_none rfl]
    rfl
  have hm : mayL (awakeRR b).said = true := by
    show (canL [0] && decide ((0 : Int) < 1) && decide ((1 : Int) < 65536) && decide ((0 : Int) ≤ 1) && decide ((1 : Int) < 65536) && rdataL 1 [1, 2, 3, 4]) = true
    rw [h0]
    decide
  have hb : byL [awakeRR b] = [(keyOfRR (awakeRR b), [awakeRR b])] := by
    unfold byL byAdd
    simp [hm]
  rw [hb]
  refine ⟨⟨[0], 1, 1, 1, 0, 12, [], [[1, 2, 3, 4]]⟩, ?_, rfl⟩
  have hs : setOf 1 7 [(awakeRR b).said] = ⟨[0], 1, 1, 1, 0, 12, [], [[1, 2, 3, 4]]⟩ := rfl
  have hc : canSet ⟨[0], 1, 1, 1, 0, 12, [], [[1, 2, 3, 4]]⟩ = true := by
    unfold canSet keyL
    simp only [h0]
    decide
  unfold setsOf
  simp only [List.map_cons, List.map_nil]
  rw [hs, List.filter_cons, hc]
  rfl

set_option maxRecDepth 100000 in
set_option maxHeartbeats 1600000 in
theorem law_awake (w : World) : Calls Try.prog 12 #[] w fun e w' => e = .returned (.bool true) ∧ Upd Nix w w' := by
  go_enter Try.func12, Try.ntmps12
  go_wp2_with fail
  have hb0 : Blk (w.alloc (.cells #[.int .u8 1, .int .u8 2, .int .u8 3, .int .u8 4] 5)) w.heap.size 5 #[.int .u8 1, .int .u8 2, .int .u8 3, .int .u8 4] := Blk.new w _ _
  have hb1 : Blk ((w.alloc (.cells #[.int .u8 1, .int .u8 2, .int .u8 3, .int .u8 4] 5)).alloc (.cells (awakeRR w.heap.size).cells.toArray 35)) (w.heap.size + 1) 35 (awakeRR w.heap.size).cells.toArray := Blk.new' _ _ _ (by simp)
  have hb2 := hb0.alloc (.cells (awakeRR w.heap.size).cells.toArray 35)
  have hu : Upd Nix w ((w.alloc (.cells #[.int .u8 1, .int .u8 2, .int .u8 3, .int .u8 4] 5)).alloc (.cells (awakeRR w.heap.size).cells.toArray 35)) := ((Upd.refl _ _).alloc _).alloc _
  unfold awakeRR RRV.cells at hb1 hb2 hu
  simp only at hb1 hb2 hu
  have hat : RRsAt ((w.alloc (.cells #[.int .u8 1, .int .u8 2, .int .u8 3, .int .u8 4] 5)).alloc (.cells [Value.string ⟨#[0]⟩, .int .i64 1, .int .i64 1, .int .i64 5, .slice (some ⟨w.heap.size, 0, none⟩) 4 4].toArray 35)) (w.heap.size + 2) (some ⟨w.heap.size + 1, 0, none⟩) 1 1 [awakeRR w.heap.size] := by
    refine ⟨rfl, Nat.le_refl _, by omega, ⟨rfl, fun _ => ⟨_, rfl, by simp only; omega, fun j u hu => ?_⟩⟩, fun r hr => ?_⟩
    · have hadd : (⟨w.heap.size + 1, 0, none⟩ : Addr).add j = ⟨w.heap.size + 1, j, none⟩ := by unfold Addr.add; split <;> simp_all
      rw [hadd, hb1.cell, List.getElem?_toArray]
      simpa [awakeRR, RRV.cells] using hu
    · simp only [List.mem_singleton] at hr
      subst hr
      refine ⟨(by decide : (Lit.int .i64 1).wf = true), (by decide : (Lit.int .i64 1).wf = true), (by decide : (Lit.int .i64 5).wf = true), (by decide : (1 : Nat) ≤ _), ⟨Nat.le_refl _, (by decide : (4 : Nat) ≤ _), ⟨rfl, fun _ => ⟨_, rfl, (by show w.heap.size < w.heap.size + 2; omega), fun j u hu => ?_⟩⟩, (by decide : ∀ b ∈ [1, 2, 3, 4], b < 256)⟩⟩
      have hadd : (⟨w.heap.size, 0, none⟩ : Addr).add j = ⟨w.heap.size, j, none⟩ := by unfold Addr.add; split <;> simp_all
      rw [hadd, hb2.cell]
      simpa [awakeRR, byts] using hu
  have hcall := rrset_group (some ⟨w.heap.size + 1, 0, none⟩) 1 1 [awakeRR w.heap.size] 1 7 (by decide) _ (w.heap.size + 2) hat (by simp) (by omega)
  refine hcall.mono ?_
  rintro e w2 ⟨A2, c2, ss, rfl, hS, hsaid, hu2⟩
  obtain ⟨sc, hsets, hexp⟩ := awake_sets w.heap.size
  rw [hsets] at hsaid
  obtain ⟨s, rfl⟩ : ∃ s, ss = [s] := by
    match ss, hsaid with
    | [s], _ => exact ⟨s, rfl⟩
    | [], h => simp at h
    | _ :: _ :: _, h => simp at h
  have hse : s.exp = 12 := by
    simp only [List.map_cons, List.map_nil, List.cons.injEq, and_true] at hsaid
    rw [← hexp, ← hsaid]
    rfl
  have hHU := Lib.hid (hu.trans hu2 fun _ _ h => h)
  obtain ⟨go, rfl⟩ : ∃ go, A2 = some ⟨go, 0, none⟩ := by
    rcases hS.out.2 with ⟨hv, h0⟩ | ⟨go, cap, cur, hv, _⟩
    · simp at h0
    · injection hv with e1
      exact ⟨go, e1⟩
  have hc5 : w2.cell? ⟨go, 5, none⟩ = some (.int .i64 12) := by
    obtain ⟨ad, hA, hB, hc⟩ := (Rd.own hS.out).2 (by simp)
    injection hA with hA
    subst hA
    have := hc 5 (.int .i64 s.exp) rfl
    rw [hse] at this
    exact this
  clear hb0 hb1 hb2 hu hat hcall hS hsaid hu2 hsets hexp hse
  simp only [List.length_cons, List.length_nil, Nat.zero_add]
  go_wp2_with fail
  go_ret
  exact ⟨rfl, hHU.out⟩
end Go.Proofs.Ytlhbikdelbollaa
