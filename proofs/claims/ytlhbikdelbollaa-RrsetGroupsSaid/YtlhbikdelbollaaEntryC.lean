/- Entries: the walks of key, Can. -/
import Derived.Test.YtlhbikdelbollaaEntryB
import Derived.Outline
namespace Go.Proofs.Ytlhbikdelbollaa
open Go.RowKit Go.Cx Go.Maps

def SetV.agg (s : SetV) : Value := .agg #[.string s.name, .int .i64 s.type, .int .i64 s.cls, .int .i64 s.rank, .int .i64 s.kind, .int .i64 s.exp, .string s.zone, .slice s.dA s.dn s.dc]

set_option maxRecDepth 100000 in
set_option maxHeartbeats 3200000 in
theorem entry_key (s : SetV) (w : World) (hs : s.name.size ≤ 140737488355328) :
    Calls Try.prog 55 #[s.agg] w fun e w' => e = .returned (.bool (keyL (bytesOf s.name) s.type s.cls)) ∧ Upd Nix w w' := by
  unfold SetV.agg
  obtain ⟨name, t, c, rank, kind, exp, zone, dA, dn, dc, rows⟩ := s
  simp only at hs ⊢
  go_enter Try.func55, Try.ntmps55
  go_wp2_with fail
  have hb : Blk (w.alloc (.cells #[.string name, .int .i64 t, .int .i64 c, .int .i64 rank, .int .i64 kind, .int .i64 exp, .string zone, .slice dA dn dc] 28)) w.heap.size 28 #[.string name, .int .i64 t, .int .i64 c, .int .i64 rank, .int .i64 kind, .int .i64 exp, .string zone, .slice dA dn dc] := Blk.new w _ _
  have hu : Upd Nix w (w.alloc (.cells #[.string name, .int .i64 t, .int .i64 c, .int .i64 rank, .int .i64 kind, .int .i64 exp, .string zone, .slice dA dn dc] 28)) := (Upd.refl _ _).alloc _
  obtain ⟨g, hg⟩ : ∃ g, w.heap.size = g := ⟨_, rfl⟩
  rw [hg] at hb ⊢
  generalize (w.alloc (.cells #[.string name, .int .i64 t, .int .i64 c, .int .i64 rank, .int .i64 kind, .int .i64 exp, .string zone, .slice dA dn dc] 28)) = wa at *
  clear hg
  refine (name_can name wa hs).mono ?_
  rintro e w1 ⟨rfl, hu1⟩
  have hb1 := hb.upd hu1 (by simp [Nix])
  have HU := Lib.hid (hu.trans hu1 fun _ _ h => h)
  have hc : ∀ i, w1.cell? ⟨g, i, none⟩ = _ := fun i => hb1.cell i
  clear hb hb1 hu hu1
  have key : ∀ b, keyL (bytesOf name) t c = b → (∃ b', b' = b ∧ Upd Nix w w1) := fun b _ => ⟨b, rfl, HU.out⟩
  clear key
  cases hcan : canL (bytesOf name) with
  | false =>
    have hv : keyL (bytesOf name) t c = false := by unfold keyL; rw [hcan]; rfl
    have HV := Lib.hid hv
    clear hv hcan
    go_wp2_with fail
    go_ret
    rw [HV.out]
    exact ⟨rfl, HU.out⟩
  | true =>
    by_cases h1 : 0 ≤ t
    · by_cases h2 : t < 65536
      · by_cases h3 : 0 ≤ c
        · have hv : keyL (bytesOf name) t c = decide (c < 65536) := by unfold keyL; rw [hcan]; simp [h1, h2, h3]
          have HV := Lib.hid hv
          clear hv hcan
          go_wp2_with fail
          go_ret
          rw [HV.out]
          exact ⟨rfl, HU.out⟩
        · have hv : keyL (bytesOf name) t c = false := by unfold keyL; rw [hcan]; simp [h1, h2, h3]
          have HV := Lib.hid hv
          clear hv hcan
          have h3' : c < 0 := by omega
          go_wp2_with fail
          go_ret
          rw [HV.out]
          exact ⟨rfl, HU.out⟩
      · have hv : keyL (bytesOf name) t c = false := by unfold keyL; rw [hcan]; simp [h1, h2]
        have HV := Lib.hid hv
        clear hv hcan
        have h2' : 65536 ≤ t := by omega
        go_wp2_with fail
        go_ret
        rw [HV.out]
        exact ⟨rfl, HU.out⟩
    · have hv : keyL (bytesOf name) t c = false := by unfold keyL; rw [hcan]; simp [h1]
      have HV := Lib.hid hv
      clear hv hcan
      have h1' : t < 0 := by omega
      go_wp2_with fail
      go_ret
      rw [HV.out]
      exact ⟨rfl, HU.out⟩
end Go.Proofs.Ytlhbikdelbollaa
