/- Names: the walks of next, Can, Lower. -/
import Derived.Test.YtlhbikdelbollaaNameL
import Derived.Deep.DeepCutAuto
import Derived.Deep.CutBlock
import Derived.ScopeJumps
import Derived.WalkMore
import Derived.Deep.QuietTactic
import Derived.BigQuiet
namespace Go.Proofs.Ytlhbikdelbollaa
open Go.RowKit Go.Cx Go.Maps

set_option maxRecDepth 100000 in
theorem index_str (s : ByteArray) (i b : Nat) (h : (bytesOf s)[i]? = some b) (W : World) : (Instr.index 9 (.string s) (.int .i64 i)).run Try.prog W = .ok (.int .u8 b) W := by
  have hi : i < s.size := by
    have := (List.getElem?_eq_some_iff.1 h).1
    rwa [bytesOf_len] at this
  have h1 := bytesOf_at s i hi
  rw [h] at h1
  injection h1 with h1
  rw [run_index_string (P := Try.prog) W 9 s .i64 i Try.underlying9, dif_pos ⟨by omega, by omega⟩]
  simp only [Int.toNat_natCast, h1]

/-- the first label, and what stands behind it -/
def NextIs (s : ByteArray) (e : Ending) : Prop :=
  (nextL (bytesOf s) = none ∧ e = .returned (.tuple #[.string ⟨#[]⟩, .string s, .bool false])) ∨
  ∃ k a r, nextL (bytesOf s) = some k ∧ bytesOf a = ((bytesOf s).drop 1).take (k - 1) ∧ bytesOf r = (bytesOf s).drop k ∧ e = .returned (.tuple #[.string a, .string r, .bool true])

set_option maxRecDepth 100000 in
set_option maxHeartbeats 3200000 in
theorem name_next (s : ByteArray) (w : World) (hs : s.size ≤ 140737488355328) :
    Calls Try.prog 68 #[.string s] w fun e w' => NextIs s e ∧ Upd Nix w w' := by
  have hlen := bytesOf_len s
  have HLN := Lib.hid hlen
  clear hlen
  go_enter Try.func68, Try.ntmps68
  obtain ⟨m, hm⟩ : ∃ m, s.size = m := ⟨_, rfl⟩
  have hlm : (bytesOf s).length = m := HLN.out.trans hm
  have HLM := Lib.hid hlm
  clear hlm
  rcases hl : bytesOf s with _ | ⟨k, t⟩
  · have h0 : (m : Int) = 0 := by have := HLM.out; rw [hl] at this; simp at this; omega
    have HL := Lib.hid hl
    clear hl
    go_wp2_with fail
    refine bodyPost_ret (results_tmp3 rfl _ _ _) rfl ?_
    exact ⟨.inl ⟨by rw [HL.out]; rfl, rfl⟩, Upd.refl _ _⟩
  · have hsz : m = t.length + 1 := by have := HLM.out; rw [hl] at this; simpa using this.symm
    have h0 : ((m : Int) == 0) = false := by rw [beq_eq_false_iff_ne]; omega
    have HSZ := Lib.hid hsz
    clear hsz
    have hix := index_str s 0 k (by rw [hl]; rfl)
    simp only [Int.natCast_zero] at hix
    have HL := Lib.hid hl
    clear hl
    have none_case : ∀ e : Ending, nextL (bytesOf s) = none → e = .returned (.tuple #[.string ⟨#[]⟩, .string s, .bool false]) → NextIs s e := fun e h1 h2 => .inl ⟨h1, h2⟩
    by_cases hk0 : k = 0
    · have hki : (k : Int) = 0 := by omega
      have hn : nextL (bytesOf s) = none := by rw [HL.out, nextL, if_pos (by omega)]
      have HN := Lib.hid hn
      clear hn hk0
      go_wp2_with fail
      refine bodyPost_ret (results_tmp3 rfl _ _ _) rfl ?_
      exact ⟨none_case _ HN.out rfl, Upd.refl _ _⟩
    · have hk0i : ((k : Int) == 0) = false := by rw [beq_eq_false_iff_ne]; omega
      by_cases hk63 : 63 < k
      · have hi63 : (63 : Int) < (k : Int) := by omega
        have hn : nextL (bytesOf s) = none := by rw [HL.out, nextL, if_pos (by omega)]
        have HN := Lib.hid hn
        clear hn
        go_wp2_with fail
        refine bodyPost_ret (results_tmp3 rfl _ _ _) rfl ?_
        exact ⟨none_case _ HN.out rfl, Upd.refl _ _⟩
      · have hi63 : ¬ (63 : Int) < (k : Int) := by omega
        have hsz := HSZ.out
        by_cases hkt : m < 2 + k
        · have hi : (m : Int) < 2 + (k : Int) := by omega
          have hn : nextL (bytesOf s) = none := by rw [HL.out, nextL, if_pos (by omega)]
          have HN := Lib.hid hn
          clear hn hsz hkt
          go_wp2_with fail
          refine bodyPost_ret (results_tmp3 rfl _ _ _) rfl ?_
          exact ⟨none_case _ HN.out rfl, Upd.refl _ _⟩
        · have hi : ¬ (m : Int) < 2 + (k : Int) := by omega
          have hn : nextL (bytesOf s) = some (1 + k) := by rw [HL.out, nextL, if_neg (by omega)]
          have HN := Lib.hid hn
          have hs1 : ∀ W, (Instr.slice 9 (.string s) (some (.int .i64 1)) (some (.int .i64 (1 + (k : Int)))) none).run Try.prog W = .ok (.string (s.extract 1 (1 + k))) W := by
            intro W
            rw [run_slice_string W 9 s .i64 .i64 1 (1 + (k : Int)) Try.underlying9 (by omega) (by omega) (by omega)]
            congr
          have hs2 : ∀ W, (Instr.slice 9 (.string s) (some (.int .i64 (1 + (k : Int)))) none none).run Try.prog W = .ok (.string (s.extract (1 + k) s.size)) W := by
            intro W
            rw [run_slice_string_from_if W 9 s .i64 (1 + (k : Int)) Try.underlying9, if_pos ⟨by omega, by omega⟩]
            congr
          clear hn hsz hkt
          go_wp2_with fail
          go_quiet (fail)
          go_wp2_with fail
          refine bodyPost_ret (results_tmp3 rfl _ _ _) rfl ?_
          refine ⟨.inr ⟨1 + k, _, _, HN.out, ?_, ?_, rfl⟩, (Upd.refl _ _).drewN _⟩
          · rw [bytesOf_extract]
          · rw [← hm]; exact bytesOf_from s (1 + k)
end Go.Proofs.Ytlhbikdelbollaa
