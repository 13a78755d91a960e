/- ciceroneref01.Can. -/
import Derived.Test.YtlhbikdelbollaaNegL
namespace Go.Proofs.Ytlhbikdelbollaa
open Go.RowKit Go.Cx Go.Maps

set_option maxRecDepth 100000 in
set_option maxHeartbeats 3200000 in
theorem ref_can (s : ByteArray) (w : World) (hs : s.size ≤ 140737488355328) :
    Calls Try.prog 46 #[.string s] w fun e w' => e = .returned (.bool (canL (bytesOf s))) ∧ w = w' := by
  obtain ⟨l, hl⟩ : ∃ l, bytesOf s = l := ⟨_, rfl⟩
  have hlen := bytesOf_len s
  rw [hl] at hlen ⊢
  have HL := Lib.hid hl
  have HLN := Lib.hid hlen
  clear hl hlen
  by_cases h255 : 255 < s.size
  · have hi : (255 : Int) < (s.size : Int) := by omega
    have hv := Lib.hid (canL_long (l := l) (by rw [HLN.out]; exact h255))
    go_enter Try.func46, Try.ntmps46
    go_wp2_with fail
    go_ret
    exact ⟨by rw [hv.out]; rfl, rfl⟩
  · have hi : ¬ (255 : Int) < (s.size : Int) := by omega
    go_enter Try.func46, Try.ntmps46
    go_wp2_with fail
    go_loopw [3] (fun s1 wr => w = wr ∧ ∃ a : Nat, a ≤ s.size + 64 ∧ s1 = .int .i64 a ∧ CanTo l a) (fun s1 _ => s.size - (intOf s1).toNat)
    case atStart => exact ⟨rfl, 0, by omega, rfl, CanTo.start l⟩
    case round =>
      obtain ⟨rfl, a, ha, rfl, hat⟩ := hrel
      have HAT := Lib.hid hat
      clear hat
      by_cases has : a < s.size
      · have hi2 : (a : Int) < (s.size : Int) := by omega
        obtain ⟨k, hk⟩ : ∃ k, l[a]? = some k := ⟨_, List.getElem?_eq_getElem (by rw [HLN.out]; exact has)⟩
        have hix := index_str s a k (by rw [HL.out]; exact hk)
        have hk256 : k < 256 := bytesOf_lt s k (by rw [HL.out]; exact List.mem_of_getElem? hk)
        have HK := Lib.hid hk
        clear hk
        by_cases hk0 : k = 0
        · have hki : ((k : Int) == 0) = true := by simp [hk0]
          have hv := HAT.out.fin (by rw [HK.out, hk0]) (by rw [HLN.out]; omega)
          rw [HLN.out] at hv
          have HV := Lib.hid hv
          clear hv hk0
          by_cases hend : a + 1 = s.size
          · have he : ((a : Int) == (s.size : Int) - 1) = true := by simp; omega
            go_wp2_with fail
            go_ret
            exact ⟨by rw [HV.out, decide_eq_true hend]; rfl, rfl⟩
          · have he : ((a : Int) == (s.size : Int) - 1) = false := by simp; omega
            go_wp2_with fail
            go_ret
            exact ⟨by rw [HV.out, decide_eq_false hend]; rfl, rfl⟩
        · have hki : ((k : Int) == 0) = false := by simp; omega
          by_cases h63 : 63 < k
          · have h63i : (63 : Int) < (k : Int) := by omega
            have HV := Lib.hid (canL_not (HAT.out.big HK.out h63))
            clear hk0
            go_wp2_with fail
            go_ret
            exact ⟨by rw [HV.out]; rfl, rfl⟩
          · have h63i : ¬ (63 : Int) < (k : Int) := by omega
            have HON := Lib.hid (HAT.out.on HK.out hk0 (by omega))
            clear hk0
            go_wp2_with fail
            refine ⟨⟨trivial, a + (1 + k), by omega, by rfl, HON.out⟩, ?_⟩
            simp only [intOf]; omega
      · have hi2 : ¬ (a : Int) < (s.size : Int) := by omega
        have HV := Lib.hid (canL_not (HAT.out.end (by rw [HLN.out]; omega)))
        go_wp2_with fail
        go_ret
        exact ⟨by rw [HV.out]; rfl, rfl⟩
end Go.Proofs.Ytlhbikdelbollaa
