/- ciceroneref13: number, begins. -/
import Derived.Test.YtbiapeplkegjlaaGreatDoorHttpB
import Derived.Test.YtbiapeplkegjlaaGreatDoorParseR
namespace Go.Proofs.YtbiapeplkegjlaaGreatDoor
open Go.RowKit Go.Cx Go.Maps

def numZ (l : List Nat) : Int := match sizeL l with
  | some n => (n : Int)
  | none => -1
theorem valFrom_lt' : ∀ (k : Nat) (l : List Nat), l.all isDig = true → l.length = k → valFrom 0 l < 10 ^ k
  | 0, l, _, hk => by
    have := List.eq_nil_of_length_eq_zero hk
    subst this
    exact Nat.zero_lt_one
  | k + 1, l, h, hk => by
    rcases List.eq_nil_or_concat l with rfl | ⟨L, b, rfl⟩
    · cases hk
    · rw [List.concat_eq_append] at h hk ⊢
      rw [List.all_append, Bool.and_eq_true] at h
      rw [List.length_append, List.length_singleton] at hk
      have h1 := valFrom_lt' k L h.1 (by omega)
      have h2 : isDig b = true := by simpa using h.2
      rw [valFrom_append]
      simp only [isDig, Bool.and_eq_true, decide_eq_true_eq] at h2
      rw [Nat.pow_succ]
      omega
theorem valFrom_lt (l : List Nat) (k : Nat) (h : l.all isDig = true) (hk : l.length = k) : valFrom 0 l < 10 ^ k := valFrom_lt' k l h hk
set_option maxRecDepth 100000 in
set_option maxHeartbeats 3200000 in
theorem ref_number0 (s : ByteArray) (w : World) : Calls Tryz.prog 31 #[.string s] w fun e w' => e = .returned (.int .i64 (numZ (bytesOf s))) ∧ w = w' := by
  obtain ⟨l, hl⟩ : ∃ l, bytesOf s = l := ⟨_, rfl⟩
  have hlen := bytesOf_len s
  rw [hl] at hlen ⊢
  by_cases hb : 1 ≤ s.size ∧ s.size ≤ 5
  · obtain ⟨hb1, hb5⟩ := hb
    have hi1 : ¬ (s.size : Int) < 1 := by omega
    have hi2 : ¬ (5 : Int) < (s.size : Int) := by omega
    have HL := Lib.hid hl
    have HLN := Lib.hid hlen
    clear hl hlen
    go_enter Tryz.func31, Tryz.ntmps31
    go_wp2_with fail
    go_loopw [3, 4] (fun s3 s4 wr => w = wr ∧ ∃ k : Nat, k ≤ s.size ∧ s4 = .int .i64 (k : Nat) ∧ s3 = .int .i64 (valFrom 0 (l.take k) : Nat) ∧ (l.take k).all isDig = true) (fun _ s4 _ => s.size - (intOf s4).toNat)
    case atStart => exact ⟨rfl, 0, Nat.zero_le _, rfl, rfl, rfl⟩
    case round =>
      obtain ⟨rfl, k, hk, rfl, rfl, hall⟩ := hrel
      by_cases hks : k < s.size
      · have hi3 : (k : Int) < (s.size : Int) := by omega
        have hkl : k < l.length := by rw [HLN.out]; exact hks
        obtain ⟨b, hb⟩ : ∃ b, l[k]? = some b := ⟨_, List.getElem?_eq_getElem hkl⟩
        have hix : ∀ W, (Instr.index 9 (.string s) (.int .i64 k)).run Tryz.prog W = .ok (.int .u8 b) W := by
          intro W
          have h1 := bytesOf_at s k hks
          rw [HL.out, hb] at h1
          injection h1 with h1
          rw [run_index_string (P := Tryz.prog) W 9 s .i64 k Tryz.underlying9, dif_pos ⟨by omega, by omega⟩]
          simp only [Int.toNat_natCast, h1]
        have hts : l.take (k + 1) = l.take k ++ [b] := by rw [List.take_add_one, hb]; rfl
        have hb256 : b < 256 := by
          have := bytesOf_lt s b (by rw [HL.out]; exact List.mem_of_getElem? hb)
          exact this
        by_cases hd : isDig b = true
        · have hd2 : 48 ≤ b ∧ b ≤ 57 := by simpa [isDig] using hd
          have hj1 : ¬ (b : Int) < 48 := by omega
          have hj2 : ¬ (57 : Int) < (b : Int) := by omega
          have hj3 : (b : Int) - 48 = ((b - 48 : Nat) : Int) := by omega
          have hv := valFrom_lt (l.take k) k hall (by rw [List.length_take]; omega)
          have hp : (10 : Nat) ^ k ≤ 100000 := Nat.le_trans (Nat.pow_le_pow_right (by omega) (show k ≤ 5 by omega)) (by decide)
          have hv2 : valFrom 0 (l.take k) ≤ 100000 := by omega
          have hall2 : (l.take (k + 1)).all isDig = true := by rw [hts, List.all_append, hall]; simp [hd]
          have hval2 : valFrom 0 (l.take (k + 1)) = valFrom 0 (l.take k) * 10 + (b - 48) := by rw [hts, valFrom_append]
          have HALL2 := Lib.hid hall2
          have HVAL2 := Lib.hid hval2
          obtain ⟨V, hV⟩ : ∃ V, valFrom 0 (l.take k) = V := ⟨_, rfl⟩
          rw [hV] at hv2 HVAL2 ⊢
          clear hb hts hall hd hall2 hval2 hv hp hj3 hV
          go_wp2_with fail
          refine ⟨⟨trivial, k + 1, by omega, by rfl, ?_, HALL2.out⟩, ?_⟩
          · rw [HVAL2.out]
            congr 1
            omega
          · simp only [intOf]; omega
        · have hnd : b < 48 ∨ (48 ≤ b ∧ 57 < b) := by
            have : ¬ (48 ≤ b ∧ b ≤ 57) := by simpa [isDig] using hd
            omega
          have hnone : numZ l = -1 := by
            unfold numZ sizeL
            rw [if_neg]
            rintro ⟨_, _, h, _⟩
            exact hd (List.all_eq_true.1 h b (List.mem_of_getElem? hb))
          have HN := Lib.hid hnone
          clear hb hts hall hd hnone
          rcases hnd with h | ⟨h, h'⟩
          · have hj1 : (b : Int) < 48 := by omega
            go_wp2_with fail
            go_ret
            exact ⟨by rw [HN.out]; rfl, rfl⟩
          · have hj1 : ¬ (b : Int) < 48 := by omega
            have hj2 : (57 : Int) < (b : Int) := by omega
            go_wp2_with fail
            go_ret
            exact ⟨by rw [HN.out]; rfl, rfl⟩
      · have hi3 : ¬ (k : Int) < (s.size : Int) := by omega
        rw [List.take_of_length_le (by rw [HLN.out]; omega)] at hall ⊢
        have hv : numZ l = if valFrom 0 l ≤ 65535 then (valFrom 0 l : Int) else -1 := by
          unfold numZ sizeL
          by_cases h : valFrom 0 l ≤ 65535
          · rw [if_pos ⟨by rw [HLN.out]; omega, by rw [HLN.out]; omega, hall, h⟩, if_pos h]
          · rw [if_neg (fun h' => h h'.2.2.2), if_neg h]
        have hvl := valFrom_lt l s.size hall HLN.out
        obtain ⟨V, hV⟩ : ∃ V, valFrom 0 l = V := ⟨_, rfl⟩
        rw [hV] at hv ⊢
        have HV := Lib.hid hv
        clear hv hall hV hvl
        by_cases h : V ≤ 65535
        · have hj : ¬ (65535 : Int) < (V : Int) := by omega
          go_wp2_with fail
          go_ret
          exact ⟨by rw [HV.out, if_pos h]; rfl, rfl⟩
        · have hj : (65535 : Int) < (V : Int) := by omega
          go_wp2_with fail
          go_ret
          exact ⟨by rw [HV.out, if_neg h]; rfl, rfl⟩
  · have hnone : numZ l = -1 := by
      unfold numZ sizeL
      rw [if_neg]
      rintro ⟨h1, h2, _⟩
      rw [hlen] at h1 h2
      exact hb ⟨h1, h2⟩
    have HN := Lib.hid hnone
    clear hl hlen hnone
    by_cases h1 : s.size < 1
    · have hi1 : (s.size : Int) < 1 := by omega
      clear hb
      go_enter Tryz.func31, Tryz.ntmps31
      go_wp2_with fail
      go_ret
      exact ⟨by rw [HN.out]; rfl, rfl⟩
    · have hi1 : ¬ (s.size : Int) < 1 := by omega
      have hi2 : (5 : Int) < (s.size : Int) := by omega
      clear hb
      go_enter Tryz.func31, Tryz.ntmps31
      go_wp2_with fail
      go_ret
      exact ⟨by rw [HN.out]; rfl, rfl⟩
theorem ref_number (s : ByteArray) (w : World) (_hs : s.size ≤ 140737488355328) : Calls Tryz.prog 31 #[.string s] w fun e w' => e = .returned (.int .i64 (numZ (bytesOf s))) ∧ w = w' := ref_number0 s w
theorem ret_bool {a b : Bool} (h : a = b) : Ending.returned (.bool a) = .returned (.bool b) := by rw [h]
def begB (a b : List Nat) : Bool := decide (a <+: b ∨ b <+: a)
end Go.Proofs.YtbiapeplkegjlaaGreatDoor
