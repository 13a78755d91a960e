/- Whole numbers below 2^52 as floats: what they read as, their order, sums. -/
import Derived.Laws.ComplexArith
import Derived.Laws.Cover3
namespace Go.Cx
open Go

/-- the bits of n -/
def fb (n : Nat) : Nat := floatOfInt .f64 (n : Int)
/-- the bits of n, reckoned -/
def fbs (n : Nat) : Nat := (n.log2 + 1022) * 2 ^ 52 + n * 2 ^ (52 - n.log2)

theorem log2_mul_pow (n k : Nat) (h0 : n ≠ 0) : (n * 2 ^ k).log2 = n.log2 + k := by
  have hp : n * 2 ^ k ≠ 0 := Nat.ne_of_gt (Nat.mul_pos (by omega) (Nat.two_pow_pos _))
  have h1 := Nat.log2_self_le h0
  have h2 := Nat.lt_log2_self (n := n)
  apply Nat.le_antisymm
  · have : (n * 2 ^ k).log2 < n.log2 + k + 1 := by
      rw [Nat.log2_lt hp]
      calc n * 2 ^ k < 2 ^ (n.log2 + 1) * 2 ^ k := Nat.mul_lt_mul_of_pos_right h2 (Nat.two_pow_pos _)
        _ = 2 ^ (n.log2 + k + 1) := by rw [← Nat.pow_add]; congr 1; omega
    omega
  · rw [Nat.le_log2 hp, Nat.pow_add]
    exact Nat.mul_le_mul_right _ h1

theorem mant_bounds (n : Nat) (h0 : n ≠ 0) (h : n.log2 ≤ 52) : 2 ^ 52 ≤ n * 2 ^ (52 - n.log2) ∧ n * 2 ^ (52 - n.log2) < 2 ^ 53 := by
  have h1 := Nat.log2_self_le h0
  have h2 := Nat.lt_log2_self (n := n)
  have e1 : (2 : Nat) ^ 52 = 2 ^ n.log2 * 2 ^ (52 - n.log2) := by rw [← Nat.pow_add]; congr 1; omega
  have e2 : (2 : Nat) ^ 53 = 2 ^ (n.log2 + 1) * 2 ^ (52 - n.log2) := by rw [← Nat.pow_add]; congr 1; omega
  rw [e1, e2]
  exact ⟨Nat.mul_le_mul_right _ h1, Nat.mul_lt_mul_of_pos_right h2 (Nat.two_pow_pos _)⟩

theorem cut_exact (way : Ieee.Toward) (hw : way = .even ∨ way = .zero) (m d : Nat) (hd : d ≤ (m * 2 ^ d).log2 + 2) : way.cut false (m * 2 ^ d) d = m := by
  unfold Ieee.Toward.cut
  have hp : 0 < 2 ^ d := Nat.two_pow_pos _
  have e1 : min d ((m * 2 ^ d).log2 + 2) = d := Nat.min_eq_left hd
  simp only [e1, Nat.shiftLeft_eq, Nat.one_mul, Nat.mul_mod_left, Nat.mul_div_cancel _ hp]
  rcases hw with rfl | rfl
  · have : (2 ^ d == (0 : Nat)) = false := by simp
    simp [this]
  · rfl

theorem nearest_exact (n k : Nat) (h0 : n ≠ 0) (h : n.log2 ≤ 52) : Ieee.double.nearest false (n * 2 ^ k) (-(k : Int)) = fbs n := by
  have hp : n * 2 ^ k ≠ 0 := Nat.ne_of_gt (Nat.mul_pos (by omega) (Nat.two_pow_pos _))
  have hlp : Ieee.double.leastPlace = -1074 := by decide
  have hfr : Ieee.double.fractionBits = 52 := rfl
  have hbin : Ieee.double.binade = 2 ^ 52 := rfl
  have hinf : Ieee.double.infRung = 2047 * 2 ^ 52 := by decide
  obtain ⟨b1, b2⟩ := mant_bounds n h0 h
  unfold Ieee.Format.nearest
  rw [if_neg hp, log2_mul_pow n k h0, hlp, hfr]
  have hlast : max (-(k : Int) + ((n.log2 + k : Nat) : Int) - ((52 : Nat) : Int)) (-1074) = (n.log2 : Int) - 52 := by omega
  simp only [hlast, hbin, hinf]
  have hm : ((n.log2 : Int) - 52 - -1074).toNat = n.log2 + 1022 := by omega
  rw [hm]
  have hk : Ieee.Toward.even.cut false ((n * 2 ^ k) <<< (-(k : Int) - ((n.log2 : Int) - 52)).toNat) ((n.log2 : Int) - 52 - -(k : Int)).toNat = n * 2 ^ (52 - n.log2) := by
    by_cases hc : k ≤ 52 - n.log2
    · have g1 : (-(k : Int) - ((n.log2 : Int) - 52)).toNat = 52 - n.log2 - k := by omega
      have g2 : ((n.log2 : Int) - 52 - -(k : Int)).toNat = 0 := by omega
      rw [g1, g2, Nat.shiftLeft_eq, Nat.mul_assoc, ← Nat.pow_add]
      have g3 : k + (52 - n.log2 - k) = 52 - n.log2 := by omega
      rw [g3]
      have := cut_exact .even (.inl rfl) (n * 2 ^ (52 - n.log2)) 0 (by omega)
      simpa using this
    · have g1 : (-(k : Int) - ((n.log2 : Int) - 52)).toNat = 0 := by omega
      have g2 : ((n.log2 : Int) - 52 - -(k : Int)).toNat = k - (52 - n.log2) := by omega
      rw [g1, g2, Nat.shiftLeft_zero]
      have g3 : n * 2 ^ k = n * 2 ^ (52 - n.log2) * 2 ^ (k - (52 - n.log2)) := by
        rw [Nat.mul_assoc, ← Nat.pow_add]; congr 2; omega
      have g4 := log2_mul_pow n k h0
      rw [g3] at g4 ⊢
      exact cut_exact .even (.inl rfl) _ _ (by omega)
  rw [hk]
  unfold Ieee.Format.word fbs
  simp only [Bool.false_eq_true, if_false]
  refine Nat.min_eq_left ?_
  omega

theorem fb_eq (n : Nat) (h0 : n ≠ 0) (h : n.log2 ≤ 52) : fb n = fbs n := by
  have := nearest_exact n 0 h0 h
  rw [← this]
  show Ieee.double.nearest (decide ((n : Int) < 0)) (n : Int).natAbs 0 = _
  have e1 : decide ((n : Int) < 0) = false := by simp
  rw [e1]
  simp

theorem fb_0 : fb 0 = 0 := by decide +kernel
theorem fb_1 : fb 1 = 4607182418800017408 := by decide +kernel
theorem fb_1000 : fb 1000 = 4652007308841189376 := by decide +kernel
theorem fb_8000 : fb 8000 = 4665518107723300864 := by decide +kernel
theorem read_0 : Ieee.double.read 0 = .number false 0 (-1074) := by decide +kernel

theorem read_fbs (n : Nat) (h0 : n ≠ 0) (h : n.log2 ≤ 52) : Ieee.double.read (fbs n) = .number false (n * 2 ^ (52 - n.log2)) ((n.log2 : Int) - 52) := by
  have hlp : Ieee.double.leastPlace = -1074 := by decide
  have hbin : Ieee.double.binade = 2 ^ 52 := rfl
  have hinf : Ieee.double.infRung = 2047 * 2 ^ 52 := by decide
  have hsw : Ieee.double.signWeight = 2048 * 2 ^ 52 := by decide
  obtain ⟨b1, b2⟩ := mant_bounds n h0 h
  have hb : fbs n < 2047 * 2 ^ 52 := by unfold fbs; omega
  have hlo : 2 ^ 52 ≤ fbs n := by unfold fbs; omega
  have hdiv : fbs n / 2 ^ 52 = n.log2 + 1023 := by unfold fbs; omega
  have hmod : fbs n % 2 ^ 52 = n * 2 ^ (52 - n.log2) - 2 ^ 52 := by unfold fbs; omega
  unfold Ieee.Format.read
  simp only [hbin, hinf, hsw, hlp]
  have e1 : fbs n / (2048 * 2 ^ 52) = 0 := Nat.div_eq_of_lt (by omega)
  have e2 : fbs n % (2048 * 2 ^ 52) = fbs n := Nat.mod_eq_of_lt (by omega)
  rw [e1, e2, if_neg (by omega), if_pos hb, hdiv, hmod]
  have e3 : 2 ^ 52 + (n * 2 ^ (52 - n.log2) - 2 ^ 52) = n * 2 ^ (52 - n.log2) := by omega
  have e4 : (-1074 : Int) + ((n.log2 + 1023 - 1 : Nat) : Int) = (n.log2 : Int) - 52 := by omega
  rw [e3, e4]
  rfl

theorem log2_small {n : Nat} (h : n ≤ 4503599627370496) : n.log2 ≤ 52 := by
  by_cases h0 : n = 0
  · subst h0; decide
  · have : n.log2 < 53 := by
      rw [Nat.log2_lt h0]
      omega
    omega

theorem zero_mant (k : Nat) : Ieee.Datum.number false 0 (-(k : Int)) = .number false (0 * 2 ^ k) (-(k : Int)) := by rw [Nat.zero_mul]
/-- what n's bits read as: n * 2^k at place -k -/
theorem read_fb {n : Nat} (h : n ≤ 4503599627370496) : ∃ k : Nat, k ≤ 1074 ∧ Ieee.double.read (fb n) = .number false (n * 2 ^ k) (-(k : Int)) := by
  by_cases h0 : n = 0
  · subst h0
    exact ⟨1074, Nat.le_refl _, by rw [fb_0, read_0]; exact zero_mant 1074⟩
  · have hl := log2_small h
    refine ⟨52 - n.log2, by omega, ?_⟩
    rw [fb_eq n h0 hl, read_fbs n h0 hl]
    congr 1
    omega

theorem nearest_fb (n k : Nat) (h : n ≤ 4503599627370496) : Ieee.double.nearest false (n * 2 ^ k) (-(k : Int)) = fb n := by
  by_cases h0 : n = 0
  · subst h0
    rw [fb_0, Nat.zero_mul]
    rfl
  · rw [nearest_exact n k h0 (log2_small h), fb_eq n h0 (log2_small h)]

theorem cmp_scale (a b k : Nat) (hk : 0 < k) : compare ((a * k : Nat) : Int) ((b * k : Nat) : Int) = compare a b := by
  rcases Nat.lt_trichotomy a b with h | h | h
  · have h1 : a * k < b * k := Nat.mul_lt_mul_of_pos_right h hk
    rw [Nat.compare_eq_lt.2 h]
    exact Int.compare_eq_lt.2 (by omega)
  · subst h
    rw [Nat.compare_eq_eq.2 rfl]
    exact Int.compare_eq_eq.2 rfl
  · have h1 : b * k < a * k := Nat.mul_lt_mul_of_pos_right h hk
    rw [Nat.compare_eq_gt.2 h]
    exact Int.compare_eq_gt.2 (by omega)

theorem order_fb {a b : Nat} (ha : a ≤ 4503599627370496) (hb : b ≤ 4503599627370496) : FloatKind.f64.format.order (fb a) (fb b) = some (compare a b) := by
  show Ieee.Datum.order (Ieee.double.read (fb a)) (Ieee.double.read (fb b)) = _
  obtain ⟨i, hi, ei⟩ := read_fb ha
  obtain ⟨j, hj, ej⟩ := read_fb hb
  rw [ei, ej]
  simp only [Ieee.Datum.order, Ieee.signed, Bool.false_eq_true, if_false, Nat.shiftLeft_eq, Nat.mul_assoc, ← Nat.pow_add]
  congr 1
  have k1 : i + (-(i : Int) - min (-(i : Int)) (-(j : Int))).toNat = max i j := by omega
  have k2 : j + (-(j : Int) - min (-(i : Int)) (-(j : Int))).toNat = max i j := by omega
  rw [k1, k2]
  exact cmp_scale a b _ (Nat.two_pow_pos _)

theorem add_fb {a b : Nat} (h : a + b ≤ 4503599627370496) : floatBits .add .f64 (fb a) (fb b) = some (fb (a + b)) := by
  show Option.map Ieee.double.write (Ieee.Datum.sum (Ieee.double.read (fb a)) (Ieee.double.read (fb b))) = _
  obtain ⟨i, hi, ei⟩ := read_fb (n := a) (by omega)
  obtain ⟨j, hj, ej⟩ := read_fb (n := b) (by omega)
  rw [ei, ej]
  have k1 : i + (-(i : Int) - min (-(i : Int)) (-(j : Int))).toNat = max i j := by omega
  have k2 : j + (-(j : Int) - min (-(i : Int)) (-(j : Int))).toNat = max i j := by omega
  have k3 : min (-(i : Int)) (-(j : Int)) = -((max i j : Nat) : Int) := by omega
  simp only [Ieee.Datum.sum, Ieee.signed, Bool.false_eq_true, if_false, Nat.shiftLeft_eq, Nat.mul_assoc, ← Nat.pow_add, k1, k2, Option.map_some]
  congr 1
  have e1 : ((a * 2 ^ max i j : Nat) : Int) + ((b * 2 ^ max i j : Nat) : Int) = (((a + b) * 2 ^ max i j : Nat) : Int) := by rw [Nat.add_mul]; omega
  rw [e1, Int.natAbs_natCast, k3]
  have e2 : (if (((a + b) * 2 ^ max i j : Nat) : Int) = 0 then (false && false) else decide ((((a + b) * 2 ^ max i j : Nat) : Int) < 0)) = false := by
    split
    · rfl
    · exact decide_eq_false (Int.not_lt.2 (Int.natCast_nonneg _))
  rw [e2]
  exact nearest_fb (a + b) _ h

theorem int_fb {n : Nat} (h : n ≤ 4503599627370496) : floatToIntVal .f64 (fb n) .i64 = some (n : Int) := by
  unfold floatToIntVal
  have e : (FloatKind.f64.decode (fb n)).toInt .zero = some (n : Int) := by
    show Ieee.Datum.toInt .zero (Ieee.double.read (fb n)) = _
    obtain ⟨k, hk, ek⟩ := read_fb h
    rw [ek]
    have g1 : (-(k : Int)).toNat = 0 := by omega
    have g2 : (- -(k : Int)).toNat = k := by omega
    simp only [Ieee.Datum.toInt, Ieee.Datum.integral, g1, g2, Nat.shiftLeft_zero]
    have g3 : Ieee.Toward.zero.cut false (n * 2 ^ k) k = n := by
      by_cases h0 : n = 0
      · subst h0
        rw [Nat.zero_mul]
        unfold Ieee.Toward.cut
        simp
      · refine cut_exact .zero (.inr rfl) n k ?_
        rw [log2_mul_pow n k h0]
        omega
    rw [g3]
    simp [Ieee.signed]
  rw [e]
  have h1 : IntKind.i64.min = -9223372036854775808 := by decide
  have h2 : IntKind.i64.max = 9223372036854775807 := by decide
  simp only [h1, h2]
  rw [if_pos (by omega)]

theorem fb_inj {a b : Nat} (ha : a ≤ 4503599627370496) (hb : b ≤ 4503599627370496) (h : fb a = fb b) : a = b := by
  have h1 := order_fb ha hb
  have h2 := order_fb hb hb
  rw [h] at h1
  rw [h1] at h2
  simp only [Option.some.injEq] at h2
  have : compare b b = .eq := Nat.compare_eq_eq.2 rfl
  rw [this] at h2
  exact Nat.compare_eq_eq.1 h2

/-- the complex number of two whole numbers -/
def cx (r f : Nat) : Value := .complex .f64 (fb r) (fb f)
end Go.Cx
