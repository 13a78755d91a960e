/- Names: the walks of Can, Lower. -/
import Derived.Test.YtlhbikdelbollaaNameA
import Derived.Test.YtlhbikdelbollaaRowAt
namespace Go.Proofs.Ytlhbikdelbollaa
open Go.RowKit Go.Cx Go.Maps

def strSize : Value → Nat
  | .string r => r.size
  | _ => 0
theorem root_eq (r : ByteArray) : (r.toList == [0]) = decide (bytesOf r = [0]) := by
  have h1 : ∀ (x : ByteArray), x.toList = x.data.toList := fun x => Lib.toList_data x
  by_cases h : bytesOf r = [0]
  · have : r = ⟨#[0]⟩ := bytesOf_inj (by rw [h]; rfl)
    rw [decide_eq_true h, this, h1]
    simp
  · rw [decide_eq_false h]
    have : r.toList ≠ [0] := fun e => h (by
      rw [h1] at e
      unfold bytesOf
      rw [e]
      rfl)
    simpa using this

set_option maxRecDepth 100000 in
set_option maxHeartbeats 3200000 in
theorem name_can (s : ByteArray) (w : World) (hs : s.size ≤ 140737488355328) :
    Calls Try.prog 52 #[.string s] w fun e w' => e = .returned (.bool (canL (bytesOf s))) ∧ Upd Nix w w' := by
  have hlen := bytesOf_len s
  obtain ⟨l, hl⟩ : ∃ l, bytesOf s = l := ⟨_, rfl⟩
  rw [hl] at hlen
  rw [hl]
  have HL := Lib.hid hl
  have HLN := Lib.hid hlen
  clear hl hlen
  go_enter Try.func52, Try.ntmps52
  go_wp2_with fail
  refine wp_scope_straight ?_
  go_wp2_with fail
  go_step3
  rename_i hK
  refine hK _ _ ?_
  clear hK
  go_wp2_with fail
  go_loopw [3] (fun s3 wr => Upd Nix w wr ∧ ∃ r : ByteArray, s3 = .string r ∧ restL (bytesOf r) = restL l ∧ r.size ≤ s.size) (fun s3 _ => strSize s3)
  case atStart => exact ⟨Upd.refl _ _, s, rfl, by rw [HL.out], Nat.le_refl _⟩
  case round =>
    obtain ⟨hu, r, rfl, hr, hrs⟩ := hrel
    have HU := Lib.hid hu
    have HR := Lib.hid hr
    clear hu hr
    go_wp2_with fail
    refine (name_next r wr (by omega)).mono ?_
    rintro e w1 ⟨⟨hn, rfl⟩ | ⟨k, a, r', hn, ha, hr', rfl⟩, hu1⟩
    · have hu2 := HU.out.trans hu1 fun _ _ h => h
      have hb : bytesOf r = restL l := by rw [← HR.out, restL_none hn]
      have HU2 := Lib.hid hu2
      have HB := Lib.hid hb
      clear hu1 hu2 hn hb
      have heq := root_eq r
      rw [HB.out] at heq
      by_cases h0 : restL l = [0]
      · rw [decide_eq_true h0] at heq
        by_cases h255 : s.size ≤ 255
        · have hi : (s.size : Int) ≤ 255 := by omega
          have hc : canL l = true := by unfold canL; rw [decide_eq_true h0, decide_eq_true (by rw [HLN.out]; exact h255)]; rfl
          have HC := Lib.hid hc
          clear hc h0
          go_wp2_with fail
          rw [Exit.noGoto_ret]
          go_ret
          rw [HC.out]
          exact ⟨rfl, HU2.out⟩
        · have hi : decide ((s.size : Int) ≤ 255) = false := decide_eq_false (by omega)
          have hc : canL l = false := by unfold canL; rw [decide_eq_false (p := l.length ≤ 255) (by rw [HLN.out]; exact h255), Bool.and_false]
          have HC := Lib.hid hc
          clear hc h0
          go_wp2_with fail
          rw [Exit.noGoto_ret]
          go_ret
          rw [HC.out]
          exact ⟨rfl, HU2.out⟩
      · rw [decide_eq_false h0] at heq
        have hc : canL l = false := by unfold canL; rw [decide_eq_false h0]; rfl
        have HC := Lib.hid hc
        clear hc h0
        go_wp2_with fail
        rw [Exit.noGoto_ret]
        go_ret
        rw [HC.out]
        exact ⟨rfl, HU2.out⟩
    · have hu2 := HU.out.trans hu1 fun _ _ h => h
      have hb : restL (bytesOf r') = restL l := by rw [hr', ← restL_some hn, HR.out]
      have hpos := nextL_pos hn
      rw [bytesOf_len] at hpos
      have hsz : r'.size + k = r.size := by
        rw [← bytesOf_len r', hr', List.length_drop, bytesOf_len]
        omega
      have HU2 := Lib.hid hu2
      have HB := Lib.hid hb
      clear hu1 hu2 hn hb ha hr'
      go_wp2_with fail
      refine ⟨⟨HU2.out, r', rfl, HB.out, by omega⟩, ?_⟩
      show r'.size < r.size
      omega

theorem or32 {c : Nat} (h1 : 65 ≤ c) (h2 : c ≤ 90) : bits .or .u8 (c : Int) 32 = ((c + 32 : Nat) : Int) := by
  have : ∀ i : Fin 26, bits .or .u8 ((65 + i.val : Nat) : Int) 32 = ((65 + i.val + 32 : Nat) : Int) := by decide +kernel
  have h := this ⟨c - 65, by omega⟩
  simp only at h
  rwa [show 65 + (c - 65) = c by omega] at h
/-- the first k bytes are small -/
def lowTo (l : List Nat) (k : Nat) : List Nat := (l.take k).map lowC ++ l.drop k
theorem lowTo_at {l : List Nat} {k : Nat} {c : Nat} (h : l[k]? = some c) : (lowTo l k)[k]? = some c := by
  have hk := (List.getElem?_eq_some_iff.1 h).1
  unfold lowTo
  rw [List.getElem?_append_right (by simp; omega)]
  simp only [List.length_map, List.length_take, List.getElem?_drop]
  rw [show k + (k - min k l.length) = k by omega]
  exact h
theorem lowTo_step {l : List Nat} {k : Nat} {c : Nat} (h : l[k]? = some c) : (lowTo l k).set k (lowC c) = lowTo l (k + 1) := by
  have hk := (List.getElem?_eq_some_iff.1 h).1
  unfold lowTo
  rw [List.set_append_right _ _ (by simp; omega)]
  have h1 : k - ((l.take k).map lowC).length = 0 := by simp; omega
  rw [h1, List.take_add_one, h, List.map_append, List.append_assoc]
  congr 1
  rw [List.drop_eq_getElem_cons hk]
  have : l[k] = c := by
    rw [List.getElem?_eq_getElem hk] at h
    injection h
  simp [this]
theorem lowTo_skip {l : List Nat} {k : Nat} {c : Nat} (h : l[k]? = some c) (hc : lowC c = c) : lowTo l (k + 1) = lowTo l k := by
  rw [← lowTo_step h, hc]
  have := lowTo_at h
  exact List.ext_getElem? fun i => by
    rw [List.getElem?_set]
    split
    · rename_i hi
      subst hi
      rw [if_pos (List.getElem?_eq_some_iff.1 this).1, this]
    · rfl
theorem lowTo_all {l : List Nat} {k : Nat} (h : l.length ≤ k) : lowTo l k = l.map lowC := by
  unfold lowTo
  rw [List.take_of_length_le h, List.drop_of_length_le h, List.append_nil]

set_option maxRecDepth 100000 in
set_option maxHeartbeats 3200000 in
theorem name_lower (s : ByteArray) (w : World) (hs : s.size ≤ 140737488355328) :
    Calls Try.prog 54 #[.string s] w fun e w' => (∃ r : ByteArray, e = .returned (.string r) ∧ bytesOf r = lowerL (bytesOf s)) ∧ Upd Nix w w' := by
  have kc := fun (w : World) (s : ByteArray) => Lib.run_convert_string_bytes (P := Try.prog) w 9 33 5 s Try.underlying9 Try.underlying33 Try.underlying5
  obtain ⟨l, hl⟩ : ∃ l, bytesOf s = l := ⟨_, rfl⟩
  have hlen := bytesOf_len s
  rw [hl] at hlen
  have hlb := bytesOf_lt s
  rw [hl] at hlb
  have HL := Lib.hid hl
  have HLN := Lib.hid hlen
  have HLB := Lib.hid hlb
  rw [hl]
  clear hl hlen hlb
  go_enter Try.func54, Try.ntmps54
  go_wp2_with fail
  refine (name_can s w hs).mono ?_
  rw [HL.out]
  rintro e w1 ⟨rfl, hu1⟩
  have HU1 := Lib.hid hu1
  clear hu1
  cases hc : canL l with
  | false =>
    have hv : lowerL l = [] := by unfold lowerL; rw [hc]; rfl
    have HV := Lib.hid hv
    clear hv hc
    go_wp2_with fail
    go_ret
    exact ⟨⟨_, rfl, by rw [HV.out]; rfl⟩, HU1.out⟩
  | true =>
    have hv : lowerL l = l.map lowC := by unfold lowerL; rw [hc]; rfl
    have HV := Lib.hid hv
    clear hv hc
    go_wp2_with fail
    obtain ⟨g, hg⟩ : ∃ g, w1.heap.size = g := ⟨_, rfl⟩
    have hrow := RowAt.str w1 s
    have hbl := below_str w1 5 s (Nat.le_refl _)
    rw [hg] at hrow hbl
    rw [HL.out] at hrow
    have HROW := Lib.hid hrow
    have HBL := Lib.hid hbl
    clear hrow hbl
    rw [hg]
    obtain ⟨W0, hW0⟩ : ∃ W0, Lib.bytesWorld w1 5 s = W0 := ⟨_, rfl⟩
    rw [hW0] at HROW HBL ⊢
    clear hW0
    generalize grownCap w1 s.size 0 5 = cp
    go_loopw [13] (fun s13 wr => ∃ k : Nat, k ≤ s.size ∧ s13 = .int .i64 k ∧ RowAt wr g s.size (lowTo l k) ∧ Below g w1 wr) (fun s13 _ => s.size - (intOf s13).toNat)
    case atStart => exact ⟨0, Nat.zero_le _, rfl, by unfold lowTo; simpa using HROW.out, HBL.out⟩
    case round =>
      obtain ⟨k, hk, rfl, hrow, hbl⟩ := hrel
      have HR := Lib.hid hrow
      have HB := Lib.hid hbl
      clear hrow hbl
      by_cases hkn : k < s.size
      · have hki : (k : Int) < (s.size : Int) := by omega
        obtain ⟨c, hc⟩ : ∃ c, l[k]? = some c := ⟨_, List.getElem?_eq_getElem (by have := HLN.out; omega)⟩
        have hcell := HR.out.cell (lowTo_at hc)
        have hfree := HR.out.free hkn
        have hc256 := HLB.out c (List.mem_of_getElem? hc)
        have HC := Lib.hid hc
        clear hc
        by_cases h65 : 65 ≤ c
        · have h65i : (65 : Int) ≤ (c : Int) := by omega
          by_cases h90 : c ≤ 90
          · have h90i : (c : Int) ≤ 90 := by omega
            have hor := or32 h65 h90
            have hset := HR.out.set (i := k) (c + 32)
            rw [show c + 32 = lowC c by unfold lowC; rw [if_pos ⟨h65, h90⟩], lowTo_step HC.out] at hset
            have HSET := Lib.hid hset
            have HOR := Lib.hid hor
            clear hset hor
            go_wp2_with fail
            rw [HOR.out, show c + 32 = lowC c by unfold lowC; rw [if_pos ⟨h65, h90⟩]]
            refine ⟨⟨k + 1, by omega, by rfl, HSET.out, HB.out.setCell (Nat.le_refl _) _⟩, ?_⟩
            simp only [intOf]
            omega
          · have h90i : decide ((c : Int) ≤ 90) = false := decide_eq_false (by omega)
            have hlc : lowC c = c := by unfold lowC; rw [if_neg (by omega)]
            have HLC := Lib.hid hlc
            clear hlc
            go_wp2_with fail
            refine ⟨⟨k + 1, by omega, by rfl, by rw [lowTo_skip HC.out HLC.out]; exact HR.out, HB.out⟩, ?_⟩
            simp only [intOf]
            omega
        · have h65i : decide ((65 : Int) ≤ (c : Int)) = false := decide_eq_false (by omega)
          have hlc : lowC c = c := by unfold lowC; rw [if_neg (by omega)]
          have HLC := Lib.hid hlc
          clear hlc
          go_wp2_with fail
          refine ⟨⟨k + 1, by omega, by rfl, by rw [lowTo_skip HC.out HLC.out]; exact HR.out, HB.out⟩, ?_⟩
          simp only [intOf]
          omega
      · have hkn' : k = s.size := by omega
        have hki : ¬ (k : Int) < (s.size : Int) := by omega
        have hall : lowTo l k = l.map lowC := lowTo_all (by have := HLN.out; omega)
        have hr := HR.out
        rw [hall] at hr
        have k1 := run_conv wr hr.rd cp
        have hres : bytesOf (strN (l.map lowC)) = lowerL l := by
          rw [HV.out]
          refine bytesOf_strN fun b hb => ?_
          obtain ⟨c, hc, rfl⟩ := List.mem_map.1 hb
          exact lowC_lt (HLB.out c hc)
        have hu : Upd Nix w wr := HU1.out.trans (Upd.of_below' (hg ▸ HB.out)) fun _ _ h => h
        have HRES := Lib.hid hres
        have HUU := Lib.hid hu
        clear hr hall hres hu hkn'
        go_wp2_with fail
        go_ret
        exact ⟨⟨_, rfl, HRES.out⟩, HUU.out⟩
end Go.Proofs.Ytlhbikdelbollaa
