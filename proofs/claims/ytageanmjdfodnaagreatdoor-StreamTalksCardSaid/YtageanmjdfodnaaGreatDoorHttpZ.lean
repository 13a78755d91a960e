/- Numbers of content-length; functions of bytes that are asked of each. -/
import Derived.Test.YtageanmjdfodnaaGreatDoorStrs
import Derived.Test.YtageanmjdfodnaaGreatDoorHttpL
import Derived.Test.YtageanmjdfodnaaGreatDoorShelf
import Derived.Deep.DeepCutAuto
import Derived.Deep.CutBlock
namespace Go.Proofs.YtageanmjdfodnaaGreatDoor
open Go.RowKit Go.Cx Go.Maps

set_option maxRecDepth 100000 in
set_option maxHeartbeats 1600000 in
theorem size_odd (b : Nat) (w : World) :
    Calls Tryz.prog 27 #[.int .u8 b] w fun e w' => e = .returned (.bool (!isDig b)) ∧ w = w' := by
  go_enter Tryz.func27, Tryz.ntmps27
  by_cases h1 : b < 48
  · have hi : (b : Int) < 48 := by omega
    have hv : isDig b = false := by simp [isDig]; omega
    rw [hv]
    go_wp2
    go_ret
    exact ⟨rfl, rfl⟩
  · have hi : ¬ (b : Int) < 48 := by omega
    by_cases h2 : b ≤ 57
    · have hj : (b : Int) ≤ 57 := by omega
      have hj' : ¬ (57 : Int) < (b : Int) := by omega
      have hv : isDig b = true := by simp [isDig]; omega
      rw [hv]
      go_wp2
      go_ret
      exact ⟨rfl, rfl⟩
    · have hj' : (57 : Int) < (b : Int) := by omega
      have hv : isDig b = false := by simp [isDig]; omega
      rw [hv]
      go_wp2
      go_ret
      exact ⟨rfl, rfl⟩

set_option maxRecDepth 100000 in
set_option maxHeartbeats 1600000 in
theorem index_func (g : Nat) (p : Nat → Bool) (eg : ∀ args w, (callFunc g args).run Tryz.prog w = .ok (.enter g args) w) (hf : ∀ (b : Nat) w, Calls Tryz.prog g #[.int .u8 b] w fun e w' => e = .returned (.bool (p b)) ∧ w = w') (A : Option Addr) (n c : Nat) (l : List Nat) (w : World) (hx : Rd w w.heap.size 1 A n (byts l)) (hn : n ≤ 140737488355328) :
    Calls Tryz.prog 31 #[.slice A n c, .func (.func g) #[] #[]] w fun e w' => (∃ i : Int, e = .returned (.int .i64 i) ∧ (0 ≤ i ↔ ∃ b ∈ l, p b = true)) ∧ Upd Nix w w' := by
  have hlen := hx.1
  simp only [byts, List.length_map, Nat.mul_one] at hlen
  have HX := Lib.hid hx
  have HF := Lib.hid hf
  clear hx hf
  go_enter Tryz.func31, Tryz.ntmps31
  go_wp2_with fail
  go_loopw [5, 8] (fun _ s8 wr => ∃ k : Nat, k ≤ n ∧ s8 = .int .i64 k ∧ Upd Nix w wr ∧ Hid (∀ j b, j < k → l[j]? = some b → p b = false)) (fun _ s8 _ => n - (intOf s8).toNat)
  case atStart => exact ⟨0, Nat.zero_le _, rfl, Upd.refl _ _, Lib.hid fun j b hj => absurd hj (Nat.not_lt_zero _)⟩
  case round =>
    obtain ⟨k, hk, rfl, hu, hall⟩ := hrel
    have HU := Lib.hid hu
    clear hu
    by_cases hlt : k < n
    · have hltz : (k : Int) < (n : Int) := by omega
      obtain ⟨ad, rfl, hB, hcell⟩ := HX.out.2 (by omega)
      obtain ⟨b, hb⟩ : ∃ b, l[k]? = some b := ⟨_, List.getElem?_eq_getElem (by omega)⟩
      have hcb := hcell k (.int .u8 b) (by rw [byts, List.getElem?_map, hb]; rfl)
      have hcr := (HU.out.cell (p := ad.add k) (by rw [block_add]; exact hB) (fun h => h)).trans hcb
      have HB := Lib.hid hb
      clear hcell hb hcb
      go_wp2_with fail
      refine (HF.out b wr).mono ?_
      rintro e w1 ⟨rfl, rfl⟩
      cases hp : p b with
      | true =>
        go_wp2_with fail
        go_ret
        refine ⟨⟨k, rfl, fun _ => ?_, fun _ => by omega⟩, HU.out⟩
        exact ⟨b, List.mem_of_getElem? HB.out, hp⟩
      | false =>
        go_wp2_with fail
        refine ⟨⟨k + 1, by omega, by rfl, HU.out, Lib.hid fun j b' hj hb' => ?_⟩, ?_⟩
        · by_cases hjk : j = k
          · subst hjk
            rw [HB.out] at hb'
            injection hb' with hb'
            exact hb' ▸ hp
          · exact hall.out j b' (by omega) hb'
        · simp [intOf]
          omega
    · have hltz : ¬ (k : Int) < (n : Int) := by omega
      go_wp2_with fail
      go_ret
      refine ⟨⟨-1, rfl, fun h => by omega, fun h => ?_⟩, HU.out⟩
      obtain ⟨b, hb, hp⟩ := h
      obtain ⟨j, hj, hjb⟩ := List.getElem_of_mem hb
      have := hall.out j b (by omega) (by rw [← hjb]; exact List.getElem?_eq_getElem hj)
      rw [this] at hp
      cases hp

set_option maxRecDepth 100000 in
set_option maxHeartbeats 1600000 in
theorem contains_func (g : Nat) (p : Nat → Bool) (eg : ∀ args w, (callFunc g args).run Tryz.prog w = .ok (.enter g args) w) (hf : ∀ (b : Nat) w, Calls Tryz.prog g #[.int .u8 b] w fun e w' => e = .returned (.bool (p b)) ∧ w = w') (A : Option Addr) (n c : Nat) (l : List Nat) (w : World) (hx : Rd w w.heap.size 1 A n (byts l)) (hn : n ≤ 140737488355328) :
    Calls Tryz.prog 28 #[.slice A n c, .func (.func g) #[] #[]] w fun e w' => (∃ v, e = .returned (.bool v) ∧ v = l.any p) ∧ Upd Nix w w' := by
  go_enter Tryz.func28, Tryz.ntmps28
  go_wp2_with fail
  refine (index_func g p eg hf A n c l w hx hn).mono ?_
  rintro e w1 ⟨⟨i, rfl, hi⟩, hu⟩
  by_cases h : ∃ b ∈ l, p b = true
  · have h0 : 0 ≤ i := hi.2 h
    have h1 := List.any_eq_true.2 h
    have H1 := Lib.hid h1
    clear hi h h1
    go_wp2_with fail
    go_ret
    exact ⟨⟨true, rfl, H1.out.symm⟩, hu⟩
  · have h0 : ¬ 0 ≤ i := fun h0 => h (hi.1 h0)
    have h1 : l.any p = false := by rw [← Bool.not_eq_true]; exact fun h' => h (List.any_eq_true.1 h')
    have H1 := Lib.hid h1
    clear hi h h1
    go_wp2_with fail
    go_ret
    exact ⟨⟨_, rfl, (decide_eq_false (by omega)).trans H1.out.symm⟩, hu⟩

theorem dec_val : ∀ (l : List UInt8) (a : Nat), (l.map UInt8.toNat).all isDig = true → Lib.decFrom a l = some (valFrom a (l.map UInt8.toNat))
  | [], _, _ => rfl
  | b :: l, a, h => by
    simp only [List.map_cons, List.all_cons, Bool.and_eq_true] at h
    have hd : 48 ≤ b.toNat ∧ b.toNat ≤ 57 := by
      have := h.1
      simp [isDig] at this
      exact this
    have hv : Lib.digitVal b = some (b.toNat - 48) := by unfold Lib.digitVal; rw [if_pos hd]
    rw [Lib.decFrom, hv]
    exact dec_val l _ h.2
theorem atoi_val {s : ByteArray} (h0 : 1 ≤ s.size) (h : (bytesOf s).all isDig = true) : Lib.atoi s.data.toList = some ((valFrom 0 (bytesOf s) : Nat) : Int) := by
  unfold bytesOf at h ⊢
  have hl : s.data.toList.length = s.size := Array.length_toList
  cases hs : s.data.toList with
  | nil => rw [hs] at hl; simp at hl; omega
  | cons b l =>
    rw [hs] at h
    have hd : 48 ≤ b.toNat := by
      have := h
      simp [isDig] at this
      exact this.1.1
    have h1 : (b == 45) = false := by
      rw [beq_eq_false_iff_ne]
      rintro rfl
      simp at hd
    have h2 : (b == 43) = false := by
      rw [beq_eq_false_iff_ne]
      rintro rfl
      simp at hd
    have hd2 : Lib.decNat (b :: l) = some (valFrom 0 ((b :: l).map UInt8.toNat)) := by
      unfold Lib.decNat
      rw [List.isEmpty_cons, if_neg (by simp)]
      exact dec_val _ _ h
    unfold Lib.atoi
    simp only [h1, h2, hd2]
    rfl

set_option maxRecDepth 100000 in
set_option maxHeartbeats 3200000 in
theorem http_size (s : ByteArray) (w : World) :
    Calls Tryz.prog 24 #[.string s] w fun e w' => ((∃ n : Nat, sizeL (bytesOf s) = some n ∧ e = .returned (.tuple #[.int .i64 n, .bool true])) ∨ (sizeL (bytesOf s) = none ∧ ∃ n : Int, e = .returned (.tuple #[.int .i64 n, .bool false]))) ∧ Upd Nix w w' := by
  have kc := fun (w : World) (s : ByteArray) => Lib.run_convert_string_bytes (P := Tryz.prog) w 9 29 5 s Tryz.underlying9 Tryz.underlying29 Tryz.underlying5
  have hlen := bytesOf_len s
  have HLN := Lib.hid hlen
  clear hlen
  go_enter Tryz.func24, Tryz.ntmps24
  by_cases h1 : s.size < 1
  · have hi : (s.size : Int) < 1 := by omega
    have hs : sizeL (bytesOf s) = none := by unfold sizeL; rw [if_neg (fun h => by have := HLN.out; omega)]
    have HS := Lib.hid hs
    clear hs
    go_wp2_with fail
    refine bodyPost_ret (results_tmp2 rfl _ _ _) rfl ?_
    exact ⟨.inr ⟨HS.out, _, rfl⟩, Upd.refl _ _⟩
  · have hi : ¬ (s.size : Int) < 1 := by omega
    by_cases h5 : 5 < s.size
    · have hj : (5 : Int) < (s.size : Int) := by omega
      have hs : sizeL (bytesOf s) = none := by unfold sizeL; rw [if_neg (fun h => by have := HLN.out; omega)]
      have HS := Lib.hid hs
      clear hs
      go_wp2_with fail
      refine bodyPost_ret (results_tmp2 rfl _ _ _) rfl ?_
      exact ⟨.inr ⟨HS.out, _, rfl⟩, Upd.refl _ _⟩
    · have hj : ¬ (5 : Int) < (s.size : Int) := by omega
      go_wp2_with fail
      have hr := Rd.str w 5 s
      have hu1 := upd_str w 5 s
      obtain ⟨w1, hw1⟩ : ∃ w1, Lib.bytesWorld w 5 s = w1 := ⟨_, rfl⟩
      have hs1 : w1.heap.size = w.heap.size + 1 := by rw [← hw1, Lib.bytesWorld_size]
      rw [hw1] at hr hu1 ⊢
      rw [← hs1] at hr
      clear hw1
      have HU1 := Lib.hid hu1
      clear hu1
      refine (contains_func 27 (fun b => !isDig b) (enters_of Tryz.func27 (by kernel_rfl) rfl) size_odd _ s.size _ (bytesOf s) w1 hr (by omega)).mono ?_
      rintro e w2 ⟨⟨v, rfl, hv⟩, hu2⟩
      cases v with
      | true =>
        have hs : sizeL (bytesOf s) = none := by
          unfold sizeL
          rw [if_neg]
          rintro ⟨_, _, h3, _⟩
          obtain ⟨b, hb, hb2⟩ := List.any_eq_true.1 hv.symm
          have := List.all_eq_true.1 h3 b hb
          rw [this] at hb2
          cases hb2
        have HS := Lib.hid hs
        have HU2 := Lib.hid hu2
        clear hs hv hu2
        go_wp2_with fail
        refine bodyPost_ret (results_tmp2 rfl _ _ _) rfl ?_
        exact ⟨.inr ⟨HS.out, _, rfl⟩, HU1.out.trans HU2.out fun _ _ h => h⟩
      | false =>
        have hall : (bytesOf s).all isDig = true := by
          rw [List.all_eq_true]
          intro b hb
          have h3 : ¬ ((!isDig b) = true) := fun h3 => by
            have := List.any_eq_true (p := fun b => !isDig b).2 ⟨b, hb, h3⟩
            rw [← hv] at this
            cases this
          simpa using h3
        have hat := atoi_val (s := s) (by omega) hall
        obtain ⟨m, hm⟩ : ∃ m, valFrom 0 (bytesOf s) = m := ⟨_, rfl⟩
        rw [hm] at hat
        have hs : sizeL (bytesOf s) = if m ≤ 65535 then some m else none := by
          unfold sizeL
          rw [hm]
          have := HLN.out
          by_cases hmm : m ≤ 65535
          · rw [if_pos ⟨by omega, by omega, hall, hmm⟩, if_pos hmm]
          · rw [if_neg (fun h => hmm h.2.2.2), if_neg hmm]
        have HS := Lib.hid hs
        have HU2 := Lib.hid hu2
        have HAT := Lib.hid hat
        clear hs hv hu2 hat hall hm
        go_wp2_with fail
        refine (Tryz.strconv_Atoi s m (by omega) HAT.out w2).mono ?_
        rintro e w3 ⟨rfl, s', rfl⟩
        have hu3 := upd_str w2 5 s'
        obtain ⟨w3, hw3⟩ : ∃ w3, Lib.bytesWorld w2 5 s' = w3 := ⟨_, rfl⟩
        rw [hw3] at hu3 ⊢
        clear hw3
        have HU3 := Lib.hid hu3
        clear hu3
        by_cases hmm : m ≤ 65535
        · have hmi : (m : Int) ≤ 65535 := by omega
          go_wp2_with fail
          refine bodyPost_ret (results_tmp2 rfl _ _ _) rfl ?_
          exact ⟨.inl ⟨m, by rw [HS.out, if_pos hmm], rfl⟩, (HU1.out.trans HU2.out fun _ _ h => h).trans HU3.out fun _ _ h => h⟩
        · have hmi : ¬ (m : Int) ≤ 65535 := by omega
          go_wp2_with fail
          refine bodyPost_ret (results_tmp2 rfl _ _ _) rfl ?_
          refine ⟨.inr ⟨by rw [HS.out, if_neg hmm], m, ?_⟩, (HU1.out.trans HU2.out fun _ _ h => h).trans HU3.out fun _ _ h => h⟩
          show Ending.returned (.tuple #[.int .i64 m, .bool (decide ((m : Int) ≤ 65535))]) = _
          rw [decide_eq_false (by omega)]
end Go.Proofs.YtageanmjdfodnaaGreatDoor
