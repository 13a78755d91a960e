/- Entries: the walks of num, write. -/
import Derived.Test.YtlhbikdelbollaaRdataC
import Derived.Test.YtlhbikdelbollaaEntryL
import Derived.Test.YtlhbikdelbollaaSets
namespace Go.Proofs.Ytlhbikdelbollaa
open Go.RowKit Go.Cx Go.Maps

set_option maxRecDepth 100000 in
set_option maxHeartbeats 3200000 in
theorem entry_num (base : Nat) (A0 : Option Addr) (n c width a : Nat) (l ns : List Nat) (w : World) (hown : w.ownsRow base 5 1 (.slice A0 n c) n (byts l)) (hbase : base ≤ w.heap.size)
    (hw : 1 ≤ width ∧ width ≤ 8) (ha : Blk w a 3 (ns.map fun x : Nat => Value.int .i64 x).toArray) (hns : ∀ x ∈ ns, x < 4611686018427387904) (hk : ns.length ≤ 100) (hn : n ≤ 140737488300000) :
    Calls Try.prog 74 #[.slice A0 n c, .int .i64 width, .slice (some ⟨a, 0, none⟩) ns.length ns.length] w fun e w' =>
      ∃ A' c', e = .returned (.slice A' (n + width * ns.length) c') ∧ w'.ownsRow base 5 1 (.slice A' (n + width * ns.length) c') (n + width * ns.length) (byts (l ++ numL width ns)) ∧
        (∀ b, (Value.slice A' (n + width * ns.length) c').ownBlock = some b → (Value.slice A0 n c).ownBlock = some b ∨ w.heap.size ≤ b) ∧ Upd (Own (.slice A0 n c)) w w' := by
  obtain ⟨i0, hi0, hz0, hz1, hz2⟩ := info_parts infoU8
  have HO := Lib.hid hown
  have HA := Lib.hid ha
  have HNS := Lib.hid hns
  clear hown ha hns
  obtain ⟨q, hq⟩ : ∃ q, ns.length = q := ⟨_, rfl⟩
  have HQ := Lib.hid hq
  rw [hq] at hk ⊢
  clear hq
  go_enter Try.func74, Try.ntmps74
  go_wp2_with fail
  go_loopw [0, 12] (fun s0 s12 wr => ∃ (k : Nat) (A : Option Addr) (cp : Nat), k ≤ q ∧ s12 = .int .i64 k ∧ s0 = .slice A (n + width * k) cp ∧
      wr.ownsRow base 5 1 (.slice A (n + width * k) cp) (n + width * k) (byts (l ++ numL width (ns.take k))) ∧
      (∀ b, (Value.slice A (n + width * k) cp).ownBlock = some b → (Value.slice A0 n c).ownBlock = some b ∨ w.heap.size ≤ b) ∧ Upd (Own (.slice A0 n c)) w wr) (fun _ s12 _ => q - (intOf s12).toNat)
  case atStart => exact ⟨0, A0, c, Nat.zero_le _, rfl, rfl, by simpa [numL] using HO.out, fun b hb => .inl hb, Upd.refl _ _⟩
  case round =>
    obtain ⟨k, A, cp, hkq, rfl, rfl, hown, hat, hu⟩ := hrel
    have HOW := Lib.hid hown
    have HAT := Lib.hid hat
    have HU := Lib.hid hu
    clear hown hat hu
    by_cases hlt : k < q
    · have hki : (k : Int) < (q : Int) := by omega
      obtain ⟨x, hx⟩ : ∃ x, ns[k]? = some x := ⟨_, List.getElem?_eq_getElem (by have := HQ.out; omega)⟩
      have hx62 := HNS.out x (List.mem_of_getElem? hx)
      have hblk : Blk wr a 3 (ns.map fun x : Nat => Value.int .i64 x).toArray := HA.out.upd HU.out (own_ne_blk' HO.out HA.out (by decide))
      have hcell := hblk.cell k
      rw [List.getElem?_toArray, List.getElem?_map, hx] at hcell
      simp only [Option.map_some] at hcell
      have HB := Lib.hid hblk
      have HX := Lib.hid hx
      clear hblk hx
      have hw1 := hw.1
      have hw8 := hw.2
      go_wp2_with fail
      obtain ⟨wo, rfl⟩ : ∃ wo : World, wo = wr := ⟨_, rfl⟩
      obtain ⟨m, hm⟩ : ∃ m, n + width * k = m := ⟨_, rfl⟩
      have hwk : width * k ≤ 800 := Nat.le_trans (Nat.mul_le_mul hw8 (show k ≤ 100 by omega)) (by decide)
      have hm2 : m ≤ 140737488300800 := by omega
      rw [hm] at HOW HAT ⊢
      obtain ⟨L, hL⟩ : ∃ L, l ++ numL width (ns.take k) = L := ⟨_, rfl⟩
      rw [hL] at HOW
      go_loopw [0, 9] (fun s0 s9 wr => ∃ (j : Nat) (A : Option Addr) (cp : Nat) (dn : List Nat), j ≤ width ∧ s9 = .int .i64 (8 * ((j : Int) - 1)) ∧ s0 = .slice A (m + (width - j)) cp ∧ dn ++ beN j x = beN width x ∧
          wr.ownsRow base 5 1 (.slice A (m + (width - j)) cp) (m + (width - j)) (byts (L ++ dn)) ∧
          (∀ b, (Value.slice A (m + (width - j)) cp).ownBlock = some b → (Value.slice A0 n c).ownBlock = some b ∨ w.heap.size ≤ b) ∧ Upd (Own (.slice A0 n c)) w wr) (fun _ s9 _ => ((intOf s9) + 8).toNat)
      case atStart => exact ⟨width, A, cp, [], Nat.le_refl _, rfl, by rw [Nat.sub_self, Nat.add_zero], rfl, by rw [Nat.sub_self, Nat.add_zero, List.append_nil]; exact HOW.out, by rw [Nat.sub_self, Nat.add_zero]; exact HAT.out, HU.out⟩
      case round =>
        clear HOW HAT HU
        obtain ⟨j, A1, cp1, dn, hj, rfl, rfl, hdn, hown, hat, hu⟩ := hrel
        have HOW := Lib.hid hown
        have HAT := Lib.hid hat
        have HU := Lib.hid hu
        have HD := Lib.hid hdn
        clear hown hat hu hdn
        by_cases hj0 : 0 < j
        · have hji : (0 : Int) ≤ 8 * ((j : Int) - 1) := by omega
          obtain ⟨y, hy⟩ : ∃ y, x / 2 ^ (8 * (j - 1)) % 256 = y := ⟨_, rfl⟩
          have hyi : (x : Int) / 2 ^ (8 * (j - 1)) % 256 = (y : Int) := by rw [← hy]; simp
          have HY := Lib.hid hy
          have HYI := Lib.hid hyi
          clear hy hyi
          obtain ⟨M, hM⟩ : ∃ M, m + (width - j) = M := ⟨_, rfl⟩
          have hM2 : M ≤ 140737488301000 := by omega
          rw [hM] at HOW HAT ⊢
          have HM := Lib.hid hM
          clear hM
          have hbr := HU.out.size
          go_wp2_with (at_builtin; rw [HYI.out]; refine wpList_app _ rfl (.tmp 23) (.tmp 28) 33 rfl base 5 i0 _ 1 1 Try.underlying33 hi0 hz0 hz1 hz2 rfl (by omega) (.slice A1 M cp1) M (byts (L ++ dn)) rfl (HOW.out.alloc _) (wr.heap.size + 1) (some ⟨wr.heap.size, 0, none⟩) 1 1 [.int .u8 (y : Int)] rfl (Rd.lit1 _ _ _) (oneInt _ _) (by unfold maxLen; omega) (by omega) (by simp; omega) ?_; intro A2 cp2 w2 hown2 hg2 hat2)
          obtain ⟨j, rfl⟩ : ∃ i, j = i + 1 := ⟨j - 1, by omega⟩
          have hMj : m + (width - j) = M + 1 := by have := HM.out; omega
          refine ⟨⟨j, A2, cp2, dn ++ [y], by omega, ?_, by rw [hMj], ?_, ?_, ?_, ?_⟩, ?_⟩
          · rw [show (8 : Int) * (((j + 1 : Nat) : Int) - 1) - 8 = 8 * ((j : Int) - 1) by omega]
          · rw [← HD.out, beN, List.append_assoc, List.singleton_append]
            have := HY.out
            rw [Nat.add_sub_cancel, Nat.pow_mul, show 2 ^ 8 = 256 by rfl] at this
            rw [this]
          · rw [hMj, ← List.append_assoc]
            simpa [byts] using hown2
          · rw [hMj]
            intro b hb
            rcases hat2 with h | h
            · rw [h] at hb
              exact HAT.out b hb
            · rw [h] at hb
              injection hb with hb
              right
              simp only [World.size_alloc] at hb
              omega
          · refine (HU.out.alloc _).grown hg2 fun b hb hlt => ?_
            rcases HAT.out b hb with h | h
            · exact h
            · omega
          · simp only [intOf]
            omega
        · have h0 : j = 0 := by omega
          subst h0
          have hji : ¬ (0 : Int) ≤ 8 * (((0 : Nat) : Int) - 1) := by omega
          simp only [beN, List.append_nil, Nat.sub_zero] at HD HOW HAT ⊢
          go_wp2_with fail
          have hmk : m + width = n + width * (k + 1) := by rw [← hm, Nat.mul_succ]; omega
          rw [hmk] at HOW HAT ⊢
          refine ⟨⟨k + 1, A1, cp1, by omega, by rfl, rfl, ?_, HAT.out, HU.out⟩, ?_⟩
          · have hd := HD.out
            have hL2 : l ++ numL width (ns.take (k + 1)) = L ++ dn := by
              rw [← hL, hd, List.take_add_one, HX.out]
              simp [numL]
            rw [hL2]
            exact HOW.out
          · simp only [intOf]; omega
    · have hki : ¬ (k : Int) < (q : Int) := by omega
      have hk : k = q := by omega
      subst hk
      go_wp2_with fail
      go_ret
      rw [List.take_of_length_le (by rw [HQ.out]; exact Nat.le_refl _)] at HOW
      exact ⟨A, cp, rfl, HOW.out, HAT.out, HU.out⟩
end Go.Proofs.Ytlhbikdelbollaa
