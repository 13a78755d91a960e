/- A text with small letters alone. -/
import Derived.Test.YtageanmjdfodnaaGreatDoorStrs
import Derived.Test.YtageanmjdfodnaaGreatDoorFieldL
import Derived.Test.YtageanmjdfodnaaGreatDoorLies
namespace Go.Proofs.YtageanmjdfodnaaGreatDoor
open Go.RowKit Go.Cx

/-- a new row of bytes, as a conversion of a string lays it -/
def RowF (w : World) (g : Nat) (e : TypeId) (l : List Nat) : Prop := ∃ cur fz, w.heap[g]? = some (.cells cur e fz) ∧ cur.size ≤ fz.1 ∧ cur.toList.take l.length = byts l
theorem RowF.size {w : World} {g : Nat} {e : TypeId} {l : List Nat} (h : RowF w g e l) : g < w.heap.size ∧ ∃ cur fz, w.heap[g]? = some (.cells cur e fz) ∧ l.length ≤ cur.size ∧ cur.size ≤ fz.1 := by
  obtain ⟨cur, fz, hg, hf, ht⟩ := h
  refine ⟨(Array.getElem?_eq_some_iff.1 hg).1, cur, fz, hg, ?_, hf⟩
  have h1 := congrArg List.length ht
  have h2 : cur.toList.length = cur.size := Array.length_toList
  rw [List.length_take, byts, List.length_map] at h1
  omega
theorem RowF.new (w : World) (e : TypeId) (s : ByteArray) : RowF (Lib.bytesWorld w e s) w.heap.size e (bytesOf s) := by
  refine ⟨_, _, Lib.bytesWorld_at_new w e s, Nat.le_refl _, ?_⟩
  rw [byts_of, bytesOf_len]
  unfold Lib.bytesCells Lib.strCells
  rw [Array.toList_append, List.take_append_of_le_length (by simp only [Array.toList_map, List.length_map, Array.length_toList]; exact Nat.le_refl _)]
  rw [List.take_of_length_le (by simp only [Array.toList_map, List.length_map, Array.length_toList]; exact Nat.le_refl _)]
  simp
theorem RowF.cell {w : World} {g : Nat} {e : TypeId} {l : List Nat} (h : RowF w g e l) {j b : Nat} (hb : l[j]? = some b) : w.cell? ⟨g, j, none⟩ = some (.int .u8 b) := by
  obtain ⟨cur, fz, hg, hf, ht⟩ := h
  rw [cell_of_row w g j cur e fz hg]
  have hj := (List.getElem?_eq_some_iff.1 hb).1
  have h1 := congrArg (fun x => x[j]?) ht
  simp only [List.getElem?_take, if_pos hj, byts, List.getElem?_map, hb, Option.map_some, Array.getElem?_toList] at h1
  exact h1
theorem RowF.free {w : World} {g : Nat} {e : TypeId} {l : List Nat} (h : RowF w g e l) {j : Nat} (hj : j < l.length) : w.frozen? ⟨g, j, none⟩ = false := by
  obtain ⟨_, cur, fz, hg, h1, h2⟩ := h.size
  obtain ⟨lo, hi⟩ := fz
  simp only [World.frozen?, hg, Bool.and_eq_false_iff, decide_eq_false_iff_not]
  left
  simp only at h2
  omega
theorem RowF.set {w : World} {g : Nat} {e : TypeId} {l : List Nat} (h : RowF w g e l) (j b : Nat) : RowF (w.setCell ⟨g, j, none⟩ (.int .u8 b)) g e (l.set j b) := by
  obtain ⟨cur, fz, hg, hf, ht⟩ := h
  refine ⟨cur.setIfInBounds j (.int .u8 b), fz, ?_, by simpa using hf, ?_⟩
  · simp [World.setCell, Array.getElem?_modify, hg]
  · rw [List.length_set, Array.toList_setIfInBounds, List.take_set, ht, byts, byts, List.map_set]
theorem RowF.rd {w : World} {g : Nat} {e : TypeId} {l : List Nat} (h : RowF w g e l) : Rd w w.heap.size 1 (some ⟨g, 0, none⟩) l.length (byts l) := by
  refine ⟨by simp [byts], fun _ => ⟨_, rfl, h.size.1, fun j u hu => ?_⟩⟩
  have hadd : (⟨g, 0, none⟩ : Addr).add j = ⟨g, j, none⟩ := by unfold Addr.add; split <;> simp_all
  rw [hadd]
  simp only [byts, List.getElem?_map, Option.map_eq_some_iff] at hu
  obtain ⟨b, hb, rfl⟩ := hu
  exact h.cell hb
theorem low_all : (List.range 26).all (fun i => bits .or .u8 ((i + 65 : Nat) : Int) 32 == ((i + 97 : Nat) : Int)) = true := by decide +kernel
theorem or_low (c : Nat) (h : 65 ≤ c) (h2 : c ≤ 90) : bits .or .u8 (c : Int) 32 = ((c + 32 : Nat) : Int) := by
  have := List.all_eq_true.1 low_all (c - 65) (List.mem_range.2 (by omega))
  rw [beq_iff_eq, show c - 65 + 65 = c by omega, show c - 65 + 97 = c + 32 by omega] at this
  exact this
theorem lowF_lt {c : Nat} (h : c < 256) : lowF c < 256 := by unfold lowF; split <;> omega
theorem smallF_lt {l : List Nat} (h : ∀ b ∈ l, b < 256) : ∀ b ∈ smallF l, b < 256 := by
  intro b hb
  obtain ⟨c, hc, rfl⟩ := List.mem_map.1 hb
  exact lowF_lt (h c hc)
theorem mix_step {l : List Nat} {k c : Nat} (h : l[k]? = some c) : ((smallF l).take k ++ l.drop k).set k (lowF c) = (smallF l).take (k + 1) ++ l.drop (k + 1) := by
  have hk := (List.getElem?_eq_some_iff.1 h).1
  have hl : ((smallF l).take k).length = k := by rw [List.length_take, smallF, List.length_map]; omega
  have hd : l.drop k = c :: l.drop (k + 1) := by rw [List.drop_eq_getElem_cons hk]; congr 1; rw [List.getElem?_eq_getElem hk] at h; exact Option.some.inj h
  rw [List.set_append_right _ _ (by omega), hl, Nat.sub_self, hd, List.set_cons_zero, List.take_add_one]
  simp [smallF, h]
theorem mix_keep {l : List Nat} {k c : Nat} (h : l[k]? = some c) (hc : lowF c = c) : (smallF l).take k ++ l.drop k = (smallF l).take (k + 1) ++ l.drop (k + 1) := by
  rw [← mix_step h, hc]
  have hk := (List.getElem?_eq_some_iff.1 h).1
  have hl : ((smallF l).take k).length = k := by rw [List.length_take, smallF, List.length_map]; omega
  have h1 : ((smallF l).take k ++ l.drop k)[k]? = some c := by
    rw [List.getElem?_append_right (by omega), hl, Nat.sub_self, List.getElem?_drop, Nat.add_zero, h]
  obtain ⟨hk2, h2⟩ := List.getElem?_eq_some_iff.1 h1
  subst h2
  exact (List.set_getElem_self hk2).symm
set_option maxRecDepth 100000 in
set_option maxHeartbeats 1600000 in
theorem http_small (s : ByteArray) (w : World) (hs : s.size ≤ 140737488355328) :
    Calls Tryz.prog 92 #[.string s] w fun e w' => (∃ r : ByteArray, e = .returned (.string r) ∧ bytesOf r = smallF (bytesOf s)) ∧ Upd Nix w w' := by
  have kc := fun (w : World) (s : ByteArray) => Lib.run_convert_string_bytes (P := Tryz.prog) w 9 29 5 s Tryz.underlying9 Tryz.underlying29 Tryz.underlying5
  have hlen := bytesOf_len s
  have hlt := bytesOf_lt s
  have HLN := Lib.hid hlen
  have HLT := Lib.hid hlt
  clear hlen hlt
  go_enter Tryz.func92, Tryz.ntmps92
  go_wp2_with fail
  have hr := RowF.new w 5 s
  have hu := upd_str w 5 s
  obtain ⟨l, hl⟩ : ∃ l, bytesOf s = l := ⟨_, rfl⟩
  obtain ⟨g, hg⟩ : ∃ g, w.heap.size = g := ⟨_, rfl⟩
  obtain ⟨wa, hwa⟩ : ∃ wa, Lib.bytesWorld w 5 s = wa := ⟨_, rfl⟩
  obtain ⟨n, hn⟩ : ∃ n, s.size = n := ⟨_, rfl⟩
  rw [hl] at HLN HLT hr
  have HBL := Lib.hid hl
  rw [hn] at HLN hs ⊢
  rw [hg] at hr ⊢
  rw [hwa] at hr hu ⊢
  have HR := Lib.hid hr
  have HU := Lib.hid hu
  have HG := Lib.hid hg
  clear hr hu hl hg hwa hn kc
  go_loopw [10] (fun s10 wr => ∃ k : Nat, k ≤ n ∧ s10 = .int .i64 k ∧ RowF wr g 5 ((smallF l).take k ++ l.drop k) ∧ Upd Nix w wr) (fun s10 _ => n - (intOf s10).toNat)
  case atStart => exact ⟨0, Nat.zero_le _, rfl, by simpa using HR.out, HU.out⟩
  case round =>
    obtain ⟨k, hk, rfl, hr, hu⟩ := hrel
    have HR2 := Lib.hid hr
    have HU2 := Lib.hid hu
    have hml : ((smallF l).take k ++ l.drop k).length = n := by rw [List.length_append, List.length_take, List.length_drop, smallF, List.length_map, HLN.out]; omega
    have HML := Lib.hid hml
    clear hml
    by_cases hkn : k < n
    · have hki : (k : Int) < (n : Int) := by omega
      obtain ⟨c, hc⟩ : ∃ c, l[k]? = some c := ⟨_, List.getElem?_eq_getElem (by have := HLN.out; omega)⟩
      have hmk : ((smallF l).take k ++ l.drop k)[k]? = some c := by
        have hl : ((smallF l).take k).length = k := by rw [List.length_take, smallF, List.length_map]; have := HLN.out; omega
        rw [List.getElem?_append_right (by omega), hl, Nat.sub_self, List.getElem?_drop, Nat.add_zero, hc]
      have hcell := hr.cell hmk
      have hfree := hr.free (j := k) (by have := HML.out; omega)
      have hgl := hr.size.1
      have HC := Lib.hid hc
      clear hc hmk hr hu
      by_cases h65 : 65 ≤ c
      · have h65i : (65 : Int) ≤ (c : Int) := by omega
        by_cases h90 : c ≤ 90
        · have h90i : (c : Int) ≤ 90 := by omega
          have hor := or_low c h65 h90
          have hlow : lowF c = c + 32 := by unfold lowF; rw [if_pos ⟨h65, h90⟩]
          have HL := Lib.hid hlow
          clear hlow
          go_wp2_with fail
          have hset := HR2.out.set k (c + 32)
          refine ⟨⟨k + 1, by omega, by rfl, ?_, ?_⟩, ?_⟩
          · have h1 := mix_step HC.out
            rw [HL.out] at h1
            rw [h1] at hset
            exact hset
          · exact HU2.out.setCell (fun h => absurd h (by have := HG.out; simp only; omega)) _
          · simp only [intOf]; omega
        · have h90i : ¬ (c : Int) ≤ 90 := by omega
          have hlow : lowF c = c := by unfold lowF; rw [if_neg (by omega)]
          have HL := Lib.hid hlow
          clear hlow
          go_wp2_with fail
          refine ⟨⟨k + 1, by omega, by rfl, by rw [← mix_keep HC.out HL.out]; exact HR2.out, HU2.out⟩, ?_⟩
          simp only [intOf]; omega
      · have h65i : ¬ (65 : Int) ≤ (c : Int) := by omega
        have hlow : lowF c = c := by unfold lowF; rw [if_neg (by omega)]
        have HL := Lib.hid hlow
        clear hlow
        go_wp2_with fail
        refine ⟨⟨k + 1, by omega, by rfl, by rw [← mix_keep HC.out HL.out]; exact HR2.out, HU2.out⟩, ?_⟩
        simp only [intOf]; omega
    · have hki : ¬ (k : Int) < (n : Int) := by omega
      have hkn2 : k = n := by omega
      have hall : (smallF l).take k ++ l.drop k = smallF l := by
        rw [List.take_of_length_le (by rw [smallF, List.length_map]; have := HLN.out; omega), List.drop_eq_nil_of_le (by have := HLN.out; omega), List.append_nil]
      rw [hall] at HR2
      have hsl : (smallF l).length = n := by rw [smallF, List.length_map]; exact HLN.out
      have hrd := HR2.out.rd
      rw [hsl] at hrd
      have kv := run_conv wr hrd
      have HLT2 := Lib.hid (smallF_lt HLT.out)
      clear hall hsl hrd hr hu hkn2
      go_wp2_with fail
      go_ret
      exact ⟨⟨_, rfl, by rw [HBL.out]; exact bytesOf_strN HLT2.out⟩, HU2.out⟩
end Go.Proofs.YtageanmjdfodnaaGreatDoor
