/- ciceroneref13: small, trim, head. ciceroneref13.head. ciceroneref13.lines. ciceroneref13.field. ciceroneref13.values. -/
import Derived.Test.YtbiapeplkegjlaaGreatDoorRowAt
import Derived.Test.YtbiapeplkegjlaaGreatDoorHeadL
import Derived.Test.YtbiapeplkegjlaaGreatDoorFieldL
import Derived.Deep.DeepCutAuto
import Derived.Deep.CutBlock
import Derived.ScopeJumps
import Derived.WalkMore
import Derived.Deep.QuietTactic
import Derived.BigQuiet
import Derived.Deep.RegionWith
import Derived.Deep.RegionHeld3
namespace Go.Proofs.YtbiapeplkegjlaaGreatDoor
open Go.RowKit Go.Cx Go.Maps

theorem lowF_lt {c : Nat} (h : c < 256) : lowF c < 256 := by
  unfold lowF
  split <;> omega
/-- the first k bytes are small -/
def lowFTo (l : List Nat) (k : Nat) : List Nat := (l.take k).map lowF ++ l.drop k
theorem lowFTo_at {l : List Nat} {k : Nat} {c : Nat} (h : l[k]? = some c) : (lowFTo l k)[k]? = some c := by
  have hk := (List.getElem?_eq_some_iff.1 h).1
  unfold lowFTo
  rw [List.getElem?_append_right (by simp; omega)]
  simp only [List.length_map, List.length_take, List.getElem?_drop]
  rw [show k + (k - min k l.length) = k by omega]
  exact h
theorem lowFTo_step {l : List Nat} {k : Nat} {c : Nat} (h : l[k]? = some c) : (lowFTo l k).set k (lowF c) = lowFTo l (k + 1) := by
  have hk := (List.getElem?_eq_some_iff.1 h).1
  unfold lowFTo
  rw [List.set_append_right _ _ (by simp; omega)]
  have h1 : k - ((l.take k).map lowF).length = 0 := by simp; omega
  rw [h1, List.take_add_one, h, List.map_append, List.append_assoc]
  congr 1
  rw [List.drop_eq_getElem_cons hk]
  have : l[k] = c := by
    rw [List.getElem?_eq_getElem hk] at h
    injection h
  simp [this]
theorem lowFTo_skip {l : List Nat} {k : Nat} {c : Nat} (h : l[k]? = some c) (hc : lowF c = c) : lowFTo l (k + 1) = lowFTo l k := by
  rw [← lowFTo_step h, hc]
  have := lowFTo_at h
  exact List.ext_getElem? fun i => by
    rw [List.getElem?_set]
    split
    · rename_i hi
      subst hi
      rw [if_pos (List.getElem?_eq_some_iff.1 this).1, this]
    · rfl
theorem lowFTo_all {l : List Nat} {k : Nat} (h : l.length ≤ k) : lowFTo l k = l.map lowF := by
  unfold lowFTo
  rw [List.take_of_length_le h, List.drop_of_length_le h, List.append_nil]

set_option maxRecDepth 100000 in
set_option maxHeartbeats 3200000 in
theorem ref_small13 (s : ByteArray) (w : World) (hs : s.size ≤ 140737488355328) :
    Calls Tryz.prog 63 #[.string s] w fun e w' => (∃ r : ByteArray, e = .returned (.string r) ∧ bytesOf r = smallF (bytesOf s)) ∧ Upd Nix w w' := by
  have kc := fun (w : World) (s : ByteArray) => Lib.run_convert_string_bytes (P := Tryz.prog) w 9 26 5 s Tryz.underlying9 Tryz.underlying26 Tryz.underlying5
  obtain ⟨l, hl⟩ : ∃ l, bytesOf s = l := ⟨_, rfl⟩
  have hlen := bytesOf_len s
  rw [hl] at hlen
  have hlb := bytesOf_lt s
  rw [hl] at hlb
  have HL := Lib.hid hl
  have HLN := Lib.hid hlen
  have HLB := Lib.hid hlb
  rw [hl]
  clear hl hlen hlb
  go_enter Tryz.func63, Tryz.ntmps63
  go_wp2_with fail
  obtain ⟨g, hg⟩ : ∃ g, w.heap.size = g := ⟨_, rfl⟩
  have hrow := RowAt.str w s
  have hbl := below_str w 5 s (Nat.le_refl _)
  rw [hg] at hrow hbl
  rw [HL.out] at hrow
  have HG := Lib.hid hg
  have HROW := Lib.hid hrow
  have HBL := Lib.hid hbl
  clear hrow hbl
  rw [hg]
  obtain ⟨W0, hW0⟩ : ∃ W0, Lib.bytesWorld w 5 s = W0 := ⟨_, rfl⟩
  rw [hW0] at HROW HBL ⊢
  clear hW0 hg
  generalize grownCap w s.size 0 5 = cp
  go_loopw [10] (fun s10 wr => ∃ k : Nat, k ≤ s.size ∧ s10 = .int .i64 k ∧ RowAt wr g s.size (lowFTo l k) ∧ Below g w wr) (fun s10 _ => s.size - (intOf s10).toNat)
  case atStart => exact ⟨0, Nat.zero_le _, rfl, by unfold lowFTo; simpa using HROW.out, HBL.out⟩
  case round =>
    obtain ⟨k, hk, rfl, hrow, hbl⟩ := hrel
    have HR := Lib.hid hrow
    have HB := Lib.hid hbl
    clear hrow hbl
    by_cases hkn : k < s.size
    · have hki : (k : Int) < (s.size : Int) := by omega
      obtain ⟨c, hc⟩ : ∃ c, l[k]? = some c := ⟨_, List.getElem?_eq_getElem (by have := HLN.out; omega)⟩
      have hcell := HR.out.cell (lowFTo_at hc)
      have hfree := HR.out.free hkn
      have hc256 := HLB.out c (List.mem_of_getElem? hc)
      have HC := Lib.hid hc
      clear hc
      by_cases h65 : 65 ≤ c
      · have h65i : (65 : Int) ≤ (c : Int) := by omega
        by_cases h90 : c ≤ 90
        · have h90i : (c : Int) ≤ 90 := by omega
          have hset := HR.out.set (i := k) (c + 32)
          rw [show c + 32 = lowF c by unfold lowF; rw [if_pos ⟨h65, h90⟩], lowFTo_step HC.out] at hset
          have hcv : (c : Int) + 32 = ((c + 32 : Nat) : Int) := by omega
          have hcl : c + 32 = lowF c := by unfold lowF; rw [if_pos ⟨h65, h90⟩]
          have HSET := Lib.hid hset
          have HCV := Lib.hid hcv
          have HCL := Lib.hid hcl
          clear hset hcv hcl
          go_wp2_with fail
          rw [HCV.out, HCL.out]
          refine ⟨⟨k + 1, by omega, by rfl, HSET.out, HB.out.setCell (Nat.le_refl _) _⟩, ?_⟩
          simp only [intOf]
          omega
        · have h90i : decide ((c : Int) ≤ 90) = false := decide_eq_false (by omega)
          have HLC := Lib.hid (show lowF c = c by unfold lowF; rw [if_neg (by omega)])
          go_wp2_with fail
          refine ⟨⟨k + 1, by omega, by rfl, by rw [lowFTo_skip HC.out HLC.out]; exact HR.out, HB.out⟩, ?_⟩
          simp only [intOf]
          omega
      · have h65i : decide ((65 : Int) ≤ (c : Int)) = false := decide_eq_false (by omega)
        have HLC := Lib.hid (show lowF c = c by unfold lowF; rw [if_neg (by omega)])
        go_wp2_with fail
        refine ⟨⟨k + 1, by omega, by rfl, by rw [lowFTo_skip HC.out HLC.out]; exact HR.out, HB.out⟩, ?_⟩
        simp only [intOf]
        omega
    · have hki : ¬ (k : Int) < (s.size : Int) := by omega
      rw [lowFTo_all (by rw [HLN.out]; omega)] at HR
      have k1 := run_conv wr HR.out.rd cp
      go_wp2_with fail
      go_ret
      refine ⟨⟨_, rfl, bytesOf_strN fun b hb => ?_⟩, Upd.of_below' (by rw [HG.out]; exact HB.out)⟩
      obtain ⟨c, hc, rfl⟩ := List.mem_map.1 hb
      exact lowF_lt (HLB.out c hc)
/-- blanks off its end -/
def rtrimF (s : List Nat) : List Nat := (s.reverse.dropWhile blankF).reverse
theorem rtrimF_snoc (s : List Nat) (c : Nat) : rtrimF (s ++ [c]) = if blankF c = true then rtrimF s else s ++ [c] := by
  unfold rtrimF
  rw [List.reverse_append, List.reverse_cons, List.reverse_nil, List.nil_append, List.singleton_append, List.dropWhile_cons]
  split
  · rfl
  · rw [List.reverse_cons, List.reverse_reverse]
theorem rtrimF_cons (c : Nat) (t : List Nat) : rtrimF (c :: t) = if blankF c = true ∧ rtrimF t = [] then [] else c :: rtrimF t := by
  obtain ⟨m, rfl⟩ : ∃ m : List Nat, t = m.reverse := ⟨t.reverse, by simp⟩
  induction m with
  | nil =>
    have e : rtrimF [c] = if blankF c = true then [] else [c] := rtrimF_snoc [] c
    show rtrimF [c] = _
    rw [e]
    by_cases h : blankF c = true
    · rw [if_pos h, if_pos ⟨h, rfl⟩]
    · rw [if_neg h, if_neg (fun h' => h h'.1)]; rfl
  | cons x m ih =>
    rw [List.reverse_cons, ← List.cons_append, rtrimF_snoc, rtrimF_snoc]
    by_cases hx : blankF x = true
    · rw [if_pos hx, if_pos hx, ih]
    · rw [if_neg hx, if_neg hx, if_neg (fun h => by simp at h)]
      rfl
theorem trim_swap (s : List Nat) : rtrimF (s.dropWhile blankF) = trimF s := by
  show _ = (rtrimF s).dropWhile blankF
  induction s with
  | nil => rfl
  | cons c t ih =>
    rw [rtrimF_cons]
    by_cases hc : blankF c = true
    · rw [List.dropWhile_cons_of_pos hc, ih]
      by_cases ht : rtrimF t = []
      · rw [if_pos ⟨hc, ht⟩, ht]
      · rw [if_neg (fun h => ht h.2), List.dropWhile_cons_of_pos hc]
    · rw [if_neg (fun h => hc h.1), List.dropWhile_cons_of_neg hc, List.dropWhile_cons_of_neg hc, rtrimF_cons, if_neg (fun h => hc h.1)]
set_option maxRecDepth 100000 in
theorem index_st13 (s : ByteArray) (i b : Nat) (h : (bytesOf s)[i]? = some b) (W : World) : (Instr.index 9 (.string s) (.int .i64 i)).run Tryz.prog W = .ok (.int .u8 b) W := by
  have hi : i < s.size := by
    have := (List.getElem?_eq_some_iff.1 h).1
    rwa [bytesOf_len] at this
  have h1 := bytesOf_at s i hi
  rw [h] at h1
  injection h1 with h1
  rw [run_index_string (P := Tryz.prog) W 9 s .i64 i Tryz.underlying9, dif_pos ⟨by omega, by omega⟩]
  simp only [Int.toNat_natCast, h1]
def szOf : Value → Nat
  | .string s => s.size
  | _ => 0
set_option maxRecDepth 100000 in
set_option maxHeartbeats 3200000 in
theorem ref_trim13 (s : ByteArray) (w : World) (hs : s.size ≤ 140737488355328) :
    Calls Tryz.prog 64 #[.string s] w fun e w' => (∃ r : ByteArray, e = .returned (.string r) ∧ bytesOf r = trimF (bytesOf s)) ∧ w = w' := by
  go_enter Tryz.func64, Tryz.ntmps64
  go_upto_block 0 with fail
  go_cut [0] (fun s0 wx => w = wx ∧ ∃ r : ByteArray, s0 = .string r ∧ bytesOf r = (bytesOf s).dropWhile blankF ∧ r.size ≤ s.size)
  case first =>
    go_wp2_with fail
    go_loopw [0] (fun s0 wr => w = wr ∧ ∃ r : ByteArray, s0 = .string r ∧ (bytesOf r).dropWhile blankF = (bytesOf s).dropWhile blankF ∧ r.size ≤ s.size) (fun s0 _ => szOf s0)
    case atStart => exact ⟨rfl, s, rfl, rfl, Nat.le_refl _⟩
    case round =>
      obtain ⟨rfl, r, rfl, hr, hrs⟩ := hrel
      have HR := Lib.hid hr
      clear hr
      have hlen := bytesOf_len r
      rcases hl : bytesOf r with _ | ⟨b, t⟩
      · have h0 : (r.size : Int) = 0 := by rw [hl] at hlen; simp at hlen; omega
        have HL := Lib.hid hl
        clear hl hlen
        go_wp2_with fail
        go_meet
        exact ⟨rfl, r, rfl, by rw [← HR.out, HL.out]; rfl, hrs⟩
      · have h0 : (0 : Int) < (r.size : Int) := by rw [hl] at hlen; simp at hlen; omega
        have hix := index_st13 r 0 b (by rw [hl]; rfl)
        simp only [Int.natCast_zero] at hix
        have HL := Lib.hid hl
        have HLN := Lib.hid hlen
        clear hl hlen
        by_cases hb : blankF b = true
        · have hs1 : ∀ W, (Instr.slice 9 (.string r) (some (.int .i64 1)) none none).run Tryz.prog W = .ok (.string (r.extract 1 r.size)) W := by
            intro W
            rw [run_slice_string_from_if W 9 r .i64 1 Tryz.underlying9, if_pos ⟨by omega, by omega⟩]
            congr
          have hfr := bytesOf_from r 1
          obtain ⟨r2, hr2⟩ : ∃ r2, r.extract 1 r.size = r2 := ⟨_, rfl⟩
          rw [hr2] at hs1 hfr
          rw [HL.out] at hfr
          have h2s : r2.size + 1 = r.size := by
            have h1 := congrArg List.length hfr
            rw [bytesOf_len] at h1
            have h2 := HLN.out
            rw [HL.out] at h2
            simp only [List.length_drop, List.length_cons] at h1 h2
            omega
          have HFR := Lib.hid hfr
          clear hr2 hfr
          have hfin : w = w ∧ ∃ r3 : ByteArray, Value.string r2 = .string r3 ∧ (bytesOf r3).dropWhile blankF = (bytesOf s).dropWhile blankF ∧ r3.size ≤ s.size := ⟨rfl, r2, rfl, by
            have h1 := HR.out
            rw [HL.out, List.dropWhile_cons_of_pos hb] at h1
            rw [HFR.out]
            exact h1, by omega⟩
          have HFIN := Lib.hid hfin
          have hcase : b = 32 ∨ (b ≠ 32 ∧ b = 9) := by unfold blankF at hb; simp at hb; omega
          clear hb hfin
          rcases hcase with rfl | ⟨h32, rfl⟩
          · go_wp2_with fail
            exact ⟨⟨trivial, HFIN.out.2⟩, by show r2.size < r.size; omega⟩
          · go_wp2_with fail
            exact ⟨⟨trivial, HFIN.out.2⟩, by show r2.size < r.size; omega⟩
        · have hb2 : b ≠ 32 ∧ b ≠ 9 := by unfold blankF at hb; simp at hb; omega
          have hb32 : ((b : Int) == 32) = false := by rw [beq_eq_false_iff_ne]; omega
          have hb9 : ((b : Int) == 9) = false := by rw [beq_eq_false_iff_ne]; omega
          have HV := Lib.hid (show bytesOf r = (bytesOf s).dropWhile blankF by rw [← HR.out, HL.out, List.dropWhile_cons_of_neg hb])
          clear hb2 hb
          go_wp2_with fail
          go_meet
          exact ⟨rfl, r, rfl, HV.out, hrs⟩
  case rest =>
  obtain ⟨rfl, r0, rfl, hr0, hr0s⟩ := hcut
  have HR0 := Lib.hid (show rtrimF (bytesOf r0) = trimF (bytesOf s) by rw [hr0, trim_swap])
  clear hr0
  go_wp2_with fail
  go_loopw [0] (fun s0 wr => w = wr ∧ ∃ r : ByteArray, s0 = .string r ∧ rtrimF (bytesOf r) = trimF (bytesOf s) ∧ r.size ≤ s.size) (fun s0 _ => szOf s0)
  case atStart => exact ⟨rfl, r0, rfl, HR0.out, hr0s⟩
  case round =>
    obtain ⟨rfl, r, rfl, hr, hrs⟩ := hrel
    have HR := Lib.hid hr
    clear hr
    have hlen := bytesOf_len r
    rcases List.eq_nil_or_concat (bytesOf r) with hl | ⟨t, b, hl⟩
    · have h0 : (r.size : Int) = 0 := by rw [hl] at hlen; simp at hlen; omega
      have HV := Lib.hid (show bytesOf r = trimF (bytesOf s) by rw [← HR.out, hl]; rfl)
      clear hl hlen
      go_wp2_with fail
      go_ret
      exact ⟨⟨r, rfl, HV.out⟩, rfl⟩
    · rw [List.concat_eq_append] at hl
      have htl : t.length + 1 = r.size := by rw [hl] at hlen; simp at hlen; omega
      have h0 : (0 : Int) < (r.size : Int) := by omega
      have hix := index_st13 r t.length b (by rw [hl]; simp)
      have hsz : ((r.size : Int) - 1) = (t.length : Int) := by omega
      rw [← hsz] at hix
      have HL := Lib.hid hl
      clear hl hlen
      by_cases hb : blankF b = true
      · have hs1 : ∀ W, (Instr.slice 9 (.string r) none (some (.int .i64 ((r.size : Int) - 1))) none).run Tryz.prog W = .ok (.string (r.extract 0 t.length)) W := by
          intro W
          rw [hsz]
          have := run_slice_string_to_if W 9 r .i64 (t.length : Int) Tryz.underlying9
          rw [this, if_pos ⟨by omega, by omega⟩]
          congr
        have hfr := bytesOf_to r t.length
        obtain ⟨r2, hr2⟩ : ∃ r2, r.extract 0 t.length = r2 := ⟨_, rfl⟩
        rw [hr2] at hs1 hfr
        rw [HL.out, List.take_left] at hfr
        have h2s : r2.size = t.length := by rw [← bytesOf_len, hfr]
        have HFIN := Lib.hid (show rtrimF (bytesOf r2) = trimF (bytesOf s) by rw [hfr, ← HR.out, HL.out, rtrimF_snoc, if_pos hb])
        have hcase : b = 32 ∨ (b ≠ 32 ∧ b = 9) := by unfold blankF at hb; simp at hb; omega
        clear hb hr2 hfr hsz
        rcases hcase with rfl | ⟨h32, rfl⟩
        · go_wp2_with fail
          exact ⟨⟨trivial, r2, rfl, HFIN.out, by omega⟩, by show r2.size < r.size; omega⟩
        · go_wp2_with fail
          exact ⟨⟨trivial, r2, rfl, HFIN.out, by omega⟩, by show r2.size < r.size; omega⟩
      · have hb2 : b ≠ 32 ∧ b ≠ 9 := by unfold blankF at hb; simp at hb; omega
        have hb32 : ((b : Int) == 32) = false := by rw [beq_eq_false_iff_ne]; omega
        have hb9 : ((b : Int) == 9) = false := by rw [beq_eq_false_iff_ne]; omega
        have HV := Lib.hid (show bytesOf r = trimF (bytesOf s) by rw [← HR.out, HL.out, rtrimF_snoc, if_neg hb])
        clear hb2 hb hsz
        go_wp2_with fail
        go_ret
        exact ⟨⟨r, rfl, HV.out⟩, rfl⟩
end Go.Proofs.YtbiapeplkegjlaaGreatDoor
namespace Go.Proofs.YtbiapeplkegjlaaGreatDoor
open Go.RowKit Go.Cx Go.Maps

/-- whether 13 stands ahead of place k -/
def retR (l : List Nat) : Nat → Bool
  | 0 => false
  | j + 1 => decide (l[j]? = some 13)
/-- midway in a head: the line at hand began at line -/
def HdAt (l : List Nat) (k line : Nat) : Prop := line ≤ k ∧ headR l false 0 0 = headR (l.drop k) (retR l k) (k - line) k
theorem HdAt.start (l : List Nat) : HdAt l 0 0 := ⟨Nat.le_refl _, rfl⟩
theorem HdAt.step {l : List Nat} {k line c : Nat} (h : HdAt l k line) (hc : l[k]? = some c) : headR l false 0 0 = headR (c :: l.drop (k + 1)) (retR l k) (k - line) k := by
  have hk := (List.getElem?_eq_some_iff.1 hc).1
  have hd : l.drop k = c :: l.drop (k + 1) := by rw [List.drop_eq_getElem_cons hk]; congr 1; rw [List.getElem?_eq_getElem hk] at hc; exact Option.some.inj hc
  rw [h.2, hd]
theorem HdAt.far {l : List Nat} {k line c : Nat} (h : HdAt l k line) (hc : l[k]? = some c) (hk : 2000 ≤ k) : headR l false 0 0 = -1 := by rw [h.step hc, headR, if_pos hk]
theorem HdAt.ten {l : List Nat} {k line : Nat} (h : HdAt l k line) (hc : l[k]? = some 10) (hk : k < 2000) (hr : retR l k = false) : headR l false 0 0 = -1 := by rw [h.step hc, headR, if_neg (by omega), if_pos rfl, if_pos hr]
theorem HdAt.fin {l : List Nat} {k line : Nat} (h : HdAt l k line) (hc : l[k]? = some 10) (hk : k < 2000) (hr : retR l k = true) (hl : k - line = 1) : headR l false 0 0 = (k : Int) + 1 := by rw [h.step hc, headR, if_neg (by omega), if_pos rfl, if_neg (by rw [hr]; simp), if_pos hl]
theorem HdAt.line {l : List Nat} {k line : Nat} (h : HdAt l k line) (hc : l[k]? = some 10) (hk : k < 2000) (hr : retR l k = true) (hl : ¬ k - line = 1) : HdAt l (k + 1) (k + 1) := by
  refine ⟨Nat.le_refl _, ?_⟩
  rw [h.step hc, headR, if_neg (by omega), if_pos rfl, if_neg (by rw [hr]; simp), if_neg hl, Nat.sub_self]
  have e1 : retR l (k + 1) = false := by show decide (l[k]? = some 13) = _; rw [hc]; simp
  rw [e1]
theorem HdAt.ret {l : List Nat} {k line c : Nat} (h : HdAt l k line) (hc : l[k]? = some c) (hk : k < 2000) (h10 : c ≠ 10) (hr : retR l k = true) : headR l false 0 0 = -1 := by rw [h.step hc, headR, if_neg (by omega), if_neg h10, if_pos hr]
theorem HdAt.bad {l : List Nat} {k line c : Nat} (h : HdAt l k line) (hc : l[k]? = some c) (hk : k < 2000) (h10 : c ≠ 10) (hr : retR l k = false) (hi : inLine c = false) : headR l false 0 0 = -1 := by rw [h.step hc, headR, if_neg (by omega), if_neg h10, if_neg (by rw [hr]; simp), if_pos hi]
theorem HdAt.on {l : List Nat} {k line c : Nat} (h : HdAt l k line) (hc : l[k]? = some c) (hk : k < 2000) (h10 : c ≠ 10) (hr : retR l k = false) (hi : inLine c = true) : HdAt l (k + 1) line := by
  refine ⟨by have := h.1; omega, ?_⟩
  rw [h.step hc, headR, if_neg (by omega), if_neg h10, if_neg (by rw [hr]; simp), if_neg (by rw [hi]; simp)]
  have e1 : retR l (k + 1) = decide (c = 13) := by show decide (l[k]? = some 13) = _; rw [hc]; simp
  rw [e1, show k + 1 - line = k - line + 1 by have := h.1; omega]
theorem HdAt.end {l : List Nat} {k line : Nat} (h : HdAt l k line) (hk : l.length ≤ k) : headR l false 0 0 = if 2000 ≤ k then -1 else 0 := by rw [h.2, List.drop_eq_nil_of_le hk, headR]
set_option maxRecDepth 100000 in
set_option maxHeartbeats 3200000 in
theorem ref_head13 (A : Option Addr) (n c : Nat) (l : List Nat) (B : Nat) (w : World) (hx : Rd w B 1 A n (byts l)) (hb : ∀ b ∈ l, b < 256) (hnc : n ≤ c) (hn : n ≤ 140737488355328) :
    Calls Tryz.prog 15 #[.slice A n c] w fun e w' => e = .returned (.int .i64 (headR l false 0 0)) ∧ w = w' := by
  have hlen := hx.1
  simp only [byts, List.length_map, Nat.mul_one] at hlen
  have HX := Lib.hid hx
  have HBY := Lib.hid hb
  have HLEN := Lib.hid hlen
  clear hx hb hlen
  go_enter Tryz.func15, Tryz.ntmps15
  go_wp2_with fail
  go_loopw [3, 8] (fun s3 s8 wr => w = wr ∧ ∃ k line : Nat, k ≤ n ∧ s8 = .int .i64 k ∧ s3 = .int .i64 line ∧ HdAt l k line) (fun _ s8 _ => n - (intOf s8).toNat)
  case atStart => exact ⟨rfl, 0, 0, Nat.zero_le _, rfl, rfl, HdAt.start l⟩
  case round =>
    obtain ⟨rfl, k, line, hk, rfl, rfl, hat⟩ := hrel
    have HAT := Lib.hid hat
    have hlk := hat.1
    clear hat
    by_cases hkn : k < n
    · have hki : (k : Int) < (n : Int) := by omega
      obtain ⟨b, hbb⟩ : ∃ b, l[k]? = some b := ⟨_, List.getElem?_eq_getElem (by rw [HLEN.out]; exact hkn)⟩
      obtain ⟨ad, rfl, hB, hcl⟩ := HX.out.2 (by omega)
      have hcell : w.cell? (ad.add k) = some (.int .u8 b) := hcl k _ (by rw [byts, List.getElem?_map, hbb]; rfl)
      have hb256 := HBY.out b (List.mem_of_getElem? hbb)
      have HB := Lib.hid hbb
      have HCL := Lib.hid hcl
      clear hbb hcl
      by_cases h2000 : 2000 ≤ k
      · have hi : (2000 : Int) ≤ (k : Int) := by omega
        have HV := Lib.hid (HAT.out.far HB.out h2000)
        go_wp2_with fail
        go_ret
        exact ⟨by rw [HV.out]; rfl, rfl⟩
      have hi : ¬ (2000 : Int) ≤ (k : Int) := by omega
      have hk2 : k < 2000 := by omega
      go_upto_region 7 with fail
      clear hcell h2000 hi
      rcases Nat.eq_zero_or_pos k with h0 | h0
      · subst h0
        have hr : retR l 0 = false := rfl
        have HRT := Lib.hid hr
        by_cases h10 : b = 10
        · have e10 : ((b : Int) == 10) = true := by simp [h10]
          have HV := Lib.hid (HAT.out.ten (by rw [HB.out, h10]) hk2 hr)
          clear h10 hr
          go_wp2_with fail
          go_ret
          exact ⟨by rw [HV.out]; rfl, rfl⟩
        · have e10 : ((b : Int) == 10) = false := by rw [beq_eq_false_iff_ne]; omega
          have H10 := Lib.hid h10
          clear h10 hr
          cases hin : inLine b with
          | false =>
            have HV := Lib.hid (HAT.out.bad HB.out hk2 H10.out HRT.out hin)
            have hin' := hin
            unfold inLine at hin'
            simp only [Bool.or_eq_false_iff, Bool.and_eq_false_iff, beq_eq_false_iff_ne, decide_eq_false_iff_not] at hin'
            have e13 : ((b : Int) != 13) = true := by simp; omega
            have e9 : ((b : Int) != 9) = true := by simp; omega
            by_cases h32 : b < 32
            · have e32 : decide ((b : Int) < 32) = true := decide_eq_true (by omega)
              clear hin hin' h32
              go_wp2_with fail
              go_ret
              exact ⟨by rw [HV.out]; rfl, rfl⟩
            · have e32 : decide ((b : Int) < 32) = false := decide_eq_false (by omega)
              have e126 : decide ((126 : Int) < (b : Int)) = true := decide_eq_true (by omega)
              clear hin hin' h32
              go_wp2_with fail
              go_ret
              exact ⟨by rw [HV.out]; rfl, rfl⟩
          | true =>
            have HV := Lib.hid (HAT.out.on HB.out hk2 H10.out HRT.out hin)
            have hin' := hin
            unfold inLine at hin'
            simp only [Bool.or_eq_true, Bool.and_eq_true, beq_iff_eq, decide_eq_true_eq] at hin'
            by_cases h13 : b = 13
            · have e13 : ((b : Int) != 13) = false := by simp [h13]
              clear hin hin' h13
              go_wp2_with fail
              refine ⟨⟨trivial, 0 + 1, line, by omega, by rfl, by rfl, HV.out⟩, ?_⟩
              simp only [intOf]; omega
            · have e13 : ((b : Int) != 13) = true := by simp; omega
              by_cases h9 : b = 9
              · have e9 : ((b : Int) != 9) = false := by simp [h9]
                clear hin hin' h13 h9
                go_wp2_with fail
                refine ⟨⟨trivial, 0 + 1, line, by omega, by rfl, by rfl, HV.out⟩, ?_⟩
                simp only [intOf]; omega
              · have e9 : ((b : Int) != 9) = true := by simp; omega
                have e32 : decide ((b : Int) < 32) = false := decide_eq_false (by omega)
                have e126 : decide ((126 : Int) < (b : Int)) = false := decide_eq_false (by omega)
                clear hin hin' h13 h9
                go_wp2_with fail
                refine ⟨⟨trivial, 0 + 1, line, by omega, by rfl, by rfl, HV.out⟩, ?_⟩
                simp only [intOf]; omega
      · obtain ⟨j, rfl⟩ : ∃ j, k = j + 1 := ⟨k - 1, by omega⟩
        obtain ⟨p, hp⟩ : ∃ p, l[j]? = some p := ⟨_, List.getElem?_eq_getElem (by rw [HLEN.out]; omega)⟩
        have hcp : w.cell? (ad.add j) = some (.int .u8 p) := HCL.out j _ (by rw [byts, List.getElem?_map, hp]; rfl)
        have hr : retR l (j + 1) = decide (p = 13) := by show decide (l[j]? = some 13) = _; rw [hp]; simp
        have hjn : (j : Int) < (n : Int) := by omega
        clear hp
        by_cases h10 : b = 10
        · have e10 : ((b : Int) == 10) = true := by simp [h10]
          by_cases h13 : p = 13
          · have h13i : ((p : Int) != 13) = false := by simp [h13]
            rw [decide_eq_true h13] at hr
            have HR := Lib.hid hr
            clear h13 hr
            by_cases hl : j = line
            · have hl1 : ((j : Int) == (line : Int)) = true := by simp [hl]
              have HV := Lib.hid (HAT.out.fin (by rw [HB.out, h10]) hk2 HR.out (by omega))
              clear h10 hl
              go_wp2_with fail
              go_ret
              exact ⟨by rw [HV.out]; rfl, rfl⟩
            · have hl1 : ((j : Int) == (line : Int)) = false := by rw [beq_eq_false_iff_ne]; omega
              have HV := Lib.hid (HAT.out.line (by rw [HB.out, h10]) hk2 HR.out (by omega))
              clear h10 hl
              go_wp2_with fail
              refine ⟨⟨trivial, j + 1 + 1, j + 1 + 1, by omega, by rfl, by rfl, HV.out⟩, ?_⟩
              simp only [intOf]; omega
          · have h13i : ((p : Int) != 13) = true := by simp; omega
            rw [decide_eq_false h13] at hr
            have HV := Lib.hid (HAT.out.ten (by rw [HB.out, h10]) hk2 hr)
            clear h13 hr h10
            go_wp2_with fail
            go_ret
            exact ⟨by rw [HV.out]; rfl, rfl⟩
        · have e10 : ((b : Int) == 10) = false := by rw [beq_eq_false_iff_ne]; omega
          have H10 := Lib.hid h10
          clear h10
          by_cases h13 : p = 13
          · have h13i : ((p : Int) == 13) = true := by simp [h13]
            rw [decide_eq_true h13] at hr
            have HV := Lib.hid (HAT.out.ret HB.out hk2 H10.out hr)
            clear h13 hr
            go_wp2_with fail
            go_ret
            exact ⟨by rw [HV.out]; rfl, rfl⟩
          · have h13i : ((p : Int) == 13) = false := by rw [beq_eq_false_iff_ne]; omega
            rw [decide_eq_false h13] at hr
            have HRT := Lib.hid hr
            clear h13 hr
            cases hin : inLine b with
            | false =>
              have HV := Lib.hid (HAT.out.bad HB.out hk2 H10.out HRT.out hin)
              have hin' := hin
              unfold inLine at hin'
              simp only [Bool.or_eq_false_iff, Bool.and_eq_false_iff, beq_eq_false_iff_ne, decide_eq_false_iff_not] at hin'
              have e13 : ((b : Int) != 13) = true := by simp; omega
              have e9 : ((b : Int) != 9) = true := by simp; omega
              by_cases h32 : b < 32
              · have e32 : decide ((b : Int) < 32) = true := decide_eq_true (by omega)
                clear hin hin' h32
                go_wp2_with fail
                go_ret
                exact ⟨by rw [HV.out]; rfl, rfl⟩
              · have e32 : decide ((b : Int) < 32) = false := decide_eq_false (by omega)
                have e126 : decide ((126 : Int) < (b : Int)) = true := decide_eq_true (by omega)
                clear hin hin' h32
                go_wp2_with fail
                go_ret
                exact ⟨by rw [HV.out]; rfl, rfl⟩
            | true =>
              have HV := Lib.hid (HAT.out.on HB.out hk2 H10.out HRT.out hin)
              have hin' := hin
              unfold inLine at hin'
              simp only [Bool.or_eq_true, Bool.and_eq_true, beq_iff_eq, decide_eq_true_eq] at hin'
              by_cases h13 : b = 13
              · have e13 : ((b : Int) != 13) = false := by simp [h13]
                clear hin hin' h13
                go_wp2_with fail
                refine ⟨⟨trivial, j + 1 + 1, line, by omega, by rfl, by rfl, HV.out⟩, ?_⟩
                simp only [intOf]; omega
              · have e13 : ((b : Int) != 13) = true := by simp; omega
                by_cases h9 : b = 9
                · have e9 : ((b : Int) != 9) = false := by simp [h9]
                  clear hin hin' h13 h9
                  go_wp2_with fail
                  refine ⟨⟨trivial, j + 1 + 1, line, by omega, by rfl, by rfl, HV.out⟩, ?_⟩
                  simp only [intOf]; omega
                · have e9 : ((b : Int) != 9) = true := by simp; omega
                  have e32 : decide ((b : Int) < 32) = false := decide_eq_false (by omega)
                  have e126 : decide ((126 : Int) < (b : Int)) = false := decide_eq_false (by omega)
                  clear hin hin' h13 h9
                  go_wp2_with fail
                  refine ⟨⟨trivial, j + 1 + 1, line, by omega, by rfl, by rfl, HV.out⟩, ?_⟩
                  simp only [intOf]; omega
    · have hki : ¬ (k : Int) < (n : Int) := by omega
      obtain rfl : k = n := by omega
      have hv := HAT.out.end (by rw [HLEN.out]; exact Nat.le_refl _)
      by_cases h2000 : 2000 ≤ k
      · have hi : (2000 : Int) ≤ (k : Int) := by omega
        rw [if_pos h2000] at hv
        have HV := Lib.hid hv
        clear hv
        go_wp2_with fail
        go_ret
        exact ⟨by rw [HV.out]; rfl, rfl⟩
      · have hi : ¬ (2000 : Int) ≤ (k : Int) := by omega
        rw [if_neg h2000] at hv
        have HV := Lib.hid hv
        clear hv
        go_wp2_with fail
        go_ret
        exact ⟨by rw [HV.out]; rfl, rfl⟩
end Go.Proofs.YtbiapeplkegjlaaGreatDoor
namespace Go.Proofs.YtbiapeplkegjlaaGreatDoor
open Go.RowKit Go.Cx Go.Maps

theorem infoStr13 : (Tryz.prog.info? 9).map (fun i => (i.zero, i.size, i.bytes)) = some (some (.string ⟨#[]⟩), 1, 16) := by kernel_rfl
theorem own_ge13 {w : World} {base : Nat} {e : TypeId} {size n : Nat} {v : Value} {xs : List Value} (h : w.ownsRow base e size v n xs) (b : Nat) (hb : v.ownBlock = some b) : base ≤ b := (h.lt b hb).1
set_option maxRecDepth 100000 in
set_option maxHeartbeats 3200000 in
theorem ref_lines13 (A : Option Addr) (n c : Nat) (l : List Nat) (B : Nat) (w : World) (hx : Rd w B 1 A n (byts l)) (hB : B ≤ w.heap.size) (hb : ∀ b ∈ l, b < 256) (hn : n ≤ 1000000) (hne : linesGo l [] [] ≠ []) :
    Calls Tryz.prog 28 #[.slice A n c] w fun e w' => ∃ (A' : Option Addr) (m c' : Nat) (ss : List ByteArray), e = .returned (.slice A' m c') ∧ Rd w' w'.heap.size 1 A' m (ss.map Value.string) ∧ m ≤ c' ∧ ss.length = m ∧ ss.map bytesOf = linesR l ∧ Upd Nix w w' := by
  obtain ⟨i0, hi0, hz0, hz1, hz2⟩ := info_parts infoStr13
  have hlen := hx.1
  simp only [byts, List.length_map, Nat.mul_one] at hlen
  have HX := Lib.hid hx
  have HBY := Lib.hid hb
  have HLEN := Lib.hid hlen
  have HNE := Lib.hid hne
  clear hx hb hlen hne
  go_enter Tryz.func28, Tryz.ntmps28
  go_wp2_with fail
  go_loopw [3, 4, 9] (fun s3 s4 s9 wr => ∃ (k : Nat) (A1 : Option Addr) (m1 c1 : Nat) (ss : List ByteArray) (ln : ByteArray), k ≤ n ∧ s9 = .int .i64 k ∧ s3 = .slice A1 m1 c1 ∧ s4 = .string ln ∧ wr.ownsRow w.heap.size 9 1 (.slice A1 m1 c1) m1 (ss.map Value.string) ∧ linesGo (l.drop k) (bytesOf ln) (ss.map bytesOf) = linesGo l [] [] ∧ ln.size ≤ k ∧ m1 ≤ k ∧ Upd Nix w wr) (fun _ _ s9 _ => n - (intOf s9).toNat)
  case atStart => exact ⟨0, none, 0, 0, [], ⟨#[]⟩, Nat.zero_le _, rfl, rfl, rfl, ⟨rfl, .inl ⟨rfl, rfl⟩⟩, rfl, Nat.le_refl _, Nat.le_refl _, Upd.refl _ _⟩
  case round =>
    obtain ⟨k, A1, m1, c1, ss, ln, hk, rfl, rfl, rfl, ho, hg, hls, hmk, hu⟩ := hrel
    have HO := Lib.hid ho
    have HG := Lib.hid hg
    have HU := Lib.hid hu
    clear ho hg hu
    by_cases hkn : k < n
    · have hki : (k : Int) < (n : Int) := by omega
      obtain ⟨b, hbb⟩ : ∃ b, l[k]? = some b := ⟨_, List.getElem?_eq_getElem (by rw [HLEN.out]; exact hkn)⟩
      obtain ⟨ad, rfl, hBl, hcl⟩ := HX.out.2 (by omega)
      have hcell : wr.cell? (ad.add k) = some (.int .u8 b) := (HU.out.cell (p := ad.add k) (by rw [block_add]; omega) (fun h => h)).trans (hcl k _ (by rw [byts, List.getElem?_map, hbb]; rfl))
      have hb256 := HBY.out b (List.mem_of_getElem? hbb)
      have hd : l.drop k = b :: l.drop (k + 1) := by
        have hkl := (List.getElem?_eq_some_iff.1 hbb).1
        rw [List.drop_eq_getElem_cons hkl]; congr 1; rw [List.getElem?_eq_getElem hkl] at hbb; exact Option.some.inj hbb
      have hstep := HG.out
      rw [hd, linesGo] at hstep
      have hsz := HU.out.size
      clear hbb hcl hd
      by_cases h13 : b = 13
      · have e13 : ((b : Int) == 13) = true := by simp [h13]
        rw [if_pos h13] at hstep
        have HST := Lib.hid hstep
        clear h13 hstep
        go_wp2_with fail
        refine ⟨⟨k + 1, A1, m1, c1, ss, ln, by omega, by rfl, rfl, rfl, HO.out, HST.out, by omega, by omega, HU.out⟩, ?_⟩
        simp only [intOf]; omega
      have e13 : ((b : Int) == 13) = false := by rw [beq_eq_false_iff_ne]; omega
      rw [if_neg h13] at hstep
      by_cases h10 : b = 10
      · have e10 : ((b : Int) == 10) = true := by simp [h10]
        rw [if_pos h10] at hstep
        have HST := Lib.hid hstep
        clear h13 h10 hstep
        go_wp2_with (at_builtin; refine wpList_app _ rfl (.tmp 23) (.tmp 25) 40 rfl w.heap.size 9 i0 _ 1 16 Tryz.underlying40 hi0 hz0 hz1 hz2 rfl (by omega) (.slice A1 m1 c1) m1 (ss.map Value.string) rfl (HO.out.alloc _) (wr.heap.size + 1) (some ⟨wr.heap.size, 0, none⟩) 1 1 [.string ln] rfl (Rd.lit1 _ _ _) (by intro u hu; simp only [List.mem_singleton] at hu; subst hu; rfl) (by unfold maxLen; omega) (by omega) (by simp; omega) ?_; intro A5 c5 w5 hown5 hg5 hat5)
        have hu5 : Upd Nix w w5 := (HU.out.alloc _).grown hg5 fun b hb hlt => by have := own_ge13 HO.out b hb; omega
        refine ⟨⟨k + 1, A5, m1 + 1, c5, ss ++ [ln], ⟨#[]⟩, by omega, by rfl, rfl, rfl, by rw [List.map_append]; exact hown5, ?_, by show (0 : Nat) ≤ _; omega, by omega, hu5⟩, ?_⟩
        · rw [List.map_append]; exact HST.out
        · simp only [intOf]; omega
      · have e10 : ((b : Int) == 10) = false := by rw [beq_eq_false_iff_ne]; omega
        rw [if_neg h10] at hstep
        have k1 := run_conv (wr.alloc (.cells #[.int .u8 b] 5)) (B := wr.heap.size + 1) (A := some ⟨wr.heap.size, 0, none⟩) (n := 1) (l := [b]) (Rd.lit1 _ _ _) 1
        have hb1 : bytesOf (strN [b]) = [b] := bytesOf_strN (by simp; omega)
        obtain ⟨st, hst⟩ : ∃ st, strN [b] = st := ⟨_, rfl⟩
        rw [hst] at k1 hb1
        have hss : st.size = 1 := by rw [← bytesOf_len, hb1]; rfl
        have HST := Lib.hid hstep
        have HB1 := Lib.hid hb1
        clear h13 h10 hstep hst hb1
        go_wp2_with fail
        refine ⟨⟨k + 1, A1, m1, c1, ss, ln ++ st, by omega, by rfl, rfl, by rfl, HO.out.alloc _, ?_, by rw [ByteArray.size_append]; omega, by omega, HU.out.alloc _⟩, ?_⟩
        · rw [bytesOf_append, HB1.out]; exact HST.out
        · simp only [intOf]; omega
    · have hki : ¬ (k : Int) < (n : Int) := by omega
      have hfin := HG.out
      rw [List.drop_eq_nil_of_le (by rw [HLEN.out]; omega), linesGo] at hfin
      have hml : ss.length = m1 := by have := HO.out.1; simpa using this
      have hm1 : 1 ≤ m1 := by
        rcases Nat.eq_zero_or_pos m1 with h0 | h0
        · have : ss = [] := List.eq_nil_of_length_eq_zero (by omega)
          rw [this] at hfin
          exact absurd hfin.symm HNE.out
        · exact h0
      have hcap := own_cap HO.out
      have hres : (ss.take (m1 - 1)).map bytesOf = linesR l := by
        unfold linesR
        rw [← hfin, List.dropLast_eq_take, List.length_map, hml, List.map_take]
      have hrd : Rd wr wr.heap.size 1 A1 (m1 - 1) ((ss.take (m1 - 1)).map Value.string) := by
        have h1 := (Rd.own HO.out).front (k := m1 - 1) (by omega)
        rw [Nat.mul_one] at h1
        rw [List.map_take]
        exact h1
      have HRES := Lib.hid hres
      have HRD := Lib.hid hrd
      have hle : (0 : Int) ≤ (m1 : Int) - 1 := by omega
      have hle2 : (m1 : Int) - 1 ≤ (c1 : Int) := by omega
      have hnat : ((m1 : Int) - 1).toNat = m1 - 1 := by omega
      clear hfin hres hrd
      go_wp2_with fail
      go_ret
      exact ⟨A1, m1 - 1, c1, rfl, ss.take (m1 - 1), HRD.out, by omega, by rw [List.length_take]; omega, HRES.out, HU.out⟩
end Go.Proofs.YtbiapeplkegjlaaGreatDoor
namespace Go.Proofs.YtbiapeplkegjlaaGreatDoor
open Go.RowKit Go.Cx Go.Maps

theorem trimF_len (s : List Nat) : (trimF s).length ≤ s.length := by
  unfold trimF
  have h1 := (List.dropWhile_suffix (l := ((s.reverse.dropWhile blankF).reverse)) blankF).length_le
  have h2 := (List.dropWhile_suffix (l := s.reverse) blankF).length_le
  rw [List.length_reverse] at h1 h2
  omega
def FieldIs (l : List Nat) (w : World) (e : Ending) (w' : World) : Prop :=
  Upd Nix w w' ∧ ((fieldR [] l = none ∧ ∃ x y : ByteArray, e = .returned (.tuple #[.string x, .string y, .bool false])) ∨ ∃ (f : List Nat × List Nat) (x y : ByteArray), fieldR [] l = some f ∧ bytesOf x = f.1 ∧ bytesOf y = f.2 ∧ e = .returned (.tuple #[.string x, .string y, .bool true]))
set_option maxRecDepth 100000 in
set_option maxHeartbeats 6400000 in
theorem ref_field13 (s : ByteArray) (w : World) (hs : s.size ≤ 1000000) : Calls Tryz.prog 44 #[.string s] w (FieldIs (bytesOf s) w) := by
  obtain ⟨l, hl⟩ : ∃ l, bytesOf s = l := ⟨_, rfl⟩
  have hlen := bytesOf_len s
  rw [hl] at hlen ⊢
  have HL := Lib.hid hl
  have HLN := Lib.hid hlen
  clear hl hlen
  go_enter Tryz.func44, Tryz.ntmps44
  go_wp2_with fail
  go_loopw [5] (fun s5 wr => ∃ i : Nat, i ≤ s.size ∧ s5 = .int .i64 i ∧ fieldR (l.take i) (l.drop i) = fieldR [] l ∧ Upd Nix w wr) (fun s5 _ => s.size - (intOf s5).toNat)
  case atStart => exact ⟨0, Nat.zero_le _, rfl, rfl, Upd.refl _ _⟩
  case round =>
    obtain ⟨i, hi, rfl, hf, hu⟩ := hrel
    have HU := Lib.hid hu
    by_cases his : i < s.size
    · have hii : (i : Int) < (s.size : Int) := by omega
      obtain ⟨b, hb⟩ : ∃ b, l[i]? = some b := ⟨_, List.getElem?_eq_getElem (by rw [HLN.out]; exact his)⟩
      have hix := index_st13 s i b (by rw [HL.out]; exact hb)
      have hb256 : b < 256 := bytesOf_lt s b (by rw [HL.out]; exact List.mem_of_getElem? hb)
      have hd : l.drop i = b :: l.drop (i + 1) := by
        have hkl := (List.getElem?_eq_some_iff.1 hb).1
        rw [List.drop_eq_getElem_cons hkl]; congr 1; rw [List.getElem?_eq_getElem hkl] at hb; exact Option.some.inj hb
      rw [hd] at hf
      have HF := Lib.hid hf
      have HTK := Lib.hid (show l.take (i + 1) = l.take i ++ [b] by rw [List.take_add_one, hb]; rfl)
      clear hb hd hf hu
      by_cases h58 : b = 58
      case pos =>
        have e58 : ((b : Int) == 58) = true := by simp [h58]
        have hfx := bytesOf_to s i
        have hfy := bytesOf_from s (i + 1)
        have hs1 : ∀ W, (Instr.slice 9 (.string s) none (some (.int .i64 (i : Int))) none).run Tryz.prog W = .ok (.string (s.extract 0 i)) W := by
          intro W
          rw [run_slice_string_to_if W 9 s .i64 (i : Int) Tryz.underlying9, if_pos ⟨by omega, by omega⟩]
          congr
        have hs2 : ∀ W, (Instr.slice 9 (.string s) (some (.int .i64 ((i : Int) + 1))) none none).run Tryz.prog W = .ok (.string (s.extract (i + 1) s.size)) W := by
          intro W
          rw [run_slice_string_from_if W 9 s .i64 ((i : Int) + 1) Tryz.underlying9, if_pos ⟨by omega, by omega⟩]
          congr
        obtain ⟨x0, hx0⟩ : ∃ x0, s.extract 0 i = x0 := ⟨_, rfl⟩
        obtain ⟨y0, hy0⟩ : ∃ y0, s.extract (i + 1) s.size = y0 := ⟨_, rfl⟩
        rw [hx0] at hs1 hfx
        rw [hy0] at hs2 hfy
        rw [HL.out] at hfx hfy
        have hxs : x0.size ≤ 140737488355328 := by rw [← bytesOf_len, hfx, List.length_take, HLN.out]; omega
        have hys : y0.size ≤ 1000000 := by rw [← bytesOf_len, hfy, List.length_drop, HLN.out]; omega
        have h1i : (i : Int) + 1 ≤ (s.size : Int) := by omega
        have h0i1 : (0 : Int) ≤ (i : Int) + 1 := by omega
        have hwr : IntKind.i64.wrap ((i : Int) + 1) = (i : Int) + 1 := by rw [IntKind.wrap_i64]; omega
        have SX := Lib.hid fun W => ref_small13 x0 W hxs
        have TY := Lib.hid fun W => ref_trim13 y0 W (by omega)
        have HFX := Lib.hid hfx
        have HFY := Lib.hid hfy
        have HEQ := Lib.hid (show fieldR [] l = if l.take i = [] then none else some (smallF (l.take i), smallF (trimF (l.drop (i + 1)))) by rw [← HF.out, fieldR, if_pos h58])
        clear h58 hx0 hy0 hfx hfy hxs
        by_cases h0 : 0 < i
        · have h0i : decide ((0 : Int) < (i : Int)) = true := decide_eq_true (by omega)
          have H0N := Lib.hid (show decide (0 < i) = true from decide_eq_true (by omega))
          have HNE := Lib.hid (show l.take i ≠ [] by intro e; have := congrArg List.length e; rw [List.length_take, HLN.out] at this; simp only [List.length_nil] at this; omega)
          clear h0
          go_upto_region 6 with fail
          go_region_held3 (fun _ => True) (trivial) ((first
            | (go_at_call 63; with_reducible refine (SX.out _).mono ?_; rintro e w1 ⟨⟨r1, rfl, hr1⟩, hu1⟩; have HR1 := Lib.hid hr1; have HU1 := Lib.hid ((HU.out.drew).trans hu1 fun _ _ h => h); clear hr1 hu1)
            | (go_at_call 64; with_reducible refine (TY.out _).mono ?_; rintro e w2 ⟨⟨r2, rfl, hr2⟩, rfl⟩; have hr2s : r2.size ≤ 140737488355328 := (by rw [← bytesOf_len, hr2]; have := trimF_len (bytesOf y0); rw [bytesOf_len] at this; omega); have HR2 := Lib.hid hr2; clear hr2)
            | (go_at_call 63; with_reducible refine (ref_small13 r2 _ hr2s).mono ?_; rintro e w3 ⟨⟨r3, rfl, hr3⟩, hu3⟩; have HR3 := Lib.hid hr3; have HU3 := Lib.hid (HU1.out.trans hu3 fun _ _ h => h); clear hr3 hu3)))
          go_wp2_with fail
          refine bodyPost_ret (results_tmp3 rfl _ _ _) rfl ?_
          refine ⟨HU3.out, .inr ⟨_, r1, r3, by rw [HEQ.out, if_neg HNE.out], by rw [HR1.out, HFX.out], by rw [HR3.out, HR2.out, HFY.out], congrArg (fun b => Ending.returned (.tuple #[.string r1, .string r3, .bool b])) H0N.out⟩⟩
        · have h0i : decide ((0 : Int) < (i : Int)) = false := decide_eq_false (by omega)
          have H0N := Lib.hid (show decide (0 < i) = false from decide_eq_false (by omega))
          have HNE := Lib.hid (show l.take i = [] by rw [show i = 0 by omega]; rfl)
          clear h0
          go_upto_region 6 with fail
          go_region_held3 (fun _ => True) (trivial) ((first
            | (go_at_call 63; with_reducible refine (SX.out _).mono ?_; rintro e w1 ⟨⟨r1, rfl, hr1⟩, hu1⟩; have HR1 := Lib.hid hr1; have HU1 := Lib.hid ((HU.out.drew).trans hu1 fun _ _ h => h); clear hr1 hu1)
            | (go_at_call 64; with_reducible refine (TY.out _).mono ?_; rintro e w2 ⟨⟨r2, rfl, hr2⟩, rfl⟩; have hr2s : r2.size ≤ 140737488355328 := (by rw [← bytesOf_len, hr2]; have := trimF_len (bytesOf y0); rw [bytesOf_len] at this; omega); have HR2 := Lib.hid hr2; clear hr2)
            | (go_at_call 63; with_reducible refine (ref_small13 r2 _ hr2s).mono ?_; rintro e w3 ⟨⟨r3, rfl, hr3⟩, hu3⟩; have HR3 := Lib.hid hr3; have HU3 := Lib.hid (HU1.out.trans hu3 fun _ _ h => h); clear hr3 hu3)))
          go_wp2_with fail
          refine bodyPost_ret (results_tmp3 rfl _ _ _) rfl ?_
          exact ⟨HU3.out, .inl ⟨by rw [HEQ.out, if_pos HNE.out], r1, r3, congrArg (fun b => Ending.returned (.tuple #[.string r1, .string r3, .bool b])) H0N.out⟩⟩
      have e58 : ((b : Int) == 58) = false := by rw [beq_eq_false_iff_ne]; omega
      have H58 := Lib.hid h58
      have hrng : b < 45 ∨ b = 45 ∨ (45 < b ∧ b < 48) ∨ (48 ≤ b ∧ b ≤ 57) ∨ (58 < b ∧ b < 65) ∨ (65 ≤ b ∧ b ≤ 90) ∨ (90 < b ∧ b < 97) ∨ (97 ≤ b ∧ b ≤ 122) ∨ 122 < b := by omega
      clear h58
      rcases hrng with hrng | hrng | hrng | hrng | hrng | hrng | hrng | hrng | hrng
      · have d1 : decide ((b : Int) < 97) = true := decide_eq_true (by omega)
        have d2 : decide ((122 : Int) < (b : Int)) = false := decide_eq_false (by omega)
        have d3 : decide ((b : Int) < 65) = true := decide_eq_true (by omega)
        have d4 : decide ((90 : Int) < (b : Int)) = false := decide_eq_false (by omega)
        have d5 : decide ((b : Int) < 48) = true := decide_eq_true (by omega)
        have d6 : decide ((57 : Int) < (b : Int)) = false := decide_eq_false (by omega)
        have d7 : ((b : Int) != 45) = true := by simp; omega
        have ho : oddR b = true := by unfold oddR; simp; omega
        have HV := Lib.hid (show fieldR [] l = none by rw [← HF.out, fieldR, if_neg H58.out, if_pos ho])
        clear hrng ho
        go_wp2_with fail
        refine bodyPost_ret (results_tmp3 rfl _ _ _) rfl ?_
        exact ⟨HU.out, .inl ⟨HV.out, _, _, rfl⟩⟩
      · have d1 : decide ((b : Int) < 97) = true := decide_eq_true (by omega)
        have d2 : decide ((122 : Int) < (b : Int)) = false := decide_eq_false (by omega)
        have d3 : decide ((b : Int) < 65) = true := decide_eq_true (by omega)
        have d4 : decide ((90 : Int) < (b : Int)) = false := decide_eq_false (by omega)
        have d5 : decide ((b : Int) < 48) = true := decide_eq_true (by omega)
        have d6 : decide ((57 : Int) < (b : Int)) = false := decide_eq_false (by omega)
        have d7 : ((b : Int) != 45) = false := by simp; omega
        have ho : oddR b = false := by unfold oddR; simp; omega
        have HV := Lib.hid (show fieldR (l.take (i + 1)) (l.drop (i + 1)) = fieldR [] l by rw [← HF.out, fieldR, if_neg H58.out, if_neg (by rw [ho]; simp), HTK.out])
        clear hrng ho
        go_wp2_with fail
        refine ⟨⟨i + 1, by omega, by rfl, HV.out, HU.out⟩, ?_⟩
        simp only [intOf]; omega
      · have d1 : decide ((b : Int) < 97) = true := decide_eq_true (by omega)
        have d2 : decide ((122 : Int) < (b : Int)) = false := decide_eq_false (by omega)
        have d3 : decide ((b : Int) < 65) = true := decide_eq_true (by omega)
        have d4 : decide ((90 : Int) < (b : Int)) = false := decide_eq_false (by omega)
        have d5 : decide ((b : Int) < 48) = true := decide_eq_true (by omega)
        have d6 : decide ((57 : Int) < (b : Int)) = false := decide_eq_false (by omega)
        have d7 : ((b : Int) != 45) = true := by simp; omega
        have ho : oddR b = true := by unfold oddR; simp; omega
        have HV := Lib.hid (show fieldR [] l = none by rw [← HF.out, fieldR, if_neg H58.out, if_pos ho])
        clear hrng ho
        go_wp2_with fail
        refine bodyPost_ret (results_tmp3 rfl _ _ _) rfl ?_
        exact ⟨HU.out, .inl ⟨HV.out, _, _, rfl⟩⟩
      · have d1 : decide ((b : Int) < 97) = true := decide_eq_true (by omega)
        have d2 : decide ((122 : Int) < (b : Int)) = false := decide_eq_false (by omega)
        have d3 : decide ((b : Int) < 65) = true := decide_eq_true (by omega)
        have d4 : decide ((90 : Int) < (b : Int)) = false := decide_eq_false (by omega)
        have d5 : decide ((b : Int) < 48) = false := decide_eq_false (by omega)
        have d6 : decide ((57 : Int) < (b : Int)) = false := decide_eq_false (by omega)
        have d7 : ((b : Int) != 45) = true := by simp; omega
        have ho : oddR b = false := by unfold oddR; simp; omega
        have HV := Lib.hid (show fieldR (l.take (i + 1)) (l.drop (i + 1)) = fieldR [] l by rw [← HF.out, fieldR, if_neg H58.out, if_neg (by rw [ho]; simp), HTK.out])
        clear hrng ho
        go_wp2_with fail
        refine ⟨⟨i + 1, by omega, by rfl, HV.out, HU.out⟩, ?_⟩
        simp only [intOf]; omega
      · have d1 : decide ((b : Int) < 97) = true := decide_eq_true (by omega)
        have d2 : decide ((122 : Int) < (b : Int)) = false := decide_eq_false (by omega)
        have d3 : decide ((b : Int) < 65) = true := decide_eq_true (by omega)
        have d4 : decide ((90 : Int) < (b : Int)) = false := decide_eq_false (by omega)
        have d5 : decide ((b : Int) < 48) = false := decide_eq_false (by omega)
        have d6 : decide ((57 : Int) < (b : Int)) = true := decide_eq_true (by omega)
        have d7 : ((b : Int) != 45) = true := by simp; omega
        have ho : oddR b = true := by unfold oddR; simp; omega
        have HV := Lib.hid (show fieldR [] l = none by rw [← HF.out, fieldR, if_neg H58.out, if_pos ho])
        clear hrng ho
        go_wp2_with fail
        refine bodyPost_ret (results_tmp3 rfl _ _ _) rfl ?_
        exact ⟨HU.out, .inl ⟨HV.out, _, _, rfl⟩⟩
      · have d1 : decide ((b : Int) < 97) = true := decide_eq_true (by omega)
        have d2 : decide ((122 : Int) < (b : Int)) = false := decide_eq_false (by omega)
        have d3 : decide ((b : Int) < 65) = false := decide_eq_false (by omega)
        have d4 : decide ((90 : Int) < (b : Int)) = false := decide_eq_false (by omega)
        have d5 : decide ((b : Int) < 48) = false := decide_eq_false (by omega)
        have d6 : decide ((57 : Int) < (b : Int)) = true := decide_eq_true (by omega)
        have d7 : ((b : Int) != 45) = true := by simp; omega
        have ho : oddR b = false := by unfold oddR; simp; omega
        have HV := Lib.hid (show fieldR (l.take (i + 1)) (l.drop (i + 1)) = fieldR [] l by rw [← HF.out, fieldR, if_neg H58.out, if_neg (by rw [ho]; simp), HTK.out])
        clear hrng ho
        go_wp2_with fail
        refine ⟨⟨i + 1, by omega, by rfl, HV.out, HU.out⟩, ?_⟩
        simp only [intOf]; omega
      · have d1 : decide ((b : Int) < 97) = true := decide_eq_true (by omega)
        have d2 : decide ((122 : Int) < (b : Int)) = false := decide_eq_false (by omega)
        have d3 : decide ((b : Int) < 65) = false := decide_eq_false (by omega)
        have d4 : decide ((90 : Int) < (b : Int)) = true := decide_eq_true (by omega)
        have d5 : decide ((b : Int) < 48) = false := decide_eq_false (by omega)
        have d6 : decide ((57 : Int) < (b : Int)) = true := decide_eq_true (by omega)
        have d7 : ((b : Int) != 45) = true := by simp; omega
        have ho : oddR b = true := by unfold oddR; simp; omega
        have HV := Lib.hid (show fieldR [] l = none by rw [← HF.out, fieldR, if_neg H58.out, if_pos ho])
        clear hrng ho
        go_wp2_with fail
        refine bodyPost_ret (results_tmp3 rfl _ _ _) rfl ?_
        exact ⟨HU.out, .inl ⟨HV.out, _, _, rfl⟩⟩
      · have d1 : decide ((b : Int) < 97) = false := decide_eq_false (by omega)
        have d2 : decide ((122 : Int) < (b : Int)) = false := decide_eq_false (by omega)
        have d3 : decide ((b : Int) < 65) = false := decide_eq_false (by omega)
        have d4 : decide ((90 : Int) < (b : Int)) = true := decide_eq_true (by omega)
        have d5 : decide ((b : Int) < 48) = false := decide_eq_false (by omega)
        have d6 : decide ((57 : Int) < (b : Int)) = true := decide_eq_true (by omega)
        have d7 : ((b : Int) != 45) = true := by simp; omega
        have ho : oddR b = false := by unfold oddR; simp; omega
        have HV := Lib.hid (show fieldR (l.take (i + 1)) (l.drop (i + 1)) = fieldR [] l by rw [← HF.out, fieldR, if_neg H58.out, if_neg (by rw [ho]; simp), HTK.out])
        clear hrng ho
        go_wp2_with fail
        refine ⟨⟨i + 1, by omega, by rfl, HV.out, HU.out⟩, ?_⟩
        simp only [intOf]; omega
      · have d1 : decide ((b : Int) < 97) = false := decide_eq_false (by omega)
        have d2 : decide ((122 : Int) < (b : Int)) = true := decide_eq_true (by omega)
        have d3 : decide ((b : Int) < 65) = false := decide_eq_false (by omega)
        have d4 : decide ((90 : Int) < (b : Int)) = true := decide_eq_true (by omega)
        have d5 : decide ((b : Int) < 48) = false := decide_eq_false (by omega)
        have d6 : decide ((57 : Int) < (b : Int)) = true := decide_eq_true (by omega)
        have d7 : ((b : Int) != 45) = true := by simp; omega
        have ho : oddR b = true := by unfold oddR; simp; omega
        have HV := Lib.hid (show fieldR [] l = none by rw [← HF.out, fieldR, if_neg H58.out, if_pos ho])
        clear hrng ho
        go_wp2_with fail
        refine bodyPost_ret (results_tmp3 rfl _ _ _) rfl ?_
        exact ⟨HU.out, .inl ⟨HV.out, _, _, rfl⟩⟩
    · have hii : ¬ (i : Int) < (s.size : Int) := by omega
      rw [List.drop_eq_nil_of_le (by rw [HLN.out]; omega), fieldR] at hf
      have HF := Lib.hid hf
      clear hf hu
      go_wp2_with fail
      refine bodyPost_ret (results_tmp3 rfl _ _ _) rfl ?_
      exact ⟨HU.out, .inl ⟨HF.out.symm, _, _, rfl⟩⟩
end Go.Proofs.YtbiapeplkegjlaaGreatDoor
namespace Go.Proofs.YtbiapeplkegjlaaGreatDoor
open Go.RowKit Go.Cx Go.Maps

def ValsIs (fl : Option (List (List Nat × List Nat))) (nm : List Nat) (w : World) (e : Ending) (w' : World) : Prop :=
  Upd Nix w w' ∧ ((fl = none ∧ e = .returned (.tuple #[.slice none 0 0, .bool false])) ∨ ∃ (fs : List (List Nat × List Nat)) (A : Option Addr) (m c : Nat) (ss : List ByteArray), fl = some fs ∧ e = .returned (.tuple #[.slice A m c, .bool true]) ∧ w'.ownsRow w.heap.size 9 1 (.slice A m c) m (ss.map Value.string) ∧ ss.map bytesOf = valuesOf fs nm)
theorem str_eq5 (a b : ByteArray) : (a.toList == b.toList) = decide (bytesOf a = bytesOf b) := by
  by_cases h : a = b
  · subst h; simp
  · rw [decide_eq_false (fun e => h (bytesOf_inj e))]
    rw [beq_eq_false_iff_ne]
    intro e
    apply h
    apply bytesOf_inj
    unfold bytesOf
    rw [Lib.toList_data, Lib.toList_data] at e
    rw [e]
set_option maxRecDepth 100000 in
set_option maxHeartbeats 3200000 in
theorem ref_values13 (A : Option Addr) (n c : Nat) (ss : List ByteArray) (nm : ByteArray) (B : Nat) (w : World) (hx : Rd w B 1 A n (ss.map Value.string)) (hB : B ≤ w.heap.size) (hn : n ≤ 1000000) (hss : ∀ s ∈ ss, s.size ≤ 1000000) :
    Calls Tryz.prog 29 #[.slice A n c, .string nm] w (ValsIs (fieldsL (ss.map bytesOf)) (bytesOf nm) w) := by
  obtain ⟨i0, hi0, hz0, hz1, hz2⟩ := info_parts infoStr13
  have hlen := hx.1
  simp only [List.length_map, Nat.mul_one] at hlen
  have HX := Lib.hid hx
  have HLEN := Lib.hid hlen
  have HSS := Lib.hid hss
  clear hx hlen hss
  go_enter Tryz.func29, Tryz.ntmps29
  go_wp2_with fail
  go_loopw [6, 14] (fun s6 s14 wr => ∃ (k : Nat) (A1 : Option Addr) (m1 c1 : Nat) (os : List ByteArray) (fs : List (List Nat × List Nat)), k ≤ n ∧ s14 = .int .i64 k ∧ s6 = .slice A1 m1 c1 ∧ wr.ownsRow w.heap.size 9 1 (.slice A1 m1 c1) m1 (os.map Value.string) ∧ fieldsL ((ss.map bytesOf).take k) = some fs ∧ os.map bytesOf = valuesOf fs (bytesOf nm) ∧ m1 ≤ k ∧ Upd Nix w wr) (fun _ s14 _ => n - (intOf s14).toNat)
  case atStart => exact ⟨0, none, 0, 0, [], [], Nat.zero_le _, rfl, rfl, ⟨rfl, .inl ⟨rfl, rfl⟩⟩, rfl, rfl, Nat.le_refl _, Upd.refl _ _⟩
  case round =>
    obtain ⟨k, A1, m1, c1, os, fs, hk, rfl, rfl, ho, hfs, hos, hmk, hu⟩ := hrel
    have HO := Lib.hid ho
    have HFS := Lib.hid hfs
    have HOS := Lib.hid hos
    have HU := Lib.hid hu
    clear ho hfs hos hu
    by_cases hkn : k < n
    · have hki : (k : Int) < (n : Int) := by omega
      obtain ⟨s, hs⟩ : ∃ s, ss[k]? = some s := ⟨_, List.getElem?_eq_getElem (by rw [HLEN.out]; exact hkn)⟩
      obtain ⟨ad, rfl, hBl, hcl⟩ := HX.out.2 (by omega)
      have hcell : wr.cell? (ad.add k) = some (.string s) := (HU.out.cell (p := ad.add k) (by rw [block_add]; omega) (fun h => h)).trans (hcl k _ (by rw [List.getElem?_map, hs]; rfl))
      have hsz := HSS.out s (List.mem_of_getElem? hs)
      have hstep : fieldsL ((ss.map bytesOf).take (k + 1)) = match fieldL (bytesOf s) with | some fd => some (fs ++ [fd]) | none => none := by
        rw [List.take_add_one, List.getElem?_map, hs]
        show fieldsL (_ ++ [bytesOf s]) = _
        rw [fieldsL_snoc, HFS.out]
        cases fieldL (bytesOf s) <;> rfl
      have HSTEP := Lib.hid hstep
      have hfe := field_eq (bytesOf s) fun c hc => bytesOf_lt s c hc
      have HFE := Lib.hid hfe
      clear hs hcl hstep hfe
      go_wp2_with fail
      refine (ref_field13 s wr hsz).mono ?_
      rintro e w1 ⟨hu1, ⟨hno, x, y, rfl⟩ | ⟨f, x, y, hf, hx1, hy1, rfl⟩⟩
      · rw [HFE.out] at hno
        have HNO := Lib.hid hno
        have HU1 := Lib.hid (HU.out.trans hu1 fun _ _ h => h)
        clear hno hu1
        go_wp2_with fail
        go_ret2
        exact ⟨HU1.out, .inl ⟨fieldsL_none _ (k + 1) (by rw [HSTEP.out, HNO.out]), rfl⟩⟩
      · rw [HFE.out] at hf
        have HF := Lib.hid hf
        have HX1 := Lib.hid hx1
        have HY1 := Lib.hid hy1
        have HU1 := Lib.hid (HU.out.trans hu1 fun _ _ h => h)
        have HO1 := Lib.hid (own_upd' HO.out hu1 fun _ _ h => h)
        have hsz1 := HU1.out.size
        clear hf hx1 hy1 hu1
        by_cases hq : f.1 = bytesOf nm
        · have hqe : (x.toList == nm.toList) = true := by rw [str_eq5, HX1.out]; exact decide_eq_true hq
          have HV := Lib.hid (show valuesOf (fs ++ [f]) (bytesOf nm) = valuesOf fs (bytesOf nm) ++ [bytesOf y] by
            unfold valuesOf
            rw [List.filter_append, List.map_append, List.filter_cons, if_pos (decide_eq_true hq), List.filter_nil, HY1.out]; rfl)
          clear hq
          go_wp2_with (at_builtin; refine wpList_app _ rfl (.tmp 29) (.tmp 31) 40 rfl w.heap.size 9 i0 _ 1 16 Tryz.underlying40 hi0 hz0 hz1 hz2 rfl (by omega) (.slice A1 m1 c1) m1 (os.map Value.string) rfl (HO1.out.alloc _) (w1.heap.size + 1) (some ⟨w1.heap.size, 0, none⟩) 1 1 [.string y] rfl (Rd.lit1 _ _ _) (by intro u hu; simp only [List.mem_singleton] at hu; subst hu; rfl) (by unfold maxLen; omega) (by omega) (by simp; omega) ?_; intro A5 c5 w5 hown5 hg5 hat5)
          have hu5 : Upd Nix w w5 := (HU1.out.alloc _).grown hg5 fun b hb hlt => by have := own_ge13 HO1.out b hb; omega
          refine ⟨⟨k + 1, A5, m1 + 1, c5, os ++ [y], fs ++ [f], by omega, by rfl, rfl, by rw [List.map_append]; exact hown5, by rw [HSTEP.out, HF.out], by rw [List.map_append, HOS.out, HV.out]; rfl, by omega, hu5⟩, ?_⟩
          simp only [intOf]; omega
        · have hqe : (x.toList == nm.toList) = false := by rw [str_eq5, HX1.out]; exact decide_eq_false hq
          have HV := Lib.hid (show valuesOf (fs ++ [f]) (bytesOf nm) = valuesOf fs (bytesOf nm) by
            unfold valuesOf
            rw [List.filter_append, List.filter_cons, if_neg (by simp [hq]), List.filter_nil, List.append_nil])
          clear hq
          go_wp2_with fail
          refine ⟨⟨k + 1, A1, m1, c1, os, fs ++ [f], by omega, by rfl, rfl, HO1.out, by rw [HSTEP.out, HF.out], by rw [HOS.out, HV.out], by omega, HU1.out⟩, ?_⟩
          simp only [intOf]; omega
    · have hki : ¬ (k : Int) < (n : Int) := by omega
      rw [List.take_of_length_le (by rw [List.length_map, HLEN.out]; omega)] at HFS
      go_wp2_with fail
      go_ret2
      exact ⟨HU.out, .inr ⟨fs, A1, m1, c1, os, HFS.out, rfl, HO.out, HOS.out⟩⟩
end Go.Proofs.YtbiapeplkegjlaaGreatDoor
