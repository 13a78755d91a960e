/- Data of records: the walks of whole, mail, texts, options. -/
import Derived.Test.YtlhbikdelbollaaNameB
import Derived.Test.YtlhbikdelbollaaRdataL
namespace Go.Proofs.Ytlhbikdelbollaa
open Go.RowKit Go.Cx Go.Maps

def sliceLen : Value → Nat
  | .slice _ n _ => n
  | _ => 0
/-- a slice of bytes that can be read -/
structure Sl (w : World) (B : Nat) (A : Option Addr) (n c : Nat) (l : List Nat) : Prop where
  nc : n ≤ c
  len : n ≤ 140737488355328
  rd : Rd w B 1 A n (byts l)
  bytes : ∀ b ∈ l, b < 256
theorem Sl.below {w w' : World} {B n c : Nat} {A : Option Addr} {l : List Nat} (h : Sl w B A n c l) (k : Below B w w') : Sl w' B A n c l := ⟨h.nc, h.len, h.rd.below k, h.bytes⟩
theorem Sl.upd {w w' : World} {n c : Nat} {A : Option Addr} {l : List Nat} (h : Sl w w.heap.size A n c l) (k : Upd Nix w w') : Sl w' w'.heap.size A n c l := ⟨h.nc, h.len, (h.rd.below (Upd.belowNix k (Nat.le_refl _))).more k.size, h.bytes⟩
theorem Sl.drewN {w : World} {B n c : Nat} {A : Option Addr} {l : List Nat} (h : Sl w B A n c l) (k : Nat) : Sl (w.drewN k) B A n c l := ⟨h.nc, h.len, h.rd, h.bytes⟩
theorem Sl.more {w : World} {B B' n c : Nat} {A : Option Addr} {l : List Nat} (h : Sl w B A n c l) (hB : B ≤ B') : Sl w B' A n c l := ⟨h.nc, h.len, h.rd.more hB, h.bytes⟩
theorem Sl.llen {w : World} {B n c : Nat} {A : Option Addr} {l : List Nat} (h : Sl w B A n c l) : l.length = n := by
  have := h.rd.1
  simpa [byts] using this
theorem Sl.cut {w : World} {B n c : Nat} {A : Option Addr} {l : List Nat} (h : Sl w B A n c l) {k : Nat} (hk : k ≤ n) : Sl w B (if c = k then A else A.map (·.add k)) (n - k) (c - k) (l.drop k) := by
  refine ⟨by have := h.nc; omega, by have := h.len; omega, ?_, fun b hb => h.bytes b (List.mem_of_mem_drop hb)⟩
  have := h.rd.cut hk h.nc
  simpa [byts] using this
theorem Sl.front {w : World} {B n c : Nat} {A : Option Addr} {l : List Nat} (h : Sl w B A n c l) {k : Nat} (hk : k ≤ n) : Sl w B A k c (l.take k) := by
  refine ⟨by have := h.nc; omega, by have := h.len; omega, ?_, fun b hb => h.bytes b (List.mem_of_mem_take hb)⟩
  have := h.rd.front hk
  simpa [byts] using this
theorem Sl.cell {w : World} {B n c i b : Nat} {A : Option Addr} {l : List Nat} (h : Sl w B A n c l) (hb : l[i]? = some b) : ∃ ad, A = some ad ∧ ad.block < B ∧ w.cell? (ad.add i) = some (.int .u8 b) := by
  have hi : i < n := by
    have := (List.getElem?_eq_some_iff.1 hb).1
    have := h.llen
    omega
  obtain ⟨ad, hA, hB, hc⟩ := h.rd.2 (by omega)
  exact ⟨ad, hA, hB, hc i _ (by rw [byts, List.getElem?_map, hb]; rfl)⟩
theorem Sl.cut1 {w : World} {B n c : Nat} {A : Option Addr} {l : List Nat} (h : Sl w B A n c l) {k : Nat} (hk : k ≤ n) (h0 : k ≠ 0) (hc : k ≠ c) : Sl w B (A.map fun x => ⟨x.block, x.off + k, none⟩) (n - k) (c - k) (l.drop k) := by
  have := h.cut hk
  rw [if_neg (Ne.symm hc)] at this
  have he : (fun x : Addr => x.add k) = fun x => ⟨x.block, x.off + k, none⟩ := by
    funext x
    unfold Addr.add
    rw [if_neg h0]
  rwa [he] at this
theorem Sl.cell0 {w : World} {B n c k : Nat} {A : Option Addr} {t : List Nat} (h : Sl w B A n c (k :: t)) : ∃ ad, A = some ad ∧ ad.block < B ∧ w.cell? ad = some (.int .u8 k) := by
  obtain ⟨ad, hA, hB, hc⟩ := h.cell (i := 0) (b := k) rfl
  refine ⟨ad, hA, hB, ?_⟩
  have : ad.add 0 = ad := by unfold Addr.add; rw [if_pos rfl]
  rwa [this] at hc
theorem Sl.cellk {w : World} {B n c i b : Nat} {A : Option Addr} {l : List Nat} (h : Sl w B A n c l) (hb : l[i]? = some b) (h0 : i ≠ 0) : ∃ ad, A = some ad ∧ ad.block < B ∧ w.cell? ⟨ad.block, ad.off + i, none⟩ = some (.int .u8 b) := by
  obtain ⟨ad, hA, hB, hc⟩ := h.cell hb
  refine ⟨ad, hA, hB, ?_⟩
  have : ad.add i = ⟨ad.block, ad.off + i, none⟩ := by unfold Addr.add; rw [if_neg h0]
  rwa [this] at hc
theorem strN_size (l : List Nat) : (strN l).size = l.length := by
  have : (strN l).data.toList.length = (strN l).size := Array.length_toList
  rw [← this, strN, strOfNums_data]
  simp

set_option maxRecDepth 100000 in
set_option maxHeartbeats 1600000 in
theorem rdata_whole (A : Option Addr) (n c : Nat) (l : List Nat) (w : World) (h : Sl w w.heap.size A n c l) :
    Calls Try.prog 69 #[.slice A n c] w fun e w' => e = .returned (.bool (canL l)) ∧ Upd Nix w w' := by
  have k1 := run_conv w h.rd c
  have hs := strN_size l
  have hl := h.llen
  have hn := h.len
  have hbs := bytesOf_strN h.bytes
  rw [hl] at hs
  go_enter Try.func69, Try.ntmps69
  go_wp2_with fail
  refine (name_can (strN l) w (by omega)).mono ?_
  rw [hbs]
  rintro e w1 ⟨rfl, hu⟩
  have HU := Lib.hid hu
  clear hu
  go_wp2_with fail
  go_ret
  exact ⟨rfl, HU.out⟩

set_option maxRecDepth 100000 in
set_option maxHeartbeats 1600000 in
theorem rdata_mail (A : Option Addr) (n c : Nat) (l : List Nat) (w : World) (h : Sl w w.heap.size A n c l) :
    Calls Try.prog 70 #[.slice A n c] w fun e w' => e = .returned (.bool (mailL l)) ∧ Upd Nix w w' := by
  have hl := h.llen
  have hnc := h.nc
  have H := Lib.hid h
  clear h
  go_enter Try.func70, Try.ntmps70
  by_cases h2 : 2 < n
  · have h2i : (2 : Int) < (n : Int) := by omega
    have hm : mailL l = canL (l.drop 2) := by unfold mailL; rw [decide_eq_true (by omega), Bool.true_and]
    have HM := Lib.hid hm
    clear hm
    go_wp2_with fail
    refine (rdata_whole _ _ _ _ w (H.out.cut1 (k := 2) (by omega) (by omega) (by omega))).mono ?_
    rw [← HM.out]
    rintro e w1 ⟨rfl, hu⟩
    have HU := Lib.hid hu
    clear hu
    go_wp2_with fail
    go_ret
    exact ⟨rfl, HU.out⟩
  · have h2i : decide ((2 : Int) < (n : Int)) = false := decide_eq_false (by omega)
    have hm : mailL l = false := by unfold mailL; rw [decide_eq_false (by omega), Bool.false_and]
    have HM := Lib.hid hm
    clear hm
    go_wp2_with fail
    go_ret
    rw [HM.out]
    exact ⟨rfl, Upd.refl _ _⟩

set_option maxRecDepth 100000 in
set_option maxHeartbeats 1600000 in
theorem rdata_texts (A : Option Addr) (n c : Nat) (l : List Nat) (w : World) (h : Sl w w.heap.size A n c l) :
    Calls Try.prog 71 #[.slice A n c] w fun e w' => e = .returned (.bool (textsL l)) ∧ Upd Nix w w' := by
  have hl := h.llen
  have hnc := h.nc
  have H := Lib.hid h
  clear h
  go_enter Try.func71, Try.ntmps71
  go_wp2_with fail
  go_loopw [0] (fun s0 wr => w = wr ∧ ∃ (A' : Option Addr) (n' c' : Nat) (l' : List Nat), s0 = .slice A' n' c' ∧ Sl w w.heap.size A' n' c' l' ∧ textsOk l' = textsOk l) (fun s0 _ => sliceLen s0)
  case atStart => exact ⟨rfl, A, n, c, l, rfl, H.out, rfl⟩
  case round =>
    obtain ⟨rfl, A', n', c', l', rfl, h', ht⟩ := hrel
    have hl' := h'.llen
    have hnc' := h'.nc
    have H' := Lib.hid h'
    have HT := Lib.hid ht
    clear h' ht
    rcases hlc : l' with _ | ⟨k, t⟩
    · subst hlc
      have h0 : ¬ (0 : Int) < (n' : Int) := by simp at hl'; omega
      have hv : textsL l = decide (0 < n) := by
        unfold textsL
        rw [← HT.out, textsOk_nil, Bool.and_true]
        congr 1
        rw [← hl]
        exact propext List.length_pos_iff.symm
      have HV := Lib.hid hv
      clear hv
      go_wp2_with fail
      go_ret
      rw [HV.out]
      exact ⟨rfl, Upd.refl _ _⟩
    · have h0 : (0 : Int) < (n' : Int) := by rw [hlc] at hl'; simp at hl'; omega
      subst hlc
      obtain ⟨ad, rfl, hB, hcell⟩ := H'.out.cell0
      have hk256 := H'.out.bytes k (by simp)
      simp only [List.length_cons] at hl'
      by_cases hk : n' < 1 + k
      · have hki : (n' : Int) < 1 + (k : Int) := by omega
        have hv : textsL l = false := by
          unfold textsL
          rw [← HT.out, textsOk_cons, if_pos (by omega), Bool.and_false]
        have HV := Lib.hid hv
        clear hv
        go_wp2_with fail
        go_ret
        rw [HV.out]
        exact ⟨rfl, Upd.refl _ _⟩
      · have hki : ¬ (n' : Int) < 1 + (k : Int) := by omega
        have hcut := H'.out.cut (k := 1 + k) (by omega)
        have hdr : (k :: t).drop (1 + k) = t.drop k := by rw [Nat.add_comm]; rfl
        rw [hdr] at hcut
        have htx : textsOk (t.drop k) = textsOk l := by rw [← HT.out, textsOk_cons, if_neg (by omega)]
        have HC := Lib.hid hcut
        have HTX := Lib.hid htx
        clear hcut hdr htx
        go_wp2_with fail
        refine ⟨⟨trivial, _, _, _, t.drop k, rfl, HC.out, HTX.out⟩, ?_⟩
        simp only [sliceLen]
        omega

theorem four_of {l : List Nat} (h : 4 ≤ l.length) : ∃ a b x y t, l = a :: b :: x :: y :: t := by
  match l, h with
  | a :: b :: x :: y :: t, _ => exact ⟨a, b, x, y, t, rfl⟩
  | [], h => simp at h
  | [_], h => simp at h
  | [_, _], h => simp at h
  | [_, _, _], h => simp at h
theorem or8 {x y : Nat} (hx : x < 1099511627776) (hy : y < 256) : bits .or .i64 ((x : Int) * 256) (y : Int) = ((x * 256 + y : Nat) : Int) := by
  have h0 : ((x : Int) * 256) = ((x * 256 : Nat) : Int) := by omega
  rw [h0]
  show IntKind.i64.wrap ((BitVec.ofInt 64 ((x * 256 : Nat) : Int) ||| BitVec.ofInt 64 (y : Int)).toNat : Int) = _
  rw [BitVec.toNat_or, BitVec.ofInt_natCast, BitVec.ofInt_natCast, BitVec.toNat_ofNat, BitVec.toNat_ofNat, Nat.mod_eq_of_lt (by omega), Nat.mod_eq_of_lt (by omega)]
  have h1 : x * 256 ||| y = x * 256 + y := by
    have := Nat.two_pow_add_eq_or_of_lt (i := 8) (b := y) (by omega) x
    rw [Nat.mul_comm x 256]
    exact this.symm
  rw [h1, IntKind.wrap_i64]
  omega
set_option maxRecDepth 100000 in
set_option maxHeartbeats 1600000 in
theorem rdata_options (A : Option Addr) (n c : Nat) (l : List Nat) (w : World) (h : Sl w w.heap.size A n c l) :
    Calls Try.prog 72 #[.slice A n c] w fun e w' => e = .returned (.bool (optionsL l)) ∧ Upd Nix w w' := by
  have hl := h.llen
  have hnc := h.nc
  have H := Lib.hid h
  clear h
  go_enter Try.func72, Try.ntmps72
  go_wp2_with fail
  go_loopw [0] (fun s0 wr => Upd Nix w wr ∧ ∃ (A' : Option Addr) (n' c' : Nat) (l' : List Nat), s0 = .slice A' n' c' ∧ Sl wr wr.heap.size A' n' c' l' ∧ optionsL l' = optionsL l) (fun s0 _ => sliceLen s0)
  case atStart => exact ⟨Upd.refl _ _, A, n, c, l, rfl, H.out, rfl⟩
  case round =>
    obtain ⟨hu, A', n', c', l', rfl, h', ht⟩ := hrel
    have hl' := h'.llen
    have hnc' := h'.nc
    have H' := Lib.hid h'
    have HT := Lib.hid ht
    have HU := Lib.hid hu
    clear h' ht hu
    by_cases h0 : l' = []
    · subst h0
      have h0 : ¬ (0 : Int) < (n' : Int) := by simp at hl'; omega
      have hv : optionsL l = true := by rw [← HT.out, optionsL_nil]
      have HV := Lib.hid hv
      clear hv
      go_wp2_with fail
      go_ret
      rw [HV.out]
      exact ⟨rfl, HU.out⟩
    · have hpos := List.length_pos_iff.2 h0
      have h0i : (0 : Int) < (n' : Int) := by omega
      by_cases h4 : n' < 4
      · have h4i : (n' : Int) < 4 := by omega
        have hv : optionsL l = false := by rw [← HT.out, optionsL_short h0 (by omega)]
        have HV := Lib.hid hv
        clear hv
        go_wp2_with fail
        go_ret
        rw [HV.out]
        exact ⟨rfl, HU.out⟩
      · have h4i : ¬ (n' : Int) < 4 := by omega
        obtain ⟨a, b, x, y, t, rfl⟩ := four_of (l := l') (by omega)
        have h2i : (2 : Int) < (n' : Int) := by omega
        have h3i : (3 : Int) < (n' : Int) := by omega
        obtain ⟨ad, rfl, hB, hc2⟩ := H'.out.cellk (i := 2) (b := x) rfl (by omega)
        obtain ⟨ad', had, _, hc3⟩ := H'.out.cellk (i := 3) (b := y) rfl (by omega)
        injection had with had
        subst had
        have hx := H'.out.bytes x (by simp)
        have hy := H'.out.bytes y (by simp)
        simp only [List.length_cons] at hl'
        clear h0 hpos
        have hor : wrap64 (4 + bits .or .i64 ((x : Int) * 256) (y : Int)) = ((4 + (x * 256 + y) : Nat) : Int) := by
          rw [or8 (by omega) hy]
          unfold wrap64
          omega
        have HOR := Lib.hid hor
        clear hor
        go_wp2_with fail
        go_quiet (fail)
        rw [HOR.out]
        have hu2 : Upd Nix w (wr.drewN nq) := HU.out.drewN _
        have hs2 : Sl (wr.drewN nq) (wr.drewN nq).heap.size (some ad) n' c' (a :: b :: x :: y :: t) := H'.out.upd ((Upd.refl _ _).drewN _)
        have HU2 := Lib.hid hu2
        have HS2 := Lib.hid hs2
        clear hu2 hs2 hc2 hc3 hB
        by_cases hk : n' < 4 + (x * 256 + y)
        · have hki : (n' : Int) < ((4 + (x * 256 + y) : Nat) : Int) := by omega
          have hv : optionsL l = false := by rw [← HT.out, optionsL_cons, if_pos (by omega)]
          have HV := Lib.hid hv
          clear hv
          go_wp2_with fail
          go_ret
          rw [HV.out]
          exact ⟨rfl, HU2.out⟩
        · have hki : ¬ (n' : Int) < ((4 + (x * 256 + y) : Nat) : Int) := by omega
          have hcut := HS2.out.cut (k := 4 + (x * 256 + y)) (by omega)
          have hdr : (a :: b :: x :: y :: t).drop (4 + (x * 256 + y)) = t.drop (x * 256 + y) := by rw [Nat.add_comm]; rfl
          rw [hdr] at hcut
          have htx : optionsL (t.drop (x * 256 + y)) = optionsL l := by rw [← HT.out, optionsL_cons, if_neg (by omega)]
          have HC := Lib.hid hcut
          have HTX := Lib.hid htx
          clear hcut hdr htx
          go_wp2_with fail
          refine ⟨⟨HU2.out, _, _, _, t.drop (x * 256 + y), rfl, HC.out, HTX.out⟩, ?_⟩
          simp only [sliceLen]
          omega
end Go.Proofs.Ytlhbikdelbollaa
