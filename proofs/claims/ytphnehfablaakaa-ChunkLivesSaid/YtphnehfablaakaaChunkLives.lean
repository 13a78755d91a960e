/- ChunkLives: the walk. -/
import Derived.Test.YtphnehfablaakaaChunkPair
import Derived.Test.YtphnehfablaakaaOpenBB
import Derived.Lib.SlBytesConst
namespace Go.Proofs.Ytphnehfablaakaa
open Go.RowKit Go.Cx Go.Maps

theorem Both12.upd {w wr wq : World} {r1 r2 : Nat} {v1 v2 : Value} {s : CS} {S : Nat → Prop} (h : Both12 w wr r1 r2 v1 v2 s) (k : Upd S wr wq) (h1 : ∀ b, Foot r1 v1 b → ¬ S b) (h2 : ∀ b, Foot r2 v2 b → ¬ S b) (hS : ∀ b, S b → w.heap.size ≤ b) : Both12 w wq r1 r2 v1 v2 s :=
  ⟨h.cr.upd k h1, h.rr.upd k h2, h.inv, h.apart, h.from1, h.from2, h.below.trans (k.below h.below.size fun b _ hh => hS b hh)⟩

/-- a new block that is a literal's, its cells not to be turned -/
theorem Rd.litF (w : World) (xs : List Value) (e : TypeId) (size n : Nat) (f : Nat × Nat) (h : xs.length = n * size) : Rd (w.alloc (.cells xs.toArray e f)) (w.heap.size + 1) size (some ⟨w.heap.size, 0, none⟩) n xs := by
  refine ⟨h, fun _ => ⟨_, rfl, Nat.lt_succ_self _, fun j u hu => ?_⟩⟩
  have hadd : (⟨w.heap.size, 0, none⟩ : Addr).add j = ⟨w.heap.size, j, none⟩ := by
    unfold Addr.add
    by_cases hj : j = 0
    · simp [hj]
    · simp [hj]
  rw [hadd]
  have hg : (w.alloc (.cells xs.toArray e f)).heap[w.heap.size]? = some (.cells xs.toArray e f) := by
    show (w.heap.push _)[w.heap.size]? = _
    simp
  unfold World.cell?
  simp only [hg]
  simpa using hu

def lit12 : List Nat := [49, 13, 10, 97, 13, 10, 48, 13, 10, 13, 10, 122]
theorem lit12_feed : (feed (new0 9) lit12).1 = (11, true, 0) := by decide +kernel

set_option maxRecDepth 100000 in
set_option maxHeartbeats 3200000 in
theorem chunkLives (most : Int) (A : Option Addr) (n c : Nat) (L : List Row) (w : World) (_hm : (Lit.int .i64 most).wf = true) (hL : L.length = n) (hn : n ≤ 140737488351232) (hr : Rd w w.heap.size 1 A n (L.map Row.val)) (hrow : ∀ r ∈ L, RowIn w w.heap.size r) :
    Calls Try.prog 8 #[.int .i64 most, .slice A n c] w fun e w' => e = .returned (.bool true) ∧ Below w.heap.size w w' := by
  have kc := fun (w : World) (C : Array Value) (n c : Nat) => Lib.run_convert_bytes_const (P := Try.prog) w 57 5 C n c Try.underlying57 Try.underlying5
  have HL := Lib.hid hL
  have HR := Lib.hid hr
  have HROW := Lib.hid hrow
  clear hL hr hrow
  go_enter Try.func8, Try.ntmps8
  go_wp2_with fail
  refine (chunk_new most w).mono ?_
  rintro e w1 ⟨rfl, hc1, hu1, hs1⟩
  go_wp2_with fail
  refine (cr_new most w1).mono ?_
  rintro e w2 ⟨rfl, hc2, hu2, _⟩
  rw [hs1] at hc2
  rw [hs1]
  have hb0 := both_new hc1 hc2 hu1 hu2 hs1
  have HB0 := Lib.hid hb0
  clear hc1 hc2 hu1 hu2 hb0 hs1
  go_wp2_with fail
  go_loopw [24] (fun i wr => ∃ (k : Nat) (v1 v2 : Value) (s : CS), k ≤ n ∧ i = .int .i64 k ∧ Both12 w wr w.heap.size (w.heap.size + 1) v1 v2 s) (fun i _ => n - (intOf i).toNat)
  case atStart => exact ⟨0, _, _, _, Nat.zero_le _, rfl, HB0.out⟩
  case round =>
    obtain ⟨k, v1, v2, s, hk, rfl, hb⟩ := hrel
    have HB := Lib.hid hb
    clear hb
    by_cases hkn : k < n
    · have hkl : k < L.length := by rw [HL.out]; exact hkn
      obtain ⟨ad, rfl, hadB, hcell⟩ := HR.out.2 (by omega)
      obtain ⟨r, hr⟩ : ∃ r, r = L[k] := ⟨_, rfl⟩
      have hcx := hcell k r.val (by rw [List.getElem?_map, List.getElem?_eq_getElem hkl, hr]; rfl)
      have hcr := (HB.out.below.cell (p := ad.add k) (by rw [block_add]; exact hadB)).trans hcx
      have hri := HROW.out r (by rw [hr]; exact List.getElem_mem hkl)
      have HRI := Lib.hid hri
      unfold Row.val at hcr
      clear hcell hcx hri hr
      go_wp2_with fail
      have hx1 := (HRI.out.below HB.out.below).rd.more HB.out.below.size
      have hcap := HRI.out.cap
      have hnc := HRI.out.nc
      have hroom : ∀ ad, r.A = some ad → 0 < r.n → ad.block < w.heap.size := by
        intro ad ha hp
        obtain ⟨ad', ha', hlt, _⟩ := HRI.out.rd.2 hp
        rw [ha] at ha'
        injection ha' with ha'
        subst ha'
        exact hlt
      refine (chunk_feed w.heap.size v1 s r.A r.n r.c r.l wr HB.out.cr HB.out.inv hx1 HRI.out.bytes (fun ad ha hp hf => ?_) (by omega)).mono ?_
      · have := HB.out.from1 _ hf
        have := hroom ad ha hp
        omega
      rintro e w3 ⟨rfl, ⟨v1', hc3, hm3⟩, hu3⟩
      have hh := HB.out.one HRI.out.bytes hc3 hm3 hu3
      have HH := Lib.hid hh
      have HRO := Lib.hid hroom
      clear hx1 hc3 hm3 hu3 hh hroom
      go_wp2_with fail
      have hx2 := (HRI.out.below HH.out.below).rd.more HH.out.below.size
      refine (cr_feed (w.heap.size + 1) v2 s r.A r.n r.c r.l w3 HH.out.rr HH.out.inv hx2 HRI.out.bytes (fun ad ha hp hf => ?_) (by omega)).mono ?_
      · have := HH.out.from2 _ hf
        have := HRO.out ad ha hp
        omega
      rintro e w4 ⟨rfl, ⟨v2', hc4, hm4⟩, hu4⟩
      have hbo := HH.out.two hc4 hm4 hu4
      have HBO := Lib.hid hbo
      clear hx2 hc4 hm4 hu4 hbo
      obtain ⟨r1, hr1⟩ : ∃ r1, r1 = (feed s r.l).1 := ⟨_, rfl⟩
      obtain ⟨s2, hs2⟩ : ∃ s2, s2 = (feed s r.l).2 := ⟨_, rfl⟩
      rw [← hs2] at HBO
      rw [← hr1]
      clear hr1 hs2 HH HB
      go_wp2_with fail
      refine (chunk_body _ v1' s2 w4 HBO.out.cr HBO.out.inv).mono ?_
      rintro e w5 ⟨A5, _, c5, rfl, rfl, hr5, hu5⟩
      have hb5 := HBO.out.quiet hu5
      have HB5 := Lib.hid hb5
      have HR5 := Lib.hid hr5
      clear hr5 hu5 hb5
      go_wp2_with fail
      refine (cr_body _ v2' s2 w5 HB5.out.rr HB5.out.inv).mono ?_
      rintro e w6 ⟨A6, _, c6, rfl, rfl, hr6, hu6⟩
      have hb6 := HB5.out.quiet hu6
      have hr56 := HR5.out.below (Upd.belowNix hu6 (Nat.le_refl _))
      have HB6 := Lib.hid hb6
      have HR6 := Lib.hid hr6
      have HR56 := Lib.hid hr56
      clear hr6 hu6 hb6 hr56
      go_wp2_with fail
      refine (bytes_equal w6 _ _ A5 A6 _ _ c5 c6 _ _ HR56.out HR6.out HB6.out.inv.bytes HB6.out.inv.bytes).mono ?_
      rw [decide_eq_true rfl]
      rintro e w7 ⟨rfl, rfl⟩
      go_wp2
      go_roundw
      case rel => exact ⟨k + 1, v1', v2', s2, hkn, by go_num, HB6.out⟩
      case measure => simp [intOf]; omega
    · have hke : k = n := by omega
      subst hke
      go_wp2_with fail
      refine (chunk_new 9 wr).mono ?_
      rintro e w3 ⟨rfl, hc3, hu3, hs3⟩
      clear hs3
      have hb3 := HB.out.quiet hu3
      have HB3 := Lib.hid hb3
      have HC3 := Lib.hid hc3
      clear hc3 hu3 hb3
      go_wp2_with fail
      have hx := Rd.litF w3 (byts lit12) 5 1 12 (12, 13) rfl
      have hu4 : Upd (fun _ => False) w3 (w3.alloc (.cells (byts lit12).toArray 5 (12, 13))) := (Upd.refl _ _).alloc _
      have hc4 := HC3.out.upd hu4 fun _ _ hh => hh
      have hb4 := HB3.out.quiet hu4
      have hlt := HC3.out.lt
      have H4 := Lib.hid hb4
      refine (chunk_feed wr.heap.size _ (new0 9) _ 12 12 lit12 _ hc4 (new0_inv 9) (hx.more (by simp)) (by decide) (fun ad ha hp hf => ?_) (by omega)).mono ?_
      · injection ha with ha
        subst ha
        have := hlt _ hf
        simp at this
      intro e w5 haf
      obtain ⟨he, _, hu5⟩ := haf
      rw [lit12_feed] at he
      subst he
      have hb5 : Both12 w w5 w.heap.size (w.heap.size + 1) v1 v2 s := by
        have hS : ∀ b, Foot wr.heap.size (.slice none 0 0) b → b = wr.heap.size := by
          rintro b (h | h)
          · exact h
          · cases h
        have hz := HB.out.below.size
        refine H4.out.upd hu5 (fun b hb hb2 => ?_) (fun b hb hb2 => ?_) (fun b hb => ?_)
        · have := HB.out.cr.lt b hb
          have := hS b hb2
          omega
        · have := HB.out.rr.lt b hb
          have := hS b hb2
          omega
        · have := hS b hb
          omega
      have HB5 := Lib.hid hb5
      clear hx hu4 hc4 hb4 hlt hu5 hb5
      go_wp2_with fail
      refine (chunk_body _ v1 s w5 HB5.out.cr HB5.out.inv).mono ?_
      rintro e w6 ⟨A6, _, c6, rfl, rfl, hr6, hu6⟩
      have hb6 := HB5.out.quiet hu6
      have HB6 := Lib.hid hb6
      have HR6 := Lib.hid hr6
      clear hr6 hu6 hb6
      go_wp2_with fail
      refine (cr_body _ v2 s w6 HB6.out.rr HB6.out.inv).mono ?_
      rintro e w7 ⟨A7, _, c7, rfl, rfl, hr7, hu7⟩
      have hb7 := HB6.out.quiet hu7
      have hr67 := HR6.out.below (Upd.belowNix hu7 (Nat.le_refl _))
      have HB7 := Lib.hid hb7
      have HR7 := Lib.hid hr7
      have HR67 := Lib.hid hr67
      clear hr7 hu7 hb7 hr67
      go_wp2_with fail
      refine (bytes_equal w7 _ _ A6 A7 _ _ c6 c7 _ _ HR67.out HR7.out HB7.out.inv.bytes HB7.out.inv.bytes).mono ?_
      rw [decide_eq_true rfl]
      rintro e w8 ⟨rfl, rfl⟩
      go_wp2
      go_ret
      exact ⟨rfl, HB7.out.below⟩
end Go.Proofs.Ytphnehfablaakaa
