/- StreamTalks: the walk. -/
import Derived.Test.YtageanmjdfodnaaGreatDoorStrR
import Derived.Test.YtageanmjdfodnaaGreatDoorStrCl
import Derived.Outline
namespace Go.Proofs.YtageanmjdfodnaaGreatDoor
open Go.RowKit Go.Cx Go.Maps Go.ChangeShapes Go.WideShapes Go.ChangeAt

/-- a stream at which nothing waits -/
def idleS (http : Bool) (ks : List Bool) : SS := if http then .ht [] none ks else .fr []
theorem talk_one (http : Bool) (ks : List Bool) (y : List Nat × Bool) (hy : y.1.length ≤ 400) (hk : ks.length ≤ 100) :
    OkS (idleS http ks) (encS http y) ∧ ∃ ks', feedS (idleS http ks) (encS http y) = ([⟨false, y.1⟩], idleS http ks') ∧ (∀ k ∈ ks', k = true ∨ k ∈ ks) ∧ ks'.length ≤ ks.length + 1 := by
  have hl := encS_long (http := http) (y := y) hy
  cases http with
  | false =>
    refine ⟨?_, ks, ?_, fun k hk => .inr hk, by omega⟩
    · show ([] : List Nat).length + (encS false y).length ≤ 1000000000
      simp only [List.length_nil]
      omega
    · show ((framesP ([] ++ encP y.1)).1.map (fun b => (⟨false, b⟩ : Fr)), SS.fr (framesP ([] ++ encP y.1)).2) = _
      rw [List.nil_append, framesP_enc]
      rfl
  | true =>
    have h1 := asks_W [(y.1, y.2)] [] (by intro x hx; simp only [List.mem_singleton] at hx; subst hx; show y.1.length ≤ 65535; omega)
    have h2 : feedH ⟨false, [], none⟩ (askL y.1 y.2 false) = (([⟨y.1, true⟩], 0), ⟨false, [], none⟩) := by
      rw [feedH_W _ _ rfl]
      show feedW ⟨false, [] ++ askL y.1 y.2 false, none⟩ [] = _
      simpa using h1
    refine ⟨⟨by simp, ?_, by omega, ?_⟩, ks ++ [true], ?_, fun k hk => ?_, by simp⟩
    · show (encS true y).length ≤ 1000000000
      omega
    · show (feedH ⟨false, [], none⟩ (askL y.1 y.2 false)).2.ended = false
      rw [h2]
    · show ((feedH ⟨false, [], none⟩ (askL y.1 y.2 false)).1.1.map (fun r => (⟨false, r.body⟩ : Fr)), SS.ht (feedH ⟨false, [], none⟩ (askL y.1 y.2 false)).2.b (feedH ⟨false, [], none⟩ (askL y.1 y.2 false)).2.body (ks ++ (feedH ⟨false, [], none⟩ (askL y.1 y.2 false)).1.1.map Rq.keep)) = _
      rw [h2]
      rfl
    · rcases List.mem_append.1 hk with h | h
      · exact .inr h
      · simp only [List.mem_singleton] at h
        exact .inl h
theorem replyL_ok (l : List Nat) (h : ∀ b ∈ l, b < 256) (hl : l.length ≤ 400) : (replyL l true).length ≤ 100000 ∧ ∀ b ∈ replyL l true, b < 256 := by
  have hi := (itoa_len l.length 4 (by omega)).2
  have h1 : ∀ b ∈ goodL, b < 256 := by decide +kernel
  have h2 : ∀ b ∈ behindL true, b < 256 := by decide +kernel
  have l1 : goodL.length ≤ 200 := by decide +kernel
  have l2 : (behindL true).length ≤ 200 := by decide +kernel
  unfold replyL
  refine ⟨by simp only [List.length_append]; omega, fun b hb => ?_⟩
  simp only [List.mem_append] at hb
  rcases hb with ((hb | hb) | hb) | hb
  · exact h1 b hb
  · have := itoa_dig _ b hb
    simp [isDig] at this
    omega
  · exact h2 b hb
  · exact h b hb
theorem SrAt.of {http : Bool} {w : World} {base sb : Nat} {v : SV} {ks : List Bool} (h : StAt w base sb v (idleS http ks)) (hk : ∀ k ∈ ks, k = true) : SrAt http w base sb := by
  cases http with
  | false =>
    match v, h with
    | .fr pr bv, h => exact ⟨pr, h.blk, h.ge⟩
    | .ht _ _ _ _ _, h => exact h.inner.elim
  | true =>
    match v, h with
    | .ht qb rb bv body kv, h =>
      have h3 : KpAt w base qb rb kv ks := h.inner.2.2
      obtain ⟨A, c, rfl, hr⟩ := RpAt.of h3 hk
      exact ⟨qb, rb, A, _, c, ks, h.blk, hr, h3.ge, h.ge⟩
    | .fr _ _, h => exact h.inner.elim
theorem SrAt.quiet {http : Bool} {w w' : World} {base sb : Nat} (h : SrAt http w base sb) (k : Upd Nix w w') : SrAt http w' base sb := by
  cases http with
  | false =>
    obtain ⟨pr, hb, hg⟩ := h
    exact ⟨pr, hb.upd k (fun h => h), hg⟩
  | true =>
    obtain ⟨qb, rb, A, n, c, ks, hb, hr, h1, h2⟩ := h
    exact ⟨qb, rb, A, n, c, ks, hb.upd k (fun h => h), hr.upd k (fun h => h) (fun _ _ h => h), h1, h2⟩
theorem SrAt.blk {http : Bool} {w : World} {base sb : Nat} (h : SrAt http w base sb) : ∃ v, Blk w sb 56 #[v, .bool false] := by
  cases http with
  | false =>
    obtain ⟨pr, hb, hg⟩ := h
    exact ⟨_, hb⟩
  | true =>
    obtain ⟨qb, rb, A, n, c, ks, hb, hr, h1, h2⟩ := h
    exact ⟨_, hb⟩
set_option maxRecDepth 100000 in
set_option maxHeartbeats 12800000 in
theorem streamTalks_k (http : Bool) (x : Int) (hx : wrap64 ((IntKind.u64.wrap x).tmod 2) = ((if http then 1 else 0 : Nat) : Int)) (A0 : Option Addr) (n0 c0 : Nat) (L : List Row) (A1 : Option Addr) (n1 c1 : Nat) (L1 : List Row) (ch : Int) (w : World) (h0 : RowsAt w w.heap.size A0 n0 c0 L) (h1 : RowsAt w w.heap.size A1 n1 c1 L1) (ht : Tab10 w) (hg : 2 < w.heap.size) :
    Calls Tryz.prog 3 #[.int .i64 x, .slice A0 n0 c0, .slice A1 n1 c1, .int .u64 ch] w fun e w' => e = .returned (.bool true) ∧ Below w.heap.size w w' := by
  have H0 := Lib.hid h0
  have H1 := Lib.hid h1
  have HT := Lib.hid ht
  obtain ⟨kd, hkd⟩ : ∃ kd : Int, (if http then 2 else 1) = kd := ⟨_, rfl⟩
  have hnew := fun W => stream_new http W
  rw [hkd] at hnew
  have HNEW := Lib.hid hnew
  have HKD := Lib.hid hkd
  clear h0 h1 ht hnew hkd
  go_enter Tryz.func3, Tryz.ntmps3
  go_upto_region 1 with fail
  go_cut [0] (fun s0 wx => s0 = .int .i64 kd ∧ Upd Nix w wx)
  case first =>
    cases http with
    | false =>
      have ha : wrap64 ((IntKind.u64.wrap x).tmod 2) = 0 := hx
      clear hx
      go_wp2_with fail
      go_meet
      exact ⟨congrArg (Value.int .i64) HKD.out, (Upd.refl _ _).alloc _⟩
    | true =>
      have ha : wrap64 ((IntKind.u64.wrap x).tmod 2) = 1 := hx
      clear hx
      go_wp2_with fail
      go_meet
      exact ⟨congrArg (Value.int .i64) HKD.out, (Upd.refl _ _).alloc _⟩
  case rest =>
  obtain ⟨rfl, hu0⟩ := hcut
  have HU0 := Lib.hid hu0
  clear hx hu0
  go_wp2_with fail
  refine (HNEW.out wc).mono ?_
  rintro e w1 ⟨sa, va, rfl, hsa, hu1⟩
  have hs1 := hu1.size
  have hs0 := HU0.out.size
  obtain ⟨B1, hB1⟩ : ∃ B1, wc.heap.size = B1 := ⟨_, rfl⟩
  rw [hB1] at hsa hs1 hs0
  have HSA := Lib.hid (show StAt w1 B1 sa va (idleS http []) by cases http <;> exact hsa)
  have HU1 := Lib.hid (HU0.out.trans hu1 fun _ _ h => h)
  clear hsa hu1 hB1
  go_upto_block 0 with fail
  go_cut [12] (fun s12 wx => SrAt http wx B1 sa ∧ Below w.heap.size w wx ∧ B1 ≤ wx.heap.size)
  case first =>
    go_wp2_with fail
    go_loopw [40] (fun s40 wr => ∃ k vk ks, k ≤ n0 ∧ k ≤ 11 ∧ s40 = .int .i64 k ∧ StAt wr B1 sa vk (idleS http ks) ∧ (∀ b ∈ ks, b = true) ∧ ks.length ≤ k ∧ Below w.heap.size w wr ∧ B1 ≤ wr.heap.size) (fun s40 _ => n0 - (intOf s40).toNat)
    case atStart => exact ⟨0, va, [], by omega, by omega, rfl, HSA.out, by simp, by simp, HU1.out.belowNix (Nat.le_refl _), hs1⟩
    case round =>
      obtain ⟨k, vk, ks, hkn, hk11, rfl, hst, hks, hksl, hbel, hwr⟩ := hrel
      have HST := Lib.hid hst
      have HKS := Lib.hid hks
      have HBEL := Lib.hid hbel
      have hwz := hbel.size
      clear hst hks hbel
      by_cases hkn2 : k < n0
      · have hki : (k : Int) < (n0 : Int) := by omega
        have hrows := H0.out.below HBEL.out
        obtain ⟨ad, r, hadB, hr, hmem, hcell, hidx⟩ := hrows.idx hkn2
        have hsl := (H0.out.each r hmem).below HBEL.out
        obtain ⟨m0, hm0⟩ : ∃ m0, min r.n 400 = m0 := ⟨_, rfl⟩
        have hmin : min (r.n : Int) 400 = (m0 : Int) := by omega
        have hrn : m0 ≤ r.n := by omega
        have hm400 : m0 ≤ 400 := by omega
        have hrc : m0 ≤ r.c := by have := hsl.nc; omega
        have hfr := hsl.front hrn
        obtain ⟨l0, hl0⟩ : ∃ l0, r.l.take m0 = l0 := ⟨_, rfl⟩
        rw [hl0] at hfr
        have HS := Lib.hid hfr
        have hll := hfr.llen
        have HLL := Lib.hid hll
        clear hr hmem hrows hsl hm0 hfr hl0 hll
        by_cases hk8 : k ≤ 10
        · have hk8i : ¬ (10 : Int) < (k : Int) := by omega
          have hkm : ((k : Int)).tmod 32 = (k : Int) := by rw [Int.tmod_eq_emod_of_nonneg (by omega)]; omega
          go_wp2_with fail
          refine (prefix_encode r.A m0 r.c w.heap.size l0 wr HS.out.rd hwz (by omega)).mono ?_
          rintro e w3 ⟨⟨ad3, c3, rfl, hown3⟩, hu3⟩
          have HO3 := Lib.hid hown3
          have HU3 := Lib.hid hu3
          have hs3 := hu3.size
          clear hown3 hu3
          go_upto_if 58 with fail
          go_cut [13, 14] (fun s13 s14 wx => s14 = .int .i64 0 ∧ ∃ (bb : Bool) (A4 : Option Addr) (n4 c4 : Nat), s13 = .slice A4 n4 c4 ∧ Rd wx wx.heap.size 1 A4 n4 (byts (encS http (l0, bb))) ∧ Upd Nix wr wx)
          case first =>
            cases http with
            | false =>
              have hk2 : kd = 1 := HKD.out.symm
              subst hk2
              go_wp2_with fail
              go_meet
              exact ⟨rfl, false, _, _, _, rfl, Rd.own HO3.out, HU3.out⟩
            | true =>
              have hk2 : kd = 2 := HKD.out.symm
              subst hk2
              have hS3 : Rd w3 w3.heap.size 1 r.A m0 (byts l0) := ((HS.out.rd.below (HU3.out.belowNix hwz)).more (by omega))
              have HS3 := Lib.hid hS3
              clear hS3
              go_wp2_with fail
              refine (ref_ask r.A m0 r.c l0 _ w3 HS3.out hrc (by omega)).mono ?_
              rintro e w4 ⟨⟨ad4, n4, c4, rfl, hn4, hc4, hr4⟩, hu4⟩
              have HR4 := Lib.hid hr4
              have HU4 := Lib.hid (HU3.out.trans hu4 fun _ _ h => h)
              clear hr4 hu4 hn4
              go_wp2_with fail
              go_meet
              exact ⟨rfl, _, _, _, _, rfl, HR4.out, HU4.out⟩
          case rest =>
          obtain ⟨rfl, bb, A4, n4, c4, rfl, hr4, hu4⟩ := hcut
          obtain ⟨hok, ks', hfs, hks', hkl'⟩ := talk_one http ks (l0, bb) (by show l0.length ≤ 400; rw [HLL.out]; exact hm400) (by omega)
          have hst4 := HST.out.upd hu4 (fun _ _ h => h)
          have hlt4 := encS_lt (http := http) (y := (l0, bb)) HS.out.bytes (by show l0.length ≤ 400; rw [HLL.out]; exact hm400)
          have hs4 := hu4.size
          have hfeed := stream_feed B1 sa vk (idleS http ks) A4 n4 c4 (encS http (l0, bb)) wc hst4 hr4 hlt4 hok (by omega)
          have HFEED := Lib.hid hfeed
          have HLT := Lib.hid hst4.lt
          have HFS := Lib.hid hfs
          have HKS' := Lib.hid hks'
          have HU4 := Lib.hid hu4
          clear hok hfs hks' hst4 hlt4 hfeed hr4 hu4
          go_wp2_with fail
          refine HFEED.out.mono ?_
          rintro e w6 ⟨A8, c8, fs, v6, rfl, hsaid, hown, hst6, hu6, hft6, hap6⟩
          rw [HFS.out] at hsaid hst6
          obtain ⟨f, rfl, hf⟩ : ∃ f, fs = [f] ∧ f.said = ⟨false, l0⟩ := by
            match fs, hsaid with
            | [f], h => exact ⟨f, rfl, by simpa using h⟩
            | [], h => simp at h
            | _ :: _ :: _, h => simp at h
          obtain ⟨go, f', hf', rfl, hgl, k0, k1, hrd, hby⟩ := hown.at (i := 0) rfl (by simp)
          simp only [List.getElem?_cons_zero, Option.some.injEq] at hf'
          subst hf'
          obtain ⟨row, bad⟩ := f
          have hbad : bad = false := congrArg Fr.bad hf
          have hrow : row.l = l0 := congrArg Fr.body hf
          subst hbad
          simp only [Nat.zero_mul, Nat.zero_add] at k0 k1
          rw [hrow] at hrd hby
          have hbel6 : Below w.heap.size w w6 := (HBEL.out.trans (HU4.out.belowNix hwz)).trans (hu6.below (by omega) fun b _ hb => by have := (HLT.out b hb).2; omega)
          have hS6 : Rd w6 w.heap.size 1 r.A m0 (byts l0) := (HS.out.rd.below (HU4.out.belowNix hwz)).below (hu6.below (by omega) fun b _ hb => by have := (HLT.out b hb).2; omega)
          have heq := bytes_equal w6 _ _ row.A r.A row.n m0 row.c r.c l0 l0 hrd hS6 hby HS.out.bytes
          rw [decide_eq_true rfl] at heq
          have HEQ := Lib.hid heq
          have HST6 := Lib.hid hst6
          have HBEL6 := Lib.hid hbel6
          have hs6 := hu6.size
          simp only [List.length_singleton]
          clear hsaid hown hst6 hu6 hft6 hap6 hrd hby hbel6 hS6 heq hf hrow
          go_wp2_with fail
          refine HEQ.out.mono ?_
          rintro e w7 ⟨rfl, rfl⟩
          go_wp2_with fail
          refine ⟨⟨k + 1, v6, ks', by omega, by omega, by rfl, HST6.out, fun b hb => ?_, by omega, HBEL6.out, by omega⟩, ?_⟩
          · rcases HKS'.out b hb with h | h
            · exact h
            · exact HKS.out b h
          · simp only [intOf]; omega
        · have hk8i : (10 : Int) < (k : Int) := by omega
          go_wp2_with fail
          go_meet
          exact ⟨SrAt.of HST.out HKS.out, HBEL.out, hwr⟩
      · have hki : ¬ (k : Int) < (n0 : Int) := by omega
        go_wp2_with fail
        go_meet
        exact ⟨SrAt.of HST.out HKS.out, HBEL.out, hwr⟩
  case rest =>
  obtain ⟨hsr, hbel, hwc⟩ := hcut
  have HSR := Lib.hid hsr
  have HBEL0 := Lib.hid hbel
  have hgB : 2 < B1 := by omega
  clear hsr hbel
  go_wp2_with fail
  go_loopw [98] (fun s98 wr => ∃ k, k ≤ n1 ∧ s98 = .int .i64 (k : Nat) ∧ SrAt http wr B1 sa ∧ Below w.heap.size w wr ∧ B1 ≤ wr.heap.size) (fun s98 _ => n1 - (intOf s98).toNat)
  case atStart => exact ⟨0, by omega, rfl, HSR.out, HBEL0.out, hwc⟩
  case round =>
    obtain ⟨k, hkn, rfl, hst, hbel, hwr⟩ := hrel
    have HST := Lib.hid hst
    have HBEL := Lib.hid hbel
    have hwz := hbel.size
    clear hst hbel
    by_cases hkn2 : k < n1
    · have hki : (k : Int) < (n1 : Int) := by omega
      have hrows := H1.out.below HBEL.out
      obtain ⟨ad, r, hadB, hr, hmem, hcell, hidx⟩ := hrows.idx hkn2
      have hsl := (H1.out.each r hmem).below HBEL.out
      obtain ⟨m0, hm0⟩ : ∃ m0, min r.n 400 = m0 := ⟨_, rfl⟩
      have hmin : min (r.n : Int) 400 = (m0 : Int) := by omega
      have hrn : m0 ≤ r.n := by omega
      have hm400 : m0 ≤ 400 := by omega
      have hrc : m0 ≤ r.c := by have := hsl.nc; omega
      have hfr := hsl.front hrn
      obtain ⟨l0, hl0⟩ : ∃ l0, r.l.take m0 = l0 := ⟨_, rfl⟩
      rw [hl0] at hfr
      have HS := Lib.hid hfr
      have hll := hfr.llen
      have HLL := Lib.hid hll
      have hrpl := stream_reply http B1 sa r.A m0 r.c l0 wr HST.out (hfr.rd.more (by omega)) (by omega) (HT.out.upd (Upd.of_below' HBEL.out)) hwr hgB
      have HRPL := Lib.hid hrpl
      clear hr hmem hrows hsl hm0 hfr hl0 hll hrpl
      by_cases hk8 : k ≤ 10
      · have hk8i : ¬ (10 : Int) < (k : Int) := by omega
        go_wp2_with fail
        refine HRPL.out.mono ?_
        rintro e w3 ⟨⟨A4, n4, c4, rfl, hn4, hr4⟩, hst3, hb3⟩
        have hbel3 : Below w.heap.size w w3 := HBEL.out.trans (hb3.mono (by omega))
        have hs3 := hb3.size
        have HST3 := Lib.hid hst3
        have HBEL3 := Lib.hid hbel3
        have HR4 := Lib.hid hr4
        have HN4 := Lib.hid hn4
        have HS3 := Lib.hid (show Rd w3 w.heap.size 1 r.A m0 (byts l0) from HS.out.rd.below (hb3.mono (by omega)))
        clear hn4 hr4 hst3 hb3 hbel3
        cases http with
        | false =>
          have hk2 : kd = 1 := HKD.out.symm
          subst hk2
          go_wp2_with fail
          refine (prefix_new w3).mono ?_
          rintro e w4 ⟨rfl, rfl⟩
          have hpf : PfR (w3.alloc (.cells #[.slice none 0 0, .bool true] 64)) w3.heap.size w3.heap.size (.slice none 0 0) [] := ⟨Blk.new _ _ _, Lies.nil _ _ _, fun b hb => (by cases hb), Nat.le_refl _⟩
          have hu4 : Upd Nix w3 (w3.alloc (.cells #[.slice none 0 0, .bool true] 64)) := (Upd.refl _ _).alloc _
          generalize w3.alloc (.cells #[.slice none 0 0, .bool true] 64) = w4 at *
          have hlt4 := encS_lt (http := false) (y := (l0, false)) HS.out.bytes (by show l0.length ≤ 400; rw [HLL.out]; exact hm400)
          have hel : n4 = 2 + m0 := by rw [HN4.out]; simp [replyS, encP, HLL.out]; omega
          have hfd := prefix_feed w3.heap.size w3.heap.size (.slice none 0 0) [] A4 n4 c4 (encP l0) w4 hpf ((HR4.out.below (hu4.belowNix (Nat.le_refl _))).more hu4.size) hlt4 (by simp; omega) hu4.size
          have HFD := Lib.hid hfd
          have HU4 := Lib.hid hu4
          clear hpf hu4 hlt4 hel hfd
          go_wp2_with fail
          refine HFD.out.mono ?_
          rintro e w5 ⟨A5, c5, rows, bv5, rfl, hsaid, hown, hrd5, hu5, hft5, hap5⟩
          rw [List.nil_append, framesP_enc] at hsaid
          obtain ⟨row, rfl, hrow⟩ : ∃ row, rows = [row] ∧ row.l = l0 := by
            match rows, hsaid with
            | [f], h => exact ⟨f, rfl, by simpa using h⟩
            | [], h => simp at h
            | _ :: _ :: _, h => simp at h
          have hu35 : Upd Nix w3 w5 := (HU4.out.trans (hu5.mono (S' := PFoot w3.heap.size (.slice none 0 0)) fun _ _ h => h) fun b hlt hb => by
            rcases hb with rfl | hb
            · omega
            · cases hb)
          obtain ⟨ad5, rfl, hB5, hc5⟩ := (Rd.own hown.out).2 (by simp)
          have hcell5 : w5.cell? ad5 = some (.slice row.A row.n row.c) := by
            have := hc5 0 row.val rfl
            simpa [Addr.add, Row.val] using this
          have hrr := hown.rows row (by simp)
          have hrd := Rd.own hrr.1
          have hby := hrr.2.2
          rw [hrow] at hrd hby
          have heq := fun q => bytes_equal (w5.drewN q) _ _ row.A r.A row.n m0 row.c r.c l0 l0 (hrd.drewN q) ((HS3.out.below (hu35.belowNix (by omega))).drewN q) hby HS.out.bytes
          rw [decide_eq_true rfl] at heq
          have HEQ := Lib.hid heq
          have HU35 := Lib.hid hu35
          have hs5 := hu35.size
          simp only [List.length_singleton]
          clear hsaid hown hrd5 hu5 hft5 hap5 hrow hu35 hc5 hrr hrd hby heq
          go_wp2_with fail
          go_quiet ((go_at_call 8; exact quietL (HEQ.out _)))
          go_wp2_with fail
          refine ⟨⟨k + 1, by omega, by rfl, (HST3.out.quiet HU35.out).quiet ((Upd.refl _ _).drewN _), (HBEL3.out.trans (HU35.out.belowNix (by omega))).trans (((Upd.refl Nix _).drewN _).belowNix (by omega)), by simp; omega⟩, ?_⟩
          simp only [intOf]; omega
        | true =>
          have hk2 : kd = 2 := HKD.out.symm
          subst hk2
          obtain ⟨hrl, hrb⟩ := replyL_ok l0 HS.out.bytes (by rw [HLL.out]; exact hm400)
          have hlen4 : n4 ≤ 100000 := by rw [HN4.out]; exact hrl
          have hT3 := HT.out.upd (Upd.of_below' HBEL3.out)
          have hps := http_parse A4 n4 c4 (replyL l0 true) w3 HR4.out hrb (by omega) hT3
          have hpr := parse_reply l0 [] true (by rw [HLL.out]; omega)
          rw [List.append_nil] at hpr
          rw [hpr] at hps
          have HPS := Lib.hid hps
          clear hrl hrb hT3 hps hpr
          go_wp2_with fail
          refine HPS.out.mono ?_
          rintro e w5 ⟨A5, n5, c5, A6, n6, c6, rfl, hr5, hr6, hu5⟩
          simp only at hr5 hr6 ⊢
          have hn6 : n6 = 0 := by have := hr6.1; simpa [byts] using this.symm
          have hn5 : n5 = m0 := by
            have := hr5.1
            simp only [byts, List.length_map, Nat.mul_one] at this
            rw [← this, HLL.out]
          subst hn6
          subst hn5
          have heq := bytes_equal w5 _ _ A5 r.A n5 n5 c5 r.c l0 l0 hr5 (HS3.out.below (hu5.belowNix (by omega))) HS.out.bytes HS.out.bytes
          rw [decide_eq_true rfl] at heq
          have HEQ := Lib.hid heq
          have HU5 := Lib.hid hu5
          have hs5 := hu5.size
          clear hr5 hr6 hu5 heq
          go_wp2_with fail
          refine HEQ.out.mono ?_
          rintro e w6 ⟨rfl, rfl⟩
          go_wp2_with fail
          refine ⟨⟨k + 1, by omega, by rfl, HST3.out.quiet HU5.out, HBEL3.out.trans (HU5.out.belowNix (by omega)), by omega⟩, ?_⟩
          simp only [intOf]; omega
      · have hk8i : (10 : Int) < (k : Int) := by omega
        obtain ⟨v, hb⟩ := HST.out.blk
        have HB := Lib.hid hb
        clear hb
        go_wp2_with fail
        refine (stream_ended sa v false wr HB.out).mono ?_
        rintro e w9 ⟨rfl, rfl⟩
        go_wp2_with fail
        go_ret
        exact ⟨rfl, HBEL.out⟩
    · have hki : ¬ (k : Int) < (n1 : Int) := by omega
      obtain ⟨v, hb⟩ := HST.out.blk
      have HB := Lib.hid hb
      clear hb
      go_wp2_with fail
      refine (stream_ended sa v false wr HB.out).mono ?_
      rintro e w9 ⟨rfl, rfl⟩
      go_wp2_with fail
      go_ret
      exact ⟨rfl, HBEL.out⟩
theorem streamTalks (x : Int) (A0 : Option Addr) (n0 c0 : Nat) (L : List Row) (A1 : Option Addr) (n1 c1 : Nat) (L1 : List Row) (ch : Int) (w : World) (_hx : (Lit.int .i64 x).wf = true) (h0 : RowsAt w w.heap.size A0 n0 c0 L) (h1 : RowsAt w w.heap.size A1 n1 c1 L1) (_hch : (Lit.int .u64 ch).wf = true) (ht : Tab10 w) :
    Calls Tryz.prog 3 #[.int .i64 x, .slice A0 n0 c0, .slice A1 n1 c1, .int .u64 ch] w fun e w' => e = .returned (.bool true) ∧ Below w.heap.size w w' := by
  have hg : 2 < w.heap.size := by
    have h := ht
    unfold Tab10 Lib.TabIs World.var? at h
    have hn : Tryz.prog.globalNamed "internal/strconv.uint64pow10" = some 2 := by kernel_rfl
    rw [hn] at h
    simp only [Option.bind_some] at h
    rcases Nat.lt_or_ge 2 w.heap.size with h' | h'
    · exact h'
    · rw [Array.getElem?_eq_none h'] at h; simp at h
  obtain ⟨a, ha, ha2⟩ := umod x 2 (by omega) (by omega)
  rcases (by omega : a = 0 ∨ a = 1) with rfl | rfl
  · exact streamTalks_k false x ha A0 n0 c0 L A1 n1 c1 L1 ch w h0 h1 ht hg
  · exact streamTalks_k true x ha A0 n0 c0 L A1 n1 c1 L1 ch w h0 h1 ht hg
end Go.Proofs.YtageanmjdfodnaaGreatDoor
