/- Replies: the walks of sized, ParseReply, Reply. -/
import Derived.Test.YtageanmjdfodnaaGreatDoorHttpA
import Derived.Deep.RegionWith
namespace Go.Proofs.YtageanmjdfodnaaGreatDoor
open Go.RowKit Go.Cx Go.Maps

/-- the table of powers of ten lies where it lay -/
abbrev Tab10 (w : World) : Prop := Lib.TabIs Tryz.prog w "internal/strconv.uint64pow10" .u64 Lib.pow10Tab
theorem Tab10.upd {w w' : World} (h : Tab10 w) (k : Upd Nix w w') : Tab10 w' := by
  unfold Tab10 Lib.TabIs World.var? at *
  cases hg : Tryz.prog.globalNamed "internal/strconv.uint64pow10" with
  | none => simp [hg] at h
  | some g =>
    simp only [hg, Option.bind_some] at h ⊢
    have hlt : g < w.heap.size := by
      rcases Nat.lt_or_ge g w.heap.size with h' | h'
      · exact h'
      · rw [Array.getElem?_eq_none h'] at h; simp at h
    rw [k.block g hlt (fun h => h)]
    exact h
theorem upd_grow (w : World) (k : Nat) (os : Array Obj) : Upd Nix w (Go.Sort.grow (w.drewN k) os) := by
  have h := ((Upd.refl Nix w).drewN k)
  refine ⟨h.os, h.tape, h.output, ?_, fun b hb hn => ?_⟩
  · have := h.size
    simp only [Go.Sort.grow, Array.size_append]
    omega
  · have hb' : b < (w.drewN k).heap.size := Nat.lt_of_lt_of_le hb h.size
    simp only [Go.Sort.grow]
    rw [Array.getElem?_append_left hb']
    exact h.block b hb hn
theorem itoa_call (n : Nat) (hn : n ≤ 9223372036854775807) (w : World) (ht : Tab10 w) :
    Calls Tryz.prog 25 #[.int .i64 n] w fun e w' => (∃ s : ByteArray, e = .returned (.string s) ∧ bytesOf s = itoaL n) ∧ Upd Nix w w' := by
  refine (Tryz.strconv_Itoa n (by omega) (by omega) w ht).mono ?_
  rintro e w' ⟨rfl, k, os, rfl⟩
  refine ⟨⟨_, rfl, ?_⟩, upd_grow w k os⟩
  unfold bytesOf itoaL Lib.itoa
  rw [if_neg (by omega)]
  simp

/-- where the digits end -/
theorem tw_in {p : Nat → Bool} : ∀ {l : List Nat} {k : Nat}, k < (l.takeWhile p).length → ∃ b, l[k]? = some b ∧ p b = true
  | [], k, h => by simp at h
  | b :: l, k, h => by
    by_cases hp : p b = true
    · rw [List.takeWhile_cons_of_pos hp] at h
      cases k with
      | zero => exact ⟨b, rfl, hp⟩
      | succ k =>
        simp only [List.length_cons] at h
        obtain ⟨b', h1, h2⟩ := tw_in (p := p) (l := l) (k := k) (by omega)
        exact ⟨b', by simpa using h1, h2⟩
    · rw [List.takeWhile_cons_of_neg hp] at h
      simp at h
theorem tw_end {p : Nat → Bool} : ∀ {l : List Nat}, (l.takeWhile p).length = l.length ∨ ∃ b, l[(l.takeWhile p).length]? = some b ∧ p b = false
  | [] => .inl rfl
  | b :: l => by
    by_cases hp : p b = true
    · rw [List.takeWhile_cons_of_pos hp]
      rcases tw_end (p := p) (l := l) with h | ⟨b', h1, h2⟩
      · exact .inl (by simp [h])
      · exact .inr ⟨b', by simpa using h1, h2⟩
    · rw [List.takeWhile_cons_of_neg hp]
      exact .inr ⟨b, rfl, by simpa using hp⟩
theorem tw_take {p : Nat → Bool} (l : List Nat) : l.take (l.takeWhile p).length = l.takeWhile p := (List.prefix_iff_eq_take.1 (List.takeWhile_prefix p)).symm
theorem str_eq (a b : ByteArray) : (a.toList == b.toList) = decide (bytesOf a = bytesOf b) := by
  have h1 : ∀ (x : ByteArray), x.toList = x.data.toList := fun x => Lib.toList_data x
  by_cases h : bytesOf a = bytesOf b
  · rw [decide_eq_true h, bytesOf_inj h]
    simp
  · rw [decide_eq_false h]
    have : a.toList ≠ b.toList := fun e => h (by
      rw [h1, h1] at e
      unfold bytesOf
      rw [e])
    simpa using this

theorem results_tmp4 {fn : Func} {t u v x : Tmp} (h : fn.results = #[.tmp t, .tmp u, .tmp v, .tmp x]) (tmps : Array Value) (P : Program) (w : World) :
    (results fn tmps).run P w = .ok (.tuple #[tmps.getD t undef, tmps.getD u undef, tmps.getD v undef, tmps.getD x undef]) w := by
  simp [results, h]

def Parsed (r : Reply) (w : World) (e : Ending) (w' : World) : Prop :=
  ∃ A n c A' n' c', e = .returned (.tuple #[.int .i64 r.1, .slice A n c, .slice A' n' c', .int .i64 r.2.2.2]) ∧ Rd w' w'.heap.size 1 A n (byts r.2.1) ∧ Rd w' w'.heap.size 1 A' n' (byts r.2.2.1) ∧ Upd Nix w w'
theorem Rd.nil (w : World) (B : Nat) (A : Option Addr) : Rd w B 1 A 0 (byts []) := ⟨rfl, fun h => absurd h (Nat.lt_irrefl _)⟩

/-- what is still to be tried -/
def restL (t : List Nat) (n : Nat) : Nat → Nat → Reply
  | 0, f => tryEnd t endL n f fun f => tryEnd t closeL n f fun f => (0, [], [], f)
  | 1, f => tryEnd t closeL n f fun f => (0, [], [], f)
  | _, f => (0, [], [], f)
def wantL : Nat → List Nat
  | 0 => endL
  | _ => closeL
theorem restL_step (t : List Nat) (n j f : Nat) (hj : j < 2) : restL t n j f = tryEnd t (wantL j) n f (restL t n (j + 1)) := by
  have : j = 0 ∨ j = 1 := by omega
  rcases this with rfl | rfl <;> rfl

theorem two_str (w : World) (e : TypeId) (a b : ByteArray) (na nb : Nat) (la lb : List Nat) (ha : bytesOf a = la) (hb : bytesOf b = lb) (hna : a.size = na) (hnb : b.size = nb) :
    Rd (Lib.bytesWorld (Lib.bytesWorld w e a) e b) (Lib.bytesWorld (Lib.bytesWorld w e a) e b).heap.size 1 (some ⟨w.heap.size, 0, none⟩) na (byts la) ∧
    Rd (Lib.bytesWorld (Lib.bytesWorld w e a) e b) (Lib.bytesWorld (Lib.bytesWorld w e a) e b).heap.size 1 (some ⟨(Lib.bytesWorld w e a).heap.size, 0, none⟩) nb (byts lb) ∧
    Upd Nix w (Lib.bytesWorld (Lib.bytesWorld w e a) e b) := by
  have h1 := Rd.str w e a
  have h2 := Rd.str (Lib.bytesWorld w e a) e b
  have hb2 := below_str (Lib.bytesWorld w e a) e b (Nat.le_refl _)
  have hs1 := Lib.bytesWorld_size w e a
  have hs2 := Lib.bytesWorld_size (Lib.bytesWorld w e a) e b
  rw [ha, hna] at h1
  rw [hb, hnb] at h2
  refine ⟨?_, ?_, (upd_str w e a).trans (upd_str _ e b) fun _ _ h => h⟩
  · rw [← hs1] at h1
    exact (h1.below hb2).more (by omega)
  · rw [hs2]
    exact h2
def endS : ByteArray := { data := #[13, 10, 13, 10] }
def closeS : ByteArray := { data := #[13, 10, 67, 111, 110, 110, 101, 99, 116, 105, 111, 110, 58, 32, 99, 108, 111, 115, 101, 13, 10, 13, 10] }
theorem index_ends0 (W : World) : (Instr.index 77 (.agg #[.string endS, .string closeS]) (.int .i64 0)).run Tryz.prog W = .ok (.string endS) W := by kernel_rfl
theorem index_ends1 (W : World) : (Instr.index 77 (.agg #[.string endS, .string closeS]) (.int .i64 1)).run Tryz.prog W = .ok (.string closeS) W := by kernel_rfl

set_option maxRecDepth 100000 in
set_option maxHeartbeats 6400000 in
theorem http_sized (s : ByteArray) (w : World) (hs : s.size ≤ 140737488355328) (ht : Tab10 w) :
    Calls Tryz.prog 21 #[.string s] w (Parsed (sizedL (bytesOf s)) w) := by
  have kc := fun (w : World) (s : ByteArray) => Lib.run_convert_string_bytes (P := Tryz.prog) w 9 29 5 s Tryz.underlying9 Tryz.underlying29 Tryz.underlying5
  have hlen := bytesOf_len s
  obtain ⟨l, hl⟩ : ∃ l, bytesOf s = l := ⟨_, rfl⟩
  rw [hl] at hlen
  rw [hl]
  obtain ⟨D, hD⟩ : ∃ D, (l.takeWhile isDig).length = D := ⟨_, rfl⟩
  have hDl : D ≤ s.size := by
    have := (List.takeWhile_prefix (l := l) isDig).length_le
    omega
  have HL := Lib.hid hl
  have HD := Lib.hid hD
  have HLN := Lib.hid hlen
  have HT := Lib.hid ht
  clear hl hD hlen ht
  go_enter Tryz.func21, Tryz.ntmps21
  go_upto_block 0 with fail
  go_cut [6] (fun s6 wx => w = wx ∧ s6 = .int .i64 D)
  case first =>
    go_wp2_with fail
    go_loopw [6] (fun s6 wr => w = wr ∧ ∃ k : Nat, k ≤ D ∧ s6 = .int .i64 k) (fun s6 _ => D - (intOf s6).toNat)
    case atStart => exact ⟨rfl, 0, Nat.zero_le _, rfl⟩
    case round =>
      obtain ⟨rfl, k, hk, rfl⟩ := hrel
      by_cases hkD : k < D
      · obtain ⟨b, hb, hd⟩ := tw_in (p := isDig) (l := l) (k := k) (by rw [HD.out]; exact hkD)
        have hks : k < s.size := by omega
        have hb1 : 48 ≤ b ∧ b ≤ 57 := by simpa [isDig] using hd
        have hix : ∀ W, (Instr.index 9 (.string s) (.int .i64 k)).run Tryz.prog W = .ok (.int .u8 b) W := by
          intro W
          have h1 := bytesOf_at s k hks
          rw [HL.out, hb] at h1
          injection h1 with h1
          rw [run_index_string (P := Tryz.prog) W 9 s .i64 k Tryz.underlying9, dif_pos ⟨by omega, by omega⟩]
          simp only [Int.toNat_natCast, h1]
        have hi1 : (48 : Int) ≤ (b : Int) := by omega
        have hi2 : (b : Int) ≤ 57 := by omega
        have hi3 : (k : Int) < (s.size : Int) := by omega
        clear hb hd
        go_wp2_with fail
        refine ⟨⟨trivial, k + 1, by omega, by rfl⟩, ?_⟩
        simp only [intOf]
        omega
      · have hkD' : k = D := by omega
        subst hkD'
        rcases tw_end (p := isDig) (l := l) with h | ⟨b, hb, hd⟩
        · rw [HD.out] at h
          have hi3 : ¬ (k : Int) < (s.size : Int) := by have := HLN.out; omega
          clear h
          go_wp2_with fail
          go_meet
          exact ⟨rfl, rfl⟩
        · rw [HD.out] at hb
          have hks : k < s.size := by
            have := (List.getElem?_eq_some_iff.1 hb).1
            have := HLN.out
            omega
          have hix : ∀ W, (Instr.index 9 (.string s) (.int .i64 k)).run Tryz.prog W = .ok (.int .u8 b) W := by
            intro W
            have h1 := bytesOf_at s k hks
            rw [HL.out, hb] at h1
            injection h1 with h1
            rw [run_index_string (P := Tryz.prog) W 9 s .i64 k Tryz.underlying9, dif_pos ⟨by omega, by omega⟩]
            simp only [Int.toNat_natCast, h1]
          have hi3 : (k : Int) < (s.size : Int) := by omega
          by_cases h48 : 48 ≤ b
          · have hi1 : (48 : Int) ≤ (b : Int) := by omega
            have hi2 : ¬ (b : Int) ≤ 57 := by
              have : ¬ (48 ≤ b ∧ b ≤ 57) := by simpa [isDig] using hd
              omega
            clear hb hd
            go_wp2_with fail
            go_meet
            exact ⟨rfl, rfl⟩
          · have hi1 : ¬ (48 : Int) ≤ (b : Int) := by omega
            clear hb hd
            go_wp2_with fail
            go_meet
            exact ⟨rfl, rfl⟩
  case rest =>
  obtain ⟨rfl, rfl⟩ := hcut
  by_cases hs0 : s.size = 0
  · have hl0 : l = [] := List.eq_nil_of_length_eq_zero (by have := HLN.out; omega)
    have hse : s = ⟨#[]⟩ := bytesOf_inj (by rw [HL.out, hl0]; rfl)
    have hsz : sizedL l = (0, [], [], 20) := by rw [hl0]; rfl
    have HSZ := Lib.hid hsz
    subst hse
    clear hsz hl0
    go_wp2_with fail
    refine bodyPost_ret (results_tmp4 rfl _ _ _) rfl ?_
    rw [HSZ.out]
    exact ⟨_, _, _, _, _, _, rfl, Rd.nil _ _ _, Rd.nil _ _ _, Upd.refl _ _⟩
  · have hne : s.toList.isEmpty = false := by
      rw [Lib.toList_data, List.isEmpty_eq_false_iff]
      intro h
      have : s.data.toList.length = s.size := Array.length_toList
      rw [h] at this
      exact hs0 this.symm
    have hmin : min (D : Int) 6 = ((min D 6 : Nat) : Int) := by omega
    have hln0 : l ≠ [] := fun h => hs0 (by have := HLN.out; rw [h] at this; exact this.symm)
    have hx6 : bytesOf (s.extract 0 (min D 6)) = (l.takeWhile isDig).take 6 := by
      rw [bytesOf_to, HL.out, ← tw_take (p := isDig) l, HD.out, List.take_take, Nat.min_comm]
    have hxD : bytesOf (s.extract 0 D) = l.takeWhile isDig := by
      rw [bytesOf_to, HL.out, ← HD.out, tw_take]
    have HLN0 := Lib.hid hln0
    have HX6 := Lib.hid hx6
    have HXD := Lib.hid hxD
    clear hx6 hxD hln0
    go_wp2_with fail
    refine (http_size _ w).mono ?_
    rw [HX6.out]
    rintro e w1 ⟨⟨n, hn, rfl⟩ | ⟨hn, n, rfl⟩, hu1⟩
    · have hnb : n ≤ 65535 := by
        unfold sizeL at hn
        split at hn
        · rename_i h
          injection hn with hn
          rw [← hn]
          exact h.2.2.2
        · cases hn
      have HU1 := Lib.hid hu1
      have HN := Lib.hid hn
      clear hu1 hn
      go_upto_region 7 with fail
      go_cut [51] (fun s51 wx => Upd Nix w wx ∧ s51 = .bool (decide (itoaL n ≠ l.takeWhile isDig)))
      case first =>
        go_wp2_with fail
        go_region_with (go_at_call 25; refine (itoa_call n (by omega) _ (HT.out.upd (HU1.out.drewN _))).mono ?_; rintro e w2 ⟨⟨a, rfl, ha⟩, hu2⟩)
        go_wp2_with fail
        go_meet
        refine ⟨(HU1.out.drewN _).trans hu2 fun _ _ h => h, ?_⟩
        rw [str_eq, ha, HXD.out, decide_not]
      case rest =>
      obtain ⟨hu2, rfl⟩ := hcut
      have HU2 := Lib.hid hu2
      clear hu2
      by_cases hq : itoaL n = l.takeWhile isDig
      · have hrest : sizedL l = restL (l.drop D) n 0 130 := by
          unfold sizedL
          rw [if_neg HLN0.out, HN.out]
          simp only
          rw [if_neg (fun h => h hq), HD.out]
          rfl
        have HR := Lib.hid hrest
        clear hrest
        have hdec : decide (itoaL n ≠ l.takeWhile isDig) = false := by rw [decide_eq_false_iff_not]; exact fun h => h hq
        rw [hdec]
        clear hdec hq
        go_upto_region 9 with fail
        have hDs : (D : Int) ≤ (s.size : Int) := by omega
        have hxt : bytesOf (s.extract D s.size) = l.drop D := by rw [bytesOf_from, HL.out]
        have hxs : (s.extract D s.size).size ≤ 140737488355328 := by
          rw [← bytesOf_len, hxt, List.length_drop, HLN.out]
          omega
        have HXT := Lib.hid hxt
        clear hxt
        go_wp2_with fail
        generalize s.extract D s.size = x at *
        obtain ⟨t, ht⟩ : ∃ t, l.drop D = t := ⟨_, rfl⟩
        have HTT := Lib.hid ht
        have hxt := HXT.out
        have hr0 := HR.out
        rw [ht] at hxt hr0
        have HXT2 := Lib.hid hxt
        have HR0 := Lib.hid hr0
        clear hxt hr0 ht
        go_loopw [9, 56] (fun s9 i wr => Upd Nix w wr ∧ ∃ j f : Nat, j ≤ 2 ∧ i = .int .i64 j ∧ s9 = .int .i64 f ∧ sizedL l = restL t n j f) (fun _ i _ => 2 - (intOf i).toNat)
        case atStart => exact ⟨HU2.out, 0, 130, by omega, rfl, rfl, HR0.out⟩
        case round =>
          obtain ⟨hu3, j, f, hj, rfl, rfl, hrest⟩ := hrel
          have HU3 := Lib.hid hu3
          have HRJ := Lib.hid hrest
          clear hu3 hrest
          by_cases hj2 : j < 2
          · have hj2i : (j : Int) < 2 := by omega
            go_upto_region 13 with fail
            go_cut [11] (fun s11 wx => wr = wx ∧ ∃ want : ByteArray, s11 = .string want ∧ bytesOf want = wantL j)
            case first =>
              have : j = 0 ∨ j = 1 := by omega
              rcases this with rfl | rfl
              · have h0 := fun W => index_ends0 W
                unfold endS closeS at h0
                go_wp2_with fail
                go_meet
                exact ⟨rfl, _, rfl, by decide +kernel⟩
              · have h0 := fun W => index_ends1 W
                unfold endS closeS at h0
                go_wp2_with fail
                go_meet
                exact ⟨rfl, _, rfl, by decide +kernel⟩
            case rest =>
            obtain ⟨rfl, want, rfl, hwant⟩ := hcut
            have HW := Lib.hid hwant
            clear hwant
            go_wp2_with fail
            refine (http_after x want wr).mono ?_
            rw [HXT2.out, HW.out]
            rintro e w4 ⟨⟨r, rfl, hr⟩, rfl⟩
            have hstep : sizedL l = tryEnd t (wantL j) n f (restL t n (j + 1)) := by rw [HRJ.out, restL_step t n j f hj2]
            unfold tryEnd at hstep
            obtain ⟨⟨ra, e4⟩, hre⟩ : ∃ q, afterL t (wantL j) = q := ⟨_, rfl⟩
            rw [hre] at hstep hr ⊢
            have hrl : ra.length ≤ t.length := by
              have : ra = (afterL t (wantL j)).1 := by rw [hre]
              rw [this]
              unfold afterL
              split
              · simp only [List.length_drop]; omega
              · split <;> simp
            simp only at hr
            have hrs : r.size = ra.length := by rw [← hr, bytesOf_len]
            cases e4 with
            | zero =>
              simp only at hstep
              by_cases hn : n ≤ ra.length
              · rw [if_pos hn] at hstep
                have hni : (n : Int) ≤ (r.size : Int) := by omega
                have HST := Lib.hid hstep
                have HRR := Lib.hid hr
                clear hstep hr hre
                have hx1 : bytesOf (r.extract 0 n) = ra.take n := by rw [bytesOf_to, HRR.out]
                have hx2 : bytesOf (r.extract n r.size) = ra.drop n := by rw [bytesOf_from, HRR.out]
                have HX1 := Lib.hid hx1
                have HX2 := Lib.hid hx2
                clear hx1 hx2
                go_wp2_with fail
                have hsz1 : (r.extract 0 n).size = n := by rw [← bytesOf_len, HX1.out, List.length_take]; omega
                have hsz2 : (r.extract n r.size).size = ra.length - n := by rw [← bytesOf_len, HX2.out, List.length_drop]
                rw [hrs] at hsz2
                have hx2 := HX2.out
                rw [hrs] at hx2
                have HX3 := Lib.hid hx2
                have HS1 := Lib.hid hsz1
                have HS2 := Lib.hid hsz2
                clear hx2 hsz1 hsz2
                have hu4 : Upd Nix w wr.drew := HU3.out.drew
                have HU4 := Lib.hid hu4
                clear hu4
                go_region_with (fail)
                · go_wp2
                  refine bodyPost_ret (results_tmp4 rfl _ _ _) rfl ?_
                  rw [HST.out]
                  obtain ⟨h1, h2, h3⟩ := two_str wr.drew 5 _ _ _ _ _ _ HX1.out HX3.out HS1.out HS2.out
                  exact ⟨_, _, _, _, _, _, rfl, h1, h2, HU4.out.trans h3 fun _ _ h => h⟩
                · go_wp2
                  refine bodyPost_ret (results_tmp4 rfl _ _ _) rfl ?_
                  rw [HST.out]
                  obtain ⟨h1, h2, h3⟩ := two_str wr.drew 5 _ _ _ _ _ _ HX3.out HX1.out HS2.out HS1.out
                  exact ⟨_, _, _, _, _, _, rfl, h2, h1, HU4.out.trans h3 fun _ _ h => h⟩
              · rw [if_neg hn] at hstep
                have hni : ¬ (n : Int) ≤ (r.size : Int) := by omega
                have HST := Lib.hid hstep
                clear hstep hr hre
                go_wp2_with fail
                refine bodyPost_ret (results_tmp4 rfl _ _ _) rfl ?_
                rw [HST.out]
                exact ⟨_, _, _, _, _, _, rfl, Rd.nil _ _ _, Rd.nil _ _ _, HU3.out⟩
            | succ e4 =>
              simp only at hstep
              have hz : ¬ ((e4 + 1 : Nat) : Int) = 0 := by omega
              have hz' : ((e4 + 1 : Nat) : Int) ≠ 0 := by omega
              by_cases he : e4 + 1 = 20
              · rw [if_pos he] at hstep
                have HST := Lib.hid hstep
                have h19 : e4 = 19 := by omega
                subst h19
                clear hstep hr hre hrl hrs
                go_wp2_with fail
                refine ⟨⟨HU3.out, j + 1, 20, by omega, by rfl, by rfl, HST.out⟩, ?_⟩
                simp only [intOf]
                omega
              · rw [if_neg he] at hstep
                have HST := Lib.hid hstep
                have hei : ¬ ((e4 + 1 : Nat) : Int) = 20 := by omega
                clear hstep hr hre hrl hrs
                go_wp2_with fail
                refine ⟨⟨HU3.out, j + 1, f, by omega, by rfl, by rfl, HST.out⟩, ?_⟩
                simp only [intOf]
                omega
          · have hj3 : j = 2 := by omega
            subst hj3
            have hj2i : ¬ (2 : Int) < 2 := by omega
            have HRJ2 : Hid (sizedL l = (0, [], [], f)) := HRJ
            go_wp2_with fail
            refine bodyPost_ret (results_tmp4 rfl _ _ _) rfl ?_
            rw [HRJ2.out]
            exact ⟨_, _, _, _, _, _, rfl, Rd.nil _ _ _, Rd.nil _ _ _, HU3.out⟩
      · have hrest : sizedL l = (0, [], [], 130) := by
          unfold sizedL
          rw [if_neg HLN0.out, HN.out]
          simp only
          rw [if_pos hq]
        have HR := Lib.hid hrest
        clear hrest
        have hdec : decide (itoaL n ≠ l.takeWhile isDig) = true := decide_eq_true hq
        rw [hdec]
        clear hdec hq
        go_wp2_with fail
        refine bodyPost_ret (results_tmp4 rfl _ _ _) rfl ?_
        rw [HR.out]
        exact ⟨_, _, _, _, _, _, rfl, Rd.nil _ _ _, Rd.nil _ _ _, HU2.out⟩
    · have hrest : sizedL l = (0, [], [], 130) := by
        unfold sizedL
        rw [if_neg HLN0.out, hn]
      have HR := Lib.hid hrest
      have HU1 := Lib.hid hu1
      clear hrest hu1 hn
      go_wp2_with fail
      go_quiet (fail)
      go_wp2_with fail
      refine bodyPost_ret (results_tmp4 rfl _ _ _) rfl ?_
      rw [HR.out]
      exact ⟨_, _, _, _, _, _, rfl, Rd.nil _ _ _, Rd.nil _ _ _, HU1.out.drewN _⟩
end Go.Proofs.YtageanmjdfodnaaGreatDoor
