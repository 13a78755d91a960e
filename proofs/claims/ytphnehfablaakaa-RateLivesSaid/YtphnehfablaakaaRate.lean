/- The table of servers: what each of its methods comes to. -/
import Derived.WalkLawsBesides
import Derived.WalkSpells
import Derived.BigQuiet
import Derived.Deep.QuietTactic
import Derived.Test.YtphnehfablaakaaBase
import Derived.Test.YtphnehfablaakaaMap
import Derived.Test.YtphnehfablaakaaFloat
import Derived.Test.YtphnehfablaakaaRows
namespace Go.Proofs.Ytphnehfablaakaa
open Go.RowKit Go.Maps Go.Cx

def Tab (w : World) (tb mb : Nat) (T : Int → Nat × Nat) : Prop :=
  Blk w tb 49 #[.map (some mb)] ∧ (∃ f, MapAt w Try.prog 3 mb f ∧ ∀ a, (Lit.int .i64 a).wf = true → (f (.int .i64 a)).getD (.complex .f64 0 0) = cx (T a).1 (T a).2) ∧ ∀ a, (T a).1 ≤ 8000 ∧ (T a).2 ≤ 1000

theorem lawInt : Keyed Try.prog 3 := int_keyed Try.underlying3
theorem zeroC (w : World) : (zeroValue 29).run Try.prog w = .ok (.complex .f64 0 0) w := by kernel_rfl

theorem rate_none (tb mb : Nat) (w : World) (hc : w.cell? ⟨tb, 0, none⟩ = some (.map (some mb))) :
    Calls Try.prog 26 #[.pointer (some ⟨tb, 0, none⟩)] w fun e w' => e = .returned (.bool false) ∧ w = w' := by
  have hm := fun w r => run_eql_map_nil (P := Try.prog) w 47 3 29 r Try.underlying47
  go_enter Try.func26, Try.ntmps26
  go_wp2
  go_ret
  exact ⟨rfl, rfl⟩

theorem rate_of (tb mb : Nat) (T : Int → Nat × Nat) (a : Int) (w : World) (hT : Tab w tb mb T) (ha : (Lit.int .i64 a).wf = true) :
    Calls Try.prog 11 #[.pointer (some ⟨tb, 0, none⟩), .int .i64 a] w fun e w' => e = .returned (.complex .f64 (fb (T a).1) (fb (T a).2)) ∧ w = w' := by
  obtain ⟨hb, ⟨f, hm, hf⟩, _⟩ := hT
  have hc := hb.cell 0
  simp only [List.getElem?_toArray, List.getElem?_cons_zero] at hc
  have hfin := Lib.hid (hf a ha)
  clear hf hb
  go_enter Try.func11, Try.ntmps11
  go_wp2_with (first
    | (go_at_call 26; refine (rate_none tb mb _ hc).mono ?_; rintro e w' ⟨rfl, rfl⟩)
    | (at_lookup; refine wpList_look1 _ rfl _ _ 47 rfl 3 29 lawInt Try.underlying47 _ (zeroC _) mb f rfl hm _ _ rfl (keyOf_int_mk Try.underlying3 ha) _ hfin.out ?_))
  go_ret
  exact ⟨rfl, rfl⟩

/-- what a failure makes of it -/
def failT (T : Int → Nat × Nat) (a : Int) : Int → Nat × Nat := fun b => if b = a then ((T a).1, min ((T a).2 + 1) 1000) else T b
/-- what an answer makes of it -/
def ansT (T : Int → Nat × Nat) (a : Int) (n : Nat) : Int → Nat × Nat := fun b => if b = a then ((T a).1 - (T a).1 / 8 + n, (T a).2 / 2) else T b

theorem Tab.put {w w' : World} {tb mb : Nat} {T T' : Int → Nat × Nat} {f : Value → Option Value} {a : Int} (hb : Blk w tb 49 #[.map (some mb)])
    (hm : MapAt w' Try.prog 3 mb (putF f (.int .i64 a) (cx (T' a).1 (T' a).2))) (hg : w.grownBy w' (some mb)) (hne : tb ≠ mb)
    (hf : ∀ a, (Lit.int .i64 a).wf = true → (f (.int .i64 a)).getD (.complex .f64 0 0) = cx (T a).1 (T a).2) (ho : ∀ b, b ≠ a → T' b = T b) (hle : ∀ a, (T' a).1 ≤ 8000 ∧ (T' a).2 ≤ 1000) : Tab w' tb mb T' := by
  refine ⟨hb.grown hg (by simpa using hne), ⟨_, hm, fun b hb' => ?_⟩, hle⟩
  by_cases e : b = a
  · subst e; rw [putF_same]; rfl
  · rw [putF_other (by intro h; injection h; contradiction), hf b hb', ho b e]

theorem Tab.ne {w : World} {tb mb : Nat} {T : Int → Nat × Nat} (h : Tab w tb mb T) : tb ≠ mb := by
  obtain ⟨hb, ⟨f, ⟨es, clock, hm, _⟩, _⟩, _⟩ := h
  rintro rfl
  unfold Blk at hb
  rw [hm] at hb
  cases hb

theorem Tab.keep {w w' : World} {tb mb : Nat} {T : Int → Nat × Nat} (h : Tab w tb mb T) (h1 : w'.heap[tb]? = w.heap[tb]?) (h2 : w'.heap[mb]? = w.heap[mb]?) : Tab w' tb mb T := by
  obtain ⟨hb, ⟨f, hm, hf⟩, hle⟩ := h
  exact ⟨hb.keep h1, ⟨f, hm.keep h2, hf⟩, hle⟩
theorem Tab.lt {w : World} {tb mb : Nat} {T : Int → Nat × Nat} (h : Tab w tb mb T) : tb < w.heap.size ∧ mb < w.heap.size := by
  obtain ⟨hb, ⟨f, hm, hf⟩, hle⟩ := h
  exact ⟨hb.lt, hm.lt⟩
theorem Tab.below {w w' : World} {tb mb : Nat} {T : Int → Nat × Nat} (h : Tab w tb mb T) (k : Below w.heap.size w w') : Tab w' tb mb T :=
  h.keep (k.block _ h.lt.1) (k.block _ h.lt.2)
theorem Tab.drewN {w : World} {tb mb : Nat} {T : Int → Nat × Nat} (h : Tab w tb mb T) (n : Nat) : Tab (w.drewN n) tb mb T := h
theorem Tab.upd {w w' : World} {tb mb : Nat} {T : Int → Nat × Nat} (h : Tab w tb mb T) (k : Upd Nix w w') : Tab w' tb mb T :=
  h.keep (k.block _ h.lt.1 id) (k.block _ h.lt.2 id)

theorem cmp_lt_1000 (n : Nat) (h : n ≤ 1000) : (FloatKind.f64.format.order (fb n) 4652007308841189376 == some .lt) = decide (n < 1000) := by
  rw [← fb_1000, order_fb (by omega) (by omega)]
  by_cases hl : n < 1000
  · rw [Nat.compare_eq_lt.2 hl]; simp [hl]
  · have : n = 1000 := by omega
    subst this; rfl

theorem failT_le {T : Int → Nat × Nat} (h : ∀ a, (T a).1 ≤ 8000 ∧ (T a).2 ≤ 1000) (a : Int) : ∀ b, (failT T a b).1 ≤ 8000 ∧ (failT T a b).2 ≤ 1000 := by
  intro b
  have h1 := h a
  have h2 := h b
  unfold failT
  split <;> (try dsimp only) <;> omega

theorem ansT_le {T : Int → Nat × Nat} (h : ∀ a, (T a).1 ≤ 8000 ∧ (T a).2 ≤ 1000) (a : Int) (n : Nat) (hn : n ≤ 1000) : ∀ b, (ansT T a n b).1 ≤ 8000 ∧ (ansT T a n b).2 ≤ 1000 := by
  intro b
  have h1 := h a
  have h2 := h b
  unfold ansT
  split <;> (try dsimp only) <;> omega

theorem rate_failed (tb mb : Nat) (T : Int → Nat × Nat) (a : Int) (w : World) (hT : Tab w tb mb T) (ha : (Lit.int .i64 a).wf = true) :
    Calls Try.prog 12 #[.pointer (some ⟨tb, 0, none⟩), .int .i64 a] w fun e w' => e = .returned (.int .i64 0) ∧ Tab w' tb mb (failT T a) ∧ Upd (One mb) w w' := by
  have hne := hT.ne
  have hT0 := Lib.hid hT
  obtain ⟨hb, ⟨f, hm, hf⟩, hle⟩ := hT
  have hc := hb.cell 0
  simp only [List.getElem?_toArray, List.getElem?_cons_zero] at hc
  have hfin := Lib.hid (hf a ha)
  have hle' := hle a
  have hre : (FloatKind.f64.format.order (fb (T a).2) 4652007308841189376 == some .lt) = decide ((T a).2 < 1000) := cmp_lt_1000 _ hle'.2
  have hf' := Lib.hid hf
  have hle0 := Lib.hid hle
  have hb' := Lib.hid hb
  by_cases hl : (T a).2 < 1000
  · have hl' : (FloatKind.f64.format.order (fb (T a).2) 4652007308841189376 == some .lt) = true := by rw [hre]; simpa using hl
    have hsum := fun w => run_complex_sum (P := Try.prog) w .add (.inl rfl) 29 .f64 (fb (T a).1) (fb (T a).2) 0 4607182418800017408 (fb (T a).1) (fb ((T a).2 + 1)) (by
      have h1 := add_fb (a := (T a).1) (b := 0) (by omega)
      have h2 := add_fb (a := (T a).2) (b := 1) (by omega)
      rw [fb_0] at h1
      rw [fb_1] at h2
      unfold cSumBits
      rw [h1, h2]; rfl)
    clear hf hle hb hre
    go_enter Try.func12, Try.ntmps12
    go_wp2_with (first
      | (go_at_call 26; refine (rate_none tb mb _ hc).mono ?_; rintro e w' ⟨rfl, rfl⟩)
      | (at_lookup; refine wpList_look1 _ rfl _ _ 47 rfl 3 29 lawInt Try.underlying47 _ (zeroC _) mb f rfl hm _ _ rfl (keyOf_int_mk Try.underlying3 ha) (.complex .f64 (fb (T a).1) (fb (T a).2)) hfin.out ?_)
      | (at_mapUpdate; refine wpList_store _ rfl _ _ _ 47 rfl 3 29 lawInt Try.underlying47 mb f rfl hm (.int .i64 a) (.complex .f64 (fb (T a).1) (fb ((T a).2 + 1))) _ rfl rfl (keyOf_int_mk Try.underlying3 ha) ?_; intro w1 hm1 hg1))
    go_ret
    refine ⟨rfl, Tab.put (a := a) hb'.out ?_ hg1 hne hf'.out (fun b hb => by simp [failT, hb]) (failT_le hle0.out a), (Upd.refl _ _).grown hg1 (fun b hb _ => by simpa [Cx.One] using hb.symm)⟩
    have e1 : cx (failT T a a).1 (failT T a a).2 = .complex .f64 (fb (T a).1) (fb ((T a).2 + 1)) := by
      have : min ((T a).2 + 1) 1000 = (T a).2 + 1 := by omega
      simp [failT, cx, this]
    rw [e1]
    exact hm1
  · have hl' : (FloatKind.f64.format.order (fb (T a).2) 4652007308841189376 == some .lt) = false := by rw [hre]; simpa using hl
    clear hf hle hb hre
    go_enter Try.func12, Try.ntmps12
    go_wp2_with (first
      | (go_at_call 26; refine (rate_none tb mb _ hc).mono ?_; rintro e w' ⟨rfl, rfl⟩)
      | (at_lookup; refine wpList_look1 _ rfl _ _ 47 rfl 3 29 lawInt Try.underlying47 _ (zeroC _) mb f rfl hm _ _ rfl (keyOf_int_mk Try.underlying3 ha) (.complex .f64 (fb (T a).1) (fb (T a).2)) hfin.out ?_))
    go_ret
    have e1 : failT T a = T := by
      funext b
      unfold failT
      split
      · rename_i h; subst h
        have : min ((T b).2 + 1) 1000 = (T b).2 := by omega
        rw [this]
      · rfl
    rw [e1]
    exact ⟨rfl, hT0.out, Upd.refl _ _⟩

theorem rate_answered (tb mb : Nat) (T : Int → Nat × Nat) (a : Int) (n : Nat) (w : World) (hT : Tab w tb mb T) (ha : (Lit.int .i64 a).wf = true) (hn : n ≤ 1000) :
    Calls Try.prog 13 #[.pointer (some ⟨tb, 0, none⟩), .int .i64 a, .int .i64 n] w fun e w' => e = .returned (.int .i64 0) ∧ Tab w' tb mb (ansT T a n) ∧ Upd (One mb) w w' := by
  have hne := hT.ne
  obtain ⟨hb, ⟨f, hm, hf⟩, hle⟩ := hT
  have hc := hb.cell 0
  simp only [List.getElem?_toArray, List.getElem?_cons_zero] at hc
  have hfin := Lib.hid (hf a ha)
  have hle' := hle a
  have hf' := Lib.hid hf
  have hle0 := Lib.hid hle
  have hb' := Lib.hid hb
  have hr := Lib.hid (int_fb (n := (T a).1) (by omega))
  have hi := Lib.hid (int_fb (n := (T a).2) (by omega))
  have c1 := fun w => run_convert_float_int (P := Try.prog) w 33 3 .f64 .i64 (fb (T a).1) ((T a).1 : Int) (by rw [Try.underlying33]; rfl) Try.underlying3 hr.out
  have c2 := fun w => run_convert_float_int (P := Try.prog) w 33 3 .f64 .i64 (fb (T a).2) ((T a).2 : Int) (by rw [Try.underlying33]; rfl) Try.underlying3 hi.out
  clear hf hle hb
  go_enter Try.func13, Try.ntmps13
  go_wp2_with (first
    | (go_at_call 26; refine (rate_none tb mb _ hc).mono ?_; rintro e w' ⟨rfl, rfl⟩)
    | (at_lookup; refine wpList_look1 _ rfl _ _ 47 rfl 3 29 lawInt Try.underlying47 _ (zeroC _) mb f rfl hm _ _ rfl (keyOf_int_mk Try.underlying3 ha) (.complex .f64 (fb (T a).1) (fb (T a).2)) hfin.out ?_)
    | (at_mapUpdate; refine wpList_store _ rfl _ _ _ 47 rfl 3 29 lawInt Try.underlying47 mb f rfl hm (.int .i64 a) _ _ rfl rfl (keyOf_int_mk Try.underlying3 ha) ?_; intro w1 hm1 hg1))
  go_ret
  refine ⟨rfl, Tab.put (a := a) hb'.out ?_ hg1 hne hf'.out (fun b hb => by simp [ansT, hb]) (ansT_le hle0.out a n hn), (Upd.refl _ _).grown hg1 (fun b hb _ => by simpa [Cx.One] using hb.symm)⟩
  have e1 : cx (ansT T a n a).1 (ansT T a n a).2 = .complex .f64 (floatOfInt .f64 (((T a).1 : Int) - ((T a).1 : Int) / 8 + (n : Int))) (floatOfInt .f64 (((T a).2 : Int) / 2)) := by
    have h1 : (((T a).1 : Int) - ((T a).1 : Int) / 8 + (n : Int)) = (((T a).1 - (T a).1 / 8 + n : Nat) : Int) := by omega
    have h2 : (((T a).2 : Int) / 2) = (((T a).2 / 2 : Nat) : Int) := by omega
    rw [h1, h2]
    simp [ansT, cx, fb]
  rw [e1]
  exact hm1

theorem rate_answered_bad (tb mb : Nat) (T : Int → Nat × Nat) (a n : Int) (w : World) (hT : Tab w tb mb T) (hn : n < 0 ∨ 1000 < n) :
    Calls Try.prog 13 #[.pointer (some ⟨tb, 0, none⟩), .int .i64 a, .int .i64 n] w fun e w' => e = .returned (.int .i64 1) ∧ w = w' := by
  obtain ⟨hb, _, _⟩ := hT
  have hc := hb.cell 0
  simp only [List.getElem?_toArray, List.getElem?_cons_zero] at hc
  clear hb
  rcases hn with hn | hn
  · go_enter Try.func13, Try.ntmps13
    go_wp2_with (first
      | (go_at_call 26; refine (rate_none tb mb _ hc).mono ?_; rintro e w' ⟨rfl, rfl⟩))
    go_ret
    exact ⟨rfl, rfl⟩
  · have hn' : ¬ n < 0 := by omega
    go_enter Try.func13, Try.ntmps13
    go_wp2_with (first
      | (go_at_call 26; refine (rate_none tb mb _ hc).mono ?_; rintro e w' ⟨rfl, rfl⟩))
    go_ret
    exact ⟨rfl, rfl⟩

theorem rate_new (w : World) :
    Calls Try.prog 9 #[] w fun e w' => e = .returned (.pointer (some ⟨w.heap.size + 1, 0, none⟩)) ∧ Tab w' (w.heap.size + 1) w.heap.size (fun _ => (0, 0)) ∧ Upd Nix w w' ∧ w'.heap.size = w.heap.size + 2 := by
  have hmm := @run_makeMap Try.prog
  go_enter Try.func9, Try.ntmps9
  go_wp2
  go_ret
  refine ⟨rfl, ⟨Blk.new' _ _ _ (by simp), ⟨_, (MapAt.made w _ _).keep (Below.heap_alloc _ _ _ (by simp)), fun a _ => ?_⟩, fun a => by simp⟩, ((Upd.refl _ _).alloc _).alloc _, by simp⟩
  simp [cx, fb_0]

def bet (x y : Nat × Nat) : Bool := decide (x.2 < y.2) || decide (x.2 = y.2) && decide (x.1 < y.1)

theorem ord_lt (a b : Nat) (ha : a ≤ 8192) (hb : b ≤ 8192) : (FloatKind.f64.format.order (fb a) (fb b) == some .lt) = decide (a < b) := by
  rw [order_fb (by omega) (by omega)]
  rcases Nat.lt_trichotomy a b with h | h | h
  · rw [Nat.compare_eq_lt.2 h]; simp [h]
  · rw [Nat.compare_eq_eq.2 h]; simp [h]
  · rw [Nat.compare_eq_gt.2 h]
    have : ¬ a < b := by omega
    simp [this]
theorem ord_eq (a b : Nat) (ha : a ≤ 8192) (hb : b ≤ 8192) : (FloatKind.f64.format.order (fb a) (fb b) == some .eq) = decide (a = b) := by
  rw [order_fb (by omega) (by omega)]
  rcases Nat.lt_trichotomy a b with h | h | h
  · rw [Nat.compare_eq_lt.2 h]
    have : ¬ a = b := by omega
    simp [this]
  · rw [Nat.compare_eq_eq.2 h]; simp [h]
  · rw [Nat.compare_eq_gt.2 h]
    have : ¬ a = b := by omega
    simp [this]

theorem rate_better (x1 x2 y1 y2 : Nat) (w : World) (h1 : x1 ≤ 8192) (h2 : x2 ≤ 8192) (h3 : y1 ≤ 8192) (h4 : y2 ≤ 8192) :
    Calls Try.prog 27 #[.complex .f64 (fb x1) (fb x2), .complex .f64 (fb y1) (fb y2)] w fun e w' => e = .returned (.bool (bet (x1, x2) (y1, y2))) ∧ w = w' := by
  have a1 := ord_lt x2 y2 h2 h4
  have a2 := ord_eq x2 y2 h2 h4
  have a3 := ord_lt x1 y1 h1 h3
  have hb : bet (x1, x2) (y1, y2) = (decide (x2 < y2) || decide (x2 = y2) && decide (x1 < y1)) := rfl
  have hb' := Lib.hid hb
  clear hb
  rcases Nat.lt_trichotomy x2 y2 with h | h | h
  · have d1 : decide (x2 < y2) = true := by simpa using h
    rw [d1] at a1 hb'
    clear a2 a3 d1
    go_enter Try.func27, Try.ntmps27
    go_wp2
    go_ret
    exact ⟨by rw [hb'.out]; simp, rfl⟩
  · have d1 : decide (x2 < y2) = false := by simp; omega
    have d2 : decide (x2 = y2) = true := by simpa using h
    rw [d1] at a1 hb'
    rw [d2] at a2 hb'
    have A3 := Lib.hid a3
    clear a3 h d1 d2
    go_enter Try.func27, Try.ntmps27
    go_wp2
    go_ret
    exact ⟨by rw [hb'.out, ← A3.out]; simp, rfl⟩
  · have d1 : decide (x2 < y2) = false := by simp; omega
    have d2 : decide (x2 = y2) = false := by simp; omega
    rw [d1] at a1 hb'
    rw [d2] at a2 hb'
    clear a3 h d1 d2
    go_enter Try.func27, Try.ntmps27
    go_wp2
    go_ret
    exact ⟨by rw [hb'.out]; simp, rfl⟩
end Go.Proofs.Ytphnehfablaakaa
