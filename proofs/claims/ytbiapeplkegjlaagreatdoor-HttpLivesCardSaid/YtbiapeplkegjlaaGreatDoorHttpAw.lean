/- A reader that is new; the laws' awake. -/
import Derived.Test.YtbiapeplkegjlaaGreatDoorHttpFd
import Derived.Test.YtbiapeplkegjlaaGreatDoorHttpAs0
namespace Go.Proofs.YtbiapeplkegjlaaGreatDoor
open Go.RowKit Go.Cx Go.Maps

theorem flat_at {α : Type} (f : α → List Value) (k : Nat) (hk : ∀ x, (f x).length = k) : ∀ (l : List α) (i j : Nat) (x : α), l[i]? = some x → j < k → (l.map f).flatten[i * k + j]? = (f x)[j]?
  | [], i, j, x, h, _ => by simp at h
  | y :: l, 0, j, x, h, hj => by
    simp only [List.getElem?_cons_zero, Option.some.injEq] at h
    subst h
    rw [List.map_cons, List.flatten_cons, Nat.zero_mul, Nat.zero_add, List.getElem?_append_left (by rw [hk]; exact hj)]
  | y :: l, i + 1, j, x, h, hj => by
    rw [List.getElem?_cons_succ] at h
    rw [List.map_cons, List.flatten_cons, List.getElem?_append_right (by rw [hk, Nat.succ_mul]; omega), hk, show (i + 1) * k + j - k = i * k + j by rw [Nat.succ_mul]; omega]
    exact flat_at f k hk l i j x h hj
/-- the cells of the i-th request -/
theorem ReqsOwn.idx {base c i : Nat} {A : Option Addr} {rqs : List ReqV} {w : World} {r : ReqV} (h : ReqsOwn base A c rqs w) (hr : rqs[i]? = some r) :
    ∃ go, A = some ⟨go, 0, none⟩ ∧ base ≤ go ∧ go < w.heap.size ∧ w.cell? ⟨go, i * 3, none⟩ = some (.string firstS) ∧ w.cell? ⟨go, i * 3 + 1, none⟩ = some (.slice r.row.A r.row.n r.row.c) ∧ w.cell? ⟨go, i * 3 + 2, none⟩ = some (.bool r.keep) := by
  have hi : i < rqs.length := (List.getElem?_eq_some_iff.1 hr).1
  obtain ⟨ad, hA, hB, hc⟩ := (Rd.own h.out).2 (by omega)
  rcases h.out.2 with ⟨hv, h0⟩ | ⟨g, cap, cur, hv, hg, _⟩
  · injection hv with h1 h2 h3
    omega
  · injection hv with h1 h2 h3
    rw [h1] at hA
    injection hA with hA
    subst hA
    refine ⟨g, h1, hg, hB, ?_⟩
    have hadd : ∀ j, (⟨g, 0, none⟩ : Addr).add j = ⟨g, j, none⟩ := fun j => by
      unfold Addr.add
      split <;> simp_all
    have k0 := hc (i * 3 + 0) _ (by rw [flat_at ReqV.cells 3 (fun _ => rfl) rqs i 0 r hr (by omega)]; rfl)
    have k1 := hc (i * 3 + 1) _ (by rw [flat_at ReqV.cells 3 (fun _ => rfl) rqs i 1 r hr (by omega)]; rfl)
    have k2 := hc (i * 3 + 2) _ (by rw [flat_at ReqV.cells 3 (fun _ => rfl) rqs i 2 r hr (by omega)]; rfl)
    rw [hadd] at k0 k1 k2
    exact ⟨k0, k1, k2⟩
theorem http_new (w : World) : Calls Tryz.prog 4 #[] w fun e w' => e = .returned (.pointer (some ⟨w.heap.size, 0, none⟩)) ∧ w' = w.alloc (.cells #[.bool true, .bool false, .slice none 0 0, .pointer none] 39) := by
  go_enter Tryz.func4, Tryz.ntmps4
  go_wp2_with fail
  go_ret
  exact ⟨rfl, rfl⟩
theorem new_rd (w : World) : RdW (w.alloc (.cells #[.bool true, .bool false, .slice none 0 0, .pointer none] 39)) w.heap.size w.heap.size (.slice none 0 0) [] none :=
  ⟨Blk.new _ _ _, Lies.nil _ _ _, fun b hb => (by cases hb), Nat.le_refl _, fun x hx => (by cases hx)⟩
/-- feeding what was asked -/
theorem feed_asks (l : List (List Nat × Bool)) (h : ∀ x ∈ l, x.1.length ≤ 65535) : feedH ⟨false, [], none⟩ ((l.map fun x => askL x.1 x.2 false).flatten) = ((l.map fun x => ⟨x.1, true⟩, 0), ⟨false, [], none⟩) := by
  rw [feedH_W _ _ rfl]
  have := asks_W l [] h
  rw [List.nil_append] at this
  exact this
theorem feed_seven : feedH ⟨false, [], (none : Option BdV).map BdV.d⟩ (askL [7] false false) = (([⟨[7], true⟩], 0), ⟨false, [], none⟩) := by
  have := feed_asks [([7], false)] (by intro x hx; simp only [List.mem_singleton] at hx; subst hx; decide)
  simpa using this
theorem map_one {α β : Type} {f : α → β} {l : List α} {b : β} (h : l.map f = [b]) : ∃ a, l = [a] ∧ f a = b := by
  match l, h with
  | [a], h => exact ⟨a, rfl, by simpa using h⟩
  | [], h => simp at h
  | _ :: _ :: _, h => simp at h
theorem askL_lt {l : List Nat} (h : ∀ b ∈ l, b < 256) : ∀ b ∈ askL l false false, b < 256 := by
  intro b hb
  unfold askL at hb
  rw [text_plain] at hb
  have h1 : ∀ b ∈ preL, b < 256 := by decide +kernel
  have h2 : ∀ b ∈ clenH, b < 256 := by decide +kernel
  have h3 : ∀ b ∈ endL, b < 256 := by decide +kernel
  simp only [Bool.false_eq_true, if_false, List.mem_append] at hb
  rcases hb with (((hb | hb) | hb) | hb) | hb
  · exact h1 b hb
  · exact h2 b hb
  · have := itoa_dig _ b hb
    simp [isDig] at this
    omega
  · exact h3 b hb
  · exact h b hb
set_option maxRecDepth 100000 in
set_option maxHeartbeats 6400000 in
theorem law_awake (w : World) (ht : Tab10 w) : Calls Tryz.prog 10 #[] w fun e w' => e = .returned (.bool true) ∧ Upd Nix w w' := by
  have HT := Lib.hid ht
  clear ht
  go_enter Tryz.func10, Tryz.ntmps10
  go_wp2_with fail
  have hu0 : Upd Nix w (w.alloc (.cells #[.int .u8 7] 5)) := (Upd.refl _ _).alloc _
  have hr0 : Rd (w.alloc (.cells #[.int .u8 7] 5)) (w.alloc (.cells #[.int .u8 7] 5)).heap.size 1 (some ⟨w.heap.size, 0, none⟩) 1 (byts [7]) := (Rd.lit1 w (.int .u8 7) 5).more (by simp)
  refine (http_ask0 _ 1 1 [7] _ hr0 (Nat.le_refl _) (by omega) (HT.out.upd hu0)).mono ?_
  rintro e w1 ⟨⟨ad, n1, c1, rfl, hn1, hc1, hr1⟩, hu1⟩
  have hlen : (askL [7] false false).length ≤ 201 := by
    have := (text_len (n := 1) (by omega) false false).2
    unfold askL
    simp only [Bool.false_eq_true, if_false, List.length_append]
    simp only [List.length_singleton]
    omega
  rw [← hn1] at hlen
  have HR1 := Lib.hid hr1
  have HU1 := Lib.hid (hu0.trans hu1 fun _ _ h => h)
  have HN1 := Lib.hid hn1
  clear hr1 hu1 hu0 hr0 hn1
  go_wp2_with fail
  refine (http_new w1).mono ?_
  rintro e w2 ⟨rfl, rfl⟩
  have hrd := new_rd w1
  have hu2 : Upd Nix w1 (w1.alloc (.cells #[.bool true, .bool false, .slice none 0 0, .pointer none] 39)) := (Upd.refl _ _).alloc _
  have hsz : w1.heap.size ≤ (w1.alloc (.cells #[.bool true, .bool false, .slice none 0 0, .pointer none] 39)).heap.size := hu2.size
  have hx2 := (HR1.out.alloc (Nat.le_refl _) (.cells #[.bool true, .bool false, .slice none 0 0, .pointer none] 39)).more hsz
  generalize (w1.alloc (.cells #[.bool true, .bool false, .slice none 0 0, .pointer none] 39)) = w2 at *
  have HRD := Lib.hid hrd
  have HX2 := Lib.hid hx2
  have HU2 := Lib.hid (HU1.out.trans hu2 fun _ _ h => h)
  clear hrd hx2 hu2
  go_wp2_with fail
  refine (http_feed w1.heap.size w1.heap.size (.slice none 0 0) [] none (some ad) n1 c1 (askL [7] false false) w2 HRD.out HX2.out (askL_lt (by decide)) (by decide) (by omega) hsz).mono ?_
  rintro e w3 ⟨A3, c3, rqs, bv3, body3, rfl, hsaid, hfd⟩
  rw [feed_seven] at hsaid hfd ⊢
  obtain ⟨r, rfl, hr⟩ := map_one hsaid
  obtain ⟨row, keep⟩ := r
  simp only [ReqV.said, Rq.mk.injEq] at hr
  obtain ⟨hrl, rfl⟩ := hr
  obtain ⟨go, rfl, hgo, hgl, k0, k1, k2⟩ := hfd.rq.idx (i := 0) rfl
  have hrow := hfd.rq.rows _ (List.mem_singleton.2 rfl)
  have hrr := Rd.own hrow.own
  simp only at hrr
  rw [hrl] at hrr
  have hrn : row.n = 1 := by
    have := hrr.1
    simpa [byts] using this.symm
  simp only [Nat.zero_mul, Nat.zero_add] at k0 k1 k2
  have hu3 : Upd Nix w w3 := HU2.out.trans hfd.upd fun b hb hf => by
    rcases hf with rfl | hb2 | ⟨x, hx, _⟩
    · have := HU1.out.size; omega
    · cases hb2
    · cases hx
  have HU3 := Lib.hid hu3
  have HRR := Lib.hid hrr
  rw [hrn] at k1 HRR
  clear hfd hsaid hrl hrow hrr hrn hu3 k0
  simp only [List.length_singleton]
  go_wp2_with fail
  have heq := fun (W : World) (hW : Upd Nix w3 W) (b : Nat) (hb : W.cell? ⟨b, 0, none⟩ = some (.int .u8 7)) => bytes_equal W w3.heap.size (b + 1) row.A (some ⟨b, 0, none⟩) 1 1 row.c 1 [7] [7] (HRR.out.below (hW.belowNix (Nat.le_refl _))) ⟨rfl, fun _ => ⟨_, rfl, Nat.lt_succ_self _, fun j u hu => by
    cases j with
    | zero => simpa [byts, Addr.add] using hu ▸ hb
    | succ j => simp [byts] at hu⟩⟩ (by decide) (by decide)
  refine (heq _ ((Upd.refl _ _).alloc _) w3.heap.size ((Blk.new w3 5 #[.int .u8 7]).cell 0)).mono ?_
  rintro e w4 ⟨rfl, rfl⟩
  clear heq
  go_wp2_with fail
  go_ret
  exact ⟨rfl, HU3.out.alloc _⟩
end Go.Proofs.YtbiapeplkegjlaaGreatDoor
