/- Replies: the walks of sized, ParseReply, Reply. -/
import Derived.Test.YtbiapeplkegjlaaGreatDoorHttpA
import Derived.Deep.RegionWith
namespace Go.Proofs.YtbiapeplkegjlaaGreatDoor
open Go.RowKit Go.Cx Go.Maps

/-- the table of powers of ten lies where it lay -/
abbrev Tab10 (w : World) : Prop := Lib.TabIs Tryz.prog w "internal/strconv.uint64pow10" .u64 Lib.pow10Tab
theorem Tab10.upd {w w' : World} (h : Tab10 w) (k : Upd Nix w w') : Tab10 w' := by
  unfold Tab10 Lib.TabIs World.var? at *
  cases hg : Tryz.prog.globalNamed "internal/strconv.uint64pow10" with
  | none => simp [hg] at h
  | some g =>
    simp only [hg, Option.bind_some] at h ⊢
    have hlt : g < w.heap.size := by
      rcases Nat.lt_or_ge g w.heap.size with h' | h'
      · exact h'
      · rw [Array.getElem?_eq_none h'] at h; simp at h
    rw [k.block g hlt (fun h => h)]
    exact h
theorem upd_grow (w : World) (k : Nat) (os : Array Obj) : Upd Nix w (Go.Sort.grow (w.drewN k) os) := by
  have h := ((Upd.refl Nix w).drewN k)
  refine ⟨h.os, h.tape, h.output, ?_, fun b hb hn => ?_⟩
  · have := h.size
    simp only [Go.Sort.grow, Array.size_append]
    omega
  · have hb' : b < (w.drewN k).heap.size := Nat.lt_of_lt_of_le hb h.size
    simp only [Go.Sort.grow]
    rw [Array.getElem?_append_left hb']
    exact h.block b hb hn
theorem itoa_call (n : Nat) (hn : n ≤ 9223372036854775807) (w : World) (ht : Tab10 w) :
    Calls Tryz.prog 35 #[.int .i64 n] w fun e w' => (∃ s : ByteArray, e = .returned (.string s) ∧ bytesOf s = itoaL n) ∧ Upd Nix w w' := by
  refine (Tryz.strconv_Itoa n (by omega) (by omega) w ht).mono ?_
  rintro e w' ⟨rfl, k, os, rfl⟩
  refine ⟨⟨_, rfl, ?_⟩, upd_grow w k os⟩
  unfold bytesOf itoaL Lib.itoa
  rw [if_neg (by omega)]
  simp

/-- where the digits end -/
theorem tw_in {p : Nat → Bool} : ∀ {l : List Nat} {k : Nat}, k < (l.takeWhile p).length → ∃ b, l[k]? = some b ∧ p b = true
  | [], k, h => by simp at h
  | b :: l, k, h => by
    by_cases hp : p b = true
    · rw [List.takeWhile_cons_of_pos hp] at h
      cases k with
      | zero => exact ⟨b, rfl, hp⟩
      | succ k =>
        simp only [List.length_cons] at h
        obtain ⟨b', h1, h2⟩ := tw_in (p := p) (l := l) (k := k) (by omega)
        exact ⟨b', by simpa using h1, h2⟩
    · rw [List.takeWhile_cons_of_neg hp] at h
      simp at h
theorem tw_end {p : Nat → Bool} : ∀ {l : List Nat}, (l.takeWhile p).length = l.length ∨ ∃ b, l[(l.takeWhile p).length]? = some b ∧ p b = false
  | [] => .inl rfl
  | b :: l => by
    by_cases hp : p b = true
    · rw [List.takeWhile_cons_of_pos hp]
      rcases tw_end (p := p) (l := l) with h | ⟨b', h1, h2⟩
      · exact .inl (by simp [h])
      · exact .inr ⟨b', by simpa using h1, h2⟩
    · rw [List.takeWhile_cons_of_neg hp]
      exact .inr ⟨b, rfl, by simpa using hp⟩
theorem tw_take {p : Nat → Bool} (l : List Nat) : l.take (l.takeWhile p).length = l.takeWhile p := (List.prefix_iff_eq_take.1 (List.takeWhile_prefix p)).symm
theorem str_eq (a b : ByteArray) : (a.toList == b.toList) = decide (bytesOf a = bytesOf b) := by
  have h1 : ∀ (x : ByteArray), x.toList = x.data.toList := fun x => Lib.toList_data x
  by_cases h : bytesOf a = bytesOf b
  · rw [decide_eq_true h, bytesOf_inj h]
    simp
  · rw [decide_eq_false h]
    have : a.toList ≠ b.toList := fun e => h (by
      rw [h1, h1] at e
      unfold bytesOf
      rw [e])
    simpa using this

theorem results_tmp4 {fn : Func} {t u v x : Tmp} (h : fn.results = #[.tmp t, .tmp u, .tmp v, .tmp x]) (tmps : Array Value) (P : Program) (w : World) :
    (results fn tmps).run P w = .ok (.tuple #[tmps.getD t undef, tmps.getD u undef, tmps.getD v undef, tmps.getD x undef]) w := by
  simp [results, h]

def Parsed (r : Reply) (w : World) (e : Ending) (w' : World) : Prop :=
  ∃ A n c A' n' c', e = .returned (.tuple #[.int .i64 r.1, .slice A n c, .slice A' n' c', .int .i64 r.2.2.2]) ∧ Rd w' w'.heap.size 1 A n (byts r.2.1) ∧ Rd w' w'.heap.size 1 A' n' (byts r.2.2.1) ∧ Upd Nix w w'
theorem Rd.nil (w : World) (B : Nat) (A : Option Addr) : Rd w B 1 A 0 (byts []) := ⟨rfl, fun h => absurd h (Nat.lt_irrefl _)⟩

/-- what is still to be tried -/
def restL (t : List Nat) (n : Nat) : Nat → Nat → Reply
  | 0, f => tryEnd t endL n f fun f => tryEnd t closeL n f fun f => (0, [], [], f)
  | 1, f => tryEnd t closeL n f fun f => (0, [], [], f)
  | _, f => (0, [], [], f)
def wantL : Nat → List Nat
  | 0 => endL
  | _ => closeL
theorem restL_step (t : List Nat) (n j f : Nat) (hj : j < 2) : restL t n j f = tryEnd t (wantL j) n f (restL t n (j + 1)) := by
  have : j = 0 ∨ j = 1 := by omega
  rcases this with rfl | rfl <;> rfl

theorem two_str (w : World) (e : TypeId) (a b : ByteArray) (na nb : Nat) (la lb : List Nat) (ha : bytesOf a = la) (hb : bytesOf b = lb) (hna : a.size = na) (hnb : b.size = nb) :
    Rd (Lib.bytesWorld (Lib.bytesWorld w e a) e b) (Lib.bytesWorld (Lib.bytesWorld w e a) e b).heap.size 1 (some ⟨w.heap.size, 0, none⟩) na (byts la) ∧
    Rd (Lib.bytesWorld (Lib.bytesWorld w e a) e b) (Lib.bytesWorld (Lib.bytesWorld w e a) e b).heap.size 1 (some ⟨(Lib.bytesWorld w e a).heap.size, 0, none⟩) nb (byts lb) ∧
    Upd Nix w (Lib.bytesWorld (Lib.bytesWorld w e a) e b) := by
  have h1 := Rd.str w e a
  have h2 := Rd.str (Lib.bytesWorld w e a) e b
  have hb2 := below_str (Lib.bytesWorld w e a) e b (Nat.le_refl _)
  have hs1 := Lib.bytesWorld_size w e a
  have hs2 := Lib.bytesWorld_size (Lib.bytesWorld w e a) e b
  rw [ha, hna] at h1
  rw [hb, hnb] at h2
  refine ⟨?_, ?_, (upd_str w e a).trans (upd_str _ e b) fun _ _ h => h⟩
  · rw [← hs1] at h1
    exact (h1.below hb2).more (by omega)
  · rw [hs2]
    exact h2
def endS : ByteArray := { data := #[13, 10, 13, 10] }
def closeS : ByteArray := { data := #[13, 10, 67, 111, 110, 110, 101, 99, 116, 105, 111, 110, 58, 32, 99, 108, 111, 115, 101, 13, 10, 13, 10] }

end Go.Proofs.YtbiapeplkegjlaaGreatDoor
