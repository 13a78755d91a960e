/- Lists of what has one key, plain: by the first ones. The set that says that there is nothing: how it lies in memory while it is made. ciceroneref08.Can of a set that says that there is nothing; ciceroneref09.ttl. ciceroneref09: may, one. ciceroneref08.Can of a set with data. The sets of records, plain: the document's way, first ones first, comes to the same as the program's. -/
import Derived.Test.YtlhbikdelbollaaMRefA
import Derived.Test.YtlhbikdelbollaaGroup
namespace Go.Cx
section
variable {α κ : Type} [DecidableEq κ] (may : α → Bool) (key : α → κ)
def byAddG (gs : List (κ × List α)) (r : α) : List (κ × List α) :=
  if may r = true then
    (match gs.findIdx? (fun g => g.1 = key r) with
     | some i => gs.modify i (fun g => (g.1, g.2 ++ [r]))
     | none => gs ++ [(key r, [r])])
  else gs
/-- whether none of these is of its list -/
def isFirst (l : List α) (r : α) : Bool := may r && l.all (fun o => !(may o && decide (key o = key r)))
def firsts (l : List α) : List α := (l.foldl (fun (s : List α × List α) r => (s.1 ++ [r], if isFirst may key s.1 r = true then s.2 ++ [r] else s.2)) ([], [])).2
def listOf (l : List α) (r : α) : List α := l.filter fun o => may o && decide (key o = key r)
theorem firsts_fst (l : List α) : ∀ s : List α × List α, (l.foldl (fun (s : List α × List α) r => (s.1 ++ [r], if isFirst may key s.1 r = true then s.2 ++ [r] else s.2)) s).1 = s.1 ++ l := by
  induction l with
  | nil => intro s; simp
  | cons r l ih => intro s; rw [List.foldl_cons, ih]; simp
theorem firsts_snoc (l : List α) (r : α) : firsts may key (l ++ [r]) = if isFirst may key l r = true then firsts may key l ++ [r] else firsts may key l := by
  unfold firsts
  rw [List.foldl_append]
  have h := firsts_fst may key l ([], [])
  simp only [List.nil_append] at h
  simp only [List.foldl_cons, List.foldl_nil]
  rw [h]
theorem modify_key (k : κ) (f : κ × List α → κ × List α) : ∀ (gs : List (κ × List α)) (i : Nat), gs.Pairwise (fun a b => a.1 ≠ b.1) → gs.findIdx? (fun g => g.1 = k) = some i → gs.modify i f = gs.map fun g => if g.1 = k then f g else g
  | [], i, _, h => by simp at h
  | g :: gs, i, hp, h => by
    obtain ⟨hp1, hp2⟩ := List.pairwise_cons.1 hp
    rw [List.findIdx?_cons] at h
    by_cases hk : g.1 = k
    · simp only [hk, decide_true, if_true, Option.some.injEq] at h
      subst h
      rw [List.map_cons, if_pos hk]
      have : gs.map (fun g => if g.1 = k then f g else g) = gs := by
        rw [List.map_congr_left (g := id)]
        · simp
        · intro b hb
          rw [if_neg (fun e => hp1 b hb (hk.trans e.symm))]
          rfl
      rw [this]
      rfl
    · simp only [hk, decide_false, Bool.false_eq_true, if_false] at h
      cases hf : gs.findIdx? (fun g => g.1 = k) with
      | none => rw [hf] at h; cases h
      | some j =>
        rw [hf] at h
        simp only [Option.map_some, Option.some.injEq] at h
        subst h
        rw [List.map_cons, if_neg hk, ← modify_key k f gs j hp2 hf]
        rfl
theorem firsts_sub (l : List α) : (∀ r ∈ firsts may key l, r ∈ l ∧ may r = true) ∧ (firsts may key l).Pairwise (fun a b => key a ≠ key b) ∧ (∀ o ∈ l, may o = true → ∃ r ∈ firsts may key l, key r = key o) := by
  obtain ⟨m, rfl⟩ : ∃ m : List α, l = m.reverse := ⟨l.reverse, by simp⟩
  induction m with
  | nil => simp [firsts]
  | cons r m ih =>
    rw [List.reverse_cons, firsts_snoc]
    generalize m.reverse = l at ih
    obtain ⟨h1, h2, h3⟩ := ih
    by_cases hf : isFirst may key l r = true
    · rw [if_pos hf]
      unfold isFirst at hf
      simp only [Bool.and_eq_true, List.all_eq_true] at hf
      obtain ⟨hm, hn⟩ := hf
      refine ⟨fun x hx => ?_, List.pairwise_append.2 ⟨h2, by simp, fun a ha b hb => ?_⟩, fun o ho hmo => ?_⟩
      · rcases List.mem_append.1 hx with hx | hx
        · exact ⟨List.mem_append_left _ (h1 x hx).1, (h1 x hx).2⟩
        · simp only [List.mem_singleton] at hx; subst hx; exact ⟨by simp, hm⟩
      · simp only [List.mem_singleton] at hb
        subst hb
        have := hn a (h1 a ha).1
        simpa [(h1 a ha).2] using this
      · rcases List.mem_append.1 ho with ho | ho
        · obtain ⟨q, hq, hk⟩ := h3 o ho hmo
          exact ⟨q, List.mem_append_left _ hq, hk⟩
        · simp only [List.mem_singleton] at ho; subst ho; exact ⟨o, by simp, rfl⟩
    · rw [if_neg hf]
      refine ⟨fun x hx => ⟨List.mem_append_left _ (h1 x hx).1, (h1 x hx).2⟩, h2, fun o ho hmo => ?_⟩
      rcases List.mem_append.1 ho with ho | ho
      · exact h3 o ho hmo
      · simp only [List.mem_singleton] at ho
        subst ho
        unfold isFirst at hf
        rw [hmo, Bool.true_and] at hf
        have hf2 : ∃ x ∈ l, (may x && decide (key x = key o)) = true := by
          rw [Bool.not_eq_true, List.all_eq_false] at hf
          obtain ⟨x, hx, hxo⟩ := hf
          exact ⟨x, hx, by simpa using hxo⟩
        obtain ⟨x, hx, hxo⟩ := hf2
        simp only [Bool.and_eq_true, decide_eq_true_eq] at hxo
        obtain ⟨q, hq, hk⟩ := h3 x hx hxo.1
        exact ⟨q, hq, hk.trans hxo.2⟩
theorem by_firsts (l : List α) : l.foldl (byAddG may key) [] = (firsts may key l).map fun r => (key r, listOf may key l r) := by
  obtain ⟨m, rfl⟩ : ∃ m : List α, l = m.reverse := ⟨l.reverse, by simp⟩
  induction m with
  | nil => simp [firsts]
  | cons r m ih =>
    rw [List.reverse_cons, List.foldl_append, ih, firsts_snoc]
    generalize m.reverse = l
    simp only [List.foldl_cons, List.foldl_nil]
    obtain ⟨h1, h2, h3⟩ := firsts_sub may key l
    have happ : ∀ x, listOf may key (l ++ [r]) x = listOf may key l x ++ if (may r && decide (key r = key x)) = true then [r] else [] := by
      intro x
      unfold listOf
      rw [List.filter_append]
      by_cases h : (may r && decide (key r = key x)) = true
      · rw [if_pos h]; simp only [List.filter_cons, h, if_true, List.filter_nil]
      · rw [if_neg h]; simp only [List.filter_cons, h, if_false, List.filter_nil, Bool.false_eq_true]
    cases hm : may r with
    | false =>
      have hf : isFirst may key l r = false := by unfold isFirst; simp [hm]
      unfold byAddG
      rw [hm, if_neg (by simp), hf, if_neg (by simp)]
      refine List.map_congr_left fun x _ => ?_
      rw [happ, hm]
      simp
    | true =>
      have hpw : ((firsts may key l).map fun r => (key r, listOf may key l r)).Pairwise (fun a b => a.1 ≠ b.1) := by
        rw [List.pairwise_map]
        exact h2
      unfold byAddG
      rw [if_pos hm]
      cases hi : ((firsts may key l).map fun r => (key r, listOf may key l r)).findIdx? (fun g => g.1 = key r) with
      | some i =>
        simp only
        have hex : ∃ x ∈ firsts may key l, key x = key r := by
          have := List.findIdx?_eq_some_iff_getElem.1 hi
          obtain ⟨hlt, hp, _⟩ := this
          rw [List.length_map] at hlt
          refine ⟨_, List.getElem_mem hlt, ?_⟩
          simpa using hp
        obtain ⟨x, hx, hxk⟩ := hex
        have hf : isFirst may key l r = false := by
          unfold isFirst
          rw [Bool.and_eq_false_iff]
          right
          rw [List.all_eq_false]
          exact ⟨x, (h1 x hx).1, by simp [(h1 x hx).2, hxk]⟩
        rw [hf, if_neg (by simp), modify_key _ _ _ _ hpw hi, List.map_map]
        refine List.map_congr_left fun y hy => ?_
        simp only [Function.comp_apply]
        rw [happ, hm, Bool.true_and]
        by_cases hk : key y = key r
        · rw [if_pos hk, if_pos (by simp [hk])]
        · rw [if_neg hk, if_neg (by simpa using fun e => hk e.symm), List.append_nil]
      | none =>
        simp only
        have hno : ∀ x ∈ firsts may key l, key x ≠ key r := by
          intro x hx e
          have := List.findIdx?_eq_none_iff.1 hi (key x, listOf may key l x) (List.mem_map.2 ⟨x, hx, rfl⟩)
          simp [e] at this
        have hf : isFirst may key l r = true := by
          unfold isFirst
          rw [hm, Bool.true_and, List.all_eq_true]
          intro o ho
          cases hmo : may o with
          | false => simp
          | true =>
            obtain ⟨q, hq, hk⟩ := h3 o ho hmo
            have := hno q hq
            rw [hk] at this
            simp [this]
        have hnil : listOf may key l r = [] := by
          unfold listOf
          rw [List.filter_eq_nil_iff]
          intro o ho
          unfold isFirst at hf
          rw [hm, Bool.true_and, List.all_eq_true] at hf
          have := hf o ho
          cases hmo : may o <;> simp_all
        rw [if_pos hf, List.map_append]
        congr 1
        · refine List.map_congr_left fun y hy => ?_
          rw [happ, hm, Bool.true_and, if_neg (by simpa using fun e => hno y hy e.symm), List.append_nil]
        · rw [List.map_cons, List.map_nil, happ, hnil, hm]
          simp
end
end Go.Cx
namespace Go.Proofs.Ytlhbikdelbollaa
open Go.RowKit Go.Cx Go.Maps

abbrev zero8 : Array Value := #[.string ⟨#[]⟩, .int .i64 0, .int .i64 0, .int .i64 0, .int .i64 0, .int .i64 0, .string ⟨#[]⟩, .slice none 0 0]
structure N3 (w : World) (g : Nat) (qn : ByteArray) (qt qc : Int) (r : RRV) (wr : World) : Prop where
  qb : Blk wr g 41 #[.string qn, .int .i64 qt, .int .i64 qc]
  rb : Blk wr (g + 1) 35 #[.string r.name, .int .i64 r.type, .int .i64 r.cls, .int .i64 r.ttl, .slice r.data.A r.data.n r.data.c]
  sb : Blk wr (g + 2) 28 zero8
  bel : Below g w wr
theorem N3.upd {w : World} {g : Nat} {qn : ByteArray} {qt qc : Int} {r : RRV} {wr wr' : World} (h : N3 w g qn qt qc r wr) (k : Upd Nix wr wr') : N3 w g qn qt qc r wr' :=
  ⟨h.qb.upd k (by simp [Nix]), h.rb.upd k (by simp [Nix]), h.sb.upd k (by simp [Nix]), h.bel.trans (k.belowNix (by have := h.sb.lt; omega))⟩
/-- a set that was made, with one datum -/
def NegBuilt (wr : World) (cells : Value → Array Value) (d : List Nat) (p : Value) (W : World) : Prop :=
  ∃ (z gl base : Nat) (A : Option Addr) (n c : Nat), p = .pointer (some ⟨z, 0, none⟩) ∧ wr.heap.size ≤ z ∧ Blk W z 28 (cells (.slice (some ⟨gl, 0, none⟩) 1 1)) ∧ Blk W gl 33 #[.slice A n c] ∧ W.ownsRow base 5 1 (.slice A n c) n (byts d) ∧ n ≤ 140737488355328 ∧ Upd Nix wr W
theorem sl_own {w : World} {base n c : Nat} {A : Option Addr} {d : List Nat} (h : w.ownsRow base 5 1 (.slice A n c) n (byts d)) (hn : n ≤ 140737488355328) (hb : ∀ b ∈ d, b < 256) : Sl w w.heap.size A n c d := ⟨own_cap h, hn, Rd.own h, hb⟩
theorem Rd.blk1 {w : World} {g : Nat} {t : TypeId} {x : Value} (h : Blk w g t #[x]) : Rd w w.heap.size 1 (some ⟨g, 0, none⟩) 1 [x] := by
  refine ⟨rfl, fun _ => ⟨_, rfl, h.lt, fun j u hu => ?_⟩⟩
  have hadd : (⟨g, 0, none⟩ : Addr).add j = ⟨g, j, none⟩ := by unfold Addr.add; split <;> simp_all
  rw [hadd, h.cell]
  simpa using hu
/-- the set's block came last -/
theorem NegBuilt.c {wr w5 : World} {cells : Value → Array Value} {d : List Nat} {A : Option Addr} {n c base : Nat} (ho : w5.ownsRow base 5 1 (.slice A n c) n (byts d)) (hn : n ≤ 140737488355328) (hu : Upd Nix wr w5) :
    NegBuilt wr cells d (.pointer (some ⟨w5.heap.size + 1, 0, none⟩)) ((w5.alloc (.cells #[.slice A n c] 33)).alloc (.cells (cells (.slice (some ⟨w5.heap.size, 0, none⟩) 1 1)) 28)) :=
  ⟨w5.heap.size + 1, w5.heap.size, base, A, n, c, rfl, by have := hu.size; omega, Blk.new' _ _ _ (by simp), (Blk.new _ _ _).alloc _, (ho.alloc _).alloc _, hn, (hu.alloc _).alloc _⟩
/-- it came behind the datum, the slice behind it -/
theorem NegBuilt.b {wr w5 : World} {cells : Value → Array Value} {d : List Nat} {A : Option Addr} {n c base : Nat} (ho : w5.ownsRow base 5 1 (.slice A n c) n (byts d)) (hn : n ≤ 140737488355328) (hu : Upd Nix wr w5) :
    NegBuilt wr cells d (.pointer (some ⟨w5.heap.size, 0, none⟩)) ((w5.alloc (.cells (cells (.slice (some ⟨w5.heap.size + 1, 0, none⟩) 1 1)) 28)).alloc (.cells #[.slice A n c] 33)) :=
  ⟨w5.heap.size, w5.heap.size + 1, base, A, n, c, rfl, hu.size, (Blk.new _ _ _).alloc _, Blk.new' _ _ _ (by simp), (ho.alloc _).alloc _, hn, (hu.alloc _).alloc _⟩
/-- it came before the datum -/
theorem NegBuilt.a {wr w5 : World} {a b c0 d0 e f g : Value} {d : List Nat} {z base : Nat} {A : Option Addr} {n c : Nat} (ho : w5.ownsRow base 5 1 (.slice A n c) n (byts d)) (hn : n ≤ 140737488355328) (hu : Upd Nix wr w5)
    (hz : wr.heap.size ≤ z) (hb : Blk w5 z 28 zero8) :
    NegBuilt wr (fun v => #[a, b, c0, d0, e, f, g, v]) d (.pointer (some ⟨z, 0, none⟩)) (((((((((w5.setCell ⟨z, 0, none⟩ a).setCell ⟨z, 1, none⟩ b).setCell ⟨z, 2, none⟩ c0).setCell ⟨z, 3, none⟩ d0).setCell ⟨z, 4, none⟩ e).setCell ⟨z, 5, none⟩ f).setCell ⟨z, 6, none⟩ g).setCell ⟨z, 7, none⟩ (.slice (some ⟨w5.heap.size, 0, none⟩) 1 1)).alloc (.cells #[.slice A n c] 33)) := by
  have hone : One z z := rfl
  obtain ⟨W, hW⟩ : ∃ W, ((((((((w5.setCell ⟨z, 0, none⟩ a).setCell ⟨z, 1, none⟩ b).setCell ⟨z, 2, none⟩ c0).setCell ⟨z, 3, none⟩ d0).setCell ⟨z, 4, none⟩ e).setCell ⟨z, 5, none⟩ f).setCell ⟨z, 6, none⟩ g).setCell ⟨z, 7, none⟩ (.slice (some ⟨w5.heap.size, 0, none⟩) 1 1)) = W := ⟨_, rfl⟩
  have hk : Upd (One z) w5 W := by
    rw [← hW]
    iterate 8 refine Upd.set ?_ hone _
    exact Upd.refl _ _
  have hsz : W.heap.size = w5.heap.size := by rw [← hW]; simp
  have hu8 : Upd Nix wr W := by rw [← hW]; exact upd8 hu hz
  have hbl := (((((((hb.set 0 a).set 1 b).set 2 c0).set 3 d0).set 4 e).set 5 f).set 6 g).set 7 (.slice (some ⟨w5.heap.size, 0, none⟩) 1 1)
  unfold zero8 at hbl
  simp only [List.setIfInBounds_toArray, List.set_cons_zero, List.set_cons_succ] at hbl
  rw [hW] at hbl ⊢
  have ho2 : W.ownsRow base 5 1 (.slice A n c) n (byts d) := own_upd' ho hk fun x hx hs => by
    have hs : x = z := hs
    subst hs
    exact own_ne_blk' ho hb (by decide) hx
  exact ⟨z, w5.heap.size, base, A, n, c, rfl, hz, hbl.alloc _, Blk.new' _ _ _ hsz.symm, ho2.alloc _, hn, hu8.alloc _⟩
/-- eight stores into one block -/
theorem upd8one {w : World} {z : Nat} {a b c d e f g h : Value} : Upd (One z) w ((((((((w.setCell ⟨z, 0, none⟩ a).setCell ⟨z, 1, none⟩ b).setCell ⟨z, 2, none⟩ c).setCell ⟨z, 3, none⟩ d).setCell ⟨z, 4, none⟩ e).setCell ⟨z, 5, none⟩ f).setCell ⟨z, 6, none⟩ g).setCell ⟨z, 7, none⟩ h) := by
  have hone : One z z := rfl
  iterate 8 refine Upd.set ?_ hone _
  exact Upd.refl _ _
theorem sl_own_set {w w' : World} {g gl base n c : Nat} {A : Option Addr} {d : List Nat} (ho : w.ownsRow base 5 1 (.slice A n c) n (byts d)) (hn : n ≤ 140737488355328) (hb : ∀ b ∈ d, b < 256) (hg : Blk w g 28 zero8) (hl : Blk w gl 33 #[.slice A n c]) (hk : Upd (One g) w w') :
    RowsAt w' w'.heap.size (some ⟨gl, 0, none⟩) 1 1 [⟨A, n, c, d⟩] := by
  have ho2 : w'.ownsRow base 5 1 (.slice A n c) n (byts d) := own_upd' ho hk fun x hx hs => by
    have hs : x = g := hs
    subst hs
    exact own_ne_blk' ho hg (by decide) hx
  have hl2 := hl.upd hk fun hs => by
    have hs : gl = g := hs
    subst hs
    exact Blk.ne hl hg (by decide) rfl
  refine ⟨rfl, Nat.le_refl _, by omega, Rd.blk1 hl2, fun r hr => ?_⟩
  simp only [List.mem_singleton] at hr
  subst hr
  exact sl_own ho2 hn hb
/-- what both answer -/
def NegIs (res : Option SetC) (w : World) (e : Ending) (w' : World) : Prop :=
  Upd Nix w w' ∧ ((res = none ∧ e = .returned (.tuple #[.agg zero8, .int .i64 1])) ∨ ∃ s : SetV, res = some s.said ∧ e = .returned (.tuple #[s.agg, .int .i64 0]) ∧ SetAt w' w'.heap.size s)
/-- what SOA says, whether it is one or not -/
theorem SoaIs.both {l : List Nat} {e : Ending} (h : SoaIs l e) : ∃ (m r : ByteArray) (f0 f1 f2 f3 f4 : Int) (ok : Bool), e = .returned (.tuple #[.agg (soaCells m r f0 f1 f2 f3 f4), .bool ok]) ∧ ((ok = false ∧ soaL l = none) ∨ (ok = true ∧ ∃ x, soaL l = some x ∧ f4 = ((x.five.getD 4 0 : Nat) : Int))) := by
  rcases h with ⟨h1, rfl⟩ | ⟨s, m, r, f0, f1, f2, f3, f4, h1, _, _, h2, rfl⟩
  · exact ⟨_, _, _, _, _, _, _, _, rfl, .inl ⟨rfl, h1⟩⟩
  · exact ⟨_, _, _, _, _, _, _, _, rfl, .inr ⟨rfl, s, h1, by rw [h2]; rfl⟩⟩
end Go.Proofs.Ytlhbikdelbollaa
namespace Go.Proofs.Ytlhbikdelbollaa
open Go.RowKit Go.Cx Go.Maps

set_option maxRecDepth 100000 in
theorem ref_short8 (n : Nat) (h : n < 65536) (w : World) : Calls Try.prog 61 #[.int .i64 n] w fun e w' => e = .returned (.bool true) ∧ w = w' := by
  have h0 : (0 : Int) ≤ (n : Int) := by omega
  have h1 : (n : Int) ≤ 65535 := by omega
  go_enter Try.func61, Try.ntmps61
  go_wp2_with fail
  go_ret
  exact ⟨rfl, rfl⟩
set_option maxRecDepth 100000 in
set_option maxHeartbeats 800000 in
theorem ref_ttl9 (t : Int) (w : World) : Calls Try.prog 39 #[.int .i64 t] w fun e w' => e = .returned (.int .i64 (lifeL t)) ∧ w = w' := by
  go_enter Try.func39, Try.ntmps39
  by_cases h0 : t < 0
  · have HV := Lib.hid (show lifeL t = 0 by unfold lifeL; rw [if_pos (.inl h0)])
    go_wp2_with fail
    go_ret
    rw [HV.out]
    exact ⟨rfl, rfl⟩
  · by_cases h1 : 2147483648 ≤ t
    · have HV := Lib.hid (show lifeL t = 0 by unfold lifeL; rw [if_pos (.inr (by omega))])
      go_wp2_with fail
      go_ret
      rw [HV.out]
      exact ⟨rfl, rfl⟩
    · have HV := Lib.hid (show lifeL t = min t 86400 by unfold lifeL; rw [if_neg (by omega)])
      go_wp2_with fail
      all_goals
        go_ret
        exact ⟨ret_int (by rw [HV.out] <;> omega), rfl⟩
set_option maxRecDepth 100000 in
set_option maxHeartbeats 800000 in
theorem ref_time9 (t : Int) (w : World) : Calls Try.prog 40 #[.int .i64 t] w fun e w' => e = .returned (.int .i64 (timeL t)) ∧ w = w' := by
  go_enter Try.func40, Try.ntmps40
  go_wp2_with fail
  all_goals
    go_ret
    exact ⟨ret_int (by unfold timeL; omega), rfl⟩
def cells8 (name zone : ByteArray) (tN cN kN eN : Nat) (gl : Nat) : Array Value := #[.string name, .int .i64 tN, .int .i64 cN, .int .i64 3, .int .i64 kN, .int .i64 eN, .string zone, .slice (some ⟨gl, 0, none⟩) 1 1]
set_option maxRecDepth 100000 in
set_option maxHeartbeats 6400000 in
theorem ref_can8n (name zone : ByteArray) (tN cN kN eN gl base : Nat) (A : Option Addr) (n c : Nat) (d : List Nat) (w : World) (hbl : Blk w gl 33 #[.slice A n c]) (ho : w.ownsRow base 5 1 (.slice A n c) n (byts d)) (hn : n ≤ 140737488355328) (hd : ∀ b ∈ d, b < 256)
    (hcn : canL (bytesOf name) = true) (hcz : canL (bytesOf zone) = true) (ht : tN < 65536) (hc : cN < 65536) (hk : kN = 1 ∨ kN = 2) (he : eN ≤ 1099511627776) (htk : (tN = 0) ↔ (kN = 2)) :
    Calls Try.prog 41 #[.agg #[.string name, .int .i64 tN, .int .i64 cN, .int .i64 3, .int .i64 kN, .int .i64 eN, .string zone, .slice (some ⟨gl, 0, none⟩) 1 1]] w fun e w' => e = .returned (.bool (canSet ⟨bytesOf name, tN, cN, 3, kN, eN, bytesOf zone, [d]⟩)) ∧ Upd Nix w w' := by
  have hname : name.size ≤ 255 := can_size hcn
  have hzone : zone.size ≤ 255 := can_size hcz
  obtain ⟨s8, hs8⟩ : ∃ s8 : SetC, s8 = ⟨bytesOf name, tN, cN, 3, kN, eN, bytesOf zone, [d]⟩ := ⟨_, rfl⟩
  have hkey : keyL (bytesOf name) (tN : Int) (cN : Int) = true := by
    unfold keyL
    rw [hcn, decide_eq_true (show (0 : Int) ≤ tN by omega), decide_eq_true (show (tN : Int) < 65536 by omega), decide_eq_true (show (0 : Int) ≤ cN by omega), decide_eq_true (show (cN : Int) < 65536 by omega)]
    rfl
  have hval : rdataL 6 d = true → canSet s8 = decide (19 + name.size + zone.size + (2 + d.length) ≤ 4000) := fun h6 => by
    have h1 := canSet_neg8 s8 d (by rw [hs8]) (by rw [hs8]; exact hkey) (by rw [hs8]; simp only; omega) (by rw [hs8]; simp only; omega) h6 (by rw [hs8]; exact hcz) (by rw [hs8]; simp only; rw [decide_eq_decide]; omega)
    rw [h1, writeL_len, hs8]
    simp [sumL, bytesOf_len]
  have hno : rdataL 6 d = false → canSet s8 = false := fun h6 => canSet_all s8 (by rw [hs8]; simp only; omega) (by rw [hs8]; simp [h6])
  have hdl : d.length = n := by have := ho.1; simpa [byts] using this
  rw [← hs8]
  have HVAL := Lib.hid hval
  have HNO := Lib.hid hno
  have HDL := Lib.hid hdl
  have HBL := Lib.hid hbl
  have HO := Lib.hid ho
  have HD := Lib.hid hd
  have CN := Lib.hid fun W => ref_can name W (by omega)
  have CZ := Lib.hid fun W => ref_can zone W (by omega)
  rw [hcn] at CN
  rw [hcz] at CZ
  have ST := Lib.hid fun W => ref_short8 tN ht W
  have SC := Lib.hid fun W => ref_short8 cN hc W
  clear hval hno hdl hbl ho hd hs8 hkey hcn hcz
  obtain ⟨g, hg⟩ : ∃ g, w.heap.size = g := ⟨_, rfl⟩
  go_enter Try.func41, Try.ntmps41
  go_upto_region 1 with fail
  have hb0 : Blk (w.alloc (.cells #[.string name, .int .i64 tN, .int .i64 cN, .int .i64 3, .int .i64 kN, .int .i64 eN, .string zone, .slice (some ⟨gl, 0, none⟩) 1 1] 28)) g 28 #[.string name, .int .i64 tN, .int .i64 cN, .int .i64 3, .int .i64 kN, .int .i64 eN, .string zone, .slice (some ⟨gl, 0, none⟩) 1 1] := Blk.new' _ _ _ hg.symm
  have hu0 : Upd Nix w (w.alloc (.cells #[.string name, .int .i64 tN, .int .i64 cN, .int .i64 3, .int .i64 kN, .int .i64 eN, .string zone, .slice (some ⟨gl, 0, none⟩) 1 1] 28)) := (Upd.refl _ _).alloc _
  generalize w.alloc (.cells #[.string name, .int .i64 tN, .int .i64 cN, .int .i64 3, .int .i64 kN, .int .i64 eN, .string zone, .slice (some ⟨gl, 0, none⟩) 1 1] 28) = wa at *
  have hb1 := HBL.out.upd hu0 (by simp [Nix])
  have ho1 := own_upd' HO.out hu0 fun _ _ h => h
  have hsl := sl_own ho1 hn HD.out
  have HB0 := Lib.hid hb0
  have HB1 := Lib.hid hb1
  have HU0 := Lib.hid hu0
  have HO1 := Lib.hid ho1
  have hcs : ∀ i, wa.cell? ⟨g, i, none⟩ = _ := fun i => hb0.cell i
  have hcl : wa.cell? ⟨gl, 0, none⟩ = some (.slice A n c) := hb1.cell 0
  have R6 := Lib.hid (ref_rdata6 A n c d wa hsl)
  have hkb : ((kN : Int) == 0) = false := by rw [beq_eq_false_iff_ne]; omega
  have heb : decide ((1099511627776 : Int) < (eN : Int)) = false := decide_eq_false (by omega)
  have he0 : decide ((eN : Int) < 0) = false := decide_eq_false (by omega)
  have hk256 : kN < 256 := by omega
  clear hb0 hb1 hu0 ho1 hsl hg
  rcases hk with hk | hk
  · have hk1 : ((kN : Int) == 1) = true := by rw [beq_iff_eq]; omega
    have hk2 : ((kN : Int) == 2) = false := by rw [beq_eq_false_iff_ne]; omega
    have ht0 : ((tN : Int) == 0) = false := by rw [beq_eq_false_iff_ne]; omega
    cases h6 : rdataL 6 d with
    | false =>
      rw [h6] at R6
      have HV := Lib.hid (HNO.out h6)
      clear h6 hk
      go_wp2_with (first
    | (go_at_call 46; with_reducible refine (CN.out _).mono ?_; rintro e w1 ⟨rfl, rfl⟩)
    | (go_at_call 46; with_reducible refine (CZ.out _).mono ?_; rintro e w1 ⟨rfl, rfl⟩)
    | (go_at_call 61; with_reducible refine (ST.out _).mono ?_; rintro e w1 ⟨rfl, rfl⟩)
    | (go_at_call 61; with_reducible refine (SC.out _).mono ?_; rintro e w1 ⟨rfl, rfl⟩)
    | (go_at_call 59; with_reducible refine R6.out.mono ?_; rintro e w3 ⟨rfl, hu3⟩; have HB3 := Lib.hid (HB0.out.upd hu3 (by simp [Nix])); have HBL3 := Lib.hid (HB1.out.upd hu3 (by simp [Nix])); have HO3 := Lib.hid (own_upd' HO1.out hu3 fun _ _ h => h); have hcs3 : ∀ i, w3.cell? ⟨g, i, none⟩ = _ := (fun i => HB3.out.cell i); have HU3 := Lib.hid (HU0.out.trans hu3 fun _ _ h => h); clear hu3))
      go_ret
      exact ⟨by rw [HV.out]; rfl, HU3.out⟩
    | true =>
      rw [h6] at R6
      have HV := Lib.hid (HVAL.out h6)
      have hdl : d.length ≤ 65535 := rdataL_len h6
      have HDL2 := Lib.hid hdl
      clear h6 hk hdl
      go_upto_region 18 with (first
    | (go_at_call 46; with_reducible refine (CN.out _).mono ?_; rintro e w1 ⟨rfl, rfl⟩)
    | (go_at_call 46; with_reducible refine (CZ.out _).mono ?_; rintro e w1 ⟨rfl, rfl⟩)
    | (go_at_call 61; with_reducible refine (ST.out _).mono ?_; rintro e w1 ⟨rfl, rfl⟩)
    | (go_at_call 61; with_reducible refine (SC.out _).mono ?_; rintro e w1 ⟨rfl, rfl⟩)
    | (go_at_call 59; with_reducible refine R6.out.mono ?_; rintro e w3 ⟨rfl, hu3⟩; have HB3 := Lib.hid (HB0.out.upd hu3 (by simp [Nix])); have HBL3 := Lib.hid (HB1.out.upd hu3 (by simp [Nix])); have HO3 := Lib.hid (own_upd' HO1.out hu3 fun _ _ h => h); have hcs3 : ∀ i, w3.cell? ⟨g, i, none⟩ = _ := (fun i => HB3.out.cell i); have HU3 := Lib.hid (HU0.out.trans hu3 fun _ _ h => h); clear hu3))
      have hrows : RowsAt w3 w3.heap.size (some ⟨gl, 0, none⟩) 1 1 [⟨A, n, c, d⟩] := by
        refine ⟨rfl, Nat.le_refl _, by omega, Rd.blk1 HBL3.out, fun x hx => ?_⟩
        simp only [List.mem_singleton] at hx
        subst hx
        exact sl_own HO3.out hn HD.out
      have hsize : Calls Try.prog 62 #[.agg #[.string name, .int .i64 tN, .int .i64 cN, .int .i64 3, .int .i64 kN, .int .i64 eN, .string zone, .slice (some ⟨gl, 0, none⟩) 1 1]] w3 _ :=
        ref_size name zone tN cN 3 kN eN (some ⟨gl, 0, none⟩) 1 1 [⟨A, n, c, d⟩] w3 _ hrows (Nat.le_refl _) (by omega) (by omega) ht hc (by omega) (by omega) (by omega) (by omega) (by have := HDL2.out; simp [sumL]; omega)
      have SIZE := Lib.hid hsize
      obtain ⟨N, hN⟩ : ∃ N, 19 + name.size + zone.size + sumL ([(⟨A, n, c, d⟩ : Row)].map Row.l) = N := ⟨_, rfl⟩
      have hN2 : 19 + name.size + zone.size + (2 + d.length) = N := by rw [← hN]; simp [sumL]
      rw [hN2] at HV
      rw [hN] at SIZE
      clear hrows hsize hN hN2
      by_cases hle : N ≤ 4000
      · have hi : (N : Int) ≤ 4000 := by omega
        rw [decide_eq_true hle] at HV
        clear hle
        go_wp2_with fail
        refine SIZE.out.mono ?_
        rintro e w4 ⟨rfl, hu4⟩
        have HU4 := Lib.hid (HU3.out.trans hu4 fun _ _ h => h)
        clear hu4
        go_wp2_with fail
        go_ret
        exact ⟨by rw [HV.out]; rfl, HU4.out⟩
      · have hi : decide ((N : Int) ≤ 4000) = false := decide_eq_false (by omega)
        rw [decide_eq_false hle] at HV
        clear hle
        go_wp2_with fail
        refine SIZE.out.mono ?_
        rintro e w4 ⟨rfl, hu4⟩
        have HU4 := Lib.hid (HU3.out.trans hu4 fun _ _ h => h)
        clear hu4
        go_wp2_with fail
        go_ret
        exact ⟨by rw [HV.out]; rfl, HU4.out⟩
  · have hk1 : ((kN : Int) == 1) = false := by rw [beq_eq_false_iff_ne]; omega
    have hk2 : ((kN : Int) == 2) = true := by rw [beq_iff_eq]; omega
    have ht0 : ((tN : Int) == 0) = true := by rw [beq_iff_eq]; omega
    cases h6 : rdataL 6 d with
    | false =>
      rw [h6] at R6
      have HV := Lib.hid (HNO.out h6)
      clear h6 hk
      go_wp2_with (first
    | (go_at_call 46; with_reducible refine (CN.out _).mono ?_; rintro e w1 ⟨rfl, rfl⟩)
    | (go_at_call 46; with_reducible refine (CZ.out _).mono ?_; rintro e w1 ⟨rfl, rfl⟩)
    | (go_at_call 61; with_reducible refine (ST.out _).mono ?_; rintro e w1 ⟨rfl, rfl⟩)
    | (go_at_call 61; with_reducible refine (SC.out _).mono ?_; rintro e w1 ⟨rfl, rfl⟩)
    | (go_at_call 59; with_reducible refine R6.out.mono ?_; rintro e w3 ⟨rfl, hu3⟩; have HB3 := Lib.hid (HB0.out.upd hu3 (by simp [Nix])); have HBL3 := Lib.hid (HB1.out.upd hu3 (by simp [Nix])); have HO3 := Lib.hid (own_upd' HO1.out hu3 fun _ _ h => h); have hcs3 : ∀ i, w3.cell? ⟨g, i, none⟩ = _ := (fun i => HB3.out.cell i); have HU3 := Lib.hid (HU0.out.trans hu3 fun _ _ h => h); clear hu3))
      go_ret
      exact ⟨by rw [HV.out]; rfl, HU3.out⟩
    | true =>
      rw [h6] at R6
      have HV := Lib.hid (HVAL.out h6)
      have hdl : d.length ≤ 65535 := rdataL_len h6
      have HDL2 := Lib.hid hdl
      clear h6 hk hdl
      go_upto_region 18 with (first
    | (go_at_call 46; with_reducible refine (CN.out _).mono ?_; rintro e w1 ⟨rfl, rfl⟩)
    | (go_at_call 46; with_reducible refine (CZ.out _).mono ?_; rintro e w1 ⟨rfl, rfl⟩)
    | (go_at_call 61; with_reducible refine (ST.out _).mono ?_; rintro e w1 ⟨rfl, rfl⟩)
    | (go_at_call 61; with_reducible refine (SC.out _).mono ?_; rintro e w1 ⟨rfl, rfl⟩)
    | (go_at_call 59; with_reducible refine R6.out.mono ?_; rintro e w3 ⟨rfl, hu3⟩; have HB3 := Lib.hid (HB0.out.upd hu3 (by simp [Nix])); have HBL3 := Lib.hid (HB1.out.upd hu3 (by simp [Nix])); have HO3 := Lib.hid (own_upd' HO1.out hu3 fun _ _ h => h); have hcs3 : ∀ i, w3.cell? ⟨g, i, none⟩ = _ := (fun i => HB3.out.cell i); have HU3 := Lib.hid (HU0.out.trans hu3 fun _ _ h => h); clear hu3))
      have hrows : RowsAt w3 w3.heap.size (some ⟨gl, 0, none⟩) 1 1 [⟨A, n, c, d⟩] := by
        refine ⟨rfl, Nat.le_refl _, by omega, Rd.blk1 HBL3.out, fun x hx => ?_⟩
        simp only [List.mem_singleton] at hx
        subst hx
        exact sl_own HO3.out hn HD.out
      have hsize : Calls Try.prog 62 #[.agg #[.string name, .int .i64 tN, .int .i64 cN, .int .i64 3, .int .i64 kN, .int .i64 eN, .string zone, .slice (some ⟨gl, 0, none⟩) 1 1]] w3 _ :=
        ref_size name zone tN cN 3 kN eN (some ⟨gl, 0, none⟩) 1 1 [⟨A, n, c, d⟩] w3 _ hrows (Nat.le_refl _) (by omega) (by omega) ht hc (by omega) (by omega) (by omega) (by omega) (by have := HDL2.out; simp [sumL]; omega)
      have SIZE := Lib.hid hsize
      obtain ⟨N, hN⟩ : ∃ N, 19 + name.size + zone.size + sumL ([(⟨A, n, c, d⟩ : Row)].map Row.l) = N := ⟨_, rfl⟩
      have hN2 : 19 + name.size + zone.size + (2 + d.length) = N := by rw [← hN]; simp [sumL]
      rw [hN2] at HV
      rw [hN] at SIZE
      clear hrows hsize hN hN2
      by_cases hle : N ≤ 4000
      · have hi : (N : Int) ≤ 4000 := by omega
        rw [decide_eq_true hle] at HV
        clear hle
        go_wp2_with fail
        refine SIZE.out.mono ?_
        rintro e w4 ⟨rfl, hu4⟩
        have HU4 := Lib.hid (HU3.out.trans hu4 fun _ _ h => h)
        clear hu4
        go_wp2_with fail
        go_ret
        exact ⟨by rw [HV.out]; rfl, HU4.out⟩
      · have hi : decide ((N : Int) ≤ 4000) = false := decide_eq_false (by omega)
        rw [decide_eq_false hle] at HV
        clear hle
        go_wp2_with fail
        refine SIZE.out.mono ?_
        rintro e w4 ⟨rfl, hu4⟩
        have HU4 := Lib.hid (HU3.out.trans hu4 fun _ _ h => h)
        clear hu4
        go_wp2_with fail
        go_ret
        exact ⟨by rw [HV.out]; rfl, HU4.out⟩
theorem negr_upd {w w0 w5 : World} {v : Value} {z : Nat} (k : w.heap.size ≤ z) (hu : Upd Nix w w0) (hg : w0.grownBy w5 v.ownBlock) (hv : v.ownBlock = some z) : Upd Nix w w5 :=
  hu.grown hg fun b hb hlt => by rw [hv] at hb; injection hb with hb; omega
theorem negr_gr {w0 w5 : World} {v : Value} {z : Nat} (hg : w0.grownBy w5 v.ownBlock) (hv : v.ownBlock = some z) : Upd (One z) w0 w5 :=
  (Upd.refl (One z) w0).grown hg fun b hb _ => by rw [hv] at hb; injection hb with hb; exact hb.symm
theorem negr_lit1 {w : World} {z : Nat} (h : w.heap.size = z) : ((w.alloc (.cells #[] 5)).drew).ownsRow z 5 1 (.slice (some ⟨z, 0, none⟩) 0 0) 0 [] := by
  have := World.ownsRow_lit (base := z) (e := 5) (size := 1) w #[] 0 (by omega) (by decide) rfl
  rw [h] at this
  exact this
theorem negr_lit2 {w : World} {z : Nat} {o : Obj} (h : w.heap.size = z) : (((w.alloc o).alloc (.cells #[] 5)).drew).ownsRow z 5 1 (.slice (some ⟨z + 1, 0, none⟩) 0 0) 0 [] := by
  have := World.ownsRow_lit (base := z) (e := 5) (size := 1) (w.alloc o) #[] 0 (by simp; omega) (by decide) rfl
  rw [show (w.alloc o).heap.size = z + 1 by simp [h]] at this
  exact this
theorem negr_lit3 {w : World} {z : Nat} {o : Obj} (h : w.heap.size = z) : (((w.alloc (.cells #[] 5)).alloc o).drew).ownsRow z 5 1 (.slice (some ⟨z, 0, none⟩) 0 0) 0 [] := by
  have := World.ownsRow_lit (base := z) (e := 5) (size := 1) w #[] 0 (by omega) (by decide) rfl
  rw [h] at this
  exact this.alloc o
theorem negr_blk1 {w : World} {z : Nat} {o : Obj} (h : w.heap.size = z) : Blk (((w.alloc (.cells #[.string ⟨#[]⟩, .int .i64 0, .int .i64 0, .int .i64 0, .int .i64 0, .int .i64 0, .string ⟨#[]⟩, .slice none 0 0] 28)).alloc o).drew) z 28 #[.string ⟨#[]⟩, .int .i64 0, .int .i64 0, .int .i64 0, .int .i64 0, .int .i64 0, .string ⟨#[]⟩, .slice none 0 0] := ((Blk.new' _ _ _ h.symm).alloc _).drew
theorem negr_blk2 {w : World} {z : Nat} {o : Obj} (h : w.heap.size = z) : Blk (((w.alloc o).alloc (.cells #[.string ⟨#[]⟩, .int .i64 0, .int .i64 0, .int .i64 0, .int .i64 0, .int .i64 0, .string ⟨#[]⟩, .slice none 0 0] 28)).drew) (z + 1) 28 #[.string ⟨#[]⟩, .int .i64 0, .int .i64 0, .int .i64 0, .int .i64 0, .int .i64 0, .string ⟨#[]⟩, .slice none 0 0] := (Blk.new' _ _ _ (by simp [h])).drew
theorem negr_own {w : World} {b n c : Nat} {A : Option Addr} {l : List Nat} (h : w.ownsRow b 5 1 (.slice A (0 + n) c) (0 + n) ([] ++ byts l)) : w.ownsRow b 5 1 (.slice A n c) n (byts l) := by
  rw [List.nil_append] at h
  simp only [Nat.zero_add] at h
  exact h
theorem negr_ne {w w' : World} {g z : Nat} {v : Value} {cs : Array Value} (h : Blk w g 33 #[v]) (hz : Blk w z 28 cs) (_hk : Upd (Go.Cx.One z) w w') : ¬ Go.Cx.One z g := fun e => by
  have e : g = z := e
  subst e
  exact Blk.ne h hz (by decide) rfl
end Go.Proofs.Ytlhbikdelbollaa
namespace Go.Proofs.Ytlhbikdelbollaa
open Go.RowKit Go.Cx Go.Maps

set_option maxRecDepth 100000 in
set_option maxHeartbeats 3200000 in
theorem ref_may (r : RRV) (w : World) (h : RRAt w w.heap.size r) : Calls Try.prog 37 #[r.agg] w fun e w' => e = .returned (.bool (mayL r.said)) ∧ Upd Nix w w' := by
  have hname := h.name
  have H := Lib.hid h
  clear h
  unfold RRV.agg
  obtain ⟨g, hg⟩ : ∃ g, w.heap.size = g := ⟨_, rfl⟩
  have hb0 : Blk (w.alloc (.cells #[.string r.name, .int .i64 r.type, .int .i64 r.cls, .int .i64 r.ttl, .slice r.data.A r.data.n r.data.c] 35)) g 35 #[.string r.name, .int .i64 r.type, .int .i64 r.cls, .int .i64 r.ttl, .slice r.data.A r.data.n r.data.c] := Blk.new' _ _ _ hg.symm
  have hu0 : Upd Nix w (w.alloc (.cells #[.string r.name, .int .i64 r.type, .int .i64 r.cls, .int .i64 r.ttl, .slice r.data.A r.data.n r.data.c] 35)) := (Upd.refl _ _).alloc _
  go_enter Try.func37, Try.ntmps37
  go_upto_region 1 with fail
  generalize w.alloc (.cells #[.string r.name, .int .i64 r.type, .int .i64 r.cls, .int .i64 r.ttl, .slice r.data.A r.data.n r.data.c] 35) = wa at *
  have hc : ∀ i, wa.cell? ⟨g, i, none⟩ = _ := fun i => hb0.cell i
  have CAN := Lib.hid (ref_can r.name wa hname)
  have RD := Lib.hid (ref_rdata r.type H.out.t r.data.A r.data.n r.data.c r.data.l wa ((H.out.data.below (hu0.belowNix (Nat.le_refl _))).more hu0.size))
  have HU0 := Lib.hid hu0
  clear hb0 hu0 hg
  cases hcan : canL (bytesOf r.name) with
  | false =>
    rw [hcan] at CAN
    have HV := Lib.hid (show mayL r.said = false by unfold mayL RRV.said; simp [hcan])
    clear hcan
    go_wp2_with (go_at_call 46; refine CAN.out.mono ?_; rintro e w1 ⟨rfl, rfl⟩)
    go_ret
    exact ⟨by rw [HV.out]; rfl, HU0.out⟩
  | true =>
    rw [hcan] at CAN
    have fin : mayL r.said = (decide (0 < r.type) && decide (r.type < 65536) && decide (0 ≤ r.cls) && decide (r.cls < 65536) && rdataL r.type r.data.l) := by unfold mayL RRV.said; simp [hcan]
    have FIN := Lib.hid fin
    clear fin hcan
    have hcase : (¬ 1 ≤ r.type) ∨ (1 ≤ r.type ∧ ¬ r.type ≤ 65535) ∨ (1 ≤ r.type ∧ r.type ≤ 65535 ∧ ¬ 0 ≤ r.cls) ∨ (1 ≤ r.type ∧ r.type ≤ 65535 ∧ 0 ≤ r.cls ∧ ¬ r.cls ≤ 65535) ∨ (1 ≤ r.type ∧ r.type ≤ 65535 ∧ 0 ≤ r.cls ∧ r.cls ≤ 65535) := by omega
    rcases hcase with h1 | ⟨h1, h2⟩ | ⟨h1, h2, h3⟩ | ⟨h1, h2, h3, h4⟩ | ⟨h1, h2, h3, h4⟩
    · have hd : decide (1 ≤ r.type) = false := decide_eq_false h1
      have HV := Lib.hid (show mayL r.said = false by rw [FIN.out, decide_eq_false (show ¬ 0 < r.type by omega)]; rfl)
      go_wp2_with (go_at_call 46; refine CAN.out.mono ?_; rintro e w1 ⟨rfl, rfl⟩)
      go_ret
      exact ⟨by rw [HV.out]; rfl, HU0.out⟩
    · have hd : decide (r.type ≤ 65535) = false := decide_eq_false h2
      have HV := Lib.hid (show mayL r.said = false by rw [FIN.out, decide_eq_false (show ¬ r.type < 65536 by omega)]; simp)
      clear h2
      go_wp2_with (go_at_call 46; refine CAN.out.mono ?_; rintro e w1 ⟨rfl, rfl⟩)
      go_ret
      exact ⟨by rw [HV.out]; rfl, HU0.out⟩
    · have hd : decide (0 ≤ r.cls) = false := decide_eq_false h3
      have HV := Lib.hid (show mayL r.said = false by rw [FIN.out, hd]; simp)
      clear h3
      go_wp2_with (go_at_call 46; refine CAN.out.mono ?_; rintro e w1 ⟨rfl, rfl⟩)
      go_ret
      exact ⟨by rw [HV.out]; rfl, HU0.out⟩
    · have hd : decide (r.cls ≤ 65535) = false := decide_eq_false h4
      have HV := Lib.hid (show mayL r.said = false by rw [FIN.out, decide_eq_false (show ¬ r.cls < 65536 by omega)]; simp)
      clear h4
      go_wp2_with (go_at_call 46; refine CAN.out.mono ?_; rintro e w1 ⟨rfl, rfl⟩)
      go_ret
      exact ⟨by rw [HV.out]; rfl, HU0.out⟩
    · have HV := Lib.hid (show mayL r.said = rdataL r.type r.data.l by rw [FIN.out, decide_eq_true (show 0 < r.type by omega), decide_eq_true (show r.type < 65536 by omega), decide_eq_true h3, decide_eq_true (show r.cls < 65536 by omega)]; rfl)
      go_wp2_with (first | (go_at_call 46; refine CAN.out.mono ?_; rintro e w1 ⟨rfl, rfl⟩) | (go_at_call 59; refine RD.out.mono ?_; rintro e w2 ⟨rfl, hu2⟩; have HU2 := Lib.hid (HU0.out.trans hu2 fun _ _ h => h); clear hu2))
      go_ret
      exact ⟨by rw [HV.out]; rfl, HU2.out⟩
def oneL (a b : RRC) : Bool := sameL a.name b.name && decide (a.type = b.type) && decide (a.cls = b.cls)
set_option maxRecDepth 100000 in
set_option maxHeartbeats 3200000 in
theorem ref_one (a b : RRV) (w : World) (ha : a.name.size ≤ 140737488355328) (hb : b.name.size ≤ 140737488355328) : Calls Try.prog 38 #[a.agg, b.agg] w fun e w' => e = .returned (.bool (oneL a.said b.said)) ∧ Upd Nix w w' := by
  unfold RRV.agg
  obtain ⟨g, hg⟩ : ∃ g, w.heap.size = g := ⟨_, rfl⟩
  have hb0 : Blk ((w.alloc (.cells #[.string a.name, .int .i64 a.type, .int .i64 a.cls, .int .i64 a.ttl, .slice a.data.A a.data.n a.data.c] 35)).alloc (.cells #[.string b.name, .int .i64 b.type, .int .i64 b.cls, .int .i64 b.ttl, .slice b.data.A b.data.n b.data.c] 35)) g 35 #[.string a.name, .int .i64 a.type, .int .i64 a.cls, .int .i64 a.ttl, .slice a.data.A a.data.n a.data.c] := (Blk.new' _ _ _ hg.symm).alloc _
  have hb1 : Blk ((w.alloc (.cells #[.string a.name, .int .i64 a.type, .int .i64 a.cls, .int .i64 a.ttl, .slice a.data.A a.data.n a.data.c] 35)).alloc (.cells #[.string b.name, .int .i64 b.type, .int .i64 b.cls, .int .i64 b.ttl, .slice b.data.A b.data.n b.data.c] 35)) (g + 1) 35 #[.string b.name, .int .i64 b.type, .int .i64 b.cls, .int .i64 b.ttl, .slice b.data.A b.data.n b.data.c] := Blk.new' _ _ _ (by simp [hg])
  have hu0 : Upd Nix w ((w.alloc (.cells #[.string a.name, .int .i64 a.type, .int .i64 a.cls, .int .i64 a.ttl, .slice a.data.A a.data.n a.data.c] 35)).alloc (.cells #[.string b.name, .int .i64 b.type, .int .i64 b.cls, .int .i64 b.ttl, .slice b.data.A b.data.n b.data.c] 35)) := ((Upd.refl _ _).alloc _).alloc _
  go_enter Try.func38, Try.ntmps38
  go_upto_region 1 with fail
  generalize ((w.alloc (.cells #[.string a.name, .int .i64 a.type, .int .i64 a.cls, .int .i64 a.ttl, .slice a.data.A a.data.n a.data.c] 35)).alloc (.cells #[.string b.name, .int .i64 b.type, .int .i64 b.cls, .int .i64 b.ttl, .slice b.data.A b.data.n b.data.c] 35)) = wa at *
  have hc : ∀ i, wa.cell? ⟨g, i, none⟩ = _ := fun i => hb0.cell i
  have hc1 : ∀ i, wa.cell? ⟨g + 1, i, none⟩ = _ := fun i => hb1.cell i
  have SAME := Lib.hid (ref_same1 a.name b.name wa ha hb)
  have HB0 := Lib.hid hb0
  have HB1 := Lib.hid hb1
  have HU0 := Lib.hid hu0
  clear hb0 hb1 hu0 hg
  go_wp2_with fail
  refine SAME.out.mono ?_
  rintro e w1 ⟨rfl, hu1⟩
  have hb0 := HB0.out.upd hu1 (by simp [Nix])
  have hb1 := HB1.out.upd hu1 (by simp [Nix])
  have HU1 := Lib.hid (HU0.out.trans hu1 fun _ _ h => h)
  have hd : ∀ i, w1.cell? ⟨g, i, none⟩ = _ := fun i => hb0.cell i
  have hd1 : ∀ i, w1.cell? ⟨g + 1, i, none⟩ = _ := fun i => hb1.cell i
  clear hb0 hb1 hu1 hc hc1
  cases hs : sameL (bytesOf a.name) (bytesOf b.name) with
  | false =>
    have HV := Lib.hid (show oneL a.said b.said = false by unfold oneL RRV.said; simp [hs])
    clear hs
    go_wp2_with fail
    go_ret
    exact ⟨by rw [HV.out]; rfl, HU1.out⟩
  | true =>
    have FIN := Lib.hid (show oneL a.said b.said = (decide (a.type = b.type) && decide (a.cls = b.cls)) by unfold oneL RRV.said; simp [hs])
    clear hs
    by_cases ht : a.type = b.type
    · have hti : (a.type == b.type) = true := beq_iff_eq.2 ht
      by_cases hk : a.cls = b.cls
      · have hki : (a.cls == b.cls) = true := beq_iff_eq.2 hk
        have HV := Lib.hid (show oneL a.said b.said = true by rw [FIN.out, decide_eq_true ht, decide_eq_true hk]; rfl)
        clear ht hk
        go_wp2_with fail
        go_ret
        exact ⟨by rw [HV.out]; rfl, HU1.out⟩
      · have hki : (a.cls == b.cls) = false := beq_eq_false_iff_ne.2 hk
        have HV := Lib.hid (show oneL a.said b.said = false by rw [FIN.out, decide_eq_false hk]; simp)
        clear ht hk
        go_wp2_with fail
        go_ret
        exact ⟨by rw [HV.out]; rfl, HU1.out⟩
    · have hti : (a.type == b.type) = false := beq_eq_false_iff_ne.2 ht
      have HV := Lib.hid (show oneL a.said b.said = false by rw [FIN.out, decide_eq_false ht]; rfl)
      clear ht
      go_wp2_with fail
      go_ret
      exact ⟨by rw [HV.out]; rfl, HU1.out⟩
end Go.Proofs.Ytlhbikdelbollaa
namespace Go.Proofs.Ytlhbikdelbollaa
open Go.RowKit Go.Cx Go.Maps

theorem canSet_data8 (s : SetC) (hk : keyL s.name s.type s.cls = true) (hr : 1 ≤ s.rank ∧ s.rank ≤ 3 ∧ 0 ≤ s.exp ∧ s.exp ≤ 1099511627776) (hn : s.datas ≠ []) (h0 : s.kind = 0)
    (ha : s.datas.all (fun d => rdataL s.type d) = true) (ht : 0 < s.type) (hz : s.zone = []) : canSet s = decide ((writeL s).length ≤ 4000) := by
  by_cases hw : (writeL s).length ≤ 4000
  · have hs : sumL s.datas ≤ 4000 := by have := writeL_len s; omega
    exact canSet_data s hk hr hn hs h0 ha ht hz
  · rw [decide_eq_false hw]
    unfold canSet
    rw [if_pos h0, if_pos h0, decide_eq_false hw]
    simp
theorem canSet_rank {s : SetC} (h : s.rank < 1 ∨ 3 < s.rank) : canSet s = false := by
  unfold canSet
  rcases h with h | h
  · rw [decide_eq_false (show ¬ 1 ≤ s.rank by omega)]; simp
  · rw [decide_eq_false (show ¬ s.rank ≤ 3 by omega)]; simp
set_option maxRecDepth 100000 in
set_option maxHeartbeats 6400000 in
theorem ref_can80 (name : ByteArray) (tN cN eN : Nat) (rk : Int) (A : Option Addr) (n c : Nat) (rows : List Row) (w : World) (h : RowsAt w w.heap.size A n c rows) (hall : ∀ r ∈ rows, rdataL (tN : Int) r.l = true) (hcn : canL (bytesOf name) = true)
    (ht0 : 1 ≤ tN) (ht : tN < 65536) (hc : cN < 65536) (he : eN ≤ 1099511627776) (hn0 : 1 ≤ n) (hn : n ≤ 4000) :
    Calls Try.prog 41 #[.agg #[.string name, .int .i64 tN, .int .i64 cN, .int .i64 rk, .int .i64 0, .int .i64 eN, .string ⟨#[]⟩, .slice A n c]] w fun e w' => e = .returned (.bool (canSet ⟨bytesOf name, tN, cN, rk, 0, eN, [], rows.map Row.l⟩)) ∧ Upd Nix w w' := by
  have hname : name.size ≤ 255 := can_size hcn
  obtain ⟨s8, hs8⟩ : ∃ s8 : SetC, s8 = ⟨bytesOf name, tN, cN, rk, 0, eN, [], rows.map Row.l⟩ := ⟨_, rfl⟩
  have hkey : keyL (bytesOf name) (tN : Int) (cN : Int) = true := by
    unfold keyL
    rw [hcn, decide_eq_true (show (0 : Int) ≤ tN by omega), decide_eq_true (show (tN : Int) < 65536 by omega), decide_eq_true (show (0 : Int) ≤ cN by omega), decide_eq_true (show (cN : Int) < 65536 by omega)]
    rfl
  have hall2 : (rows.map Row.l).all (fun d => rdataL (tN : Int) d) = true := by
    rw [List.all_map, List.all_eq_true]
    exact fun r hr => hall r hr
  have hne : rows.map Row.l ≠ [] := by
    intro e
    have h1 := congrArg List.length e
    rw [List.length_map, h.len] at h1
    simp at h1
    omega
  have hsum : sumL (rows.map Row.l) ≤ 300000000 := by
    have h1 := sumL_le (rows.map Row.l) fun d hd => by
      obtain ⟨r, hr, rfl⟩ := List.mem_map.1 hd
      exact rdataL_len (hall r hr)
    rw [List.length_map, h.len] at h1
    omega
  have hval : 1 ≤ rk → rk ≤ 3 → canSet s8 = decide (19 + name.size + 0 + sumL (rows.map Row.l) ≤ 4000) := fun h1 h3 => by
    have h4 := canSet_data8 s8 (by rw [hs8]; exact hkey) (by rw [hs8]; simp only; omega) (by rw [hs8]; exact hne) (by rw [hs8]) (by rw [hs8]; exact hall2) (by rw [hs8]; simp only; omega) (by rw [hs8])
    rw [h4, writeL_len, hs8]
    simp [bytesOf_len]
  have hno : rk < 1 ∨ 3 < rk → canSet s8 = false := fun h => canSet_rank (by rw [hs8]; exact h)
  rw [← hs8]
  have HVAL := Lib.hid hval
  have HNO := Lib.hid hno
  have HSUM := Lib.hid hsum
  have H := Lib.hid h
  have HALL := Lib.hid hall
  have CN := Lib.hid fun W => ref_can name W (by omega)
  rw [hcn] at CN
  have ST := Lib.hid fun W => ref_short8 tN ht W
  have SC := Lib.hid fun W => ref_short8 cN hc W
  clear hval hno hsum h hall hs8 hkey hcn hne hall2
  obtain ⟨g, hg⟩ : ∃ g, w.heap.size = g := ⟨_, rfl⟩
  go_enter Try.func41, Try.ntmps41
  go_upto_region 1 with fail
  have hb0 : Blk (w.alloc (.cells #[.string name, .int .i64 tN, .int .i64 cN, .int .i64 rk, .int .i64 0, .int .i64 eN, .string ⟨#[]⟩, .slice A n c] 28)) g 28 #[.string name, .int .i64 tN, .int .i64 cN, .int .i64 rk, .int .i64 0, .int .i64 eN, .string ⟨#[]⟩, .slice A n c] := Blk.new' _ _ _ hg.symm
  have hu0 : Upd Nix w (w.alloc (.cells #[.string name, .int .i64 tN, .int .i64 cN, .int .i64 rk, .int .i64 0, .int .i64 eN, .string ⟨#[]⟩, .slice A n c] 28)) := (Upd.refl _ _).alloc _
  generalize w.alloc (.cells #[.string name, .int .i64 tN, .int .i64 cN, .int .i64 rk, .int .i64 0, .int .i64 eN, .string ⟨#[]⟩, .slice A n c] 28) = wa at *
  have HB0 := Lib.hid hb0
  have HU0 := Lib.hid hu0
  have hcs : ∀ i, wa.cell? ⟨g, i, none⟩ = _ := fun i => hb0.cell i
  have heb : decide ((1099511627776 : Int) < (eN : Int)) = false := decide_eq_false (by omega)
  have he0 : decide ((eN : Int) < 0) = false := decide_eq_false (by omega)
  have hn4 : decide ((4000 : Int) < (n : Int)) = false := decide_eq_false (by omega)
  have hn0i : ((n : Int) == 0) = false := by rw [beq_eq_false_iff_ne]; omega
  have ht0i : ((tN : Int) == 0) = false := by rw [beq_eq_false_iff_ne]; omega
  clear hb0 hu0 hg
  by_cases hr1 : rk < 1
  · have hri : decide (rk < 1) = true := decide_eq_true hr1
    have HV := Lib.hid (HNO.out (.inl hr1))
    go_wp2_with (first
    | (go_at_call 46; with_reducible refine (CN.out _).mono ?_; rintro e w1 ⟨rfl, rfl⟩)
    | (go_at_call 61; with_reducible refine (ST.out _).mono ?_; rintro e w1 ⟨rfl, rfl⟩)
    | (go_at_call 61; with_reducible refine (SC.out _).mono ?_; rintro e w1 ⟨rfl, rfl⟩))
    go_ret
    exact ⟨by rw [HV.out]; rfl, HU0.out⟩
  by_cases hr3 : 3 < rk
  · have hri : decide (rk < 1) = false := decide_eq_false hr1
    have hri3 : decide (3 < rk) = true := decide_eq_true hr3
    have HV := Lib.hid (HNO.out (.inr hr3))
    go_wp2_with (first
    | (go_at_call 46; with_reducible refine (CN.out _).mono ?_; rintro e w1 ⟨rfl, rfl⟩)
    | (go_at_call 61; with_reducible refine (ST.out _).mono ?_; rintro e w1 ⟨rfl, rfl⟩)
    | (go_at_call 61; with_reducible refine (SC.out _).mono ?_; rintro e w1 ⟨rfl, rfl⟩))
    go_ret
    exact ⟨by rw [HV.out]; rfl, HU0.out⟩
  have hri : decide (rk < 1) = false := decide_eq_false hr1
  have hri3 : decide (3 < rk) = false := decide_eq_false hr3
  have HV := Lib.hid (HVAL.out (by omega) (by omega))
  obtain ⟨rN, rfl⟩ : ∃ rN : Nat, rk = (rN : Int) := ⟨rk.toNat, by omega⟩
  have hrb : rN < 256 := by omega
  clear hr1 hr3
  go_wp2_with (first
    | (go_at_call 46; with_reducible refine (CN.out _).mono ?_; rintro e w1 ⟨rfl, rfl⟩)
    | (go_at_call 61; with_reducible refine (ST.out _).mono ?_; rintro e w1 ⟨rfl, rfl⟩)
    | (go_at_call 61; with_reducible refine (SC.out _).mono ?_; rintro e w1 ⟨rfl, rfl⟩))
  clear hcs
  go_loopw [68] (fun s68 wr => ∃ k : Nat, k ≤ n ∧ s68 = .int .i64 k ∧ Upd Nix wa wr) (fun s68 _ => n - (intOf s68).toNat)
  case atStart => exact ⟨0, Nat.zero_le _, rfl, Upd.refl _ _⟩
  case round =>
    obtain ⟨k, hk, rfl, hur⟩ := hrel
    have hb := HB0.out.upd hur (by simp [Nix])
    have hcs : ∀ i, wr.cell? ⟨g, i, none⟩ = _ := fun i => hb.cell i
    have HUR := Lib.hid hur
    have HUW := Lib.hid (HU0.out.trans hur fun _ _ h => h)
    have HB := Lib.hid hb
    clear hb hur
    by_cases hkn : k < n
    · have hki : (k : Int) < (n : Int) := by omega
      have hR := H.out.below (HUW.out.belowNix (Nat.le_refl _))
      obtain ⟨ad, r, _, hr, hrm, hrc, hidx⟩ := hR.idx hkn
      have hsl := ((H.out.each r hrm).upd HUW.out)
      have RD := Lib.hid (ref_rdata (tN : Int) (WalkArith.wf_i64 (by omega)) r.A r.n r.c r.l wr hsl)
      have hrt := HALL.out r hrm
      rw [hrt] at RD
      clear hR hr hrm hsl hrt
      go_wp2_with fail
      refine RD.out.mono ?_
      rintro e w3 ⟨rfl, hu3⟩
      have HU3 := Lib.hid (HUR.out.trans hu3 fun _ _ h => h)
      clear hu3
      go_wp2_with fail
      refine ⟨⟨k + 1, by omega, by rfl, HU3.out⟩, ?_⟩
      simp only [intOf]; omega
    · have hki : ¬ (k : Int) < (n : Int) := by omega
      have hsize := ref_size name ⟨#[]⟩ tN cN rN 0 eN A n c rows wr _ ((H.out.below (HUW.out.belowNix (Nat.le_refl _)))) HUW.out.size (by omega) (by show (0 : Nat) < 256; omega) ht hc hrb (by omega) (by omega) hn HSUM.out
      have SIZE := Lib.hid hsize
      obtain ⟨N, hN⟩ : ∃ N, 19 + name.size + 0 + sumL (rows.map Row.l) = N := ⟨_, rfl⟩
      have hN2 : 19 + name.size + (⟨#[]⟩ : ByteArray).size + sumL (rows.map Row.l) = N := hN
      rw [hN2] at SIZE
      rw [hN] at HV
      clear hsize hN hN2
      by_cases hle : N ≤ 4000
      · have hi : (N : Int) ≤ 4000 := by omega
        rw [decide_eq_true hle] at HV
        clear hle
        go_wp2_with fail
        refine SIZE.out.mono ?_
        rintro e w4 ⟨rfl, hu4⟩
        have HU4 := Lib.hid (HUW.out.trans hu4 fun _ _ h => h)
        clear hu4
        go_wp2_with fail
        go_ret
        exact ⟨by rw [HV.out]; rfl, HU4.out⟩
      · have hi : decide ((N : Int) ≤ 4000) = false := decide_eq_false (by omega)
        rw [decide_eq_false hle] at HV
        clear hle
        go_wp2_with fail
        refine SIZE.out.mono ?_
        rintro e w4 ⟨rfl, hu4⟩
        have HU4 := Lib.hid (HUW.out.trans hu4 fun _ _ h => h)
        clear hu4
        go_wp2_with fail
        go_ret
        exact ⟨by rw [HV.out]; rfl, HU4.out⟩
end Go.Proofs.Ytlhbikdelbollaa
namespace Go.Proofs.Ytlhbikdelbollaa
open Go.Cx

def mayR (r : RRV) : Bool := mayL r.said
/-- the list of a record -/
def listR (rs : List RRV) (r : RRV) : List RRV := listOf mayR keyOfRR rs r
def isFirstR (l : List RRV) (r : RRV) : Bool := isFirst mayR keyOfRR l r
def firstsR (l : List RRV) : List RRV := firsts mayR keyOfRR l
theorem byL_firsts (rs : List RRV) : byL rs = (firstsR rs).map fun r => (keyOfRR r, listR rs r) := by_firsts mayR keyOfRR rs
/-- what the document makes of a record and its list -/
def leastR (now0 : Int) (r : RRV) (l : List RRV) : Int := l.foldl (fun a o => min a (lifeL o.ttl)) (lifeL r.ttl) + now0
def refSet (rank now : Int) (rs : List RRV) (r : RRV) : SetC := ⟨bytesOf r.name, r.type, r.cls, rank, 0, timeL now + minLife (lifeL r.ttl) ((listR rs r).map RRV.said), [], orderL ((listR rs r).map fun o => o.data.l)⟩
def refSets (rank now : Int) (rs fs : List RRV) : List SetC := (fs.map (refSet rank now rs)).filter canSet
theorem may_canL {r : RRV} (h : mayR r = true) : canL (bytesOf r.name) = true ∧ 0 < r.type ∧ r.type < 65536 ∧ 0 ≤ r.cls ∧ r.cls < 65536 ∧ rdataL r.type r.data.l = true := by
  unfold mayR mayL RRV.said at h
  simp only [Bool.and_eq_true, decide_eq_true_eq] at h
  obtain ⟨⟨⟨⟨⟨h1, h2⟩, h3⟩, h4⟩, h5⟩, h6⟩ := h
  exact ⟨h1, h2, h3, h4, h5, h6⟩
theorem one_key {o r : RRV} (ho : mayR o = true) (hr : mayR r = true) : oneL o.said r.said = decide (keyOfRR o = keyOfRR r) := by
  have h1 := (may_canL ho).1
  have h2 := (may_canL hr).1
  unfold oneL sameL RRV.said keyOfRR
  simp only [h1, h2, Bool.true_and, KeyC.mk.injEq]
  by_cases a : lowerL (bytesOf o.name) = lowerL (bytesOf r.name)
  · by_cases b : o.type = r.type
    · by_cases c : o.cls = r.cls <;> simp [a, b, c]
    · simp [a, b]
  · simp [a]
/-- the head of a first one's list is it -/
theorem list_head {pre post : List RRV} {r : RRV} (h : isFirstR pre r = true) : ∃ t, listR (pre ++ r :: post) r = r :: t := by
  unfold isFirstR isFirst at h
  simp only [Bool.and_eq_true, List.all_eq_true] at h
  obtain ⟨hm, hn⟩ := h
  refine ⟨post.filter fun o => mayR o && decide (keyOfRR o = keyOfRR r), ?_⟩
  unfold listR listOf
  rw [List.filter_append]
  have h0 : pre.filter (fun o => mayR o && decide (keyOfRR o = keyOfRR r)) = [] := by
    rw [List.filter_eq_nil_iff]
    intro o ho hh
    have := hn o ho
    rw [hh] at this
    simp at this
  rw [h0, List.nil_append, List.filter_cons, if_pos (by rw [hm]; simp)]
theorem firsts_isFirst (rs : List RRV) : ∀ r ∈ firstsR rs, ∃ pre post, rs = pre ++ r :: post ∧ isFirstR pre r = true := by
  obtain ⟨m, rfl⟩ : ∃ m : List RRV, rs = m.reverse := ⟨rs.reverse, by simp⟩
  induction m with
  | nil => intro r hr; simp [firstsR, firsts] at hr
  | cons x m ih =>
    intro r hr
    unfold firstsR at hr ih
    rw [List.reverse_cons, firsts_snoc] at hr
    by_cases hf : isFirst mayR keyOfRR m.reverse x = true
    · rw [if_pos hf] at hr
      rcases List.mem_append.1 hr with hr | hr
      · obtain ⟨pre, post, he, h⟩ := ih r hr
        exact ⟨pre, post ++ [x], by rw [List.reverse_cons, he]; simp, h⟩
      · simp only [List.mem_singleton] at hr
        subst hr
        exact ⟨m.reverse, [], by rw [List.reverse_cons], hf⟩
    · rw [if_neg hf] at hr
      obtain ⟨pre, post, he, h⟩ := ih r hr
      exact ⟨pre, post ++ [x], by rw [List.reverse_cons, he]; simp, h⟩
theorem setOf_first {rs : List RRV} {r : RRV} (rank now : Int) (h : ∃ t, listR rs r = r :: t) : setOf rank now ((listR rs r).map RRV.said) = refSet rank now rs r := by
  obtain ⟨t, ht⟩ := h
  unfold refSet
  rw [ht]
  simp only [List.map_cons, setOf, List.map_map]
  rfl
/-- both come to the same -/
theorem refSets_eq (rank now : Int) (rs : List RRV) : refSets rank now rs (firstsR rs) = setsOf rank now (byL rs) := by
  unfold refSets setsOf
  rw [byL_firsts, List.map_map]
  congr 1
  refine List.map_congr_left fun r hr => ?_
  obtain ⟨pre, post, he, hf⟩ := firsts_isFirst rs r hr
  show _ = setOf rank now ((listR rs r).map RRV.said)
  rw [setOf_first rank now (by rw [he]; exact list_head hf)]
theorem firstsR_snoc (l : List RRV) (r : RRV) : firstsR (l ++ [r]) = if isFirstR l r = true then firstsR l ++ [r] else firstsR l := firsts_snoc mayR keyOfRR l r
theorem isFirstR_snoc (l : List RRV) (o r : RRV) : isFirstR (l ++ [o]) r = (isFirstR l r && !(mayR o && decide (keyOfRR o = keyOfRR r))) := by
  unfold isFirstR isFirst
  rw [List.all_append, ← Bool.and_assoc]
  simp
theorem listR_snoc (l : List RRV) (o r : RRV) : listR (l ++ [o]) r = if (mayR o && decide (keyOfRR o = keyOfRR r)) = true then listR l r ++ [o] else listR l r := by
  unfold listR listOf
  rw [List.filter_append]
  by_cases h : (mayR o && decide (keyOfRR o = keyOfRR r)) = true
  · rw [if_pos h, List.filter_cons, if_pos h]; rfl
  · rw [if_neg h, List.filter_cons, if_neg h]; simp
end Go.Proofs.Ytlhbikdelbollaa
