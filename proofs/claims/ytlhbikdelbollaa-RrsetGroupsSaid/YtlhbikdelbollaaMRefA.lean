/- Names and sets, plain: the document's way to tell them comes to the same. Names as labels, plain: the document's small letters come to the same. ciceroneref01.Can. ciceroneref03: First, SOA, Can at an SOA. ciceroneref03: texts, options, Can. ciceroneref07.Big, ciceroneref08.bytes, Size: how many bytes an entry has. ciceroneref08.bytes, Size: how many bytes an entry has. ciceroneref01: Labels, small, Join, Lower, Same. -/
import Derived.Test.YtlhbikdelbollaaEntryD
import Derived.Test.YtlhbikdelbollaaRrsetA
import Derived.Deep.RegionWith
import Derived.Deep.OwnRows
import Derived.Deep.RegionHeld3
namespace Go.Proofs.Ytlhbikdelbollaa

/-- midway in a name: so many bytes were met -/
def CanTo (l : List Nat) (a : Nat) : Prop := (a < l.length ∧ restL (l.drop a) = restL l) ∨ (l.length ≤ a ∧ restL l ≠ [0])
theorem CanTo.start (l : List Nat) : CanTo l 0 := by
  cases l with
  | nil => exact .inr ⟨Nat.le_refl _, by rw [restL_none rfl]; simp⟩
  | cons k t => exact .inl ⟨by simp, rfl⟩
theorem drop_at {l : List Nat} {a k : Nat} (h : l[a]? = some k) : l.drop a = k :: l.drop (a + 1) := by
  have ha := (List.getElem?_eq_some_iff.1 h).1
  rw [List.drop_eq_getElem_cons ha]
  congr 1
  rw [List.getElem?_eq_getElem ha] at h
  injection h
theorem CanTo.rest {l : List Nat} {a : Nat} (h : CanTo l a) (ha : a < l.length) : restL (l.drop a) = restL l := by
  rcases h with h | h
  · exact h.2
  · omega
theorem CanTo.zero {l : List Nat} {a : Nat} (h : CanTo l a) (hk : l[a]? = some 0) : restL l = [0] ↔ a + 1 = l.length := by
  have ha := (List.getElem?_eq_some_iff.1 hk).1
  have h1 := h.rest ha
  rw [drop_at hk] at h1
  rw [restL_none (by rw [nextL, if_pos (.inl rfl)])] at h1
  rw [← h1]
  constructor
  · intro h2
    simp only [List.cons.injEq, true_and] at h2
    have := List.drop_eq_nil_iff.1 h2
    omega
  · intro h2
    rw [List.drop_of_length_le (by omega)]
theorem CanTo.big {l : List Nat} {a k : Nat} (h : CanTo l a) (hk : l[a]? = some k) (h63 : 63 < k) : restL l ≠ [0] := by
  have ha := (List.getElem?_eq_some_iff.1 hk).1
  have h1 := h.rest ha
  rw [drop_at hk, restL_none (by rw [nextL, if_pos (.inr (.inl h63))])] at h1
  rw [← h1]
  simp
  omega
theorem CanTo.on {l : List Nat} {a k : Nat} (h : CanTo l a) (hk : l[a]? = some k) (h0 : k ≠ 0) (h63 : k ≤ 63) : CanTo l (a + (1 + k)) := by
  have ha := (List.getElem?_eq_some_iff.1 hk).1
  have h1 := h.rest ha
  have hl : (l.drop (a + 1)).length = l.length - (a + 1) := List.length_drop
  by_cases hs : (l.drop (a + 1)).length < 1 + k
  · right
    rw [drop_at hk, restL_none (by rw [nextL, if_pos (.inr (.inr hs))])] at h1
    refine ⟨by omega, ?_⟩
    rw [← h1]
    simp
    omega
  · left
    refine ⟨by omega, ?_⟩
    rw [← h1, drop_at hk, restL_some (n := k :: l.drop (a + 1)) (k := 1 + k) (by rw [nextL, if_neg (by omega)])]
    rw [← drop_at hk, List.drop_drop]
theorem CanTo.end {l : List Nat} {a : Nat} (h : CanTo l a) (ha : l.length ≤ a) : restL l ≠ [0] := by
  rcases h with h | h
  · omega
  · exact h.2
theorem canL_not {l : List Nat} (h : restL l ≠ [0]) : canL l = false := by unfold canL; rw [decide_eq_false h]; rfl
theorem canL_long {l : List Nat} (h : 255 < l.length) : canL l = false := by unfold canL; rw [decide_eq_false (show ¬ l.length ≤ 255 by omega)]; simp
theorem CanTo.fin {l : List Nat} {a : Nat} (h : CanTo l a) (hk : l[a]? = some 0) (hl : l.length ≤ 255) : canL l = decide (a + 1 = l.length) := by
  unfold canL
  rw [decide_eq_true hl, Bool.and_true, decide_eq_decide]
  exact h.zero hk

/-- a name at the beginning of bytes ends where the labels end -/
theorem can_at : ∀ (m : Nat) (n b : List Nat), n.length = m → n <+: b → restL n = [0] → atL b + 1 = n.length := by
  intro m
  induction m using Nat.strongRecOn with
  | _ m ih =>
    intro n b hm hp hr
    cases hn : nextL n with
    | none =>
      rw [restL_none hn] at hr
      subst hr
      obtain ⟨t, rfl⟩ := hp
      show atL (0 :: t) + 1 = _
      rw [atL_zero]
      rfl
    | some k =>
      rw [restL_some hn] at hr
      have hpos := nextL_pos hn
      obtain ⟨t, rfl⟩ := hp
      cases n with
      | nil => cases hn
      | cons c n =>
        have hc : ¬ (c = 0 ∨ 63 < c ∨ n.length < 1 + c) := by
          intro h
          rw [nextL, if_pos h] at hn
          cases hn
        rw [nextL, if_neg hc] at hn
        injection hn with hn
        subst hn
        have h1 := ih ((c :: n).drop (1 + c)).length (by rw [List.length_drop, ← hm]; omega) ((c :: n).drop (1 + c)) (((c :: n) ++ t).drop (1 + c)) rfl (by
          rw [List.drop_append_of_le_length (by omega)]
          exact List.prefix_append _ _) hr
        rw [List.length_drop] at h1
        rw [List.cons_append, atL_cons _ (by omega)]
        rw [List.cons_append, Nat.add_comm 1 c, List.drop_succ_cons] at h1
        omega
theorem canL_rest {n : List Nat} (h : canL n = true) : restL n = [0] ∧ n.length ≤ 255 := by
  unfold canL at h
  simp only [Bool.and_eq_true, decide_eq_true_eq] at h
  exact h
theorem cutL_some {b : List Nat} {k : Nat} (hk : k ≤ b.length) (h : canL (b.take k) = true) : cutL b = some (b.take k, b.drop k) := by
  obtain ⟨h1, _⟩ := canL_rest h
  have h2 := can_at _ _ b rfl (List.take_prefix k b) h1
  rw [List.length_take, Nat.min_eq_left hk] at h2
  unfold cutL
  rw [h2, if_pos ⟨by omega, h⟩]
theorem cutL_none {b : List Nat} (h : ∀ k, 1 ≤ k → k ≤ b.length → k ≤ 255 → canL (b.take k) = false) : cutL b = none := by
  unfold cutL
  rw [if_neg]
  rintro ⟨h1, h2⟩
  have h3 := (canL_rest h2).2
  rw [List.length_take, Nat.min_eq_left (by omega)] at h3
  rw [h _ (by omega) (by omega) h3] at h2
  cases h2
theorem writeL_len (s : SetC) : (writeL s).length = 19 + s.name.length + s.zone.length + sumL s.datas := by
  unfold writeL
  simp only [List.length_append, numL_len, datasL_len, List.length_cons, List.length_nil]
  omega
/-- what a set that says that there is nothing wants -/
theorem canSet_neg8 (s : SetC) (d : List Nat) (hd : s.datas = [d]) (hk : keyL s.name s.type s.cls = true) (hr : 1 ≤ s.rank ∧ s.rank ≤ 3 ∧ 0 ≤ s.exp ∧ s.exp ≤ 1099511627776) (h : s.kind = 1 ∨ s.kind = 2)
    (ha : rdataL 6 d = true) (hz : canL s.zone = true) (ht : decide (s.type = 0) = decide (s.kind = 2)) : canSet s = decide ((writeL s).length ≤ 4000) := by
  by_cases hw : (writeL s).length ≤ 4000
  · have hs : sumL s.datas ≤ 4000 := by have := writeL_len s; omega
    exact canSet_neg s hk hr (by rw [hd]; simp) hs (by omega) h (by rw [hd]; simp [ha]) hz (by rw [hd]; rfl) ht
  · rw [decide_eq_false hw]
    unfold canSet
    rw [if_neg (show ¬ s.kind = 0 by omega), if_neg (show ¬ s.kind = 0 by omega), if_pos h, decide_eq_false hw]
    simp
theorem canSet_key (s : SetC) (h : keyL s.name s.type s.cls = false) : canSet s = false := by unfold canSet; rw [h]; simp
theorem canSet_true {s : SetC} (h : canSet s = true) : keyL s.name s.type s.cls = true ∧ 1 ≤ s.rank ∧ s.rank ≤ 3 ∧ 0 ≤ s.exp ∧ s.exp ≤ 1099511627776 ∧ sumL s.datas ≤ 4000 ∧ (s.kind ≠ 0 → (s.kind = 1 ∨ s.kind = 2) ∧ canL s.zone = true ∧ s.datas.length = 1 ∧ decide (s.type = 0) = decide (s.kind = 2) ∧ s.datas.all (fun d => rdataL 6 d) = true) := by
  unfold canSet at h
  simp only [Bool.and_eq_true, decide_eq_true_eq] at h
  obtain ⟨⟨⟨⟨⟨⟨⟨⟨h1, h2⟩, h3⟩, h4⟩, h5⟩, h6⟩, h7⟩, h8⟩, h9⟩ := h
  refine ⟨h1, h2, h3, h4, h5, h7, fun hk => ?_⟩
  rw [if_neg hk] at h9 h8
  split at h9
  · rename_i hk2
    simp only [Bool.and_eq_true, decide_eq_true_eq, beq_iff_eq] at h9
    exact ⟨hk2, h9.1.1.1, h9.1.1.2, h9.1.2, h8⟩
  · cases h9
/-- the set that says that there is nothing -/
def negS (qn : List Nat) (qt qc kind : Int) (sn : List Nat) (sttl : Int) (sd : List Nat) (least now : Int) : SetC := ⟨qn, if kind = 2 then 0 else qt, qc, 3, kind, timeL now + min (lifeL sttl) (lifeL least), sn, [sd]⟩
def negL (qn : List Nat) (qt qc kind : Int) (sn : List Nat) (st sttl : Int) (sd : List Nat) (now : Int) : Option SetC :=
  if kind ≠ 1 ∧ kind ≠ 2 ∨ qt < 1 ∨ 65536 ≤ qt ∨ st ≠ 6 then none else
  match soaL sd with
  | none => none
  | some x => if canSet (negS qn qt qc kind sn sttl sd (x.five.getD 4 0 : Nat) now) = true then some (negS qn qt qc kind sn sttl sd (x.five.getD 4 0 : Nat) now) else none
theorem negL_bad {qn : List Nat} {qt qc kind : Int} {sn : List Nat} {st sttl : Int} {sd : List Nat} {now : Int} (h : kind ≠ 1 ∧ kind ≠ 2 ∨ qt < 1 ∨ 65536 ≤ qt ∨ st ≠ 6) : negL qn qt qc kind sn st sttl sd now = none := by unfold negL; rw [if_pos h]
theorem negL_soa {qn : List Nat} {qt qc kind : Int} {sn : List Nat} {st sttl : Int} {sd : List Nat} {now : Int} (h : soaL sd = none) : negL qn qt qc kind sn st sttl sd now = none := by
  unfold negL
  split
  · rfl
  · rw [h]
theorem negL_can {qn : List Nat} {qt qc kind : Int} {sn : List Nat} {st sttl : Int} {sd : List Nat} {now : Int} {x : SoaL} (h : ¬ (kind ≠ 1 ∧ kind ≠ 2 ∨ qt < 1 ∨ 65536 ≤ qt ∨ st ≠ 6)) (hs : soaL sd = some x) :
    negL qn qt qc kind sn st sttl sd now = if canSet (negS qn qt qc kind sn sttl sd (x.five.getD 4 0 : Nat) now) = true then some (negS qn qt qc kind sn sttl sd (x.five.getD 4 0 : Nat) now) else none := by
  unfold negL
  rw [if_neg h, hs]
theorem negL_key {qn : List Nat} {qt qc kind : Int} {sn : List Nat} {st sttl : Int} {sd : List Nat} {now : Int} (h : canL qn = false ∨ canL sn = false ∨ qc < 0 ∨ 65535 < qc) : negL qn qt qc kind sn st sttl sd now = none := by
  unfold negL
  split
  · rfl
  · split
    · rfl
    · rename_i h0 _ x hx
      rw [if_neg]
      intro hc
      obtain ⟨h1, _, _, _, _, _, h2⟩ := canSet_true hc
      have hk : (negS qn qt qc kind sn sttl sd (x.five.getD 4 0 : Nat) now).kind ≠ 0 := by
        show kind ≠ 0
        omega
      obtain ⟨_, h3, _⟩ := h2 hk
      have h4 := key_size h1
      rcases h with h | h | h | h
      · rw [show (negS qn qt qc kind sn sttl sd (x.five.getD 4 0 : Nat) now).name = qn from rfl, h] at h4; exact absurd h4.2.2.2.2.2 (by simp)
      · rw [show (negS qn qt qc kind sn sttl sd (x.five.getD 4 0 : Nat) now).zone = sn from rfl, h] at h3; cases h3
      · have := h4.2.2.2.1; simp only [negS] at this; omega
      · have := h4.2.2.2.2.1; simp only [negS] at this; omega
end Go.Proofs.Ytlhbikdelbollaa
namespace Go.Proofs.Ytlhbikdelbollaa

/-- a name's labels -/
def labelsL (n : List Nat) : List (List Nat) := match _h : nextL n with
  | none => []
  | some k => (n.take k).drop 1 :: labelsL (n.drop k)
termination_by n.length
decreasing_by
  have := nextL_pos _h
  rw [List.length_drop]
  omega
theorem labelsL_none {n : List Nat} (h : nextL n = none) : labelsL n = [] := by
  rw [labelsL]
  split
  · rfl
  · rename_i k hk
    rw [h] at hk
    cases hk
theorem labelsL_some {n : List Nat} {k : Nat} (h : nextL n = some k) : labelsL n = (n.take k).drop 1 :: labelsL (n.drop k) := by
  conv => lhs; rw [labelsL]
  split
  · rename_i hk
    rw [h] at hk
    cases hk
  · rename_i k' hk
    rw [h] at hk
    injection hk with hk
    rw [hk]
def joinTo (ls : List (List Nat)) : List Nat := (ls.map fun x => x.length :: x).flatten
theorem joinTo_snoc (ls : List (List Nat)) (x : List Nat) : joinTo (ls ++ [x]) = joinTo ls ++ (x.length :: x) := by simp [joinTo]
theorem nextL_split {n : List Nat} {k : Nat} (h : nextL n = some k) : ∃ c t, n = c :: t ∧ k = 1 + c ∧ 1 ≤ c ∧ c ≤ 63 ∧ c < t.length := by
  cases n with
  | nil => cases h
  | cons c t =>
    by_cases hc : c = 0 ∨ 63 < c ∨ t.length < 1 + c
    · rw [nextL, if_pos hc] at h
      cases h
    · rw [nextL, if_neg hc] at h
      injection h with h
      exact ⟨c, t, rfl, h.symm, by omega, by omega, by omega⟩
/-- small letters, label by label -/
theorem join_low : ∀ (m : Nat) (n : List Nat), n.length = m → restL n = [0] → joinTo ((labelsL n).map fun x => x.map lowC) ++ [0] = n.map lowC := by
  intro m
  induction m using Nat.strongRecOn with
  | _ m ih =>
    intro n hm hr
    cases hn : nextL n with
    | none =>
      rw [restL_none hn] at hr
      rw [labelsL_none hn, hr]
      rfl
    | some k =>
      obtain ⟨c, t, rfl, rfl, h1, h63, hct⟩ := nextL_split hn
      rw [restL_some hn] at hr
      have h2 := ih ((c :: t).drop (1 + c)).length (by rw [List.length_drop, ← hm]; simp; omega) _ rfl hr
      rw [labelsL_some hn, List.map_cons]
      have e1 : ((c :: t).take (1 + c)).drop 1 = t.take c := by rw [Nat.add_comm, List.take_succ_cons]; rfl
      have e2 : (c :: t).drop (1 + c) = t.drop c := by rw [Nat.add_comm, List.drop_succ_cons]
      rw [e1]
      rw [e2] at h2 ⊢
      show ((List.map lowC (t.take c)).length :: List.map lowC (t.take c)) ++ joinTo _ ++ [0] = _
      rw [List.append_assoc, h2, List.cons_append, ← List.map_append, List.take_append_drop, List.length_map, List.length_take, Nat.min_eq_left (by omega), List.map_cons]
      congr 1
      unfold lowC
      rw [if_neg (by omega)]
theorem labels_len : ∀ (m : Nat) (n : List Nat), n.length = m → (labelsL n).length ≤ m ∧ ∀ x ∈ labelsL n, x.length ≤ 63 := by
  intro m
  induction m using Nat.strongRecOn with
  | _ m ih =>
    intro n hm
    cases hn : nextL n with
    | none => rw [labelsL_none hn]; simp
    | some k =>
      obtain ⟨c, t, rfl, rfl, h1, h63, hct⟩ := nextL_split hn
      have h2 := ih ((c :: t).drop (1 + c)).length (by rw [List.length_drop, ← hm]; simp; omega) _ rfl
      rw [labelsL_some hn]
      constructor
      · have := h2.1
        simp only [List.length_cons, List.length_drop] at this hm ⊢
        omega
      · intro x hx
        rcases List.mem_cons.1 hx with rfl | hx
        · simp only [List.length_drop, List.length_take]
          omega
        · exact h2.2 x hx
end Go.Proofs.Ytlhbikdelbollaa
namespace Go.Proofs.Ytlhbikdelbollaa
open Go.RowKit Go.Cx Go.Maps

set_option maxRecDepth 100000 in
set_option maxHeartbeats 3200000 in
theorem ref_can (s : ByteArray) (w : World) (hs : s.size ≤ 140737488355328) :
    Calls Try.prog 46 #[.string s] w fun e w' => e = .returned (.bool (canL (bytesOf s))) ∧ w = w' := by
  obtain ⟨l, hl⟩ : ∃ l, bytesOf s = l := ⟨_, rfl⟩
  have hlen := bytesOf_len s
  rw [hl] at hlen ⊢
  have HL := Lib.hid hl
  have HLN := Lib.hid hlen
  clear hl hlen
  by_cases h255 : 255 < s.size
  · have hi : (255 : Int) < (s.size : Int) := by omega
    have hv := Lib.hid (canL_long (l := l) (by rw [HLN.out]; exact h255))
    go_enter Try.func46, Try.ntmps46
    go_wp2_with fail
    go_ret
    exact ⟨by rw [hv.out]; rfl, rfl⟩
  · have hi : ¬ (255 : Int) < (s.size : Int) := by omega
    go_enter Try.func46, Try.ntmps46
    go_wp2_with fail
    go_loopw [3] (fun s1 wr => w = wr ∧ ∃ a : Nat, a ≤ s.size + 64 ∧ s1 = .int .i64 a ∧ CanTo l a) (fun s1 _ => s.size - (intOf s1).toNat)
    case atStart => exact ⟨rfl, 0, by omega, rfl, CanTo.start l⟩
    case round =>
      obtain ⟨rfl, a, ha, rfl, hat⟩ := hrel
      have HAT := Lib.hid hat
      clear hat
      by_cases has : a < s.size
      · have hi2 : (a : Int) < (s.size : Int) := by omega
        obtain ⟨k, hk⟩ : ∃ k, l[a]? = some k := ⟨_, List.getElem?_eq_getElem (by rw [HLN.out]; exact has)⟩
        have hix := index_str s a k (by rw [HL.out]; exact hk)
        have hk256 : k < 256 := bytesOf_lt s k (by rw [HL.out]; exact List.mem_of_getElem? hk)
        have HK := Lib.hid hk
        clear hk
        by_cases hk0 : k = 0
        · have hki : ((k : Int) == 0) = true := by simp [hk0]
          have hv := HAT.out.fin (by rw [HK.out, hk0]) (by rw [HLN.out]; omega)
          rw [HLN.out] at hv
          have HV := Lib.hid hv
          clear hv hk0
          by_cases hend : a + 1 = s.size
          · have he : ((a : Int) == (s.size : Int) - 1) = true := by simp; omega
            go_wp2_with fail
            go_ret
            exact ⟨by rw [HV.out, decide_eq_true hend]; rfl, rfl⟩
          · have he : ((a : Int) == (s.size : Int) - 1) = false := by simp; omega
            go_wp2_with fail
            go_ret
            exact ⟨by rw [HV.out, decide_eq_false hend]; rfl, rfl⟩
        · have hki : ((k : Int) == 0) = false := by simp; omega
          by_cases h63 : 63 < k
          · have h63i : (63 : Int) < (k : Int) := by omega
            have HV := Lib.hid (canL_not (HAT.out.big HK.out h63))
            clear hk0
            go_wp2_with fail
            go_ret
            exact ⟨by rw [HV.out]; rfl, rfl⟩
          · have h63i : ¬ (63 : Int) < (k : Int) := by omega
            have HON := Lib.hid (HAT.out.on HK.out hk0 (by omega))
            clear hk0
            go_wp2_with fail
            refine ⟨⟨trivial, a + (1 + k), by omega, by rfl, HON.out⟩, ?_⟩
            simp only [intOf]; omega
      · have hi2 : ¬ (a : Int) < (s.size : Int) := by omega
        have HV := Lib.hid (canL_not (HAT.out.end (by rw [HLN.out]; omega)))
        go_wp2_with fail
        go_ret
        exact ⟨by rw [HV.out]; rfl, rfl⟩
end Go.Proofs.Ytlhbikdelbollaa
namespace Go.Proofs.Ytlhbikdelbollaa
open Go.RowKit Go.Cx Go.Maps

set_option maxRecDepth 100000 in
set_option maxHeartbeats 3200000 in
theorem ref_first (A : Option Addr) (n c : Nat) (l : List Nat) (w : World) (B : Nat) (h : Sl w B A n c l) (_hB : B ≤ w.heap.size) :
    Calls Try.prog 64 #[.slice A n c] w fun e w' => CutIs l B e w' ∧ Upd Nix w w' := by
  have hl := h.llen
  have hnc := h.nc
  have hn := h.len
  have H := Lib.hid h
  have HL := Lib.hid hl
  clear h hl
  go_enter Try.func64, Try.ntmps64
  go_wp2_with fail
  go_loopw [5] (fun s4 wr => w = wr ∧ ∃ k : Nat, 1 ≤ k ∧ k ≤ n + 1 ∧ k ≤ 256 ∧ s4 = .int .i64 k ∧ Hid (∀ j, 1 ≤ j → j < k → canL (l.take j) = false)) (fun s4 _ => n + 1 - (intOf s4).toNat)
  case atStart => exact ⟨rfl, 1, by omega, by omega, by omega, rfl, Lib.hid fun j h1 h2 => by omega⟩
  case round =>
    obtain ⟨rfl, k, hk1, hkn, hk256, rfl, HNO⟩ := hrel
    by_cases hkn2 : k ≤ n
    · have hi : (k : Int) ≤ (n : Int) := by omega
      have hic : (k : Int) ≤ (c : Int) := by omega
      have hi0 : (0 : Int) ≤ (k : Int) := by omega
      obtain ⟨ad, rfl, _⟩ := H.out.rd.2 (by omega)
      by_cases h255 : k ≤ 255
      · have hi2 : (k : Int) ≤ 255 := by omega
        have hfr := H.out.front hkn2
        have k1 := run_conv w hfr.rd c
        have k2 := fun q => run_conv (w.drewN q) (hfr.rd.drewN q) c
        have hs : (strN (l.take k)).size = k := by rw [strN_size, List.length_take, HL.out]; omega
        have hbs := bytesOf_strN hfr.bytes
        obtain ⟨st, hst⟩ : ∃ st, strN (l.take k) = st := ⟨_, rfl⟩
        rw [hst] at k1 hs hbs
        simp only [hst] at k2
        have HBS := Lib.hid hbs
        clear hfr hbs hst
        go_wp2_with fail
        refine (ref_can st w (by omega)).mono ?_
        rintro e w1 ⟨rfl, rfl⟩
        rw [HBS.out]
        cases hc : canL (l.take k) with
        | true =>
          have HCUT := Lib.hid (cutL_some (by rw [HL.out]; exact hkn2) hc)
          clear hc
          have hsl := H.out.cut hkn2
          have HSL := Lib.hid hsl
          clear hsl
          by_cases hck : c = k
          · subst hck
            go_wp2_with fail
            go_quiet (fail)
            go_wp2_with fail
            refine bodyPost_ret (results_tmp3 rfl _ _ _) rfl ?_
            have h1 := HSL.out
            rw [if_pos trivial, Nat.sub_self, show n - c = 0 by omega] at h1
            exact ⟨.inr ⟨_, _, st, some ad, 0, 0, HCUT.out, HBS.out, h1.drewN _, rfl⟩, (Upd.refl _ _).drewN _⟩
          · go_wp2_with fail
            go_quiet (fail)
            go_wp2_with fail
            refine bodyPost_ret (results_tmp3 rfl _ _ _) rfl ?_
            have h1 := HSL.out
            rw [if_neg hck] at h1
            exact ⟨.inr ⟨_, _, st, _, n - k, c - k, HCUT.out, HBS.out, h1.drewN _, rfl⟩, (Upd.refl _ _).drewN _⟩
        | false =>
          have hc2 : ∀ j, 1 ≤ j → j < k + 1 → canL (l.take j) = false := fun j h1 h2 => by
            rcases Nat.lt_or_ge j k with h | h
            · exact HNO.out j h1 h
            · obtain rfl : j = k := by omega
              exact hc
          have HC2 := Lib.hid hc2
          clear hc hc2
          go_wp2_with fail
          refine ⟨⟨trivial, k + 1, by omega, by omega, by omega, by rfl, HC2⟩, ?_⟩
          simp only [intOf]; omega
      · have hi2 : ¬ (k : Int) ≤ 255 := by omega
        have HCUT := Lib.hid (cutL_none (b := l) fun j h1 h2 h3 => HNO.out j h1 (by omega))
        go_wp2_with fail
        refine bodyPost_ret (results_tmp3 rfl _ _ _) rfl ?_
        exact ⟨.inl ⟨HCUT.out, rfl⟩, Upd.refl _ _⟩
    · have hi : ¬ (k : Int) ≤ (n : Int) := by omega
      have HCUT := Lib.hid (cutL_none (b := l) fun j h1 h2 h3 => HNO.out j h1 (by rw [HL.out] at h2; omega))
      go_wp2_with fail
      refine bodyPost_ret (results_tmp3 rfl _ _ _) rfl ?_
      exact ⟨.inl ⟨HCUT.out, rfl⟩, Upd.refl _ _⟩
set_option maxRecDepth 100000 in
set_option maxHeartbeats 3200000 in
theorem ref_four (A : Option Addr) (n c : Nat) (l : List Nat) (w : World) (B : Nat) (h : Sl w B A n c l) (h4 : 4 ≤ n) :
    Calls Try.prog 65 #[.slice A n c] w fun e w' => e = .returned (.int .i64 (bigN (l.take 4) : Nat)) ∧ ∃ q, w' = w.drewN q := by
  have hl := h.llen
  obtain ⟨a, b, x, y, t, rfl⟩ := four_of (l := l) (by omega)
  obtain ⟨ad, rfl, hB, c0⟩ := h.cell0
  obtain ⟨ad', h1, _, c1⟩ := h.cellk (i := 1) (b := b) rfl (by omega)
  injection h1 with h1
  subst h1
  obtain ⟨ad', h1, _, c2⟩ := h.cellk (i := 2) (b := x) rfl (by omega)
  injection h1 with h1
  subst h1
  obtain ⟨ad', h1, _, c3⟩ := h.cellk (i := 3) (b := y) rfl (by omega)
  injection h1 with h1
  subst h1
  have ha := h.bytes a (by simp)
  have hb := h.bytes b (by simp)
  have hx := h.bytes x (by simp)
  have hy := h.bytes y (by simp)
  have hv : ((bigN ((a :: b :: x :: y :: t).take 4) : Nat) : Int) = (((a : Int) * 256 + b) * 256 + x) * 256 + y := by
    simp [bigN]
  have HV := Lib.hid hv
  clear h hl hv
  go_enter Try.func65, Try.ntmps65
  go_wp2_with fail
  go_quiet (fail)
  go_wp2_with fail
  go_ret
  exact ⟨ret_int HV.out.symm, _, rfl⟩
theorem soaL_none1 {l : List Nat} (h : cutL l = none) : soaL l = none := by unfold soaL; rw [h]
theorem soaL_none2 {l m r : List Nat} (h : cutL l = some (m, r)) (h2 : cutL r = none) : soaL l = none := by unfold soaL; rw [h]; simp only; rw [h2]
theorem soaL_none3 {l m r m2 r2 : List Nat} (h : cutL l = some (m, r)) (h2 : cutL r = some (m2, r2)) (h3 : r2.length ≠ 20) : soaL l = none := by unfold soaL; rw [h]; simp only; rw [h2]; simp only; rw [if_neg h3]
theorem soaL_some {l m r m2 r2 : List Nat} (h : cutL l = some (m, r)) (h2 : cutL r = some (m2, r2)) (h3 : r2.length = 20) : soaL l = some ⟨m, m2, five r2⟩ := by unfold soaL; rw [h]; simp only; rw [h2]; simp only; rw [if_pos h3]; rfl
theorem cutL_small {l m r : List Nat} (h : cutL l = some (m, r)) : m.length ≤ 255 ∧ canL m = true := by
  unfold cutL at h
  split at h
  · rename_i h1
    simp only [Option.some.injEq, Prod.mk.injEq] at h
    obtain ⟨rfl, rfl⟩ := h
    exact ⟨(canL_rest h1.2).2, h1.2⟩
  · cases h
set_option maxRecDepth 100000 in
set_option maxHeartbeats 3200000 in
theorem ref_soa (A : Option Addr) (n c : Nat) (l : List Nat) (w : World) (h : Sl w w.heap.size A n c l) :
    Calls Try.prog 45 #[.slice A n c] w fun e w' => SoaIs l e ∧ Upd Nix w w' := by
  have H := Lib.hid h
  clear h
  go_enter Try.func45, Try.ntmps45
  go_upto_region 1 with fail
  have hb0 : Blk (w.alloc (.cells (soaCells ⟨#[]⟩ ⟨#[]⟩ 0 0 0 0 0) 66)) w.heap.size 66 (soaCells ⟨#[]⟩ ⟨#[]⟩ 0 0 0 0 0) := Blk.new w _ _
  have hu0 : Upd Nix w (w.alloc (.cells (soaCells ⟨#[]⟩ ⟨#[]⟩ 0 0 0 0 0) 66)) := (Upd.refl _ _).alloc _
  unfold soaCells at hb0 hu0
  obtain ⟨g, hg⟩ : ∃ g, w.heap.size = g := ⟨_, rfl⟩
  have hgB : g ≤ w.heap.size := by omega
  rw [hg] at hb0 ⊢
  generalize w.alloc (.cells #[.string ⟨#[]⟩, .string ⟨#[]⟩, .int .i64 0, .int .i64 0, .int .i64 0, .int .i64 0, .int .i64 0] 66) = wa at *
  have HB0 := Lib.hid hb0
  have HU0 := Lib.hid hu0
  have hF := Lib.hid (ref_first A n c l wa _ (H.out.upd hu0) (Nat.le_refl _))
  clear hb0 hu0
  go_wp2_with fail
  refine hF.out.mono ?_
  rintro e w1 ⟨⟨hc, rfl⟩ | ⟨m, r, s, A1, n1, c1, hc, hs, hsl, rfl⟩, hu1⟩
  · have HV := Lib.hid (soaL_none1 hc)
    have hb1 := HB0.out.upd hu1 (by simp [Nix])
    have HU := Lib.hid ((HU0.out.trans hu1 fun _ _ h => h).below hgB fun _ _ h => h.elim)
    have hlt0 := hb1.lt
    have hc0 : ∀ i, w1.cell? ⟨g, i, none⟩ = _ := fun i => hb1.cell i
    have hf0 : ∀ i, w1.frozen? ⟨g, i, none⟩ = _ := fun i => hb1.free i
    clear hc hu1 hb1
    go_wp2_with fail
    refine bodyPost_ret (v := .tuple #[.agg (soaCells ⟨#[]⟩ ⟨#[]⟩ 0 0 0 0 0), .bool false]) (by simp [results, Try.results45, soaCells, go_sem, hc0]) rfl ?_
    refine ⟨.inl ⟨HV.out, rfl⟩, Upd.of_below' ?_⟩
    rw [hg]
    exact (((((((HU.out.setCell (by simp) _).setCell (by simp) _).setCell (by simp) _).setCell (by simp) _).setCell (by simp) _).setCell (by simp) _).setCell (by simp) _)
  · have HC := Lib.hid hc
    have HS := Lib.hid hs
    have HU1 := Lib.hid hu1
    have hF2 := Lib.hid (ref_first A1 n1 c1 r w1 _ hsl hu1.size)
    clear hc hs hsl hu1
    go_wp2_with fail
    refine hF2.out.mono ?_
    rintro e w2 ⟨⟨hc, rfl⟩ | ⟨m2, r2, s2, A2, n2, c2, hc, hs, hsl, rfl⟩, hu2⟩
    · have HV := Lib.hid (soaL_none2 HC.out hc)
      have hb1 := HB0.out.upd (HU1.out.trans hu2 fun _ _ h => h) (by simp [Nix])
      have HU := Lib.hid ((HU0.out.trans (HU1.out.trans hu2 fun _ _ h => h) fun _ _ h => h).below hgB fun _ _ h => h.elim)
      have hlt0 := hb1.lt
      have hc0 : ∀ i, w2.cell? ⟨g, i, none⟩ = _ := fun i => hb1.cell i
      have hf0 : ∀ i, w2.frozen? ⟨g, i, none⟩ = _ := fun i => hb1.free i
      clear hc hu2 hb1
      go_wp2_with fail
      refine bodyPost_ret (v := .tuple #[.agg (soaCells ⟨#[]⟩ ⟨#[]⟩ 0 0 0 0 0), .bool false]) (by simp [results, Try.results45, soaCells, go_sem, hc0]) rfl ?_
      refine ⟨.inl ⟨HV.out, rfl⟩, Upd.of_below' ?_⟩
      rw [hg]
      exact (((((((HU.out.setCell (by simp) _).setCell (by simp) _).setCell (by simp) _).setCell (by simp) _).setCell (by simp) _).setCell (by simp) _).setCell (by simp) _)
    · have hn2 := hsl.llen
      have hnc2 := hsl.nc
      have hb1 := HB0.out.upd (HU1.out.trans hu2 fun _ _ h => h) (by simp [Nix])
      have HU := Lib.hid ((HU0.out.trans (HU1.out.trans hu2 fun _ _ h => h) fun _ _ h => h).below hgB fun _ _ h => h.elim)
      have hlt0 := hb1.lt
      have hc0 : ∀ i, w2.cell? ⟨g, i, none⟩ = _ := fun i => hb1.cell i
      have hf0 : ∀ i, w2.frozen? ⟨g, i, none⟩ = _ := fun i => hb1.free i
      clear hu2 hb1
      by_cases h20 : n2 = 20
      · have h20i : ((n2 : Int) != 20) = false := by simp [h20]
        have HV := Lib.hid (soaL_some HC.out hc (by omega))
        have HS2 := Lib.hid hs
        have HSL := Lib.hid hsl
        clear hc hs hsl hn2
        subst h20
        obtain ⟨ad, rfl, _⟩ := HSL.out.cellsome
        have f0 := Lib.hid fun q => Calls.quiet_of (ref_four _ _ _ _ (w2.drewN q) _ (HSL.out.drewN q) (by omega))
        have f1 := Lib.hid fun q => Calls.quiet_of (ref_four (some ⟨ad.block, ad.off + 4, none⟩) 16 (c2 - 4) _ (w2.drewN q) _ ((HSL.out.cut1 (k := 4) (by omega) (by omega) (by omega)).drewN q) (by omega))
        have f2 := Lib.hid fun q => Calls.quiet_of (ref_four (some ⟨ad.block, ad.off + 8, none⟩) 12 (c2 - 8) _ (w2.drewN q) _ ((HSL.out.cut1 (k := 8) (by omega) (by omega) (by omega)).drewN q) (by omega))
        have f3 := Lib.hid fun q => Calls.quiet_of (ref_four (some ⟨ad.block, ad.off + 12, none⟩) 8 (c2 - 12) _ (w2.drewN q) _ ((HSL.out.cut1 (k := 12) (by omega) (by omega) (by omega)).drewN q) (by omega))
        have f4 := Lib.hid fun q => Calls.quiet_of (ref_four (some ⟨ad.block, ad.off + 16, none⟩) 4 (c2 - 16) _ (w2.drewN q) _ ((HSL.out.cut1 (k := 16) (by omega) (by omega) (by omega)).drewN q) (by omega))
        have q1 : ¬ c2 = 4 := by omega
        have q2 : ¬ c2 = 8 := by omega
        have q3 : ¬ c2 = 12 := by omega
        have q4 : ¬ c2 = 16 := by omega
        go_upto_region 7 with fail
        have f00 := Lib.hid (show Calls Try.prog 65 #[.slice (some ad) 20 c2] w2.drew _ from f0.out 1)
        go_region_with ((first | (go_at_call 65; with_reducible refine f00.out.mono ?_; rintro e w5 ⟨rfl, q5, rfl⟩) | (go_at_call 65; with_reducible refine (f1.out _).mono ?_; rintro e w5 ⟨rfl, q5, rfl⟩) | (go_at_call 65; with_reducible refine (f2.out _).mono ?_; rintro e w5 ⟨rfl, q5, rfl⟩) | (go_at_call 65; with_reducible refine (f3.out _).mono ?_; rintro e w5 ⟨rfl, q5, rfl⟩) | (go_at_call 65; with_reducible refine (f4.out _).mono ?_; rintro e w5 ⟨rfl, q5, rfl⟩)))
        go_wp2_with fail
        refine bodyPost_ret (v := .tuple #[.agg (soaCells s s2 (bigN (r2.take 4) : Nat) (bigN ((r2.drop 4).take 4) : Nat) (bigN ((r2.drop 8).take 4) : Nat) (bigN ((r2.drop 12).take 4) : Nat) (bigN ((r2.drop 16).take 4) : Nat)), .bool true]) (by simp [results, Try.results45, soaCells, go_sem, hc0]) rfl ?_
        refine ⟨.inr ⟨_, s, s2, _, _, _, _, _, HV.out, HS.out, HS2.out, rfl, rfl⟩, Upd.of_below' ?_⟩
        rw [hg]
        exact ((((((((HU.out.drewN _).setCell (by simp) _).setCell (by simp) _).setCell (by simp) _).setCell (by simp) _).setCell (by simp) _).setCell (by simp) _).setCell (by simp) _)
      · have h20i : ((n2 : Int) != 20) = true := by simp; omega
        have HV := Lib.hid (soaL_none3 HC.out hc (by omega))
        clear hc
        go_wp2_with fail
        refine bodyPost_ret (v := .tuple #[.agg (soaCells ⟨#[]⟩ ⟨#[]⟩ 0 0 0 0 0), .bool false]) (by simp [results, Try.results45, soaCells, go_sem, hc0]) rfl ?_
        refine ⟨.inl ⟨HV.out, rfl⟩, Upd.of_below' ?_⟩
        rw [hg]
        exact (((((((HU.out.setCell (by simp) _).setCell (by simp) _).setCell (by simp) _).setCell (by simp) _).setCell (by simp) _).setCell (by simp) _).setCell (by simp) _)
set_option maxRecDepth 100000 in
set_option maxHeartbeats 1600000 in
theorem ref_rdata6 (A : Option Addr) (n c : Nat) (l : List Nat) (w : World) (h : Sl w w.heap.size A n c l) :
    Calls Try.prog 59 #[.int .i64 6, .slice A n c] w fun e w' => e = .returned (.bool (rdataL 6 l)) ∧ Upd Nix w w' := by
  have hl := h.llen
  have H := Lib.hid (ref_soa A n c l w h)
  have HL := Lib.hid hl
  clear h hl
  by_cases hn : 65535 < n
  · have hi : (65535 : Int) < (n : Int) := by omega
    have HV := Lib.hid (show rdataL 6 l = false by unfold rdataL; rw [if_pos (by rw [HL.out]; omega)])
    go_enter Try.func59, Try.ntmps59
    go_wp2_with fail
    go_ret
    exact ⟨by rw [HV.out]; rfl, Upd.refl _ _⟩
  · have hi : ¬ (65535 : Int) < (n : Int) := by omega
    have HV := Lib.hid (show rdataL 6 l = (soaL l).isSome by unfold rdataL; rw [if_neg (by rw [HL.out]; omega)]; simp)
    go_enter Try.func59, Try.ntmps59
    go_wp2_with fail
    refine H.out.mono ?_
    rintro e w1 ⟨⟨hv, rfl⟩ | ⟨s, m, r, g0, g1, g2, g3, g4, hv, _, _, _, rfl⟩, hu⟩
    · have HU := Lib.hid hu
      have HV2 := Lib.hid (show rdataL 6 l = false by rw [HV.out, hv]; rfl)
      clear hu hv
      unfold soaCells
      go_wp2_with fail
      go_ret
      exact ⟨by rw [HV2.out]; rfl, by first | exact HU.out | exact Upd.of_below' ((HU.out.belowNix (Nat.le_refl _)).alloc HU.out.size _)⟩
    · have HU := Lib.hid hu
      have HV2 := Lib.hid (show rdataL 6 l = true by rw [HV.out, hv]; rfl)
      clear hu hv
      unfold soaCells
      go_wp2_with fail
      go_ret
      exact ⟨by rw [HV2.out]; rfl, by first | exact HU.out | exact Upd.of_below' ((HU.out.belowNix (Nat.le_refl _)).alloc HU.out.size _)⟩
end Go.Proofs.Ytlhbikdelbollaa
namespace Go.Proofs.Ytlhbikdelbollaa
open Go.RowKit Go.Cx Go.Maps

set_option maxRecDepth 100000 in
set_option maxHeartbeats 1600000 in
theorem ref_texts (A : Option Addr) (n c : Nat) (l : List Nat) (w : World) (h : Sl w w.heap.size A n c l) :
    Calls Try.prog 75 #[.slice A n c] w fun e w' => e = .returned (.bool (textsL l)) ∧ Upd Nix w w' := by
  have hl := h.llen
  have hnc := h.nc
  have H := Lib.hid h
  clear h
  go_enter Try.func75, Try.ntmps75
  by_cases hn0 : n = 0
  · have h0 : ((n : Int) == 0) = true := by simp [hn0]
    have HV := Lib.hid (show textsL l = false by have : l = [] := List.eq_nil_of_length_eq_zero (by omega); rw [this]; rfl)
    clear hn0
    go_wp2_with fail
    go_ret
    exact ⟨by rw [HV.out]; rfl, Upd.refl _ _⟩
  have h0 : ((n : Int) == 0) = false := by simp; omega
  have HNE := Lib.hid (show textsL l = textsOk l by unfold textsL; rw [decide_eq_true (by rintro rfl; simp at hl; omega), Bool.true_and])
  go_wp2_with fail
  clear h0
  go_loopw [0] (fun s0 wr => w = wr ∧ ∃ (A' : Option Addr) (n' c' : Nat) (l' : List Nat), s0 = .slice A' n' c' ∧ Sl w w.heap.size A' n' c' l' ∧ textsOk l' = textsOk l) (fun s0 _ => sliceLen s0)
  case atStart => exact ⟨rfl, A, n, c, l, rfl, H.out, rfl⟩
  case round =>
    obtain ⟨rfl, A', n', c', l', rfl, h', ht⟩ := hrel
    have hl' := h'.llen
    have hnc' := h'.nc
    have H' := Lib.hid h'
    have HT := Lib.hid ht
    clear h' ht
    rcases hlc : l' with _ | ⟨k, t⟩
    · subst hlc
      have h0 : ¬ (0 : Int) < (n' : Int) := by simp at hl'; omega
      have HV := Lib.hid (show textsL l = true by rw [HNE.out, ← HT.out, textsOk_nil])
      go_wp2_with fail
      go_ret
      exact ⟨by rw [HV.out]; rfl, Upd.refl _ _⟩
    · have h0 : (0 : Int) < (n' : Int) := by rw [hlc] at hl'; simp at hl'; omega
      subst hlc
      obtain ⟨ad, rfl, hB, hcell⟩ := H'.out.cell0
      have hk256 := H'.out.bytes k (by simp)
      simp only [List.length_cons] at hl'
      by_cases hk : n' < 1 + k
      · have hki : (n' : Int) < 1 + (k : Int) := by omega
        have HV := Lib.hid (show textsL l = false by rw [HNE.out, ← HT.out, textsOk_cons, if_pos (by omega)])
        go_wp2_with fail
        go_ret
        exact ⟨by rw [HV.out]; rfl, Upd.refl _ _⟩
      · have hki : ¬ (n' : Int) < 1 + (k : Int) := by omega
        have hcut := H'.out.cut (k := 1 + k) (by omega)
        have hdr : (k :: t).drop (1 + k) = t.drop k := by rw [Nat.add_comm]; rfl
        rw [hdr] at hcut
        have htx : textsOk (t.drop k) = textsOk l := by rw [← HT.out, textsOk_cons, if_neg (by omega)]
        have HC := Lib.hid hcut
        have HTX := Lib.hid htx
        clear hcut hdr htx
        go_wp2_with fail
        refine ⟨⟨trivial, _, _, _, t.drop k, rfl, HC.out, HTX.out⟩, ?_⟩
        simp only [sliceLen]
        omega
set_option maxRecDepth 100000 in
set_option maxHeartbeats 1600000 in
theorem ref_options (A : Option Addr) (n c : Nat) (l : List Nat) (w : World) (h : Sl w w.heap.size A n c l) :
    Calls Try.prog 76 #[.slice A n c] w fun e w' => e = .returned (.bool (optionsL l)) ∧ Upd Nix w w' := by
  have hl := h.llen
  have hnc := h.nc
  have H := Lib.hid h
  clear h
  go_enter Try.func76, Try.ntmps76
  go_wp2_with fail
  go_loopw [0] (fun s0 wr => Upd Nix w wr ∧ ∃ (A' : Option Addr) (n' c' : Nat) (l' : List Nat), s0 = .slice A' n' c' ∧ Sl wr wr.heap.size A' n' c' l' ∧ optionsL l' = optionsL l) (fun s0 _ => sliceLen s0)
  case atStart => exact ⟨Upd.refl _ _, A, n, c, l, rfl, H.out, rfl⟩
  case round =>
    obtain ⟨hu, A', n', c', l', rfl, h', ht⟩ := hrel
    have hl' := h'.llen
    have hnc' := h'.nc
    have H' := Lib.hid h'
    have HT := Lib.hid ht
    have HU := Lib.hid hu
    clear h' ht hu
    by_cases h0 : l' = []
    · subst h0
      have h0 : ¬ (0 : Int) < (n' : Int) := by simp at hl'; omega
      have HV := Lib.hid (show optionsL l = true by rw [← HT.out, optionsL_nil])
      go_wp2_with fail
      go_ret
      exact ⟨by rw [HV.out]; rfl, HU.out⟩
    · have hpos := List.length_pos_iff.2 h0
      have h0i : (0 : Int) < (n' : Int) := by omega
      by_cases h4 : n' < 4
      · have h4i : (n' : Int) < 4 := by omega
        have HV := Lib.hid (show optionsL l = false by rw [← HT.out, optionsL_short h0 (by omega)])
        go_wp2_with fail
        go_ret
        exact ⟨by rw [HV.out]; rfl, HU.out⟩
      · have h4i : ¬ (n' : Int) < 4 := by omega
        obtain ⟨a, b, x, y, t, rfl⟩ := four_of (l := l') (by omega)
        have h2i : (2 : Int) < (n' : Int) := by omega
        have h3i : (3 : Int) < (n' : Int) := by omega
        obtain ⟨ad, rfl, hB, hc2⟩ := H'.out.cellk (i := 2) (b := x) rfl (by omega)
        obtain ⟨ad', had, _, hc3⟩ := H'.out.cellk (i := 3) (b := y) rfl (by omega)
        injection had with had
        subst had
        have hx := H'.out.bytes x (by simp)
        have hy := H'.out.bytes y (by simp)
        simp only [List.length_cons] at hl'
        clear h0 hpos
        go_upto_region 4 with fail
        go_quiet (fail)
        have hu2 : Upd Nix w (wr.drewN nq) := HU.out.drewN _
        have hs2 : Sl (wr.drewN nq) (wr.drewN nq).heap.size (some ad) n' c' (a :: b :: x :: y :: t) := H'.out.upd ((Upd.refl _ _).drewN _)
        have HU2 := Lib.hid hu2
        have HS2 := Lib.hid hs2
        clear hu2 hs2 hc2 hc3 hB
        have hxy : (x : Int) * 256 + (y : Int) = ((x * 256 + y : Nat) : Int) := by omega
        obtain ⟨k, hk⟩ : ∃ k, x * 256 + y = k := ⟨_, rfl⟩
        rw [hk] at hxy
        have hkl : k ≤ 65535 := by omega
        have HK := Lib.hid hk
        clear hk
        by_cases hk : n' < 4 + k
        · have hki : (n' : Int) < 4 + (k : Int) := by omega
          have HV := Lib.hid (show optionsL l = false by rw [← HT.out, optionsL_cons, HK.out, if_pos (by omega)])
          go_wp2_with fail
          go_ret
          exact ⟨by rw [HV.out]; rfl, HU2.out⟩
        · have hki : ¬ (n' : Int) < 4 + (k : Int) := by omega
          have hcut := HS2.out.cut (k := 4 + k) (by omega)
          have hdr : (a :: b :: x :: y :: t).drop (4 + k) = t.drop k := by rw [Nat.add_comm]; rfl
          rw [hdr] at hcut
          have htx : optionsL (t.drop k) = optionsL l := by rw [← HT.out, optionsL_cons, HK.out, if_neg (by omega)]
          have HC := Lib.hid hcut
          have HTX := Lib.hid htx
          clear hcut hdr htx
          go_wp2_with fail
          refine ⟨⟨HU2.out, _, _, _, t.drop k, rfl, HC.out, HTX.out⟩, ?_⟩
          simp only [sliceLen]
          omega
set_option maxRecDepth 100000 in
set_option maxHeartbeats 3200000 in
theorem ref_rdata (t : Int) (ht : (Lit.int .i64 t).wf = true) (A : Option Addr) (n c : Nat) (l : List Nat) (w : World) (h : Sl w w.heap.size A n c l) :
    Calls Try.prog 59 #[.int .i64 t, .slice A n c] w fun e w' => e = .returned (.bool (rdataL t l)) ∧ Upd Nix w w' := by
  have hl := h.llen
  have hnc := h.nc
  have hn := h.len
  have H := Lib.hid h
  have HL := Lib.hid hl
  clear h hl
  have hcase : (t < 0 ∨ 65535 < t ∨ 65535 < n) ∨ (¬ (t < 0 ∨ 65535 < t ∨ 65535 < l.length) ∧ ¬ t < 0 ∧ ¬ 65535 < t ∧ ¬ (65535 : Int) < (n : Int) ∧ (t = 1 ∨ t = 28 ∨ t = 2 ∨ t = 5 ∨ t = 12 ∨ t = 15 ∨ t = 16 ∨ t = 41 ∨ t = 6 ∨ (t ≠ 1 ∧ t ≠ 28 ∧ t ≠ 2 ∧ t ≠ 5 ∧ t ≠ 12 ∧ t ≠ 15 ∧ t ≠ 16 ∧ t ≠ 41 ∧ t ≠ 6))) := by
    have := HL.out
    omega
  rcases hcase with hr | ⟨hr, h0, h1, h2, hc⟩
  · have hv : rdataL t l = false := by unfold rdataL; rw [if_pos (by rw [HL.out]; exact hr)]
    have HV := Lib.hid hv
    clear hv
    by_cases h0 : t < 0
    · go_enter Try.func59, Try.ntmps59
      go_wp2_with fail
      go_ret
      rw [HV.out]
      exact ⟨rfl, Upd.refl _ _⟩
    · by_cases h1 : 65535 < t
      · go_enter Try.func59, Try.ntmps59
        go_wp2_with fail
        go_ret
        rw [HV.out]
        exact ⟨rfl, Upd.refl _ _⟩
      · have h2 : (65535 : Int) < (n : Int) := by omega
        go_enter Try.func59, Try.ntmps59
        go_wp2_with fail
        go_ret
        rw [HV.out]
        exact ⟨rfl, Upd.refl _ _⟩
  rcases hc with rfl | rfl | rfl | rfl | rfl | rfl | rfl | rfl | rfl | ⟨g1, g28, g2, g5, g12, g15, g16, g41, g6⟩
  · have hv : rdataL 1 l = ((n : Int) == 4) := by
      unfold rdataL
      rw [if_neg hr]
      simp [HL.out]
      rw [Bool.eq_iff_iff]
      simp
      omega
    have HV := Lib.hid hv
    clear hv
    go_enter Try.func59, Try.ntmps59
    go_wp2_with fail
    go_ret
    rw [HV.out]
    exact ⟨rfl, Upd.refl _ _⟩
  · have hv : rdataL 28 l = ((n : Int) == 16) := by
      unfold rdataL
      rw [if_neg hr]
      simp [HL.out]
      rw [Bool.eq_iff_iff]
      simp
      omega
    have HV := Lib.hid hv
    clear hv
    go_enter Try.func59, Try.ntmps59
    go_wp2_with fail
    go_ret
    rw [HV.out]
    exact ⟨rfl, Upd.refl _ _⟩
  · have hv : rdataL 2 l = canL l := by
      unfold rdataL
      rw [if_neg hr]
      simp
    have HV := Lib.hid hv
    clear hv
    go_enter Try.func59, Try.ntmps59
    have k1 := run_conv w H.out.rd c
    have hbs := bytesOf_strN H.out.bytes
    have hss : (strN l).size ≤ 140737488355328 := by rw [strN_size, HL.out]; exact hn
    obtain ⟨st, hst⟩ : ∃ st, strN l = st := ⟨_, rfl⟩
    rw [hst] at k1 hbs hss
    clear hst
    go_wp2_with fail
    refine (ref_can st w hss).mono ?_
    rw [hbs]
    rintro e w1 ⟨rfl, rfl⟩
    go_wp2_with fail
    go_ret
    rw [HV.out]
    exact ⟨rfl, Upd.refl _ _⟩
  · have hv : rdataL 5 l = canL l := by
      unfold rdataL
      rw [if_neg hr]
      simp
    have HV := Lib.hid hv
    clear hv
    go_enter Try.func59, Try.ntmps59
    have k1 := run_conv w H.out.rd c
    have hbs := bytesOf_strN H.out.bytes
    have hss : (strN l).size ≤ 140737488355328 := by rw [strN_size, HL.out]; exact hn
    obtain ⟨st, hst⟩ : ∃ st, strN l = st := ⟨_, rfl⟩
    rw [hst] at k1 hbs hss
    clear hst
    go_wp2_with fail
    refine (ref_can st w hss).mono ?_
    rw [hbs]
    rintro e w1 ⟨rfl, rfl⟩
    go_wp2_with fail
    go_ret
    rw [HV.out]
    exact ⟨rfl, Upd.refl _ _⟩
  · have hv : rdataL 12 l = canL l := by
      unfold rdataL
      rw [if_neg hr]
      simp
    have HV := Lib.hid hv
    clear hv
    go_enter Try.func59, Try.ntmps59
    have k1 := run_conv w H.out.rd c
    have hbs := bytesOf_strN H.out.bytes
    have hss : (strN l).size ≤ 140737488355328 := by rw [strN_size, HL.out]; exact hn
    obtain ⟨st, hst⟩ : ∃ st, strN l = st := ⟨_, rfl⟩
    rw [hst] at k1 hbs hss
    clear hst
    go_wp2_with fail
    refine (ref_can st w hss).mono ?_
    rw [hbs]
    rintro e w1 ⟨rfl, rfl⟩
    go_wp2_with fail
    go_ret
    rw [HV.out]
    exact ⟨rfl, Upd.refl _ _⟩
  · have hv : rdataL 15 l = mailL l := by
      unfold rdataL
      rw [if_neg hr]
      simp
    have HV := Lib.hid hv
    clear hv
    go_enter Try.func59, Try.ntmps59
    by_cases h2n : 2 < n
    · have h2i : (2 : Int) < (n : Int) := by omega
      have HM := Lib.hid (show mailL l = canL (l.drop 2) by unfold mailL; rw [decide_eq_true (by have := HL.out; omega), Bool.true_and])
      have hcut := H.out.cut1 (k := 2) (by omega) (by omega) (by omega)
      have hc2 : ¬ c = 2 := by omega
      obtain ⟨ad, rfl, _⟩ := H.out.rd.2 (by omega)
      have k1 := run_conv w hcut.rd (c - 2)
      simp only [Option.map_some] at k1
      have hbs := bytesOf_strN hcut.bytes
      have hss : (strN (l.drop 2)).size ≤ 140737488355328 := by rw [strN_size, List.length_drop, HL.out]; omega
      obtain ⟨st, hst⟩ : ∃ st, strN (l.drop 2) = st := ⟨_, rfl⟩
      rw [hst] at k1 hbs hss
      clear hst hcut
      go_wp2_with fail
      refine (ref_can st w hss).mono ?_
      rw [hbs, ← HM.out]
      rintro e w1 ⟨rfl, rfl⟩
      go_wp2_with fail
      go_ret
      rw [HV.out]
      exact ⟨rfl, Upd.refl _ _⟩
    · have h2i : decide ((2 : Int) < (n : Int)) = false := decide_eq_false (by omega)
      have HM := Lib.hid (show mailL l = false by unfold mailL; rw [decide_eq_false (by have := HL.out; omega), Bool.false_and])
      go_wp2_with fail
      go_ret
      rw [HV.out, HM.out]
      exact ⟨rfl, Upd.refl _ _⟩
  · have hv : rdataL 16 l = textsL l := by
      unfold rdataL
      rw [if_neg hr]
      simp
    have HV := Lib.hid hv
    clear hv
    go_enter Try.func59, Try.ntmps59
    go_wp2_with fail
    refine (ref_texts A n c l w H.out).mono ?_
    rintro e w1 ⟨rfl, hu⟩
    have HU := Lib.hid hu
    clear hu
    go_wp2_with fail
    go_ret
    rw [HV.out]
    exact ⟨rfl, HU.out⟩
  · have hv : rdataL 41 l = optionsL l := by
      unfold rdataL
      rw [if_neg hr]
      simp
    have HV := Lib.hid hv
    clear hv
    go_enter Try.func59, Try.ntmps59
    go_wp2_with fail
    refine (ref_options A n c l w H.out).mono ?_
    rintro e w1 ⟨rfl, hu⟩
    have HU := Lib.hid hu
    clear hu
    go_wp2_with fail
    go_ret
    rw [HV.out]
    exact ⟨rfl, HU.out⟩
  · go_enter Try.func59, Try.ntmps59
    go_wp2_with fail
    refine (ref_soa A n c l w H.out).mono ?_
    rintro e w1 ⟨⟨hv, rfl⟩ | ⟨s, m, r, f0, f1, f2, f3, f4, hv, _, _, _, rfl⟩, hu⟩
    · have hv : rdataL 6 l = false := by
        unfold rdataL
        rw [if_neg hr]
        simp [hv]
      have HV := Lib.hid hv
      have HU := Lib.hid hu
      clear hv hu
      unfold soaCells
      go_wp2_with fail
      go_ret
      rw [HV.out]
      exact ⟨rfl, Upd.of_below' ((HU.out.belowNix (Nat.le_refl _)).alloc HU.out.size _)⟩
    · have hv : rdataL 6 l = true := by
        unfold rdataL
        rw [if_neg hr]
        simp [hv]
      have HV := Lib.hid hv
      have HU := Lib.hid hu
      clear hv hu
      unfold soaCells
      go_wp2_with fail
      go_ret
      rw [HV.out]
      exact ⟨rfl, Upd.of_below' ((HU.out.belowNix (Nat.le_refl _)).alloc HU.out.size _)⟩
  · have hv : rdataL t l = true := by
      unfold rdataL
      rw [if_neg hr, if_neg g1, if_neg g28, if_neg (by simp [g2, g5, g12]), if_neg g15, if_neg g16, if_neg g41, if_neg g6]
    have HV := Lib.hid hv
    have b1 : (t == 1) = false := beq_eq_false_iff_ne.2 g1
    have b28 : (t == 28) = false := beq_eq_false_iff_ne.2 g28
    have b2 : (t == 2) = false := beq_eq_false_iff_ne.2 g2
    have b5 : (t == 5) = false := beq_eq_false_iff_ne.2 g5
    have b12 : (t == 12) = false := beq_eq_false_iff_ne.2 g12
    have b15 : (t == 15) = false := beq_eq_false_iff_ne.2 g15
    have b16 : (t == 16) = false := beq_eq_false_iff_ne.2 g16
    have b41 : (t == 41) = false := beq_eq_false_iff_ne.2 g41
    have b6 : (t == 6) = false := beq_eq_false_iff_ne.2 g6
    clear hv g1 g28 g2 g5 g12 g15 g16 g41 g6
    go_enter Try.func59, Try.ntmps59
    go_wp2_with fail
    go_ret
    rw [HV.out]
    exact ⟨rfl, Upd.refl _ _⟩
end Go.Proofs.Ytlhbikdelbollaa
namespace Go.Proofs.Ytlhbikdelbollaa
open Go.RowKit Go.Cx Go.Maps

/-- midway: j numbers are still 0 -/
def bigTo (x width j : Nat) : List Nat := List.replicate j 0 ++ beN (width - j) x
theorem bigTo_len (x width j : Nat) (h : j ≤ width) : (bigTo x width j).length = width := by unfold bigTo; rw [List.length_append, List.length_replicate, beN_len]; omega
theorem bigTo_step (x width j : Nat) (h : j + 1 ≤ width) : (bigTo x width (j + 1)).set j (x / 256 ^ (width - (j + 1)) % 256) = bigTo x width j := by
  unfold bigTo
  rw [show width - j = (width - (j + 1)) + 1 by omega, beN, List.replicate_succ', List.append_assoc, List.set_append_right _ _ (by simp)]
  simp
theorem madeU8 (n : Nat) : madeCells #[.int .u8 0] n = (byts (List.replicate n 0)).toArray := by
  apply Array.ext'
  simp [madeCells, byts]
  apply List.ext_getElem
  · simp
  · intro i h1 h2
    simp [Nat.mod_one]
theorem wrap_u8_small {z : Nat} (h : z < 256) : IntKind.u8.wrap (z : Int) = (z : Int) := by
  have : IntKind.u8.wrap (z : Int) = (z : Int) % 256 := by rfl
  omega
set_option maxRecDepth 100000 in
set_option maxHeartbeats 3200000 in
theorem ref_big (x width : Nat) (hx : x < 4611686018427387904) (hw : 1 ≤ width ∧ width ≤ 8) (w : World) :
    Calls Try.prog 92 #[.int .i64 x, .int .i64 width] w fun e w' => e = .returned (.slice (some ⟨w.heap.size, 0, none⟩) width width) ∧ w'.ownsRow w.heap.size 5 1 (.slice (some ⟨w.heap.size, 0, none⟩) width width) width (byts (beN width x)) ∧ Upd Nix w w' := by
  have hmk := run_make_row' (P := Try.prog) 33 5 (.int .u8 0) 1 Try.underlying33 infoU8 rfl .i64 .i64 width (by omega) (by omega)
  go_enter Try.func92, Try.ntmps92
  go_wp2_with fail
  obtain ⟨g, hg⟩ : ∃ g, w.heap.size = g := ⟨_, rfl⟩
  have hb : Blk (w.alloc (.cells (byts (bigTo x width width)).toArray 5)) g 5 (byts (bigTo x width width)).toArray := Blk.new' _ _ _ hg.symm
  have hu : Below g w (w.alloc (.cells (byts (bigTo x width width)).toArray 5)) := (Below.refl _ _).alloc (by omega) _
  have he : bigTo x width width = List.replicate width 0 := by unfold bigTo; rw [Nat.sub_self]; simp [beN]
  rw [he, ← madeU8] at hb hu
  rw [hg]
  generalize w.alloc (.cells (madeCells #[.int .u8 0] width) 5) = wa at *
  have HB := Lib.hid hb
  have HU := Lib.hid hu
  have HE := Lib.hid he
  clear hb hu he hmk
  go_loopw [0, 6] (fun s0 s6 wr => ∃ j : Nat, j ≤ width ∧ s6 = .int .i64 ((j : Int) - 1) ∧ s0 = .int .i64 ((x / 256 ^ (width - j) : Nat) : Int) ∧ Blk wr g 5 (byts (bigTo x width j)).toArray ∧ Below g w wr) (fun _ s6 _ => (intOf s6 + 1).toNat)
  case atStart => exact ⟨width, Nat.le_refl _, rfl, by rw [Nat.sub_self, Nat.pow_zero, Nat.div_one], by rw [HE.out, ← madeU8]; exact HB.out, HU.out⟩
  case round =>
    obtain ⟨j, hj, rfl, rfl, hb, hu⟩ := hrel
    cases j with
    | zero =>
      have HBB := Lib.hid hb
      have HUU := Lib.hid hu
      clear hb hu
      have hi : ¬ (0 : Int) ≤ ((0 : Nat) : Int) - 1 := by omega
      go_wp2_with fail
      go_ret
      refine ⟨rfl, ?_, Upd.of_below' (by rw [hg]; exact HUU.out)⟩
      have h1 := HBB.out
      unfold bigTo at h1
      simp only [List.replicate_zero, List.nil_append, Nat.sub_zero] at h1
      have h2 : (byts (beN width x)).length = width := by simp [byts, beN_len]
      refine ⟨by simp [h2], .inr ⟨g, width, _, rfl, Nat.le_refl _, h1, Nat.le_refl _, ?_⟩⟩
      simp [h2]
      exact ⟨by unfold maxLen; omega, by rw [List.take_of_length_le (by omega)]⟩
    | succ j =>
      have e1 : (((j + 1 : Nat) : Int) - 1) = (j : Int) := by omega
      rw [e1]
      obtain ⟨y, hy⟩ : ∃ y, x / 256 ^ (width - (j + 1)) = y := ⟨_, rfl⟩
      have hyx : y ≤ x := by rw [← hy]; exact Nat.div_le_self _ _
      have hnext : y / 256 = x / 256 ^ (width - j) := by rw [← hy, Nat.div_div_eq_div_mul, show width - j = (width - (j + 1)) + 1 by omega, Nat.pow_succ]
      have hset := hb.set j (.int .u8 ((y % 256 : Nat) : Int))
      rw [List.setIfInBounds_toArray] at hset
      have hst := bigTo_step x width j hj
      rw [hy] at hst
      have hset2 : (byts (bigTo x width (j + 1))).set j (.int .u8 ((y % 256 : Nat) : Int)) = byts (bigTo x width j) := by
        rw [← hst]; unfold byts; rw [← List.map_set]
      rw [hset2] at hset
      rw [hy]
      have hi : (0 : Int) ≤ (j : Int) := by omega
      have hfree : wr.frozen? ⟨g, j, none⟩ = false := hb.free j
      have hcell : wr.cell? ⟨g, j, none⟩ = some (.int .u8 0) := by
        rw [hb.cell]
        simp [byts, bigTo, List.getElem?_append_left]
      obtain ⟨z, hz⟩ : ∃ z, y % 256 = z := ⟨_, rfl⟩
      obtain ⟨y2, hy2⟩ : ∃ y2, y / 256 = y2 := ⟨_, rfl⟩
      have hm : (y : Int) % 256 = (z : Int) := by omega
      have hd : (y : Int) / 256 = (y2 : Int) := by omega
      have hz256 : z < 256 := by omega
      rw [hz] at hset
      rw [hy2] at hnext
      have HSET := Lib.hid hset
      have HUU := Lib.hid hu
      have HNX := Lib.hid hnext
      have hwz : IntKind.u8.wrap (z : Int) = (z : Int) := wrap_u8_small hz256
      clear hb hu hst hset2 hset hnext hy hz hy2
      go_wp2_with fail
      refine ⟨⟨j, by omega, ?_, ?_, HSET.out, HUU.out.setCell (Nat.le_refl _) _⟩, ?_⟩
      · rfl
      · rw [← HNX.out]
      · simp only [intOf]; omega
end Go.Proofs.Ytlhbikdelbollaa
namespace Go.Proofs.Ytlhbikdelbollaa
open Go.RowKit Go.Cx Go.Maps

theorem WAt.quiet {w : World} {s : SetV} {g : Nat} {A : Option Addr} {n c : Nat} {l : List Nat} {wr wr' : World} (h : WAt w s g A n c l wr) (k : Upd Nix wr wr') : WAt w s g A n c l wr' :=
  h.upd (k.mono fun _ _ h => h.elim) (own_upd' h.own k fun _ _ h => h)
theorem byts_app (a b : List Nat) : byts (a ++ b) = byts a ++ byts b := List.map_append
theorem byts_one (l : List Nat) : ∀ u ∈ byts l, u.oneCell' = true := by
  intro u hu
  obtain ⟨b, _, rfl⟩ := List.mem_map.1 hu
  rfl
theorem sumL_one (l : List (List Nat)) (k : Nat) (d : List Nat) (h : l[k]? = some d) : sumL (l.take k) + (2 + d.length) ≤ sumL l := by
  have h1 := sumL_snoc l k d h
  have h2 := sumL_take l (k + 1)
  omega
set_option maxRecDepth 100000 in
set_option maxHeartbeats 6400000 in
theorem ref_bytes (name zone : ByteArray) (tN cN rN kN eN : Nat) (dA : Option Addr) (dn dc : Nat) (rows : List Row) (w : World) (B : Nat) (h : RowsAt w B dA dn dc rows) (hB : B ≤ w.heap.size) (hname : name.size < 256) (hzone : zone.size < 256)
    (hbt : tN < 65536) (hbc : cN < 65536) (hbr : rN < 256) (hbk : kN < 256) (hbe : eN < 4611686018427387904) (hdn : dn ≤ 4000) (hsz : sumL (rows.map Row.l) ≤ 300000000) :
    Calls Try.prog 78 #[.agg #[.bool false, .string name, .int .i64 tN, .int .i64 cN, .int .i64 rN, .int .i64 kN, .int .i64 eN, .string zone, .slice dA dn dc]] w fun e w' => ∃ A n c, e = .returned (.slice A n c) ∧ n = 19 + name.size + zone.size + sumL (rows.map Row.l) ∧ Upd Nix w w' := by
  obtain ⟨i0, hi0, hz0, hz1, hz2⟩ := info_parts infoU8
  obtain ⟨s, hs⟩ : ∃ s : SetV, s = ⟨name, tN, cN, rN, kN, eN, zone, dA, dn, dc, rows⟩ := ⟨_, rfl⟩
  have H := Lib.hid h
  clear h
  obtain ⟨g, hg⟩ : ∃ g, w.heap.size = g := ⟨_, rfl⟩
  go_enter Try.func78, Try.ntmps78
  go_upto_region 2 with fail
  have hat : WAt w s g none 0 0 [] ((w.alloc (.cells s.earr 83)).alloc (.cells s.cells.toArray 28)) :=
    ⟨(Blk.new' _ _ _ hg.symm).alloc _, Blk.new' _ _ _ (by simp [hg]), ⟨rfl, .inl ⟨rfl, rfl⟩⟩, ((Below.refl g w).alloc (by omega) _).alloc (by simp; omega) _⟩
  have HG := Lib.hid hg
  have hBg : B ≤ g := by rw [← hg]; exact hB
  clear hg
  have hea : s.earr = #[.bool false, .string name, .int .i64 tN, .int .i64 cN, .int .i64 rN, .int .i64 kN, .int .i64 eN, .string zone, .slice dA dn dc] := by rw [hs]; rfl
  have hca : s.cells = [.string name, .int .i64 tN, .int .i64 cN, .int .i64 rN, .int .i64 kN, .int .i64 eN, .string zone, .slice dA dn dc] := by rw [hs]; rfl
  rw [hea, hca] at hat
  have HEA := Lib.hid hea
  have HCA := Lib.hid hca
  clear hea hca hs
  generalize ((w.alloc (.cells #[.bool false, .string name, .int .i64 tN, .int .i64 cN, .int .i64 rN, .int .i64 kN, .int .i64 eN, .string zone, .slice dA dn dc] 83)).alloc (.cells [Value.string name, .int .i64 tN, .int .i64 cN, .int .i64 rN, .int .i64 kN, .int .i64 eN, .string zone, .slice dA dn dc].toArray 28)) = wa at *
  have HAT := Lib.hid hat
  have hbase := hat.size
  clear hat
  have hd : ∀ i, wa.cell? ⟨g + 1, i, none⟩ = _ := fun i => HAT.out.box.cell i
  have he : ∀ i, wa.cell? ⟨g, i, none⟩ = _ := fun i => HAT.out.ebox.cell i
  rw [HCA.out] at hd
  rw [HEA.out] at he
  have hwn : IntKind.u8.wrap (name.size : Int) = (name.size : Int) := wrap_u8_small hname
  go_upto_region 3 with fail
  clear hd he
  obtain ⟨q, hq⟩ : ∃ q, wa.heap.size = q := ⟨_, rfl⟩
  rw [hq]
  have hlit : WAt w s g (some ⟨q, 0, none⟩) 2 2 [0, name.size] (wa.alloc (.cells #[.int .u8 0, .int .u8 name.size] 5)) := by
    have h1 := World.ownsRow_lit (base := g + 2) (e := 5) (size := 1) wa #[.int .u8 0, .int .u8 name.size] 2 (by omega) (by decide) rfl
    rw [hq] at h1
    exact ⟨HAT.out.ebox.alloc _, HAT.out.box.alloc _, h1, HAT.out.bel.alloc (by omega) _⟩
  generalize wa.alloc (.cells #[.int .u8 0, .int .u8 name.size] 5) = wb at *
  have HW := Lib.hid hlit
  have BT := Lib.hid (fun W => show Calls Try.prog 92 #[.int .i64 tN, .int .i64 2] W _ from ref_big tN 2 (by omega) ⟨by omega, by omega⟩ W)
  have BC := Lib.hid (fun W => show Calls Try.prog 92 #[.int .i64 cN, .int .i64 2] W _ from ref_big cN 2 (by omega) ⟨by omega, by omega⟩ W)
  have BE := Lib.hid (fun W => show Calls Try.prog 92 #[.int .i64 eN, .int .i64 8] W _ from ref_big eN 8 (by omega) ⟨by omega, by omega⟩ W)
  have cells : ∀ (A : Option Addr) (n c : Nat) (l : List Nat) (wr : World), WAt w s g A n c l wr → wr.cell? ⟨g + 1, 0, none⟩ = some (.string name) ∧ wr.cell? ⟨g + 1, 1, none⟩ = some (.int .i64 tN) ∧ wr.cell? ⟨g + 1, 2, none⟩ = some (.int .i64 cN) ∧ wr.cell? ⟨g + 1, 3, none⟩ = some (.int .i64 rN) ∧ wr.cell? ⟨g + 1, 4, none⟩ = some (.int .i64 kN) ∧ wr.cell? ⟨g + 1, 5, none⟩ = some (.int .i64 eN) ∧ wr.cell? ⟨g + 1, 6, none⟩ = some (.string zone) ∧ wr.cell? ⟨g + 1, 7, none⟩ = some (.slice dA dn dc) := by
    intro A n c l wr h
    have hb := h.box
    rw [HCA.out] at hb
    exact ⟨hb.cell 0, hb.cell 1, hb.cell 2, hb.cell 3, hb.cell 4, hb.cell 5, hb.cell 6, hb.cell 7⟩
  have CE := Lib.hid cells
  have ecell : ∀ (A : Option Addr) (n c : Nat) (l : List Nat) (wr : World), WAt w s g A n c l wr → wr.cell? ⟨g, 0, none⟩ = some (.bool false) := by
    intro A n c l wr h
    have hb := h.ebox
    rw [HEA.out] at hb
    exact hb.cell 0
  have EC := Lib.hid ecell
  have he := ecell _ _ _ _ _ hlit
  clear hlit hq cells ecell hwn
  go_wp2_with fail
  go_region_held3 (fun w' => w'.cell? ⟨g + 1, 0, none⟩ = some (.string name) ∧ w'.cell? ⟨g + 1, 1, none⟩ = some (.int .i64 tN) ∧ w'.cell? ⟨g + 1, 2, none⟩ = some (.int .i64 cN))
    (first | exact ⟨(CE.out _ _ _ _ _ HW.out.drew).1, (CE.out _ _ _ _ _ HW.out.drew).2.1, (CE.out _ _ _ _ _ HW.out.drew).2.2.1⟩ | exact ⟨(CE.out _ _ _ _ _ hw).1, (CE.out _ _ _ _ _ hw).2.1, (CE.out _ _ _ _ _ hw).2.2.1⟩)
    ((first
    | (refine step_app_s _ rfl (.tmp 18) (.tmp 20) 33 9 rfl (g + 2) 5 i0 Try.underlying33 Try.underlying9 hi0 hz0 hz1 hz2 (.slice (some ⟨q, 0, none⟩) 2 2) 2 _ rfl HW.out.drew.own name rfl (by omega) HW.out.drew.size ?_; intro A2 c2 w2 hown2 hg2 hat2; have hw := HW.out.drew.grown hg2 hown2; clear hown2 hg2 hat2)
    | (go_at_call 92; (with_reducible refine (BT.out _).mono ?_); rintro e w3 ⟨rfl, hb3, hu3⟩; have hw := hw.quiet hu3)
    | (refine step_app _ rfl (.tmp 21) (.tmp 24) 33 rfl (g + 2) 5 i0 _ 1 1 Try.underlying33 hi0 hz0 hz1 hz2 rfl (by omega) (.slice A2 (2 + name.size) c2) (2 + name.size) _ rfl hw.own w3.heap.size (some ⟨w2.heap.size, 0, none⟩) 2 2 (byts (beN 2 tN)) rfl (Rd.own hb3) (byts_one _) (by unfold maxLen; omega) (by omega) hw.size ?_; intro A4 c4 w4 hown4 hg4 hat4; have hw := hw.grown (l' := _ ++ beN 2 tN) hg4 (by rw [byts_app]; exact hown4); clear hown4 hg4 hat4)
    | (go_at_call 92; (with_reducible refine (BC.out _).mono ?_); rintro e w5 ⟨rfl, hb5, hu5⟩; have hw := hw.quiet hu5)
    | (refine step_app _ rfl (.tmp 25) (.tmp 28) 33 rfl (g + 2) 5 i0 _ 1 1 Try.underlying33 hi0 hz0 hz1 hz2 rfl (by omega) (.slice A4 (2 + name.size + 2) c4) (2 + name.size + 2) _ rfl hw.own w5.heap.size (some ⟨w4.heap.size, 0, none⟩) 2 2 (byts (beN 2 cN)) rfl (Rd.own hb5) (byts_one _) (by unfold maxLen; omega) (by omega) hw.size ?_; intro A6 c6 w6 hown6 hg6 hat6; have hw := hw.grown (l' := _ ++ beN 2 cN) hg6 (by rw [byts_app]; exact hown6); clear hown6 hg6 hat6)))
  have HW6 := Lib.hid hw
  have he6 := EC.out _ _ _ _ _ hw
  clear he hw hb3 hu3 hb5 hu5
  obtain ⟨n6, hn6⟩ : ∃ n, 2 + name.size + 2 + 2 = n := ⟨_, rfl⟩
  rw [hn6] at HW6 ⊢
  obtain ⟨l6, hl6⟩ : ∃ l, [0, name.size] ++ bytesOf name ++ beN 2 tN ++ beN 2 cN = l := ⟨_, rfl⟩
  rw [hl6] at HW6
  clear hl6
  have hwr : IntKind.u8.wrap (rN : Int) = (rN : Int) := wrap_u8_small hbr
  have hwk : IntKind.u8.wrap (kN : Int) = (kN : Int) := wrap_u8_small hbk
  go_wp2_with fail
  clear he6
  go_region_held3 (fun w' => w'.cell? ⟨g + 1, 3, none⟩ = some (.int .i64 rN) ∧ w'.cell? ⟨g + 1, 4, none⟩ = some (.int .i64 kN) ∧ w'.cell? ⟨g + 1, 5, none⟩ = some (.int .i64 eN))
    (first | exact (let x := CE.out _ _ _ _ _ HW6.out.drew; ⟨x.2.2.2.1, x.2.2.2.2.1, x.2.2.2.2.2.1⟩) | exact (let x := CE.out _ _ _ _ _ (HW6.out.alloc _).drew; ⟨x.2.2.2.1, x.2.2.2.2.1, x.2.2.2.2.2.1⟩) | exact (let x := CE.out _ _ _ _ _ hw; ⟨x.2.2.2.1, x.2.2.2.2.1, x.2.2.2.2.2.1⟩))
    ((first
    | (refine step_app _ rfl (.tmp 33) (.tmp 40) 33 rfl (g + 2) 5 i0 _ 1 1 Try.underlying33 hi0 hz0 hz1 hz2 rfl (by omega) (.slice A6 n6 c6) n6 _ rfl (HW6.out.alloc _).drew.own (w6.heap.size + 1) (some ⟨w6.heap.size, 0, none⟩) 2 2 (byts [rN, kN]) rfl ((Rd.lit _ _ _ 1 2 rfl).drewN 1) (byts_one _) (by unfold maxLen; omega) (by omega) (HW6.out.alloc _).drew.size ?_; intro A7 c7 w7 hown7 hg7 hat7; have hw := ((HW6.out.alloc _).drew).grown (l' := _ ++ [rN, kN]) hg7 (by rw [byts_app]; exact hown7); clear hown7 hg7 hat7)
    | (go_at_call 92; (with_reducible refine (BE.out _).mono ?_); rintro e w8 ⟨rfl, hb8, hu8⟩; have hw := hw.quiet hu8)
    | (refine step_app _ rfl (.tmp 41) (.tmp 44) 33 rfl (g + 2) 5 i0 _ 1 1 Try.underlying33 hi0 hz0 hz1 hz2 rfl (by omega) (.slice A7 (n6 + 2) c7) (n6 + 2) _ rfl hw.own w8.heap.size (some ⟨w7.heap.size, 0, none⟩) 8 8 (byts (beN 8 eN)) rfl (Rd.own hb8) (byts_one _) (by unfold maxLen; omega) (by omega) hw.size ?_; intro A9 c9 w9 hown9 hg9 hat9; have hw := hw.grown (l' := _ ++ beN 8 eN) hg9 (by rw [byts_app]; exact hown9); clear hown9 hg9 hat9)))
  have HW9 := Lib.hid hw
  clear hw hb8 hu8
  obtain ⟨l9, hl9⟩ : ∃ l, l6 ++ [rN, kN] ++ beN 8 eN = l := ⟨_, rfl⟩
  rw [hl9] at HW9
  clear hl9
  obtain ⟨n9, hn9⟩ : ∃ n, n6 + 2 + 8 = n := ⟨_, rfl⟩
  rw [hn9] at HW9 ⊢
  have hwz : IntKind.u8.wrap (zone.size : Int) = (zone.size : Int) := wrap_u8_small hzone
  go_wp2_with fail
  go_region_held3 (fun w' => w'.cell? ⟨g + 1, 6, none⟩ = some (.string zone))
    (first | exact (CE.out _ _ _ _ _ HW9.out.drew).2.2.2.2.2.2.1 | exact (CE.out _ _ _ _ _ (HW9.out.alloc _).drew).2.2.2.2.2.2.1 | exact (CE.out _ _ _ _ _ hw).2.2.2.2.2.2.1)
    ((first
    | (refine step_app _ rfl (.tmp 46) (.tmp 51) 33 rfl (g + 2) 5 i0 _ 1 1 Try.underlying33 hi0 hz0 hz1 hz2 rfl (by omega) (.slice A9 n9 c9) n9 _ rfl (HW9.out.alloc _).drew.own (w9.heap.size + 1) (some ⟨w9.heap.size, 0, none⟩) 1 1 (byts [zone.size]) rfl ((Rd.lit _ _ _ 1 1 rfl).drewN 1) (byts_one _) (by unfold maxLen; omega) (by omega) (HW9.out.alloc _).drew.size ?_; intro A10 c10 w10 hown10 hg10 hat10; have hw := ((HW9.out.alloc _).drew).grown (l' := _ ++ [zone.size]) hg10 (by rw [byts_app]; exact hown10); clear hown10 hg10 hat10)
    | (refine step_app_s _ rfl (.tmp 52) (.tmp 54) 33 9 rfl (g + 2) 5 i0 Try.underlying33 Try.underlying9 hi0 hz0 hz1 hz2 (.slice A10 (n9 + 1) c10) (n9 + 1) _ rfl hw.own zone rfl (by omega) hw.size ?_; intro A11 c11 w11 hown11 hg11 hat11; have hw := hw.grown hg11 hown11; clear hown11 hg11 hat11)))
  have HW11 := Lib.hid hw
  clear hw
  obtain ⟨l11, hl11⟩ : ∃ l, l9 ++ [zone.size] ++ bytesOf zone = l := ⟨_, rfl⟩
  rw [hl11] at HW11
  clear hl11
  obtain ⟨n11, hn11⟩ : ∃ n, n9 + 1 + zone.size = n := ⟨_, rfl⟩
  rw [hn11] at HW11 ⊢
  have BN := Lib.hid (fun W => show Calls Try.prog 92 #[.int .i64 dn, .int .i64 2] W _ from ref_big dn 2 (by omega) ⟨by omega, by omega⟩ W)
  have c7 := (CE.out _ _ _ _ _ HW11.out).2.2.2.2.2.2.2
  go_wp2_with fail
  refine (BN.out _).mono ?_
  rintro e w12 ⟨rfl, hb12, hu12⟩
  have HW12 := Lib.hid (HW11.out.quiet hu12)
  have HB12 := Lib.hid hb12
  clear hb12 hu12 c7
  go_wp2_with (at_builtin; refine wpList_app _ rfl (.tmp 56) (.tmp 60) 33 rfl (g + 2) 5 i0 _ 1 1 Try.underlying33 hi0 hz0 hz1 hz2 rfl (by omega) (.slice A11 n11 c11) n11 _ rfl HW12.out.own w12.heap.size (some ⟨w11.heap.size, 0, none⟩) 2 2 (byts (beN 2 dn)) rfl (Rd.own HB12.out) (byts_one _) (by unfold maxLen; omega) (by omega) HW12.out.size ?_; intro A13 c13 w13 hown13 hg13 hat13; have hw := HW12.out.grown (l' := _ ++ beN 2 dn) hg13 (by rw [byts_app]; exact hown13); clear hown13 hg13 hat13; have c7 := (CE.out _ _ _ _ _ hw).2.2.2.2.2.2.2)
  have HW13 := Lib.hid hw
  clear hw c7
  go_loopw [4, 65] (fun s4 s65 wr => ∃ (k : Nat) (A : Option Addr) (n c : Nat) (l : List Nat), k ≤ dn ∧ s65 = .int .i64 k ∧ s4 = .slice A n c ∧ n = n11 + 2 + sumL ((rows.map Row.l).take k) ∧ WAt w s g A n c l wr) (fun _ s65 _ => dn - (intOf s65).toNat)
  case atStart => exact ⟨0, A13, n11 + 2, c13, _, Nat.zero_le _, rfl, rfl, by simp [sumL], HW13.out⟩
  case round =>
    obtain ⟨k, A, n, c, l, hk, rfl, rfl, hnk, hwr⟩ := hrel
    have HWR := Lib.hid hwr
    have HNK := Lib.hid hnk
    clear hwr hnk
    by_cases hkn : k < dn
    · have hki : (k : Int) < (dn : Int) := by omega
      have hrows := H.out.below (HWR.out.bel.mono (B' := B) hBg)
      obtain ⟨ad, r, hadB, hr, hmem, hcell, hidx⟩ := hrows.idx hkn
      have hsl := hrows.each r hmem
      have hsn := hsl.len
      have hrl := hsl.llen
      have hr2 : (rows.map Row.l)[k]? = some r.l := by rw [List.getElem?_map, hr]; rfl
      have hsn2 := sumL_snoc _ k _ hr2
      have hone := sumL_one _ k _ hr2
      rw [hrl] at hsn2 hone
      have hnb : n ≤ n11 + 2 + 300000000 := by have := HNK.out; omega
      have hrb : r.n ≤ 300000000 := by omega
      have HSL := Lib.hid hsl
      have HSN := Lib.hid hsn2
      have BR := Lib.hid (fun W => show Calls Try.prog 92 #[.int .i64 r.n, .int .i64 2] W _ from ref_big r.n 2 (by omega) ⟨by omega, by omega⟩ W)
      clear hr hrows hsl hrl hr2 hsn2 hone
      go_wp2_with fail
      refine (BR.out _).mono ?_
      rintro e w14 ⟨rfl, hb14, hu14⟩
      have HW14 := Lib.hid (HWR.out.quiet hu14)
      have HB14 := Lib.hid hb14
      have HS14 := Lib.hid (HSL.out.below (hu14.belowNix (by have := HWR.out.size; omega)))
      clear hb14 hu14
      go_wp2_with (at_builtin; first
        | (refine wpList_app _ rfl (.tmp 69) (.tmp 72) 33 rfl (g + 2) 5 i0 _ 1 1 Try.underlying33 hi0 hz0 hz1 hz2 rfl (by omega) (.slice A n c) n _ rfl HW14.out.own w14.heap.size (some ⟨wr.heap.size, 0, none⟩) 2 2 (byts (beN 2 r.n)) rfl (Rd.own HB14.out) (byts_one _) (by unfold maxLen; omega) (by omega) HW14.out.size ?_; intro A15 c15 w15 hown15 hg15 hat15; have HW15 := Lib.hid (HW14.out.grown (l' := _ ++ beN 2 r.n) hg15 (by rw [byts_app]; exact hown15)); have HS15 := Lib.hid (HS14.out.below (((Upd.refl (Own (.slice A n c)) w14).grown hg15 fun _ hb _ => hb).below (by have := HW14.out.size; omega) (fun b _ hb => by have := HW14.out.own_ge b hb; omega))); clear hown15 hg15 hat15)
        | (refine wpList_app _ rfl (.tmp 73) (.tmp 74) 33 rfl (g + 2) 5 i0 _ 1 1 Try.underlying33 hi0 hz0 hz1 hz2 rfl (by omega) (.slice A15 (n + 2) c15) (n + 2) _ rfl HW15.out.own B r.A r.n r.c (byts r.l) rfl HS15.out.rd (byts_one _) (by unfold maxLen; omega) (by omega) HW15.out.size ?_; intro A16 c16 w16 hown16 hg16 hat16; have HW16 := Lib.hid (HW15.out.grown (l' := _ ++ r.l) hg16 (by rw [byts_app]; exact hown16)); clear hown16 hg16 hat16))
      refine ⟨⟨k + 1, A16, n + 2 + r.n, c16, _, by omega, by rfl, rfl, ?_, HW16.out⟩, ?_⟩
      · have h1 := HSN.out
        have h2 := HNK.out
        omega
      · simp only [intOf]; omega
    · have hki : ¬ (k : Int) < (dn : Int) := by omega
      have hk2 : k = dn := by omega
      subst hk2
      go_wp2_with fail
      go_ret
      refine ⟨A, n, ⟨c, rfl⟩, ?_, ?_⟩
      · have h1 := HNK.out
        rw [List.take_of_length_le (by rw [List.length_map, H.out.len]; exact Nat.le_refl _)] at h1
        omega
      · have h3 := HG.out
        have h4 := HWR.out.bel
        rw [← h3] at h4
        exact Upd.of_below' h4
set_option maxRecDepth 100000 in
theorem ref_size (name zone : ByteArray) (tN cN rN kN eN : Nat) (dA : Option Addr) (dn dc : Nat) (rows : List Row) (w : World) (B : Nat) (h : RowsAt w B dA dn dc rows) (hB : B ≤ w.heap.size) (hname : name.size < 256) (hzone : zone.size < 256)
    (hbt : tN < 65536) (hbc : cN < 65536) (hbr : rN < 256) (hbk : kN < 256) (hbe : eN < 4611686018427387904) (hdn : dn ≤ 4000) (hsz : sumL (rows.map Row.l) ≤ 300000000) :
    Calls Try.prog 62 #[.agg #[.string name, .int .i64 tN, .int .i64 cN, .int .i64 rN, .int .i64 kN, .int .i64 eN, .string zone, .slice dA dn dc]] w fun e w' => e = .returned (.int .i64 ((19 + name.size + zone.size + sumL (rows.map Row.l) : Nat) : Int)) ∧ Upd Nix w w' := by
  have hu := (Upd.refl Nix w).alloc (.cells #[.string name, .int .i64 tN, .int .i64 cN, .int .i64 rN, .int .i64 kN, .int .i64 eN, .string zone, .slice dA dn dc] 28)
  have HU := Lib.hid hu
  have HC := Lib.hid (ref_bytes name zone tN cN rN kN eN dA dn dc rows (w.alloc (.cells #[.string name, .int .i64 tN, .int .i64 cN, .int .i64 rN, .int .i64 kN, .int .i64 eN, .string zone, .slice dA dn dc] 28)) B (h.below (hu.belowNix hB)) (by simp; omega) hname hzone hbt hbc hbr hbk hbe hdn hsz)
  clear h hu
  go_enter Try.func62, Try.ntmps62
  go_wp2_with fail
  refine HC.out.mono ?_
  rintro e w1 ⟨A, n, c, rfl, hn, hu1⟩
  have HN := Lib.hid hn
  have HU1 := Lib.hid (HU.out.trans hu1 fun _ _ h => h)
  clear hn hu1 HC
  go_wp2_with fail
  go_ret
  exact ⟨by rw [← HN.out]; rfl, HU1.out⟩
end Go.Proofs.Ytlhbikdelbollaa
namespace Go.Proofs.Ytlhbikdelbollaa
open Go.RowKit Go.Cx Go.Maps

theorem infoStr1 : (Try.prog.info? 9).map (fun i => (i.zero, i.size, i.bytes)) = some (some (.string ⟨#[]⟩), 1, 16) := by kernel_rfl
theorem str_eq1 (a b : ByteArray) : (a.toList == b.toList) = decide (bytesOf a = bytesOf b) := by
  by_cases h : a = b
  · subst h
    rw [decide_eq_true rfl]
    exact beq_self_eq_true _
  · rw [decide_eq_false (fun e => h (bytesOf_inj e))]
    exact beq_eq_false_iff_ne.2 fun e => h (by
      rw [ByteArray.toList_eq, ByteArray.toList_eq] at e
      exact congrArg ByteArray.mk (Array.toList_inj.1 e))
/-- texts of the call's own -/
structure StrsA (base : Nat) (A : Option Addr) (n c : Nat) (ss : List ByteArray) (w : World) : Prop where
  own : w.ownsRow base 9 1 (.slice A n c) n (ss.map Value.string)
  len : ss.length = n
theorem StrsA.upd {base : Nat} {A : Option Addr} {n c : Nat} {ss : List ByteArray} {w w' : World} (h : StrsA base A n c ss w) (k : Upd Nix w w') : StrsA base A n c ss w' := ⟨own_upd' h.own k fun _ _ h => h, h.len⟩
theorem StrsA.at {base : Nat} {A : Option Addr} {n c : Nat} {ss : List ByteArray} {w : World} (h : StrsA base A n c ss w) {i : Nat} (hi : i < n) : ∃ (g : Nat) (s : ByteArray), A = some ⟨g, 0, none⟩ ∧ ss[i]? = some s ∧ g < w.heap.size ∧ w.cell? ⟨g, i, none⟩ = some (.string s) := by
  obtain ⟨g, cap, he, hb, hg⟩ := h.own.form (by omega)
  injection he with hA
  obtain ⟨s, hs⟩ : ∃ s, ss[i]? = some s := ⟨_, List.getElem?_eq_getElem (by rw [h.len]; exact hi)⟩
  refine ⟨g, s, hA, hs, hg, ?_⟩
  have h1 := h.own
  rw [hA] at h1
  have h2 := h1.cells (g := g) rfl i (.string s) (by rw [List.getElem?_map, hs]; rfl)
  have hadd : (⟨g, 0, none⟩ : Addr).add i = ⟨g, i, none⟩ := by unfold Addr.add; split <;> simp_all
  rwa [hadd] at h2
set_option maxRecDepth 100000 in
set_option maxHeartbeats 3200000 in
theorem ref_labels (s : ByteArray) (w : World) (hs : canL (bytesOf s) = true) :
    Calls Try.prog 89 #[.string s] w fun e w' => ∃ A n c ss, e = .returned (.slice A n c) ∧ StrsA w.heap.size A n c ss w' ∧ ss.map bytesOf = labelsL (bytesOf s) ∧ Upd Nix w w' := by
  obtain ⟨i0, hi0, hz0, hz1, hz2⟩ := info_parts infoStr1
  have hsz := can_size hs
  obtain ⟨hrest, _⟩ := canL_rest hs
  obtain ⟨l, hl⟩ : ∃ l, bytesOf s = l := ⟨_, rfl⟩
  have hlen := bytesOf_len s
  have hcan := ref_can s w (by omega)
  rw [hs] at hcan
  rw [hl] at hlen hrest ⊢
  have HCAN := Lib.hid hcan
  have HREST := Lib.hid hrest
  have HL := Lib.hid hl
  have HLN := Lib.hid hlen
  clear hl hlen hrest hcan hs
  go_enter Try.func89, Try.ntmps89
  go_wp2_with fail
  refine HCAN.out.mono ?_
  rintro e w1 ⟨rfl, rfl⟩
  go_wp2_with fail
  go_loopw [3, 4] (fun s3 s4 wr => ∃ (a : Nat) (A : Option Addr) (n c : Nat) (ss : List ByteArray), s4 = .int .i64 a ∧ s3 = .slice A n c ∧ a < s.size ∧ n ≤ a ∧ restL (l.drop a) = [0] ∧ ss.map bytesOf ++ labelsL (l.drop a) = labelsL l ∧ StrsA w.heap.size A n c ss wr ∧ Upd Nix w wr) (fun _ s4 _ => s.size - (intOf s4).toNat)
  case atStart => exact ⟨0, none, 0, 0, [], rfl, rfl, by
    have h1 := HREST.out
    have h2 := HLN.out
    rcases Nat.eq_zero_or_pos s.size with h | h
    · rw [List.eq_nil_of_length_eq_zero (h2.trans h), restL_none rfl] at h1; cases h1
    · exact h, Nat.le_refl _, HREST.out, rfl, ⟨⟨rfl, .inl ⟨rfl, rfl⟩⟩, rfl⟩, Upd.refl _ _⟩
  case round =>
    obtain ⟨a, A, n, c, ss, rfl, rfl, ha, hna, hr, hlab, hso, hu⟩ := hrel
    have HR := Lib.hid hr
    have HLAB := Lib.hid hlab
    have HSO := Lib.hid hso
    have HU := Lib.hid hu
    clear hr hlab hso hu
    obtain ⟨k, hk⟩ : ∃ k, l[a]? = some k := ⟨_, List.getElem?_eq_getElem (by rw [HLN.out]; exact ha)⟩
    have hix := index_str s a k (by rw [HL.out]; exact hk)
    have HK := Lib.hid hk
    clear hk
    by_cases hk0 : k = 0
    · have hki : ((k : Int) != 0) = false := by simp [hk0]
      have HV := Lib.hid (show labelsL (l.drop a) = [] by rw [drop_at HK.out]; exact labelsL_none (by rw [nextL, if_pos (.inl hk0)]))
      clear hk0
      go_wp2_with fail
      go_ret
      refine ⟨A, n, c, ss, rfl, HSO.out, ?_, HU.out⟩
      have h1 := HLAB.out
      rw [HV.out, List.append_nil] at h1
      exact h1
    · have hki : ((k : Int) != 0) = true := by simp; omega
      obtain ⟨q, hq⟩ : ∃ q, nextL (l.drop a) = some q := by
        cases hn : nextL (l.drop a) with
        | none =>
          have h1 := HR.out
          rw [restL_none hn, drop_at HK.out] at h1
          simp only [List.cons.injEq] at h1
          exact absurd h1.1 hk0
        | some q => exact ⟨q, rfl⟩
      obtain ⟨k', t, hkt, rfl, h1, h63, hct⟩ := nextL_split hq
      rw [drop_at HK.out] at hkt
      simp only [List.cons.injEq] at hkt
      obtain ⟨rfl, rfl⟩ := hkt
      rw [List.length_drop, HLN.out] at hct
      have hnext := restL_some hq
      have hlabs := labelsL_some hq
      rw [List.drop_drop] at hnext hlabs
      have hs1 : ∀ W, (Instr.slice 9 (.string s) (some (.int .i64 ((a : Int) + 1))) (some (.int .i64 ((a : Int) + 1 + (k : Int)))) none).run Try.prog W = .ok (.string (s.extract (a + 1) (a + 1 + k))) W := by
        intro W
        rw [run_slice_string W 9 s .i64 .i64 ((a : Int) + 1) ((a : Int) + 1 + (k : Int)) Try.underlying9 (by omega) (by omega) (by omega)]
        congr
      have hbx : bytesOf (s.extract (a + 1) (a + 1 + k)) = ((l.drop a).take (1 + k)).drop 1 := by
        rw [bytesOf_extract, HL.out, List.drop_take, List.drop_drop]
        congr 1 <;> omega
      have HS1 := Lib.hid hs1
      have HBX := Lib.hid hbx
      have HNX := Lib.hid hnext
      have HLB := Lib.hid hlabs
      obtain ⟨x, hx⟩ : ∃ x, s.extract (a + 1) (a + 1 + k) = x := ⟨_, rfl⟩
      rw [hx] at HBX hs1
      clear hbx hnext hlabs hk0 hq hx HS1
      have hsize := HU.out.size
      go_wp2_with (at_builtin; refine wpList_app _ rfl (.tmp 17) (.tmp 26) 110 rfl w.heap.size 9 i0 _ 1 16 Try.underlying110 hi0 hz0 hz1 hz2 rfl (by omega) (.slice A n c) n (ss.map Value.string) rfl (HSO.out.own.alloc _) (wr.heap.size + 1) (some ⟨wr.heap.size, 0, none⟩) 1 1 [.string x] rfl (Rd.lit1 _ _ _) (by intro u hu; simp only [List.mem_singleton] at hu; subst hu; rfl) (by unfold maxLen; omega) (by omega) (by simp; omega) ?_; intro A5 c5 w5 hown5 hg5 hat5)
      have hu5 : Upd Nix w w5 := (HU.out.alloc _).grown hg5 fun b hb hlt => by have := own_ge HSO.out.own b hb; omega
      refine ⟨⟨a + (1 + k), A5, n + 1, c5, ss ++ [x], by rfl, rfl, by omega, by omega, ?_, ?_, ⟨by rw [List.map_append]; exact hown5, by rw [List.length_append, HSO.out.len]; rfl⟩, hu5⟩, ?_⟩
      · rw [← HNX.out]; exact HR.out
      · rw [← HLAB.out, HLB.out, List.map_append, List.append_assoc, List.map_cons, List.map_nil, HBX.out]
        rfl
      · simp only [intOf]; omega
set_option maxRecDepth 100000 in
set_option maxHeartbeats 3200000 in
theorem ref_small1 (s : ByteArray) (w : World) (hs : s.size ≤ 140737488355328) :
    Calls Try.prog 90 #[.string s] w fun e w' => (∃ r : ByteArray, e = .returned (.string r) ∧ bytesOf r = (bytesOf s).map lowC) ∧ Upd Nix w w' := by
  have kc := fun (w : World) (s : ByteArray) => Lib.run_convert_string_bytes (P := Try.prog) w 9 33 5 s Try.underlying9 Try.underlying33 Try.underlying5
  obtain ⟨l, hl⟩ : ∃ l, bytesOf s = l := ⟨_, rfl⟩
  have hlen := bytesOf_len s
  rw [hl] at hlen
  have hlb := bytesOf_lt s
  rw [hl] at hlb
  have HL := Lib.hid hl
  have HLN := Lib.hid hlen
  have HLB := Lib.hid hlb
  rw [hl]
  clear hl hlen hlb
  go_enter Try.func90, Try.ntmps90
  go_wp2_with fail
  obtain ⟨g, hg⟩ : ∃ g, w.heap.size = g := ⟨_, rfl⟩
  have hrow := RowAt.str w s
  have hbl := below_str w 5 s (Nat.le_refl _)
  rw [hg] at hrow hbl
  rw [HL.out] at hrow
  have HG := Lib.hid hg
  have HROW := Lib.hid hrow
  have HBL := Lib.hid hbl
  clear hrow hbl
  rw [hg]
  obtain ⟨W0, hW0⟩ : ∃ W0, Lib.bytesWorld w 5 s = W0 := ⟨_, rfl⟩
  rw [hW0] at HROW HBL ⊢
  clear hW0 hg
  generalize grownCap w s.size 0 5 = cp
  go_loopw [10] (fun s10 wr => ∃ k : Nat, k ≤ s.size ∧ s10 = .int .i64 k ∧ RowAt wr g s.size (lowTo l k) ∧ Below g w wr) (fun s10 _ => s.size - (intOf s10).toNat)
  case atStart => exact ⟨0, Nat.zero_le _, rfl, by unfold lowTo; simpa using HROW.out, HBL.out⟩
  case round =>
    obtain ⟨k, hk, rfl, hrow, hbl⟩ := hrel
    have HR := Lib.hid hrow
    have HB := Lib.hid hbl
    clear hrow hbl
    by_cases hkn : k < s.size
    · have hki : (k : Int) < (s.size : Int) := by omega
      obtain ⟨c, hc⟩ : ∃ c, l[k]? = some c := ⟨_, List.getElem?_eq_getElem (by have := HLN.out; omega)⟩
      have hcell := HR.out.cell (lowTo_at hc)
      have hfree := HR.out.free hkn
      have hc256 := HLB.out c (List.mem_of_getElem? hc)
      have HC := Lib.hid hc
      clear hc
      by_cases h65 : 65 ≤ c
      · have h65i : (65 : Int) ≤ (c : Int) := by omega
        by_cases h90 : c ≤ 90
        · have h90i : (c : Int) ≤ 90 := by omega
          have hset := HR.out.set (i := k) (c + 32)
          rw [show c + 32 = lowC c by unfold lowC; rw [if_pos ⟨h65, h90⟩], lowTo_step HC.out] at hset
          have hcv : (c : Int) + 32 = ((c + 32 : Nat) : Int) := by omega
          have hcl : c + 32 = lowC c := by unfold lowC; rw [if_pos ⟨h65, h90⟩]
          have HSET := Lib.hid hset
          have HCV := Lib.hid hcv
          have HCL := Lib.hid hcl
          clear hset hcv hcl
          go_wp2_with fail
          rw [HCV.out, HCL.out]
          refine ⟨⟨k + 1, by omega, by rfl, HSET.out, HB.out.setCell (Nat.le_refl _) _⟩, ?_⟩
          simp only [intOf]
          omega
        · have h90i : decide ((c : Int) ≤ 90) = false := decide_eq_false (by omega)
          have HLC := Lib.hid (show lowC c = c by unfold lowC; rw [if_neg (by omega)])
          go_wp2_with fail
          refine ⟨⟨k + 1, by omega, by rfl, by rw [lowTo_skip HC.out HLC.out]; exact HR.out, HB.out⟩, ?_⟩
          simp only [intOf]
          omega
      · have h65i : decide ((65 : Int) ≤ (c : Int)) = false := decide_eq_false (by omega)
        have HLC := Lib.hid (show lowC c = c by unfold lowC; rw [if_neg (by omega)])
        go_wp2_with fail
        refine ⟨⟨k + 1, by omega, by rfl, by rw [lowTo_skip HC.out HLC.out]; exact HR.out, HB.out⟩, ?_⟩
        simp only [intOf]
        omega
    · have hki : ¬ (k : Int) < (s.size : Int) := by omega
      rw [lowTo_all (by rw [HLN.out]; omega)] at HR
      have k1 := run_conv wr HR.out.rd cp
      go_wp2_with fail
      go_ret
      refine ⟨⟨_, rfl, bytesOf_strN fun b hb => ?_⟩, Upd.of_below' (by rw [HG.out]; exact HB.out)⟩
      obtain ⟨c, hc, rfl⟩ := List.mem_map.1 hb
      exact lowC_lt (HLB.out c hc)
set_option maxRecDepth 100000 in
set_option maxHeartbeats 3200000 in
theorem ref_join (A : Option Addr) (n c : Nat) (ss : List ByteArray) (base : Nat) (w : World) (h : StrsA base A n c ss w) (hn : n ≤ 255) (he : ∀ s ∈ ss, s.size ≤ 63) :
    Calls Try.prog 91 #[.slice A n c] w fun e w' => (∃ r : ByteArray, e = .returned (.string r) ∧ bytesOf r = joinTo (ss.map bytesOf) ++ [0]) ∧ Upd Nix w w' := by
  have H := Lib.hid h
  have HE := Lib.hid he
  clear h he
  go_enter Try.func91, Try.ntmps91
  go_wp2_with fail
  go_loopw [3, 8] (fun s3 s8 wr => ∃ (k : Nat) (r : ByteArray), k ≤ n ∧ s8 = .int .i64 k ∧ s3 = .string r ∧ bytesOf r = joinTo ((ss.take k).map bytesOf) ∧ r.size ≤ 64 * k ∧ Upd Nix w wr) (fun _ s8 _ => n - (intOf s8).toNat)
  case atStart => exact ⟨0, ⟨#[]⟩, Nat.zero_le _, rfl, rfl, rfl, Nat.le_refl _, Upd.refl _ _⟩
  case round =>
    obtain ⟨k, r, hk, rfl, rfl, hr, hrs, hu⟩ := hrel
    have HR := Lib.hid hr
    have HU := Lib.hid hu
    clear hr hu
    by_cases hkn : k < n
    · have hki : (k : Int) < (n : Int) := by omega
      have hup := H.out.upd HU.out
      obtain ⟨g, x, rfl, hx, hgl, hcell⟩ := hup.at hkn
      have hx63 := HE.out x (List.mem_of_getElem? hx)
      have hwx : IntKind.u8.wrap (x.size : Int) = (x.size : Int) := wrap_u8_small (by omega)
      have k1 := run_conv (wr.alloc (.cells #[.int .u8 x.size] 5)) (B := wr.heap.size + 1) (A := some ⟨wr.heap.size, 0, none⟩) (n := 1) (l := [x.size]) (Rd.lit1 _ _ _) 1
      have hb1 : bytesOf (strN [x.size]) = [x.size] := bytesOf_strN (by simp; omega)
      obtain ⟨st, hst⟩ : ∃ st, strN [x.size] = st := ⟨_, rfl⟩
      rw [hst] at k1 hb1
      have hss : st.size = 1 := by rw [← bytesOf_len, hb1]; rfl
      have HX := Lib.hid hx
      have HB1 := Lib.hid hb1
      clear hx hup hb1 hst
      go_wp2_with fail
      refine ⟨⟨k + 1, r ++ (st ++ x), by omega, by rfl, by rfl, ?_, ?_, HU.out.alloc _⟩, ?_⟩
      · rw [bytesOf_append, bytesOf_append, HR.out, HB1.out, List.take_add_one, HX.out, List.map_append]
        simp only [Option.toList_some, List.map_cons, List.map_nil]
        rw [joinTo_snoc, bytesOf_len]
        rfl
      · rw [ByteArray.size_append, ByteArray.size_append]; omega
      · simp only [intOf]; omega
    · have hki : ¬ (k : Int) < (n : Int) := by omega
      rw [List.take_of_length_le (by rw [H.out.len]; omega)] at HR
      go_wp2_with fail
      go_ret
      exact ⟨⟨_, rfl, by rw [bytesOf_append, HR.out]; rfl⟩, HU.out⟩
set_option maxRecDepth 100000 in
set_option maxHeartbeats 3200000 in
theorem ref_lower (s : ByteArray) (w : World) (hs : s.size ≤ 140737488355328) :
    Calls Try.prog 77 #[.string s] w fun e w' => (∃ r : ByteArray, e = .returned (.string r) ∧ bytesOf r = lowerL (bytesOf s)) ∧ Upd Nix w w' := by
  obtain ⟨i0, hi0, hz0, hz1, hz2⟩ := info_parts infoStr1
  have CAN := Lib.hid (ref_can s w hs)
  cases hc : canL (bytesOf s) with
  | false =>
    rw [hc] at CAN
    have HV := Lib.hid (show lowerL (bytesOf s) = [] by unfold lowerL; rw [hc]; rfl)
    clear hc
    go_enter Try.func77, Try.ntmps77
    go_wp2_with fail
    refine CAN.out.mono ?_
    rintro e w1 ⟨rfl, rfl⟩
    go_wp2_with fail
    go_ret
    exact ⟨⟨_, rfl, by rw [HV.out]; rfl⟩, Upd.refl _ _⟩
  | true =>
    rw [hc] at CAN
    have HV := Lib.hid (show lowerL (bytesOf s) = (bytesOf s).map lowC by unfold lowerL; rw [hc]; rfl)
    have hsz := can_size hc
    have HLAB := Lib.hid (ref_labels s w hc)
    have HJ := Lib.hid (join_low _ (bytesOf s) rfl (canL_rest hc).1)
    have hll := labels_len _ (bytesOf s) rfl
    have HLL := Lib.hid hll
    clear hc hll
    go_enter Try.func77, Try.ntmps77
    go_wp2_with fail
    refine CAN.out.mono ?_
    rintro e w1 ⟨rfl, rfl⟩
    go_wp2_with fail
    refine HLAB.out.mono ?_
    rintro e w1 ⟨A, n, c, ss, rfl, hso, hmap, hu1⟩
    have hn : n ≤ 255 := by
      have h1 := congrArg List.length hmap
      rw [List.length_map, hso.len] at h1
      have h2 := HLL.out.1
      rw [bytesOf_len] at h2
      omega
    have he : ∀ x ∈ ss, x.size ≤ 63 := fun x hx => by
      have h1 := HLL.out.2 (bytesOf x) (by rw [← hmap]; exact List.mem_map.2 ⟨x, hx, rfl⟩)
      rwa [bytesOf_len] at h1
    have HSO := Lib.hid hso
    have HMAP := Lib.hid hmap
    have HU1 := Lib.hid hu1
    have HE := Lib.hid he
    have hsz1 := hu1.size
    clear hso hmap hu1 he
    go_wp2_with fail
    go_loopw [3, 12] (fun s3 s12 wr => ∃ (k : Nat) (A3 : Option Addr) (c3 : Nat) (out : List ByteArray), k ≤ n ∧ s12 = .int .i64 k ∧ s3 = .slice A3 k c3 ∧ StrsA w1.heap.size A3 k c3 out wr ∧ out.map bytesOf = ((ss.take k).map bytesOf).map (fun x => x.map lowC) ∧ Upd Nix w1 wr) (fun _ s12 _ => n - (intOf s12).toNat)
    case atStart => exact ⟨0, none, 0, [], Nat.zero_le _, rfl, rfl, ⟨⟨rfl, .inl ⟨rfl, rfl⟩⟩, rfl⟩, rfl, Upd.refl _ _⟩
    case round =>
      obtain ⟨k, A3, c3, out, hk, rfl, rfl, ho, hom, hu⟩ := hrel
      have HOU := Lib.hid ho
      have HOM := Lib.hid hom
      have HU := Lib.hid hu
      clear ho hom hu
      by_cases hkn : k < n
      · have hki : (k : Int) < (n : Int) := by omega
        have hup := HSO.out.upd HU.out
        obtain ⟨g, x, rfl, hx, hgl, hcell⟩ := hup.at hkn
        have hx63 := HE.out x (List.mem_of_getElem? hx)
        have HX := Lib.hid hx
        clear hx hup
        go_wp2_with fail
        refine (ref_small1 x wr (by omega)).mono ?_
        rintro e w4 ⟨⟨r, rfl, hr⟩, hu4⟩
        have HR := Lib.hid hr
        have HU4 := Lib.hid (HU.out.trans hu4 fun _ _ h => h)
        have HO4 := Lib.hid (HOU.out.upd hu4)
        have hsz4 := HU4.out.size
        clear hr hu4
        go_wp2_with (at_builtin; refine wpList_app _ rfl (.tmp 16) (.tmp 19) 110 rfl w1.heap.size 9 i0 _ 1 16 Try.underlying110 hi0 hz0 hz1 hz2 rfl (by omega) (.slice A3 k c3) k (out.map Value.string) rfl (HO4.out.own.alloc _) (w4.heap.size + 1) (some ⟨w4.heap.size, 0, none⟩) 1 1 [.string r] rfl (Rd.lit1 _ _ _) (by intro u hu; simp only [List.mem_singleton] at hu; subst hu; rfl) (by unfold maxLen; omega) (by omega) (by simp; omega) ?_; intro A5 c5 w5 hown5 hg5 hat5)
        have hu5 : Upd Nix w1 w5 := (HU4.out.alloc _).grown hg5 fun b hb hlt => by have := own_ge HO4.out.own b hb; omega
        refine ⟨⟨k + 1, A5, c5, out ++ [r], by omega, by rfl, rfl, ⟨by rw [List.map_append]; exact hown5, by rw [List.length_append, HO4.out.len]; rfl⟩, ?_, hu5⟩, ?_⟩
        · rw [List.map_append, HOM.out, List.take_add_one, HX.out]
          simp only [Option.toList_some, List.map_append, List.map_cons, List.map_nil, HR.out]
        · simp only [intOf]; omega
      · have hki : ¬ (k : Int) < (n : Int) := by omega
        obtain rfl : k = n := by omega
        rw [List.take_of_length_le (by rw [HSO.out.len]; omega)] at HOM
        have hoe : ∀ x ∈ out, x.size ≤ 63 := fun x hx => by
          have h1 : bytesOf x ∈ out.map bytesOf := List.mem_map.2 ⟨x, hx, rfl⟩
          rw [HOM.out, HMAP.out] at h1
          obtain ⟨y, hy, hye⟩ := List.mem_map.1 h1
          have h2 := HLL.out.2 y hy
          have h3 := congrArg List.length hye
          rw [List.length_map, bytesOf_len] at h3
          omega
        have JOIN := Lib.hid (ref_join A3 k c3 out _ wr HOU.out hn hoe)
        clear hoe
        go_wp2_with fail
        refine JOIN.out.mono ?_
        rintro e w6 ⟨⟨r, rfl, hr⟩, hu6⟩
        have HR := Lib.hid hr
        have HU6 := Lib.hid (HU1.out.trans (HU.out.trans hu6 fun _ _ h => h) fun _ _ h => h)
        clear hr hu6
        go_wp2_with fail
        go_ret
        exact ⟨⟨_, rfl, by rw [HR.out, HOM.out, HMAP.out, HV.out, HJ.out]⟩, HU6.out⟩
def sameL (a b : List Nat) : Bool := canL a && canL b && decide (lowerL a = lowerL b)
set_option maxRecDepth 100000 in
set_option maxHeartbeats 3200000 in
theorem ref_same1 (a b : ByteArray) (w : World) (ha : a.size ≤ 140737488355328) (hb : b.size ≤ 140737488355328) :
    Calls Try.prog 60 #[.string a, .string b] w fun e w' => e = .returned (.bool (sameL (bytesOf a) (bytesOf b))) ∧ Upd Nix w w' := by
  have CA := Lib.hid (ref_can a w ha)
  have CB := Lib.hid (ref_can b w hb)
  have LA := Lib.hid (ref_lower a w ha)
  have LB := Lib.hid fun W => ref_lower b W hb
  cases hca : canL (bytesOf a) with
  | false =>
    rw [hca] at CA
    have HV := Lib.hid (show sameL (bytesOf a) (bytesOf b) = false by unfold sameL; rw [hca]; rfl)
    clear hca
    go_enter Try.func60, Try.ntmps60
    go_wp2_with (go_at_call 46; refine CA.out.mono ?_; rintro e w1 ⟨rfl, rfl⟩)
    go_ret
    exact ⟨by rw [HV.out]; rfl, Upd.refl _ _⟩
  | true =>
    rw [hca] at CA
    cases hcb : canL (bytesOf b) with
    | false =>
      rw [hcb] at CB
      have HV := Lib.hid (show sameL (bytesOf a) (bytesOf b) = false by unfold sameL; rw [hcb]; simp)
      clear hca hcb
      go_enter Try.func60, Try.ntmps60
      go_wp2_with (first | (go_at_call 46; with_reducible refine CA.out.mono ?_; rintro e w1 ⟨rfl, rfl⟩) | (go_at_call 46; with_reducible refine CB.out.mono ?_; rintro e w1 ⟨rfl, rfl⟩))
      go_ret
      exact ⟨by rw [HV.out]; rfl, Upd.refl _ _⟩
    | true =>
      rw [hcb] at CB
      have HV := Lib.hid (show sameL (bytesOf a) (bytesOf b) = decide (lowerL (bytesOf a) = lowerL (bytesOf b)) by unfold sameL; rw [hca, hcb]; rfl)
      clear hca hcb
      go_enter Try.func60, Try.ntmps60
      go_wp2_with (first | (go_at_call 46; with_reducible refine CA.out.mono ?_; rintro e w1 ⟨rfl, rfl⟩) | (go_at_call 46; with_reducible refine CB.out.mono ?_; rintro e w1 ⟨rfl, rfl⟩) | (go_at_call 77; with_reducible refine LA.out.mono ?_; rintro e w1 ⟨⟨r1, rfl, hr1⟩, hu1⟩; have HR1 := Lib.hid hr1; have HU1 := Lib.hid hu1; clear hr1 hu1) | (go_at_call 77; with_reducible refine (LB.out _).mono ?_; rintro e w2 ⟨⟨r2, rfl, hr2⟩, hu2⟩; have HR2 := Lib.hid hr2; have HU2 := Lib.hid (HU1.out.trans hu2 fun _ _ h => h); clear hr2 hu2))
      go_ret
      refine ⟨?_, HU2.out⟩
      rw [HV.out, ← HR1.out, ← HR2.out, ← str_eq1]
      rfl
end Go.Proofs.Ytlhbikdelbollaa
