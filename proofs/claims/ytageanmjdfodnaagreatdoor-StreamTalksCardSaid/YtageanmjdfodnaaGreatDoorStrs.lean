/- Strings: as numbers, as new rows of bytes; append onto such a row. -/
import Derived.Test.YtageanmjdfodnaaGreatDoorBytes
import Derived.Lib.ConvBytes
import Derived.Lib.AppendStr
import Derived.Lib.Strings
import Derived.Laws.Strings
import Derived.Laws.Strings2
import Derived.Laws.Strings3
namespace Go.Proofs.YtageanmjdfodnaaGreatDoor
open Go.RowKit Go.Cx

def bytesOf (s : ByteArray) : List Nat := s.data.toList.map UInt8.toNat
theorem bytesOf_lt (s : ByteArray) : ∀ b ∈ bytesOf s, b < 256 := by
  intro b hb
  obtain ⟨u, _, rfl⟩ := List.mem_map.1 hb
  exact u.toNat_lt
theorem byts_of (s : ByteArray) : byts (bytesOf s) = Lib.strCells s := by
  simp [byts, bytesOf, Lib.strCells]
theorem bytesOf_len (s : ByteArray) : (bytesOf s).length = s.size := by
  unfold bytesOf
  rw [List.length_map, Array.length_toList]
  rfl
theorem bytesOf_append (a b : ByteArray) : bytesOf (a ++ b) = bytesOf a ++ bytesOf b := by
  simp [bytesOf]
theorem toNat_inj : ∀ (a b : List UInt8), a.map UInt8.toNat = b.map UInt8.toNat → a = b
  | [], [], _ => rfl
  | [], _ :: _, h => by simp at h
  | _ :: _, [], h => by simp at h
  | x :: a, y :: b, h => by
    simp only [List.map_cons, List.cons.injEq] at h
    rw [UInt8.toNat_inj.1 h.1, toNat_inj a b h.2]
theorem bytesOf_inj {a b : ByteArray} (h : bytesOf a = bytesOf b) : a = b := by
  have := toNat_inj _ _ h
  cases a with | mk a => cases b with | mk b =>
  simp only at this
  rw [Array.toList_inj.1 this]
theorem bytesOf_strN {l : List Nat} (h : ∀ b ∈ l, b < 256) : bytesOf (strN l) = l := by
  unfold bytesOf strN
  rw [strOfNums_data, List.map_map, List.map_map]
  conv => rhs; rw [← List.map_id l]
  refine List.map_congr_left fun b hb => ?_
  have := h b hb
  simp only [Function.comp, Int.toNat_natCast, UInt8.toNat_ofNat', id]
  omega
theorem bytesOf_extract (s : ByteArray) (a b : Nat) : bytesOf (s.extract a b) = ((bytesOf s).drop a).take (b - a) := by
  unfold bytesOf
  rw [Lib.extract_data, ← List.map_drop, ← List.map_take]
theorem bytesOf_to (s : ByteArray) (b : Nat) : bytesOf (s.extract 0 b) = (bytesOf s).take b := by
  rw [bytesOf_extract, List.drop_zero, Nat.sub_zero]
theorem bytesOf_from (s : ByteArray) (a : Nat) : bytesOf (s.extract a s.size) = (bytesOf s).drop a := by
  rw [bytesOf_extract, List.take_of_length_le]
  rw [List.length_drop, bytesOf_len]
  omega
theorem bytesOf_at (s : ByteArray) (i : Nat) (h : i < s.size) : (bytesOf s)[i]? = some (s[i]'h).toNat := by
  unfold bytesOf
  rw [List.getElem?_map]
  have : s.data.toList[i]? = some (s[i]'h) := by
    rw [Array.getElem?_toList]
    exact Array.getElem?_eq_getElem (xs := s.data) h
  rw [this]
  rfl

/-- '[]byte(s)': what is there then -/
theorem Rd.str (w : World) (e : TypeId) (s : ByteArray) : Rd (Lib.bytesWorld w e s) (w.heap.size + 1) 1 (some ⟨w.heap.size, 0, none⟩) s.size (byts (bytesOf s)) := by
  refine ⟨?_, fun _ => ⟨_, rfl, Nat.lt_succ_self _, fun j u hu => ?_⟩⟩
  · rw [byts_of, Lib.strCells_length, Nat.mul_one]
  · have hj : j < s.size := by
      have := (List.getElem?_eq_some_iff.1 hu).1
      rwa [byts_of, Lib.strCells_length] at this
    have hadd : (⟨w.heap.size, 0, none⟩ : Addr).add j = ⟨w.heap.size, j, none⟩ := by unfold Addr.add; split <;> simp_all
    rw [hadd, Lib.bytesWorld_cell w e s j hj]
    simp only [byts, List.getElem?_map] at hu
    have h1 := bytesOf_at s j hj
    rw [h1] at hu
    simp only [Option.map_some, Option.some.injEq] at hu
    rw [← hu]
    congr 2
    have : s.data.toList[j]? = some (s[j]'hj) := by
      rw [Array.getElem?_toList]
      exact Array.getElem?_eq_getElem (xs := s.data) hj
    rw [List.getD, this]
    rfl
theorem below_str (w : World) (e : TypeId) (s : ByteArray) {B : Nat} (h : B ≤ w.heap.size) : Below B w (Lib.bytesWorld w e s) :=
  ⟨rfl, rfl, rfl, by rw [Lib.bytesWorld_size]; omega, fun b hb => Lib.bytesWorld_at_old w e s b (by omega)⟩
theorem upd_str (w : World) (e : TypeId) (s : ByteArray) : Upd Nix w (Lib.bytesWorld w e s) := Upd.of_below' (below_str w e s (Nat.le_refl _))

/-- writing ahead of the frozen stretch -/
theorem run_storeCells_atB (P : Program) (g o : Nat) (t : TypeId) (fz : Nat × Nat) : ∀ (vs : List Value) (i : Nat) (cur : Array Value) (w : World), w.heap[g]? = some (.cells cur t fz) → cur.size ≤ fz.1 → o + i + vs.length ≤ cur.size → (∀ v ∈ vs, v.oneCell' = true) →
    (storeCells ⟨g, o, none⟩ vs i).run P w = .ok () (w.setRow g (cur.toList.take (o + i) ++ vs ++ cur.toList.drop (o + i + vs.length)).toArray)
  | [], i, cur, w, hg, _, _, _ => by
    simp only [storeCells, List.append_nil, List.length_nil, Nat.add_zero, List.take_append_drop, Array.toArray_toList]
    rw [setRow_self w g cur t fz hg]
    rfl
  | v :: rest, i, cur, w, hg, hfz, hl, h1 => by
    have hi : o + i < cur.size := by simp at hl; omega
    have hadd : (⟨g, o, none⟩ : Addr).add i = ⟨g, o + i, none⟩ := by unfold Addr.add; split <;> simp_all
    have hcell : w.cell? ⟨g, o + i, none⟩ = some cur[o + i] := by simp [World.cell?, hg, hi]
    have hfro : w.frozen? ⟨g, o + i, none⟩ = false := by
      obtain ⟨lo, hi'⟩ := fz
      simp only [World.frozen?, hg, Bool.and_eq_false_iff, decide_eq_false_iff_not]
      left
      simp only at hfz
      omega
    have hst : (store ((⟨g, o, none⟩ : Addr).add i) v).run P w = .ok () (w.setRow g (cur.setIfInBounds (o + i) v)) := by
      rw [hadd, run_store P w _ v _ (h1 v (by simp)), hcell]
      simp [hfro, setCell_eq_setRow w g (o + i) cur t fz v hg]
    have ih := run_storeCells_atB P g o t fz rest (i + 1) (cur.setIfInBounds (o + i) v) (w.setRow g (cur.setIfInBounds (o + i) v)) (setRow_heap w g cur _ t _ hg) (by simpa using hfz) (by simp at hl ⊢; omega) (fun x hx => h1 x (by simp [hx]))
    simp only [storeCells, Sem.run_bind, hst, Result.andThen_ok, ih, setRow_setRow]
    congr 3
    have e := list_seg_step cur.toList (o + i) v rest (by simp at hl ⊢; omega)
    simpa [Array.toList_setIfInBounds, Nat.add_assoc] using e

/-- append onto a row whose frozen stretch lies behind it -/
theorem run_app_row {P : Program} (w : World) (t ty e : TypeId) (i : TypeInfo) (z : Value) (ht : P.underlying t = some (.slice e)) (hi : P.info? e = some i) (hz : i.zero = some z)
    (hsize : i.size = 1) (hby : i.bytes = 1) (_hzs : z.cells.size = 1)
    (g n cap : Nat) (cur : Array Value) (fz : Nat × Nat) (xs : List Value) (hg : w.heap[g]? = some (.cells cur e fz)) (hfz : cur.size ≤ fz.1) (hnc : n ≤ cap) (hcs : cur.size = cap) (htake : cur.toList.take n = xs) (hxl : xs.length = n)
    (B : Nat) (A : Option Addr) (m c : Nat) (news : List Value) (hr : Rd w B 1 A m news) (h1 : ∀ u ∈ news, u.oneCell' = true)
    (hbytes : n + m ≤ 140737488355328) :
    ∃ ad c' w', (Builtin.append_ #[t, t] ty #[.slice (some ⟨g, 0, none⟩) n cap, .slice A m c]).run P w = .ok (.slice (some ad) (n + m) c') w' ∧ Rd w' w'.heap.size 1 (some ad) (n + m) (xs ++ news) ∧ n + m ≤ c' ∧ (ad.block = g ∨ ad.block = w.heap.size) ∧ w.grownBy w' (some g) := by
  have hsmall : n + m ≤ 9223372036854775807 := by omega
  have hglt := (Array.getElem?_eq_some_iff.1 hg).1
  have hml : news.length = m := by simpa using hr.1
  have hxs : ∀ j u, xs[j]? = some u → w.cell? ((⟨g, 0, none⟩ : Addr).add j) = some u := by
    intro j u hu
    have hadd : (⟨g, 0, none⟩ : Addr).add j = ⟨g, j, none⟩ := by unfold Addr.add; split <;> simp_all
    rw [hadd, cell_of_row w g j cur e fz hg]
    rw [← htake, List.getElem?_take] at hu
    split at hu
    · simpa using hu
    · cases hu
  have same : ∀ (ad : Addr), ad = ⟨g, 0, none⟩ → m = 0 → Rd w w.heap.size 1 (some ad) (n + m) (xs ++ news) := by
    rintro ad rfl rfl
    have hn : news = [] := List.eq_nil_of_length_eq_zero hml
    subst hn
    refine ⟨by simp [hxl], fun _ => ⟨_, rfl, hglt, ?_⟩⟩
    rw [List.append_nil]
    exact hxs
  rcases A with _ | ad
  · have hm : m = 0 := by
      rcases Nat.eq_zero_or_pos m with h0 | h0
      · exact h0
      · obtain ⟨ad, h, _⟩ := hr.2 h0
        cases h
    subst hm
    refine ⟨⟨g, 0, none⟩, cap, w, ?_, same _ rfl rfl, by omega, .inl rfl, World.grownBy.refl w _⟩
    simp [Builtin.append_, run_underlying ht, sizeOf, typeInfo, hi, Builtin.lenOf, Builtin.firstCells, hnc, storeCells]
  · have hcells : ∀ j u, news[j]? = some u → w.cell? (ad.add j) = some u := by
      intro j u hu
      rcases Nat.eq_zero_or_pos m with h0 | h0
      · subst h0
        have hn : news = [] := List.eq_nil_of_length_eq_zero hml
        subst hn
        simp at hu
      · obtain ⟨ad', h, _, hc⟩ := hr.2 h0
        injection h with h
        subst h
        exact hc j u hu
    by_cases hroom : n + m ≤ cap
    · have hf := run_firstCells_some (P := P) w i.size m ad m c news (by rw [hsize]; omega) hcells
      have hst := run_storeCells_atB P g n e fz news 0 cur w hg hfz (by omega) h1
      simp only [Nat.add_zero] at hst
      have hrun : (Builtin.append_ #[t, t] ty #[.slice (some ⟨g, 0, none⟩) n cap, .slice (some ad) m c]).run P w =
          .ok (.slice (some ⟨g, 0, none⟩) (n + m) cap) (w.setRow g (cur.toList.take n ++ news ++ cur.toList.drop (n + news.length)).toArray) := by
        rw [hsize] at hf
        simp [Builtin.append_, run_underlying ht, sizeOf, typeInfo, hi, hsize, Builtin.lenOf, hroom, hf, Addr.add_lit, hst]
      refine ⟨⟨g, 0, none⟩, cap, _, hrun, ⟨by simp [hxl, hml], fun _ => ⟨_, rfl, by simpa using hglt, ?_⟩⟩, hroom, .inl rfl, ⟨rfl, rfl, rfl, by simp, fun k _ hk => setRow_other w g k _ (fun e => hk (by simp [e]))⟩⟩
      intro j u hu
      have hadd : (⟨g, 0, none⟩ : Addr).add j = ⟨g, j, none⟩ := by unfold Addr.add; split <;> simp_all
      rw [hadd, cell_of_row _ g j _ e fz (setRow_heap w g cur _ e _ hg), htake]
      have hj := (List.getElem?_eq_some_iff.1 hu).1
      rw [List.getElem?_toArray, List.getElem?_append_left hj]
      exact hu
    · have hr' := run_append_grow (P := P) w t ty e i z ht hi hz ⟨g, 0, none⟩ n cap xs (by rw [hsize]; omega) hxs ad m c news (by rw [hsize]; omega) hcells (by omega) (by omega) (growslice_fits (by omega) (by rw [hby]; omega))
      refine ⟨_, _, _, hr', ⟨by simp [hxl, hml], fun _ => ⟨_, rfl, by simp, ?_⟩⟩, grownCap_ge w _ _ _, .inr rfl, ⟨rfl, rfl, rfl, by simp, fun k hk _ => heap_alloc_old w.drew _ hk⟩⟩
      intro j u hu
      have hadd : (⟨w.heap.size, 0, none⟩ : Addr).add j = ⟨w.heap.size, j, none⟩ := by unfold Addr.add; split <;> simp_all
      have hj := (List.getElem?_eq_some_iff.1 hu).1
      rw [hadd, cell_of_row _ w.heap.size j _ e (0, 0) (heap_alloc_new w.drew _)]
      have hx : (xs.toArray ++ news.toArray) = (xs ++ news).toArray := by simp
      rw [hx, Array.getElem?_append_left (by simpa using hj), List.getElem?_toArray]
      exact hu

/-- 'append([]byte(s), x...)' at the operation -/
theorem wpList_app_str {P : Program} {ops : Array Oper} {rest : List Oper} {o : Oper} {a : Act} {Q : Exit → Act → World → Prop} (hgd : o.guard = none) (s x : Operand) (t : TypeId)
    (ho : o.op = .call { callee := .builtin .append, args := #[s, x], argTypes := #[t, t] })
    (w0 : World) (st : ByteArray) (e : TypeId) (i : TypeInfo) (z : Value) (ht : P.underlying t = some (.slice e)) (hi : P.info? e = some i) (hz : i.zero = some z)
    (hsize : i.size = 1) (hby : i.bytes = 1) (hzs : z.cells.size = 1)
    (n : Nat) (l : List Nat) (hst : bytesOf st = l) (hn : st.size = n)
    (hs : a.eval s = .slice (some ⟨w0.heap.size, 0, none⟩) n (grownCap w0 n 0 e))
    (B : Nat) (A : Option Addr) (m c : Nat) (l' : List Nat) (hx : a.eval x = .slice A m c) (hr : Rd (Lib.bytesWorld w0 e st) B 1 A m (byts l'))
    (hbytes : n + m ≤ 140737488355328)
    (h : ∀ ad c' w', Rd w' w'.heap.size 1 (some ad) (n + m) (byts (l ++ l')) → n + m ≤ c' → w0.heap.size ≤ ad.block → Upd Nix w0 w' → wpList P ops Q rest (a.put o.dst (.slice (some ad) (n + m) c')) w') : wpList P ops Q (o :: rest) a (Lib.bytesWorld w0 e st) := by
  subst hn
  have hcap := grownCap_ge w0 st.size 0 e
  have hcs : (Lib.bytesCells w0 e st).size = grownCap w0 st.size 0 e := by
    unfold Lib.bytesCells
    simp only [Array.size_append, Array.size_map, Array.size_replicate]
    have : st.data.size = st.size := rfl
    omega
  have hxl : (byts l).length = st.size := by rw [← hst, byts_of, Lib.strCells_length]
  have htake : (Lib.bytesCells w0 e st).toList.take st.size = byts l := by
    rw [← hst, byts_of]
    unfold Lib.bytesCells Lib.strCells
    rw [Array.toList_append, List.take_append_of_le_length (by simp only [Array.toList_map, List.length_map, Array.length_toList]; exact Nat.le_refl _)]
    rw [List.take_of_length_le (by simp only [Array.toList_map, List.length_map, Array.length_toList]; exact Nat.le_refl _)]
    simp
  obtain ⟨ad, c', w', hrun, h1, h2, h3, h4⟩ := run_app_row (P := P) (Lib.bytesWorld w0 e st) t o.type e i z ht hi hz hsize hby hzs w0.heap.size st.size _ _ _ (byts l) (Lib.bytesWorld_at_new w0 e st) (Nat.le_refl _) hcap hcs htake hxl B A m c (byts l') hr
    (fun u hu => by simp only [byts, List.mem_map] at hu; obtain ⟨b, _, rfl⟩ := hu; rfl) hbytes
  refine wpList_plain hgd fun _ hK => ?_
  unfold Oper.wp execOp
  simp only [ho, resolve, invoke, builtin, Sem.run_bind, Sem.run_pure, Result.andThen_ok, List.map_toArray, List.map_cons, List.map_nil, hs, hx, hrun]
  refine hK _ _ (h ad c' w' ?_ h2 ?_ ?_)
  · simpa [byts] using h1
  · have := Lib.bytesWorld_size w0 e st
    rcases h3 with h3 | h3 <;> omega
  · have hsz := Lib.bytesWorld_size w0 e st
    refine Upd.of_below' ⟨h4.os, h4.tape, h4.output, by have := h4.size; omega, fun b hb => ?_⟩
    rw [h4.block b (by omega) (by simp; omega)]
    exact Lib.bytesWorld_at_old w0 e st b hb
end Go.Proofs.YtageanmjdfodnaaGreatDoor
