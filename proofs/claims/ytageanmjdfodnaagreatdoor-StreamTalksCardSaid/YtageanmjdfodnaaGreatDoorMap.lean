/- Maps as partial functions on key values: look-up, store, delete, length. -/
import Derived.Maps.Own
import Derived.Maps.OwnOps
import Derived.Below
import Derived.Laws.Rows
namespace Go.Cx
open Go.RowKit Go.Maps Go.MapKept
open Go.ChangeMaps (setBlock heap_setBlock_same heap_setBlock_other)

/-- Block b of w is a map that holds just what f says. -/
def MapAt (w : World) (P : Program) (k : TypeId) (b : Nat) (f : Value → Option Value) : Prop :=
  ∃ es clock, w.heap[b]? = some (.map es clock) ∧ Stamped es clock ∧ (∀ e ∈ es.toList, (∃ l, keyOf P k e.key = some l) ∧ f e.key = some e.val) ∧
    ∀ x v, f x = some v → ∃ e ∈ es.toList, e.key = x ∧ e.val = v

open Classical in
/-- f with v at x. -/
noncomputable def putF (f : Value → Option Value) (x v : Value) : Value → Option Value := fun y => if y = x then some v else f y
open Classical in
noncomputable def delF (f : Value → Option Value) (x : Value) : Value → Option Value := fun y => if y = x then none else f y

theorem putF_same (f : Value → Option Value) (x v : Value) : putF f x v x = some v := by simp [putF]
theorem putF_other {f : Value → Option Value} {x v y : Value} (h : y ≠ x) : putF f x v y = f y := by simp [putF, h]
theorem delF_same (f : Value → Option Value) (x : Value) : delF f x x = none := by simp [delF]
theorem delF_other {f : Value → Option Value} {x y : Value} (h : y ≠ x) : delF f x y = f y := by simp [delF, h]

section
variable {w w' : World} {P : Program} {k e t : TypeId} {b : Nat} {f : Value → Option Value}

theorem MapAt.lt (h : MapAt w P k b f) : b < w.heap.size := by
  obtain ⟨es, clock, hb, _⟩ := h
  exact (Array.getElem?_eq_some_iff.1 hb).1

theorem MapAt.keep (h : MapAt w P k b f) (hb : w'.heap[b]? = w.heap[b]?) : MapAt w' P k b f := by
  obtain ⟨es, clock, hm, r⟩ := h
  exact ⟨es, clock, hb.trans hm, r⟩

theorem MapAt.made (w : World) (P : Program) (k : TypeId) : MapAt (w.alloc (.map #[] 0)) P k w.heap.size (fun _ => none) :=
  ⟨#[], 0, (heap_alloc_new w _), stamped_empty 0, by simp, by simp⟩

theorem MapAt.look (h : MapAt w P k b f) (K : Keyed P k) (ht : P.underlying t = some (.map k e)) {z : Value} (hz : (zeroValue e).run P w = .ok z w)
    {key : Value} {kl : Lit} (hkey : keyOf P k key = some kl) (c : Bool) :
    (Instr.lookup t (.map (some b)) key c).run P w = .ok (if c then .tuple #[(f key).getD z, .bool (f key).isSome] else (f key).getD z) w := by
  obtain ⟨es, clock, hb, hs, he, hf⟩ := h
  rcases K.find w hkey es.toList (fun x hx => (he x hx).1) with ⟨h1, h2⟩ | ⟨j, e0, h1, h2, h3⟩
  · have hn : f key = none := by
      cases hfk : f key with
      | none => rfl
      | some v =>
        obtain ⟨e', he', hk', _⟩ := hf key v hfk
        exact absurd hk' (h2 e' he')
    simp [Instr.lookup, run_underlying ht, MapKept.run_getObj_map hb, K.check w _ hkey, h1, hz, Result.andThen, hn]
  · have hm0 : e0 ∈ es.toList := List.mem_of_getElem? h2
    have hv : f key = some e0.val := h3 ▸ (he e0 hm0).2
    simp [Instr.lookup, run_underlying ht, MapKept.run_getObj_map hb, K.check w _ hkey, h1, Result.andThen, hv]

theorem MapAt.store (h : MapAt w P k b f) (K : Keyed P k) (ht : P.underlying t = some (.map k e))
    {key val : Value} {kl : Lit} (hkey : keyOf P k key = some kl) :
    ∃ w', (Instr.mapUpdate t (.map (some b)) key val).run P w = .ok () w' ∧ MapAt w' P k b (putF f key val) ∧ w.grownBy w' (some b) := by
  obtain ⟨es, clock, hb, hs, he, hf⟩ := h
  rcases K.find w hkey es.toList (fun x hx => (he x hx).1) with ⟨h1, h2⟩ | ⟨j, e0, h1, h2, h3⟩
  · refine ⟨setBlock w b (.map (es.push ⟨key, val, clock⟩) (clock + 1)), ?_, ⟨_, _, heap_setBlock_same hb _, stamped_push hs h2, ?_, ?_⟩, ⟨rfl, rfl, rfl, by simp [setBlock], fun i _ hi => heap_setBlock_other hb _ (fun e => hi (by rw [e]))⟩⟩
    · simp [Instr.mapUpdate, run_underlying ht, MapKept.run_getObj_map hb, K.check w false hkey, h1, MapKept.run_setObj_map _ hb, Result.andThen, setBlock]
    · intro x hx
      simp only [Array.toList_push, List.mem_append, List.mem_singleton] at hx
      rcases hx with hx | rfl
      · exact ⟨(he x hx).1, (putF_other (h2 x hx)).trans (he x hx).2⟩
      · exact ⟨⟨kl, hkey⟩, putF_same _ _ _⟩
    · intro x v hx
      simp only [Array.toList_push, List.mem_append, List.mem_singleton]
      by_cases e1 : x = key
      · subst e1
        rw [putF_same] at hx
        exact ⟨_, .inr rfl, rfl, by simpa using hx⟩
      · rw [putF_other e1] at hx
        obtain ⟨e', he', r⟩ := hf x v hx
        exact ⟨e', .inl he', r⟩
  · have hj : es[j]? = some e0 := by simpa using h2
    have hjl : j < es.toList.length := (List.getElem?_eq_some_iff.1 h2).1
    have hkeyf : ∀ e', es[j]? = some e' → ({ e' with key := key, val := val } : MapEntry).key = e'.key := fun e' he' => by rw [hj] at he'; cases he'; exact h3.symm
    have hlist : (es.modify j (fun e' => { e' with key := key, val := val })).toList = es.toList.set j { e0 with key := key, val := val } := by rw [Array.toList_modify, Go.ChangeMaps.modify_eq_set _ _ _ _ h2]
    have hnd : es.toList.Pairwise (fun x y => x.key ≠ y.key) := ((stamped_iff es clock).1 hs).2.2
    have other : ∀ (i : Nat) (x : MapEntry), es.toList[i]? = some x → i ≠ j → x.key ≠ key := by
      intro i x hi hne e1
      rw [← h3] at e1
      have hil : i < es.toList.length := (List.getElem?_eq_some_iff.1 hi).1
      have gi : es.toList[i] = x := (List.getElem?_eq_some_iff.1 hi).2
      have gj : es.toList[j] = e0 := (List.getElem?_eq_some_iff.1 h2).2
      rcases Nat.lt_or_gt_of_ne hne with hlt | hgt
      · have := List.pairwise_iff_getElem.1 hnd i j hil hjl hlt
        rw [gi, gj] at this
        exact this e1
      · have := List.pairwise_iff_getElem.1 hnd j i hjl hil hgt
        rw [gi, gj] at this
        exact this e1.symm
    refine ⟨setBlock w b (.map (es.modify j (fun e' => { e' with key := key, val := val })) clock), ?_, ⟨_, _, heap_setBlock_same hb _, stamped_modify hs _ _ (fun _ _ => rfl) (fun e' _ he' => hkeyf e' he'), ?_, ?_⟩, ⟨rfl, rfl, rfl, by simp [setBlock], fun i _ hi => heap_setBlock_other hb _ (fun e => hi (by rw [e]))⟩⟩
    · simp [Instr.mapUpdate, run_underlying ht, MapKept.run_getObj_map hb, K.check w false hkey, h1, hj, h3, K.stays w hkey, MapKept.run_setObj_map _ hb, Result.andThen, setBlock]
    · intro x hx
      rw [hlist] at hx
      obtain ⟨i, hi, ex⟩ := List.getElem_of_mem hx
      rw [List.getElem_set] at ex
      split at ex
      · subst ex
        exact ⟨⟨kl, hkey⟩, putF_same _ _ _⟩
      · rename_i hne
        have hi' : i < es.toList.length := by simpa using hi
        have hmem : x ∈ es.toList := ex ▸ List.getElem_mem hi'
        exact ⟨(he x hmem).1, (putF_other (other i x (by rw [List.getElem?_eq_getElem hi', ex]) (fun e1 => hne e1.symm))).trans (he x hmem).2⟩
    · intro x v hx
      rw [hlist]
      by_cases e1 : x = key
      · subst e1
        rw [putF_same] at hx
        exact ⟨{ e0 with key := x, val := val }, List.mem_iff_getElem.2 ⟨j, by simpa using hjl, by simp⟩, rfl, by simpa using hx⟩
      · rw [putF_other e1] at hx
        obtain ⟨e', he', hk', hv'⟩ := hf x v hx
        refine ⟨e', ?_, hk', hv'⟩
        obtain ⟨i, hi, ei⟩ := List.getElem_of_mem he'
        have hne : j ≠ i := by
          rintro rfl
          have gj : es.toList[j] = e0 := (List.getElem?_eq_some_iff.1 h2).2
          rw [gj] at ei
          subst ei
          exact e1 (hk'.symm.trans h3)
        exact List.mem_iff_getElem.2 ⟨i, by simpa using hi, by rw [List.getElem_set, if_neg hne, ei]⟩

theorem MapAt.drop (h : MapAt w P k b f) (K : Keyed P k) (ht : P.underlying t = some (.map k e))
    {key : Value} {kl : Lit} (hkey : keyOf P k key = some kl) (ty : TypeId) :
    ∃ w', (Builtin.delete_ #[t, k] ty #[.map (some b), key]).run P w = .ok (.tuple #[]) w' ∧ MapAt w' P k b (delF f key) ∧ w.grownBy w' (some b) := by
  obtain ⟨es, clock, hb, hs, he, hf⟩ := h
  have hgr : ∀ o, w.grownBy (setBlock w b o) (some b) := fun o => ⟨rfl, rfl, rfl, by simp [setBlock], fun i _ hi => heap_setBlock_other hb _ (fun e => hi (by rw [e]))⟩
  rcases K.find w hkey es.toList (fun x hx => (he x hx).1) with ⟨h1, h2⟩ | ⟨j, e0, h1, h2, h3⟩
  · refine ⟨setBlock w b (.map es clock), ?_, ⟨_, _, heap_setBlock_same hb _, hs, ?_, ?_⟩, hgr _⟩
    · simp [Builtin.delete_, run_underlying ht, MapKept.run_getObj_map hb, K.check w _ hkey, h1, MapKept.run_setObj_map _ hb, Result.andThen, setBlock]
    · exact fun x hx => ⟨(he x hx).1, (delF_other (h2 x hx)).trans (he x hx).2⟩
    · intro x v hx
      by_cases e1 : x = key
      · subst e1; rw [delF_same] at hx; cases hx
      · rw [delF_other e1] at hx; exact hf x v hx
  · have hjl : j < es.toList.length := (List.getElem?_eq_some_iff.1 h2).1
    have hjs : j < es.size := by simpa using hjl
    have gj : es.toList[j] = e0 := (List.getElem?_eq_some_iff.1 h2).2
    have hsub : (es.eraseIdxIfInBounds j).toList = es.toList.eraseIdx j := by
      unfold Array.eraseIdxIfInBounds
      rw [dif_pos hjs]
      simp
    have hnd : es.toList.Pairwise (fun x y => x.key ≠ y.key) := ((stamped_iff es clock).1 hs).2.2
    have other : ∀ (i : Nat) (x : MapEntry), es.toList[i]? = some x → i ≠ j → x.key ≠ key := by
      intro i x hi hne e1
      rw [← h3] at e1
      have hil : i < es.toList.length := (List.getElem?_eq_some_iff.1 hi).1
      have gi : es.toList[i] = x := (List.getElem?_eq_some_iff.1 hi).2
      rcases Nat.lt_or_gt_of_ne hne with hlt | hgt
      · have := List.pairwise_iff_getElem.1 hnd i j hil hjl hlt
        rw [gi, gj] at this
        exact this e1
      · have := List.pairwise_iff_getElem.1 hnd j i hjl hil hgt
        rw [gi, gj] at this
        exact this e1.symm
    refine ⟨setBlock w b (.map (es.eraseIdxIfInBounds j) clock), ?_, ⟨_, _, heap_setBlock_same hb _, stamped_erase hs j, ?_, ?_⟩, hgr _⟩
    · simp [Builtin.delete_, run_underlying ht, MapKept.run_getObj_map hb, K.check w _ hkey, h1, MapKept.run_setObj_map _ hb, Result.andThen, setBlock]
    · intro x hx
      rw [hsub] at hx
      obtain ⟨i, hne, hi⟩ := List.mem_eraseIdx_iff_getElem?.1 hx
      have hmem := List.mem_of_getElem? hi
      exact ⟨(he x hmem).1, (delF_other (other i x hi hne)).trans (he x hmem).2⟩
    · intro x v hx
      by_cases e1 : x = key
      · subst e1; rw [delF_same] at hx; cases hx
      · rw [delF_other e1] at hx
        obtain ⟨e', he', hk', hv'⟩ := hf x v hx
        refine ⟨e', ?_, hk', hv'⟩
        rw [hsub]
        obtain ⟨i, hi, ei⟩ := List.getElem_of_mem he'
        refine List.mem_eraseIdx_iff_getElem?.2 ⟨i, ?_, by rw [List.getElem?_eq_getElem hi, ei]⟩
        rintro rfl
        rw [gj] at ei
        subst ei
        exact e1 (hk'.symm.trans h3)
end

/-- 'm[k]', 'v, ok := m[k]' at the operation. -/
theorem wpList_look {P : Program} (w : World) {ops : Array Oper} {rest : List Oper} {o : Oper} {a : Act} {Q : Exit → Act → World → Prop}
    (hg : o.guard = none) (m x : Operand) (t : TypeId) (c : Bool) (hop : o.op = Op.lookup t m x c)
    (k e : TypeId) (K : Keyed P k) (ht : P.underlying t = some (.map k e)) (z : Value) (hz : (zeroValue e).run P w = .ok z w) (b : Nat) (f : Value → Option Value)
    (hm : a.eval m = .map (some b)) (hown : MapAt w P k b f) (key : Value) (kl : Lit) (hx : a.eval x = key) (hkey : keyOf P k key = some kl)
    (hK : wpList P ops Q rest (a.put o.dst (if c then .tuple #[(f key).getD z, .bool (f key).isSome] else (f key).getD z)) w) :
    wpList P ops Q (o :: rest) a w := by
  refine wpList_plain hg fun K' hK' => ?_
  have hrun := hown.look K ht hz hkey c
  unfold Oper.wp execOp
  simp only [hop, Sem.run_bind, hm, hx, hrun, Result.andThen_ok, Sem.run_pure]
  exact hK' _ _ hK

/-- 'm[k]' at the operation, the value named. -/
theorem wpList_look1 {P : Program} (w : World) {ops : Array Oper} {rest : List Oper} {o : Oper} {a : Act} {Q : Exit → Act → World → Prop}
    (hg : o.guard = none) (m x : Operand) (t : TypeId) (hop : o.op = Op.lookup t m x false)
    (k e : TypeId) (K : Keyed P k) (ht : P.underlying t = some (.map k e)) (z : Value) (hz : (zeroValue e).run P w = .ok z w) (b : Nat) (f : Value → Option Value)
    (hm : a.eval m = .map (some b)) (hown : MapAt w P k b f) (key : Value) (kl : Lit) (hx : a.eval x = key) (hkey : keyOf P k key = some kl)
    (v : Value) (hv : (f key).getD z = v) (hK : wpList P ops Q rest (a.put o.dst v) w) : wpList P ops Q (o :: rest) a w :=
  wpList_look w hg m x t false hop k e K ht z hz b f hm hown key kl hx hkey (by rw [if_neg (by decide), hv]; exact hK)

/-- 'v, ok := m[k]' at the operation, the value and the answer named. -/
theorem wpList_look2 {P : Program} (w : World) {ops : Array Oper} {rest : List Oper} {o : Oper} {a : Act} {Q : Exit → Act → World → Prop}
    (hg : o.guard = none) (m x : Operand) (t : TypeId) (hop : o.op = Op.lookup t m x true)
    (k e : TypeId) (K : Keyed P k) (ht : P.underlying t = some (.map k e)) (z : Value) (hz : (zeroValue e).run P w = .ok z w) (b : Nat) (f : Value → Option Value)
    (hm : a.eval m = .map (some b)) (hown : MapAt w P k b f) (key : Value) (kl : Lit) (hx : a.eval x = key) (hkey : keyOf P k key = some kl)
    (v : Value) (ok : Bool) (hv : (f key).getD z = v) (hok : (f key).isSome = ok) (hK : wpList P ops Q rest (a.put o.dst (.tuple #[v, .bool ok])) w) : wpList P ops Q (o :: rest) a w :=
  wpList_look w hg m x t true hop k e K ht z hz b f hm hown key kl hx hkey (by rw [if_pos rfl, hv, hok]; exact hK)

/-- 'm[k] = v' at the operation. -/
theorem wpList_store {P : Program} (w : World) {ops : Array Oper} {rest : List Oper} {o : Oper} {a : Act} {Q : Exit → Act → World → Prop}
    (hg : o.guard = none) (m x v : Operand) (t : TypeId) (hop : o.op = Op.mapUpdate t m x v)
    (k e : TypeId) (K : Keyed P k) (ht : P.underlying t = some (.map k e)) (b : Nat) (f : Value → Option Value)
    (hm : a.eval m = .map (some b)) (hown : MapAt w P k b f) (key val : Value) (kl : Lit) (hx : a.eval x = key) (hv : a.eval v = val) (hkey : keyOf P k key = some kl)
    (hK : ∀ w', MapAt w' P k b (putF f key val) → w.grownBy w' (some b) → wpList P ops Q rest (a.put o.dst undef) w') :
    wpList P ops Q (o :: rest) a w := by
  refine wpList_plain hg fun K' hK' => ?_
  obtain ⟨w', hrun, r1, r2⟩ := hown.store (t := t) (val := val) K ht hkey
  unfold Oper.wp execOp
  simp only [hop, Sem.run_bind, hm, hx, hv, hrun, Result.andThen_ok, Sem.run_pure]
  exact hK' _ _ (hK w' r1 r2)

/-- one entry of a map's literal. -/
theorem wpList_insert {P : Program} (w : World) {ops : Array Oper} {rest : List Oper} {o : Oper} {a : Act} {Q : Exit → Act → World → Prop}
    (hg : o.guard = none) (m x v : Operand) (t : TypeId) (hop : o.op = Op.insert t m x v)
    (k e : TypeId) (K : Keyed P k) (ht : P.underlying t = some (.map k e)) (b : Nat) (f : Value → Option Value)
    (hm : a.eval m = .map (some b)) (hown : MapAt w P k b f) (key val : Value) (kl : Lit) (hx : a.eval x = key) (hv : a.eval v = val) (hkey : keyOf P k key = some kl)
    (hK : ∀ w', MapAt w' P k b (putF f key val) → w.grownBy w' (some b) → wpList P ops Q rest (a.put o.dst undef) w') :
    wpList P ops Q (o :: rest) a w := by
  refine wpList_plain hg fun K' hK' => ?_
  obtain ⟨w', hrun, r1, r2⟩ := hown.store (t := t) (val := val) K ht hkey
  unfold Oper.wp execOp
  simp only [hop, Sem.run_bind, hm, hx, hv, hrun, Result.andThen_ok, Sem.run_pure]
  exact hK' _ _ (hK w' r1 r2)
end Go.Cx
