/- append(b, s...): b the call's own bytes, s a string; where the row lies then. -/
import Derived.Test.YtlhbikdelbollaaStrs
namespace Go.Proofs.Ytlhbikdelbollaa
open Go.RowKit Go.Cx
section
variable {P : Program} (w : World)

theorem run_app_s (base : Nat) (t u ty e : TypeId) (i : TypeInfo) (ht : P.underlying t = some (.slice e)) (hu : P.underlying u = some .string) (hi : P.info? e = some i) (hz : i.zero = some (.int .u8 0))
    (hsize : i.size = 1) (hby : i.bytes = 1)
    (v : Value) (n : Nat) (l : List Nat) (hown : w.ownsRow base e 1 v n (byts l)) (s : ByteArray)
    (hbytes : n + s.size ≤ 140737488355328) (hbase : base ≤ w.heap.size) :
    ∃ A' c' w', (Builtin.append_ #[t, u] ty #[v, .string s]).run P w = .ok (.slice A' (n + s.size) c') w' ∧ w'.ownsRow base e 1 (.slice A' (n + s.size) c') (n + s.size) (byts (l ++ bytesOf s)) ∧ w.grownBy w' v.ownBlock ∧
      (∀ b, (Value.slice A' (n + s.size) c').ownBlock = some b → v.ownBlock = some b ∨ w.heap.size ≤ b) := by
  have h63 : n + s.size ≤ maxLen := by unfold maxLen; omega
  obtain ⟨v', w', hr, h2, h3, _⟩ := Lib.run_append_own_string (P := P) w base t u ty e i ht hu hi hz hsize hby v n (byts l) hown s h63 hbytes hbase
  obtain ⟨A', c', rfl⟩ := own_form h2
  have hb2 : byts (l ++ bytesOf s) = byts l ++ Lib.strCells s := by rw [← byts_of]; simp [byts]
  rw [hb2]
  refine ⟨A', c', w', hr, h2, h3, ?_⟩
  rcases hown.2 with ⟨rfl, hl0⟩ | ⟨g, cap, cur, rfl, hg, hh, hnc, hc, hsz, hx⟩
  · subst hl0
    obtain ⟨v2, w2, hr2, h22, _, _⟩ := Lib.run_append_own_string (P := P) w w.heap.size t u ty e i ht hu hi hz hsize hby (.slice none 0 0) 0 [] ⟨rfl, .inl ⟨rfl, rfl⟩⟩ s (by simpa using h63) (by simpa using hbytes) (Nat.le_refl _)
    rw [hr] at hr2
    injection hr2 with e1 e2
    subst e1 e2
    intro b hb
    right
    rcases h22.2 with ⟨hv, _⟩ | ⟨g, cap, cur, hv, hg, _⟩
    · rw [hv] at hb
      cases hb
    · rw [hv] at hb
      simp only [Value.ownBlock, Option.some.injEq] at hb
      omega
  · intro b hb
    by_cases hroom : n + s.size ≤ cap
    · have hfit : n + s.size ≤ cur.size := by omega
      have := Lib.run_append_room_string (P := P) w t u ty e i ht hu hi hsize g n cap cur hh s hroom hfit
      rw [hr] at this
      injection this with e1 e2
      left
      rw [e1] at hb
      simpa [Value.ownBlock] using hb
    · have hxs : ∀ j u, (byts l)[j]? = some u → w.cell? ((⟨g, 0, none⟩ : Addr).add j) = some u := (Rd.own hown).2 |> fun f => by
        intro j u hu
        rcases Nat.eq_zero_or_pos n with h0 | h0
        · have hx0 : byts l = [] := List.eq_nil_of_length_eq_zero (by have := hown.1; omega)
          rw [hx0] at hu
          simp at hu
        · obtain ⟨ad, h, _, hc⟩ := f h0
          injection h with h
          subst h
          exact hc j u hu
      have hfit : Builtin.nextslicecap (n + s.size) cap * i.bytes ≤ 281474976710656 := growslice_fits (by omega) (by rw [hby]; omega)
      have hml : (n + s.size) ≤ 9223372036854775807 := by omega
      have := Lib.run_append_grow_string (P := P) w t u ty e i (.int .u8 0) ht hu hi hz ⟨g, 0, none⟩ n cap (byts l) (by rw [hsize]; exact hown.1) hxs s (by omega) (by omega) hfit
      rw [hr] at this
      injection this with e1 e2
      right
      rw [e1] at hb
      simp only [Value.ownBlock, Option.some.injEq] at hb
      omega

theorem wp_app_s {o : Oper} {a : Act} {K : Act → World → Prop} {Q : Exit → Act → World → Prop} (sl x : Operand) (t u : TypeId)
    (ho : o.op = .call { callee := .builtin .append, args := #[sl, x], argTypes := #[t, u] })
    (base : Nat) (e : TypeId) (i : TypeInfo) (ht : P.underlying t = some (.slice e)) (hu : P.underlying u = some .string) (hi : P.info? e = some i) (hz : i.zero = some (.int .u8 0))
    (hsize : i.size = 1) (hby : i.bytes = 1)
    (v : Value) (n : Nat) (l : List Nat) (hs : a.eval sl = v) (hown : w.ownsRow base e 1 v n (byts l)) (s : ByteArray) (hx : a.eval x = .string s)
    (hbytes : n + s.size ≤ 140737488355328) (hbase : base ≤ w.heap.size)
    (h : ∀ A' c' w', w'.ownsRow base e 1 (.slice A' (n + s.size) c') (n + s.size) (byts (l ++ bytesOf s)) → w.grownBy w' v.ownBlock → (∀ b, (Value.slice A' (n + s.size) c').ownBlock = some b → v.ownBlock = some b ∨ w.heap.size ≤ b) → K (a.put o.dst (.slice A' (n + s.size) c')) w') : o.wp P a w K Q := by
  obtain ⟨A', c', w', hr, h2, h3, h4⟩ := run_app_s (P := P) w base t u o.type e i ht hu hi hz hsize hby v n l hown s hbytes hbase
  unfold Oper.wp execOp
  simp only [ho, resolve, invoke, builtin, Sem.run_bind, Sem.run_pure, Result.andThen_ok, List.map_toArray, List.map_cons, List.map_nil, hs, hx, hr]
  exact h A' c' w' h2 h3 h4

theorem wpList_app_s {ops : Array Oper} {rest : List Oper} {o : Oper} {a : Act} {Q : Exit → Act → World → Prop} (hgd : o.guard = none) (sl x : Operand) (t u : TypeId)
    (ho : o.op = .call { callee := .builtin .append, args := #[sl, x], argTypes := #[t, u] })
    (base : Nat) (e : TypeId) (i : TypeInfo) (ht : P.underlying t = some (.slice e)) (hu : P.underlying u = some .string) (hi : P.info? e = some i) (hz : i.zero = some (.int .u8 0))
    (hsize : i.size = 1) (hby : i.bytes = 1)
    (v : Value) (n : Nat) (l : List Nat) (hs : a.eval sl = v) (hown : w.ownsRow base e 1 v n (byts l)) (s : ByteArray) (hx : a.eval x = .string s)
    (hbytes : n + s.size ≤ 140737488355328) (hbase : base ≤ w.heap.size)
    (h : ∀ A' c' w', w'.ownsRow base e 1 (.slice A' (n + s.size) c') (n + s.size) (byts (l ++ bytesOf s)) → w.grownBy w' v.ownBlock → (∀ b, (Value.slice A' (n + s.size) c').ownBlock = some b → v.ownBlock = some b ∨ w.heap.size ≤ b) → wpList P ops Q rest (a.put o.dst (.slice A' (n + s.size) c')) w') : wpList P ops Q (o :: rest) a w :=
  wpList_plain hgd fun _ hK => wp_app_s w sl x t u ho base e i ht hu hi hz hsize hby v n l hs hown s hx hbytes hbase fun A' c' w' h2 h3 h4 => hK _ _ (h A' c' w' h2 h3 h4)

theorem step_app_s {ops : Array Oper} {o : Oper} {a : Act} {K : Act → World → Prop} {Q : Exit → Act → World → Prop} {E : Prop} (hgd : o.guard = none) (sl x : Operand) (t u : TypeId)
    (ho : o.op = .call { callee := .builtin .append, args := #[sl, x], argTypes := #[t, u] })
    (base : Nat) (e : TypeId) (i : TypeInfo) (ht : P.underlying t = some (.slice e)) (hu : P.underlying u = some .string) (hi : P.info? e = some i) (hz : i.zero = some (.int .u8 0))
    (hsize : i.size = 1) (hby : i.bytes = 1)
    (v : Value) (n : Nat) (l : List Nat) (hs : a.eval sl = v) (hown : w.ownsRow base e 1 v n (byts l)) (s : ByteArray) (hx : a.eval x = .string s)
    (hbytes : n + s.size ≤ 140737488355328) (hbase : base ≤ w.heap.size)
    (h : ∀ A' c' w', w'.ownsRow base e 1 (.slice A' (n + s.size) c') (n + s.size) (byts (l ++ bytesOf s)) → w.grownBy w' v.ownBlock → (∀ b, (Value.slice A' (n + s.size) c').ownBlock = some b → v.ownBlock = some b ∨ w.heap.size ≤ b) → K (a.put o.dst (.slice A' (n + s.size) c')) w') :
    if Region.wanted o (yielded ops a.tmps) = true then Oper.wp P o a w K Q else E := by
  have hw : Region.wanted o (yielded ops a.tmps) = true := by simp [Region.wanted, hgd]
  rw [if_pos hw]
  exact wp_app_s w sl x t u ho base e i ht hu hi hz hsize hby v n l hs hown s hx hbytes hbase h
end
end Go.Proofs.Ytlhbikdelbollaa
