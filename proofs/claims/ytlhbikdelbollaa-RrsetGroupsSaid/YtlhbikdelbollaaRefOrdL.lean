/- ciceroneref09.Order: what it computes, plain; strings in order. -/
import Derived.Test.YtlhbikdelbollaaOrder
import Derived.Test.YtlhbikdelbollaaGroupL
import Derived.Test.YtlhbikdelbollaaGroup
import Derived.Test.YtlhbikdelbollaaRevR
namespace Go.Proofs.Ytlhbikdelbollaa
open Go.RowKit Go.Cx Go.Maps

/-- the inner loop's step, plain -/
def refStep (d : List Nat) (s : List (List Nat) × Bool) (x : List Nat) : List (List Nat) × Bool :=
  let s1 := if s.2 = false ∧ 0 ≤ cmpN x d then (s.1 ++ [d], true) else s
  if x ≠ d then (s1.1 ++ [x], s1.2) else s1
def refEnd (d : List Nat) (s : List (List Nat) × Bool) : List (List Nat) := if s.2 = false then s.1 ++ [d] else s.1
theorem refStep_put (d : List Nat) : ∀ (o a : List (List Nat)), (∀ x ∈ o, x ≠ d) → o.foldl (refStep d) (a, true) = (a ++ o, true)
  | [], a, _ => by simp
  | x :: o, a, h => by
    have e : refStep d (a, true) x = (a ++ [x], true) := by
      unfold refStep
      simp [h x (by simp)]
    rw [List.foldl_cons, e, refStep_put d o (a ++ [x]) fun y hy => h y (by simp [hy])]
    simp
theorem refIns_eq (d : List Nat) : ∀ (o a : List (List Nat)), o.Pairwise (fun x y => cmpN x y < 0) → refEnd d (o.foldl (refStep d) (a, false)) = a ++ insL d o
  | [], a, _ => by simp [refEnd, insL]
  | x :: o, a, h => by
    obtain ⟨h1, h2⟩ := List.pairwise_cons.1 h
    have hsw := cmpN_swap d x
    rw [List.foldl_cons, insL]
    by_cases c1 : cmpN d x < 0
    · have hne : ∀ y ∈ x :: o, y ≠ d := by
        intro y hy e
        subst e
        rcases List.mem_cons.1 hy with e | hy
        · subst e; rw [cmpN_self] at c1; omega
        · have := cmpN_trans c1 (h1 y hy)
          rw [cmpN_self] at this
          omega
      have e : refStep d (a, false) x = (a ++ [d, x], true) := by
        have h0 : 0 ≤ cmpN x d := by omega
        have h3 := hne x (by simp)
        unfold refStep
        simp [h0, h3]
      rw [if_pos c1, e, refStep_put d o _ fun y hy => hne y (by simp [hy])]
      simp [refEnd]
    · rw [if_neg c1]
      by_cases c2 : cmpN d x = 0
      · have hx := cmpN_eq c2
        subst hx
        have hne : ∀ y ∈ o, y ≠ d := by
          intro y hy e
          subst e
          have := h1 y hy
          rw [cmpN_self] at this
          omega
        have e : refStep d (a, false) d = (a ++ [d], true) := by
          have h0 : 0 ≤ cmpN d d := by omega
          unfold refStep
          simp [h0]
        rw [if_pos c2, e, refStep_put d o _ hne]
        simp [refEnd]
      · have hlt : ¬ 0 ≤ cmpN x d := by
          rcases cmpN_range d x with h | h | h <;> omega
        have hne : x ≠ d := by
          rintro rfl
          exact c2 (cmpN_self _)
        have e : refStep d (a, false) x = (a ++ [x], false) := by
          unfold refStep
          simp [hlt, hne]
        rw [if_neg c2, e, refIns_eq d o (a ++ [x]) h2]
        simp
theorem orderL_take {l : List (List Nat)} {k : Nat} {d : List Nat} (h : l[k]? = some d) : orderL (l.take (k + 1)) = insL d (orderL (l.take k)) := by
  unfold orderL
  rw [List.take_add_one, h]
  simp
theorem less_cmp : ∀ (l l' : List Nat), (∀ b ∈ l, b < 256) → (∀ b ∈ l', b < 256) → Op.bytesLess (l.map Nat.toUInt8) (l'.map Nat.toUInt8) = decide (cmpN l l' < 0)
  | [], [], _, _ => by simp [Op.bytesLess, cmpN]
  | [], _ :: _, _, _ => by simp [Op.bytesLess, cmpN]
  | _ :: _, [], _, _ => by simp [Op.bytesLess, cmpN]
  | a :: x, b :: y, h, h' => by
    have ih := less_cmp x y (fun b hb => h b (by simp [hb])) (fun b hb => h' b (by simp [hb]))
    have ha : a < 256 := h a (by simp)
    have hb : b < 256 := h' b (by simp)
    rw [List.map_cons, List.map_cons, Op.bytesLess, cmpN, ih]
    have e1 : (a.toUInt8 < b.toUInt8) ↔ a < b := by
      rw [UInt8.lt_iff_toNat_lt]
      simp only [Nat.toUInt8, UInt8.toNat_ofNat']
      omega
    have e2 : (a.toUInt8 == b.toUInt8) = decide (a = b) := by
      by_cases e : a = b
      · subst e; simp
      · rw [decide_eq_false e]
        refine beq_eq_false_iff_ne.2 fun e3 => e ?_
        have := congrArg UInt8.toNat e3
        simp only [Nat.toUInt8, UInt8.toNat_ofNat'] at this
        omega
    rw [e2]
    simp only [e1]
    by_cases c1 : a < b
    · simp [c1]
    · by_cases c2 : b < a
      · rw [if_neg c1, if_pos c2, decide_eq_false c1, decide_eq_false (show ¬ a = b by omega)]
        simp
      · have : a = b := by omega
        subst this
        simp
theorem strN_list (l : List Nat) : (strN l).toList = l.map Nat.toUInt8 := by
  rw [toList_data, strN, strOfNums_data, List.map_map]
  rfl
theorem run_geq (l l' : List Nat) (hb : ∀ b ∈ l, b < 256) (hb' : ∀ b ∈ l', b < 256) (t : TypeId) (W : World) : (binOp .geq t (.string (strN l)) (.string (strN l'))).run Try.prog W = .ok (.bool (decide (0 ≤ cmpN l l'))) W := by
  have h : binOp .geq t (.string (strN l)) (.string (strN l')) = pure (.bool !(Op.bytesLess (strN l).toList (strN l').toList)) := by simp [binOp, Op.stringOp]
  rw [h, strN_list, strN_list, less_cmp l l' hb hb']
  have e : (!decide (cmpN l l' < 0)) = decide (0 ≤ cmpN l l') := by
    by_cases c : cmpN l l' < 0
    · rw [decide_eq_true c, decide_eq_false (by omega)]; rfl
    · rw [decide_eq_false c, decide_eq_true (by omega)]; rfl
  rw [e]
  rfl
theorem strN_beq (l l' : List Nat) (hb : ∀ b ∈ l, b < 256) (hb' : ∀ b ∈ l', b < 256) : ((strN l).toList == (strN l').toList) = decide (l = l') := by
  by_cases h : l = l'
  · subst h
    rw [decide_eq_true rfl]
    exact beq_self_eq_true _
  · rw [decide_eq_false h]
    exact beq_eq_false_iff_ne.2 fun e => h (strN_inj hb hb' (by
      rw [ByteArray.toList_eq, ByteArray.toList_eq] at e
      exact congrArg ByteArray.mk (Array.toList_inj.1 e)))
/-- what the inner loop has laid so far -/
structure NxAt (w wo : World) (A : Option Addr) (p c : Nat) (nx : List Row) (wi : World) : Prop where
  own : wi.ownsRow wo.heap.size 33 1 (.slice A p c) p (nx.map Row.val)
  rows : ∀ x ∈ nx, OwnRow wi w.heap.size x
  upd : Upd Nix wo wi
theorem NxAt.go {w wo wi w1 : World} {A : Option Addr} {p c : Nat} {nx : List Row} (h : NxAt w wo A p c nx wi) (k : Upd Nix wi w1) : NxAt w wo A p c nx w1 :=
  ⟨own_upd' h.own k fun _ _ h => h, fun x hx => (h.rows x hx).upd k fun _ _ h => h, h.upd.trans k fun _ _ h => h⟩
theorem NxAt.push {w wo w1 w3 : World} {A A' : Option Addr} {p c c' : Nat} {nx : List Row} {x : Row} {o : Obj} (h : NxAt w wo A p c nx w1) (hx : OwnRow w1 w.heap.size x)
    (hown : w3.ownsRow wo.heap.size 33 1 (.slice A' (p + 1) c') (p + 1) (nx.map Row.val ++ [.slice x.A x.n x.c])) (hg : (w1.alloc o).grownBy w3 (Value.slice A p c).ownBlock) : NxAt w wo A' (p + 1) c' (nx ++ [x]) w3 := by
  have u1 : Upd Nix w1 (w1.alloc o) := (Upd.refl _ _).alloc o
  have u2 := upd_grown (v := .slice A p c) hg
  have hout := own_upd' h.own u1 fun _ _ h => h
  have keep : ∀ y : Row, OwnRow w1 w.heap.size y → OwnRow w3 w.heap.size y := fun y hy => by
    have h1 := hy.upd u1 fun _ _ h => h
    exact h1.upd u2 fun b hb hS => own_ne_own h1.own hout (by decide) b hb hS
  refine ⟨by rw [List.map_append]; exact hown, fun y hy => ?_, ?_⟩
  · rcases List.mem_append.1 hy with hy | hy
    · exact keep y (h.rows y hy)
    · simp only [List.mem_singleton] at hy
      subst hy
      exact keep _ hx
  · refine (h.upd.alloc _).grown hg fun b hb hlt => ?_
    have := own_ge h.own b hb
    omega
end Go.Proofs.Ytlhbikdelbollaa
