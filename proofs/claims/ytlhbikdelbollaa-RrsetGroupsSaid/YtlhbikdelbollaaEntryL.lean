/- Entries: their bytes, in plain lists. -/
import Derived.Test.YtlhbikdelbollaaRdataL
namespace Go.Proofs.Ytlhbikdelbollaa
/-- the last j bytes of a number, the greatest first -/
def beN : Nat → Nat → List Nat
  | 0, _ => []
  | j + 1, n => (n / 256 ^ j % 256) :: beN j n
theorem beN_len (j n : Nat) : (beN j n).length = j := by
  induction j with
  | zero => rfl
  | succ j ih => rw [beN, List.length_cons, ih]
theorem beN_lt (j n : Nat) : ∀ b ∈ beN j n, b < 256 := by
  induction j with
  | zero => intro b hb; cases hb
  | succ j ih =>
    intro b hb
    rw [beN, List.mem_cons] at hb
    rcases hb with rfl | hb
    · omega
    · exact ih b hb
def numL (width : Nat) (ns : List Nat) : List Nat := (ns.map (beN width)).flatten
theorem numL_len (width : Nat) (ns : List Nat) : (numL width ns).length = width * ns.length := by
  induction ns with
  | nil => rfl
  | cons n ns ih => rw [numL, List.map_cons, List.flatten_cons, List.length_append, beN_len, ← numL, ih, List.length_cons, Nat.mul_succ, Nat.add_comm]
theorem numL_cons (width n : Nat) (ns : List Nat) : numL width (n :: ns) = beN width n ++ numL width ns := rfl
/-- what a set says -/
structure SetC where
  name : List Nat
  type : Int
  cls : Int
  rank : Int
  kind : Int
  exp : Int
  zone : List Nat
  datas : List (List Nat)
  deriving DecidableEq
def datasL (l : List (List Nat)) : List Nat := (l.map fun d => beN 2 d.length ++ d).flatten
/-- the bytes of the entry that puts a set -/
def writeL (s : SetC) : List Nat :=
  numL 1 [0, s.name.length] ++ s.name ++ numL 2 [s.type.toNat, s.cls.toNat] ++ numL 1 [s.rank.toNat, s.kind.toNat] ++ numL 8 [s.exp.toNat] ++ numL 1 [s.zone.length] ++ s.zone ++ numL 2 [s.datas.length] ++ datasL s.datas
def keyL (n : List Nat) (t c : Int) : Bool := canL n && decide (0 ≤ t) && decide (t < 65536) && decide (0 ≤ c) && decide (c < 65536)
def sumL (l : List (List Nat)) : Nat := (l.map fun d => 2 + d.length).sum
def canSet (s : SetC) : Bool :=
  keyL s.name s.type s.cls && decide (1 ≤ s.rank) && decide (s.rank ≤ 3) && decide (0 ≤ s.exp) && decide (s.exp ≤ 1099511627776) && decide (s.datas ≠ []) && decide (sumL s.datas ≤ 4000) &&
  s.datas.all (fun d => rdataL (if s.kind = 0 then s.type else 6) d) &&
  (if s.kind = 0 then decide (0 < s.type) && decide (s.zone = []) && decide ((writeL s).length ≤ 4000)
   else if s.kind = 1 ∨ s.kind = 2 then canL s.zone && decide (s.datas.length = 1) && (decide (s.type = 0) == decide (s.kind = 2)) && decide ((writeL s).length ≤ 4000)
   else false)
theorem datasL_len (l : List (List Nat)) : (datasL l).length = sumL l := by
  induction l with
  | nil => rfl
  | cons d l ih =>
    rw [datasL, List.map_cons, List.flatten_cons, List.length_append, List.length_append, beN_len, ← datasL, ih]
    simp [sumL]
theorem sumL_take (l : List (List Nat)) (k : Nat) : sumL (l.take k) ≤ sumL l := by
  induction l generalizing k with
  | nil => simp
  | cons d l ih =>
    cases k with
    | zero => simp [sumL]
    | succ k =>
      have := ih k
      simp only [sumL, List.take_succ_cons, List.map_cons, List.sum_cons] at this ⊢
      omega
theorem datasL_snoc (l : List (List Nat)) (k : Nat) (d : List Nat) (h : l[k]? = some d) : datasL (l.take (k + 1)) = datasL (l.take k) ++ (beN 2 d.length ++ d) := by
  rw [List.take_add_one, h]
  simp [datasL]
theorem sumL_snoc (l : List (List Nat)) (k : Nat) (d : List Nat) (h : l[k]? = some d) : sumL (l.take (k + 1)) = sumL (l.take k) + (2 + d.length) := by
  rw [List.take_add_one, h]
  simp [sumL]
end Go.Proofs.Ytlhbikdelbollaa
