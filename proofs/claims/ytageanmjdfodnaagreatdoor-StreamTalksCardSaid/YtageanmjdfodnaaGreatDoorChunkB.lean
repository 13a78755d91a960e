/- The reader of chunks: what one byte does. -/
import Derived.Deep.DeepCutAuto
import Derived.Test.YtageanmjdfodnaaGreatDoorChunkV
import Derived.Test.YtageanmjdfodnaaGreatDoorMap
import Derived.Test.YtageanmjdfodnaaGreatDoorBytes
namespace Go.Proofs.YtageanmjdfodnaaGreatDoor
open Go.RowKit Go.Cx Go.Maps

/-- where a body is, and what came -/
structure CS where
  most : Nat
  digits : Nat
  st : Nat
  left : Nat
  body : List Nat
  e : Nat

/-- what a byte does: the error's number, and what is then -/
def cbyte (s : CS) (c : Nat) : Nat × CS :=
  match s.st with
  | 0 => if 0 ≤ hexv c ∧ s.digits < 6 then (0, { s with left := s.left * 16 + (hexv c).toNat, digits := s.digits + 1 })
    else if c ≠ 13 ∨ s.digits = 0 then (120, s)
    else if s.left + s.body.length > s.most then (4, s) else (0, { s with st := 1 })
  | 1 => if c = 10 then (0, { s with st := if s.left = 0 then 5 else 2 }) else (120, s)
  | 2 => (0, { s with body := s.body ++ [c], left := s.left - 1, st := if s.left - 1 = 0 then 3 else 2 })
  | 3 => if c = 13 then (0, { s with st := 4 }) else (120, s)
  | 4 => if c = 10 then (0, { s with st := 0, digits := 0 }) else (120, s)
  | 5 => if c = 13 then (0, { s with st := 6 }) else (120, s)
  | 6 => if c = 10 then (0, { s with st := 7 }) else (120, s)
  | _ => (0, s)

structure CInv (s : CS) : Prop where
  digits : s.digits ≤ 6
  left0 : s.st = 0 → s.left < 16 ^ s.digits
  left : s.left < 16777216
  most : s.most ≤ 65535
  body : s.body.length ≤ s.most
  fits : s.st = 1 ∨ s.st = 2 → s.left + s.body.length ≤ s.most
  left2 : s.st = 2 → 1 ≤ s.left
  left3 : s.st = 3 ∨ s.st = 4 → s.left = 0
  st : s.st ≤ 7
  bytes : ∀ b ∈ s.body, b < 256

theorem pow16_le {d : Nat} (h : d ≤ 6) : 16 ^ d ≤ 16777216 := Nat.pow_le_pow_right (by omega) h

theorem cbyte_inv {s : CS} (h : CInv s) {c : Nat} (hc : c < 256) : CInv (cbyte s c).2 := by
  have hb := hexv_bound c
  obtain ⟨most, digits, st, left, body, e⟩ := s
  obtain ⟨h1, h2, h3, h4, h5, h6, h7, h8, h9, h10⟩ := h
  simp only at *
  unfold cbyte
  split
  · rename_i hst
    simp only at hst
    subst hst
    have h2' := h2 rfl
    simp only
    split
    · rename_i hh
      have hp : left * 16 + (hexv c).toNat < 16 ^ (digits + 1) := by rw [Nat.pow_succ]; omega
      have := pow16_le (d := digits + 1) (by omega)
      exact ⟨by simp only; omega, fun _ => hp, by simp only; omega, h4, h5, by simp, by simp, by simp, by simp, h10⟩
    · split
      · exact ⟨h1, fun _ => h2', h3, h4, h5, by simp, by simp, by simp, by simp, h10⟩
      · split
        · exact ⟨h1, fun _ => h2', h3, h4, h5, by simp, by simp, by simp, by simp, h10⟩
        · rename_i hh
          exact ⟨h1, by simp, h3, h4, h5, fun _ => by simp only; omega, by simp, by simp, by simp, h10⟩
  · rename_i hst
    simp only at hst
    subst hst
    have h6' := h6 (.inl rfl)
    simp only
    split
    · by_cases hl : left = 0
      · rw [if_pos hl]
        exact ⟨h1, by simp, h3, h4, h5, by simp, by simp, by simp, by simp, h10⟩
      · rw [if_neg hl]
        exact ⟨h1, by simp, h3, h4, h5, fun _ => h6', fun _ => by simp only; omega, by simp, by simp, h10⟩
    · exact ⟨h1, by simp, h3, h4, h5, fun _ => h6', by simp, by simp, by simp, h10⟩
  · rename_i hst
    simp only at hst
    subst hst
    have h6' := h6 (.inr rfl)
    have h7' := h7 rfl
    simp only
    have hbb : ∀ b ∈ body ++ [c], b < 256 := by
      intro b hb
      rcases List.mem_append.1 hb with hb | hb
      · exact h10 b hb
      · simp only [List.mem_singleton] at hb; subst hb; exact hc
    by_cases hl : left - 1 = 0
    · rw [if_pos hl]
      exact ⟨h1, by simp, by simp only; omega, h4, by simp; omega, by simp, by simp, fun _ => hl, by simp, hbb⟩
    · rw [if_neg hl]
      exact ⟨h1, by simp, by simp only; omega, h4, by simp; omega, fun _ => by simp; omega, fun _ => by simp only; omega, by simp, by simp, hbb⟩
  · rename_i hst
    simp only at hst
    subst hst
    have h8' := h8 (.inl rfl)
    simp only
    split
    · exact ⟨h1, by simp, h3, h4, h5, by simp, by simp, fun _ => h8', by simp, h10⟩
    · exact ⟨h1, by simp, h3, h4, h5, by simp, by simp, fun _ => h8', by simp, h10⟩
  · rename_i hst
    simp only at hst
    subst hst
    have h8' := h8 (.inr rfl)
    simp only
    split
    · exact ⟨by simp, fun _ => by simp only [h8']; simp, h3, h4, h5, by simp, by simp, by simp, by simp, h10⟩
    · exact ⟨h1, by simp, h3, h4, h5, by simp, by simp, fun _ => h8', by simp, h10⟩
  · rename_i hst
    simp only at hst
    subst hst
    simp only
    split <;> exact ⟨h1, by simp, h3, h4, h5, by simp, by simp, by simp, by simp, h10⟩
  · rename_i hst
    simp only at hst
    subst hst
    simp only
    split <;> exact ⟨h1, by simp, h3, h4, h5, by simp, by simp, by simp, by simp, h10⟩
  · exact ⟨h1, h2, h3, h4, h5, h6, h7, h8, h9, h10⟩

/-- the blocks that an object of one block and one slice may write -/
def Foot (rb : Nat) (v : Value) : Nat → Prop := fun b => b = rb ∨ v.ownBlock = some b

/-- a reader of chunks in memory: its block, its body's slice -/
def CR (w : World) (rb : Nat) (v : Value) (s : CS) : Prop :=
  Blk w rb 163 #[.int .i64 s.most, .int .i64 s.digits, .int .i64 s.st, .bool true, .int .i64 s.left, v, .int .i64 s.e] ∧
  w.ownsRow 0 5 1 v s.body.length (byts s.body)

theorem CR.ne {w : World} {rb : Nat} {v : Value} {s : CS} (h : CR w rb v s) : v.ownBlock ≠ some rb := by
  rcases h.2.2 with ⟨e, _⟩ | ⟨g', cap, cur, e, _, hh, _⟩
  · rw [e]; simp [Value.ownBlock]
  · rw [e]
    intro he
    simp [Value.ownBlock] at he
    subst he
    exact Blk.ne (t := 5) hh h.1 (by decide) rfl
theorem CR.lt {w : World} {rb : Nat} {v : Value} {s : CS} (h : CR w rb v s) : ∀ b, Foot rb v b → b < w.heap.size := by
  rintro b (rfl | hb)
  · exact h.1.lt
  · exact (h.2.lt b hb).2
theorem CR.upd {w w' : World} {rb : Nat} {v : Value} {s : CS} {S : Nat → Prop} (h : CR w rb v s) (k : Upd S w w') (hn : ∀ b, Foot rb v b → ¬ S b) : CR w' rb v s :=
  ⟨h.1.upd k (hn rb (.inl rfl)), own_upd' h.2 k fun b hb => hn b (.inr hb)⟩

theorem lawState : Keyed Tryz.prog 161 := int_keyed Tryz.underlying161
theorem stKey (n : Nat) (h : n ≤ 7) : keyOf Tryz.prog 161 (.int .i64 n) = some (.int .i64 n) := keyOf_int_mk Tryz.underlying161 (WalkArith.wf_i64 (by omega))

/-- the bytes that are wanted -/
def want (n : Nat) : Option Nat := match n with | 1 => some 10 | 3 => some 13 | 4 => some 10 | 5 => some 13 | 6 => some 10 | _ => none

/-- an object's block with one cell written -/
theorem CR.write {w w' : World} {rb : Nat} {v : Value} {s s' : CS} (h : CR w rb v s) (hu : Upd (One rb) w w') (hb : Blk w' rb 163 #[.int .i64 s'.most, .int .i64 s'.digits, .int .i64 s'.st, .bool true, .int .i64 s'.left, v, .int .i64 s'.e]) (hbo : s'.body = s.body) : CR w' rb v s' := by
  refine ⟨hb, ?_⟩
  rw [hbo]
  exact own_upd' h.2 hu fun b ho e => by unfold Cx.One at e; subst e; exact h.ne ho

theorem ofInt64 (a : Nat) (ha : a < 9223372036854775808) : (BitVec.ofInt 64 (a : Int)).toNat = a := by
  rw [BitVec.ofInt_natCast, BitVec.toNat_ofNat]; exact Nat.mod_eq_of_lt (by omega)
theorem or_nat (a b : Nat) (ha : a < 9223372036854775808) (hb : b < 9223372036854775808) : bits .or .i64 (a : Int) (b : Int) = ((a ||| b : Nat) : Int) := by
  have hx : a ||| b < 2 ^ 63 := Nat.or_lt_two_pow (by omega) (by omega)
  show IntKind.i64.wrap ((BitVec.ofInt 64 (a : Int) ||| BitVec.ofInt 64 (b : Int)).toNat : Int) = _
  rw [BitVec.toNat_or, ofInt64 a ha, ofInt64 b hb, IntKind.wrap_i64]
  omega
theorem or_add (a b : Nat) (hb : b < 16) : a * 16 ||| b = a * 16 + b := by
  have := Nat.two_pow_add_eq_or_of_lt (i := 4) (b := b) (by omega) a
  rw [Nat.mul_comm] at this
  exact this.symm

set_option maxRecDepth 100000 in
set_option maxHeartbeats 1600000 in
theorem chunk_digit (c : Nat) (rb : Nat) (v : Value) (s : CS) (w : World) (h : c < 256) (hs : CR w rb v s) (hi : CInv s) (h0 : s.st = 0) :
    Calls Tryz.prog 103 #[.pointer (some ⟨rb, 0, none⟩), .int .u8 c] w fun e w' => e = .returned (.int .i64 (cbyte s c).1) ∧ CR w' rb v (cbyte s c).2 ∧ Upd (One rb) w w' := by
  have hc := hs.1.cell
  have hf := hs.1.free
  have c0 := hc 0
  have c1 := hc 1
  have c2 := hc 2
  have c4 := hc 4
  have c5 := hc 5
  have f1 := hf 1
  have f2 := hf 2
  have f4 := hf 4
  simp only [List.getElem?_toArray, List.getElem?_cons_zero, List.getElem?_cons_succ] at c0 c1 c2 c4 c5
  obtain ⟨A, cp, rfl⟩ := own_form hs.2
  obtain ⟨most, digits, st, left, body, e⟩ := s
  simp only at *
  subst h0
  have hv := hexv_bound c
  have HS := Lib.hid hs
  have hl := hi.left
  have hd := hi.digits
  have hm := hi.most
  have hbl := hi.body
  simp only at hl hd hm hbl
  clear hc hf hs hi
  by_cases hx : 0 ≤ hexv c
  · obtain ⟨d, hdd⟩ : ∃ d : Nat, hexv c = d := ⟨(hexv c).toNat, by omega⟩
    have hd16 : d < 16 := by omega
    by_cases h6 : digits < 6
    · have hor : bits .or .i64 ((left : Int) * 16) (d : Int) = ((left * 16 + d : Nat) : Int) := by
        have := or_nat (left * 16) d (by omega) (by omega)
        rw [or_add _ _ hd16] at this
        rw [← this]; congr 1
      have hfin : cbyte ⟨most, digits, 0, left, body, e⟩ c = (0, ⟨most, digits + 1, 0, left * 16 + d, body, e⟩) := by
        unfold cbyte
        simp only
        rw [if_pos ⟨hx, h6⟩, hdd]
        rfl
      have HF := Lib.hid hfin
      have HD := Lib.hid hdd
      clear hfin hdd hx hv
      go_enter Tryz.func103, Tryz.ntmps103
      go_wp2_with (go_at_call 109; refine (value_any c _ h).mono ?_; rw [HD.out]; rintro e w' ⟨rfl, rfl⟩)
      go_ret
      rw [HF.out]
      have hu : Upd (One rb) w ((w.setCell ⟨rb, 4, none⟩ (.int .i64 ((left * 16 + d : Nat) : Int))).setCell ⟨rb, 1, none⟩ (.int .i64 ((digits + 1 : Nat) : Int))) := ((Upd.refl (One rb) _).set rfl _).set rfl _
      exact ⟨rfl, HS.out.write hu ((HS.out.1.set 4 _).set 1 _) rfl, hu⟩
    · have hneg : (0 : Int) ≤ (d : Int) := by omega
      have h13 : ¬ c = 13 := by
        rintro rfl
        have : hexv 13 = -1 := by decide
        omega
      have b13 : ((c : Int) != 13) = true := by simp; omega
      have hfin : cbyte ⟨most, digits, 0, left, body, e⟩ c = (120, ⟨most, digits, 0, left, body, e⟩) := by
        unfold cbyte
        simp only
        rw [if_neg (fun hh => h6 hh.2), if_pos (.inl h13)]
      have HF := Lib.hid hfin
      have HD := Lib.hid hdd
      clear hfin hdd hx hv h13
      go_enter Tryz.func103, Tryz.ntmps103
      go_wp2_with (go_at_call 109; refine (value_any c _ h).mono ?_; rw [HD.out]; rintro e w' ⟨rfl, rfl⟩)
      go_ret
      rw [HF.out]
      exact ⟨rfl, HS.out, Upd.refl _ _⟩
  · have hdd : hexv c = -1 := by omega
    have HD := Lib.hid hdd
    clear hv
    by_cases h13 : c = 13 ∧ digits ≠ 0
    · obtain ⟨rfl, hd0⟩ := h13
      have b0 : ((digits : Int) == 0) = false := by simp; omega
      by_cases hful : left + body.length > most
      · have hfin : cbyte ⟨most, digits, 0, left, body, e⟩ 13 = (4, ⟨most, digits, 0, left, body, e⟩) := by
          unfold cbyte
          simp only
          rw [if_neg (fun hh => hx hh.1), if_neg (by omega), if_pos hful]
        have HF := Lib.hid hfin
        have hg : (most : Int) - (body.length : Int) < (left : Int) := by omega
        clear hfin hdd hx hd0
        go_enter Tryz.func103, Tryz.ntmps103
        go_wp2_with (go_at_call 109; refine (value_any 13 _ h).mono ?_; rw [HD.out]; rintro e w' ⟨rfl, rfl⟩)
        go_quiet (fail)
        go_wp2
        go_ret
        rw [HF.out]
        exact ⟨rfl, HS.out, (Upd.refl _ _).drewN _⟩
      · have hfin : cbyte ⟨most, digits, 0, left, body, e⟩ 13 = (0, ⟨most, digits, 1, left, body, e⟩) := by
          unfold cbyte
          simp only
          rw [if_neg (fun hh => hx hh.1), if_neg (by omega), if_neg hful]
        have HF := Lib.hid hfin
        have hg : ¬ (most : Int) - (body.length : Int) < (left : Int) := by omega
        clear hfin hdd hx hd0
        go_enter Tryz.func103, Tryz.ntmps103
        go_wp2_with (go_at_call 109; refine (value_any 13 _ h).mono ?_; rw [HD.out]; rintro e w' ⟨rfl, rfl⟩)
        go_quiet (fail)
        go_wp2
        go_ret
        rw [HF.out]
        have hu : Upd (One rb) w ((w.setCell ⟨rb, 2, none⟩ (.int .i64 1)).drewN nq) := ((Upd.refl (One rb) _).set rfl _).drewN _
        exact ⟨rfl, HS.out.write hu ((HS.out.1.set 2 _).drewN _) rfl, hu⟩
    · have hfin : cbyte ⟨most, digits, 0, left, body, e⟩ c = (120, ⟨most, digits, 0, left, body, e⟩) := by
        unfold cbyte
        simp only
        rw [if_neg (fun hh => hx hh.1), if_pos (by omega)]
      have HF := Lib.hid hfin
      clear hfin hdd hx
      by_cases hc13 : c = 13
      · have hd0 : digits = 0 := by omega
        subst hc13
        subst hd0
        clear h13
        go_enter Tryz.func103, Tryz.ntmps103
        go_wp2_with (go_at_call 109; refine (value_any 13 _ h).mono ?_; rw [HD.out]; rintro e w' ⟨rfl, rfl⟩)
        go_ret
        rw [HF.out]
        exact ⟨rfl, HS.out, Upd.refl _ _⟩
      · have b13 : ((c : Int) != 13) = true := by simp; omega
        clear h13 hc13
        go_enter Tryz.func103, Tryz.ntmps103
        go_wp2_with (go_at_call 109; refine (value_any c _ h).mono ?_; rw [HD.out]; rintro e w' ⟨rfl, rfl⟩)
        go_ret
        rw [HF.out]
        exact ⟨rfl, HS.out, Upd.refl _ _⟩

/-- the table of them, as the map holds it -/
noncomputable def endsF : Value → Option Value :=
  putF (putF (putF (putF (putF (fun _ => none) (.int .i64 ((1 : Nat) : Int)) (.int .u8 10)) (.int .i64 ((3 : Nat) : Int)) (.int .u8 13)) (.int .i64 ((4 : Nat) : Int)) (.int .u8 10)) (.int .i64 ((5 : Nat) : Int)) (.int .u8 13)) (.int .i64 ((6 : Nat) : Int)) (.int .u8 10)
theorem ends_at (n : Nat) (h : n ≤ 7) : endsF (.int .i64 n) = (want n).map fun b : Nat => Value.int .u8 (b : Int) := by
  rcases (by omega : n = 0 ∨ n = 1 ∨ n = 2 ∨ n = 3 ∨ n = 4 ∨ n = 5 ∨ n = 6 ∨ n = 7) with rfl | rfl | rfl | rfl | rfl | rfl | rfl | rfl <;> simp [endsF, putF, want]

/-- what byte leaves -/
def AfterByte (rb : Nat) (v : Value) (s : CS) (c : Nat) (w : World) (e : Ending) (w' : World) : Prop :=
  e = .returned (.int .i64 (cbyte s c).1) ∧ (∃ v', CR w' rb v' (cbyte s c).2 ∧ (v'.ownBlock = v.ownBlock ∨ ∃ g, v'.ownBlock = some g ∧ w.heap.size ≤ g)) ∧ Upd (Foot rb v) w w'

set_option maxRecDepth 100000 in
set_option maxHeartbeats 1600000 in
theorem chunk_byte (c : Nat) (rb : Nat) (v : Value) (s : CS) (w : World) (h : c < 256) (hs : CR w rb v s) (hi : CInv s) (h7 : s.st ≠ 7) :
    Calls Tryz.prog 94 #[.pointer (some ⟨rb, 0, none⟩), .int .u8 c] w (AfterByte rb v s c w) := by
  have hmm := @run_makeMap Tryz.prog
  have hc := hs.1.cell
  have c2 := hc 2
  simp only [List.getElem?_toArray, List.getElem?_cons_zero, List.getElem?_cons_succ] at c2
  have Hc := Lib.hid hc
  have HS := Lib.hid hs
  have HI := Lib.hid hi
  have hlt := hs.1.lt
  have hst := hi.st
  clear hc hs hi
  go_enter Tryz.func94, Tryz.ntmps94
  go_upto_region 2 with (first
    | (with_reducible refine wpList_insert _ rfl (.tmp 8) (.const (.int .i64 1)) (.const (.int .u8 10)) 172 rfl _ _ lawState Tryz.underlying172 w.heap.size _ rfl (MapAt.made w _ _) (.int .i64 ((1 : Nat) : Int)) (.int .u8 10) _ rfl rfl (stKey 1 (by omega)) ?_; intro w1 hm1 hg1)
    | (with_reducible refine wpList_insert _ rfl (.tmp 8) (.const (.int .i64 3)) (.const (.int .u8 13)) 172 rfl _ _ lawState Tryz.underlying172 w.heap.size _ rfl hm1 (.int .i64 ((3 : Nat) : Int)) (.int .u8 13) _ rfl rfl (stKey 3 (by omega)) ?_; intro w2 hm2 hg2)
    | (with_reducible refine wpList_insert _ rfl (.tmp 8) (.const (.int .i64 4)) (.const (.int .u8 10)) 172 rfl _ _ lawState Tryz.underlying172 w.heap.size _ rfl hm2 (.int .i64 ((4 : Nat) : Int)) (.int .u8 10) _ rfl rfl (stKey 4 (by omega)) ?_; intro w3 hm3 hg3)
    | (with_reducible refine wpList_insert _ rfl (.tmp 8) (.const (.int .i64 5)) (.const (.int .u8 13)) 172 rfl _ _ lawState Tryz.underlying172 w.heap.size _ rfl hm3 (.int .i64 ((5 : Nat) : Int)) (.int .u8 13) _ rfl rfl (stKey 5 (by omega)) ?_; intro w4 hm4 hg4)
    | (with_reducible refine wpList_insert _ rfl (.tmp 8) (.const (.int .i64 6)) (.const (.int .u8 10)) 172 rfl _ _ lawState Tryz.underlying172 w.heap.size _ rfl hm4 (.int .i64 ((6 : Nat) : Int)) (.int .u8 10) _ rfl rfl (stKey 6 (by omega)) ?_; intro w5 hm5 hg5))
  have hu5 : Upd Nix w w5 := by
    have hn : ∀ (a : World) b, Upd Nix w a → some w.heap.size = some b → b < w.heap.size → Nix b := fun _ b _ e hb => by injection e with e; omega
    have h0 := (Upd.refl Nix w).alloc (.map #[] 0)
    have h1 := h0.grown hg1 (fun b => hn _ b h0)
    have h2 := h1.grown hg2 (fun b => hn _ b h1)
    have h3 := h2.grown hg3 (fun b => hn _ b h2)
    have h4 := h3.grown hg4 (fun b => hn _ b h3)
    exact h4.grown hg5 (fun b => hn _ b h4)
  have hm5' : MapAt w5 Tryz.prog 161 w.heap.size endsF := hm5
  have hat := ends_at s.st hst
  have HAT := Lib.hid hat
  have q2 := (hu5.cell (p := ⟨rb, 2, none⟩) hlt id).trans c2
  clear hm5 hm4 hm3 hm2 hm1 hg1 hg2 hg3 hg4 hg5 hat
  go_cut [6, 7] (fun s6 s7 wx => wx = w5 ∧ s6 = .int .u8 ((want s.st).getD 0 : Nat) ∧ s7 = .bool (want s.st).isSome)
  case first =>
    have hv1 : (endsF (.int .i64 s.st)).getD (.int .u8 0) = .int .u8 ((want s.st).getD 0 : Nat) := by rw [HAT.out]; cases want s.st <;> rfl
    have hv2 : (endsF (.int .i64 s.st)).isSome = (want s.st).isSome := by rw [HAT.out]; cases want s.st <;> rfl
    have HV1 := Lib.hid hv1
    have HV2 := Lib.hid hv2
    clear hv1 hv2
    go_wp2_with (at_lookup; refine wpList_look2 _ rfl _ _ 172 rfl 161 5 lawState Tryz.underlying172 _ (zeroU8 _) w.heap.size endsF rfl hm5' (.int .i64 s.st) _ rfl (stKey s.st hst) _ _ HV1.out HV2.out ?_)
    go_meet
    exact ⟨rfl, rfl, rfl⟩
  case rest =>
    obtain ⟨rfl, rfl, rfl⟩ := hcut
    have hs5 : CR wc rb v s := HS.out.upd hu5 fun _ _ hh => hh
    have huf : ∀ w', Upd (One rb) wc w' → Upd (Foot rb v) w w' := fun w' hu => (hu5.mono (S' := Foot rb v) fun _ _ hh => hh.elim).trans hu fun b _ hb => .inl hb
    have HUF := Lib.hid huf
    have hi := HI.out
    obtain ⟨most, digits, st, left, body, e⟩ := s
    simp only at h7 hst c2 q2 ⊢
    have hc := hs5.1.cell
    have hf := hs5.1.free
    have c0 := hc 0
    have c1 := hc 1
    have c2 := hc 2
    have c4 := hc 4
    have c5 := hc 5
    have f1 := hf 1
    have f2 := hf 2
    have f4 := hf 4
    have f5 := hf 5
    simp only [List.getElem?_toArray, List.getElem?_cons_zero, List.getElem?_cons_succ] at c0 c1 c2 c4 c5
    have HS5 := Lib.hid hs5
    clear hc hf hs5 huf q2
    rcases (by omega : st = 0 ∨ st = 1 ∨ st = 2 ∨ st = 3 ∨ st = 4 ∨ st = 5 ∨ st = 6) with hn | hn | hn | hn | hn | hn | hn
    · subst hn
      have hw2 : (want 0).isSome = false := rfl
      rw [hw2]
      clear hw2
      have hdig := chunk_digit c rb v ⟨most, digits, 0, left, body, e⟩ wc h HS5.out hi rfl
      have HD := Lib.hid hdig
      clear hdig
      go_wp2_with (go_at_call 103; refine HD.out.mono ?_; rintro e' w2 ⟨rfl, hr2, hu2⟩)
      go_ret
      exact ⟨rfl, ⟨_, hr2, .inl rfl⟩, HUF.out _ hu2⟩
    · -- state 1
      subst hn
      have hw1 : (want 1).getD 0 = 10 := rfl
      have hw2 : (want 1).isSome = true := rfl
      rw [hw1, hw2]
      clear hw1 hw2
      by_cases hcw : c = 10
      · subst hcw
        by_cases hl0 : left = 0
        · subst hl0
          have hfin : cbyte ⟨most, digits, 1, 0, body, e⟩ 10 = (0, ⟨most, digits, 5, 0, body, e⟩) := rfl
          have HF := Lib.hid hfin
          clear hfin
          go_wp2
          go_ret
          have hu : Upd (One rb) wc _ := ((Upd.refl (One rb) wc).set (i := 2) rfl (.int .i64 2)).set (i := 2) rfl (.int .i64 5)
          exact ⟨by rw [HF.out]; rfl, ⟨_, by rw [HF.out]; exact HS5.out.write hu ((HS5.out.1.set 2 _).set 2 _) rfl, .inl rfl⟩, HUF.out _ hu⟩
        · have hb0 : ((left : Int) == 0) = false := by simp; omega
          have hfin : cbyte ⟨most, digits, 1, left, body, e⟩ 10 = (0, ⟨most, digits, 2, left, body, e⟩) := by unfold cbyte; simp only; rw [if_pos trivial, if_neg hl0]
          have HF := Lib.hid hfin
          clear hfin hl0
          go_wp2
          go_ret
          have hu : Upd (One rb) wc _ := ((Upd.refl (One rb) wc).set (i := 2) rfl (.int .i64 2))
          exact ⟨by rw [HF.out]; rfl, ⟨_, by rw [HF.out]; exact HS5.out.write hu (HS5.out.1.set 2 _) rfl, .inl rfl⟩, HUF.out _ hu⟩
      · have hcb : ((c : Int) != 10) = true := by simp; omega
        have hfin : cbyte ⟨most, digits, 1, left, body, e⟩ c = (120, ⟨most, digits, 1, left, body, e⟩) := by unfold cbyte; simp only; rw [if_neg hcw]
        have HF := Lib.hid hfin
        clear hfin hcw
        go_wp2
        go_ret
        exact ⟨by rw [HF.out]; rfl, ⟨_, by rw [HF.out]; exact HS5.out, .inl rfl⟩, HUF.out _ (Upd.refl _ _)⟩
    · -- state 2
      subst hn
      have hw2 : (want 2).isSome = false := rfl
      rw [hw2]
      clear hw2
      have hl1 := hi.left2 rfl
      have hbm := hi.body
      have hmm' := hi.most
      have hfs := hi.fits (.inr rfl)
      simp only at hl1 hbm hmm' hfs
      have hlt' := hi.left
      simp only at hlt'
      obtain ⟨A, cp, rfl⟩ := own_form HS5.out.2
      obtain ⟨i0, hi0, hz0, hz1, hz2⟩ := info_parts infoU8
      by_cases hl : left = 1
      · subst hl
        have hfin : cbyte ⟨most, digits, 2, 1, body, e⟩ c = (0, ⟨most, digits, 3, 0, body ++ [c], e⟩) := rfl
        have HF := Lib.hid hfin
        clear hfin
        go_wp2_with (at_builtin; refine wpList_app _ rfl (.tmp 60) (.tmp 62) 29 rfl 0 5 i0 _ 1 1 Tryz.underlying29 hi0 hz0 hz1 hz2 rfl (by omega) (.slice A body.length cp) body.length (byts body) rfl (HS5.out.2.alloc _) (wc.heap.size + 1) (some ⟨wc.heap.size, 0, none⟩) 1 1 [.int .u8 c] rfl (Rd.lit1 wc (.int .u8 c) _) (oneInt _ _) (by unfold maxLen; omega) (by omega) (by omega) ?_; intro A2 cp2 w2 hown2 hg2 hat2; have hb2 := (HS5.out.1.alloc _).grown hg2 HS5.out.ne.symm; have d2 := hb2.cell 2; have d4 := hb2.cell 4; have d5 := hb2.cell 5; have g2 := hb2.free 2; have g4 := hb2.free 4; have g5 := hb2.free 5; simp only [List.getElem?_toArray, List.getElem?_cons_zero, List.getElem?_cons_succ] at d2 d4 d5; have HB2 := Lib.hid hb2; clear hb2)
        go_ret
        have hrow : ∀ b, (Value.slice A body.length cp).ownBlock = some b → Foot rb (.slice A body.length cp) b := fun b hb => .inr hb
        have hu2 : Upd (Foot rb (.slice A body.length cp)) w w2 := ((hu5.mono (S' := Foot rb (.slice A body.length cp)) fun _ _ hh => hh.elim).alloc _).grown hg2 (fun b hb _ => hrow b hb)
        have hu3 : Upd (One rb) w2 _ := (((Upd.refl (One rb) w2).set (i := 5) rfl (.slice A2 (body.length + 1) cp2)).set (i := 4) rfl (.int .i64 0)).set (i := 2) rfl (.int .i64 3)
        refine ⟨by rw [HF.out]; rfl, ⟨.slice A2 (body.length + 1) cp2, ?_, ?_⟩, hu2.trans hu3 fun b _ hb => .inl hb⟩
        · rw [HF.out]
          refine ⟨(((HB2.out.set 5 _).set 4 _).set 2 _), ?_⟩
          have hne : (Value.slice A2 (body.length + 1) cp2).ownBlock ≠ some rb := own_ne_blk' hown2 HB2.out (by decide)
          have e1 : byts (body ++ [c]) = byts body ++ [.int .u8 c] := by simp [byts]
          have e2 : (body ++ [c]).length = body.length + 1 := by simp
          simp only
          rw [e1, e2]
          exact own_upd' hown2 hu3 fun b hb e => by unfold Cx.One at e; subst e; exact hne hb
        · rcases hat2 with hh | hh
          · exact .inl hh
          · right
            refine ⟨_, hh, ?_⟩
            have := hu5.size
            simp; omega
      · have hb0 : ((left : Int) - 1 == 0) = false := by simp; omega
        have hfin : cbyte ⟨most, digits, 2, left, body, e⟩ c = (0, ⟨most, digits, 2, left - 1, body ++ [c], e⟩) := by unfold cbyte; simp only; rw [if_neg (by omega)]
        have HF := Lib.hid hfin
        clear hfin hl
        go_wp2_with (at_builtin; refine wpList_app _ rfl (.tmp 60) (.tmp 62) 29 rfl 0 5 i0 _ 1 1 Tryz.underlying29 hi0 hz0 hz1 hz2 rfl (by omega) (.slice A body.length cp) body.length (byts body) rfl (HS5.out.2.alloc _) (wc.heap.size + 1) (some ⟨wc.heap.size, 0, none⟩) 1 1 [.int .u8 c] rfl (Rd.lit1 wc (.int .u8 c) _) (oneInt _ _) (by unfold maxLen; omega) (by omega) (by omega) ?_; intro A2 cp2 w2 hown2 hg2 hat2; have hb2 := (HS5.out.1.alloc _).grown hg2 HS5.out.ne.symm; have d2 := hb2.cell 2; have d4 := hb2.cell 4; have d5 := hb2.cell 5; have g2 := hb2.free 2; have g4 := hb2.free 4; have g5 := hb2.free 5; simp only [List.getElem?_toArray, List.getElem?_cons_zero, List.getElem?_cons_succ] at d2 d4 d5; have HB2 := Lib.hid hb2; clear hb2)
        rw [show ((left : Int) - 1) = ((left - 1 : Nat) : Int) from by omega]
        go_ret
        have hrow : ∀ b, (Value.slice A body.length cp).ownBlock = some b → Foot rb (.slice A body.length cp) b := fun b hb => .inr hb
        have hu2 : Upd (Foot rb (.slice A body.length cp)) w w2 := ((hu5.mono (S' := Foot rb (.slice A body.length cp)) fun _ _ hh => hh.elim).alloc _).grown hg2 (fun b hb _ => hrow b hb)
        have hu3 : Upd (One rb) w2 _ := (((Upd.refl (One rb) w2).set (i := 5) rfl (.slice A2 (body.length + 1) cp2)).set (i := 4) rfl (.int .i64 ((left - 1 : Nat) : Int)))
        refine ⟨by rw [HF.out]; rfl, ⟨.slice A2 (body.length + 1) cp2, ?_, ?_⟩, hu2.trans hu3 fun b _ hb => .inl hb⟩
        · rw [HF.out]
          refine ⟨((HB2.out.set 5 _).set 4 _), ?_⟩
          have hne : (Value.slice A2 (body.length + 1) cp2).ownBlock ≠ some rb := own_ne_blk' hown2 HB2.out (by decide)
          have e1 : byts (body ++ [c]) = byts body ++ [.int .u8 c] := by simp [byts]
          have e2 : (body ++ [c]).length = body.length + 1 := by simp
          simp only
          rw [e1, e2]
          exact own_upd' hown2 hu3 fun b hb e => by unfold Cx.One at e; subst e; exact hne hb
        · rcases hat2 with hh | hh
          · exact .inl hh
          · right
            refine ⟨_, hh, ?_⟩
            have := hu5.size
            simp; omega
    · -- state 3
      subst hn
      have hw1 : (want 3).getD 0 = 13 := rfl
      have hw2 : (want 3).isSome = true := rfl
      rw [hw1, hw2]
      clear hw1 hw2
      by_cases hcw : c = 13
      · subst hcw
        have hfin : cbyte ⟨most, digits, 3, left, body, e⟩ 13 = (0, ⟨most, digits, 4, left, body, e⟩) := rfl
        have HF := Lib.hid hfin
        clear hfin
        go_wp2
        go_ret
        have hu : Upd (One rb) wc _ := (((Upd.refl (One rb) wc).set (i := 2) rfl (.int .i64 4)))
        exact ⟨by rw [HF.out]; rfl, ⟨_, by rw [HF.out]; exact HS5.out.write hu ((HS5.out.1.set 2 _)) rfl, .inl rfl⟩, HUF.out _ hu⟩
      · have hcb : ((c : Int) != 13) = true := by simp; omega
        have hfin : cbyte ⟨most, digits, 3, left, body, e⟩ c = (120, ⟨most, digits, 3, left, body, e⟩) := by unfold cbyte; simp only; rw [if_neg hcw]
        have HF := Lib.hid hfin
        clear hfin hcw
        go_wp2
        go_ret
        exact ⟨by rw [HF.out]; rfl, ⟨_, by rw [HF.out]; exact HS5.out, .inl rfl⟩, HUF.out _ (Upd.refl _ _)⟩
    · -- state 4
      subst hn
      have hw1 : (want 4).getD 0 = 10 := rfl
      have hw2 : (want 4).isSome = true := rfl
      rw [hw1, hw2]
      clear hw1 hw2
      by_cases hcw : c = 10
      · subst hcw
        have hfin : cbyte ⟨most, digits, 4, left, body, e⟩ 10 = (0, ⟨most, 0, 0, left, body, e⟩) := rfl
        have HF := Lib.hid hfin
        clear hfin
        go_wp2
        go_ret
        have hu : Upd (One rb) wc _ := (((Upd.refl (One rb) wc).set (i := 2) rfl (.int .i64 0)).set (i := 1) rfl (.int .i64 0))
        exact ⟨by rw [HF.out]; rfl, ⟨_, by rw [HF.out]; exact HS5.out.write hu ((HS5.out.1.set 2 _).set 1 _) rfl, .inl rfl⟩, HUF.out _ hu⟩
      · have hcb : ((c : Int) != 10) = true := by simp; omega
        have hfin : cbyte ⟨most, digits, 4, left, body, e⟩ c = (120, ⟨most, digits, 4, left, body, e⟩) := by unfold cbyte; simp only; rw [if_neg hcw]
        have HF := Lib.hid hfin
        clear hfin hcw
        go_wp2
        go_ret
        exact ⟨by rw [HF.out]; rfl, ⟨_, by rw [HF.out]; exact HS5.out, .inl rfl⟩, HUF.out _ (Upd.refl _ _)⟩
    · -- state 5
      subst hn
      have hw1 : (want 5).getD 0 = 13 := rfl
      have hw2 : (want 5).isSome = true := rfl
      rw [hw1, hw2]
      clear hw1 hw2
      by_cases hcw : c = 13
      · subst hcw
        have hfin : cbyte ⟨most, digits, 5, left, body, e⟩ 13 = (0, ⟨most, digits, 6, left, body, e⟩) := rfl
        have HF := Lib.hid hfin
        clear hfin
        go_wp2
        go_ret
        have hu : Upd (One rb) wc _ := (((Upd.refl (One rb) wc).set (i := 2) rfl (.int .i64 6)))
        exact ⟨by rw [HF.out]; rfl, ⟨_, by rw [HF.out]; exact HS5.out.write hu ((HS5.out.1.set 2 _)) rfl, .inl rfl⟩, HUF.out _ hu⟩
      · have hcb : ((c : Int) != 13) = true := by simp; omega
        have hfin : cbyte ⟨most, digits, 5, left, body, e⟩ c = (120, ⟨most, digits, 5, left, body, e⟩) := by unfold cbyte; simp only; rw [if_neg hcw]
        have HF := Lib.hid hfin
        clear hfin hcw
        go_wp2
        go_ret
        exact ⟨by rw [HF.out]; rfl, ⟨_, by rw [HF.out]; exact HS5.out, .inl rfl⟩, HUF.out _ (Upd.refl _ _)⟩
    · -- state 6
      subst hn
      have hw1 : (want 6).getD 0 = 10 := rfl
      have hw2 : (want 6).isSome = true := rfl
      rw [hw1, hw2]
      clear hw1 hw2
      by_cases hcw : c = 10
      · subst hcw
        have hfin : cbyte ⟨most, digits, 6, left, body, e⟩ 10 = (0, ⟨most, digits, 7, left, body, e⟩) := rfl
        have HF := Lib.hid hfin
        clear hfin
        go_wp2
        go_ret
        have hu : Upd (One rb) wc _ := (((Upd.refl (One rb) wc).set (i := 2) rfl (.int .i64 7)))
        exact ⟨by rw [HF.out]; rfl, ⟨_, by rw [HF.out]; exact HS5.out.write hu ((HS5.out.1.set 2 _)) rfl, .inl rfl⟩, HUF.out _ hu⟩
      · have hcb : ((c : Int) != 10) = true := by simp; omega
        have hfin : cbyte ⟨most, digits, 6, left, body, e⟩ c = (120, ⟨most, digits, 6, left, body, e⟩) := by unfold cbyte; simp only; rw [if_neg hcw]
        have HF := Lib.hid hfin
        clear hfin hcw
        go_wp2
        go_ret
        exact ⟨by rw [HF.out]; rfl, ⟨_, by rw [HF.out]; exact HS5.out, .inl rfl⟩, HUF.out _ (Upd.refl _ _)⟩
end Go.Proofs.YtageanmjdfodnaaGreatDoor
